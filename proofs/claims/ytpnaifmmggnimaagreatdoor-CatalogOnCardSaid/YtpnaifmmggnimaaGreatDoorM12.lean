/- Texts of this claim, laid one behind the other by a program of mine. -/
import Derived.Test.YtpnaifmmggnimaaGreatDoorM11
import Derived.Test.YtpnaifmmggnimaaGreatDoorM10
import Derived.Test.YtpnaifmmggnimaaGreatDoorM9
import Derived.Test.YtpnaifmmggnimaaGreatDoorM1
import Derived.SizedLaws
namespace Go.Proofs.YtpnaifmmggnimaaGreatDoor
open R
open _root_.Go.Proofs.Tryz renaming prog -> Aix
open _root_.Int renaming toNat_natCast -> Ait
open _root_.List.Sublist renaming refl -> Akd
open _root_.List renaming append_assoc -> Air, drop_eq_nil_of_le -> AiS, getElem_mem -> Ai7, length_append -> Aiq, length_cons -> Ais, length_drop -> AiT, length_nil -> AjE, length_take -> Ajm, map_cons -> Aj5, mem_append -> Ajn, mem_cons -> Aia, mem_map -> Ah9, mem_of_mem_drop -> Aki, mem_of_mem_take -> Ajs, mem_singleton -> Ajo, take_append_drop -> Akg, take_of_length_le -> AiZ, take_succ_eq_append_getElem -> Ajl
open _root_.Nat renaming add_assoc -> AjG, mul_one -> Aiw, sub_zero -> AjT
open _root_.Option renaming bind_some -> AjK, map_some -> AjP
set_option maxRecDepth 100000
open Go.Dn Go.Proofs
open Go.RowKit (Below)
set_option linter.unusedVariables false
theorem Zn{l:List UInt8}{at_ most:Nat}:∃(s:ByteArray) (k:Nat) (e:Int),AeI (BG l (at_:Int) most)=.tuple #[.string s,.int .i64 (k:Int),.int .i64 e]/\k<=l.length/\(e=0->s.size<=most):=by
 cases ho:BG l (at_:Int) most with
 | none=>exact⟨⟨#[]⟩,0,20,rfl,Omg,λ h=>by cases h⟩
 | some x =>
  obtain⟨s,k⟩:=x;have h:=LU ho;exact⟨Bu s,k,0,rfl,h.1.le,λ _=>by rw [AP];exact h.2.1⟩
section
variable {w0 w:World}{H:List It}{b cc pc kc:Nat}{ca pa ka:Option Addr}{C:MF}{a:Option Addr}{c m:Nat}{l:List UInt8}
theorem Aek{aq:Option Addr}{ps:List FG}(h:Rd w aq (Bw ps))(i m c:Nat)(hm:i+m<=c):Rd w (Ch aq i c 2) (Bw ((ps.drop i).take m)):=by
 have:=h.NQ i (i+m) c 2 hm;have e1:(Bw ps).drop (i*2)=Bw (ps.drop i):=by
  have e:Bw ps=Bw (ps.take i)++Bw (ps.drop i):=by rw [<- Fk,Akg]
  by_cases h:i<=ps.length
  ·have hl:(Bw (ps.take i)).length=i*2:=by rw [Es,Ajm];omega
   rw [e,<- hl,List.drop_left]
  ·have h1:ps.drop i=[]:=AiS Omg;rw [h1,AiS (by rw [Es];omega)];rfl
 have e2:∀(qs:List FG),(Bw qs).take (m*2)=Bw (qs.take m):=λ qs=>by
  have e:Bw qs=Bw (qs.take m)++Bw (qs.drop m):=by rw [<- Fk,Akg]
  by_cases h:m<=qs.length
  ·have hl:(Bw (qs.take m)).length=m*2:=by rw [Es,Ajm];omega
   rw [e,<- hl,List.take_left]
  ·rw [AiZ (i:=m) Omg,AiZ (by rw [Es];omega)]
 rwa [e1,show i+m-i=m by omega,e2] at this
theorem Abn(S:ST w0 w H){n:Nat}{ac:Option Addr}{cx nx nq:Nat}{xs qs:List FG}{aq:Option Addr}{cq:Nat}(hn:H[n]?=some (EO ac cx xs))(hs:Rd w aq (Bw qs))(hx:xs.length=nx)(hq:qs.length=nq)(hl:nx+nq<=1000000){f:Value->World->Prop}
  (hf:∀ a' c' w',ST w0 w' (H.set n (EO a' c' (xs++qs)))->f (.slice a' (xs++qs).length c') w') :
  De Aix (Builtin.append_ #[28,28] 28 #[.slice ac nx cx,.slice aq nq cq]) f w:=by
 subst hx;subst hq;exact SK S hn hs hl hf
set_option maxHeartbeats 4000000 in
theorem Xt(S:ST w0 w (D7 b ca cc pa pc ka kc C++H))(hC:DK C)(hm:H[m]?=some (It.rd a (l.map Ag)))(hc:l.length<=c)(hs:l.length<=140737488355328) :
  Calls Aix 43 #[.pointer (some ⟨b,0,none⟩),.slice a l.length c] w (SV (GH w0 H b C)):=by
 apply HN
 delta A Ab AaK Gb Bz Cb Ci Ct D E F H I J Ks Li Ls N O P MH J8 Rs S Am T W X Y;try dsimp only [Ps]
 have iw:=hC.np;have bQ:C.Ay.length<=16:=by
  rcases hC.Ay with h | h
  ·rw [h];simp
  ·exact (AX h).2
 have hK:∀ v w',GH w0 H b C v w'->GH w0 H b C v w':=λ _ _ h=>h;refine S.An λ b3 w1 _ B1 S=>(AJ (c:=c) (S.get (m+5) hm) Omg 1 Ode).mono ?_;rintro _ w2 ⟨_,rfl,rfl,e2⟩;subst e2;obtain⟨n1,k1,e1,hv1,cu,fB,hx1⟩:=DT _ (rfl:takeN l 1=takeN l 1);rw [hv1];refine⟨_,_,_,rfl,Ai (λ _=>dno (K:=GH w0 H b C) hK hC S 220) (λ _=>Aa (λ _=>dno (K:=GH w0 H b C) hK hC S 220) (λ g1=>Aa (λ _=>dno (K:=GH w0 H b C) hK hC S 220) (λ g2=>?_)))⟩;rw [wrap_i64 (n:=(n1:Int)) Omg Omg];let L:Option Addr->Nat->List ByteArray->List It:=λ na nc ns=>It.row 9 1 na ns.length nc (ns.map Value.string) :: It.cells b3 #[.int .i64 0,.int .i64 0] 40 :: (D7 b ca cc pa pc ka kc C++H);have F:∀ {wx:World} {na:Option Addr} {nc:Nat} {ns:List ByteArray},ST w0 wx (L na nc ns)->_:=λ {wx na nc ns} S=>dno (K:=GH w0 H b C) hK hC (S.drop 1);refine⟨λ s wx=>∃(i at_:Nat) (na:Option Addr) (nc:Nat) (ns:List ByteArray),s=[.int .i64 (at_:Int),.slice na ns.length nc,.int .i64 (i:Int)]/\i<=n1/\ns.length=i/\at_<=l.length/\ST w0 wx (L na nc ns),λ s _=>match s with
  | [_,_,.int _ i]=>n1-i.toNat
  | _=>0,⟨0,k1,none,0,[],rfl,Omg,rfl,cu,S.nil 9 1⟩,?_⟩
 clear S;rintro _ na _ nc _ w9 ⟨i,aX,_,_,ns,aA,hi,br,kr,S⟩;cases aA;refine Aa (λ aB=>?_) (λ aJ=>?_)
 ·refine (DU (S.get (m+6) hm) hc Omg (aX:Int) Omg 64).mono ?_;rintro _ bX ⟨_,rfl,rfl,pj⟩;subst pj;obtain⟨s,k,e,hv,hk,hse⟩:=Zn (l:=l) (at_:=aX) (most:=64);rw [hv];refine⟨_,_,_,rfl,Ai (λ _=>F S 220) (λ _=>Ai (λ _=>F S 220) (λ _=>S.An λ xy ah _ _ S=>?_))⟩;have fo:(ns.map Value.string).length=ns.length:=Osi;refine S.app 1 rfl Up rfl Omg Omg (news:=[.string s]) (S.F0 0 rfl) (mm:=1) rfl (by simp;rfl) Omg λ a' c' cd S=>⟨_,_,_,rfl,?_⟩;have e1:ns.length+1=(ns++[s]).length:=Osi;have e2:ns.map Value.string++[.string s]=(ns++[s]).map Value.string:=Osi;rw [e1,e2] at S;rw [Ae Omg,e1];exact⟨⟨i+1,k,a',c',ns++[s],rfl,Omg,by simp [br],hk,S.drop 1⟩,by simp only [Ait];omega⟩
 refine (DU (S.get (m+6) hm) hc Omg (aX:Int) Omg 262144).mono ?_;rintro _ cF ⟨_,rfl,rfl,e17⟩;subst e17;obtain⟨t,k2,e,hv,ay,hse⟩:=Zn (l:=l) (at_:=aX) (most:=262144);rw [hv];refine⟨_,_,_,rfl,Ai (λ _=>F S 220) (λ he=>Ai (λ _=>F S 220) (λ _=>?_))⟩;have ht:=hse he;refine (AcP (S.drop 2) (S.rd 0 rfl) Omg hC).mono ?_;rintro _ gd ⟨_,rfl,j9,z,rfl,hz⟩;have S:=S.grown j9;refine⟨_,rfl,(Mv t Omg).mono ?_⟩;rintro _ fN ⟨_,rfl,iI,hR⟩;have S:=S.grown iI;rcases hR with ⟨cs,ps,a4,c4,bo,rfl,aj,si,aK,hI⟩ | ⟨rfl,_⟩ | ⟨rfl,_⟩;rotate_left
 ·refine⟨_,_,_,_,_,_,_,rfl,_,_,_,S.cell 2 rfl rfl,(F7 (ls:=[]) (Rd.nil _ _) (S.rd 3 rfl) Osi).mono ?_⟩;rintro _ du ⟨_,rfl,ig,rfl⟩;exact⟨_,rfl,Aa (λ _=>F (S.grown ig) 2) (λ _=>Ai (λ _=>F (S.grown ig) 2) (λ h=>by cases h))⟩
 ·refine⟨_,_,_,_,_,_,_,rfl,_,_,_,S.cell 2 rfl rfl,(F7 (ls:=[]) (Rd.nil _ _) (S.rd 3 rfl) Osi).mono ?_⟩;rintro _ du ⟨_,rfl,ig,rfl⟩;exact⟨_,rfl,Aa (λ _=>F (S.grown ig) 2) (λ _=>Ai (λ _=>F (S.grown ig) 2) (λ h=>by cases h))⟩
 have bM:ps.length<=1024:=by have:=aK.len;simpa [rws] using this
 refine⟨_,_,_,_,_,_,_,rfl,_,_,_,S.cell 2 rfl rfl,(F7 aj (S.rd 3 rfl) (by have:=(AX aK.right).2;omega)).mono ?_⟩;rintro _ du ⟨_,rfl,ig,rfl⟩;have S:=S.grown ig;refine⟨_,rfl,Aa (λ _=>F S 2) (λ oT=>Ai (λ h=>absurd rfl h) (λ _=>As (Aa (λ nP=>?_) (λ _=>F S 2))))⟩;obtain⟨q,rfl,hq⟩:=hz.resolve_left oT;have xg:∀ k,k<=ns.length->Bc ((C.parts.drop q).take k)<=262144:=λ k hk=>by
  have h1:=Ld (ps:=(C.parts.drop q).take k) λ p hp=>hC.rows p (Aki (Ajs hp));rw [Ajm] at h1;omega
 refine⟨λ s wx=>wx=du/\∃ k:Nat,s=[.int .i64 (Bc ((C.parts.drop q).take k):Int),.int .i64 (k:Int)]/\k<=ns.length,λ s _=>match s with
  | [_,.int _ k]=>ns.length-k.toNat
  | _=>0,⟨rfl,0,rfl,Omg⟩,?_⟩
 rintro _ _ kW ⟨yF,k,aA,hk⟩;subst yF;cases aA;refine Aa (λ aB=>?_) (λ ng=>?_)
 ·have aO:k<ns.length:=Omg;have ew:IntKind.i64.wrap ((q:Int)+(k:Int))=((q+k:Nat):Int):=by rw [wrap_i64 Omg Omg];omega
  have hqk:q+k<C.parts.length:=Omg;refine⟨_,_,_,S.cell 2 rfl rfl,?_⟩;rw [ew];obtain⟨p,hp,_,d1⟩:=KX (S.rd 4 rfl) hqk;subst hp;refine⟨⟨Omg,Omg⟩,_,by rw [Ait];exact d1,?_⟩;have sV:k<(C.parts.drop q).length:=by rw [AiT];omega
  have es:Bc ((C.parts.drop q).take (k+1))=Bc ((C.parts.drop q).take k)+C.parts[q+k].2:=by
   rw [Ajl sV,Hy,List.getElem_drop]
  have hb:=xg (k+1) Omg;have kg:IntKind.i64.wrap ((Bc ((C.parts.drop q).take k):Int)+(C.parts[q+k].2:Int))=(Bc ((C.parts.drop q).take (k+1)):Int):=by
   rw [wrap_i64 Omg Omg,es];omega
  rw [kg,Ae Omg];exact⟨⟨rfl,k+1,rfl,Omg⟩,by simp only [Ait];omega⟩
 refine Ai (λ _=>F S 2) (λ _=>(Mt t Omg).mono ?_);rintro _ rb ⟨_,rfl,rfl,zU⟩;have S:=S.grown zU;obtain⟨nm,cB⟩:∃ nm,nm=EZ t:=⟨_,rfl⟩;rw [<- cB];refine⟨_,rfl,S.draw λ xi _ S=>?_⟩;have yx:C.parts.length<=pc:=(S.rw 4 rfl).le;refine⟨_,_,_,S.cell 2 rfl rfl,_,_,_,S.cell 2 rfl rfl,⟨Omg,Omg,Omg⟩,?_⟩;have ew:IntKind.i64.wrap ((q:Int)+(ns.length:Int))=((q+ns.length:Nat):Int):=by rw [wrap_i64 Omg Omg];omega
 rw [ew];simp only [Ait,AjT];have pJ:((C.parts.drop 0).take q).length=q:=by rw [List.drop_zero,Ajm];omega
 refine S.mk0 Rq Omg Omg λ bk tA S=>⟨_,_,_,rfl,S.cell 3 rfl rfl,?_⟩;refine Abn S (n:=0) (xs:=[]) (nx:=0) (nq:=q) rfl (Aek (S.rd 5 rfl) 0 q pc Omg) rfl pJ Omg λ a1 c1 j6 S=>⟨_,_,_,rfl,S.An λ b72 re _ _ S=>?_⟩;obtain⟨k3,iQ⟩:∃ k3,k3=[]++(C.parts.drop 0).take q:=⟨_,rfl⟩;have nk:k3.length=q:=by rw [iQ,List.nil_append,pJ]
 rw [<- iQ] at S ⊢;refine QU S (n:=1) (ps:=k3) rfl (p:=(nm,ps.length)) (S.F0 0 rfl) Omg λ a2 c2 kX S=>⟨_,_,_,rfl,_,_,_,S.cell 4 rfl rfl,⟨Omg,Omg,Omg⟩,?_⟩;obtain⟨k4,nt⟩:∃ k4,k4=k3++[((nm,ps.length):FG)]:=⟨_,rfl⟩;have hk4l:k4.length=q+1:=by rw [nt,Aiq,nk];rfl
 rw [<- nt] at S ⊢;have bp:((C.parts.drop (q+ns.length)).take (C.parts.length-(q+ns.length))).length=C.parts.length-(q+ns.length):=by rw [Ajm,AiT];omega
 refine Abn S (n:=1) (xs:=k4) (nx:=k4.length) (nq:=C.parts.length-(q+ns.length)) rfl (Aek (S.rd 6 rfl) (q+ns.length) (C.parts.length-(q+ns.length)) pc Omg) rfl bp Omg λ a3 c3 xj S=>⟨_,_,_,rfl,?_⟩;obtain⟨k5,cw⟩:∃ k5,k5=k4++(C.parts.drop (q+ns.length)).take (C.parts.length-(q+ns.length)):=⟨_,rfl⟩;have wC:k5.length<=256:=by rw [cw,Aiq,bp];omega
 have ql:∀ p∈k5,p∈C.parts\/p=(nm,ps.length):=λ p hp=>by
  rw [cw,nt,iQ] at hp;rcases Ajn.1 hp with h | h
  ·rcases Ajn.1 h with h | h
   ·exact .inl (Aki (Ajs h))
   ·exact .inr (Ajo.1 h)
  ·exact .inl (Aki (Ajs h))
 rw [<- cw] at S ⊢
 try simp only [Av]
 refine S.BD 4 rfl (i:=1) (aC:=#[.slice ca C.Ay.length cc,.slice a3 k5.length c3,.slice ka C.CC.length kc]) Osi rfl λ rh S=>⟨_,_,_,S.cell 4 rfl rfl,S.An λ tu mJ _ _ S=>?_⟩;have S:=S.H7 0 rfl (.refl _ _) (It.rd (some ⟨tu,0,none⟩) (A5 [(nm,t)])) (S.F0 0 rfl) (λ k hk=>.inl hk);have S:ST w0 mJ (It.rd (some ⟨tu,0,none⟩) (A5 [(nm,t)]) :: EO a3 c3 k5 :: It.cells b3 #[.int .i64 0,.int .i64 0] 40 :: It.cells b #[.slice ca C.Ay.length cc,.slice a3 k5.length c3,.slice ka C.CC.length kc] 31 :: CD ca cc C.Ay :: Mo ka kc C.CC :: H) :=
  S.sub (.cons_cons _ (.cons _ (.cons_cons _ (.cons _ (.cons_cons _ (.cons_cons _ (.cons_cons _ (.cons _ (.cons_cons _ (Akd _))))))))))
 have S:=((((S.pull 1 rfl).pull 4 rfl).pull 4 rfl).pull 3 rfl).pull 4 rfl;exact Oq (K:=GH w0 H b C) S 0 (k5.length:Int) λ w' S=>⟨(0,k5.length),[(nm,t)],{ C with parts:=k5 },some ⟨tu,0,none⟩,_,_,_,_,_,_,rfl,⟨wC,hC.nc,λ p hp=>by
  rcases ql p hp with h | rfl
  ·exact hC.rows p h
  ·exact bM,hC.Ay⟩,Osi,λ f hf=>by
  rw [Ajo.1 hf];show t.size<=_;omega,λ p hp=>(ql p hp).imp id λ h=>⟨(nm,t),Ajo.2 rfl,by rw [h]⟩,S⟩
end
section
variable {w0 w:World}{H:List It}{b cc pc kc:Nat}{ca pa ka:Option Addr}{C:MF}
theorem AdA{q:Nat}{u v:Value}{X:It}{x:Value}(h:GH w0 (X :: It.cells q #[u,v] 40 :: H) b C x w) :
  ∃ p:Int,∃ r:Int,∃(f:Option Addr) (fl fc:Nat),x=.tuple #[.agg #[.int .i64 p,.int .i64 r],.slice f fl fc] /\
   DG ⟨q,0,none⟩ (.int .i64 p) (λ w=>DG ⟨q,1,none⟩ (.int .i64 r) (λ w=>∃ p':Int,w.cell? ⟨q,0,none⟩=some (.int .i64 p')/\∃ q':Int,w.cell? ⟨q,1,none⟩=some (.int .i64 q')/\GH w0 H b C (.tuple #[.agg #[.int .i64 p',.int .i64 q'],.slice f fl fc]) w) w) w:=by
 obtain⟨d,fs,C',fa,fO,jH,dF,dG,pL,pM,rfl,h1,h2,h3,h4,S⟩:=h;have S:ST w0 w (It.cells q #[u,v] 40 :: (It.rd fa (A5 fs) :: (D7 b fO jH dF dG pL pM C'++H))) :=
  (S.pull 6 rfl).sub (.cons_cons _ (.cons_cons _ (.cons_cons _ (.cons_cons _ (.cons_cons _ (.cons_cons _ (.cons _ (Akd _))))))))
 exact⟨_,_,_,_,_,rfl,Oq (K:=GH w0 H b C) S _ _ λ w' S=>⟨d,fs,C',fa,fO,jH,dF,dG,pL,pM,rfl,h1,h2,h3,h4,S⟩⟩
theorem Xs(S:ST w0 w (D7 b ca cc pa pc ka kc C++H))(hC:DK C)(s:ByteArray)(hs:s.size<=140737488355328) :
  Calls Aix 14 #[.pointer (some ⟨b,0,none⟩),.string s] w (SV (GH w0 H b C)):=by
 apply HM
 delta A Ab A6 E F G H I Li Ly N O P Rs S Am T X Zb;try dsimp only [Ps]
 have an:=AW s;have hK:∀ v w',GH w0 H b C v w'->GH w0 H b C v w':=λ _ _ h=>h;refine S.An λ b3 w1 _ B1 S=>BT Ca s w1 λ b0 c0 cells e0 w2 bZ B2 eL aj iy cZ=>?_;have hr:Rd w2 (some ⟨b0,0,none⟩) ((bl s).map Ag):=by
  have:=(Rd.Al eL).take s.size;rw [cZ] at this;exact this
 have S:ST w0 w2 (It.rd (some ⟨b0,0,none⟩) ((bl s).map Ag) :: (D7 b ca cc pa pc ka kc C++(It.cells b3 #[.int .i64 0,.int .i64 0] 40 :: H))) :=
  LR (S.perm List.perm_middle.symm) B2 (⟨hr,λ k hk=>by cases hk;exact Nat.le_of_eq bZ.symm⟩:Vh w1 w2 _ _)
 have S:ST w0 w2 (D7 b ca cc pa pc ka kc C++(It.rd (some ⟨b0,0,none⟩) ((bl s).map Ag) :: It.cells b3 #[.int .i64 0,.int .i64 0] 40 :: H)):=S.perm List.perm_middle.symm;obtain⟨l,hl⟩:∃ l,l=bl s:=⟨_,rfl⟩;rw [<- hl] at an S hr;have fe:l.length<=c0:=Omg;have S9:ST w0 w2 (It.cells b3 #[.int .i64 0,.int .i64 0] 40 :: (D7 b ca cc pa pc ka kc C++H)) :=
  (S.pull 5 rfl).sub (.cons_cons _ (.cons_cons _ (.cons_cons _ (.cons_cons _ (.cons_cons _ (.cons _ (Akd _)))))))
 refine⟨_,_,_,rfl,λ st wx=>wx=w2/\∃ t,st=[.bool t]/\(t=true->0<s.size),Aa (λ h=>⟨rfl,_,rfl,λ _=>Omg⟩) (λ h=>⟨rfl,_,rfl,λ h=>by cases h⟩),?_⟩;rintro _ w3 ⟨e3,t,aA,ht⟩;subst e3;cases aA;refine Aq (λ h=>?_) (λ _=>dno (K:=GH w0 H b C) hK hC S9 220);have h0:=ht h;rw [<- an];have hx:l≠[]:=λ e=>by rw [e] at an;simp at an;omega
 obtain⟨u,r,hur⟩:=List.exists_cons_of_ne_nil hx;obtain⟨p,hp,c1⟩:=hr 0 (Ag u) (by rw [hur];rfl);cases hp;refine⟨⟨Omg,Omg⟩,_,by simpa [CS,Ag] using c1,?_⟩;refine Aq (λ _=>?_) (λ _=>Aq (λ _=>?_) (λ _=>Aq (λ _=>?_) (λ _=>dno (K:=GH w0 H b C) hK hC S9 220)))
 ·refine (Wn S hC (S.get 4 rfl) fe Omg).mono ?_;rintro _ w4 ⟨v,rfl,hD⟩;obtain⟨p,q,f,fl,fc,rfl,g⟩:=AdA hD;exact⟨_,_,_,_,_,rfl,g⟩
 ·refine (Wo (m:=0) S hC rfl fe Omg).mono ?_;rintro _ w4 ⟨v,rfl,hD⟩;obtain⟨p,q,f,fl,fc,rfl,g⟩:=AdA hD;exact⟨_,_,_,_,_,rfl,g⟩
 ·refine (Xt (m:=0) S hC rfl fe Omg).mono ?_;rintro _ w4 ⟨v,rfl,hD⟩;obtain⟨p,q,f,fl,fc,rfl,g⟩:=AdA hD;exact⟨_,_,_,_,_,rfl,g⟩
end
theorem Zj{x:Int}{n:Nat}(h0:0<=x)(hn:0<n):∃ i:Nat,Int.tmod x (n:Int)=(i:Int)/\i<n:=by
 obtain⟨y,rfl⟩:=Int.eq_ofNat_of_zero_le h0;refine⟨y % n,?_,Nat.mod_lt _ hn⟩;rw [Int.tmod_eq_emod_of_nonneg Omg];rfl
theorem W4(x:Int)(hx : -9223372036854775808<=x/\x<=9223372036854775807)(n:Nat)(hn:0<n)(w:World):Cw 32 #[.int .i64 x,.int .i64 (n:Int)] w λ v w'=>w'=w/\∃ i:Nat,v=.int .i64 (i:Int)/\i<n:=by
 apply Qe
 delta F I W;try dsimp only [Ps]
 refine Aa (λ h=>⟨Omg,?_⟩) (λ h=>⟨Omg,?_⟩)
 ·have e1:IntKind.i64.wrap (x+1)=x+1:=wrap_i64 Omg Omg;have e2:IntKind.i64.wrap (0-(x+1))=0-(x+1):=wrap_i64 Omg Omg;rw [e1,e2];obtain⟨i,hi,aB⟩:=Zj (x:=0-(x+1)) (n:=n) Omg hn;exact⟨rfl,i,by rw [hi],aB⟩
 ·obtain⟨i,hi,aB⟩:=Zj (x:=x) (n:=n) Omg hn;exact⟨rfl,i,by rw [hi],aB⟩
theorem Ab5(fs:List H5)(i:Nat)(hi:i<fs.length):(A5 fs)[i*2]?=some (.string fs[i].1)/\(A5 fs)[i*2+1]?=some (.string fs[i].2):=by
 induction fs generalizing i with
 | nil=>simp at hi
 | cons f fs ih =>
  have e:A5 (f :: fs)=.string f.1 :: .string f.2 :: A5 fs:=rfl;cases i with
  | zero=>exact⟨rfl,rfl⟩
  | succ i =>
   have h:=ih i (by simpa using hi);rw [e,show (i+1)*2=i*2+1+1 by omega];exact h
abbrev Grp:=Option Addr × Nat × List BH
def UO(g:Grp):Value:=.slice g.1 g.2.2.length g.2.1
def P7(g:Grp):List It:=match g.1 with
 | none=>[]
 | some p=>EV p.block g.2.2
def NS(g:Grp):Prop:=((g.1=none/\g.2.2=[])\/∃ bo,g.1=some ⟨bo,0,none⟩)/\g.2.2.length<=1024/\∀ r∈rws g.2.2,∀ v∈r,BM v
def VA(a:Option Addr)(c:Nat)(gs:List Grp):It:=It.row 35 1 a gs.length c (gs.map UO)
theorem Aho:Me Aix 33=some (35,1,24,.slice none 0 0):=by kernel_rfl
section
variable {w0 w:World}{H:List It}{b cc pc kc:Nat}{ca pa ka:Option Addr}{C:MF}{fa:Option Addr}{fc:Nat}{fs:List H5}
theorem WI(h:Rd w fa (A5 fs)){i:Nat}(hi:i<fs.length):∃ p,fa=some p/\w.cell? (p.add (i*2))=some (.string fs[i].1)/\w.cell? ((p.add (i*2)).add 1)=some (.string fs[i].2):=by
 obtain⟨h0,h1⟩:=Ab5 fs i hi;obtain⟨p,hp,c0⟩:=h (i*2) _ h0;obtain⟨q,hq,c1⟩:=h (i*2+1) _ h1;rw [hp] at hq;cases hq;exact⟨p,hp,c0,by rw [BJ];exact c1⟩
set_option maxHeartbeats 1000000 in
theorem Afm(S:ST w0 w (D7 b ca cc pa pc ka kc C++H))(hC:DK C)(hf:Rd w fa (A5 fs))(ct:fs.length<=1000000)(ao:∀ f∈fs,f.2.size<=140737488355328)(aF:∀ p∈C.parts,∃ f∈fs,f.1=p.1) :
  Cw 16 #[.pointer (some ⟨b,0,none⟩),.slice fa fs.length fc] w λ v w'=>∃(oa:Option Addr) (oc:Nat) (gs:List Grp),v=.tuple #[.slice fa fs.length fc,.slice oa gs.length oc]/\gs.length=C.parts.length/\(∀ g∈gs,NS g)/\ST w w' (VA oa oc gs :: gs.flatMap P7):=by
 apply Qd
 delta AaK D F H I J Ks Ls Lt N O Eg S T W X;try dsimp only [Ps]
 have iw:=hC.np;refine⟨λ s wx=>∃(i:Nat) (gs:List Grp) (oa:Option Addr) (oc:Nat),s=[.slice oa gs.length oc,.int .i64 (i:Int)]/\i<=C.parts.length/\gs.length=i/\(∀ g∈gs,NS g)/\ST w wx (VA oa oc gs :: gs.flatMap P7),λ s _=>match s with
  | [_,.int _ i]=>C.parts.length-i.toNat
  | _=>0,⟨0,[],none,0,rfl,Omg,rfl,Osi,(ST.start w).nil _ _⟩,?_⟩
 rintro oa _ oc _ w1 ⟨i,gs,_,_,aA,hi,pB,jg,P⟩;cases aA;have S1:=S.grown P.Ar;refine⟨_,_,_,S1.cell 0 rfl rfl,Aa (λ aB=>?_) (λ aJ=>⟨oa,oc,gs,rfl,Omg,jg,P⟩)⟩;have aD:i<C.parts.length:=Omg;refine⟨λ s wx=>∃ k:Nat,s=[.slice oa gs.length oc,.int .i64 (k:Int)]/\k<=fs.length/\(∀ j (hj:j<fs.length),j<k->fs[j].1≠C.parts[i].1)/\ST w wx (VA oa oc gs :: gs.flatMap P7),λ s _=>match s with
  | [_,.int _ k]=>fs.length-k.toNat
  | _=>0,⟨0,rfl,Omg,λ j _ hj=>Omg,P⟩,?_⟩
 clear P S1;rintro _ _ _ _ w2 ⟨k,aA,hk,aP,P⟩;cases aA;refine Aa (λ av=>?_) (λ bz=>?_);rotate_left
 ·obtain⟨f,cX,hfe⟩:=aF _ (Ai7 aD);obtain⟨j,hj,rfl⟩:=List.getElem_of_mem cX;exact absurd hfe (aP j hj Omg)
 have aO:k<fs.length:=Omg;refine P.draw λ w3 B3 P=>?_;have S3:=S.grown P.Ar;obtain⟨p,hp,c0,c1⟩:=WI (hf.grown P.Ar) aO;obtain⟨q,hq,d0,_⟩:=KX (S3.rd 2 rfl) aD;subst hp;refine⟨⟨Omg,Omg⟩,_,by rw [Ait];exact c0,_,_,_,S3.cell 0 rfl rfl,⟨Omg,Omg⟩,?_⟩;subst hq;refine⟨_,by rw [Ait];exact d0,?_⟩;rw [AU];refine Aa (λ he=>?_) (λ he=>?_);rotate_left
 ·rw [Ae Omg];refine⟨⟨k+1,rfl,Omg,λ j hj vv=>?_,P⟩,by simp only [Ait];omega⟩;by_cases h:j<k
  ·exact aP j hj h
  ·obtain rfl:j=k:=Omg;exact he
 refine⟨⟨Omg,Omg⟩,_,by rw [Ait];exact c1,(Mv fs[k].2 (ao _ (Ai7 aO))).mono ?_⟩;rintro _ w4 ⟨_,rfl,B4,hR⟩;have fin:∀(g:Grp) {x1:Option Addr} {x2 x3:Nat},NS g->ST w3 w4 (P7 g)->UO g=.slice x1 x2 x3->Du #[.slice x1 x2 x3] 35 (λ ot w5=>De Aix (Builtin.append_ #[33,33] 33 #[.slice oa gs.length oc,.slice (some ⟨ot,0,none⟩) 1 1]) (λ r w6=>∃(t:Option Addr) (tl tc:Nat),r=.slice t tl tc /\
   (∃(i':Nat) (mh:List Grp) (zH:Option Addr) (zJ:Nat),[Value.slice t tl tc,.int .i64 (IntKind.i64.wrap ((i:Int)+1))]=[.slice zH mh.length zJ,.int .i64 (i':Int)]/\i'<=C.parts.length/\mh.length=i'/\(∀ g∈mh,NS g)/\ST w w6 (VA zH zJ mh :: mh.flatMap P7))/\C.parts.length-(IntKind.i64.wrap ((i:Int)+1)).toNat<C.parts.length-((i:Int)).toNat) w5) w4:=λ g x1 x2 x3 hg T hv=>by
  have P:=P.join T;refine P.An λ ot w5 _ _ P=>?_;have P:ST w w5 (It.cells ot #[.slice x1 x2 x3] 35 :: VA oa oc gs :: (P7 g++gs.flatMap P7)):=P.perm (.cons _ List.perm_middle);refine P.app 1 rfl Aho rfl Omg Omg (news:=[.slice x1 x2 x3]) (P.F0 0 rfl) (mm:=1) rfl (by simp;rfl) Omg λ a' c' w6 P=>⟨_,_,_,rfl,?_⟩;rw [Ae Omg];have e1:gs.length+1=(gs++[g]).length:=Osi;have e2:gs.map UO++[.slice x1 x2 x3]=(gs++[g]).map UO:=by simp [hv]
  rw [e1,e2] at P;rw [e1];refine⟨⟨i+1,gs++[g],a',c',rfl,Omg,by simp [pB],λ g' bD=>?_,?_⟩,by simp only [Ait];omega⟩
  ·rcases Ajn.1 bD with h | h
   ·exact jg g' h
   ·rw [Ajo.1 h];exact hg
  ·have P:=P.drop 1;refine P.perm (.cons _ ?_);rw [List.flatMap_append];simpa using List.perm_append_comm (l₁:=P7 g) (l₂:=gs.flatMap P7)
 rcases hR with ⟨cs,ps,a4,c4,bo,rfl,aj,si,aK,hI,hG⟩ | ⟨rfl,_⟩ | ⟨rfl,_⟩
 ·have bM:ps.length<=1024:=by have:=aK.len;simpa [rws] using this
  exact⟨_,_,_,_,_,_,_,rfl,fin (some ⟨bo,0,none⟩,ps.length,ps) ⟨.inr ⟨bo,rfl⟩,bM,aK.ok⟩ hG rfl⟩
 ·exact⟨_,_,_,_,_,_,_,rfl,fin (none,0,[]) ⟨.inl ⟨rfl,rfl⟩,Osi,Osi⟩ ((ST.start w3).grown B4) rfl⟩
 ·exact⟨_,_,_,_,_,_,_,rfl,fin (none,0,[]) ⟨.inl ⟨rfl,rfl⟩,Osi,Osi⟩ ((ST.start w3).grown B4) rfl⟩
end
theorem AeH{α:Type}(l:List α)(n:Nat):l.take (l.take n).length=l.take n:=by
 rw [Ajm];rcases Nat.le_total n l.length with h | h
 ·rw [Nat.min_eq_left h]
 ·rw [Nat.min_eq_right h,List.take_length,AiZ h]
section
variable {w:World}{a a2 a3:Option Addr}{c c2 c3:Nat}{cs:List Bv}{ps:List BH}{ns:List ByteArray}
theorem A9.first(h:A9 w a ps)(n:Nat)(hn:n<=c):A9 w (Ch a 0 c 1) (ps.take n):=by
 refine⟨?_,λ p hp=>h.each p (Ajs hp)⟩;have:=h.top.NQ 0 n c 1 hn;simp only [List.drop_zero,AjT,Aiw] at this;rwa [List.map_take]
end
theorem Acp(ns:List ByteArray)(s:ByteArray):∃ t e,UU ns s=.tuple #[.string t,.int .i64 e]/\t.size<=262144:=by
 unfold UU;split
 ·rename_i h;refine⟨_,_,rfl,?_⟩;rw [AP];unfold RP at h;split at h
  ·cases h
  ·split at h
   ·cases h
   ·omega
 ·exact⟨_,_,rfl,by rw [AP];simp⟩
theorem DK.Ag5{C:MF}(h:DK C):C.Ay.length<=16/\∀ c∈C.Ay,c.1.size<=9223372036854775807:=by
 rcases h.Ay with e | e
 ·rw [e];exact⟨Osi,Osi⟩
 ·exact⟨(AX e).2,λ c hc=>by have:=(CX e hc).2.2.2;omega⟩
section
variable {w0 w:World}{H:List It}{b cc pc kc:Nat}{ca pa ka:Option Addr}{C:MF}{ra:Option Addr}{rc:Nat}{gs:List Grp}
set_option maxHeartbeats 2000000 in
theorem Acn(S:ST w0 w (D7 b ca cc pa pc ka kc C++H))(hC:DK C)(hg:Rd w ra (gs.map UO))(pB:gs.length=C.parts.length)(jg:∀ g∈gs,NS g)(pA:∀ g∈gs,A9 w g.1 g.2.2)
  (x0 x1 x2 x5 x6:Int) (h5 : -9223372036854775808<=x5/\x5<=9223372036854775807) (h6 : -9223372036854775808<=x6/\x6<=9223372036854775807) (a3 a4:Option Addr) (l3 c3 l4 c4:Nat) (x7:Bool) (x8:ByteArray) :
  Cw 33 #[.pointer (some ⟨b,0,none⟩),.slice ra gs.length rc,.agg #[.int .i64 x0,.int .i64 x1,.int .i64 x2,.slice a3 l3 c3,.slice a4 l4 c4,.int .i64 x5,.int .i64 x6,.bool x7,.string x8]] w λ v w'=>∃ s:ByteArray,v=.string s/\s.size<=262144/\Below w.heap.size w w':=by
 apply M1
 delta Ab Ad H3 Ci D F G I J Ks Lb Li Ls Lt N O AbO S T W X Y Zs;try dsimp only [Ps]
 have iw:=hC.np;refine (ST.start w).An λ dv w1 _ B1 P=>?_;have S1:=S.grown P.Ar;refine⟨_,_,_,S1.cell 0 rfl rfl,Aa (λ _=>⟨_,rfl,by show (0:Nat)<=_;omega,P.Ar⟩) (λ h2=>?_)⟩;have h2:2<=C.parts.length:=Omg;refine P.draw λ w2 B2 P=>?_;have S2:=S.grown P.Ar;refine⟨_,P.cell 0 rfl rfl,_,_,_,S2.cell 0 rfl rfl,?_⟩;have ew:IntKind.i64.wrap ((C.parts.length:Int)-1)=((C.parts.length-1:Nat):Int):=by rw [wrap_i64 Omg Omg];omega
 rw [ew];refine (W4 x5 h5 (C.parts.length-1) Omg w2).mono ?_;rintro _ w3 ⟨_,rfl,e3,p,rfl,hp⟩;subst e3;refine⟨_,rfl,P.draw λ w4 B4 P=>?_⟩;have S4:=S.grown P.Ar;refine⟨_,P.cell 0 rfl rfl,_,_,_,S4.cell 0 rfl rfl,(W4 x6 h6 3 Omg w4).mono ?_⟩;rintro _ w5 ⟨_,rfl,e5,n,rfl,hn⟩;subst e5;refine⟨_,rfl,S4.cell 0 rfl rfl,?_⟩;have e1:IntKind.i64.wrap ((C.parts.length:Int)-(p:Int))=((C.parts.length-p:Nat):Int):=by rw [wrap_i64 Omg Omg];omega
 have e2:IntKind.i64.wrap (2+(n:Int))=((2+n:Nat):Int):=by rw [wrap_i64 Omg Omg];omega
 rw [e1,e2];obtain⟨m,hm⟩:∃ m:Nat,m=min (C.parts.length-p) (2+n):=⟨_,rfl⟩;have em:(if ((C.parts.length-p:Nat):Int)<((2+n:Nat):Int) then ((C.parts.length-p:Nat):Int) else ((2+n:Nat):Int))=(m:Int):=by split <;> omega
 rw [em];refine⟨λ s wx=>∃(i:Nat) (ns:List ByteArray) (na:Option Addr) (nc:Nat) (qs:List BH) (qa:Option Addr) (qc:Nat),s=[.slice na ns.length nc,.slice qa qs.length qc,.int .i64 (i:Int)]/\i<=m/\ns.length=i/\qs.length<=i*1024/\(∀ r∈qs,Rd w r.1 (AR r.2.2))/\(∀ r∈rws qs,∀ v∈r,BM v) /\
   ST w wx [Gj qa qc qs,It.row 9 1 na ns.length nc (ns.map Value.string),It.cells dv #[.int .i64 x0,.int .i64 x1,.int .i64 x2,.slice a3 l3 c3,.slice a4 l4 c4,.int .i64 x5,.int .i64 x6,.bool x7,.string x8] 37],λ s _=>match s with
  | [_,_,.int _ i]=>m-i.toNat
  | _=>0,⟨0,[],none,0,[],none,0,rfl,Omg,rfl,Osi,Osi,Osi,(P.nil 9 1).nil 69 1⟩,?_⟩
 clear P S1 S2 S4;rintro na _ nc qa _ qc _ w6 ⟨i,ns,_,_,qs,_,_,aA,hi,br,lI,z6,wu,P⟩;cases aA;refine Aa (λ aB=>?_) (λ aJ=>?_)
 ·have hpi:p+i<C.parts.length:=Omg;have kg:IntKind.i64.wrap ((p:Int)+(i:Int))=((p+i:Nat):Int):=by rw [wrap_i64 Omg Omg];omega
  have S6:=S.grown P.Ar;refine⟨_,_,_,S6.cell 0 rfl rfl,?_⟩;rw [kg];obtain⟨q,hq,d0,_⟩:=KX (S6.rd 2 rfl) hpi;subst hq;refine⟨⟨Omg,Omg⟩,_,by rw [Ait];exact d0,P.An λ rq w7 _ _ P=>?_⟩;refine P.app 2 rfl Up rfl Omg Omg (news:=[.string C.parts[p+i].1]) (P.F0 0 rfl) (mm:=1) rfl (by simp;rfl) Omg λ a' c' w8 P=>⟨_,_,_,rfl,⟨Omg,Omg⟩,?_⟩;have yi:p+i<gs.length:=Omg;obtain⟨g,aJ⟩:∃ g,g=gs[p+i]:=⟨_,rfl⟩;have sP:g∈gs:=aJ ▸ Ai7 yi;obtain⟨t,ht,hc⟩:=(hg.grown P.Ar) (p+i) (UO g) (by rw [aJ];simp [yi]);subst ht;refine⟨_,_,_,by rw [Ait,Aiw];exact hc,?_⟩;have hgr:=(pA g sP).grown P.Ar;have hgk:=(jg g sP).2.1;refine P.app 1 rfl Abq rfl Omg Omg (news:=g.2.2.map Co) hgr.top Osi (by rintro u hu;obtain⟨r,_,rfl⟩:=Ah9.1 hu;rfl) Omg λ rm ry w9 P=>⟨_,_,_,rfl,?_⟩;obtain⟨nm,cB⟩:∃ nm,nm=C.parts[p+i].1:=⟨_,rfl⟩;rw [<- cB] at P;have e1:ns.length+1=(ns++[nm]).length:=Osi;have e2:ns.map Value.string++[.string nm]=(ns++[nm]).map Value.string:=Osi
  have e3:qs.length+g.2.2.length=(qs++g.2.2).length:=Osi;have e4:qs.map Co++g.2.2.map Co=(qs++g.2.2).map Co:=Osi;rw [e1,e2,e3,e4] at P;rw [e1,e3,Ae Omg];refine⟨⟨i+1,ns++[nm],a',c',qs++g.2.2,rm,ry,rfl,Omg,by simp [br],by rw [Aiq];omega,λ r hr=>?_,λ r hr=>?_,P.drop 1⟩,by simp only [Ait];omega⟩
  ·rcases Ajn.1 hr with h | h
   ·exact z6 r h
   ·exact (pA g sP).each r h
  ·have hr:r∈rws qs\/r∈rws g.2.2:=by
    have:r∈(qs++g.2.2).map (·.2.2):=hr;rw [List.map_append] at this;exact Ajn.1 this
   rcases hr with h | h
   ·exact wu r h
   ·exact (jg g sP).2.2 r h
 have r9:A9 w6 qa qs:=⟨P.rd 0 rfl,λ r hr=>(z6 r hr).grown P.Ar⟩;refine⟨λ st wx=>wx=w6/\∃(fE:List BH) (pN:Option Addr) (sr:Nat),st=[.slice pN fE.length sr]/\A9 w6 pN fE/\fE.length<=10000/\(∀ r∈rws fE,∀ v∈r,BM v),⟨_,P.cell 2 rfl rfl,?_⟩,?_⟩
 ·have same:(λ (st:List Value) (wx:World)=>wx=w6/\∃(fE:List BH) (pN:Option Addr) (sr:Nat),st=[.slice pN fE.length sr]/\A9 w6 pN fE/\fE.length<=10000/\(∀ r∈rws fE,∀ v∈r,BM v)) [.slice qa qs.length qc] w6:=⟨rfl,qs,qa,qc,rfl,r9,Omg,wu⟩;refine Aq (λ _=>Aa (λ h1=>?_) (λ _=>same)) (λ _=>same);have hqc:qs.length<=qc:=(P.rw 0 rfl).le;refine⟨⟨Omg,Omg,Omg⟩,rfl,qs.drop 1,Ch qa 1 qc 1,qc-1,by rw [AiT],⟨?_,λ r hr=>r9.each r (Aki hr)⟩,by rw [AiT];omega,λ r hr=>?_⟩
  ·have:=r9.top.NQ 1 qs.length qc 1 hqc;simp only [Aiw] at this;rwa [AiZ (by rw [AiT,List.length_map];omega),<- List.map_drop] at this
  ·obtain⟨r',gV,rfl⟩:=Ah9.1 hr;exact wu _ (Ah9.2 ⟨r',Aki gV,rfl⟩)
 rintro pN _ sr bX ⟨pj,fE,_,_,aA,dC,hl10,xV⟩;subst pj;cases aA;have kG:=S.grown P.Ar;obtain⟨bQ,hcq⟩:=hC.Ag5;refine⟨_,_,_,kG.cell 0 rfl rfl,(Ht (kG.rd 1 rfl) Omg hcq dC Omg xV).mono ?_⟩;rintro _ aZ ⟨_,rfl,hV,cH⟩;have P:=P.grown cH;obtain⟨t,e,rfl,ht⟩:=hV.open;refine⟨_,_,rfl,Ai (λ _=>⟨_,rfl,by show (0:Nat)<=_;omega,P.Ar⟩) (λ _=>?_)⟩;refine (T8 (P.rd 1 rfl) Omg t).mono ?_;rintro _ bL ⟨_,rfl,rfl,j7⟩;obtain⟨u,e',hu,hus⟩:=Acp ns t;rw [hu];exact⟨_,_,rfl,_,rfl,hus,(P.grown j7).Ar⟩
end
theorem Ab0(cs:List Bv):∃ t e,WC cs=.tuple #[.string t,.int .i64 e]/\t.size<=262144:=by
 unfold WC;split
 ·rename_i h;refine⟨_,_,rfl,?_⟩;rw [AP];have:=Fy h;simp only [L3,Ais];omega
 ·exact⟨_,_,rfl,by first | (rw [AP];simp) | (show (0:Nat)<=_;omega)⟩
theorem Ace(x y:Int)(cs:List Bv)(rows:List (List AD)):∃ t e,Kv x y cs rows=.tuple #[.string t,.int .i64 e]/\t.size<=262144:=by
 unfold Kv;split
 ·rename_i h;refine⟨_,_,rfl,?_⟩;rw [AP];unfold Je at h;split at h
  ·cases h
  ·split at h
   ·rename_i h2;exact absurd h h2
   ·split at h
    ·cases h
    ·omega
 ·exact⟨_,_,rfl,by first | (rw [AP];simp) | (show (0:Nat)<=_;omega)⟩
section
variable {w0 w:World}{H:List It}{b cc pc kc:Nat}{ca pa ka:Option Addr}{C:MF}{ra:Option Addr}{rc:Nat}{gs:List Grp}{cs:List Bv}{ps:List BH}
set_option maxHeartbeats 1000000 in
theorem ZR(S:ST w0 w (D7 b ca cc pa pc ka kc C++H))(hC:DK C)(hg:Rd w ra (gs.map UO))(pB:gs.length=C.parts.length)(jg:∀ g∈gs,NS g)(pA:∀ g∈gs,A9 w g.1 g.2.2)
  (x0 x1 x2 x5 x6:Int) (h0 : -9223372036854775808<=x0/\x0<=9223372036854775807) (h5 : -9223372036854775808<=x5/\x5<=9223372036854775807) (h6 : -9223372036854775808<=x6/\x6<=9223372036854775807) (a3 a4:Option Addr) (c3 c4:Nat) (x7:Bool) (x8:ByteArray) (h8:x8.size<=140737488355328)
  (aj:Rd w a3 (BF cs)) (hn:cs.length<=9223372036854775807) (hq:∀ c∈cs,c.1.size<=9223372036854775807) (hr:A9 w a4 ps) (hm:ps.length<=9223372036854775807) (hv:∀ r∈rws ps,∀ v∈r,BM v) (yx:ps.length<=c4) :
  Cw 11 #[.pointer (some ⟨b,0,none⟩),.slice ra gs.length rc,.agg #[.int .i64 x0,.int .i64 x1,.int .i64 x2,.slice a3 cs.length c3,.slice a4 ps.length c4,.int .i64 x5,.int .i64 x6,.bool x7,.string x8]] w λ v w'=>∃ s:ByteArray,v=.string s/\s.size<=140737488355328/\Below w.heap.size w w':=by
 apply L6
 delta A Ab H3 Ci Ct D E F G I Lb Li Ls Lt N P S T Y;try dsimp only [Ps]
 refine (ST.start w).An λ dv w1 _ B1 P=>⟨_,P.cell 0 rfl rfl,_,P.cell 0 rfl rfl,(W4 x0 h0 4 Omg w1).mono ?_⟩;rintro _ w2 ⟨_,rfl,e2,p,rfl,hp⟩;subst e2;refine⟨_,rfl,Ap (λ _=>?_) (λ _=>Ap (λ _=>?_) (λ _=>Ap (λ _=>?_) (λ _=>⟨_,rfl,h8,P.Ar⟩)))⟩
 ·refine⟨_,_,_,P.cell 0 rfl rfl,(Sb (aj.grown P.Ar) hn hq).mono ?_⟩;rintro _ w3 ⟨_,rfl,rfl,B3⟩;obtain⟨t,e,ht,hs⟩:=Ab0 cs;rw [ht];exact⟨_,_,rfl,_,rfl,Omg,(P.grown B3).Ar⟩
 ·refine P.draw λ w4 B4 P=>⟨_,P.cell 0 rfl rfl,_,P.cell 0 rfl rfl,_,_,_,P.cell 0 rfl rfl,_,_,_,P.cell 0 rfl rfl,_,_,_,P.cell 0 rfl rfl,?_⟩;have e1:(if 40<(ps.length:Int) then 40 else (ps.length:Int))=((ps.take 40).length:Int):=by rw [Ajm];split <;> omega
  have l1:(ps.take 40).length<=ps.length:=by rw [Ajm];omega
  rw [e1];simp only [Ait,AjT];have gV:A9 w (Ch a4 0 c4 1) (ps.take 40):=by
   have:=hr.first (c:=c4) (ps.take 40).length Omg;rwa [AeH] at this
  have xU:∀ r∈rws (ps.take 40),∀ v∈r,BM v:=λ r hr=>hv r (by
   obtain⟨p,hp,rfl⟩:=Ah9.1 hr;exact Ah9.2 ⟨p,Ajs hp,rfl⟩)
  refine⟨⟨Omg,Omg,Omg⟩,(Sc x1 x2 (aj.grown P.Ar) hn hq (gV.grown P.Ar) Omg xU).mono ?_⟩;rintro _ w5 ⟨_,rfl,rfl,B5⟩;obtain⟨t,e,ht,hs⟩:=Ace x1 x2 cs (rws (ps.take 40));rw [ht];exact⟨_,_,rfl,_,rfl,Omg,(P.grown B5).Ar⟩
 ·refine⟨_,P.cell 0 rfl rfl,_,P.cell 0 rfl rfl,_,P.cell 0 rfl rfl,_,_,_,P.cell 0 rfl rfl,_,_,_,P.cell 0 rfl rfl,_,P.cell 0 rfl rfl,_,P.cell 0 rfl rfl,_,P.cell 0 rfl rfl,_,P.cell 0 rfl rfl,?_⟩;refine (Acn (S.grown P.Ar) hC (hg.grown P.Ar) pB jg (λ g h=>(pA g h).grown P.Ar) x0 x1 x2 x5 x6 h5 h6 a3 a4 _ _ _ _ x7 x8).mono ?_;rintro _ w6 ⟨_,rfl,s,rfl,hs,B6⟩;exact⟨_,rfl,_,rfl,Omg,(P.grown B6).Ar⟩
end
theorem Afc(p q:H5):((p.1==q.1) && ((p.2==q.2) && true))=decide (p=q):=by
 obtain⟨a,b⟩:=p;obtain⟨c,d⟩:=q;rw [Bool.eq_iff_iff];simp [WA]
section
variable {w0 w:World}{H:List It}{a a2:Option Addr}{c c2:Nat}
theorem Wy{ls ms:List H5}(hl:Rd w a (A5 ls))(hm:Rd w a2 (A5 ms))(hn:ls.length<=9223372036854775807) :
  Cw 27 #[.slice a ls.length c,.slice a2 ms.length c2] w λ v w'=>Below w.heap.size w w'/\v=.bool (decide (ls=ms)):=by
 apply JY
 delta D F G I Lt Qi W X;try dsimp only [Ps]
 refine Ai (λ h=>⟨.refl _ _,?_⟩) (λ hlen=>?_)
 ·congr 1;rw [eq_comm,decide_eq_false_iff_not];rintro rfl;exact h rfl
 have bN:ls.length=ms.length:=Omg;refine⟨λ s w1=>∃ i:Nat,i<=ls.length/\s=[.int .i64 (i:Int)]/\Below w.heap.size w w1/\ls.take i=ms.take i,λ s _=>match s with
   | [.int _ i]=>ls.length-i.toNat
   | _=>0,⟨0,Omg,rfl,.refl _ _,rfl⟩,?_⟩
 rintro _ w1 ⟨i,hi,hs,B1,hT⟩;cases hs;refine Aa (λ aB=>?_) (λ aJ=>⟨B1,?_⟩)
 ·have h1:i<ls.length:=Omg;have h2:i<ms.length:=Omg;refine (SH.start (λ _=>False) w1).EL λ w2 B2 _=>⟨⟨Omg,aB⟩,?_⟩;have C2:=Ac B1 B2;obtain⟨p1,rfl,c0,c1⟩:=WI (hl.grown C2) h1;obtain⟨p2,rfl,d0,d1⟩:=WI (hm.grown C2) h2;refine⟨⟨Omg,Omg⟩,_,by rw [Ait];exact c0,_,by rw [Ait];exact c1,_,by rw [Ait];exact d0,_,by rw [Ait];exact d1,?_⟩;rw [Afc];refine As (Aa (λ he=>?_) (λ he=>⟨C2,?_⟩))
  ·rw [Ae Omg];refine⟨⟨i+1,Omg,rfl,C2,?_⟩,?_⟩
   ·rw [Ajl h1,Ajl h2,hT,he]
   ·simp only [Ait];omega
  ·congr 1;rw [eq_comm,decide_eq_false_iff_not];rintro rfl;exact he rfl
 ·congr 1;rw [eq_comm,decide_eq_true_eq];rw [AiZ Omg,AiZ Omg] at hT;exact hT
theorem Afh{oa:Option Addr}{oc:Nat}{gs:List Grp}(S:ST w0 w (VA oa oc gs :: gs.flatMap P7))(jg:∀ g∈gs,NS g):Rd w oa (gs.map UO)/\∀ g∈gs,A9 w g.1 g.2.2:=by
 refine⟨S.rd 0 rfl,λ g hg=>?_⟩;rcases (jg g hg).1 with ⟨h1,h2⟩ | ⟨bo,h1⟩
 ·rw [h1,h2];exact⟨Rd.nil _ _,Osi⟩
 ·have e:P7 g=EV bo g.2.2:=by unfold P7;rw [h1]
  have dD:(EV bo g.2.2).Sublist (gs.flatMap P7):=by
   obtain⟨l1,l2,rfl⟩:=List.append_of_mem hg;rw [List.flatMap_append,List.flatMap_cons,e];exact (List.sublist_append_left _ _).trans (List.sublist_append_right _ _)
  have S':ST w0 w ([]++EV bo g.2.2):=(S.drop 1).sub dD;rw [h1];exact P6 S'
end
def MR(ps:List FG)(i n:Nat):List FG:=(ps.drop i).take n
def UW(ps:List FG)(i n:Nat)(p:FG):List FG:=ps.take i++[p]++ps.drop (i+n)
def J7(C:Bq)(ns:List ByteArray)(l:List UInt8)(i:Nat)(rows:List (List AD)):Prop :=
 Ov C.parts ns=some i/\Br C.Ay rows/\Ej C.Ay rows l/\rows.length=Bc (MR C.parts i ns.length)
def Ws(C:Bq)(ns:List ByteArray)(t:ByteArray)(d:Nat × Nat)(fs:List H5)(C':Bq):Prop :=
 ((∀ i rows,¬ J7 C ns (bl t) i rows)/\d=(2,0)/\fs=[]/\C'=C) \/
  ∃ i rows,J7 C ns (bl t) i rows/\C'={ C with parts:=UW C.parts i ns.length (EZ t,rows.length) }/\d=(0,C'.parts.length)/\fs=[(EZ t,t)]
theorem Acz(ps:List FG)(i:Nat):(Bw ps).drop (i*2)=Bw (ps.drop i):=by
 have e:Bw ps=Bw (ps.take i)++Bw (ps.drop i):=by rw [<- Fk,Akg]
 by_cases h:i<=ps.length
 ·have hl:(Bw (ps.take i)).length=i*2:=by rw [Es,Ajm];omega
  rw [e,<- hl,List.drop_left]
 ·have h1:ps.drop i=[]:=AiS Omg;rw [h1,AiS (by rw [Es];omega)];rfl
theorem AcA(ps:List FG)(i:Nat):(Bw ps).take (i*2)=Bw (ps.take i):=by
 have e:Bw ps=Bw (ps.take i)++Bw (ps.drop i):=by rw [<- Fk,Akg]
 by_cases h:i<=ps.length
 ·have hl:(Bw (ps.take i)).length=i*2:=by rw [Es,Ajm];omega
  rw [e,<- hl,List.take_left]
 ·rw [AiZ (i:=i) Omg,AiZ (by rw [Es];omega)]
section
variable {w0 w:World}{H:List It}{bc bm n N cc pc:Nat}{ca pa:Option Addr}{C:Bq}
theorem Aao{a:Option Addr}{ps:List FG}(h:Rd w a (Bw ps))(i m c:Nat)(hm:i+m<=c):Rd w (Ch a i c 2) (Bw (MR ps i m)):=by
 have:=h.NQ i (i+m) c 2 hm;rwa [Acz,show i+m-i=m by omega,AcA] at this
set_option maxHeartbeats 4000000 in
theorem Acm(T:Hb w0){q0 q1 q2 nc:Nat}{na:Option Addr}{ns:List ByteArray}{t:ByteArray}
  (S:ST w0 w (It.cells q0 #[.pointer (some ⟨bc,0,none⟩)] 24 :: It.cells q1 #[.slice na ns.length nc] 50 :: It.row 9 1 na ns.length nc (ns.map Value.string) :: It.cells q2 #[.string t] 9 :: (Bh bc ca cc pa pc bm n C++H)))
  (h1:2<=ns.length) (hn:ns.length<=256) (ht:t.size<=262144) (hC:Iv C) (bJ:ca=none↔C.Ay=[]) (hN:n<=N) :
  Calls Aix 75 #[.pointer (some ⟨q0,0,none⟩),.pointer (some ⟨q1,0,none⟩),.pointer (some ⟨q2,0,none⟩)] w (SV (UD w0 H bc bm (N+1) (Ws C ns t))):=by
 apply FV
 delta A Ab A6 AeT Cb Ci Cs Ct D E F H I J Li Lp Ls Lt N P S Am T W Y Zp;try dsimp only [Ps]
 have iw:=hC.np;refine S.An λ b4 w1 _ _ S=>⟨_,S.cell 1 rfl rfl,_,_,_,S.cell 2 rfl rfl,?_⟩;refine (Afd (S.drop 5) (S.rd 3 rfl) Omg Omg Omg).mono ?_;rintro _ w2 ⟨_,rfl,rfl,e2⟩;subst e2;refine⟨_,rfl,_,S.cell 4 rfl rfl,(JP (T.grown S.Ar) t Omg).mono ?_⟩;rintro _ w3 ⟨_,rfl,B3,hO⟩;have S:=S.grown B3;let Y:Nat->List It:=λ _=>[It.cells q0 #[.pointer (some ⟨bc,0,none⟩)] 24,It.cells q1 #[.slice na ns.length nc] 50,It.row 9 1 na ns.length nc (ns.map Value.string),It.cells q2 #[.string t] 9];have S:ST w0 w3 (It.cells b4 #[.int .i64 0,.int .i64 0] 40 :: (Y 0++(Bh bc ca cc pa pc bm n C++H))):=S;have cD:∀ {wx:World},(∀ i rows,¬ J7 C ns (bl t) i rows)->ST w0 wx (It.cells b4 #[.int .i64 0,.int .i64 0] 40 :: (Y 0++(Bh bc ca cc pa pc bm n C++H))) ->
   Calls Aix 34 #[.int .i64 2] wx (λ x w'=>∃ p:Int,∃ q:Int,∃(r:Option Addr) (rl rc:Nat),x=.returned (.tuple #[.agg #[.int .i64 p,.int .i64 q],.slice r rl rc]) /\
   DG ⟨b4,0,none⟩ (.int .i64 p) (λ w=>DG ⟨b4,1,none⟩ (.int .i64 q) (λ w=>∃ p':Int,w.cell? ⟨b4,0,none⟩=some (.int .i64 p')/\∃ q':Int,w.cell? ⟨b4,1,none⟩=some (.int .i64 q')/\UD w0 H bc bm (N+1) (Ws C ns t) (.tuple #[.agg #[.int .i64 p',.int .i64 q'],.slice r rl rc]) w) w) w'):=λ {wx} aP S =>
  D3 S 2 λ w' S=>⟨(2,0),[],C,none,ca,cc,pa,pc,n,.inl ⟨aP,rfl,rfl,rfl⟩,rfl,bJ,Omg,DY (S.drop 4)⟩
 rcases hO with ⟨g,p,cs,aR,n',rfl,hg,hA,aK,hI,huniq⟩ | ⟨rfl,aP⟩ | ⟨rfl,hd,aP⟩;rotate_left
 ·refine⟨_,_,rfl,S.draw λ w4 _ S=>?_⟩;have bP:∀ i rows,¬ J7 C ns (bl t) i rows:=λ i rows h=>by
   obtain⟨_,_,hd⟩:=h.2.2.1.pre h.2.1;exact aP hd
  exact Aa (λ _=>cD bP S) (λ _=>Ai (λ _=>cD bP S) (λ h=>by cases h))
 ·refine⟨_,_,rfl,S.draw λ w4 _ S=>?_⟩;have bP:∀ i rows,¬ J7 C ns (bl t) i rows:=λ i rows h=>aP _ _ h.2.1 h.2.2.1;exact Aa (λ _=>cD bP S) (λ _=>Ai (λ _=>cD bP S) (λ h=>by cases h))
 obtain⟨rows,cO⟩:∃ rows,rows=rowsOf (rws aR) n':=⟨_,rfl⟩;rw [<- cO] at aK hI huniq;have dA:n'=rows.length:=(huniq cs rows aK hI).2.2.1;have iT:∀ i r,J7 C ns (bl t) i r->C.Ay=cs/\r=rows:=λ i r h=>by
  obtain⟨e1,e2,_,_⟩:=huniq _ _ h.2.1 h.2.2.1;exact⟨e1,e2⟩
 have lK:rows.length<=1024:=aK.len;refine⟨_,_,rfl,S.draw λ w4 B4 S=>?_⟩;cases hf:Ov C.parts ns with
 | none =>
  have bP:∀ i rows,¬ J7 C ns (bl t) i rows:=λ i rows h=>by have:=h.1;rw [hf] at this;cases this
  rw [Vw,hf];exact Aa (λ _=>cD bP S) (λ h=>absurd Ode h)
 | some i =>
 have qe:=(Ku (i:=i) (ps:=C.parts) (ns:=ns) Omg).1 (MU hf).1;have cG:=qe.1;rw [Vw,hf];simp only;refine Aa (λ h=>Omg) (λ _=>Ai (λ h=>absurd rfl h) (λ _=>?_));have hg4:w4.cell? g=some (.pointer (some p)):=by
  have:=Ak.AB (F:=λ _=>False) B4;exact this.cell hg Osi
 have hA4:=hA.grown B4;refine⟨_,S.cell 1 rfl rfl,_,_,_,S.cell 5 rfl rfl,(AeW hg4 hA4).mono ?_⟩;rintro _ aZ ⟨_,rfl,a25,u7,rfl,tZ⟩;have S:=S.grown tZ.Ar;have bQ:cs.length<=16:=(AX aK.right).2;refine⟨_,_,_,rfl,S.cell 5 rfl rfl,S.cell 1 rfl rfl,(JQ (tZ.rd 0 rfl) (S.rd 6 rfl) Omg).mono ?_⟩;rintro _ bL ⟨_,rfl,j7,rfl⟩;have S:=S.grown j7;refine⟨_,rfl,As (Aa (λ he=>?_) (λ he=>cD (λ i r h=>he (iT i r h).1.symm) S))⟩;subst he;have yx:C.parts.length<=pc:=(S.rw 7 rfl).le;have ew:IntKind.i64.wrap ((i:Int)+(ns.length:Int))=((i+ns.length:Nat):Int):=by rw [wrap_i64 Omg Omg];omega
 refine⟨_,S.cell 1 rfl rfl,_,_,_,S.cell 5 rfl rfl,_,_,_,S.cell 2 rfl rfl,?_⟩;rw [ew];simp only [Ait];have mP:=Ac B4 (Ac tZ.Ar j7);have vi:bL.cell? g=some (.pointer (some p)):=(Ak.AB (F:=λ _=>False) mP).cell hg Osi;refine⟨⟨Omg,Omg,Omg⟩,(AaP vi (hA.grown mP)).mono ?_⟩;rintro _ cd ⟨_,rfl,rfl,e16⟩;subst e16;have qV:(MR C.parts i ns.length).length=ns.length:=by rw [MR,Ajm,AiT];omega
 have vK:∀ p∈MR C.parts i ns.length,p.2<=1024:=λ p hp=>(hC.parts p (Aki (Ajs hp))).2.2;refine⟨_,rfl,S.cell 2 rfl rfl,S.cell 5 rfl rfl,S.cell 1 rfl rfl,?_⟩;rw [show i+ns.length-i=(MR C.parts i ns.length).length by rw [qV];omega];refine (WW (Aao (S.rd 7 rfl) i ns.length pc Omg) Omg vK).mono ?_;rintro _ cF ⟨_,rfl,rfl,ob⟩;have S:=S.grown ob;refine⟨_,rfl,Ai (λ h=>cD (λ i' r h'=>?_) S) (λ heq=>?_)⟩
 ·obtain⟨g1,_,_,g4⟩:=h';rw [hf] at g1;cases g1;obtain⟨_,rfl⟩:=iT _ _ ⟨hf,‹_›,‹_›,g4⟩;omega
 have hM:J7 C ns (bl t) i rows:=⟨hf,aK,hI,Omg⟩;obtain⟨nm,cB⟩:∃ nm,nm=EZ t:=⟨_,rfl⟩;refine⟨λ st wx=>∃ b,st=[.pointer (some ⟨b,0,none⟩)]/\ST cF wx [It.cells b #[.string nm,.string t] 85],?_,?_⟩
 ·refine (ST.start cF).draw λ gG kE P=>⟨_,(S.grown kE).cell 4 rfl rfl,_,(S.grown kE).cell 4 rfl rfl,?_,?_⟩
  ·refine (Gy (T.grown (S.grown kE).Ar) t Omg).mono ?_;rintro _ gd ⟨_,rfl,rfl,j9⟩;have P:=P.grown j9;have S:=S.grown P.Ar;rw [<- cB];exact⟨_,rfl,S.cell 4 rfl rfl,P.An λ tq fN _ iI P=>⟨(S.grown iI).cell 4 rfl rfl,P.BD 0 rfl (aC:=#[.string nm,.string ⟨#[]⟩]) Osi rfl λ du P=>P.BD 0 rfl (aC:=#[.string nm,.string t]) Osi rfl λ eA P=>⟨tq,rfl,P⟩⟩⟩
  ·refine P.An λ b57 ie _ _ P=>⟨(S.grown P.Ar).cell 4 rfl rfl,(S.grown P.Ar).cell 4 rfl rfl,(Gy (T.grown (S.grown P.Ar).Ar) t Omg).mono ?_⟩;rintro _ lS ⟨_,rfl,rfl,od⟩;have P:=P.grown od;rw [<- cB];exact⟨_,rfl,(S.grown P.Ar).cell 4 rfl rfl,P.BD 0 rfl (aC:=#[.string nm,.string ⟨#[]⟩]) Osi rfl λ oZ P=>P.BD 0 rfl (aC:=#[.string nm,.string t]) Osi rfl λ kV P=>⟨b57,rfl,P⟩⟩
 have zb:=Ac mP ob;rintro _ eU ⟨bf,aA,P⟩;cases aA;have xn:=Ac zb P.Ar;have S:=S.join P;clear P;have q7:∀ {wx:World},Below eU.heap.size eU wx->wx.cell? g=some (.pointer (some p))/\J5 wx p C.Ay aR n':=λ B=>⟨(Ak.AB (F:=λ _=>False) (Ac xn B)).cell hg Osi,hA.grown (Ac xn B)⟩;refine S.draw λ kW xm S=>⟨_,S.cell 2 rfl rfl,_,S.cell 2 rfl rfl,_,_,_,S.cell 6 rfl rfl,⟨Omg,Omg,Omg⟩,_,S.cell 0 rfl rfl,_,S.cell 2 rfl rfl,_,_,_,S.cell 6 rfl rfl,_,_,_,S.cell 3 rfl rfl,?_⟩;rw [ew];simp only [Ait,AjT];refine⟨⟨Omg,Omg,Omg⟩,(AaP (q7 xm).1 (q7 xm).2).mono ?_⟩;rintro _ cR ⟨_,rfl,rfl,e32⟩;subst e32;rw [dA];refine⟨_,rfl,S.cell 3 rfl rfl,S.cell 6 rfl rfl,S.cell 2 rfl rfl,S.cell 0 rfl rfl,S.cell 6 rfl rfl,S.cell 2 rfl rfl,S.cell 2 rfl rfl,S.An λ b74 j0 _ _ S=>⟨S.cell 4 rfl rfl,S.cell 7 rfl rfl,S.cell 3 rfl rfl,S.cell 7 rfl rfl,S.cell 3 rfl rfl,S.cell 3 rfl rfl,S.An λ b75 rb _ _ S=>⟨S.cell 4 rfl rfl,?_⟩⟩⟩;have et:(C.parts.take i).length=i:=by rw [Ajm];omega
 have ed:(C.parts.drop (i+ns.length)).length=C.parts.length-(i+ns.length):=by rw [AiT]
 obtain⟨oX,hps3⟩:∃ oX:List Vg,oX=[(Ch pa 0 pc 2,pc,C.parts.take i),(some ⟨b74,0,none⟩,1,[(nm,rows.length)]),(Ch pa (i+ns.length) pc 2,pc-(i+ns.length),C.parts.drop (i+ns.length))]:=⟨_,rfl⟩;obtain⟨bC,hps'⟩:∃ bC:List FG,bC=UW C.parts i ns.length (nm,rows.length):=⟨_,rfl⟩;have lZ:ET oX=bC:=by rw [hps3,hps'];simp [ET,UW]
 have bM:bC.length<=257:=by
  rw [hps',UW];simp only [Aiq,et,ed,Ais,AjE];omega
 have pI:Rd rb (some ⟨b75,0,none⟩) (oX.map TX):=by
  have h:=S.F0 0 rfl;rw [hps3];simp only [Aj5,List.map_nil,TX,et,ed];exact h
 have dI:∀ p∈oX,Rd rb p.1 (Bw p.2.2):=λ p hp=>by
  rw [hps3] at hp;simp only [Aia,List.not_mem_nil,or_false] at hp;rcases hp with rfl | rfl | rfl
  ·have:=Aao (S.rd 10 rfl) 0 i pc Omg;simpa [MR] using this
  ·exact S.F0 1 rfl
  ·have:=Aao (S.rd 10 rfl) (i+ns.length) (C.parts.length-(i+ns.length)) pc Omg;rwa [MR,AiZ Omg] at this
 have qp:oX.length=3:=by rw [hps3];rfl
 have iq:=ZG (c:=3) oX pI dI Omg (by rw [lZ];omega);rw [qp,lZ] at iq;refine iq.mono ?_;rintro _ xi ⟨_,rfl,oq,ow,rfl,zy⟩;have S:=S.join zy;have dB:∀ {wx:World} {b:Nat} {X1 X2 X3 X4 X5 X6 X7 X8 X9:It},ST w0 wx (It.cells b #[.string nm,.string t] 85 :: EO oq ow bC :: X1 :: X2 :: X3 :: X4 :: X5 :: X6 :: X7 :: X8 :: It.cells bc #[.slice ca C.Ay.length cc,.slice oq bC.length ow,.map (some bm)] 73 :: CD ca cc C.Ay :: X9 :: It.US Aix 2 bm n (Su C.k) :: H) ->
   UD w0 H bc bm (N+1) (Ws C ns t) (.tuple #[.agg #[.int .i64 0,.int .i64 (bC.length:Int)],.slice (some ⟨b,0,none⟩) 1 1]) wx:=λ {wx b X1 X2 X3 X4 X5 X6 X7 X8 X9} S=>by
  have S:=S.H7 0 rfl (.refl _ _) (It.rd (some ⟨b,0,none⟩) (A5 [(nm,t)])) (S.F0 0 rfl) (λ k hk=>.inl hk);have S:ST w0 wx (It.rd (some ⟨b,0,none⟩) (A5 [(nm,t)]) :: EO oq ow bC :: It.cells bc #[.slice ca C.Ay.length cc,.slice oq bC.length ow,.map (some bm)] 73 :: CD ca cc C.Ay :: It.US Aix 2 bm n (Su C.k) :: H) :=
   S.sub (.cons_cons _ (.cons_cons _ (.cons _ (.cons _ (.cons _ (.cons _ (.cons _ (.cons _ (.cons _ (.cons _ (.cons_cons _ (.cons_cons _ (.cons _ (.cons_cons _ (Akd _)))))))))))))))
  have S:=((S.pull 3 rfl).pull 3 rfl).pull 2 rfl;exact⟨(0,bC.length),[(nm,t)],{ C with parts:=bC },some ⟨b,0,none⟩,ca,cc,oq,ow,n,.inr ⟨i,rows,hM,by rw [<- cB,hps'],rfl,by rw [<- cB]⟩,rfl,bJ,Omg,S⟩
 refine⟨_,_,_,rfl,S.cell 5 rfl rfl,S.BD 9 rfl (i:=1) (aC:=#[.slice ca C.Ay.length cc,.slice oq bC.length ow,.map (some bm)]) Osi rfl λ tA S=>S.draw λ j6 _ S=>⟨_,S.cell 5 rfl rfl,_,_,_,S.cell 9 rfl rfl,_,S.cell 3 rfl rfl,_,S.cell 3 rfl rfl,?_,?_⟩⟩
 ·exact S.An λ b85 re _ _ S=>⟨S.cell 10 rfl rfl,S.cell 6 rfl rfl,S.BD 5 rfl (aC:=#[.int .i64 0,.int .i64 0]) Osi rfl λ kX S=>S.BD 5 rfl (aC:=#[.int .i64 0,.int .i64 (bC.length:Int)]) Osi rfl λ xj S=>⟨_,S.cell 5 rfl rfl,_,S.cell 5 rfl rfl,dB S⟩⟩
 ·exact S.BD 4 rfl (aC:=#[.int .i64 0,.int .i64 0]) Osi rfl λ rh S=>S.BD 4 rfl (aC:=#[.int .i64 0,.int .i64 (bC.length:Int)]) Osi rfl λ mJ S=>⟨⟨S.cell 3 rfl rfl,S.cell 3 rfl rfl⟩,S.An λ b88 zO _ _ S=>⟨_,S.cell 5 rfl rfl,_,S.cell 5 rfl rfl,dB S⟩⟩
end
def Yv(l:List UInt8)(at_:Nat):Option ((List ByteArray × ByteArray) × Nat) :=
 (Ei l 2 256 at_).bind λ n=>(BN (JL l) n.1 n.2).bind λ q=>(BG l (q.2:Int) 262144).map λ t=>((q.1,Bu t.1),t.2)
def AgJ(C:Bq)(l:List UInt8)(d:Nat × Nat)(fs:List H5)(C':Bq):Prop :=
 (∃ x,Yv l 1=some (x,l.length)/\Ws C x.1 x.2 d fs C')\/((∀ x,Yv l 1≠some (x,l.length))/\d=(220,0)/\fs=[]/\C'=C)
section
variable {w0 w:World}{H:List It}{b:Nat}{a:Option Addr}{c:Nat}{l:List UInt8}{bc bm n N cc pc:Nat}{ca pa:Option Addr}{C:Bq}
set_option maxHeartbeats 2000000 in
theorem Ad7(T:Hb w0)(S:ST w0 w (Et b a l.length c 1 false :: It.rd a (l.map Ag) :: (Bh bc ca cc pa pc bm n C++H)))(hc:l.length<=c)(hs:l.length<=140737488355328)(hC:Iv C)(bJ:ca=none↔C.Ay=[])(hN:n<=N) :
  Calls Aix 38 #[.pointer (some ⟨bc,0,none⟩),.pointer (some ⟨b,0,none⟩)] w (SV (ZI w0 H bc bm N b a l.length c C (AgJ C l))):=by
 apply GK
 delta A Ci Ct D F I J Ks Ls N O P Qi S Am T W;try dsimp only [Ps]
 refine S.An λ b3 w1 _ _ S=>S.An λ b4 w2 _ _ S=>?_;let L:Nat->Bool->Option Addr->Nat->List ByteArray->List It:=λ at_ bad na nc ns=>It.row 9 1 na ns.length nc (ns.map Value.string) :: It.cells b4 #[.slice na ns.length nc] 50 :: It.cells b3 #[.pointer (some ⟨bc,0,none⟩)] 24 :: Et b a l.length c at_ bad :: It.rd a (l.map Ag) :: (Bh bc ca cc pa pc bm n C++H);have S:ST w0 w2 (L 1 false none 0 []):=S.nil 9 1;refine (C8 S 3 4 rfl rfl hc hs 2 256 Ode).mono ?_;rintro _ w3 ⟨_,rfl,np,aL,b1,rfl,S,G1,xZ⟩;have iw:=WZ G1 xZ;refine⟨_,rfl,λ st wx=>∃(i at_:Nat) (bad:Bool) (na:Option Addr) (nc:Nat) (ns:List ByteArray),st=[.int .i64 (i:Int)]/\i<=np/\ns.length=i/\ST w0 wx (L at_ bad na nc ns)/\J3 b1 bad (BN (JL l) i aL) (ns,at_),λ st _=>match st with
  | [.int _ i]=>np-i.toNat
  | _=>0,⟨0,aL,b1,none,0,[],rfl,Omg,rfl,S,J3.same _ _⟩,?_⟩
 clear S;rintro _ w4 ⟨i,aX,b2,na,nc,ns,aA,hi,br,S,G2⟩;cases aA;refine Aa (λ aB=>?_) (λ aJ=>?_)
 ·refine S.draw λ w5 _ S=>⟨_,_,_,S.cell 1 rfl rfl,(YN S 3 4 rfl rfl hc hs).mono ?_⟩;rintro _ w6 ⟨_,rfl,nm,bH,pX,rfl,S,G3⟩;refine⟨_,rfl,S.cell 1 rfl rfl,S.An λ dv w7 _ _ S=>⟨S.cell 2 rfl rfl,?_⟩⟩;have fo:(ns.map Value.string).length=ns.length:=Osi;refine S.app 1 rfl Up rfl Omg Omg (news:=[.string nm]) (S.F0 0 rfl) (mm:=1) rfl (by simp;rfl) Omg λ a' c' w8 S=>⟨_,_,_,rfl,?_⟩;have e1:ns.length+1=(ns++[nm]).length:=Osi;have e2:ns.map Value.string++[.string nm]=(ns++[nm]).map Value.string:=Osi;rw [e1,e2] at S;rw [e1];refine S.BD 2 rfl (aC:=#[.slice a' (ns++[nm]).length c']) Osi rfl λ w9 S=>?_;rw [Ae Omg];exact⟨⟨i+1,bH,pX,a',c',ns++[nm],rfl,Omg,by simp [br],S.drop 1,G2.bind (g:=λ q=>(JL l q.2).map λ x=>(q.1++[x.1],x.2)) (G3.map (λ x=>(ns++[x.1],x.2)))⟩,by simp only [Ait];omega⟩
 obtain rfl:i=np:=Omg;refine (YV S 3 4 rfl rfl hc hs 262144).mono ?_;clear S;rintro _ bX ⟨_,rfl,t,bH,pX,rfl,S,G3⟩;refine⟨_,rfl,S.An λ lX aZ _ _ S=>S.BD 0 rfl (aC:=#[.string (Bu t)]) Osi rfl λ bL S=>?_⟩;have GC:J3 false pX (Yv l 1) ((ns,Bu t),bH):=G1.bind (g:=λ n=>(BN (JL l) n.1 n.2).bind λ q=>(BG l (q.2:Int) 262144).map λ t=>((q.1,Bu t.1),t.2))
  (G2.bind (g:=λ q=>(BG l (q.2:Int) 262144).map λ t=>((q.1,Bu t.1),t.2)) (G3.map (λ t=>((ns,Bu t.1),t.2))))
 have S:ST w0 bL (Et b a l.length c bH pX :: ([It.cells lX #[.string (Bu t)] 9,It.row 9 1 na ns.length nc (ns.map Value.string),It.cells b4 #[.slice na ns.length nc] 50,It.cells b3 #[.pointer (some ⟨bc,0,none⟩)] 24,It.rd a (l.map Ag)]++(Bh bc ca cc pa pc bm n C++H))):=S.pull 4 rfl;refine⟨bH,pX,75,#[.pointer (some ⟨b3,0,none⟩),.pointer (some ⟨b4,0,none⟩),.pointer (some ⟨lX,0,none⟩)],_,pc,cc,pa,ca,n,rfl,by kernel_rfl,S,bJ,hN,λ h=>.inr ⟨λ x e=>?_,rfl,rfl,rfl⟩,λ hb ha wx S9=>?_⟩
 ·obtain⟨h1,h2⟩:=GC.some e;rcases h with h | h
  ·rw [h1] at h;cases h
  ·exact h (congrArg Prod.snd h2)
 ·subst hb;subst ha;obtain⟨_,cm⟩:=GC.ok;have g2:=G3.ok.1;subst g2;have g1:=G2.ok.1;subst g1;have h2:=(C0 G1.ok.2).2;have ht:=(LU G3.ok.2).2.1;have S9:ST w0 wx (It.cells b3 #[.pointer (some ⟨bc,0,none⟩)] 24 :: It.cells b4 #[.slice na ns.length nc] 50 :: It.row 9 1 na ns.length nc (ns.map Value.string) :: It.cells lX #[.string (Bu t)] 9 :: (Bh bc ca cc pa pc bm n C++H)) :=
   ((((S9.drop 1).pull 1 rfl).pull 2 rfl).pull 3 rfl).sub (.cons_cons _ (.cons_cons _ (.cons_cons _ (.cons_cons _ (.cons _ (Akd _))))))
  refine (Acm (N:=N) T S9 Omg Omg (by rw [AP];omega) hC bJ hN).mono ?_;rintro _ w' ⟨v,rfl,d,fs,C',fa,fy,fz,gE,gF,n2,h3,h4,h5,h6,h7⟩;exact⟨v,rfl,d,fs,C',fa,fy,fz,gE,gF,n2,.inl ⟨_,cm,h3⟩,h4,h5,Omg,h7⟩
end
def Wm(C:Bq)(s:ByteArray)(d:Nat × Nat)(fs:List H5)(C':Bq):Prop :=
 ((s.size=0\/262144<s.size\/((Az s 0).toNat≠1/\(Az s 0).toNat≠2/\(Az s 0).toNat≠3))/\d=(220,0)/\fs=[]/\C'=C) \/
  (0<s.size/\s.size<=262144/\(((Az s 0).toNat=1/\AeU C (bl s) d fs C')\/((Az s 0).toNat=2/\AeV C (bl s) d fs C')\/((Az s 0).toNat=3/\AgJ C (bl s) d fs C')))
section
variable {w0 w:World}{H:List It}{bc bm n N cc pc:Nat}{ca pa:Option Addr}{C:Bq}
theorem UD.imp{Q Q':Nat × Nat->List H5->Bq->Prop}(hQ:∀ d fs C',Q d fs C'->Q' d fs C'){v:Value}{w':World}(h:UD w0 H bc bm N Q v w'):UD w0 H bc bm N Q' v w':=by
 obtain⟨d,fs,C',fa,ca,cc,pa,pc,n,h1,h2⟩:=h;exact⟨d,fs,C',fa,ca,cc,pa,pc,n,hQ _ _ _ h1,h2⟩
theorem ZI.imp{b:Nat}{a:Option Addr}{m c:Nat}{Q Q':Nat × Nat->List H5->Bq->Prop}(hQ:∀ d fs C',Q d fs C'->Q' d fs C'){v:Value}{w':World}(h:ZI w0 H bc bm N b a m c C Q v w'):ZI w0 H bc bm N b a m c C Q' v w':=by
 obtain⟨at',ae,g,ca,Z,pc,cc,pa,fO,m',h1,h2,h3,h4,h5,h6,h7⟩:=h;refine⟨at',ae,g,ca,Z,pc,cc,pa,fO,m',h1,h2,h3,h4,h5,λ h=>hQ _ _ _ (h6 h),λ hb ha wx S=>(h7 hb ha wx S).mono ?_⟩;rintro e w' ⟨v,rfl,h⟩;exact⟨v,rfl,h.imp hQ⟩
theorem XI(T:Hb w0)(S:ST w0 w (Bh bc ca cc pa pc bm n C++H))(hC:Iv C)(bJ:ca=none↔C.Ay=[])(hN:n<=N)(kj:N<1000000)(s:ByteArray) :
  Calls Aix 12 #[.pointer (some ⟨bc,0,none⟩),.string s] w (SV (UD w0 H bc bm (N+1) (Wm C s))):=by
 have an:=AW s;refine MK (Q:=Wm C s) S bJ hN s (λ h=>.inl ⟨h,rfl,rfl,rfl⟩) (λ rf bW h0 hle H' b a c wx hc S=>?_);rcases bW with ⟨h,rfl⟩ | ⟨h,rfl⟩ | ⟨h,rfl⟩
 ·refine (Vq S hc Omg bJ hN).mono ?_;rintro e w' ⟨v,rfl,hr⟩;exact⟨v,rfl,hr.imp λ d fs C' hq=>.inr ⟨h0,hle,.inl ⟨h,hq⟩⟩⟩
 ·refine (VE T S hc Omg hC bJ hN kj).mono ?_;rintro e w' ⟨v,rfl,hr⟩;exact⟨v,rfl,hr.imp λ d fs C' hq=>.inr ⟨h0,hle,.inr (.inl ⟨h,hq⟩)⟩⟩
 ·refine (Ad7 T S hc Omg hC bJ hN).mono ?_;rintro e w' ⟨v,rfl,hr⟩;exact⟨v,rfl,hr.imp λ d fs C' hq=>.inr ⟨h0,hle,.inr (.inr ⟨h,hq⟩)⟩⟩
end
/-! ### what a command keeps -/
theorem ZP{k m:List Fg}(h:∀ i,(mapOf k i).isSome=(mapOf m i).isSome):Iy k=Iy m :=
 ((List.perm_ext_iff_of_nodup (DJ k) (DJ m)).2 λ i=>by rw [EA,EA,<- DO,<- DO,h]).length_eq
theorem Adt{k:List Fg}{c:Fg}:Iy (k++[c])=if (mapOf k c.1).isSome=true then Iy k else Iy k+1:=by
 by_cases h:(mapOf k c.1).isSome=true
 ·rw [if_pos h];refine ZP λ i=>?_;rw [Jk];split
  ·rename_i e;subst e;rw [h];rfl
  ·rfl
 ·rw [if_neg h];have hn:c.1∉Hk k:=λ hm=>h (DO.2 ((EA k c.1).1 hm));have:=((List.perm_ext_iff_of_nodup (DJ (k++[c])) (List.nodup_cons.2 ⟨hn,DJ k⟩)).2 λ i=>by
   rw [EA,Aia,EA,List.map_append,Ajn];simp only [Aj5,List.map_nil,Ajo];exact Or.comm).length_eq
  exact this
structure FN(C:Bq):Prop where
 ok:Iv C
 few:Iy C.k<=64
 empty:C.Ay=[]->C.parts=[]
theorem LO(ps qs:List FG):Bc (ps++qs)=Bc ps+Bc qs:=by simp [Bc]
theorem AcJ{ps:List FG}{i n r:Nat}{nm:ByteArray}(h:r=Bc (MR ps i n)):Bc (UW ps i n (nm,r))=Bc ps:=by
 have e:ps=ps.take i++(MR ps i n++ps.drop (i+n)):=by
  rw [MR,<- List.drop_drop,Akg,Akg]
 have h2:=congrArg Bc e;rw [LO,LO] at h2;rw [UW,LO,LO,h2,h];simp [Bc];omega
theorem Rz.rows{C:Bq}{cs:List Bv}{rows:List (List AD)}{d:Nat × Nat}{fs:List H5}{C':Bq}(h:Rz C cs rows d fs C'):(d.1≠0/\fs=[]/\C'=C)\/(d=(0,Bc C'.parts)/\fs.length=1/\Bc C'.parts=Bc C.parts+rows.length/\C'.k=C.k/\C'.Ay=C.Ay/\cs=C.Ay/\C'.parts.length=C.parts.length+1/\∃ nm,nm.size=64/\C'.parts=C.parts++[(nm,rows.length)]):=by
 rcases h with ⟨_,rfl,rfl,rfl⟩ | ⟨_,_,rfl,rfl,rfl⟩ | ⟨h1,h2,b,hb,rfl,rfl,rfl⟩
 ·exact .inl ⟨Ode,rfl,rfl⟩
 ·exact .inl ⟨Ode,rfl,rfl⟩
 ·refine .inr ⟨rfl,rfl,?_,rfl,rfl,h1,Osi,_,Jl _,rfl⟩;rw [Hy]
theorem MG.inv{C:Bq}{x y:Nat}{cs:List Bv}{rows:List (List AD)}{d:Nat × Nat}{fs:List H5}{C':Bq}(hI:FN C)(hs:Br cs rows)(aQ:rows≠[])(hx:x<=A3)(kA:1<=y)(hy:y<=A3)(h:MG C x y cs rows d fs C'):FN C':=by
 rcases h with ⟨_,_,_,_,_,rfl⟩ | ⟨_,_,_,_,_,rfl⟩ | ⟨_,_,_,_,rfl⟩ | ⟨h1,h2,C1,hA,rfl⟩
 ·exact hI
 ·exact hI
 ·exact hI
 have fZ:∀ D:Bq,D.k=C.k->Iy (D.k++[((x,y,d):Fg)])<=64:=λ D e=>by
  rw [e,Adt];have:=hI.few;split
  ·exact this
  ·rename_i hn;have:=h2 (by simpa using hn);omega
 have hb:=Ld (ps:=C.parts) λ p hp=>(hI.ok.parts p hp).2.2;have iw:=hI.ok.np;have hl:=hs.len;have fh:1<=rows.length:=by
  cases rows with
  | nil=>exact absurd rfl aQ
  | cons r rs=>simp
 rcases hA with ⟨_,rfl,rfl,rfl⟩ | ⟨_,_,rfl,rfl,rfl⟩ | ⟨h3,h4,b,cW,rfl,rfl,rfl⟩
 ·refine⟨⟨hI.ok.np,hI.ok.parts,λ c hc=>?_,hI.ok.Ay⟩,fZ _ rfl,hI.empty⟩;rcases Ajn.1 hc with h | h
  ·exact hI.ok.CC c h
  ·rw [Ajo.1 h];exact⟨hx,⟨kA,hy⟩,Osi,Osi⟩
 ·refine⟨⟨hI.ok.np,hI.ok.parts,λ c hc=>?_,hI.ok.Ay⟩,fZ _ rfl,hI.empty⟩;rcases Ajn.1 hc with h | h
  ·exact hI.ok.CC c h
  ·rw [Ajo.1 h];exact⟨hx,⟨kA,hy⟩,Osi,Osi⟩
 ·have hr:Bc (C.parts++[(EZ (Bu b),rows.length)])<=A3:=by
   rw [Hy];unfold A3;show Bc C.parts+rows.length<=_;omega
  refine⟨⟨?_,λ p hp=>?_,λ c hc=>?_,hI.ok.Ay⟩,fZ _ rfl,λ h=>?_⟩
  ·show (C.parts++[(EZ (Bu b),rows.length)]).length<=256;rw [Aiq];simp only [Ais,AjE];omega
  ·rcases Ajn.1 hp with h | h
   ·exact hI.ok.parts p h
   ·rw [Ajo.1 h];exact⟨Jl _,fh,hl⟩
  ·rcases Ajn.1 hc with h | h
   ·exact hI.ok.CC c h
   ·rw [Ajo.1 h];exact⟨hx,⟨kA,hy⟩,Osi,hr⟩
  ·exact absurd (h3.trans h) (IL hs.right)
theorem AbD.inv{C:Bq}{cs:List Bv}{d:Nat × Nat}{fs:List H5}{C':Bq}(hI:FN C)(hR:Ao cs=true)(h:AbD C cs d fs C'):FN C':=by
 rcases h with ⟨_,_,_,rfl⟩ | ⟨h1,_,_,rfl⟩
 ·exact hI
 ·exact⟨⟨hI.ok.np,hI.ok.parts,hI.ok.CC,.inr hR⟩,hI.few,λ h=>hI.empty h1⟩
theorem Ws.inv{C:Bq}{ns:List ByteArray}{t:ByteArray}{d:Nat × Nat}{fs:List H5}{C':Bq}(hI:FN C)(h1:2<=ns.length)(h:Ws C ns t d fs C'):FN C':=by
 rcases h with ⟨_,_,_,rfl⟩ | ⟨i,rows,⟨g1,g2,g3,g4⟩,rfl,_,_⟩
 ·exact hI
 have cG:=((Ku Omg).1 (MU g1).1).1;have aD:=(MU g1).2;have aQ:C.Ay≠[]:=IL g2.right;have iw:=hI.ok.np;have bQ:(MR C.parts i ns.length).length=ns.length:=by rw [MR,Ajm,AiT];omega
 have dS:1<=rows.length:=by
  rw [g4];cases hc:MR C.parts i ns.length with
  | nil=>rw [hc] at bQ;simp at bQ;omega
  | cons p ps =>
   have:p∈C.parts:=Aki (Ajs (show p∈(C.parts.drop i).take ns.length by rw [show (C.parts.drop i).take ns.length=MR C.parts i ns.length from rfl,hc];simp));have:=(hI.ok.parts p this).2.1;simp only [Bc,Aj5,List.sum_cons];omega
 refine⟨⟨?_,λ p hp=>?_,hI.ok.CC,hI.ok.Ay⟩,hI.few,λ h=>absurd h aQ⟩
 ·show (UW C.parts i ns.length _).length<=256;rw [UW];simp only [Aiq,Ajm,AiT,Ais,AjE];omega
 ·have hp:p∈UW C.parts i ns.length (EZ t,rows.length):=hp;rw [UW,Ajn,Ajn,Ajo] at hp;rcases hp with (h | rfl) | h
  ·exact hI.ok.parts p (Ajs h)
  ·exact⟨Jl _,dS,g2.len⟩
  ·exact hI.ok.parts p (Aki h)
theorem VC{l:List UInt8}{x:Nat × Nat × List Bv × List (List AD)}{k:Nat}(h:WQ l 1=some (x,k)):x.1<=A3/\1<=x.2.1/\x.2.1<=A3/\Br x.2.2.1 x.2.2.2/\x.2.2.2≠[]:=by
 obtain⟨a1,a2,a3,h1,h2,h3,h4,h5⟩:=VD h;have g1:=(C0 h1).2;have g2:=(C0 h2).2;exact⟨g1.2,g2.1,g2.2,(Lr h4).1,h5⟩
theorem Aac{l:List UInt8}{x:List ByteArray × ByteArray}{k:Nat}(h:Yv l 1=some (x,k)):2<=x.1.length:=by
 unfold Yv at h;obtain⟨y1,h1,h⟩:=Option.bind_eq_some_iff.1 h;obtain⟨y2,h2,h⟩:=Option.bind_eq_some_iff.1 h;obtain⟨y3,h3,h⟩:=Option.map_eq_some_iff.1 h;cases h;have:=Qj _ h2;have:=(C0 h1).2.1;simp only;omega
theorem Wm.inv{C:Bq}{s:ByteArray}{d:Nat × Nat}{fs:List H5}{C':Bq}(hI:FN C)(h:Wm C s d fs C'):FN C':=by
 rcases h with ⟨_,_,_,rfl⟩ | ⟨_,_,⟨_,h⟩ | ⟨_,h⟩ | ⟨_,h⟩⟩
 ·exact hI
 ·rcases h with ⟨cs,h1,h2⟩ | ⟨_,_,_,rfl⟩
  ·exact h2.inv hI (CV h1)
  ·exact hI
 ·rcases h with ⟨x,h1,h2⟩ | ⟨_,_,_,rfl⟩
  ·obtain⟨g1,g2,g3,g4,g5⟩:=VC h1;exact h2.inv hI g4 g5 g1 g2 g3
  ·exact hI
 ·rcases h with ⟨x,h1,h2⟩ | ⟨_,_,_,rfl⟩
  ·exact h2.inv hI (Aac h1)
  ·exact hI
/-! ### CatalogTwice -/
/-! ### CatalogRows -/
theorem Wm.rows{C:Bq}{s:ByteArray}{d:Nat × Nat}{fs:List H5}{C':Bq}(h:Wm C s d fs C') :
  fs.length<=1/\((0<s.size/\(Az s 0).toNat=2/\d.1=0/\fs.length=1/\d.2=Bc C'.parts/\Bc C.parts<Bc C'.parts)\/(¬ (0<s.size/\(Az s 0).toNat=2/\d.1=0/\fs.length=1)/\Bc C'.parts=Bc C.parts)):=by
 rcases h with ⟨_,rfl,rfl,rfl⟩ | ⟨h0,hle,⟨hk,h⟩ | ⟨hk,h⟩ | ⟨hk,h⟩⟩
 ·exact⟨Osi,.inr ⟨Osi,rfl⟩⟩
 ·rcases h with ⟨cs,_,⟨_,rfl,rfl,rfl⟩ | ⟨_,rfl,rfl,rfl⟩⟩ | ⟨_,rfl,rfl,rfl⟩ <;> exact⟨Osi,.inr ⟨Osi,rfl⟩⟩
 ·rcases h with ⟨x,h1,h⟩ | ⟨_,rfl,rfl,rfl⟩
  ·obtain⟨_,_,_,_,aQ⟩:=VC h1;have hl:0<x.2.2.2.length:=List.length_pos_iff.2 aQ;rcases h with ⟨t,_,_,_,rfl,rfl⟩ | ⟨t,_,_,_,rfl,rfl⟩ | ⟨_,_,_,rfl,rfl⟩ | ⟨_,_,C1,hA,rfl⟩
   ·exact⟨Osi,.inr ⟨Osi,rfl⟩⟩
   ·exact⟨Osi,.inr ⟨Osi,rfl⟩⟩
   ·exact⟨Osi,.inr ⟨Osi,rfl⟩⟩
   ·rcases hA.rows with ⟨h2,rfl,rfl⟩ | ⟨rfl,h3,h4,_⟩
    ·exact⟨Osi,.inr ⟨Osi,rfl⟩⟩
    ·exact⟨Omg,.inl ⟨h0,hk,rfl,h3,rfl,show Bc C.parts<Bc C1.parts by omega⟩⟩
  ·exact⟨Osi,.inr ⟨Osi,rfl⟩⟩
 ·rcases h with ⟨x,_,⟨_,rfl,rfl,rfl⟩ | ⟨i,rows,hM,rfl,rfl,rfl⟩⟩ | ⟨_,rfl,rfl,rfl⟩
  ·exact⟨Osi,.inr ⟨Osi,rfl⟩⟩
  ·exact⟨Osi,.inr ⟨λ h=>Omg,AcJ hM.2.2.2⟩⟩
  ·exact⟨Osi,.inr ⟨Osi,rfl⟩⟩
def Iu(C D:Bq):Prop:=C.Ay=D.Ay/\C.parts=D.parts/\∀ i,mapOf C.k i=mapOf D.k i
theorem Iu.AhP(C:Bq):Iu C C:=⟨rfl,rfl,λ _=>rfl⟩
theorem Rz.det{C D:Bq}{cs:List Bv}{rows:List (List AD)}{d d2:Nat × Nat}{fs eY:List H5}{C' D':Bq}(hE:Iu C D)(h:Rz C cs rows d fs C')(h2:Rz D cs rows d2 eY D'):d2=d/\eY=fs/\Iu C' D':=by
 obtain⟨e1,e2,e3⟩:=hE;rcases h with ⟨h1,rfl,rfl,rfl⟩ | ⟨h1,h3,rfl,rfl,rfl⟩ | ⟨h1,h3,b,hb,rfl,rfl,rfl⟩
 ·rcases h2 with ⟨k1,rfl,rfl,rfl⟩ | ⟨k1,_⟩ | ⟨k1,_⟩
  ·exact⟨rfl,rfl,e1,e2,e3⟩
  ·exact absurd (k1.trans e1.symm) h1
  ·exact absurd (k1.trans e1.symm) h1
 ·rcases h2 with ⟨k1,_⟩ | ⟨k1,k3,rfl,rfl,rfl⟩ | ⟨k1,k3,_⟩
  ·exact absurd (h1.trans e1) k1
  ·exact⟨rfl,rfl,e1,e2,e3⟩
  ·rw [e2] at h3;omega
 ·rcases h2 with ⟨k1,_⟩ | ⟨k1,k3,_⟩ | ⟨k1,k3,b2,cW,rfl,rfl,rfl⟩
  ·exact absurd (h1.trans e1) k1
  ·rw [e2] at h3;omega
  ·have:=hb.one cW;subst this;refine⟨?_,rfl,e1,?_,e3⟩
   ·simp only [e2]
   ·simp only [e2]
theorem MG.det{C D:Bq}{x y:Nat}{cs:List Bv}{rows:List (List AD)}{d d2:Nat × Nat}{fs eY:List H5}{C' D':Bq}(hE:Iu C D)(h:MG C x y cs rows d fs C')(h2:MG D x y cs rows d2 eY D'):d2=d/\eY=fs/\Iu C' D':=by
 have e3:=hE.2.2;have ec:Iy D.k=Iy C.k:=ZP λ i=>by rw [e3]
 unfold MG at h2;rw [<- e3 x,ec] at h2;rcases h with ⟨t,h1,e,rfl,rfl,rfl⟩ | ⟨t,h1,aB,rfl,rfl,rfl⟩ | ⟨h1,hc,rfl,rfl,rfl⟩ | ⟨g1,g2,C1,hA,rfl⟩
 ·rcases h2 with ⟨t2,k1,_,rfl,rfl,rfl⟩ | ⟨t2,k1,k2,_⟩ | ⟨k1,_⟩ | ⟨k1,_⟩
  ·rw [h1] at k1;cases k1;exact⟨rfl,rfl,hE⟩
  ·rw [h1] at k1;cases k1;omega
  ·rw [h1] at k1;cases k1
  ·have:=k1 t h1;omega
 ·rcases h2 with ⟨t2,k1,k2,_⟩ | ⟨t2,k1,k2,rfl,rfl,rfl⟩ | ⟨k1,_⟩ | ⟨k1,_⟩
  ·rw [h1] at k1;cases k1;omega
  ·exact⟨rfl,rfl,hE⟩
  ·rw [h1] at k1;cases k1
  ·have:=k1 t h1;omega
 ·rcases h2 with ⟨t2,k1,_⟩ | ⟨t2,k1,_⟩ | ⟨k1,_,rfl,rfl,rfl⟩ | ⟨_,k2,_⟩
  ·rw [h1] at k1;cases k1
  ·rw [h1] at k1;cases k1
  ·exact⟨rfl,rfl,hE⟩
  ·exact absurd hc (k2 h1)
 ·rcases h2 with ⟨t2,k1,k2,_⟩ | ⟨t2,k1,k2,_⟩ | ⟨k1,k2,_⟩ | ⟨k1,_,D1,hB,rfl⟩
  ·have:=g1 t2 k1;omega
  ·have:=g1 t2 k1;omega
  ·exact absurd k2 (g2 k1)
  ·obtain⟨rfl,rfl,f1,f2,f3⟩:=hA.det hE hB;refine⟨rfl,rfl,f1,f2,λ i=>?_⟩;simp only;rw [Jk,Jk,f3]
theorem Ws.det{w:World}(T:Hb w){C D:Bq}{ns:List ByteArray}{t:ByteArray}{d d2:Nat × Nat}{fs eY:List H5}{C' D':Bq}(hE:Iu C D)(h:Ws C ns t d fs C')(h2:Ws D ns t d2 eY D'):d2=d/\eY=fs/\Iu C' D':=by
 obtain⟨e1,e2,e3⟩:=hE;have hM:∀ i rows,J7 C ns (bl t) i rows↔J7 D ns (bl t) i rows:=λ i rows=>by unfold J7;rw [e1,e2]
 rcases h with ⟨h1,rfl,rfl,rfl⟩ | ⟨i,rows,h1,rfl,rfl,rfl⟩
 ·rcases h2 with ⟨_,rfl,rfl,rfl⟩ | ⟨i,rows,k1,_⟩
  ·exact⟨rfl,rfl,e1,e2,e3⟩
  ·exact absurd ((hM i rows).2 k1) (h1 i rows)
 ·rcases h2 with ⟨k1,_⟩ | ⟨i2,rows2,k1,rfl,rfl,rfl⟩
  ·exact absurd ((hM i rows).1 h1) (k1 i rows)
  ·have k1:=(hM i2 rows2).2 k1;have ei:=h1.1.symm.trans k1.1;cases ei;obtain⟨_,rfl⟩:=Ej.inj T h1.2.1 k1.2.1 h1.2.2.1 k1.2.2.1;refine⟨?_,rfl,e1,?_,e3⟩
   ·simp only [e2]
   ·simp only [e2]
theorem Wm.det{w:World}(T:Hb w){C D:Bq}{s:ByteArray}{d d2:Nat × Nat}{fs eY:List H5}{C' D':Bq}(hE:Iu C D)(h:Wm C s d fs C')(h2:Wm D s d2 eY D'):d2=d/\eY=fs/\Iu C' D':=by
 rcases h with ⟨hb,rfl,rfl,rfl⟩ | ⟨h0,hle,h⟩
 ·rcases h2 with ⟨_,rfl,rfl,rfl⟩ | ⟨k0,kle,h2⟩
  ·exact⟨rfl,rfl,hE⟩
  ·rcases h2 with ⟨h2,_⟩ | ⟨h2,_⟩ | ⟨h2,_⟩ <;> omega
 rcases h2 with ⟨hb,_⟩ | ⟨_,_,h2⟩
 ·rcases h with ⟨h,_⟩ | ⟨h,_⟩ | ⟨h,_⟩ <;> omega
 rcases h with ⟨hk,h⟩ | ⟨hk,h⟩ | ⟨hk,h⟩
 ·rcases h2 with ⟨_,h2⟩ | ⟨h2,_⟩ | ⟨h2,_⟩;rotate_left
  ·omega
  ·omega
  rcases h with ⟨cs,h1,h3⟩ | ⟨h1,rfl,rfl,rfl⟩
  ·rcases h2 with ⟨cs2,k1,k3⟩ | ⟨k1,_⟩
   ·rw [h1] at k1;cases k1;obtain⟨e1,e2,e3⟩:=hE;rcases h3 with ⟨g1,rfl,rfl,rfl⟩ | ⟨g1,rfl,rfl,rfl⟩
    ·rcases k3 with ⟨_,rfl,rfl,rfl⟩ | ⟨g2,_⟩
     ·exact⟨rfl,rfl,e1,e2,e3⟩
     ·exact absurd (e1.trans g2) g1
    ·rcases k3 with ⟨g2,_⟩ | ⟨_,rfl,rfl,rfl⟩
     ·exact absurd (e1.symm.trans g1) g2
     ·exact⟨rfl,rfl,rfl,e2,e3⟩
   ·exact absurd h1 (k1 cs)
  ·rcases h2 with ⟨cs2,k1,k3⟩ | ⟨k1,rfl,rfl,rfl⟩
   ·exact absurd k1 (h1 cs2)
   ·exact⟨rfl,rfl,hE⟩
 ·rcases h2 with ⟨h2,_⟩ | ⟨_,h2⟩ | ⟨h2,_⟩
  ·omega
  ·rcases h with ⟨x,h1,h3⟩ | ⟨h1,rfl,rfl,rfl⟩
   ·rcases h2 with ⟨x2,k1,k3⟩ | ⟨k1,_⟩
    ·rw [h1] at k1;cases k1;exact h3.det hE k3
    ·exact absurd h1 (k1 x)
   ·rcases h2 with ⟨x2,k1,k3⟩ | ⟨k1,rfl,rfl,rfl⟩
    ·exact absurd k1 (h1 x2)
    ·exact⟨rfl,rfl,hE⟩
  ·omega
 ·rcases h2 with ⟨h2,_⟩ | ⟨h2,_⟩ | ⟨_,h2⟩
  ·omega
  ·omega
  ·rcases h with ⟨x,h1,h3⟩ | ⟨h1,rfl,rfl,rfl⟩
   ·rcases h2 with ⟨x2,k1,k3⟩ | ⟨k1,_⟩
    ·rw [h1] at k1;cases k1;exact h3.det T hE k3
    ·exact absurd h1 (k1 x)
   ·rcases h2 with ⟨x2,k1,k3⟩ | ⟨k1,rfl,rfl,rfl⟩
    ·exact absurd k1 (h1 x2)
    ·exact⟨rfl,rfl,hE⟩
/-! ### a snapshot read anew -/
theorem EB{l r:List UInt8}{lo hi a n:Nat}(h1:lo<=n)(h2:n<=hi)(hb:n<18446744073709551616)(h:l.drop a=Af n++r):Ei l lo hi a=some (n,a+(Af n).length):=by
 unfold Ei;rw [Bo hb h,AjK,if_pos ⟨h1,h2⟩]
theorem Aaj{l r:List UInt8}{a:Nat}{p:FG}(hp:SS p)(h:l.drop a=RH p++r):KV l a=some (p,a+(RH p).length):=by
 obtain⟨h1,h2,h3⟩:=hp;unfold RH at h;rw [Air] at h;unfold KV JL;rw [NJ (s:=p.1) Omg Ode h,AjK,if_pos (by rw [AW];exact h1),AjK];simp only;rw [EB h2 h3 Omg (Dw h),AjP,DP];simp only [RH,Aiq,AjG]
theorem AbW{l r:List UInt8}{a:Nat}{c:Fg}(hc:GF c)(h:l.drop a=Km c++r):P0 l a=some (c,a+(Km c).length):=by
 obtain⟨h1,⟨h2,h3⟩,h4,h5⟩:=hc;have g1:=h1;have g3:=h3;have g5:=h5;unfold A3 at g1 g3 g5;simp only [Km,Air] at h;have d1:=Dw h;have d2:=Dw d1;have d3:=Dw d2;unfold P0;rw [EB Omg h1 Omg h,AjK];simp only;rw [EB h2 h3 Omg d1,AjK];simp only;rw [EB Omg h4 Omg d2,AjK];simp only;rw [EB Omg h5 Omg d3,AjP];simp only [Km,Aiq,AjG]
theorem ZQ{l r:List UInt8}{cs:List Bv}(hR:cs=[]\/Ao cs=true){a:Nat}(h:l.drop a=IE cs++r):Vo l a=some (cs,a+(IE cs).length):=by
 unfold Vo;by_cases hn:cs=[]
 ·rw [IE,if_pos hn] at h ⊢;rw [EB Omg Omg Omg h,AjK];simp only;rw [if_neg Omg,hn]
 ·rw [IE,if_neg hn] at h ⊢;rw [Air] at h;rw [EB Omg Omg Omg h,AjK];simp only;rw [if_pos trivial,GW (hR.resolve_left hn) (Dw h),Aiq,AjG]
theorem AcM{cs:List Bv}{ps:List FG}{k:List Fg}(hR:cs=[]\/Ao cs=true)(hp:ps.length<=256)(dr:∀ p∈ps,SS p)(hk:k.length<=64)(qm:∀ c∈k,GF c):AbT (FA cs ps k)=some (⟨cs,ps,k⟩,(FA cs ps k).length):=by
 have h0:(FA cs ps k).drop 0=IE cs++(Af ps.length++(ps.flatMap RH++(Af k.length++(k.flatMap Km++[])))):=by simp [FA,Aco]
 have h1:=Dw h0;have h2:=Dw h1;have h3:=Dw h2;have h4:=Dw h3;unfold AbT;rw [ZQ hR h0,AjK];simp only;rw [EB Omg hp Omg h1,AjK];simp only;rw [Jj (λ x hx b r hb=>Aaj (dr x hx) hb) h2,AjK];simp only;rw [EB Omg hk Omg h3,AjK];simp only;rw [Jj (λ x hx b r hb=>AbW (qm x hx) hb) h4,AjP];simp only [FA,Aco,Aiq,Option.some.injEq,Prod.mk.injEq,true_and];omega
def Hh(a:Option Addr)(c:Nat)(fs:List H5):It:=It.row 85 2 a fs.length c (A5 fs)
theorem Ahn:Me Aix 32=some (85,2,32,.agg #[.string ⟨#[]⟩,.string ⟨#[]⟩]):=by kernel_rfl
theorem Ab6(fs:List H5):(A5 fs).length=fs.length*2:=by
 induction fs with
 | nil=>rfl
 | cons p ps ih =>
  show ([Value.string p.1,.string p.2]++A5 ps).length=_;rw [Aiq,ih,Ais];simp only [Ais,AjE];omega
theorem Ab7(fs:List H5):∀ u∈A5 fs,u.oneCell'=true:=by
 intro u hu;obtain⟨v,_,hv⟩:=List.mem_flatMap.1 hu;simp only [Aia,List.not_mem_nil,or_false] at hv;rcases hv with rfl | rfl <;> rfl
theorem WJ(fs gs:List H5):A5 (fs++gs)=A5 fs++A5 gs:=by simp [A5]
structure Itm where
 x0:Int
 x1:Int
 x2:Int
 a3:Option Addr
 c3:Nat
 cs:List Bv
 a4:Option Addr
 c4:Nat
 ps:List BH
 x5:Int
 x6:Int
 x7:Bool
 x8:ByteArray
def TM(t:Itm):List Value:=[.int .i64 t.x0,.int .i64 t.x1,.int .i64 t.x2,.slice t.a3 t.cs.length t.c3,.slice t.a4 t.ps.length t.c4,.int .i64 t.x5,.int .i64 t.x6,.bool t.x7,.string t.x8]
def Yk(ts:List Itm):List Value:=ts.flatMap TM
structure SQ(w:World)(t:Itm):Prop where
 h0 : -9223372036854775808<=t.x0/\t.x0<=9223372036854775807
 h5 : -9223372036854775808<=t.x5/\t.x5<=9223372036854775807
 h6 : -9223372036854775808<=t.x6/\t.x6<=9223372036854775807
 h8:t.x8.size<=140737488355328
 Ay:Rd w t.a3 (BF t.cs)
 hn:t.cs.length<=9223372036854775807
 hq:∀ c∈t.cs,c.1.size<=9223372036854775807
 rows:A9 w t.a4 t.ps
 hm:t.ps.length<=9223372036854775807
 hv:∀ r∈rws t.ps,∀ v∈r,BM v
 hp:t.ps.length<=t.c4
theorem Yl(ts:List Itm)(i j:Nat)(hi:i<ts.length)(hj:j<9):(Yk ts)[i*9+j]?=(TM ts[i])[j]?:=by
 induction ts generalizing i with
 | nil=>simp at hi
 | cons p ps ih =>
  show (TM p++Yk ps)[_]?=_;cases i with
  | zero=>rw [Nat.zero_mul,Nat.zero_add,List.getElem?_append_left (by simp [TM];omega)];rfl
  | succ i =>
   rw [List.getElem?_append_right (by simp [TM];omega)];rw [show (i+1)*9+j-(TM p).length=i*9+j by simp [TM];omega,ih i (by simpa using hi)];rfl
section
variable {w0 w:World}{H:List It}
theorem AdV{a:Option Addr}{ts:List Itm}(h:Rd w a (Yk ts)){i:Nat}(hi:i<ts.length):∃ p,a=some p/\∀ j (hj:j<9) v,(TM ts[i])[j]?=some v->w.cell? ((p.add (i*9)).add j)=some v:=by
 obtain⟨p,hp,_⟩:=h (i*9+0) _ (by rw [Yl ts i 0 hi Omg];rfl);refine⟨p,hp,λ j hj v hv=>?_⟩;obtain⟨q,hq,hc⟩:=h (i*9+j) v (by rw [Yl ts i j hi hj];exact hv);rw [hp] at hq;cases hq;rw [BJ];exact hc
theorem AfI(S:ST w0 w H){n:Nat}{ac:Option Addr}{cx:Nat}{xs qs:List H5}{aq:Option Addr}{cq:Nat}(hn:H[n]?=some (Hh ac cx xs))(hs:Rd w aq (A5 qs))(hl:xs.length+qs.length<=1000000){f:Value->World->Prop}
  (hf:∀ a' c' w',ST w0 w' (H.set n (Hh a' c' (xs++qs)))->f (.slice a' (xs++qs).length c') w') :
  De Aix (Builtin.append_ #[32,32] 32 #[.slice ac xs.length cx,.slice aq qs.length cq]) f w:=by
 refine S.app n hn Ahn rfl Omg Omg hs (Ab6 qs) (Ab7 qs) Omg λ a' c' w' S'=>?_;rw [<- WJ] at S';have:=hf a' c' w' (by unfold Hh;rw [Aiq];exact S');rwa [Aiq] at this
theorem WU{b cc pc kc:Nat}{ca pa ka:Option Addr}{C:MF}{ra:Option Addr}{rc:Nat}{gs:List Grp}(S:ST w0 w (D7 b ca cc pa pc ka kc C++H))(hC:DK C)(hg:Rd w ra (gs.map UO))(pB:gs.length=C.parts.length)(jg:∀ g∈gs,NS g)(pA:∀ g∈gs,A9 w g.1 g.2.2){t:Itm}(ht:SQ w t) :
  Cw 11 #[.pointer (some ⟨b,0,none⟩),.slice ra gs.length rc,.agg #[.int .i64 t.x0,.int .i64 t.x1,.int .i64 t.x2,.slice t.a3 t.cs.length t.c3,.slice t.a4 t.ps.length t.c4,.int .i64 t.x5,.int .i64 t.x6,.bool t.x7,.string t.x8]] w λ v w'=>∃ s:ByteArray,v=.string s/\s.size<=140737488355328/\Below w.heap.size w w' :=
 ZR S hC hg pB jg pA t.x0 t.x1 t.x2 t.x5 t.x6 ht.h0 ht.h5 ht.h6 t.a3 t.a4 t.c3 t.c4 t.x7 t.x8 ht.h8 ht.Ay ht.hn ht.hq ht.rows ht.hm ht.hv ht.hp
theorem SQ.grown{t:Itm}(h:SQ w t){w':World}(B:Below w.heap.size w w'):SQ w' t:=⟨h.h0,h.h5,h.h6,h.h8,h.Ay.grown B,h.hn,h.hq,h.rows.grown B,h.hm,h.hv,h.hp⟩
end
end Go.Proofs.YtpnaifmmggnimaaGreatDoor
namespace Go.Dn
open _root_.List renaming getElem?_eq_getElem -> Ajk, getElem?_map -> Aj4
set_option maxRecDepth 100000
set_option linter.unusedVariables false
variable {H:Type}{enc:TypeId × Value->H}
theorem Rx{P:Program}{e:TypeId}:∀ {ds:List (DataW H)} {i:Nat} {d:DataW H},ds[i]?=some d->∀ m∈d.weights P e,m∈DataW.weightsAll P e ds
 | x :: ds,0,d,h,m,hm=>by
  simp only [List.getElem?_cons_zero,Option.some.injEq] at h;subst h;unfold DataW.weightsAll;exact List.mem_append_left _ hm
 | x :: ds,i+1,d,h,m,hm=>by
  unfold DataW.weightsAll;exact List.mem_append_right _ (Rx (by simpa using h) m hm)
theorem AcR{P:Program}{ts:List TypeId}{ds:List (DataW H)}(hZ:(DataW.weightsEach P ts ds).all (·<=reachBytes)=true){j:Nat}{t e:TypeId}{d:DataW H}(ht:ts[j]?=some t)(hd:ds[j]?=some d)(hu:P.underlying t=some (.slice e))
  {W:World} {base fuel:Nat} {held:Bool} {a:Option Addr} {l c:Nat} {p:List MemPlace} (hf:DataW.trod enc P W base (λ _=>true) held fuel t (Value.slice a l c).cells.toList=some (d,p))
  {fs:Array Field} (he:P.underlying e=some (.struct fs)) {k:Nat} {f:Field} (hk:fs.toList[k]?=some f) (hfs:P.underlying f.type=some .string) (gO:P.cellsOf f.type=1)
  {i:Nat} (hi:i<l) {s:ByteArray} {b:Addr} (ha:a=some b) (hs:W.cell? ((b.add (i*P.cellsOf e)).add f.offset)=some (.string s)):s.size<=reachBytes:=by
 rcases DataW.trod_slice hu hf with ⟨hc,_⟩ | ⟨a',len,cap,elems,rest,n,_,hc,hx,_,hl,_,hlen,hel,_,_⟩
 ·have:[Value.slice a l c]=[Value.slice none 0 0]:=hc;simp at this;omega
 ·have dV:[Value.slice a l c]=[Value.slice (some a') len cap]:=hc;simp only [List.cons.injEq,Value.slice.injEq,and_true] at dV;obtain⟨e1,rfl,rfl⟩:=dV;rw [ha] at e1;cases e1;simp only [Prod.mk.injEq] at hx;have h1:=hel i hi;rw [Ajk Omg] at h1;obtain⟨aC,h2,h3⟩:=Option.bind_eq_some_iff.1 h1;cases n with
  | zero=>simp [DataW.trod] at h3
  | succ n =>
   unfold DataW.trod at h3;rw [he] at h3;simp only at h3;split at h3
   ·rename_i bQ;obtain⟨xs,bU,hy⟩:=Option.map_eq_some_iff.1 h3;have hg:=mapM_some_get bU k f hk;have dE:=mapM_some_length bU;have aO:=(List.getElem?_eq_some_iff.1 hk).1;rw [Ajk Omg] at hg;obtain⟨s',jy,eS,_⟩:=DataW.trod_string hfs hg;rw [gO] at jy;have h4:aC[f.offset]?=some (.string s'):=by
     have:=congrArg (λ x:List Value=>x[0]?) jy;simpa [List.getElem?_take,List.getElem?_drop] using this
    have qZ:=(List.getElem?_eq_some_iff.1 h4).1;have h5:=(World.cells?_some h2).2.2 f.offset (by rw [<- bQ];exact qZ);rw [hs,h4] at h5;cases h5;have h6:s.data.toList.length∈d.weights P t:=by
     rw [hx.1];unfold DataW.weights;rw [hu];refine List.mem_cons_of_mem _ (List.mem_append_left _ (Rx (i:=i) (d:=elems[i].1) (by rw [Aj4,Ajk Omg];rfl) _ ?_));rw [<- hy];unfold DataW.weights;rw [he];refine DataW.weights_mem_each (j:=k) (t:=f.type) (d:=xs[k].1) ?_ ?_ _ ?_
     ·rw [Aj4,hk];rfl
     ·rw [Aj4,Ajk Omg];rfl
     ·rw [eS];simp [DataW.weights]
    have h7:=List.all_eq_true.1 hZ _ (DataW.weights_mem_each ht hd _ h6);simpa using h7
   ·cases h3
end Go.Dn
namespace Go.Proofs.YtpnaifmmggnimaaGreatDoor
open R
open _root_.Go.Proofs.Tryz renaming prog -> Aix
open _root_.List.Sublist renaming append -> Akk, refl -> Akd
open _root_.List renaming perm_append_comm_assoc -> Akj
open _root_.Nat renaming le_trans -> AiI
set_option maxRecDepth 100000
open Go.Dn Go.Proofs
open Go.RowKit (Below)
set_option linter.unusedVariables false
theorem AgF:Ou Aix 37=some [(3,0),(2,1),(2,2),(27,3),(35,4),(3,5),(3,6),(4,7),(9,8)]:=by kernel_rfl
theorem XP:Aix.cellsOf 37=9:=by kernel_rfl
theorem ZM:Aix.cellsOf 27=1:=by kernel_rfl
theorem ZN:Aix.cellsOf 35=1:=by kernel_rfl
theorem AeJ:Aix.underlying 27=some (.slice 102):=by kernel_rfl
theorem AeK:Aix.underlying 35=some (.slice 69):=by kernel_rfl
theorem Z3{x:Int}(h:(Lit.int .i64 x).wf=true) : -9223372036854775808<=x/\x<=9223372036854775807:=by
 simpa [Lit.wf,IntKind.min,IntKind.max,IntKind.signed,IntKind.bits] using h
structure Af7(w:World)(t:Itm):Prop where
 ok:t.x8.size<=140737488355328->SQ w t
theorem Jc{w:World}:∀ m r,r.length=Aix.cellsOf 37->Go.Dn.Good Aix w m 37 r->∃ x,r=TM x/\Af7 w x:=by
 intro m r hl h;obtain⟨_,n,hf⟩:=h.fields AgF;rw [XP] at hl
 match r,hl with
 | [v0,v1,v2,v3,v4,v5,v6,v7,v8],_ =>
  simp only [List.mem_cons,List.not_mem_nil,or_false,forall_eq_or_imp,forall_eq,PR,Q2,Te,LG,ZM,ZN] at hf;obtain⟨h0,h1,h2,h3,h4,h5,h6,h7,h8⟩:=hf;obtain⟨x0,e0,q0⟩:=h0.int Pq;obtain⟨x1,e1,_⟩:=h1.int QZ;obtain⟨x2,e2,_⟩:=h2.int QZ;obtain⟨a3,c3,cs,e3,g3⟩:=h3.list AeJ _ _ RI;obtain⟨a4,c4,ps,e4,g4⟩:=h4.list AeK _ _ WL;obtain⟨x5,e5,q5⟩:=h5.int Pq;obtain⟨x6,e6,q6⟩:=h6.int Pq;obtain⟨x7,e7⟩:=h7.bool Wc;obtain⟨x8,e8,_⟩:=h8.str Us;obtain⟨k1,k2,k3⟩:=Adv g3;obtain⟨r1,r2,r3,_⟩:=Aeo g4;simp only [List.drop_zero,List.take_succ_cons,List.take_zero,List.drop_succ_cons,List.cons.injEq,and_true] at e0 e1 e2 e3 e4 e5 e6 e7 e8;refine⟨⟨x0,x1,x2,a3,c3,cs,a4,c4,ps,x5,x6,x7,x8⟩,?_,⟨λ hz=>⟨Z3 q0,Z3 q5,Z3 q6,hz,k1,k2,k3,r1,r2,r3,g4.1⟩⟩⟩;rw [e0,e1,e2,e3,e4,e5,e6,e7,e8];rfl
def Ww(w:World)(a:Option Addr)(n:Nat):Prop:=∀ i<n,∀ b s,a=some b->w.cell? ((b.add (i*9)).add 8)=some (.string s)->s.size<=reachBytes
theorem NC{w:World}{a:Option Addr}{ts:List Itm}{c:Nat}(g:GL w TM (Af7 w) a ts c)(z:Ww w a ts.length) :
  Rd w a (Yk ts)/\(∀ t∈ts,SQ w t)/\ts.length<=9223372036854775807:=by
 refine⟨g.2.2.2.1,λ t ht=>(g.2.2.2.2 t ht).ok ?_,AiI (AiI g.1 g.2.1) Ode⟩;obtain⟨i,hi,rfl⟩:=List.getElem_of_mem ht;obtain⟨p,hp,hc⟩:=AdV g.2.2.2.1 hi;exact AiI (z i hi p _ hp (hc 8 Omg _ rfl)) Ode
section
variable {w:World}
end
section
variable {w0 w:World}{H:List It}
end
section
variable {w:World}
end
theorem Re{k:List Fg}{ids:List Nat}(hm:∀ i,i∈ids↔(mapOf k i).isSome=true)(i:Nat):mapOf (Cz (mapOf k) ids) i=mapOf k i:=by
 cases h:mapOf (Cz (mapOf k) ids) i with
 | some x =>
  obtain⟨j,hj,he⟩:=List.mem_map.1 (LK h);cases he;obtain⟨y,hy⟩:=Option.isSome_iff_exists.1 ((hm i).1 hj);rw [hy];rfl
 | none =>
  cases h2:mapOf k i with
  | none=>rfl
  | some y =>
   have h3:(mapOf (Cz (mapOf k) ids) i).isSome=true:=DO.2 (by rw [PY];exact (hm i).2 (by rw [h2];rfl));rw [h] at h3;cases h3
theorem Aes{C:Bq}(hI:FN C){ids:List Nat}(cp:ids.Pairwise (·<·))(hm:∀ i,i∈ids↔(mapOf C.k i).isSome=true) :
  AaM (FA C.Ay C.parts (Cz (mapOf C.k) ids)) ⟨C.Ay,C.parts,Cz (mapOf C.k) ids⟩/\Iu C ⟨C.Ay,C.parts,Cz (mapOf C.k) ids⟩/\FN ⟨C.Ay,C.parts,Cz (mapOf C.k) ids⟩/\(FA C.Ay C.parts (Cz (mapOf C.k) ids)).length<=30000:=by
 have aO:(Cz (mapOf C.k) ids).length<=64:=by
  have h1:(Cz (mapOf C.k) ids).length=ids.length:=by simp [Cz]
  have h2:=WN cp hm;have h3:=hI.few;omega
 have qm:∀ c∈Cz (mapOf C.k) ids,GF c:=λ c hc=>hI.ok.CC c (PZ hm hc);refine⟨⟨AcM hI.ok.Ay hI.ok.np hI.ok.parts aO qm,hI.empty,?_⟩,⟨rfl,rfl,λ i=>(Re hm i).symm⟩,⟨⟨hI.ok.np,hI.ok.parts,qm,hI.ok.Ay⟩,?_,hI.empty⟩,?_⟩
 ·show ((Cz (mapOf C.k) ids).map (·.1)).Pairwise (·<·);rw [PY];exact cp
 ·have:=ZP (k:=Cz (mapOf C.k) ids) (m:=C.k) λ i=>by rw [Re hm]
  have h3:=hI.few;simp only;omega
 ·have h1:=Yf hI.ok.Ay;have h2:=Vu hI.ok.parts;have h3:=Vt qm;have h4:=hI.ok.np;have h5:=Ah (n:=C.parts.length) Omg;have h6:=Ah (n:=(Cz (mapOf C.k) ids).length) Omg;simp only [FA,Aco,List.length_append];omega
structure Ac8(w wx:World)(bc bm b:Nat)(i bd:Nat)(C C2:Bq)(D:MF)(fs:List H5)(gs:List Grp)(fa:Option Addr)(fc:Nat)(ra:Option Addr):Prop where
 inv:FN C
 inv2:FN C2
 eq:Iu C C2
 doc:DK D
 nf:fs.length<=i
 sz:∀ f∈fs,f.2.size<=140737488355328
 all:∀ p∈D.parts,∃ f∈fs,f.1=p.1
 gl:gs.length=D.parts.length
 go:∀ g∈gs,NS g
 rd:Rd wx ra (gs.map UO)
 ga:∀ g∈gs,A9 wx g.1 g.2.2
 st:∃ ca cc pa pc n fy fz gE gF bn n2 da dc dF dG ka kc,(ca=none↔C.Ay=[])/\n<=i/\(fy=none↔C2.Ay=[])/\n2<=64+i/\ST w wx (Bh bc ca cc pa pc bm n C++(Bh bd fy fz gE gF bn n2 C2++(D7 b da dc dF dG ka kc D++[Hh fa fc fs])))
theorem Abc(a b c f:List It):(a++(b++(c++f))).Perm (c++(b++(a++f))) :=
 (Akj _ _ _).trans ((List.Perm.append_left _ (Akj _ _ _)).trans (Akj _ _ _))
section
variable {w:World}
theorem Aed{w1 w2 w3:World}{bc bm bd bn:Nat}(B1:Below w.heap.size w w1)(S:ST w1 w2 (Bh bc none 0 none 0 bm 0 ⟨[],[],[]⟩))(T:ST w2 w3 (Bh bd none 0 none 0 bn 0 ⟨[],[],[]⟩)){k:Nat->World->Prop}
  (hk:∀ b w4,Ac8 w w4 bc bm b 0 bd ⟨[],[],[]⟩ ⟨[],[],[]⟩ ⟨[],[],[]⟩ [] [] none 0 none->k b w4):Du #[.slice none 0 0,.slice none 0 0,.slice none 0 0] 31 k w3:=by
 have S:=(((ST.start w).grown B1).join S).join T;refine S.An λ b6 w4 _ _ S=>hk b6 w4 ?_;have S:=((S.nil 117 4).nil 49 2).nil 102 3;have S:ST w w4 (D7 b6 none 0 none 0 none 0 ⟨[],[],[]⟩++(Bh bd none 0 none 0 bn 0 ⟨[],[],[]⟩++Bh bc none 0 none 0 bm 0 ⟨[],[],[]⟩)):=S.pull 3 rfl;have S:=S.nil 85 2;have S:ST w w4 (D7 b6 none 0 none 0 none 0 ⟨[],[],[]⟩++(Bh bd none 0 none 0 bn 0 ⟨[],[],[]⟩++(Bh bc none 0 none 0 bm 0 ⟨[],[],[]⟩++[Hh none 0 []]))):=S.perm (List.perm_append_comm (l₁:=[Hh none 0 []]) (l₂:=D7 b6 none 0 none 0 none 0 ⟨[],[],[]⟩++(Bh bd none 0 none 0 bn 0 ⟨[],[],[]⟩++Bh bc none 0 none 0 bm 0 ⟨[],[],[]⟩)));have S:=S.perm (Abc _ _ _ _);have h0:FN ⟨[],[],[]⟩:=⟨⟨Osi,Osi,Osi,.inl rfl⟩,Ode,λ _=>rfl⟩;exact⟨h0,h0,Iu.AhP _,⟨Osi,Osi,Osi,.inl rfl⟩,Osi,Osi,Osi,rfl,Osi,Rd.nil _ _,Osi,_,_,_,_,_,_,_,_,_,_,_,_,_,_,_,_,_,⟨λ _=>rfl,λ _=>rfl⟩,Nat.le_refl 0,⟨λ _=>rfl,λ _=>rfl⟩,Nat.zero_le _,S⟩
variable {sa:Option Addr}{sc:Nat}{ts:List Itm}
set_option maxHeartbeats 4000000 in
theorem SN(T:Hb w)(hsa:Rd w sa (Yk ts))(hts:∀ t∈ts,SQ w t)(hn:ts.length<=9223372036854775807)(at_:Int) :
  Cw 7 #[.slice sa ts.length sc,.int .i64 at_] w λ v w'=>v=.bool true/\Below w.heap.size w w':=by
 apply JV
 delta A Ab A6 AeT AgI Cb Cp Ct E F G I J Ks Lb Li Ls Lt N O P AfV S Am T W X Zp;try dsimp only [Ps]
 refine (Aer T).mono ?_;rintro _ w1 ⟨_,rfl,rfl,B1⟩;refine⟨_,rfl,(Wt w1).mono ?_⟩;rintro _ w2 ⟨_,rfl,bc,bm,rfl,S0⟩;refine⟨_,rfl,(Wt w2).mono ?_⟩;rintro _ w3 ⟨_,rfl,bd0,bn0,rfl,S1⟩;refine⟨_,rfl,Aed B1 S0 S1 λ b6 w4 L0=>?_⟩;refine⟨λ s wx=>∃(i bd:Nat) (C C2:Bq) (D:MF) (fs:List H5) (gs:List Grp) (fa:Option Addr) (fc:Nat) (ra:Option Addr) (rc:Nat),s=[.pointer (some ⟨bd,0,none⟩),.slice fa fs.length fc,.slice ra gs.length rc,.int .i64 (i:Int)]/\i<=40/\i<=ts.length/\Ac8 w wx bc bm b6 i bd C C2 D fs gs fa fc ra,λ s _=>match s with
  | [_,_,_,.int _ i]=>ts.length-i.toNat
  | _=>0,⟨0,_,_,_,_,_,_,_,_,_,0,rfl,Omg,Omg,L0⟩,?_⟩
 rintro _ fa _ fc ra _ rc _ w5 ⟨i,bd,C,C2,D,fs,gs,_,_,_,_,aA,hi40,hi,L⟩;cases aA;have S5:Below w.heap.size w w5:=by
  obtain⟨_,_,_,_,_,_,_,_,_,_,_,_,_,_,_,_,_,_,_,_,_,S⟩:=L.st;exact S.Ar
 refine Aa (λ aB=>Aa (λ av=>?_) (λ _=>⟨rfl,S5⟩)) (λ _=>⟨rfl,S5⟩);refine⟨λ s wx=>∃(bd:Nat) (C2:Bq),s=[.pointer (some ⟨bd,0,none⟩)]/\Ac8 w wx bc bm b6 i bd C C2 D fs gs fa fc ra,Ap (λ _=>?_) (λ _=>⟨bd,C2,rfl,L⟩),?_⟩
 ·obtain⟨ca,cc,pa,pc,n,fy,fz,gE,gF,bn,n2,da,dc,dF,dG,ka,kc,bJ,lE,iN,hni2,S⟩:=L.st;have fZ:=L.inv.few;refine (HS S L.inv.ok bJ Omg Omg).mono ?_;rintro _ w6 ⟨_,rfl,ids,cp,aV,rfl,B6⟩;obtain⟨hG,hE,sH,hlen⟩:=Aes L.inv cp aV;have ao:=AW (Bu (FA C.Ay C.parts (Cz (mapOf C.k) ids)));rw [Bn] at ao;refine⟨_,rfl,(AeZ _ Omg).mono ?_⟩;rintro _ w7 ⟨_,rfl,h7⟩;rw [Bn] at h7;rcases h7 with ⟨c,bd',ph,uA,xe,xf,bn3,n3,hG',rfl,wQ,qT,T3⟩ | ⟨aP,_,_⟩
  ·have ec:=hG'.read.symm.trans hG.read;simp only [Option.some.injEq,Prod.mk.injEq] at ec;obtain⟨rfl,_⟩:=ec;have B:=Ac B6 T3.Ar;have S2:ST w w7 (Bh bd' ph uA xe xf bn3 n3 ⟨C.Ay,C.parts,Cz (mapOf C.k) ids⟩++(Bh bc ca cc pa pc bm n C++(D7 b6 da dc dF dG ka kc D++[Hh fa fc fs]))) :=
    ((S.grown B6).join T3).sub (Akk (Akd _) (Akk (Akd _) (List.sublist_append_right _ _)))
   exact⟨_,_,rfl,Ai (λ h=>absurd rfl h) (λ _=>⟨bd',_,rfl,⟨L.inv,sH,hE,L.doc,L.nf,L.sz,L.all,L.gl,L.go,L.rd.grown B,λ g hg=>(L.ga g hg).grown B,ca,cc,pa,pc,n,ph,uA,xe,xf,bn3,n3,da,dc,dF,dG,ka,kc,bJ,lE,qT,Omg,S2.perm (Akj _ _ _)⟩⟩)⟩
  ·exact absurd hG (aP _)
 rintro _ w8 ⟨bd,C2,aA,L2⟩;cases aA;obtain⟨ca,cc,pa,pc,n,fy,fz,gE,gF,bn,n2,da,dc,dF,dG,ka,kc,bJ,lE,iN,hni2,S⟩:=L2.st;have aD:i<ts.length:=Omg;obtain⟨p,hp,hc⟩:=AdV (hsa.grown S.Ar) aD;obtain⟨t,het⟩:∃ t,t=ts[i]:=⟨_,rfl⟩;have z8:=(hts ts[i] (List.getElem_mem aD)).grown S.Ar;rw [<- het] at hc z8;have c0:=hc 0 Omg _ rfl;rw [CS] at c0;subst hp;refine⟨⟨Omg,aB⟩,?_⟩;simp only [Av,Int.toNat_natCast];refine⟨_,c0,_,hc 1 Omg _ rfl,_,hc 2 Omg _ rfl,_,_,_,hc 3 Omg _ rfl,_,_,_,hc 4 Omg _ rfl,_,hc 5 Omg _ rfl,_,hc 6 Omg _ rfl,_,hc 7 Omg _ rfl,_,hc 8 Omg _ rfl,?_⟩;refine (WU (S.drop 8) L2.doc L2.rd L2.gl L2.go L2.ga z8).mono ?_;rintro _ w9 ⟨_,rfl,s,rfl,hs,B9⟩;have S:=S.grown B9;refine⟨_,rfl,(XI T S L2.inv.ok bJ lE Omg s).mono ?_⟩;rintro _ bX ⟨_,rfl,d,yJ,C',ld,fO,jH,pb,pd,n',hQ,rfl,qS,dA,S⟩;obtain⟨d1,d2⟩:=d;have ki:=hQ.inv L2.inv;refine⟨_,_,_,_,_,rfl,S.An λ b38 aZ _ _ S=>S.BD 0 rfl (aC:=#[.int .i64 (d1:Int),.int .i64 0]) Osi rfl λ bL S=>S.BD 0 rfl (aC:=#[.int .i64 (d1:Int),.int .i64 (d2:Int)]) Osi rfl λ al S=>?_⟩
 let D1:It:=It.cells b38 #[.int .i64 (d1:Int),.int .i64 (d2:Int)] 40;have S:ST w al (Bh bd fy fz gE gF bn n2 C2++((D1 :: It.rd ld (A5 yJ) :: Bh bc fO jH pb pd bm n' C')++(D7 b6 da dc dF dG ka kc D++[Hh fa fc fs]))):=by
  have S1:ST w al ((D1 :: It.rd ld (A5 yJ) :: Bh bc fO jH pb pd bm n' C')++(Bh bd fy fz gE gF bn n2 C2++(D7 b6 da dc dF dG ka kc D++[Hh fa fc fs]))):=S;exact S1.perm (Akj _ _ _)
 refine (XI T S L2.inv2.ok iN hni2 Omg s).mono ?_;rintro _ au ⟨_,rfl,dd,eY,C2',pr,jG,jI,rU,rV,rT,yX,rfl,lp,hn2',S⟩;obtain⟨hd,hf,hE'⟩:=hQ.det T L2.eq yX;subst hd hf;have mq:=yX.inv L2.inv2;let D2:Nat->It:=λ b=>It.cells b #[.int .i64 (d1:Int),.int .i64 (d2:Int)] 40;refine⟨_,_,_,_,_,rfl,S.An λ tk ah _ _ S=>S.BD 0 rfl (aC:=#[.int .i64 (d1:Int),.int .i64 0]) Osi rfl λ cd S=>S.BD 0 rfl (aC:=#[.int .i64 (d1:Int),.int .i64 (d2:Int)]) Osi rfl λ cF S=>?_⟩;have S:ST w cF (D7 b6 da dc dF dG ka kc D++((D2 tk :: It.rd pr (A5 eY) :: (Bh bd jG jI rU rV bn rT C2'++(D1 :: It.rd ld (A5 eY) :: Bh bc fO jH pb pd bm n' C')))++[Hh fa fc fs])):=by
  have S1:ST w cF ((D2 tk :: It.rd pr (A5 eY) :: (Bh bd jG jI rU rV bn rT C2'++(D1 :: It.rd ld (A5 eY) :: Bh bc fO jH pb pd bm n' C')))++(D7 b6 da dc dF dG ka kc D++[Hh fa fc fs])):=S;exact S1.perm (Akj _ _ _)
 refine (Xs S L2.doc s hs).mono ?_;rintro _ fG ⟨_,rfl,e,oy,D',uP,uB,uC,pe,pf,pL,pM,rfl,gA,gv,sM,wj,S⟩;obtain⟨e1,e2⟩:=e;refine⟨_,_,_,_,_,rfl,S.An λ b48 gb _ _ S=>S.BD 0 rfl (aC:=#[.int .i64 (e1:Int),.int .i64 0]) Osi rfl λ eT S=>S.BD 0 rfl (aC:=#[.int .i64 (e1:Int),.int .i64 (e2:Int)]) Osi rfl λ gG S=>?_⟩;have dz:=hQ.rows.1;refine⟨_,S.cell 12 rfl rfl,_,S.cell 12 rfl rfl,_,S.cell 6 rfl rfl,_,S.cell 6 rfl rfl,As (Aq (λ _=>?_) (λ h=>by simp at h))⟩;refine (Wy (S.get 13 rfl) (S.get 7 rfl) Omg).mono ?_;rintro _ gd ⟨_,rfl,j9,rfl⟩;refine⟨_,rfl,As (Aa (λ _=>?_) (λ h=>absurd rfl h))⟩;have S:=S.grown j9;have fZ:=ki.few;have ye:=mq.few;refine (HS (H:=[Hh fa fc fs]) (S.drop 14) ki.ok qS Omg Omg).mono ?_;rintro _ fN ⟨_,rfl,ids,cp,aV,rfl,iI⟩;have S:=S.grown iI;refine⟨_,rfl,(HS (H:=D1 :: It.rd ld (A5 eY) :: (Bh bc fO jH pb pd bm n' C'++[Hh fa fc fs])) (S.drop 8) mq.ok lp Omg Omg).mono ?_⟩;rintro _ du ⟨_,rfl,rQ,xT,qv,rfl,ig⟩
 have S:=S.grown ig;have es:Bu (FA C'.Ay C'.parts (Cz (mapOf C'.k) ids))=Bu (FA C2'.Ay C2'.parts (Cz (mapOf C2'.k) rQ)):=by
  have ei:ids=rQ:=Xa cp xT λ i=>by rw [qv,aV,hE'.2.2]
  rw [ei,hE'.1,hE'.2.1,show mapOf C'.k=mapOf C2'.k from funext hE'.2.2]
 refine⟨_,rfl,As (Aq (λ _=>?_) (λ h=>by rw [AU] at h;exact absurd es (of_decide_eq_false h)))⟩;have yr:=L2.nf;refine AfI S (n:=18) rfl (S.get 1 rfl) Omg λ a' c' eA S=>⟨_,_,_,rfl,?_⟩;have aF:∀ p∈D'.parts,∃ f∈fs++oy,f.1=p.1:=λ p hp=>by
  rcases wj p hp with h | ⟨f,hf,he⟩
  ·obtain⟨f,hf,he⟩:=L2.all p h;exact⟨f,List.mem_append_left _ hf,he⟩
  ·exact⟨f,List.mem_append_right _ hf,he⟩
 have ao:∀ f∈fs++oy,f.2.size<=140737488355328:=λ f hf=>by
  rcases List.mem_append.1 hf with h | h
  ·exact L2.sz f h
  ·exact sM f h
 have ct:(fs++oy).length<=i+1:=by rw [List.length_append];omega
 let R:List It:=D2 tk :: It.rd pr (A5 eY) :: (Bh bd jG jI rU rV bn rT C2'++(D1 :: It.rd ld (A5 eY) :: (Bh bc fO jH pb pd bm n' C'++[Hh a' c' (fs++oy)])));have SD:ST w eA (D7 b6 uB uC pe pf pL pM D'++R):=S.drop 2;refine (Afm SD gA (S.rd 18 rfl) Omg ao aF).mono ?_;rintro _ ie ⟨_,rfl,oa,oc,mh,rfl,vl,qb,T2⟩;have S:=SD.grown T2.Ar;obtain⟨k1,k2⟩:=Afh T2 qb;rw [Ae Omg];refine⟨_,_,_,_,_,_,rfl,⟨i+1,bd,C',C2',D',fs++oy,mh,a',c',oa,oc,rfl,Omg,Omg,⟨ki,mq,hE',gA,ct,ao,aF,vl,qb,k1,k2,fO,jH,pb,pd,n',jG,jI,rU,rV,bn,rT,uB,uC,pe,pf,pL,pM,qS,dA,lp,Omg,?_⟩⟩,by simp only [Int.toNat_natCast];omega⟩;have S1:ST w ie (D7 b6 uB uC pe pf pL pM D'++(Bh bd jG jI rU rV bn rT C2'++(Bh bc fO jH pb pd bm n' C'++[Hh a' c' (fs++oy)]))) :=
  S.sub (Akk (Akd _) (.cons _ (.cons _ (Akk (Akd _) (.cons _ (.cons _ (Akd _)))))))
 exact S1.perm (Abc _ _ _ _)
end
theorem NR{w:World}(T:Hb w)(a:Option Addr)(ts:List Itm)(c:Nat)(g:GL w TM (Af7 w) a ts c)(_y:c*Aix.bytesOf 37<=reachBytes)(z:Ww w a ts.length)(at_:Int)(_w:(Lit.int .i64 at_).wf=true) :
  Cw 7 #[.slice a ts.length c,.int .i64 at_] w λ v w'=>v=.bool true/\Below w.heap.size w w' :=
 SN T (NC g z).1 (NC g z).2.1 (NC g z).2.2 at_
end Go.Proofs.YtpnaifmmggnimaaGreatDoor
