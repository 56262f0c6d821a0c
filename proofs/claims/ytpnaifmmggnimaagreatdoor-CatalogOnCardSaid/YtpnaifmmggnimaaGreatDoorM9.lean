/- Texts of this claim, laid one behind the other by a program of mine. -/
import Derived.Test.YtpnaifmmggnimaaGreatDoorM8
import Derived.Test.YtpnaifmmggnimaaGreatDoorM7
import Derived.Test.YtpnaifmmggnimaaGreatDoorM1
import Derived.Test.YtpnaifmmggnimaaGreatDoorRows
namespace Go.Proofs.YtpnaifmmggnimaaGreatDoor
open R
open _root_.Go.Proofs.Tryz renaming prog -> Aix
open _root_.Int renaming fdiv -> AiJ, toNat_natCast -> Ait
open _root_.List renaming append_assoc -> Air, append_nil -> Ajr, drop -> AjY, drop_left -> AjJ, drop_zero -> AjV, ext_getElem -> AjW, flatten_cons -> Aj0, getD -> AjZ, getElem?_append_right -> Aj2, getElem?_eq_getElem -> Ajk, getElem?_map -> Aj4, getElem_mem -> Ai7, length -> AjO, length_append -> Aiq, length_cons -> Ais, length_drop -> AiT, length_map -> AiH, length_nil -> AjE, length_take -> Ajm, map_append -> AiK, map_cons -> Aj5, map_drop -> AiU, map_take -> AiV, mem_append -> Ajn, mem_cons -> Aia, mem_map -> Ah9, not_mem_nil -> Aju, range -> Ai0, replicate -> Aio, take -> AjX, take_left -> Ail, take_of_length_le -> AiZ, take_succ_eq_append_getElem -> Ajl
open _root_.Nat renaming le_refl -> Ain, mul_one -> Aiw, sub_self -> Aj3, sub_zero -> AjT, zero_add -> Aiv, zero_mul -> Ajv
open _root_.Option renaming map_eq_some_iff -> AjI, map_some -> AjP
open _root_.Option.some renaming inj -> Ajx, injEq -> AjH
open _root_.Prod renaming fst -> Aj1
open _root_.Prod.mk renaming injEq -> Ah3
open _root_.UInt8 renaming ofNat -> Aiz
set_option maxRecDepth 100000
open Go.Dn Go.Proofs
open Go.RowKit (Below)
set_option linter.unusedVariables false
theorem Af4:Aix.underlying 77=some (.slice 5):=by kernel_rfl
theorem AeL:Aix.underlying 5=some (.int .u8):=by kernel_rfl
theorem Iw(l:List UInt8){n:Nat}{f:List Value->Prop}(hn:l.length=n)(h:f (l.map Ag)):Fh (Aio n (.int .u8 0)) f :=
 IZ .u8 (l.map uI) (by simpa using hn) (by rw [<- LL];exact h)
def AbR(a:Option Addr)(c:Nat)(l:List UInt8):It:=It.buf 5 1 a l.length c (l.map Ag)
section
variable {w0 w:World}{H:List It}{a:Option Addr}{c:Nat}{l:List UInt8}
theorem Aav(S:ST w0 w H)(n:Nat)(hn:H[n]?=some (AbR a c l)){m:List UInt8}{b:Option Addr}{mc:Nat}(hs:Rd w b (m.map Ag))(h0:0<m.length)(hl:l.length+m.length<=140737488355328){f:Value->World->Prop}
  (hf:∀ a' c' w',ST w0 w' (H.set n (BW a' c' (l++m)))->f (.slice a' (l++m).length c') w') :
  De Aix (Builtin.append_ #[77,77] 77 #[.slice a l.length c,.slice b m.length mc]) f w:=by
 refine S.AhB n hn tB zB Omg Omg hs (mm:=m.length) Osi h0 (FR _) Omg λ a' c' w' S'=>?_;have e1:(l++m).length=l.length+m.length:=Osi;rw [<- AiK] at S';have:=hf a' c' w' (by unfold BW;rw [e1];exact S');rwa [e1] at this
theorem Abo(S:ST w0 w H)(n:Nat)(hn:H[n]?=some (BW a c l)):ST w0 w (H.set n (AbR a c l)):=S.H7 n hn (.refl _ _) _ (.inl (S.get n hn)) (λ k hk=>.inl hk)
theorem Xd(S:ST w0 w H)(n:Nat)(hn:H[n]?=some (BW a c l)){m:List UInt8}{k:Nat}(hk:m.length=k){b:Option Addr}{mc:Nat}(hs:Rd w b (m.map Ag))(hl:l.length+m.length<=140737488355328){f:Value->World->Prop}
  (hf:∀ a' c' w',ST w0 w' (H.set n (BW a' c' (l++m)))->f (.slice a' (l++m).length c') w') :
  De Aix (Builtin.append_ #[77,77] 77 #[.slice a l.length c,.slice b k mc]) f w:=by
 subst hk;exact Aau S n hn hs hl hf
end
section
variable {w:World}{a a2:Option Addr}{c c2:Nat}{cs:List Bv}{ps:List BH}
theorem Ug(n:Nat)(hn:n<4294967296):Cw 154 #[.int .i64 (n:Int)] w λ v w'=>∃ b,v=.slice (some ⟨b,0,none⟩) 4 4/\Bj w w' (KJ n) (some ⟨b,0,none⟩) 4:=by
 apply Pj
 delta B J N S Wb;try dsimp only [Ps]
 refine (ST.start w).An λ b w1 hb B S=>⟨b,rfl,?_⟩;have sh:∀ k,AiJ (n:Int) (2 ^ k)=((n / 2 ^ k:Nat):Int):=λ k=>by
  rw [Int.fdiv_eq_ediv_of_nonneg _ (Int.pow_nonneg Ode)]
  norm_cast
 have by_:∀ m:Nat,Value.int .u8 (IntKind.u8.wrap (m:Int))=Ag (Aiz (m % 256)):=λ m=>by
  rw [wrap_u8,<- Ck (x:=m % 256) Omg];congr 1
 have e:(#[Value.int .u8 (IntKind.u8.wrap (n:Int)),.int .u8 (IntKind.u8.wrap (AiJ (n:Int) (2 ^ (min 8 64)))),.int .u8 (IntKind.u8.wrap (AiJ (n:Int) (2 ^ (min 16 64)))),.int .u8 (IntKind.u8.wrap (AiJ (n:Int) (2 ^ (min 24 64))))]:Array Value)=((KJ n).map Ag).toArray:=by
  rw [show min 8 64=8 from rfl,show min 16 64=16 from rfl,show min 24 64=24 from rfl,sh,sh,sh,by_,by_,by_,by_];rfl
 rw [e] at S;have hg:=S.CA 0 rfl;exact⟨⟨rfl,.inr ⟨b,_,rfl,hg,Ain _,Ode,rfl,rfl⟩⟩,λ k hk=>by cases hk;exact hb,B⟩
theorem XB{b:Nat}{r:List AD}{ra:Option Addr}{rc:Nat}(hc:w.cell? ⟨b,0,none⟩=some (.slice a cs.length c))(hl:Rd w a (BF cs))(hn:cs.length<=9223372036854775807)(hq:∀ c∈cs,c.1.size<=9223372036854775807)(hr:Rd w ra (AR r)) :
  Cw 149 #[.slice ra r.length rc,.pointer (some ⟨b,0,none⟩)] w λ v w'=>v=.bool (!(Ao cs && CT cs r))/\Below w.heap.size w w':=by
 apply Jy
 delta A Cb G Ls S;try dsimp only [Ps]
 refine⟨_,_,_,hc,(Ue hl hn hq hr).mono ?_⟩;rintro _ w1 ⟨_,rfl,rfl,B⟩;exact⟨_,rfl,rfl,B⟩
theorem Wq{b:Nat}(hc:w.cell? ⟨b,0,none⟩=some (.slice a cs.length c))(hl:Rd w a (BF cs))(hn:cs.length<=9223372036854775807)(hq:∀ c∈cs,c.1.size<=9223372036854775807)(hr:A9 w a2 ps)(hm:ps.length<=900000) :
  Cw 188 #[.slice a2 ps.length c2,.func (.func 149) #[] #[.pointer (some ⟨b,0,none⟩)]] w λ v w'=>∃ z:Int,v=.int .i64 z/\Below w.heap.size w w'/\(0<=z↔∃ r∈rws ps,(Ao cs && CT cs r)=false):=by
 apply Eu
 delta Ad F G I Ls Qi S W X;try dsimp only [Ps]
 refine⟨λ st w2=>∃ i:Nat,st=[.int .i64 (i:Int)]/\i<=ps.length/\(∀ r∈rws (ps.take i),(Ao cs && CT cs r)=true)/\Below w.heap.size w w2,λ st _=>match st with | [.int _ t]=>ps.length-t.toNat | _=>0,⟨0,rfl,Omg,Osi,.refl _ _⟩,?_⟩;rintro t w2 ⟨i,aA,hi,aF,B2⟩;cases aA;refine Aa (λ aB=>⟨⟨Omg,aB⟩,?_⟩) (λ aJ=>⟨_,rfl,B2,?_⟩)
 ·have aD:i<ps.length:=Omg;obtain⟨q,rfl,mB,hv⟩:=(hr.grown B2).at aD;have cI:w2.cell? ⟨b,0,none⟩=some (.slice a cs.length c):=(Ak.AB (F:=λ _=>False) B2).cell hc Osi;refine⟨_,_,_,by rw [Ait];exact mB,?_⟩;rw [show enters Aix 149=true by kernel_rfl];refine (XB cI (hl.grown B2) hn hq hv).mono ?_;rintro _ w3 ⟨_,rfl,rfl,B3⟩;refine⟨_,rfl,As (Aq (λ hf=>?_) (λ hf=>?_))⟩
  ·rw [Ae Omg];refine⟨⟨i+1,rfl,Omg,λ r hr=>?_,Ac B2 B3⟩,?_⟩
   ·simp only [rws,Ah9] at hr;obtain⟨p,hp,rfl⟩:=hr;rw [Ajl aD] at hp;rcases Ajn.1 hp with h | h
    ·exact aF _ (Ah9.2 ⟨p,h,rfl⟩)
    ·rw [List.mem_singleton.1 h];exact hf
   ·show ps.length-((i+1:Nat):Int).toNat<ps.length-((i:Nat):Int).toNat;simp only [Ait];omega
  ·exact⟨_,rfl,Ac B2 B3,⟨λ _=>⟨_,Ah9.2 ⟨ps[i],Ai7 aD,rfl⟩,hf⟩,λ _=>Omg⟩⟩
 ·rw [AiZ Omg] at aF;constructor
  ·intro h;omega
  ·rintro⟨r,hr,hf⟩;rw [aF r hr] at hf;cases hf
theorem RB{b:Nat}(hc:w.cell? ⟨b,0,none⟩=some (.slice a cs.length c))(hl:Rd w a (BF cs))(hn:cs.length<=9223372036854775807)(hq:∀ c∈cs,c.1.size<=9223372036854775807)(hr:A9 w a2 ps)(hm:ps.length<=900000) :
  Cw 148 #[.slice a2 ps.length c2,.func (.func 149) #[] #[.pointer (some ⟨b,0,none⟩)]] w λ v w'=>∃ z:Bool,v=.bool z/\Below w.heap.size w w'/\(z=true↔∃ r∈rws ps,(Ao cs && CT cs r)=false):=by
 apply DX
 delta Ci G S;try dsimp only [Ps]
 refine (Wq hc hl hn hq hr hm).mono ?_;rintro _ w1 ⟨_,rfl,z,rfl,B,h⟩;exact⟨_,rfl,_,rfl,B,by rw [decide_eq_true_eq];exact h⟩
theorem IF{l:List UInt8}{v:AD}{r:Value}{w w':World}(hr:AK v=true)(h:Ago l v r w w'):∃ a c,r=.tuple #[.slice a (l++Cr v).length c,.int .i64 0]/\Bj w w' (l++Cr v) a c:=by
 rcases h with ⟨h,_⟩ | ⟨_,h⟩
 ·rw [hr] at h;cases h
 ·exact h
set_option maxHeartbeats 1000000 in
theorem IP(T:Hb w)(hl:Rd w a (BF cs))(hn:cs.length<=9223372036854775807)(hq:∀ c∈cs,c.1.size<=9223372036854775807)(hr:A9 w a2 ps)(hm:ps.length<=9223372036854775807)(hv:∀ r∈rws ps,∀ v∈r,BM v) :
  Cw 113 #[.slice a cs.length c,.slice a2 ps.length c2] w λ v w'=>AbP cs (rws ps) v/\Below w.heap.size w w':=by
 apply Md
 delta A Ab B Ew AM Cb Cf Cs D E F H I J Ks Li Ls Lt N O P Rs Rt S Am T U Wu X Y;try dsimp only [Ps]
 refine (ST.start w).An λ b3 w1 dI B1 S=>⟨_,_,_,S.cell 0 rfl rfl,?_⟩;refine (Ga (l:=[]) (a:=none) (c:=0) (Rd.nil _ _) Osi (hl.grown S.Ar) hn hq).mono ?_;rintro _ w2 ⟨_,rfl,h2⟩;have bad:∀ {wx:World} (e:Int),Below w.heap.size w wx->(DW cs (rws ps)=e)->e≠0->AbP cs (rws ps) (.tuple #[.string ⟨#[]⟩,.int .i64 e])/\Below w.heap.size w wx:=by
  rintro wx e B rfl h0;refine⟨.inl ⟨λ hs=>h0 ?_,rfl,h0⟩,B⟩;have h1:¬ (1024<(rws ps).length\/∃ r∈rws ps,CT cs r=false):=by
   rintro (h | ⟨r,hr,h⟩)
   ·have:=hs.len;omega
   ·rw [hs.fits r hr] at h;cases h
  have h2:¬ Ao cs=false:=by rw [hs.right];decide
  rw [DW,if_neg h2,if_neg h1]
 rcases h2 with ⟨hR,rfl,B2⟩ | ⟨hR,jC,il,rfl,h2⟩
 ·refine⟨_,_,_,_,rfl,(S.grown B2).An λ b8 w3 _ _ S=>S.BD 0 rfl Osi rfl λ w4 S=>Ai (λ _=>bad 50 S.Ar ?_ Ode) (λ h=>by cases h)⟩;rw [DW,if_pos hR]
 have gp:¬ Ao cs=false:=by rw [hR];decide
 rw [List.nil_append] at h2 ⊢;have S:=Ba S h2;refine⟨_,_,_,_,rfl,S.An λ b8 w3 _ _ S=>S.BD 0 rfl (aC:=#[.slice jC (Cx cs).length il]) Osi rfl λ w4 S=>Ai (λ h=>absurd rfl h) (λ _=>Aa (λ h=>bad 51 S.Ar ?_ Ode) (λ hlen=>?_))⟩
 ·have:1024<(rws ps).length:=by simp only [rws,AiH];omega
  rw [DW,if_neg gp,if_pos (.inl this)]
 have bN:ps.length<=1024:=Omg;refine (RB (S.cell 2 rfl rfl) (hl.grown S.Ar) hn hq (hr.grown S.Ar) Omg).mono ?_;rintro _ w5 ⟨_,rfl,z,rfl,B5,hz⟩;have S:=S.grown B5;refine⟨_,rfl,Aq (λ h=>bad 51 S.Ar ?_ Ode) (λ oT=>?_)⟩
 ·obtain⟨r,hr,hf⟩:=hz.1 h;rw [hR,Bool.true_and] at hf;rw [DW,if_neg gp,if_pos (.inr ⟨r,hr,hf⟩)]
 have aK:Br cs (rws ps):=by
  refine⟨hR,by simp only [rws,AiH];omega,λ r hr=>?_,hv⟩;cases hf:CT cs r with
  | true=>rfl
  | false =>
   have:=hz.2 ⟨r,hr,by rw [hf,Bool.and_false]⟩;rw [oT] at this;cases this
 have lK:∀ p∈ps,p.2.2.length=cs.length:=λ p hp=>aK.Ud (Ah9.2 ⟨p,hp,rfl⟩);have bQ:=AX hR;have bF:=Fy hR;have d1:=Ah (n:=ps.length) Omg;have xI:Rd w5 jC ((Cx cs).map Ag):=Dd S 1 rfl;rw [Aj Omg Omg];refine⟨_,_,_,S.cell 0 rfl rfl,(AE (Cx cs) xI ps.length Omg Omg).mono ?_⟩;rintro _ w6 ⟨_,rfl,a6,c6,rfl,h6⟩;have S:=Ba S h6;refine⟨_,_,_,rfl,S.BD 1 rfl (aC:=#[.slice a6 (Cx cs++Af ps.length).length c6]) Osi rfl λ w7 S=>S.An λ jD w8 ku _ S=>XS Af4 AeL (S.CA 0 rfl) λ w9 K9 yh=>⟨_,_,_,rfl,?_⟩⟩;have S:=S.H7 0 rfl (K9.mono λ k _ h=>by subst h;rfl) (AbR (some ⟨jD,0,none⟩) 4 Cg) (.inr ⟨_,rfl,rfl,Rd.Al yh,rfl,(Array.getElem?_eq_some_iff.1 yh).1⟩) (λ k hk=>.inl hk);refine S.An λ lX bX _ _ S=>S.BD 0 rfl (aC:=#[.slice (some ⟨jD,0,none⟩) 4 4]) Osi rfl λ aZ S=>⟨_,_,_,S.cell 5 rfl rfl,Lk.mono ?_⟩;rintro _ bL ⟨_,rfl,q1,q2,rfl,P⟩;have S:=S.join P;refine⟨_,_,_,rfl,by kernel_rfl,λ rr aA dZ hy=>?_⟩;have S:=S.range rr
 obtain⟨L,hL⟩:∃ L,L=bL.heap.size+1:=⟨_,rfl⟩;obtain⟨d,hd⟩:∃ d,d=bL.heap.size:=⟨_,rfl⟩;rw [<- hL] at S hy ⊢;rw [<- hd] at S ⊢;have S:=S.pull 6 rfl;let Hq:Obj->Option Addr->Nat->List UInt8->Option Addr->Nat->List UInt8->List It:=λ o fa fc ft ba bc bb=>[BW fa fc ft,It.obj L o,It.obj d (.deferred (some [])),It.cells q2 #[.slice a2 ps.length c2] 35,It.cells q1 #[.slice a cs.length c] 27,
  It.cells lX #[.slice ba bb.length bc] 77,AbR ba bc bb,It.cells b8 #[.slice fa ft.length fc] 77,BW jC il (Cx cs),It.cells b3 #[.slice a cs.length c] 27]
 let J:Nat->World->Prop:=λ q wx=>∃(xs:List (List UInt8)) (fa:Option Addr) (fc:Nat) (ba:Option Addr) (bc:Nat),xs.length=q/\Ed cs (rws ps) xs /\
  ST w wx (Hq (.loop rr) fa fc (Cx cs++Af ps.length++Cm (rws ps) xs) ba bc (Cg++xs.flatten))
 have bB:=RC (w:=(bL.alloc (.deferred (some []))).alloc (.loop rr)) (c:=c2) (L:=L) (b1:=q1) (b2:=q2) (a:=a2) (c2:=c) (a2:=a) (n:=cs.length) hn Omg lK J (λ q wx hj=>by
   obtain⟨xs,fa,fc,ba,bc,_,_,S⟩:=hj;exact⟨hr.grown S.Ar,S.cell 3 rfl rfl⟩) (λ q wx wy hj B=>by
   obtain⟨xs,fa,fc,ba,bc,h1,h2,S⟩:=hj;exact⟨xs,fa,fc,ba,bc,h1,h2,S.grown B⟩) (by
  rintro q wx la lc mC ⟨xs,fa,fc,ba,bc,dE,eH,S⟩ hla;subst dE;have hg:=aK.DN mC;have ct:=eH.flat aK;have qZ:=eH.AdM aK;obtain⟨⟨z1,z2⟩,z3,z4⟩:=hg.AaH;have eK:(Bt (rws ps) xs.length).length=ps.length:=by rw [FW];simp [rws]
  refine hy _ _ _ _ _ wx (S.get 1 rfl) ?_;refine S.Ag0 1 rfl λ au vz S=>?_;obtain⟨p,hp,c0,c1,c2⟩:=Fq (hl.grown S.Ar) mC;refine⟨_,_,_,S.cell 9 rfl rfl,⟨Omg,Omg⟩,?_⟩;rw [hp];refine⟨_,by rw [Ait];exact c1,?_⟩;have m5:=vz _ _ hla;have hE:=JG (c:=lc) cs[xs.length].2.1 m5 Omg hg.ok;rw [eK] at hE;refine hE.mono ?_;rintro _ ah ⟨_,rfl,fJ⟩;rcases fJ with ⟨aP,_⟩ | ⟨_,x,xa,xc,hx,rfl,fJ⟩
  ·rw [hg.right] at aP;cases aP
  have dE:=hx.len hg;have xW:0<x.length:=by have:=(hx.read hg).2.1;omega
  have S:=Ba S fJ;have hZ:=Mm (c:=lc) (m5.grown fJ.Ar);rw [eK] at hZ;refine⟨_,_,_,_,rfl,hZ.mono ?_⟩;rintro _ cd ⟨_,rfl,xd,tC⟩;rcases xd with ⟨_,rfl⟩ | ⟨aP,_⟩
  case inr=>exact absurd hg.GD aP
  have S:=S.grown tC;refine⟨_,_,_,_,_,_,_,_,rfl,S.An λ tj cF _ _ S=>S.Y7 0 rfl λ du S=>⟨_,_,_,S.cell 7 rfl rfl,?_⟩⟩;have hrx:Rd du xa (x.map Ag):=Dd S 1 rfl;have m7:Cg.length=4:=rfl;refine Aav S 8 rfl hrx xW (by rw [Aiq];omega) λ a25 u7 eA S=>⟨_,_,_,rfl,S.BD 7 rfl (aC:=#[.slice a25 (Cg++xs.flatten++x).length u7]) Osi rfl λ ie S=>S.draw λ lS _ S=>⟨_,_,_,S.cell 9 rfl rfl,_,S.cell 0 rfl rfl,?_⟩⟩;have br:Au (Bt (rws ps) xs.length)<=1024:=by have:=CW (Bt (rws ps) xs.length);omega
  obtain⟨ft,bV⟩:∃ ft,ft=Cx cs++Af ps.length++Cm (rws ps) xs:=⟨_,rfl⟩;rw [<- bV] at S ⊢;have l9:ft.length<=40000:=by rw [bV];simp only [Aiq];omega
  have iW:Rd lS fa (ft.map Ag):=Dd S 2 rfl;rw [Aj (n:=(x.length:Int)) Omg Omg];refine (AE ft iW x.length Omg Omg).mono ?_;rintro _ oZ ⟨_,rfl,a28,c28,rfl,yO⟩;have S:=Ba S yO;have yD:=Ah (n:=x.length) Omg;have e29:=Ah (n:=Au (Bt (rws ps) xs.length)) Omg;have yE:=Ho z1 z2;have yF:=Ho z3 z4;refine⟨_,_,_,rfl,S.cell 1 rfl rfl,?_⟩;rw [Aj (n:=((Au (Bt (rws ps) xs.length):Nat):Int)) Omg Omg];refine (AE _ yO.rd (Au (Bt (rws ps) xs.length)) Omg (by rw [Aiq];omega)).mono ?_;rintro _ kV ⟨_,rfl,a29,c29,rfl,h29⟩;have S:=Ba S h29;refine⟨_,_,_,rfl,S.BD 11 rfl (aC:=#[.slice a29 (ft++Af x.length++Af (Au (Bt (rws ps) xs.length))).length c29]) Osi rfl λ eU S=>⟨_,_,_,S.cell 11 rfl rfl,_,S.cell 2 rfl rfl,_,S.cell 2 rfl rfl,_,S.cell 2 rfl rfl,?_⟩⟩;have xA:Rd eU a29 ((ft++Af x.length++Af (Au (Bt (rws ps) xs.length))).map Ag):=Dd S 0 rfl;refine (JB _ xA (FM (Bt (rws ps) xs.length)).1 z2 (by simp only [Aiq];omega)).mono ?_
  rintro _ kW ⟨_,rfl,h31⟩;obtain⟨a31,c31,rfl,n31⟩:=IF z1 h31;have S:=Ba S n31;refine⟨_,_,_,_,rfl,S.BD 12 rfl (aC:=#[.slice a31 (ft++Af x.length++Af (Au (Bt (rws ps) xs.length))++Cr (FM (Bt (rws ps) xs.length)).1).length c31]) Osi rfl λ cR S=>⟨_,_,_,S.cell 12 rfl rfl,_,S.cell 3 rfl rfl,_,S.cell 3 rfl rfl,_,S.cell 3 rfl rfl,?_⟩⟩;have xB:Rd cR a31 ((ft++Af x.length++Af (Au (Bt (rws ps) xs.length))++Cr (FM (Bt (rws ps) xs.length)).1).map Ag):=Dd S 0 rfl;refine (JB _ xB (FM (Bt (rws ps) xs.length)).2 z4 (by simp only [Aiq];omega)).mono ?_;rintro _ j0 ⟨_,rfl,sF⟩;obtain⟨a33,s4,rfl,n33⟩:=IF z3 sF;have S:=Ba S n33;have pq:ft++Af x.length++Af (Au (Bt (rws ps) xs.length))++Cr (FM (Bt (rws ps) xs.length)).1++Cr (FM (Bt (rws ps) xs.length)).2=Cx cs++Af ps.length++Cm (rws ps) (xs++[x]):=by
   rw [Q7,bV];simp [JI]
  have po:Cg++xs.flatten++x=Cg++(xs++[x]).flatten:=Osi;rw [pq] at S ⊢;rw [po] at S;refine⟨_,_,_,_,rfl,S.BD 13 rfl (aC:=#[.slice a33 (Cx cs++Af ps.length++Cm (rws ps) (xs++[x])).length s4]) Osi rfl λ rb S=>S.AdG 7 aA dZ rfl λ w' S=>⟨rfl,xs++[x],a33,s4,a25,u7,Osi,eH.snoc mC hx,?_⟩⟩;exact (Abo S 12 rfl).keep 6) ⟨[],a6,c6,some ⟨jD,0,none⟩,4,rfl,Ed.nil _ _,by
   have e1:Cx cs++Af ps.length++Cm (rws ps) []=Cx cs++Af ps.length:=by simp [Cm]
   have e2:Cg++([]:List (List UInt8)).flatten=Cg:=Osi;rw [e1,e2];exact S⟩ (S.cell 4 rfl rfl)
 refine bB.mono ?_;rintro _ xi ⟨_,rfl,xs,fa,fc,ba,bc,dE,eH,S⟩;refine⟨⟨_,rfl⟩,S.AdF 1 aA dZ rfl λ tA S=>⟨rfl,S.draw λ j6 _ S=>⟨_,_,_,S.cell 5 rfl rfl,_,_,_,S.cell 7 rfl rfl,_,_,_,S.cell 7 rfl rfl,?_⟩⟩⟩;have ct:=eH.flat aK;have qZ:=eH.Sq aK;have bM:=eH.Aam aK;have s7:Cx cs++Af ps.length++Cm (rws ps) xs=Dy cs (rws ps) xs:=by
  unfold Dy;rw [show (rws ps).length=ps.length by simp [rws]]
 rw [s7] at S ⊢;obtain⟨ft,bV⟩:∃ ft,ft=Dy cs (rws ps) xs:=⟨_,rfl⟩;rw [<- bV] at S qZ ⊢;obtain⟨bb,iM⟩:∃ bb,bb=Cg++xs.flatten:=⟨_,rfl⟩;rw [<- iM] at S ⊢;refine (Ug ft.length Omg).mono ?_;rintro _ re ⟨_,rfl,rv,rfl,h38⟩;have S:=Ba S h38;refine⟨_,_,_,rfl,S.cell 8 rfl rfl,S.cell 6 rfl rfl,S.An λ b69 kX _ _ S=>?_⟩;have rA:Rd kX ba (bb.map Ag):=S.rdF 8 rfl;have iW:Rd kX fa (ft.map Ag):=Dd S 2 rfl;have oG:Rd kX (some ⟨rv,0,none⟩) ((KJ ft.length).map Ag):=Dd S 1 rfl;have wh:Rd kX (some ⟨b69,0,none⟩) ([(ba,bc,bb),(fa,fc,ft),(some ⟨rv,0,none⟩,4,KJ ft.length)].map BZ):=S.F0 0 rfl;have ebl:bb.length<=33000004:=by rw [iM];simp only [Aiq,Cg,Ais,AjE];omega
 refine (Bl (c:=3) [(ba,bc,bb),(fa,fc,ft),(some ⟨rv,0,none⟩,4,KJ ft.length)] wh (by
   intro p hp;simp only [Aia,Aju,or_false] at hp;rcases hp with rfl | rfl | rfl
   ·exact rA
   ·exact iW
   ·exact oG) Osi (by rw [Vx];simp only [Aiq,KJ,Ais,AjE];omega)).mono ?_
 rintro _ xj ⟨_,rfl,a40,s5,rfl,pz⟩;have mf:BR [(ba,bc,bb),(fa,fc,ft),(some ⟨rv,0,none⟩,4,KJ ft.length)]=JX cs (rws ps) xs:=by
  rw [Vx,iM,bV];simp [JX]
 rw [mf] at pz ⊢;have S:=Ba S pz;obtain⟨pre,cl⟩:∃ pre,pre=JX cs (rws ps) xs:=⟨_,rfl⟩;rw [<- cl] at S bM ⊢;refine⟨_,_,_,rfl,S.BD 8 rfl (aC:=#[.slice a40 pre.length s5]) Osi rfl λ rh S=>⟨_,_,_,S.cell 8 rfl rfl,S.An λ b73 mJ _ _ S=>?_⟩⟩;have xC:Rd mJ a40 (pre.map Ag):=Dd S 1 rfl;have wi:Rd mJ (some ⟨b73,0,none⟩) ([(a40,s5,pre)].map BZ):=S.F0 0 rfl;have yG:BR [(a40,s5,pre)]=pre:=by simp [BR]
 refine (Kp (c:=1) (T.grown S.Ar) [(a40,s5,pre)] wi (by
   intro p hp;simp only [Aia,Aju,or_false] at hp;subst hp;exact xC) Osi (by rw [yG];omega)).mono ?_
 rw [yG];rintro _ zO ⟨_,rfl,rfl,zY⟩;have S:=S.grown zY;have bp:(H9 pre).length=32:=Fu _;obtain⟨dg,hdg⟩:∃ dg,dg=H9 pre:=⟨_,rfl⟩;rw [<- hdg] at bp ⊢;refine Iw (dg) bp ⟨rfl,?_⟩;refine S.An λ y9 w44 _ _ S=>?_;have jb:((dg).map Ag).length=32:=by rw [AiH];exact bp
 refine Dg jb ?_;refine S.Eb 0 rfl jb (FR _) λ zP S=>?_;refine S.draw λ pO _ S=>?_;refine⟨⟨Omg,Omg,Omg⟩,_,_,_,S.cell 10 rfl rfl,?_⟩;have xD:Rd pO (Ch (some ⟨y9,0,none⟩) 0 32 1) ((dg).map Ag):=by
  have h:=(S.F0 0 rfl).NQ 0 32 32 1 Omg;have e:(AjX ((32-0)*1) (AjY (0*1) ((dg).map Ag)))=(dg).map Ag:=by
   rw [Ajv,AjV];exact AiZ (by rw [AiH];omega)
  have h':Rd pO (Ch (some ⟨y9,0,none⟩) 0 32 1) (AjX ((32-0)*1) (AjY (0*1) ((dg).map Ag))):=h;rwa [e] at h'
 refine Xd S 2 rfl bp xD Omg λ a47 c47 w47 S=>⟨_,_,_,rfl,?_⟩;have xE:Rd w47 a47 ((pre++dg).map Ag):=Dd S 2 rfl;refine Aw Ca rfl xE ⟨_,rfl,S.get 7 rfl,.inr ⟨aK,_,rfl,⟨xs,dE,eH,?_⟩⟩,(S.put 7 rfl _).Ar⟩;rw [Lh,hdg,cl]
end
def EF(p:BH):It:=Lx p.1 p.2.1 p.2.2
def EV(bo:Nat)(ps:List BH):List It:=It.cells bo ⟨ps.map Co⟩ 69 :: ps.map EF
theorem AgA:Me Aix 69=some (120,3,32,.agg #[.int .i64 0,.int .i64 0,.string ⟨#[]⟩]):=by kernel_rfl
theorem Abq:Me Aix 35=some (69,1,24,.slice none 0 0):=by kernel_rfl
section
variable {w0 w:World}{E:List It}{bo:Nat}{ps:List BH}
theorem LJ(S:ST w0 w (E++EV bo ps)){i:Nat}(hi:i<ps.length):w.cell? ((⟨bo,0,none⟩:Addr).add (i*1))=some (.slice ps[i].1 ps[i].2.2.length ps[i].2.1):=by
 rw [Ax,Aiv,Aiw];refine S.cell E.length (cs:=⟨ps.map Co⟩) (t:=69) ?_ ?_
 ·rw [Aj2 (Ain _),Aj3];rfl
 ·rw [<- Array.getElem?_toList];show (ps.map Co)[i]?=_;rw [Aj4,Ajk hi];rfl
theorem Ye(S:ST w0 w (E++EV bo ps)){i:Nat}(hi:i<ps.length){x:AD}{b:Nat}(hs:Rd w (some ⟨b,0,none⟩) (HG x))(hl:ps[i].2.2.length+1<=1000000){f:Value->World->Prop}
  (hf:∀ a' c' w',(∀ k:World->Prop,(∀ cQ,ST w0 cQ (E++EV bo (ps.set i (a',c',ps[i].2.2++[x])))->k cQ)->DG ((⟨bo,0,none⟩:Addr).add (i*1)) (.slice a' (ps[i].2.2++[x]).length c') k w')->f (.slice a' (ps[i].2.2++[x]).length c') w') :
  De Aix (Builtin.append_ #[69,69] 69 #[.slice ps[i].1 ps[i].2.2.length ps[i].2.1,.slice (some ⟨b,0,none⟩) 1 1]) f w:=by
 have hn:(E++EV bo ps)[E.length+(i+1)]?=some (Lx ps[i].1 ps[i].2.1 ps[i].2.2):=by
  rw [Aj2 Omg,Nat.add_sub_cancel_left];show (ps.map EF)[i]?=_;rw [Aj4,Ajk hi];rfl
 refine Xe S (E.length+(i+1)) AgA hn hs hl λ a' c' w' S'=>hf a' c' w' λ k hk=>?_;rw [Ax,Aiv,Aiw];have e1:(E++EV bo ps).set (E.length+(i+1)) (Lx a' c' (ps[i].2.2++[x]))=E++(It.cells bo ⟨ps.map Co⟩ 69 :: (ps.set i (a',c',ps[i].2.2++[x])).map EF):=by
  rw [List.set_append_right _ _ Omg,Nat.add_sub_cancel_left];show E++(_ :: (ps.map EF).set i _)=_;rw [List.map_set];rfl
 rw [e1] at S';refine S'.BD E.length (cs:=⟨ps.map Co⟩) (aC:=⟨(ps.set i (a',c',ps[i].2.2++[x])).map Co⟩) (t:=69) ?_ (by show i<(ps.map Co).length;simpa using hi) ?_ λ cQ S''=>hk cQ ?_
 ·rw [Aj2 (Ain _),Aj3];rfl
 ·apply Array.ext';rw [Array.toList_setIfInBounds,List.map_set];rfl
 ·rw [List.set_append_right _ _ (Ain _),Aj3] at S'';exact S''
theorem P6(S:ST w0 w (E++EV bo ps)):A9 w (some ⟨bo,0,none⟩) ps:=by
 refine⟨?_,λ p hp=>?_⟩
 ·have hg:w.heap[bo]?=some (.cells ⟨ps.map Co⟩ 69 (0,0)):=S.ok (It.cells bo ⟨ps.map Co⟩ 69) (by simp [EV]);exact Rd.Al hg
 ·have:(EF p).ok w:=S.ok _ (List.mem_append_right _ (List.mem_cons_of_mem _ (Ah9.2 ⟨p,hp,rfl⟩)));exact Row.rd this
theorem Vz(S:ST w0 w E){w':World}(n:Nat)(hb:w.heap.size<=bo)(B:Below w.heap.size w w')(hg:w'.heap[bo]?=some (.cells (madeCells (Value.slice none 0 0).cells (n*1)) 69 (0,0))):ST w0 w' (EV bo (Aio n (none,0,[]))++E):=by
 have e:madeCells (Value.slice none 0 0).cells (n*1)=⟨(Aio n ((none,0,[]):BH)).map Co⟩:=by
  apply Array.ext';rw [D5 _ rfl,Aiw,List.map_replicate];rfl
 rw [e] at hg;have S1:∀ m,ST w0 w' ((Aio m ((none,0,[]):BH)).map EF++E):=by
  intro m
  induction m with
  | zero=>exact S.grown B
  | succ m ih=>rw [List.replicate_succ];exact ih.nil _ _
 have nn:∀ k,(It.cells bo ⟨(Aio n ((none,0,[]):BH)).map Co⟩ 69).CA=some k->∀ y∈(Aio n ((none,0,[]):BH)).map EF++E,y.CA≠some k:=by
  intro k hk y hy xX;have dY:bo=k:=Ajx hk;rcases Ajn.1 hy with h | h
  ·obtain⟨p,hp,rfl⟩:=Ah9.1 h;rw [(List.mem_replicate.1 hp).2] at xX;cases xX
  ·have:=y.lt w (S.ok y h) k xX;omega
 refine⟨(S1 n).Ar,λ x hx=>?_,List.pairwise_cons.2 ⟨λ y hy k hk=>nn k hk y hy,(S1 n).nd⟩,λ x hx k hk=>?_⟩
 ·rcases Aia.1 hx with rfl | hx
  ·exact hg
  ·exact (S1 n).ok x hx
 ·rcases Aia.1 hx with rfl | hx
  ·have dY:bo=k:=Ajx hk;have:=S.Ar.size;omega
  ·exact (S1 n).own x hx k hk
end
def rowAt(Ay:List (List AD))(r:Nat):List AD:=Ay.map λ l=>l.getD r Z0
def rowsOf(Ay:List (List AD))(n:Nat):List (List AD):=(Ai0 n).map (rowAt Ay)
theorem Aar(aR:List BH){j:Nat}(hj:j<aR.length){r:Nat}(hr:r<aR[j].2.2.length):rowAt (rws (aR.take (j+1))) r=rowAt (rws (aR.take j)) r++[aR[j].2.2[r]]:=by
 unfold rowAt rws;rw [Ajl hj,AiK,AiK];simp only [Aj5,List.map_nil,AjZ,Ajk hr,Option.getD_some]
theorem YU{ps:List BH}{n:Nat}{Ay:List (List AD)}(hl:ps.length=n)(h:∀ r (hr:r<ps.length),ps[r].2.2=rowAt Ay r):rws ps=rowsOf Ay n:=by
 refine AjW (by simp [rowsOf,hl]) λ r h1 h2=>?_;simp only [rws,List.getElem_map,rowsOf,List.getElem_range];exact h r (by simpa using h1)
section
variable {w:World}{p:Addr}{n:Nat}{aR:List BH}{va:Option Addr}{vc:Nat}
theorem Age(h3:w.cell? (p.add 3)=some (.int .i64 (n:Int)))(h1:w.cell? (p.add 1)=some (.slice va aR.length vc))(hv:A9 w va aR)(hn:n<=4096)(hc:aR.length<=1000)(hl:∀ q∈aR,q.2.2.length=n) :
  Cw 117 #[.pointer (some p)] w λ v w'=>∃ bo ps,v=.slice (some ⟨bo,0,none⟩) n n/\ps.length=n/\rws ps=rowsOf (rws aR) n/\A9 w' (some ⟨bo,0,none⟩) ps/\Below w.heap.size w w':=by
 apply HP
 delta Ad D F I J Ks Li Ls Lt N Qi Rs S Am T W X;try dsimp only [Ps]
 refine⟨_,h3,DS Abq (l:=(n:Int)) (c:=(n:Int)) Omg Omg Omg Omg λ bo w1 fW B1 kn=>?_⟩;rw [Ait] at kn ⊢;have S:=Vz (ST.start w) n fW B1 kn;rw [Ajr] at S;refine⟨_,_,_,rfl,λ s w2=>∃(i:Nat) (ps:List BH),s=[.int .i64 (i:Int)]/\i<=n/\ps.length=n/\(∀ r (hr:r<ps.length),ps[r].2.2=if r<i then rowAt (rws aR) r else [])/\ST w w2 ([]++EV bo ps),λ s _=>match s with
   | [.int _ i]=>n-i.toNat
   | _=>0,⟨0,_,rfl,Omg,Osi,λ r hr=>Osi,S⟩,?_⟩
 rintro _ w2 ⟨i,ps,aA,hi,bM,aI,S⟩;cases aA;refine Aa (λ aB=>?_) (λ aJ=>⟨bo,ps,rfl,bM,YU bM λ r hr=>by rw [aI r hr,if_pos Omg],P6 S,S.Ar⟩);have cG:i<n:=Omg;have K:=Ak.AB (F:=λ _=>False) S.Ar;refine⟨_,_,_,K.cell h1 Osi,?_⟩;refine⟨λ s w3=>∃(j:Nat) (ps:List BH),s=[.int .i64 (j:Int)]/\j<=aR.length/\ps.length=n/\(∀ r (hr:r<ps.length),ps[r].2.2=if r<i then rowAt (rws aR) r else if r=i then rowAt (rws (aR.take j)) r else [])/\ST w w3 ([]++EV bo ps),λ s _=>match s with
   | [.int _ j]=>aR.length-j.toNat
   | _=>0,⟨0,ps,rfl,Omg,bM,λ r hr=>by rw [aI r hr];simp [rowAt],S⟩,?_⟩
 clear aI S bM ps K;rintro _ w3 ⟨j,ps,aA,hj,bM,aI,S⟩;cases aA;refine Aa (λ aB=>⟨⟨Omg,aB⟩,?_⟩) (λ aJ=>?_)
 ·have f':j<aR.length:=Omg;have hlen:=hl _ (Ai7 f');obtain⟨q,hq,aE,bS⟩:=(hv.grown S.Ar).at f';rw [hq];refine⟨_,_,_,by rw [Ait];exact aE,S.draw λ w4 B4 S=>?_⟩;have sQ:i<ps.length:=Omg;obtain⟨q2,iV,d0,d1,d2⟩:=Db (bS.grown B4) (i:=i) Omg;have vj:=LJ S sQ;refine⟨⟨Omg,Omg⟩,⟨Omg,Omg⟩,?_⟩;rw [iV];refine⟨_,_,_,by rw [Ait];exact vj,_,by rw [Ait];exact d0,_,by rw [Ait];exact d1,_,by rw [Ait];exact d2,S.An λ kI w5 _ _ S=>?_⟩;have S':ST w w5 ([It.cells kI (HG (aR[j].2.2[i]'Omg)).toArray 120]++EV bo ps):=S;have nb:=LJ S' sQ;have rC:ps[i].2.2=rowAt (rws (aR.take j)) i:=by rw [aI i sQ];simp
  have lK:ps[i].2.2.length=j:=by rw [rC];simp [rowAt,rws];omega
  refine⟨by rw [Ait];exact nb,?_⟩;have aY:Rd w5 (some ⟨kI,0,none⟩) (HG (aR[j].2.2[i]'Omg)):=S'.F0 0 rfl;refine Ye S' sQ aY Omg λ a6 c6 w6 hk=>⟨_,_,_,rfl,⟨Omg,Omg⟩,?_⟩;rw [Ait];unfold Av;simp only;refine hk _ λ w7 S=>?_;rw [Ae Omg];refine⟨⟨j+1,ps.set i (a6,c6,ps[i].2.2++[aR[j].2.2[i]'Omg]),rfl,Omg,by rw [List.length_set];exact bM,λ r hr=>?_,S.drop 1⟩,?_⟩
  ·rw [List.length_set] at hr;rw [List.getElem_set];by_cases lJ:i=r
   ·subst lJ;simp only [if_true,Nat.lt_irrefl,if_false];rw [Aar aR f' Omg,rC]
   ·rw [if_neg lJ,aI r hr];by_cases h5:r<i
    ·rw [if_pos h5,if_pos h5]
    ·rw [if_neg h5,if_neg h5,if_neg (λ h=>lJ h.symm),if_neg (λ h=>lJ h.symm)]
  ·show aR.length-((j+1:Nat):Int).toNat<aR.length-((j:Nat):Int).toNat;simp only [Ait];omega
 ·rw [Ae Omg];refine⟨⟨i+1,ps,rfl,Omg,bM,λ r hr=>?_,S⟩,?_⟩
  ·rw [aI r hr,AiZ Omg];by_cases h5:r<i
   ·rw [if_pos h5,if_pos Omg]
   ·by_cases h6:r=i
    ·rw [if_neg h5,if_pos h6,if_pos Omg]
    ·rw [if_neg h5,if_neg h6,if_neg Omg]
  ·show n-((i+1:Nat):Int).toNat<n-((i:Nat):Int).toNat;simp only [Ait];omega
end
def AH(lim:Nat)(l:List UInt8)(at_:Nat):Nat->Option (List Nat × Nat)
 | 0=>some ([],at_)
 | k+1=>match takeN l (at_:Int) with
  | none=>none
  | some x=>match takeN l (x.2:Int) with
   | none=>none
   | some y=>match Bg l (y.2:Int) with
    | none=>none
    | some u=>match Bg l (u.2:Int) with
     | none=>none
     | some v=>if lim<x.1 then none else (AH lim l v.2 k).map λ r=>(x.1 :: r.1,r.2)
def Ec(lim:Nat)(l:List UInt8)(at_:Int)(n:Nat):Option (Nat × List Nat) :=
 match takeN l at_ with
 | none=>none
 | some x=>if 1024<x.1 then none else (AH lim l x.2 n).map λ r=>(x.1,r.1)
def HW(a:Option Addr)(c:Nat)(ns:List Nat):It:=It.row 3 1 a ns.length c (ns.map λ n:Nat=>Value.int .i64 (n:Int))
theorem Ahp:Me Aix 187=some (3,1,8,.int .i64 0):=by kernel_rfl
theorem Aex{w0 w:World}{H:List It}{a:Option Addr}{c:Nat}{ns:List Nat}(S:ST w0 w H)(n:Nat)(hn:H[n]?=some (HW a c ns)){x:Nat}{b:Nat}(hs:Rd w (some ⟨b,0,none⟩) [Value.int .i64 (x:Int)])(hl:ns.length+1<=1000000){f:Value->World->Prop}
  (hf:∀ a' c' w',ST w0 w' (H.set n (HW a' c' (ns++[x])))->f (.slice a' (ns++[x]).length c') w') :
  De Aix (Builtin.append_ #[187,187] 187 #[.slice a ns.length c,.slice (some ⟨b,0,none⟩) 1 1]) f w:=by
 refine S.app n hn Ahp rfl Omg Omg hs (mm:=1) rfl (by simp;rfl) Omg λ a' c' w' S'=>?_;have e1:(ns++[x]).length=ns.length+1:=Osi;have e2:(ns.map λ n:Nat=>Value.int .i64 (n:Int))++[Value.int .i64 (x:Int)]=(ns++[x]).map λ n:Nat=>Value.int .i64 (n:Int):=Osi;rw [e2] at S';have:=hf a' c' w' (by unfold HW;rw [e1];exact S');rwa [e1] at this
theorem DT{l:List UInt8}{at_:Int}(o:Option (Nat × Nat))(h:takeN l at_=o):∃(n k:Nat) (e:Int),KM o=.tuple #[.int .u64 (n:Int),.int .i64 (k:Int),.int .i64 e]/\k<=l.length/\n<18446744073709551616/\((e=0/\o=some (n,k))\/(e≠0/\o=none)):=by
 cases o with
 | none=>exact⟨0,0,20,rfl,Omg,Omg,.inr ⟨Ode,rfl⟩⟩
 | some x =>
  have:=AA (n:=x.1) (k:=x.2) h;exact⟨x.1,x.2,0,rfl,Omg,Omg,.inl ⟨rfl,rfl⟩⟩
theorem Zg{l:List UInt8}{at_:Int}{v:AD}{k:Nat}(h:Bg l at_=some (v,k)):k<=l.length:=by
 unfold Bg at h;split at h
 ·cases h
 ·rename_i hb;simp only at h;split at h
  ·cases h;omega
  ·split at h
   ·obtain⟨x,hx,he⟩:=AjI.1 h;have:=AA (n:=x.1) (k:=x.2) hx;cases he;omega
   ·split at h
    ·split at h
     ·rename_i h2;cases h;omega
     ·cases h
    ·split at h
     ·obtain⟨x,hx,he⟩:=AjI.1 h;have:=Lw (s:=x.1) (k:=x.2) hx;cases he;omega
     ·cases h
theorem IW{l:List UInt8}{at_:Int}(o:Option (AD × Nat))(h:Bg l at_=o):∃(v:AD) (k:Nat) (e:Int),Ur o=.tuple #[.agg #[.int .i64 v.1,.int .i64 v.2.1,.string v.2.2],.int .i64 (k:Int),.int .i64 e]/\k<=l.length/\((e=0/\o=some (v,k))\/(e≠0/\o=none)):=by
 cases o with
 | none=>exact⟨Z0,0,20,rfl,Omg,.inr ⟨Ode,rfl⟩⟩
 | some x=>exact⟨x.1,x.2,0,rfl,Zg (v:=x.1) (k:=x.2) h,.inl ⟨rfl,rfl⟩⟩
def PlV(o:Option (Nat × List Nat))(w w':World)(v:Value):Prop :=
 match o with
 | none=>v=.tuple #[.int .i64 0,.slice none 0 0,.bool false]/\Below w.heap.size w w'
 | some r=>∃ a c,v=.tuple #[.int .i64 (r.1:Int),.slice a r.2.length c,.bool true]/\ST w w' [HW a c r.2]
theorem PlV.bad{o:Option (Nat × List Nat)}{w w':World}(h:o=none)(B:Below w.heap.size w w'):PlV o w w' (.tuple #[.int .i64 0,.slice none 0 0,.bool false]):=by
 subst h;exact⟨rfl,B⟩
section
variable {w:World}{a:Option Addr}{c:Nat}{l:List UInt8}
theorem Pk(hl:Rd w a (l.map Ag))(hc:l.length<=c)(hs:l.length<=140737488355328)(at_:Int)(n:Nat)(hn:n<=1000) :
  Cw 157 #[.slice a l.length c,.int .i64 at_,.int .i64 (n:Int)] w λ v w'=>PlV (Ec 1073741824 l at_ n) w w' v:=by
 apply Ll
 delta A Ab DZ Bz F G H I J Ks N O J8 S Am T W;try dsimp only [Ps]
 refine (AL hl hc Omg at_ ).mono ?_;rintro _ w1 ⟨_,rfl,rfl,rfl⟩;obtain⟨r0,at0,e0,hv0,hk0,hr0,oO⟩:=DT _ (rfl:takeN l at_=takeN l at_);rw [hv0];have bP:takeN l at_=none->Ec 1073741824 l at_ n=none:=λ h=>by simp [Ec,h]
 refine⟨_,_,_,rfl,Ai (λ h=>.bad ?_ (.refl _ _)) (λ p9=>?_)⟩
 ·rcases oO with ⟨h2,_⟩ | ⟨_,h2⟩
  ·exact absurd h2 h
  ·exact bP h2
 have k9:takeN l at_=some (r0,at0):=by
  rcases oO with ⟨_,h2⟩ | ⟨h2,_⟩
  ·exact h2
  ·exact absurd p9 h2
 refine Aa (λ h=>.bad ?_ (.refl _ _)) (λ sC=>?_)
 ·have:1024<r0:=Omg;simp [Ec,k9,this]
 have hT:Ec 1073741824 l at_ n=(AH 1073741824 l at0 n).map λ r=>(r0,r.1):=by
  have:¬ 1024<r0:=Omg;simp [Ec,k9,this]
 rw [hT];refine⟨λ s w2=>∃(i aL:Nat) (ns:List Nat) (na:Option Addr) (nc:Nat),s=[.int .i64 (aL:Int),.slice na ns.length nc,.int .i64 (i:Int)]/\i<=n/\ns.length=i/\aL<=l.length /\
   AH 1073741824 l at0 n=((AH 1073741824 l aL (n-i)).map λ r=>(ns++r.1,r.2))/\ST w1 w2 [HW na nc ns],λ s _=>match s with
  | [_,_,.int _ i]=>n-i.toNat
  | _=>0,⟨0,at0,[],none,0,rfl,Omg,rfl,Omg,Osi,(ST.start w1).nil _ _⟩,?_⟩
 rintro _ na _ nc _ w2 ⟨i,aL,ns,_,_,aA,hi,lE,cV,aW,S⟩;cases aA;refine Aa (λ aB=>?_) (λ aJ=>?_)
 ·obtain⟨m,hm⟩:∃ m,n-i=m+1:=⟨n-i-1,Omg⟩;rw [hm] at aW;have bA:=hl.grown S.Ar;refine (AL bA hc Omg (aL:Int) ).mono ?_;rintro _ w2 ⟨_,rfl,rfl,rfl⟩;obtain⟨x1,x2,e1,hv1,cu,dS,hx1⟩:=DT _ (rfl:takeN l (aL:Int)=takeN l (aL:Int));rw [hv1];refine⟨_,_,_,rfl,(AL bA hc Omg (x2:Int) ).mono ?_⟩;rintro _ w2 ⟨_,rfl,rfl,rfl⟩;obtain⟨y1,y2,e2,iX,ay,x9,hx2⟩:=DT _ (rfl:takeN l (x2:Int)=takeN l (x2:Int));rw [iX];refine⟨_,_,_,rfl,(Iq bA hc hs (y2:Int)).mono ?_⟩;rintro _ w5 ⟨_,rfl,rfl,B5⟩;have S:=S.grown B5;obtain⟨u1,u2,e3,hv3,iQ,hx3⟩:=IW _ (rfl:Bg l (y2:Int)=Bg l (y2:Int));rw [hv3];refine⟨_,_,_,_,_,rfl,S.Ic λ xy w9 _ S=>(Iq (hl.grown S.Ar) hc hs (u2:Int)).mono ?_⟩;rintro _ bX ⟨_,rfl,rfl,bu⟩;have S:=S.grown bu;obtain⟨v1,v2,e4,hv4,nt,hx4⟩:=IW _ (rfl:Bg l (u2:Int)=Bg l (u2:Int));rw [hv4];refine⟨_,_,_,_,_,rfl,S.Ic λ rq au _ S=>?_⟩;have fail:AH 1073741824 l aL (m+1)=none->((AH 1073741824 l at0 n).map λ r=>(r0,r.1))=none:=λ h=>by rw [aW,h];rfl
  refine Ai (λ h=>.bad (fail ?_) S.Ar) (λ h1=>?_)
  ·rcases hx1 with ⟨h2,_⟩ | ⟨_,h2⟩
   ·exact absurd h2 h
   ·simp [AH,h2]
  have g1:takeN l (aL:Int)=some (x1,x2):=by
   rcases hx1 with ⟨_,h2⟩ | ⟨h2,_⟩
   ·exact h2
   ·exact absurd h1 h2
  refine Ai (λ h=>.bad (fail ?_) S.Ar) (λ h1=>?_)
  ·rcases hx2 with ⟨h2,_⟩ | ⟨_,h2⟩
   ·exact absurd h2 h
   ·simp [AH,g1,h2]
  have g2:takeN l (x2:Int)=some (y1,y2):=by
   rcases hx2 with ⟨_,h2⟩ | ⟨h2,_⟩
   ·exact h2
   ·exact absurd h1 h2
  refine Ai (λ h=>.bad (fail ?_) S.Ar) (λ h1=>?_)
  ·rcases hx3 with ⟨h2,_⟩ | ⟨_,h2⟩
   ·exact absurd h2 h
   ·simp [AH,g1,g2,h2]
  have g3:Bg l (y2:Int)=some (u1,u2):=by
   rcases hx3 with ⟨_,h2⟩ | ⟨h2,_⟩
   ·exact h2
   ·exact absurd h1 h2
  refine Ai (λ h=>.bad (fail ?_) S.Ar) (λ h1=>?_)
  ·rcases hx4 with ⟨h2,_⟩ | ⟨_,h2⟩
   ·exact absurd h2 h
   ·simp [AH,g1,g2,g3,h2]
  have g4:Bg l (u2:Int)=some (v1,v2):=by
   rcases hx4 with ⟨_,h2⟩ | ⟨h2,_⟩
   ·exact h2
   ·exact absurd h1 h2
  refine Aa (λ h=>.bad (fail ?_) S.Ar) (λ gT=>?_)
  ·have:1073741824<x1:=Omg;simp [AH,g1,g2,g3,g4,this]
  rw [wrap_i64 (n:=(x1:Int)) Omg Omg];refine S.An λ ti ah _ _ S=>?_;have aY:Rd ah (some ⟨ti,0,none⟩) [Value.int .i64 (x1:Int)]:=S.F0 0 rfl;refine Aex S 3 rfl aY Omg λ kb kf cd S=>⟨_,_,_,rfl,?_⟩;rw [Ae Omg];refine⟨⟨i+1,v2,ns++[x1],kb,kf,rfl,Omg,by simp [lE],Omg,?_,S.drop 3⟩,?_⟩
  ·rw [aW,show n-(i+1)=m by omega];have:¬ 1073741824<x1:=Omg;simp only [AH,g1,g2,g3,g4,this,if_false,Option.map_map];congr 1;funext r;simp
  ·show n-((i+1:Nat):Int).toNat<n-(i:Int).toNat;omega
 ·have:n-i=0:=Omg;rw [this] at aW;simp only [AH,AjP,Ajr] at aW;rw [aW,wrap_i64 (n:=(r0:Int)) Omg Omg];exact⟨na,nc,rfl,S⟩
theorem T7(hl:Rd w a (l.map Ag))(hc:l.length<=c)(hs:l.length<=140737488355328)(at_:Int)(nE:at_<=9223372036854775807)(n:Nat)(hn:n<=1000) :
  Cw 127 #[.slice a l.length c,.int .i64 at_,.int .i64 (n:Int)] w λ v w'=>PlV (Ec 100000000 l at_ n) w w' v:=by
 apply O7
 delta A Ab DZ Bz F G H I J Ks N O J8 S Am T W;try dsimp only [Ps]
 refine (AJ hl Omg at_ nE).mono ?_;rintro _ w1 ⟨_,rfl,rfl,rfl⟩;obtain⟨r0,at0,e0,hv0,hk0,hr0,oO⟩:=DT _ (rfl:takeN l at_=takeN l at_);rw [hv0];have bP:takeN l at_=none->Ec 100000000 l at_ n=none:=λ h=>by simp [Ec,h]
 refine⟨_,_,_,rfl,Ai (λ h=>.bad ?_ (.refl _ _)) (λ p9=>?_)⟩
 ·rcases oO with ⟨h2,_⟩ | ⟨_,h2⟩
  ·exact absurd h2 h
  ·exact bP h2
 have k9:takeN l at_=some (r0,at0):=by
  rcases oO with ⟨_,h2⟩ | ⟨h2,_⟩
  ·exact h2
  ·exact absurd p9 h2
 refine Aa (λ h=>.bad ?_ (.refl _ _)) (λ sC=>?_)
 ·have:1024<r0:=Omg;simp [Ec,k9,this]
 have hT:Ec 100000000 l at_ n=(AH 100000000 l at0 n).map λ r=>(r0,r.1):=by
  have:¬ 1024<r0:=Omg;simp [Ec,k9,this]
 rw [hT];refine⟨λ s w2=>∃(i aL:Nat) (ns:List Nat) (na:Option Addr) (nc:Nat),s=[.int .i64 (aL:Int),.slice na ns.length nc,.int .i64 (i:Int)]/\i<=n/\ns.length=i/\aL<=l.length /\
   AH 100000000 l at0 n=((AH 100000000 l aL (n-i)).map λ r=>(ns++r.1,r.2))/\ST w1 w2 [HW na nc ns],λ s _=>match s with
  | [_,_,.int _ i]=>n-i.toNat
  | _=>0,⟨0,at0,[],none,0,rfl,Omg,rfl,Omg,Osi,(ST.start w1).nil _ _⟩,?_⟩
 rintro _ na _ nc _ w2 ⟨i,aL,ns,_,_,aA,hi,lE,cV,aW,S⟩;cases aA;refine Aa (λ aB=>?_) (λ aJ=>?_)
 ·obtain⟨m,hm⟩:∃ m,n-i=m+1:=⟨n-i-1,Omg⟩;rw [hm] at aW;have bA:=hl.grown S.Ar;refine (AJ bA Omg (aL:Int) Omg).mono ?_;rintro _ w2 ⟨_,rfl,rfl,rfl⟩;obtain⟨x1,x2,e1,hv1,cu,dS,hx1⟩:=DT _ (rfl:takeN l (aL:Int)=takeN l (aL:Int));rw [hv1];refine⟨_,_,_,rfl,(AJ bA Omg (x2:Int) Omg).mono ?_⟩;rintro _ w2 ⟨_,rfl,rfl,rfl⟩;obtain⟨y1,y2,e2,iX,ay,x9,hx2⟩:=DT _ (rfl:takeN l (x2:Int)=takeN l (x2:Int));rw [iX];refine⟨_,_,_,rfl,(Ig bA hc hs (y2:Int)).mono ?_⟩;rintro _ w5 ⟨_,rfl,rfl,B5⟩;have S:=S.grown B5;obtain⟨u1,u2,e3,hv3,iQ,hx3⟩:=IW _ (rfl:Bg l (y2:Int)=Bg l (y2:Int));rw [hv3];refine⟨_,_,_,_,_,rfl,S.Ic λ xy w9 _ S=>(Ig (hl.grown S.Ar) hc hs (u2:Int)).mono ?_⟩;rintro _ bX ⟨_,rfl,rfl,bu⟩;have S:=S.grown bu;obtain⟨v1,v2,e4,hv4,nt,hx4⟩:=IW _ (rfl:Bg l (u2:Int)=Bg l (u2:Int));rw [hv4];refine⟨_,_,_,_,_,rfl,S.Ic λ rq au _ S=>?_⟩;have fail:AH 100000000 l aL (m+1)=none->((AH 100000000 l at0 n).map λ r=>(r0,r.1))=none:=λ h=>by rw [aW,h];rfl
  refine Ai (λ h=>.bad (fail ?_) S.Ar) (λ h1=>?_)
  ·rcases hx1 with ⟨h2,_⟩ | ⟨_,h2⟩
   ·exact absurd h2 h
   ·simp [AH,h2]
  have g1:takeN l (aL:Int)=some (x1,x2):=by
   rcases hx1 with ⟨_,h2⟩ | ⟨h2,_⟩
   ·exact h2
   ·exact absurd h1 h2
  refine Ai (λ h=>.bad (fail ?_) S.Ar) (λ h1=>?_)
  ·rcases hx2 with ⟨h2,_⟩ | ⟨_,h2⟩
   ·exact absurd h2 h
   ·simp [AH,g1,h2]
  have g2:takeN l (x2:Int)=some (y1,y2):=by
   rcases hx2 with ⟨_,h2⟩ | ⟨h2,_⟩
   ·exact h2
   ·exact absurd h1 h2
  refine Ai (λ h=>.bad (fail ?_) S.Ar) (λ h1=>?_)
  ·rcases hx3 with ⟨h2,_⟩ | ⟨_,h2⟩
   ·exact absurd h2 h
   ·simp [AH,g1,g2,h2]
  have g3:Bg l (y2:Int)=some (u1,u2):=by
   rcases hx3 with ⟨_,h2⟩ | ⟨h2,_⟩
   ·exact h2
   ·exact absurd h1 h2
  refine Ai (λ h=>.bad (fail ?_) S.Ar) (λ h1=>?_)
  ·rcases hx4 with ⟨h2,_⟩ | ⟨_,h2⟩
   ·exact absurd h2 h
   ·simp [AH,g1,g2,g3,h2]
  have g4:Bg l (u2:Int)=some (v1,v2):=by
   rcases hx4 with ⟨_,h2⟩ | ⟨h2,_⟩
   ·exact h2
   ·exact absurd h1 h2
  refine Aa (λ h=>.bad (fail ?_) S.Ar) (λ gT=>?_)
  ·have:100000000<x1:=Omg;simp [AH,g1,g2,g3,g4,this]
  rw [wrap_i64 (n:=(x1:Int)) Omg Omg];refine S.An λ ti ah _ _ S=>?_;have aY:Rd ah (some ⟨ti,0,none⟩) [Value.int .i64 (x1:Int)]:=S.F0 0 rfl;refine Aex S 3 rfl aY Omg λ kb kf cd S=>⟨_,_,_,rfl,?_⟩;rw [Ae Omg];refine⟨⟨i+1,v2,ns++[x1],kb,kf,rfl,Omg,by simp [lE],Omg,?_,S.drop 3⟩,?_⟩
  ·rw [aW,show n-(i+1)=m by omega];have:¬ 100000000<x1:=Omg;simp only [AH,g1,g2,g3,g4,this,if_false,Option.map_map];congr 1;funext r;simp
  ·show n-((i+1:Nat):Int).toNat<n-(i:Int).toNat;omega
 ·have:n-i=0:=Omg;rw [this] at aW;simp only [AH,AjP,Ajr] at aW;rw [aW,wrap_i64 (n:=(r0:Int)) Omg Omg];exact⟨na,nc,rfl,S⟩
end
theorem Dm{l:List UInt8}{at_:Nat}{c:UInt8}{r:List UInt8}(h:l.drop at_=c :: r):at_<l.length/\l.getD at_ 0=c/\l.drop (at_+1)=r:=by
 have aB:at_<l.length:=by
  rcases Nat.lt_or_ge at_ l.length with h1 | h1
  ·exact h1
  ·rw [List.drop_eq_nil_of_le h1] at h;cases h
 have h2:=List.drop_eq_getElem_cons aB;rw [h2] at h;injection h with h3 h4
 exact⟨aB,by simp [AjZ,aB,h3],h4⟩
theorem NJ{l r:List UInt8}{at_ most:Nat}{s:ByteArray}(hs:s.size<=most)(hm:most<=1048576)(h:l.drop at_=Bm s++r):BG l (at_:Int) most=some (bl s,at_+(Bm s).length):=by
 unfold Bm at h;rw [Air] at h;have h1:=Bo (m:=s.size) Omg h;have h2:=CJ h;have an:=AW s;have hlen:=congrArg AjO h2;rw [AiT,Aiq,an] at hlen;unfold BG;rw [h1];have aP:¬ (1048576<s.size\/most<s.size\/l.length-(at_+(Af s.size).length)<s.size):=Omg;simp only [if_neg aP,AjH,Ah3];refine⟨?_,?_⟩
 ·rw [h2,<- an,Ail]
 ·simp only [Bm,Aiq,an];omega
theorem NK{l r:List UInt8}{at_:Nat}{v:AD}(hr:AK v=true)(hv:BM v)(h:l.drop at_=Cr v++r):Bg l (at_:Int)=some (v,at_+(Cr v).length):=by
 have eI:((at_:Int)+1)=((at_+1:Nat):Int):=Omg;obtain⟨k,n,s⟩:=v;rcases F3 hr with hk | hk | ⟨hk,hn⟩ | ⟨hk,hs⟩
 ·simp only at hk;subst hk;simp [AK] at hr;obtain⟨rfl,rfl⟩:=hr;simp only [Cr] at h ⊢;obtain⟨h1,h2,h3⟩:=Dm (c:=0) (r:=r) (by simpa using h);unfold Bg;rw [if_neg Omg,Ait,h2];simp
 ·simp only at hk;subst hk;simp [AK] at hr;subst hr;simp only [Cr,if_true] at h ⊢;obtain⟨h1,h2,h3⟩:=Dm (c:=1) (r:=Af (DQ n)++r) (by simpa using h);have h4:=Bo (FE hv.lo hv.hi) h3;unfold Bg;rw [if_neg Omg,Ait,h2,eI,h4];simp only [Ais,AjP];have:=F6 (n:=n);simp [this];omega
 ·simp only at hk hn;subst hk;simp [AK] at hr;obtain⟨_,rfl⟩:=hr;simp only [Cr] at h ⊢;obtain⟨h1,h2,h3⟩:=Dm (c:=2) (r:=Aiz n.toNat :: r) (by simpa using h);obtain⟨h4,h5,h6⟩:=Dm h3;have e5:(l.getD (at_+1) 0).toNat=n.toNat:=by rw [h5];rcases hn with rfl | rfl <;> rfl
  unfold Bg;rw [if_neg Omg,Ait,h2];simp only;have h7:(at_:Int)+1<(l.length:Int)/\(l.getD (at_+1) 0).toNat<=1:=⟨Omg,Omg⟩;rw [if_neg Ode,if_neg Ode,if_pos Ode,if_pos h7,e5];rcases hn with rfl | rfl <;> rfl
 ·simp only at hk hs;subst hk;simp [AK] at hr;obtain⟨rfl,_⟩:=hr;simp only [Cr] at h ⊢;obtain⟨h1,h2,h3⟩:=Dm (c:=3) (r:=Bm s++r) (by simpa using h);have h4:=NJ (most:=1024) hs Omg h3;unfold Bg;rw [if_neg Omg,Ait,h2,eI,h4];simp [DP];omega
theorem Mz:∀(cs:List Bv) {l r:List UInt8} {at_:Nat},(∀ c∈cs,c.1.size<=24/\1<=c.2.1/\c.2.1<=3)->l.drop at_=cs.flatMap I5++r->A8 l at_ cs.length=some (cs,at_+(cs.flatMap I5).length)
 | [],l,r,at_,_,_=>rfl
 | c :: cs,l,r,at_,hq,h=>by
  obtain⟨hs,cu,ay⟩:=hq c Osi;rw [List.flatMap_cons,Air] at h;have h0:l.drop at_=Bm c.1++([Aiz c.2.1.toNat,IC c.2.2]++(cs.flatMap I5++r)):=by rw [h];simp [I5]
  have h1:=NJ (most:=24) hs Omg h0;have h2:=CJ h0;obtain⟨g1,g2,g3⟩:=Dm (c:=Aiz c.2.1.toNat) (r:=IC c.2.2 :: (cs.flatMap I5++r)) (by simpa using h2);obtain⟨g4,g5,g6⟩:=Dm g3;have hf:(IC c.2.2).toNat<=1:=by unfold IC;split <;> decide
  have fA:((Aiz c.2.1.toNat).toNat:Int)=c.2.1:=by
   have:c.2.1=1\/c.2.1=2\/c.2.1=3:=Omg;rcases this with h | h | h <;> rw [h] <;> rfl
  have ct:((IC c.2.2).toNat==1)=c.2.2:=by unfold IC;cases c.2.2 <;> rfl
  have ih:=Mz cs (l:=l) (r:=r) (at_:=at_+(Bm c.1).length+2) (λ c hc=>hq c (by simp [hc])) (by rw [<- g6]);show A8 l at_ (cs.length+1)=_;unfold A8;rw [h1];simp only;have aP:¬ (l.length-(at_+(Bm c.1).length)<2\/1<(l.getD (at_+(Bm c.1).length+1) 0).toNat):=by rw [g5];omega
  rw [if_neg aP,ih,g2,g5];simp only [AjP,AjH,Ah3,DP,fA,ct,true_and];simp only [List.flatMap_cons,I5,Aiq,Ais,AjE];omega
theorem GW{cs:List Bv}(hR:Ao cs=true){l r:List UInt8}{at_:Nat}(h:l.drop at_=Cx cs++r):A7 l (at_:Int)=some (cs,at_+(Cx cs).length):=by
 have hl:=AX hR;unfold Cx at h;rw [Air] at h;have h1:=Bo (m:=cs.length) Omg h;have h2:=Mz cs (λ c hc=>by obtain⟨_,a,b,c⟩:=CX hR hc;exact⟨c,a,b⟩) (CJ h);unfold A7;rw [h1];simp only;rw [if_neg Omg,h2];simp only [hR,if_true,Cx,Aiq];congr 2;omega
theorem Ln(lim:Nat):∀(ps:List (List UInt8 × List AD)) {l r:List UInt8} {at_:Nat},(∀ p∈ps,p.1.length<=lim/\p.1.length<=2000300/\∃ k,Bb k p.2)->l.drop at_=(ps.map λ p=>JI p.1 p.2).flatten++r ->
  AH lim l at_ ps.length=some (ps.map (·.1.length),at_+((ps.map λ p=>JI p.1 p.2).flatten).length)
 | [],l,r,at_,_,_=>rfl
 | p :: ps,l,r,at_,hq,h=>by
  obtain⟨gT,hx,k,hg⟩:=hq p Osi;have hz:=hg.AaH;rw [Aj5,Aj0,Air] at h;rw [JI] at h;simp only [Air] at h;have br:Au p.2<18446744073709551616:=by have:=CW p.2;have:=hg.len;omega
  have h1:=Bo (m:=p.1.length) Omg h;have d1:=CJ h;have h2:=Bo br d1;have d2:=CJ d1;have h3:=NK hz.1.1 hz.1.2 d2;have d3:=CJ d2;have h4:=NK hz.2.1 hz.2.2 d3;have d4:=CJ d3;have ih:=Ln lim ps (λ p hp=>hq p (by simp [hp])) d4;show AH lim l at_ (ps.length+1)=_;unfold AH;rw [h1];simp only;rw [h2];simp only;rw [h3];simp only;rw [h4];simp only;rw [if_neg Omg,ih];simp only [AjP,Aj5,Aj0,Aiq,JI,AjH,Ah3,true_and];omega
theorem MA(lim:Nat){l:List UInt8}:∀(n at_:Nat) {r:List Nat × Nat},AH lim l at_ n=some r->r.1.length=n
 | 0,at_,r,h=>by simp [AH] at h;rw [<- h];rfl
 | n+1,at_,r,h=>by
  unfold AH at h;split at h
  ·cases h
  ·split at h
   ·cases h
   ·split at h
    ·cases h
    ·split at h
     ·cases h
     ·split at h
      ·cases h
      ·obtain⟨x,hx,he⟩:=AjI.1 h;rw [<- he];simp [MA lim n _ hx]
theorem Uq{lim:Nat}{l:List UInt8}{at_:Int}{n:Nat}{r:Nat × List Nat}(h:Ec lim l at_ n=some r):r.2.length=n/\r.1<=1024:=by
 unfold Ec at h;split at h
 ·cases h
 ·split at h
  ·cases h
  ·obtain⟨x,hx,he⟩:=AjI.1 h;rw [<- he];exact⟨MA lim n _ hx,by simp only;omega⟩
section
variable {cs:List Bv}{rows:List (List AD)}{xs:List (List UInt8)}
theorem ID(hs:Br cs rows):A7 (Dy cs rows xs) 0=some (cs,(Cx cs).length):=by
 have:=GW hs.right (l:=Dy cs rows xs) (at_:=0) (r:=Af rows.length++Cm rows xs) (by simp [Dy]);simpa using this
theorem Sr{lim:Nat}(gT:2000300<=lim)(hs:Br cs rows)(hx:Ed cs rows xs)(hl:xs.length=cs.length):Ec lim (Dy cs rows xs) ((Cx cs).length:Int) cs.length=some (rows.length,xs.map AjO):=by
 have d0:(Dy cs rows xs).drop (Cx cs).length=Af rows.length++(Cm rows xs++[]):=by
  rw [Dy,Air,AjJ];simp
 have h1:=Bo (m:=rows.length) (by have:=hs.len;omega) d0;have d1:=CJ d0;obtain⟨ps,dr⟩:∃ ps,ps=xs.mapIdx λ i x=>(x,Bt rows i):=⟨_,rfl⟩;have e1:Cm rows xs=(ps.map λ p=>JI p.1 p.2).flatten:=by
  rw [dr,Cm];congr 1;refine AjW Osi λ i h1 h2=>?_;simp
 have e2:ps.length=cs.length:=by rw [dr,List.length_mapIdx,hl]
 have e3:ps.map (·.1.length)=xs.map AjO:=by
  rw [dr];refine AjW Osi λ i h1 h2=>?_;simp
 rw [e1] at d1;have h2:=Ln lim ps (l:=Dy cs rows xs) (r:=[]) (λ p hp=>by
  rw [dr] at hp;obtain⟨i,hi,rfl⟩:=List.mem_mapIdx.1 hp;have:=hx.lens hs _ (Ai7 hi);exact⟨by simp only;omega,this,_,hs.DN (by omega:i<cs.length)⟩) d1
 rw [e2,e3] at h2;unfold Ec;rw [h1];simp only;rw [if_neg (by have:=hs.len;omega),h2];rfl
end
section
variable {w:World}{a:Option Addr}{c:Nat}{l:List UInt8}
theorem Xr:Cw 156 #[.slice a l.length c] w λ v w'=>∃ b1,v=.func (.func 197) #[] #[.pointer (some ⟨b1,0,none⟩)]/\ST w w' [It.cells b1 #[.slice a l.length c] 77]:=by
 apply FJ
 delta J N P S;try dsimp only [Ps]
 exact (ST.start w).An λ b1 w1 _ _ S1=>⟨b1,rfl,S1⟩
theorem SZ{L b:Nat}(hn:l.length<=1000000)(J:Nat->World->Prop)(cm:∀ k w,J k w->Rd w a (l.map Ag)/\w.cell? ⟨b,0,none⟩=some (.slice a l.length c))
  (af:∀ k w (hk:k<l.length),J k w->N0 Aix L #[.int .i64 ((l.length-1-k:Nat):Int),.int .u8 ((l[l.length-1-k]'Omg).toNat:Int)] (λ y w'=>y=true/\J (k+1) w') w) (h0:J 0 w) :
  Cw 197 #[.func (.yield L) #[] #[],.pointer (some ⟨b,0,none⟩)] w λ _ w'=>J l.length w':=by
 apply E6
 delta A Ad B F H I Ls Ly Qi W X;try dsimp only [Ps]
 refine⟨_,_,_,(cm _ _ h0).2,λ s w1=>∃ k:Nat,k<=l.length/\s=[.int .i64 ((l.length:Int)-1-(k:Int))]/\J k w1,λ s _=>match s with
   | [.int _ i]=>(i+1).toNat
   | _=>0,⟨0,Omg,by rw [wrap_i64 Omg Omg];simp,h0⟩,?_⟩
 rintro _ w1 ⟨k,hk,aA,hj⟩;cases aA;refine Aa (λ aB=>?_) (λ aJ=>?_)
 ·have aO:k<l.length:=Omg;obtain⟨r1,r2⟩:=cm _ _ hj;have e:(l.length:Int)-1-(k:Int)=((l.length-1-k:Nat):Int):=Omg;have hi:l.length-1-k<l.length:=Omg;obtain⟨p,hp,hc⟩:=byte_at r1 hi;rw [e];refine⟨_,_,_,r2,⟨Omg,Omg⟩,?_⟩;rw [hp];refine⟨_,by rw [Ait];exact hc,?_⟩;refine (af k w1 aO hj).mono ?_;rintro y w2 ⟨rfl,h⟩;rw [wrap_i64 Omg Omg];refine AN ⟨⟨k+1,Omg,by rw [<- e];congr 2;omega,h⟩,?_⟩;show (((l.length-1-k:Nat):Int)-1+1).toNat<(((l.length-1-k:Nat):Int)+1).toNat;omega
 ·have:k=l.length:=Omg;subst this;exact hj
end
theorem Afz{n x:Nat}(hn:n<1099511627776)(hx:x<256):IntKind.i64.wrap (((BitVec.ofInt 64 (IntKind.i64.wrap ((n:Int)*2 ^ (min 8 64))) ||| BitVec.ofInt 64 (IntKind.i64.wrap (x:Int))).toNat:Int))=((n*256+x:Nat):Int):=by
 have e1:(n:Int)*2 ^ (min 8 64)=((n*256:Nat):Int):=by
  rw [show min 8 64=8 from rfl];omega
 rw [e1,wrap_i64 (n:=((n*256:Nat):Int)) Omg Omg,wrap_i64 (n:=(x:Int)) Omg Omg,BitVec.toNat_or,BitVec.ofInt_natCast,BitVec.ofInt_natCast,BitVec.toNat_ofNat,BitVec.toNat_ofNat,Nat.mod_eq_of_lt Omg,Nat.mod_eq_of_lt Omg];have e2:n*256 ||| x=n*256+x:=by
  have:=Nat.two_pow_add_eq_or_of_lt (i:=8) (b:=x) hx n;rw [show 2 ^ 8*n=n*256 by omega] at this;exact this.symm
 rw [e2,wrap_i64 Omg Omg]
def Kb(l:List UInt8)(k:Nat):Nat:=(l.reverse.take k).foldl (λ n c=>n*256+c.toNat) 0
theorem PL{l:List UInt8}{k:Nat}(hk:k<l.length):Kb l (k+1)=Kb l k*256+(l[l.length-1-k]'Omg).toNat:=by
 unfold Kb;rw [Ajl (by simpa using hk),List.foldl_append];simp only [List.foldl_cons,List.foldl_nil];congr 2;rw [List.getElem_reverse]
theorem N9{l:List UInt8}:∀ k,k<=l.length->Kb l k<256 ^ k
 | 0,_=>by simp [Kb]
 | k+1,h=>by
  have ih:=N9 (l:=l) k Omg;rw [PL Omg,Nat.pow_succ];have:=(l[l.length-1-k]'Omg).toNat_lt;omega
theorem Adj(n:Nat)(hn:n<4294967296):Kb (KJ n) 4=n:=by
 have h:∀ m,m<256->(Aiz m).toNat=m:=λ m hm=>by simp;omega
 simp only [Kb,KJ,List.reverse_cons,List.reverse_nil,List.nil_append,List.cons_append,List.take_succ_cons,List.take_zero,List.foldl_cons,List.foldl_nil];rw [h _ Omg,h _ Omg,h _ Omg,h _ Omg];omega
def UC(q:BH):List Value:=(zC (Au q.2.2:Int) (FM q.2.2)).toList
structure J5(w:World)(p:Addr)(cs:List Bv)(aR:List BH)(n:Nat):Prop where
 Ay:∃ a c,w.cell? p=some (.slice a cs.length c)/\Rd w a (BF cs)
 Aht:∃ a c,w.cell? (p.add 1)=some (.slice a aR.length c)/\A9 w a aR
 Ahv:∃ a c,w.cell? (p.add 2)=some (.slice a aR.length c)/\Rd w a (aR.flatMap UC)
 many:w.cell? (p.add 3)=some (.int .i64 (n:Int))
 right:Ao cs=true
 len:aR.length=cs.length
 small:n<=1024
 each:∀ q∈aR,q.2.2.length=n/\∃ k,Bb k q.2.2
structure Ee(cs:List Bv)(rows:List (List AD))(xs:List (List UInt8))(b:List UInt8):Prop where
 ok:Br cs rows
 chs:Ed cs rows xs
 len:xs.length=cs.length
 eq:b=JX cs rows xs
theorem Ee.split{cs:List Bv}{rows:List (List AD)}{xs:List (List UInt8)}{b:List UInt8}(h:Ee cs rows xs b):8<=b.length/\Kb (b.drop (b.length-4)) 4=(Dy cs rows xs).length/\(Dy cs rows xs).length<=b.length-8 /\
  ((b.take (b.length-4)).drop (b.length-4-(Dy cs rows xs).length))=Dy cs rows xs/\((b.take (b.length-4-(Dy cs rows xs).length)).drop 4)=xs.flatten:=by
 have hf:=h.chs.Sq h.ok;obtain⟨ft,bV⟩:∃ ft,ft=Dy cs rows xs:=⟨_,rfl⟩;have e:=h.eq;unfold JX at e;rw [<- bV] at e hf ⊢;have hm:Cg.length=4:=rfl;have ff:(KJ ft.length).length=4:=rfl;have hl:b.length=4+xs.flatten.length+ft.length+4:=by rw [e];simp only [Aiq,hm,ff]
 have e1:b.length-4=(Cg++xs.flatten++ft).length:=by simp only [Aiq,hm];omega
 have e2:b.length-4-ft.length=(Cg++xs.flatten).length:=by simp only [Aiq,hm];omega
 refine⟨Omg,?_,Omg,?_,?_⟩
 ·rw [e1,e,AjJ];exact Adj _ Omg
 ·rw [e2,e1,e,Ail,AjJ]
 ·rw [e2,e,Air (Cg++xs.flatten),Ail,show 4=Cg.length from rfl,AjJ]
def AgK(b:List UInt8)(w w':World)(v:Value):Prop :=
 Below w.heap.size w w'/\((∃ p cs aR n,v=.tuple #[.pointer (some p),.bool true]/\J5 w' p cs aR n/\∀ aC rows' gf,Ee aC rows' gf b->cs=aC/\n=rows'.length/\rws aR=(Ai0 aC.length).map (Bt rows')) \/
  (v=.tuple #[.pointer none,.bool false]/\∀ aC rows' gf,¬ Ee aC rows' gf b))
theorem tVV:Me Aix 168=some (68,1,24,.slice none 0 0):=by kernel_rfl
theorem tZZ:Me Aix 169=some (159,7,72,.agg #[.int .i64 0,.int .i64 0,.int .i64 0,.string ⟨#[]⟩,.int .i64 0,.int .i64 0,.string ⟨#[]⟩]):=by kernel_rfl
def AcT(a:Option Addr)(c:Nat)(aR:List BH):It:=It.row 68 1 a aR.length c (aR.map Co)
def AcX(a:Option Addr)(c:Nat)(aR:List BH):It:=It.row 159 7 a aR.length c (aR.flatMap UC)
section
variable {w0 w:World}{H:List It}{a:Option Addr}{c:Nat}{aR:List BH}
theorem Aaw(S:ST w0 w H)(n:Nat)(hn:H[n]?=some (AcT a c aR)){x:BH}{b:Nat}(hs:Rd w (some ⟨b,0,none⟩) [Co x])(hl:aR.length+1<=1000000){f:Value->World->Prop}
  (hf:∀ a' c' w',ST w0 w' (H.set n (AcT a' c' (aR++[x])))->f (.slice a' (aR++[x]).length c') w') :
  De Aix (Builtin.append_ #[168,168] 168 #[.slice a aR.length c,.slice (some ⟨b,0,none⟩) 1 1]) f w:=by
 refine S.app n hn tVV rfl Omg Omg hs (mm:=1) rfl (by simp [Co];rfl) Omg λ a' c' w' S'=>?_;have e1:(aR++[x]).length=aR.length+1:=Osi;have e2:aR.map Co++[Co x]=(aR++[x]).map Co:=Osi;rw [e2] at S';have:=hf a' c' w' (by unfold AcT;rw [e1];exact S');rwa [e1] at this
theorem Aax(S:ST w0 w H)(n:Nat)(hn:H[n]?=some (AcX a c aR)){x:BH}{b:Nat}(hs:Rd w (some ⟨b,0,none⟩) (UC x))(hl:aR.length+1<=1000000){f:Value->World->Prop}
  (hf:∀ a' c' w',ST w0 w' (H.set n (AcX a' c' (aR++[x])))->f (.slice a' (aR++[x]).length c') w') :
  De Aix (Builtin.append_ #[169,169] 169 #[.slice a aR.length c,.slice (some ⟨b,0,none⟩) 1 1]) f w:=by
 refine S.app n hn tZZ rfl Omg Omg hs (mm:=1) rfl (by simp [UC,zC];exact⟨rfl,rfl,rfl,rfl,rfl,rfl,rfl⟩) Omg λ a' c' w' S'=>?_;have e1:(aR++[x]).length=aR.length+1:=Osi;have e2:aR.flatMap UC++UC x=(aR++[x]).flatMap UC:=Osi;rw [e2] at S';have:=hf a' c' w' (by unfold AcX;rw [e1];exact S');rwa [e1] at this
end
theorem CV{l:List UInt8}{at_:Int}{r:List Bv × Nat}(h:A7 l at_=some r):Ao r.1=true:=by
 unfold A7 at h;split at h
 ·cases h
 ·split at h
  ·cases h
  ·split at h
   ·cases h
   ·split at h
    ·rename_i hR;cases h;exact hR
    ·cases h
theorem Vi.open{o:Option (List Bv × Nat)}{w0 w w':World}{v:Value}{H:List It}(S:ST w0 w H)(h:Vi o w w' v)(hr:∀ r,o=some r->Ao r.1=true):∃(cs:List Bv) (ca:Option Addr) (cc aL:Nat) (e:Int),v=.tuple #[.slice ca cs.length cc,.int .i64 (aL:Int),.int .i64 e]/\ST w0 w' (CD ca cc cs :: H) /\
  cs.length<=16/\((e=0/\o=some (cs,aL)/\Ao cs=true)\/(e≠0/\o=none)):=by
 cases o with
 | none =>
  obtain⟨rfl,B⟩:=h;exact⟨[],none,0,0,52,rfl,(S.grown B).nil _ _,Osi,.inr ⟨Ode,rfl⟩⟩
 | some r =>
  obtain⟨ca,cc,rfl,S2⟩:=h;have hR:=hr r rfl;exact⟨r.1,ca,cc,r.2,0,rfl,S.join S2,(AX hR).2,.inl ⟨rfl,rfl,hR⟩⟩
theorem PlV.open{o:Option (Nat × List Nat)}{w0 w w':World}{v:Value}{H:List It}(S:ST w0 w H)(h:PlV o w w' v):∃(r:Nat) (ns:List Nat) (na:Option Addr) (nc:Nat) (ok:Bool),v=.tuple #[.int .i64 (r:Int),.slice na ns.length nc,.bool ok]/\ST w0 w' (HW na nc ns :: H) /\
  ((ok=true/\o=some (r,ns))\/(ok=false/\o=none)):=by
 cases o with
 | none =>
  obtain⟨rfl,B⟩:=h;exact⟨0,[],none,0,false,rfl,(S.grown B).nil _ _,.inr ⟨rfl,rfl⟩⟩
 | some r =>
  obtain⟨na,nc,rfl,S2⟩:=h;exact⟨r.1,r.2,na,nc,true,rfl,S.join S2,.inl ⟨rfl,rfl⟩⟩
theorem TS{w:World}{a:Option Addr}{ns:List Nat}(h:Rd w a (ns.map λ n:Nat=>Value.int .i64 (n:Int))){i:Nat}(hi:i<ns.length):∃ p,a=some p/\w.cell? (p.add (i*1))=some (.int .i64 (ns[i]:Int)):=by
 obtain⟨p,hp,hc⟩:=h i (.int .i64 (ns[i]:Int)) (by simp [hi]);exact⟨p,hp,by rw [Aiw];exact hc⟩
def rdI(q:BH):It:=It.rd q.1 (AR q.2.2)
theorem LR{w0 w w':World}{H:List It}{a:Option Addr}{xs:List Value}(S:ST w0 w H)(B:Below w.heap.size w w')(h:Vh w w' a xs):ST w0 w' (It.rd a xs :: H):=by
 refine S.add B _ h.rd λ k hk=>h.new k ?_;cases xs with
 | nil=>cases hk
 | cons x xs=>exact hk
theorem Oy{xs:List (List UInt8)}{i:Nat}(hi:i<xs.length):(xs.drop i).flatten=xs[i]++(xs.drop (i+1)).flatten:=by
 rw [List.drop_eq_getElem_cons hi,Aj0]
section
variable {w:World}{a:Option Addr}{c:Nat}{b:List UInt8}
theorem Rh(hl:Rd w a (b.map Ag))(hc:b.length<=c){n:Nat}(h8:8<=b.length)(hn:n<=b.length-8) :
  Rd w (Ch (Ch a 0 c 1) (b.length-4-n) c 1) (((b.take (b.length-4)).drop (b.length-4-n)).map Ag)/\Rd w (Ch (Ch a 0 c 1) 4 c 1) (((b.take (b.length-4-n)).drop 4).map Ag):=by
 have h1:=hl.NQ 0 (b.length-4) c 1 Omg;have h2:=h1.NQ (b.length-4-n) (b.length-4) c 1 Omg;have h3:=h1.NQ 4 (b.length-4-n) c 1 Omg;simp only [Aiw,AjV,AjT] at h2 h3;constructor
 ·rw [<- AiV,<- AiU,<- AiV] at h2;have e:((b.take (b.length-4)).drop (b.length-4-n)).take (b.length-4-(b.length-4-n))=(b.take (b.length-4)).drop (b.length-4-n):=AiZ (by rw [AiT,Ajm];omega);rw [e] at h2;exact h2
 ·rw [<- AiV,<- AiU,<- AiV] at h3;have e:((b.take (b.length-4)).drop 4).take (b.length-4-n-4)=(b.take (b.length-4-n)).drop 4:=by
   rw [List.drop_take,List.drop_take,List.take_take];congr 1;omega
  rw [e] at h3;exact h3
theorem Sf(hl:Rd w a (b.map Ag))(hc:b.length<=c)(hs:b.length<=140737488355328)(h8:8<=b.length) :
  Cw 116 #[.slice a b.length c] w λ v w'=>AgK b w w' v:=by
 apply NG
 delta A Ab Ad B Ew Vb AaI HQ Cf D F G H I J Ks Li Ls Lt N O P Eg S Am T W X Y;try dsimp only [Ps]
 have eW:IntKind.i64.wrap ((b.length:Int)-4)=((b.length-4:Nat):Int):=by rw [wrap_i64 Omg Omg];omega
 rw [eW];simp only [Ait,AjT];obtain⟨t,ht⟩:∃ t,t=b.drop (b.length-4):=⟨_,rfl⟩;have fD:t.length=4:=by rw [ht,AiT];omega
 have hrt:Rd w (Ch a (b.length-4) c 1) (t.map Ag):=by
  have h:=hl.NQ (b.length-4) b.length c 1 hc;simp only [Aiw] at h;rw [<- AiU,<- AiV] at h;rw [ht];have e:(b.drop (b.length-4)).take (b.length-(b.length-4))=b.drop (b.length-4):=AiZ (by rw [AiT];omega);rwa [e] at h
 refine (ST.start w).An λ b2 w1 _ _ S=>S.BD 0 rfl (aC:=#[.int .i64 0]) Osi rfl λ w2 S=>⟨⟨Omg,Omg,Omg⟩,?_⟩;have hB:=Xr (w:=w2) (a:=Ch a (b.length-4) c 1) (c:=c-(b.length-4)) (l:=t);rw [show b.length-(b.length-4)=t.length by omega];refine hB.mono ?_;rintro _ w3 ⟨_,rfl,bq,rfl,P⟩;have S:=S.join P;refine⟨_,_,_,rfl,by kernel_rfl,λ rr aA dZ hy=>?_⟩;have S:=S.range rr;obtain⟨L,hL⟩:∃ L,L=w3.heap.size+1:=⟨_,rfl⟩;obtain⟨d,hd⟩:∃ d,d=w3.heap.size:=⟨_,rfl⟩;rw [<- hL] at S hy ⊢;rw [<- hd] at S ⊢;let J:Nat->World->Prop:=λ k wx=>ST w wx [It.obj L (.loop rr),It.obj d (.deferred (some [])),It.cells bq #[.slice (Ch a (b.length-4) c 1) t.length (c-(b.length-4))] 77,It.cells b2 #[.int .i64 (Kb t k:Int)] 3];have bB:=SZ (w:=(w3.alloc (.deferred (some []))).alloc (.loop rr)) (a:=Ch a (b.length-4) c 1) (c:=c-(b.length-4)) (l:=t) (L:=L) (b:=bq) Omg J (λ k wx (hj:ST w wx _)=>⟨hrt.grown hj.Ar,hj.cell 2 rfl rfl⟩) (by
  rintro k wx hk (S:ST w wx _);have h1:=N9 (l:=t) k Omg;have h2:256 ^ k<=256 ^ 3:=Nat.pow_le_pow_right Omg Omg;have h3:(256:Nat) ^ 3=16777216:=Ode;refine hy _ _ _ wx (S.get 0 rfl) ?_;refine S.AgZ 0 rfl λ w5 S=>⟨_,S.cell 3 rfl rfl,?_⟩;rw [Afz Omg ((t[t.length-1-k]'Omg).toNat_lt)];rw [<- PL hk];exact S.BD 3 rfl (aC:=#[.int .i64 (Kb t (k+1):Int)]) Osi rfl λ w6 S=>S.AdG 0 aA dZ rfl λ w7 S=>⟨rfl,S⟩) S
 refine bB.mono ?_;rw [fD];rintro _ w7 ⟨_,rfl,S⟩;obtain⟨n,hn⟩:∃ n,n=Kb t 4:=⟨_,rfl⟩;have S:ST w w7 [It.obj L (.loop rr),It.obj d (.deferred (some [])),It.cells bq #[.slice (Ch a (b.length-4) c 1) t.length (c-(b.length-4))] 77,It.cells b2 #[.int .i64 (n:Int)] 3]:=by rw [hn];exact S
 have wW:n<4294967296:=by rw [hn];exact N9 (l:=t) 4 Omg
 have oJ:∀ cs rows xs,Ee cs rows xs b->n=(Dy cs rows xs).length:=λ cs rows xs h=>by rw [hn,ht];exact h.split.2.1
 refine⟨⟨_,rfl⟩,S.AdF 0 aA dZ rfl λ w8 S=>⟨rfl,⟨Omg,Omg,Omg⟩,_,S.cell 3 rfl rfl,?_⟩⟩;have pk:IntKind.i64.wrap (((b.length-4:Nat):Int)-4)=((b.length-8:Nat):Int):=by rw [wrap_i64 Omg Omg];omega
 have bad:∀ {wx:World} {H:List It},ST w wx (It.obj d (.deferred (some [])) :: H)->(∀ aC rows' gf,¬ Ee aC rows' gf b)->wx.heap[d]?=some (.deferred (some []))/\AgK b w (wx.putObj d (.deferred none)) (.tuple #[.pointer none,.bool false]):=λ S h=>⟨S.get 0 rfl,(S.put 0 rfl _).Ar,.inr ⟨rfl,h⟩⟩;refine Aa (λ h=>bad (S.drop 1) λ cs rows xs hP=>?_) (λ hle=>?_)
 ·have:=hP.split.2.2.1;have:=oJ cs rows xs hP;rw [pk] at h;omega
 rw [pk] at hle;have kT:n<=b.length-8:=Omg;refine S.draw λ w9 _ S=>⟨_,S.cell 3 rfl rfl,?_⟩;have s6:IntKind.i64.wrap (((b.length-4:Nat):Int)-(n:Int))=((b.length-4-n:Nat):Int):=by rw [wrap_i64 Omg Omg];omega
 rw [s6];simp only [Ait];refine⟨⟨Omg,Omg,Omg⟩,_,S.cell 3 rfl rfl,?_⟩;rw [s6];simp only [Ait];refine⟨⟨Omg,Omg,Omg⟩,?_⟩;obtain⟨iW,rA⟩:=Rh hl hc h8 kT;obtain⟨ft,bV⟩:∃ ft,ft=(b.take (b.length-4)).drop (b.length-4-n):=⟨_,rfl⟩;obtain⟨bd,gr⟩:∃ bd,bd=(b.take (b.length-4-n)).drop 4:=⟨_,rfl⟩;rw [<- bV] at iW;rw [<- gr] at rA;obtain⟨fa,hfa⟩:∃ fa,fa=Ch (Ch a 0 c 1) (b.length-4-n) c 1:=⟨_,rfl⟩;obtain⟨ba,hba⟩:∃ ba,ba=Ch (Ch a 0 c 1) 4 c 1:=⟨_,rfl⟩;rw [<- hfa] at iW ⊢;rw [<- hba] at rA ⊢;have l9:ft.length=b.length-4-(b.length-4-n):=by rw [bV,AiT,Ajm];omega
 have qR:bd.length=b.length-4-n-4:=by rw [gr,AiT,Ajm];omega
 rw [<- l9,<- qR];have cJ:∀ cs rows xs,Ee cs rows xs b->ft=Dy cs rows xs/\bd=xs.flatten:=λ cs rows xs hP=>by
  have e:=oJ cs rows xs hP;have:=hP.split.2.2.2;rw [<- e] at this;exact⟨by rw [bV];exact this.1,by rw [gr];exact this.2⟩
 have hT:=Lg (c:=c-(b.length-4-n)) (iW.grown S.Ar) Omg Omg 0;refine hT.mono ?_;rintro _ bX ⟨_,rfl,hT⟩;obtain⟨cs,ca,cc,aL,e,rfl,S,bQ,aj⟩:=hT.open S (λ r h=>CV h);refine⟨_,_,_,_,_,rfl,(Pk (c:=c-(b.length-4-n)) (iW.grown S.Ar) Omg Omg (aL:Int) cs.length Omg).mono ?_⟩;rintro _ aZ ⟨_,rfl,uh⟩;obtain⟨r,ns,na,nc,ok,rfl,S,fo⟩:=uh.open S;refine⟨_,_,_,_,_,rfl,Ai (λ h=>bad (S.drop 3) λ aC rows xs hP=>?_) (λ he=>As (Aq (λ aK=>?_) (λ aK=>bad (S.drop 3) λ aC rows xs hP=>?_)))⟩
 ·have h2:=ID (xs:=xs) hP.ok;rw [<- (cJ aC rows xs hP).1] at h2;rcases aj with ⟨h3,_⟩ | ⟨_,h3⟩
  ·exact h h3
  ·rw [h2] at h3;cases h3
 rotate_left
 ·have h2:=ID (xs:=xs) hP.ok;rw [<- (cJ aC rows xs hP).1] at h2;rcases aj with ⟨_,h3,_⟩ | ⟨h3,_⟩
  ·rw [h2] at h3;have h4:=Ajx h3;obtain rfl:aC=cs:=congrArg Aj1 h4;obtain rfl:(Cx aC).length=aL:=congrArg Prod.snd h4;have h5:=Sr (lim:=1073741824) Omg hP.ok hP.chs hP.len;rw [<- (cJ aC rows xs hP).1] at h5;rcases fo with ⟨h6,_⟩ | ⟨_,h6⟩
   ·rw [aK] at h6;cases h6
   ·rw [h5] at h6;cases h6
  ·exact h3 he
 have gP:A7 ft 0=some (cs,aL)/\Ao cs=true:=by
  rcases aj with ⟨_,h3⟩ | ⟨h3,_⟩
  ·exact h3
  ·exact absurd he h3
 have jt:Ec 1073741824 ft (aL:Int) cs.length=some (r,ns):=by
  rcases fo with ⟨_,h6⟩ | ⟨h6,_⟩
  ·exact h6
  ·rw [aK] at h6;cases h6
 obtain⟨br,hr24⟩:=Uq jt;simp only at br hr24;have key:∀ aC rows xs,Ee aC rows xs b->cs=aC/\r=rows.length/\ns=xs.map AjO/\bd=xs.flatten:=λ aC rows xs hP=>by
  have h2:=ID (xs:=xs) hP.ok;rw [<- (cJ aC rows xs hP).1,gP.1] at h2;have h4:=Ajx h2;obtain rfl:cs=aC:=congrArg Aj1 h4;obtain rfl:aL=(Cx cs).length:=congrArg Prod.snd h4;have h5:=Sr (lim:=1073741824) Omg hP.ok hP.chs hP.len;rw [<- (cJ cs rows xs hP).1,jt] at h5;have h6:=Ajx h5;exact⟨rfl,congrArg Aj1 h6,congrArg Prod.snd h6,(cJ cs rows xs hP).2⟩
 refine S.An λ fH bL _ _ S=>?_;have S:=((S.nil 159 7).nil 68 1).pull 2 rfl;obtain⟨oL,hoL⟩:∃ oL,oL=Obj.loop { rr with state:=.exhausted,pending:=none }:=⟨_,rfl⟩;let Hq:Option Addr->Nat->Option Addr->Nat->List BH->List It:=λ va vc za zc aR=>It.cells fH #[.slice ca cs.length cc,.slice va aR.length vc,.slice za aR.length zc,.int .i64 (r:Int)] 171 :: AcT va vc aR :: AcX za zc aR :: HW na nc ns :: CD ca cc cs ::
  It.obj L oL :: It.obj d (.deferred (some [])) :: It.cells bq #[.slice (Ch a (b.length-4) c 1) t.length (c-(b.length-4))] 77 :: It.cells b2 #[.int .i64 (n:Int)] 3 :: aR.reverse.map rdI
 let Inv:List Value->World->Prop:=λ s wx=>∃(i:Nat) (rest:List UInt8) (ra:Option Addr) (rc:Nat) (aR:List BH) (va:Option Addr) (vc:Nat) (za:Option Addr) (zc:Nat),s=[.slice ra rest.length rc,.int .i64 (i:Int)]/\i<=ns.length/\aR.length=i/\rest.length<=rc/\rest.length<=b.length/\Rd w ra (rest.map Ag) /\
  (∀ q∈aR,q.2.2.length=r/\∃ k,Bb k q.2.2)/\(∀ aC rows xs,Ee aC rows xs b->rest=(xs.drop i).flatten/\rws aR=(Ai0 i).map (Bt rows))/\ST w wx (Hq va vc za zc aR)
 let Mu:List Value->World->Nat:=λ s _=>match s with
   | [_,.int _ i]=>ns.length-i.toNat
   | _=>0
 refine⟨Inv,Mu,⟨0,bd,ba,c-4,[],none,0,none,0,rfl,Omg,rfl,Omg,Omg,rA,Osi,λ aC rows xs hP=>⟨by rw [(key aC rows xs hP).2.2.2];rfl,rfl⟩,by simp only [Hq];rw [hoL];exact S⟩,?_⟩;rintro ra _ rc _ al ⟨i,rest,_,_,aR,va,vc,za,zc,aA,hi,vT,hrc,lK,hR,cg,aW,S⟩;cases aA;refine Aa (λ aB=>⟨⟨Omg,aB⟩,?_⟩) (λ aJ=>?_)
 ·have aD:i<ns.length:=Omg;have hN:Rd al na (ns.map λ n:Nat=>Value.int .i64 (n:Int)):=S.rd 3 rfl;obtain⟨pn,hpn,kN⟩:=TS hN aD;rw [hpn];have dM:∀ aC rows xs,Ee aC rows xs b->∃ hx:i<xs.length,ns[i]=xs[i].length/\rest=xs[i]++(xs.drop (i+1)).flatten:=λ aC rows xs hP=>by
   have h1:=(key aC rows xs hP).2.2.1;have hx:i<xs.length:=by rw [h1,AiH] at aD;exact aD
   refine⟨hx,?_,by rw [(aW aC rows xs hP).1,Oy hx]⟩;simp [h1]
  refine⟨_,by rw [Ait];exact kN,Aa (λ h=>bad (S.pull 6 rfl) λ aC rows xs hP=>?_) (λ cf=>?_)⟩
  ·obtain⟨hx,h1,h2⟩:=dM aC rows xs hP;have:=congrArg AjO h2;rw [Aiq] at this;omega
  have qY:ns[i]<=rest.length:=Omg;simp only [Ait];refine⟨⟨Omg,Omg,Omg⟩,?_⟩;have bF:Rd w (Ch ra 0 rc 1) ((rest.take ns[i]).map Ag):=by
   have h:=hR.NQ 0 ns[i] rc 1 Omg;simp only [Aiw,AjV,AjT] at h;rw [<- AiV] at h;exact h
  have hsr:Rd w (Ch ra ns[i] rc 1) ((rest.drop ns[i]).map Ag):=by
   have h:=hR.NQ ns[i] rest.length rc 1 hrc;simp only [Aiw] at h;rw [<- AiU,<- AiV] at h;have e:(rest.drop ns[i]).take (rest.length-ns[i])=rest.drop ns[i]:=AiZ (by rw [AiT];omega);rwa [e] at h
  have xR:(rest.take ns[i]).length=ns[i]:=by rw [Ajm];omega
  have hD:=RD (c:=rc) (bF.grown S.Ar) Omg Omg;rw [xR] at hD;refine hD.mono ?_;rintro _ au ⟨_,rfl,K,ls,la,lc,e,rfl,kL,pP,fe,aH⟩;have S:=LR S pP kL;have gQ:∀ aC rows xs,Ee aC rows xs b->e=0/\ls=Bt rows i:=λ aC rows xs hP=>by
   obtain⟨hx,h1,h2⟩:=dM aC rows xs hP;have mG:i<aC.length:=by have:=hP.len;omega
   have h3:rest.take ns[i]=xs[i]:=by rw [h1,h2,Ail]
   have h4:=hP.chs.each i mG hx;rw [<- h3] at h4;rcases aH with ⟨_,_,he,hu⟩ | ⟨aP,_⟩
   ·exact⟨he,((hu _ _ (hP.ok.DN mG) h4).2).symm⟩
   ·exact absurd h4 (aP _ _ (hP.ok.DN mG))
  refine⟨_,_,_,_,_,rfl,Ai (λ h=>bad (S.pull 7 rfl) λ aC rows xs hP=>h (gQ aC rows xs hP).1) (λ he=>Ai (λ h=>bad (S.pull 7 rfl) λ aC rows xs hP=>?_) (λ hlr=>?_))⟩
  ·apply h;rw [(gQ aC rows xs hP).2,FW,(key aC rows xs hP).2.1]
  obtain⟨hg,hC⟩:Bb K ls/\True:=by
   rcases aH with ⟨hg,_⟩ | ⟨_,_,_,h80⟩
   ·exact⟨hg,trivial⟩
   ·omega
  refine (Mm (c:=lc) (S.ok (It.rd la (AR ls)) Osi)).mono ?_;rintro _ ah ⟨_,rfl,xd,eB⟩;rcases xd with ⟨_,rfl⟩ | ⟨aP,_⟩
  case inr=>exact absurd hg.GD aP
  have S:=S.grown eB;obtain⟨q,hq⟩:∃ q:BH,q=(la,lc,ls):=⟨_,rfl⟩;refine⟨_,_,_,_,_,_,_,_,rfl,S.An λ y6 cd _ _ S=>S.Y7 0 rfl λ fN S=>S.draw λ du _ S=>⟨⟨Omg,Omg,Omg⟩,_,_,_,S.cell 2 rfl rfl,_,_,_,S.cell 2 rfl rfl,_,S.cell 0 rfl rfl,_,S.cell 0 rfl rfl,_,S.cell 0 rfl rfl,_,S.cell 0 rfl rfl,_,S.cell 0 rfl rfl,_,S.cell 0 rfl rfl,_,S.cell 0 rfl rfl,?_⟩⟩;have iO:aR.length+1<=1000000:=Omg;have fin:∀(wx:World) (x0 x1 x2:It) (gY:Option Addr) (gZ:Nat) (iF:Option Addr) (iG:Nat),ST w wx (x0 :: x1 :: x2 :: It.rd la (AR ls) :: It.cells fH #[.slice ca cs.length cc,.slice va aR.length vc,.slice za aR.length zc,.int .i64 (r:Int)] 171 :: AcT gY gZ (aR++[q]) :: AcX iF iG (aR++[q]) :: HW na nc ns :: CD ca cc cs ::
     It.obj L oL :: It.obj d (.deferred (some [])) :: It.cells bq #[.slice (Ch a (b.length-4) c 1) t.length (c-(b.length-4))] 77 :: It.cells b2 #[.int .i64 (n:Int)] 3 :: aR.reverse.map rdI) ->
    DG ⟨fH,1,none⟩ (.slice gY (aR++[q]).length gZ) (λ kV=>DG ⟨fH,2,none⟩ (.slice iF (aR++[q]).length iG) (λ eU=>Inv [.slice (Ch ra ns[i] rc 1) (rest.length-ns[i]) (rc-ns[i]),.int .i64 (IntKind.i64.wrap ((i:Int)+1))] eU /\
     Mu [.slice (Ch ra ns[i] rc 1) (rest.length-ns[i]) (rc-ns[i]),.int .i64 (IntKind.i64.wrap ((i:Int)+1))] eU<Mu [.slice ra rest.length rc,.int .i64 (i:Int)] al) kV) wx:=by
   intro wx x0 x1 x2 gY gZ iF iG S;refine S.BD 4 rfl (aC:=#[.slice ca cs.length cc,.slice gY (aR++[q]).length gZ,.slice za aR.length zc,.int .i64 (r:Int)]) Osi rfl λ kV S=>S.BD 4 rfl (aC:=#[.slice ca cs.length cc,.slice gY (aR++[q]).length gZ,.slice iF (aR++[q]).length iG,.int .i64 (r:Int)]) Osi rfl λ eU S=>?_;rw [Ae Omg];have bp:(rest.drop ns[i]).length=rest.length-ns[i]:=AiT;refine⟨⟨i+1,rest.drop ns[i],Ch ra ns[i] rc 1,rc-ns[i],aR++[q],gY,gZ,iF,iG,by rw [bp],Omg,by simp [vT],Omg,Omg,hsr,λ q' lH=>?_,λ aC rows xs hP=>?_,?_⟩,?_⟩
   ·rcases Ajn.1 lH with h | h
    ·exact cg q' h
    ·rw [List.mem_singleton.1 h,hq];exact⟨by show ls.length=r;omega,K,hg⟩
   ·obtain⟨hx,h1,h2⟩:=dM aC rows xs hP;refine⟨by rw [h2,h1,AjJ],?_⟩;rw [rws,AiK,List.range_succ,AiK];have:=(aW aC rows xs hP).2;rw [rws] at this;rw [this];simp [hq,(gQ aC rows xs hP).2]
   ·have S3:=S.drop 3;show ST w eU (Hq gY gZ iF iG (aR++[q]));have e:(aR++[q]).reverse.map rdI=It.rd la (AR ls) :: aR.reverse.map rdI:=by
     rw [List.reverse_append,AiK,hq];rfl
    simp only [Hq];rw [e];exact S3.perm (List.perm_middle (l₁:=[It.cells fH #[.slice ca cs.length cc,.slice gY (aR++[q]).length gZ,.slice iF (aR++[q]).length iG,.int .i64 (r:Int)] 171,AcT gY gZ (aR++[q]),AcX iF iG (aR++[q]),HW na nc ns,CD ca cc cs,It.obj L oL,It.obj d (.deferred (some [])),It.cells bq #[.slice (Ch a (b.length-4) c 1) t.length (c-(b.length-4))] 77,It.cells b2 #[.int .i64 (n:Int)] 3])).symm
   ·show ns.length-((i+1:Nat):Int).toNat<ns.length-((i:Nat):Int).toNat;simp only [Ait];omega
  have mD:Co q=.slice la ls.length lc:=by rw [hq];rfl
  have x':UC q=(zC (Au ls:Int) (FM ls)).toList:=by rw [hq];rfl
  refine⟨S.An λ y8 eA _ _ S=>⟨⟨S.cell 1 rfl rfl,S.cell 1 rfl rfl,S.cell 1 rfl rfl,S.cell 1 rfl rfl,S.cell 1 rfl rfl,S.cell 1 rfl rfl,S.cell 1 rfl rfl⟩,S.cell 3 rfl rfl,S.cell 3 rfl rfl,?_,?_⟩,S.An λ b61 tA _ _ S=>⟨S.cell 3 rfl rfl,S.cell 3 rfl rfl,S.An λ b62 j6 _ _ S=>⟨S.cell 4 rfl rfl,S.cell 4 rfl rfl,?_⟩⟩⟩
  ·have jy:Rd eA (some ⟨y8,0,none⟩) [Co q]:=by rw [mD];exact S.F0 0 rfl
   refine Aaw S 4 rfl jy iO λ gY gZ ie S=>⟨_,_,_,rfl,⟨S.cell 1 rfl rfl,S.cell 1 rfl rfl,S.cell 1 rfl rfl,S.cell 1 rfl rfl,S.cell 1 rfl rfl,S.cell 1 rfl rfl,S.cell 1 rfl rfl⟩,S.cell 3 rfl rfl,S.An λ b53 lS _ _ S=>⟨S.cell 4 rfl rfl,?_⟩⟩;have eS:Rd lS (some ⟨b53,0,none⟩) (UC q):=by rw [x'];exact S.F0 0 rfl
   exact Aax S 6 rfl eS iO λ iF iG oZ S=>⟨_,_,_,rfl,fin oZ _ _ _ gY gZ iF iG S⟩
  ·refine S.An λ tq kW _ _ S=>⟨S.cell 4 rfl rfl,S.cell 4 rfl rfl,?_⟩;have jy:Rd kW (some ⟨y8,0,none⟩) [Co q]:=by rw [mD];exact S.F0 1 rfl
   refine Aaw S 5 rfl jy iO λ gY gZ cR S=>⟨_,_,_,rfl,S.cell 4 rfl rfl,?_⟩;have eS:Rd cR (some ⟨tq,0,none⟩) (UC q):=by rw [x'];exact S.F0 0 rfl
   exact Aax S 6 rfl eS iO λ iF iG j0 S=>⟨_,_,_,rfl,fin j0 _ _ _ gY gZ iF iG S⟩
  ·have jy:Rd j6 (some ⟨b62,0,none⟩) [Co q]:=by rw [mD];exact S.F0 0 rfl
   refine Aaw S 5 rfl jy iO λ gY gZ re S=>⟨_,_,_,rfl,S.cell 4 rfl rfl,?_⟩;have eS:Rd re (some ⟨b61,0,none⟩) (UC q):=by rw [x'];exact S.F0 1 rfl
   exact Aax S 6 rfl eS iO λ iF iG kX S=>⟨_,_,_,rfl,fin kX _ _ _ gY gZ iF iG S⟩
 ·have bK:i=ns.length:=Omg;refine⟨S.get 6 rfl,?_⟩;have S:=S.put 6 rfl (.deferred none);refine⟨S.Ar,.inl ⟨⟨fH,0,none⟩,cs,aR,r,rfl,⟨⟨ca,cc,S.cell 0 rfl rfl,S.rd 4 rfl⟩,⟨va,vc,S.cell 0 rfl rfl,S.rd 1 rfl,λ q hq=>?_⟩,⟨za,zc,S.cell 0 rfl rfl,S.rd 2 rfl⟩,S.cell 0 rfl rfl,gP.2,Omg,hr24,cg⟩,λ aC rows xs hP=>?_⟩⟩
  ·have hm:rdI q∈aR.reverse.map rdI:=Ah9.2 ⟨q,List.mem_reverse.2 hq,rfl⟩;exact S.ok (rdI q) (List.mem_of_mem_drop (i:=9) hm)
  ·obtain⟨h1,h2,h3,h4⟩:=key aC rows xs hP;refine⟨h1,h2,?_⟩;rw [(aW aC rows xs hP).2,bK,br,h1]
end
def Iz(l:List UInt8):Prop:=40<=l.length/\l.drop (l.length-32)=H9 (l.take (l.length-32))
theorem Ej.pre{cs:List Bv}{rows:List (List AD)}{l:List UInt8}(hs:Br cs rows)(h:Ej cs rows l):∃ xs,Ee cs rows xs (l.take (l.length-32))/\Iz l:=by
 obtain⟨xs,h1,h2,rfl⟩:=h.ex;have h8:8<=(JX cs rows xs).length:=(Ee.split ⟨hs,h2,h1,rfl⟩).1;obtain⟨dg,hdg⟩:∃ dg,dg=H9 (JX cs rows xs):=⟨_,rfl⟩;have bp:dg.length=32:=by rw [hdg];exact Fu _
 have e:(Lh (JX cs rows xs)).length-32=(JX cs rows xs).length:=by
  unfold Lh;rw [<- hdg,Aiq,bp];omega
 have e2:(Lh (JX cs rows xs)).take ((Lh (JX cs rows xs)).length-32)=JX cs rows xs:=by
  rw [e];unfold Lh;rw [<- hdg,Ail]
 refine⟨xs,⟨hs,h2,h1,e2⟩,?_,?_⟩
 ·unfold Lh;rw [<- hdg,Aiq,bp];omega
 ·rw [e2,e];unfold Lh;rw [<- hdg,AjJ,hdg]
theorem Ro{cs:List Bv}{rows:List (List AD)}(h:∀ r∈rows,r.length=cs.length):rowsOf ((Ai0 cs.length).map (Bt rows)) rows.length=rows:=by
 refine AjW (by simp [rowsOf]) λ i h1 h2=>?_;simp only [rowsOf,List.getElem_map,List.getElem_range,rowAt,List.map_map];have hl:=h _ (Ai7 h2);refine AjW (by simp [hl]) λ j g1 g2=>?_;simp [Bt,AjZ,h2,g2]
def AgP(l:List UInt8)(w w':World)(v:Value):Prop :=
 Below w.heap.size w w'/\((∃ g p cs aR n,v=.tuple #[.pointer (some g),.int .i64 0]/\w'.cell? g=some (.pointer (some p))/\J5 w' p cs aR n/\Br cs (rowsOf (rws aR) n)/\Ej cs (rowsOf (rws aR) n) l /\
   ∀ aC rows',Br aC rows'->Ej aC rows' l->aC=cs/\rows'=rowsOf (rws aR) n/\n=rows'.length/\rws aR=(Ai0 aC.length).map (Bt rows')) \/
  (v=.tuple #[.pointer none,.int .i64 91]/\¬ Iz l)\/(v=.tuple #[.pointer none,.int .i64 90]/\Iz l/\∀ aC rows',Br aC rows'->¬ Ej aC rows' l))
theorem J5.grown{w w':World}{p:Addr}{cs:List Bv}{aR:List BH}{n:Nat}(h:J5 w p cs aR n)(B:Below w.heap.size w w'):J5 w' p cs aR n:=by
 have K:=Ak.AB (F:=λ _=>False) B;obtain⟨a0,c0,h1,h2⟩:=h.Ay;obtain⟨a1,c1,h3,h4⟩:=h.Aht;obtain⟨a2,c2,h5,h6⟩:=h.Ahv;exact⟨⟨a0,c0,K.cell h1 Osi,h2.grown B⟩,⟨a1,c1,K.cell h3 Osi,h4.grown B⟩,⟨a2,c2,K.cell h5 Osi,h6.grown B⟩,K.cell h.many Osi,h.right,h.len,h.small,h.each⟩
section
variable {w:World}
theorem JP(T:Hb w)(s:ByteArray)(hs:s.size<=140737488355328):Cw 77 #[.string s] w λ v w'=>AgP (bl s) w w' v:=by
 apply NF
 delta A B AgH H3 Cs D F H I J Ls N P Rs Rt S T W Y;try dsimp only [Ps]
 have an:=AW s;obtain⟨l,hl⟩:∃ l,l=bl s:=⟨_,rfl⟩;rw [<- hl] at an;have aP:s.size<40->¬ Iz l:=λ h hd=>by have:=hd.1;omega
 rw [<- hl];refine Aa (λ h=>⟨.refl _ _,.inr (.inl ⟨rfl,aP Omg⟩)⟩) (λ pz=>?_);have ml:40<=l.length:=Omg;refine BT Ca s w λ b0 c0 cells e0 w1 bZ B1 jf aj iy cZ=>?_;have dS:Rd w1 (some ⟨b0,0,none⟩) (l.map Ag):=by
  have:=(Rd.Al jf).take s.size;rw [cZ,<- hl] at this;exact this
 have eW:IntKind.i64.wrap ((s.size:Int)-32)=((l.length-32:Nat):Int):=by rw [wrap_i64 Omg Omg];omega
 refine⟨_,_,_,rfl,?_⟩;rw [eW];simp only [Ait,AjT];obtain⟨l1,dz⟩:∃ l1,l1=l.take (l.length-32):=⟨_,rfl⟩;have nw:l1.length=l.length-32:=by rw [dz,Ajm];omega
 obtain⟨a1,ha1⟩:∃ a1,a1=Ch (some ⟨b0,0,none⟩) 0 c0 1:=⟨_,rfl⟩;have wv:Rd w1 a1 (l1.map Ag):=by
  have h:=dS.NQ 0 (l.length-32) c0 1 Omg;simp only [Aiw,AjV,AjT] at h;rw [<- AiV,<- dz,<- ha1] at h;exact h
 rw [<- ha1,<- nw];have S:=LR (ST.start w) B1 (a:=some ⟨b0,0,none⟩) (xs:=l.map Ag) ⟨dS,λ k hk=>by cases hk;exact Nat.le_of_eq bZ.symm⟩;refine⟨⟨Omg,Omg,Omg⟩,S.An λ b4 w2 _ B2 S=>?_⟩;have iD:Rd w2 (some ⟨b4,0,none⟩) ([(a1,c0,l1)].map BZ):=S.F0 0 rfl;have e2:BR [(a1,c0,l1)]=l1:=by simp [BR]
 refine (Kp (c:=1) (T.grown S.Ar) [(a1,c0,l1)] iD (by
   intro p hp;simp only [Aia,Aju,or_false] at hp;subst hp;exact wv.grown B2) Osi (by rw [e2];omega)).mono ?_
 rw [e2];rintro _ w3 ⟨_,rfl,rfl,B3⟩;have S:=S.grown B3;have bp:(H9 l1).length=32:=Fu _;obtain⟨dg,hdg⟩:∃ dg,dg=H9 l1:=⟨_,rfl⟩;rw [<- hdg] at bp ⊢;have jb:(dg.map Ag).length=32:=by rw [AiH];exact bp
 refine Iw dg bp ⟨rfl,S.An λ b7 w4 _ B4 S=>Dg jb (S.Eb 0 rfl jb (FR _) λ w5 S=>S.draw λ w6 _ S=>⟨⟨Omg,Omg,Omg⟩,⟨Omg,Omg,Omg⟩,?_⟩)⟩;have r9:Rd w6 (Ch (some ⟨b7,0,none⟩) 0 32 1) (dg.map Ag):=by
  have h:=(S.F0 0 rfl).NQ 0 32 32 1 Omg;have e:(AjX ((32-0)*1) (AjY (0*1) (dg.map Ag)))=dg.map Ag:=by
   rw [Ajv,AjV];exact AiZ (by rw [AiH];omega)
  have h':Rd w6 (Ch (some ⟨b7,0,none⟩) 0 32 1) (AjX ((32-0)*1) (AjY (0*1) (dg.map Ag))):=h;rwa [e] at h'
 refine Aw Ca bp.symm r9 ⟨_,rfl,?_⟩;have vd:s.extract l1.length s.size=Bu (l.drop (l.length-32)):=by
  rw [extract_eq,<- hl,nw];congr 1;exact AiZ (by rw [AiT];omega)
 rw [vd,AU];have jc:Iz l↔Bu dg=Bu (l.drop (l.length-32)):=by
  unfold Iz;rw [<- dz,<- hdg];constructor
  ·intro h;rw [h.2]
  ·intro h;have:=congrArg bl h;rw [Bn,Bn] at this;exact⟨ml,this.symm⟩
 refine As (Aa (λ hd=>⟨⟨Omg,Omg,Omg⟩,?_⟩) (λ hd=>⟨S.Ar,.inr (.inl ⟨rfl,λ h=>hd (jc.1 h)⟩)⟩));have hD:=jc.2 hd;have xG:Rd w6 (some ⟨b0,0,none⟩) (l.map Ag):=S.ok (It.rd (some ⟨b0,0,none⟩) (l.map Ag)) (List.mem_of_mem_drop (i:=2) Osi);have xF:Rd w6 a1 (l1.map Ag):=by
  have h:=xG.NQ 0 (l.length-32) c0 1 Omg;simp only [Aiw,AjV,AjT] at h;rw [<- AiV,<- dz,<- ha1] at h;exact h
 refine (Sf xF Omg Omg Omg).mono ?_;rintro _ w8 ⟨_,rfl,B8,hC⟩;have S:=S.grown B8;have no:(∀ aC rows' gf,¬ Ee aC rows' gf l1)->∀ aC rows',Br aC rows'->¬ Ej aC rows' l:=λ h aC rows' bR hI=>by
  obtain⟨xs,hP,_⟩:=hI.pre bR;rw [<- dz] at hP;exact h _ _ _ hP
 rcases hC with ⟨p,cs,aR,n,rfl,hA,hu⟩ | ⟨rfl,hno2⟩
 ·have iz:∀ aC rows',Br aC rows'->Ej aC rows' l->aC=cs/\rows'=rowsOf (rws aR) n/\n=rows'.length/\rws aR=(Ai0 aC.length).map (Bt rows'):=λ aC rows' bR hI=>by
   obtain⟨xs,hP,_⟩:=hI.pre bR;rw [<- dz] at hP;obtain⟨h1,h2,h3⟩:=hu aC rows' xs hP;refine⟨h1.symm,?_,h2,h3⟩;rw [h3,h2,Ro λ r hr=>bR.Ud hr]
  refine⟨_,_,rfl,As (CG (S.draw λ w9 B9 S=>?_))⟩;have sG:=hA.grown B9;obtain⟨ca,cc,gO,cI⟩:=sG.Ay;obtain⟨va,vc,hv1,iX⟩:=sG.Aht;have bQ:=AX hA.right;have d':=hA.small;refine⟨_,_,_,gO,(Age sG.many hv1 iX Omg (by have:=hA.len;omega) (λ q hq=>(hA.each q hq).1)).mono ?_⟩;rintro _ bX ⟨_,rfl,bo,ps,rfl,bM,cO,ui,bu⟩;have uY:=sG.grown bu;have S:=S.grown bu;have xp:=Ak.AB (F:=λ _=>False) bu;refine⟨_,_,_,rfl,xp.cell gO Osi,?_⟩;have hW:=IP (c:=cc) (c2:=n) (T.grown S.Ar) (cI.grown bu) Omg (λ c hc=>by have:=(CX hA.right hc).2.2.2;omega) ui Omg (by
   intro r hr v hv;rw [cO] at hr;obtain⟨i,hi,rfl⟩:=Ah9.1 hr;obtain⟨dO,eK,rfl⟩:=Ah9.1 hv;obtain⟨q,hq,rfl⟩:=Ah9.1 eK;obtain⟨lI,k,hg⟩:=hA.each q hq;have aD:i<q.2.2.length:=by have:=List.mem_range.1 hi;omega
   have e:q.2.2.getD i Z0=q.2.2[i]:=by simp [AjZ,aD]
   rw [e];exact hg.ok _ (Ai7 aD))
  rw [bM] at hW;refine hW.mono ?_;rintro _ aZ ⟨_,rfl,hV,cH⟩;have S:=S.grown cH;have uZ:=uY.grown cH;rw [cO] at hV;rcases hV with ⟨hnok,rfl,hE⟩ | ⟨aK,b,rfl,hI⟩
  ·refine⟨_,_,rfl,Ai (λ _=>⟨S.Ar,.inr (.inr ⟨rfl,hD,λ aC rows' bR hI=>?_⟩)⟩) (λ h=>absurd h hE)⟩;obtain⟨rfl,rfl,_⟩:=iz aC rows' bR hI;exact hnok bR
  ·refine⟨_,_,rfl,Ai (λ h=>absurd rfl h) (λ _=>?_)⟩;rw [AU];refine As (Aa (λ he=>?_) (λ he=>⟨S.Ar,.inr (.inr ⟨rfl,hD,λ aC rows' bR ki=>?_⟩)⟩))
   ·have jW:b=l:=by have:=congrArg bl he;rwa [Bn,<- hl] at this
    subst jW;refine S.An λ kI bL _ j7 S=>⟨S.Ar,.inl ⟨⟨kI,0,none⟩,p,cs,aR,n,rfl,S.cell 0 rfl rfl,uZ.grown j7,aK,hI,iz⟩⟩
   ·obtain⟨rfl,rfl,_⟩:=iz aC rows' bR ki;exact he (by rw [hI.one ki,hl,DP])
 ·exact⟨_,_,rfl,As (AN ⟨S.Ar,.inr (.inr ⟨rfl,hD,no hno2⟩)⟩)⟩
end
section
variable {w:World}{g p:Addr}{cs:List Bv}{aR:List BH}{n:Nat}
theorem Ahc(hg:w.cell? g=some (.pointer (some p))):Cw 118 #[.pointer (some g)] w λ v w'=>v=.pointer (some p)/\w'=w:=by
 apply Im
 delta F Lp P;try dsimp only [Ps]
 exact AN ⟨_,hg,rfl,rfl⟩
theorem AaP(hg:w.cell? g=some (.pointer (some p)))(h:J5 w p cs aR n):Cw 80 #[.pointer (some g)] w λ v w'=>v=.int .i64 (n:Int)/\w'=w:=by
 apply HB
 delta Ci Cp I P;try dsimp only [Ps]
 refine (Ahc hg).mono ?_;rintro _ w1 ⟨_,rfl,rfl,rfl⟩;have h':Cw 119 #[.pointer (some p)] w1 λ v w'=>v=.int .i64 (n:Int)/\w'=w1:=by
  apply HD
  delta F I Li;try dsimp only [Ps]
  exact AN ⟨_,h.many,rfl,rfl⟩
 refine⟨_,rfl,h'.mono ?_⟩;rintro _ w2 ⟨_,rfl,rfl,rfl⟩;exact⟨_,rfl,rfl,rfl⟩
end
theorem Ej.len{cs:List Bv}{rows:List (List AD)}{b:List UInt8}(hs:Br cs rows)(h:Ej cs rows b):b.length<=40000000:=by
 obtain⟨xs,h1,h2,rfl⟩:=h.ex;have:=h2.Aam hs;have hd:=Fu (JX cs rows xs);unfold Lh;rw [Aiq,hd];omega
theorem Vy{f:Int->Value}{m:Nat}:∀(iH:List (List Int)) (cs:List Value),cs.length=iH.length*m->(∀ i (hi:i<iH.length),(cs.drop (i*m)).take m=iH[i].map f)->cs=iH.flatten.map f
 | [],cs,hl,_=>by
  have:cs=[]:=List.eq_nil_of_length_eq_zero (by simpa using hl);rw [this];rfl
 | z :: zs,cs,hl,h=>by
  have h0:=h 0 Osi;simp only [Ajv,AjV,List.getElem_cons_zero] at h0;have ih:=Vy (m:=m) zs (cs.drop m) (by rw [AiT,hl,Ais,Nat.add_mul];omega) (λ i hi=>by
   have:=h (i+1) (by simp;omega);rw [List.drop_drop];rw [show m+i*m=(i+1)*m by rw [Nat.add_mul];omega];exact this)
  rw [Aj0,AiK,<- h0,<- ih,List.take_append_drop]
theorem UH{H:Type}{enc:TypeId × Value->H}{P:Program}{w:World}{base:Nat}{sp:Nat->Bool}{held:Bool}{fuel:Nat}{t e e2:TypeId}{n m:Nat}{k:IntKind}{cs:List Value}{iH:List (List Int)}{p:List MemPlace}
  (ht:P.underlying t=some (.array n e)) (he:P.underlying e=some (.array m e2)) (nQ:P.underlying e2=some (.int k)) (cI:P.cellsOf e2=1) (nP:P.cellsOf e=m) (kz:P.cellsOf t=n*m)
  (h:DataW.trod enc P w base sp held fuel t cs=some (.agg (iH.map (Lib.tabData k)),p)):cs=iH.flatten.map λ z=>Value.int k z:=by
 cases fuel with
 | zero=>simp [DataW.trod] at h
 | succ fuel =>
  simp only [DataW.trod,ht,nP,kz] at h;split at h
  ·rename_i hl;obtain⟨xs,hm,hx⟩:=AjI.1 h;have bU:xs.map (·.1)=iH.map (Lib.tabData (H:=H) k):=by
    have:=congrArg Aj1 hx;simpa using this
   have dE:xs.length=n:=by simpa using Lib.mapM_length hm
   have xb:iH.length=n:=by
    have:=congrArg AjO bU;simp at this;omega
   refine Vy (m:=m) iH cs (by rw [hl,xb]) λ i hi=>?_;have cG:i<n:=Omg;obtain⟨b,hb,hf⟩:=Lib.mapM_at hm i i (by simp [cG]);have h2:(xs.map (·.1))[i]?=some b.1:=by simp [hb]
   rw [bU,Aj4,Ajk hi] at h2;have h3:b.1=Lib.tabData k iH[i]:=(Ajx h2).symm;obtain⟨b1,b2⟩:=b;simp only at h3;subst h3;exact Lib.cells_of_tab he nQ cI nP hf
  ·cases h
theorem Abw{P:Program}{W:World}{name:String}{g:Nat}{cs:List Value}(hg:P.globalNamed name=some g)(h:W.var? P name=some cs.toArray):Rd W (some ⟨g,0,none⟩) cs:=by
 intro j v hv;refine⟨_,rfl,?_⟩;rw [Ax,Aiv];have:=World.var?_cell hg h j;rw [this];simpa using hv
theorem Abs{P:Program}{W:World}{name:String}{k:IntKind}{iH:List (List Int)}{g:Nat}{t e e2:TypeId}{n m:Nat}{rest:List (String × DataW Unit)}
  (hg:P.globalNamed name=some g) (xS:(P.globals[g]?).map (·.type)=some t) (ht:P.underlying t=some (.array n e)) (he:P.underlying e=some (.array m e2)) (nQ:P.underlying e2=some (.int k)) (cI:P.cellsOf e2=1) (nP:P.cellsOf e=m) (kz:P.cellsOf t=n*m)
  (h:laidMet P ((name,.agg (iH.map (Lib.tabData k))) :: rest) W):Rd W (some ⟨g,0,none⟩) (iH.flatten.map λ z=>Value.int k z):=by
 obtain⟨ps,⟨g',t',cs,fuel,p,q,bD,ht',hvar,hd,_,_⟩,_⟩:=h;obtain rfl:=Ajx (hg.symm.trans bD);obtain rfl:=Ajx (xS.symm.trans ht');have e:=UH ht he nQ cI nP kz hd;refine Abw hg ?_;rw [hvar,<- e]
theorem AfK{P:Program}{W:World}{name:String}{k:IntKind}{zs:List Int}{g:Nat}{t e:TypeId}{n:Nat}{rest:List (String × DataW Unit)}
  (hg:P.globalNamed name=some g) (xS:(P.globals[g]?).map (·.type)=some t) (ht:P.underlying t=some (.array n e)) (he:P.underlying e=some (.int k)) (nP:P.cellsOf e=1) (kz:P.cellsOf t=n)
  (h:laidMet P ((name,Lib.tabData k zs) :: rest) W):Rd W (some ⟨g,0,none⟩) (zs.map λ z=>Value.int k z):=Abw hg (Lib.tabIs_of_head hg xS ht he nP kz h)
theorem AfL {W : World} {l : List (String × DataW Unit)} (h1 : (l.filter λ x => x.1 == "stackyard/hash.first") = [("stackyard/hash.first", Rows.laid_stackyard_hash_first)]) (h2 : (l.filter λ x => x.1 == "stackyard/hash.orders") = [("stackyard/hash.orders", Rows.laid_stackyard_hash_orders)])
  (h3 : (l.filter λ x => x.1 == "stackyard/hash.places") = [("stackyard/hash.places", Rows.laid_stackyard_hash_places)]) (h : laidMet Aix l W) : Hb W := by
 have g1 := h.filter λ x => x.1 == "stackyard/hash.first"
 have g2 := h.filter λ x => x.1 == "stackyard/hash.orders"
 have g3 := h.filter λ x => x.1 == "stackyard/hash.places"
 rw [h1] at g1;rw [h2] at g2;rw [h3] at g3;have e1:(Rows.laid_stackyard_hash_first:DataW Unit)=Lib.tabData .u32 (BX.map λ x=>(x.toNat:Int)):=by rfl
 have e2:(Rows.laid_stackyard_hash_orders:DataW Unit)=.agg (((Ai0 10).map KQ).map (Lib.tabData .u8)):=by rfl
 have e3:(Rows.laid_stackyard_hash_places:DataW Unit)=.agg (((Ai0 8).map λ i=>(Hj.drop (i*4)).take 4).map (Lib.tabData .u8)):=by rfl
 rw [e1] at g1;rw [e2] at g2;rw [e3] at g3;have r1:=AfK (g:=0) (t:=216) (e:=184) (n:=8) (by kernel_rfl) (by kernel_rfl) (by kernel_rfl) (by kernel_rfl) (by kernel_rfl) (by kernel_rfl) g1;have r2:=Abs (g:=1) (t:=297) (e:=296) (e2:=5) (n:=10) (m:=16) (by kernel_rfl) (by kernel_rfl) (by kernel_rfl) (by kernel_rfl) (by kernel_rfl) (by kernel_rfl) (by kernel_rfl) (by kernel_rfl) g2;have r3:=Abs (g:=2) (t:=299) (e:=298) (e2:=5) (n:=8) (m:=4) (by kernel_rfl) (by kernel_rfl) (by kernel_rfl) (by kernel_rfl) (by kernel_rfl) (by kernel_rfl) (by kernel_rfl) (by kernel_rfl) g3;have q2:((Ai0 10).map KQ).flatten=Sx:=Ode;have q3:((Ai0 8).map λ i=>(Hj.drop (i*4)).take 4).flatten=Hj:=Ode;rw [q2] at r2;rw [q3] at r3;exact⟨by rw [List.map_map] at r1;exact r1,r2,r3⟩
end Go.Proofs.YtpnaifmmggnimaaGreatDoor
namespace Go.Proofs.YtpnaifmmggnimaaGreatDoor
open _root_.List renaming append_assoc -> Air, drop_drop -> AjM, drop_eq_getElem_cons -> Aj7, flatMap_append -> Aj8, flatMap_cons -> AjA, length_append -> Aiq, length_take -> Ajm, mem_cons -> Aia, mem_map -> Ah9
open _root_.Option renaming bind_eq_some_iff -> Aj6, isSome_iff_exists -> Aj9, map_eq_some_iff -> AjI
open _root_.Option.some renaming injEq -> AjH
open _root_.Prod.mk renaming injEq -> Ah3
set_option maxRecDepth 100000
open Go.Dn Go.Proofs
set_option linter.unusedVariables false
structure UE(l:List UInt8)(a b:Nat)(x:List UInt8):Prop where
 le:b<=l.length
 eq:l.drop a=x++l.drop b
 len:b=a+x.length
theorem UE.nil{l:List UInt8}{a:Nat}(h:a<=l.length):UE l a a []:=⟨h,rfl,rfl⟩
theorem UE.append{l x y:List UInt8}{a b c:Nat}(h:UE l a b x)(h':UE l b c y):UE l a c (x++y) :=
 ⟨h'.le,by rw [h.eq,h'.eq,Air],by rw [h'.len,h.len,Aiq];omega⟩
theorem UE.all{l x:List UInt8}{b:Nat}(h:UE l 0 b x)(hb:b=l.length):l=x:=by
 have:=h.eq;rw [List.drop_zero,hb,List.drop_length,List.append_nil] at this;exact this
theorem QV{l:List UInt8}{a n b:Nat}(h:takeN l (a:Int)=some (n,b)):UE l a b (Af n):=by
 have hb:=AA h;unfold takeN at h;rw [if_neg Omg,Int.toNat_natCast] at h;obtain⟨x,hx,he⟩:=AjI.1 h;obtain⟨n',k⟩:=x;simp only [Ah3] at he;obtain⟨rfl,rfl⟩:=he;obtain⟨m,e1,e2,e3,_⟩:=TZ _ _ _ _ _ hx;simp only [Nat.pow_zero,Nat.mul_one,Nat.zero_add] at e1 e2;subst e1;subst e2;refine⟨hb.2.2.2.1,?_,rfl⟩
 conv=>lhs;rw [e3]
 rw [AjM]
theorem AdB{l:List UInt8}{k n:Nat}(h:n<=l.length-k)(hk:k<=l.length):UE l k (k+n) ((l.drop k).take n):=by
 refine⟨Omg,?_,by rw [Ajm,List.length_drop];omega⟩;rw [<- AjM,List.take_append_drop]
theorem LU{l:List UInt8}{a most k:Nat}{s:List UInt8}(h:BG l (a:Int) most=some (s,k)):UE l a k (Bm (Bu s))/\s.length<=most/\s.length<=1048576:=by
 unfold BG at h;cases hn:takeN l (a:Int) with
 | none=>rw [hn] at h;cases h
 | some x =>
  obtain⟨n,p⟩:=x;rw [hn] at h;simp only at h;split at h
  ·cases h
  ·rename_i aP;simp only [AjH,Ah3] at h;obtain⟨rfl,rfl⟩:=h;have h1:=QV hn;have h2:=AdB (l:=l) (k:=p) (n:=n) Omg h1.le;have e:((l.drop p).take n).length=n:=by rw [Ajm,List.length_drop];omega
   refine⟨?_,Omg,Omg⟩;have:=h1.append h2;unfold Bm;rw [Bn,AP,e];exact this
theorem AfM{l:List UInt8}{k:Nat}(h:2<=l.length-k):UE l k (k+2) [l.getD k 0,l.getD (k+1) 0]:=by
 refine⟨Omg,?_,rfl⟩;have h1:k<l.length:=Omg;have h2:k+1<l.length:=Omg;rw [Aj7 h1,Aj7 h2];simp [List.getD,h1,h2]
theorem Pp:∀(n:Nat) {l:List UInt8} {a k:Nat} {cs:List Bv},a<=l.length->A8 l a n=some (cs,k)->UE l a k (cs.flatMap I5)/\cs.length=n
 | 0,l,a,k,cs,ha,h=>by
  simp only [A8,AjH,Ah3] at h;obtain⟨rfl,rfl⟩:=h;exact⟨.nil ha,rfl⟩
 | n+1,l,a,k,cs,ha,h=>by
  unfold A8 at h;cases ht:BG l (a:Int) 24 with
  | none=>rw [ht] at h;cases h
  | some x =>
   obtain⟨s,p⟩:=x;rw [ht] at h;simp only at h;split at h
   ·cases h
   ·rename_i aP;obtain⟨r,hr,he⟩:=AjI.1 h;obtain⟨rs,q⟩:=r;simp only [Ah3] at he;obtain⟨rfl,rfl⟩:=he;have h1:=(LU ht).1;have h2:=AfM (l:=l) (k:=p) Omg;obtain⟨h3,h4⟩:=Pp n Omg hr;refine⟨?_,by simp [h4]⟩;have:=(h1.append h2).append h3;have e1:UInt8.ofNat ((l.getD p 0).toNat:Int).toNat=l.getD p 0:=Osi;have e2:IC ((l.getD (p+1) 0).toNat==1)=l.getD (p+1) 0:=by
     have hle:(l.getD (p+1) 0).toNat<=1:=Omg;generalize l.getD (p+1) 0=u at hle ⊢;have hu:u=UInt8.ofNat u.toNat:=Osi;rcases Nat.le_one_iff_eq_zero_or_eq_one.1 hle with h | h <;> rw [h] at hu <;> subst hu <;> rfl
    rw [AjA];unfold I5;simp only;rw [e1,e2];exact this
theorem Rv{l:List UInt8}{a k:Nat}{cs:List Bv}(h:A7 l (a:Int)=some (cs,k)):UE l a k (Cx cs)/\Ao cs=true:=by
 unfold A7 at h;cases hn:takeN l (a:Int) with
 | none=>rw [hn] at h;cases h
 | some x =>
  obtain⟨n,p⟩:=x;rw [hn] at h;simp only at h;split at h
  ·cases h
  ·cases hc:A8 l p n with
   | none=>rw [hc] at h;cases h
   | some y =>
    obtain⟨aC,q⟩:=y;rw [hc] at h;simp only at h;split at h
    ·rename_i hR;simp only [AjH,Ah3] at h;obtain⟨rfl,rfl⟩:=h;have h1:=QV hn;obtain⟨h2,h3⟩:=Pp n h1.le hc;refine⟨?_,hR⟩;unfold Cx;rw [h3];exact h1.append h2
    ·cases h
def A3:Nat:=4611686018427387904
def Ei(l:List UInt8)(lo hi at_:Nat):Option (Nat × Nat):=(takeN l (at_:Int)).bind λ x=>if lo<=x.1/\x.1<=hi then some x else none
def JL(l:List UInt8)(at_:Nat):Option (ByteArray × Nat):=(BG l (at_:Int) 64).bind λ x=>if x.1.length=64 then some (Bu x.1,x.2) else none
abbrev FG:=ByteArray × Nat
abbrev Fg:=Nat × Nat × Nat × Nat
def KV(l:List UInt8)(at_:Nat):Option (FG × Nat):=(JL l at_).bind λ x=>(Ei l 1 1024 x.2).map λ y=>((x.1,y.1),y.2)
def P0(l:List UInt8)(at_:Nat):Option (Fg × Nat) :=
 (Ei l 0 A3 at_).bind λ x=>(Ei l 1 A3 x.2).bind λ y=>(Ei l 0 1000 y.2).bind λ z=>(Ei l 0 A3 z.2).map λ u=>((x.1,y.1,z.1,u.1),u.2)
def BN{α:Type}(rd:Nat->Option (α × Nat)):Nat->Nat->Option (List α × Nat)
 | 0,at_=>some ([],at_)
 | n+1,at_=>(BN rd n at_).bind λ r=>(rd r.2).map λ x=>(r.1++[x.1],x.2)
def Vo(l:List UInt8)(at_:Nat):Option (List Bv × Nat):=(Ei l 0 1 at_).bind λ x=>if x.1=1 then A7 l (x.2:Int) else some ([],x.2)
structure MF where
 Ay:List Bv
 parts:List FG
 CC:List Fg
def AbT(l:List UInt8):Option (MF × Nat) :=
 (Vo l 0).bind λ c=>(Ei l 0 256 c.2).bind λ n=>(BN (KV l) n.1 n.2).bind λ p=>(Ei l 0 64 p.2).bind λ m=>(BN (P0 l) m.1 m.2).map λ k=>(⟨c.1,p.1,k.1⟩,k.2)
def RH(p:FG):List UInt8:=Bm p.1++Af p.2
def Km(c:Fg):List UInt8:=Af c.1++Af c.2.1++Af c.2.2.1++Af c.2.2.2
def IE(cs:List Bv):List UInt8:=if cs=[] then Af 0 else Af 1++Cx cs
def Aco(cs:List Bv)(ps:List FG):List UInt8:=IE cs++Af ps.length++ps.flatMap RH
def FA(cs:List Bv)(ps:List FG)(ks:List Fg):List UInt8:=Aco cs ps++Af ks.length++ks.flatMap Km
def SS(p:FG):Prop:=p.1.size=64/\1<=p.2/\p.2<=1024
def GF(c:Fg):Prop:=c.1<=A3/\(1<=c.2.1/\c.2.1<=A3)/\c.2.2.1<=1000/\c.2.2.2<=A3
structure AfU(c:MF):Prop where
 Ay:c.Ay=[]\/Ao c.Ay=true
 np:c.parts.length<=256
 nc:c.CC.length<=64
 parts:∀ p∈c.parts,SS p
 CC:∀ k∈c.CC,GF k
theorem C0{l:List UInt8}{lo hi a n b:Nat}(h:Ei l lo hi a=some (n,b)):UE l a b (Af n)/\lo<=n/\n<=hi:=by
 unfold Ei at h;obtain⟨x,hx,h⟩:=Aj6.1 h;split at h
 ·rename_i hc;cases h;exact⟨QV hx,hc⟩
 ·cases h
theorem Acq{l:List UInt8}{a b:Nat}{s:ByteArray}(h:JL l a=some (s,b)):UE l a b (Bm s)/\s.size=64:=by
 unfold JL at h;obtain⟨x,hx,h⟩:=Aj6.1 h;split at h
 ·rename_i hc;cases h;exact⟨(LU hx).1,by rw [AP];exact hc⟩
 ·cases h
theorem Acw{l:List UInt8}{a b:Nat}{p:FG}(h:KV l a=some (p,b)):UE l a b (RH p)/\SS p:=by
 unfold KV at h;obtain⟨x,hx,h⟩:=Aj6.1 h;obtain⟨y,hy,h⟩:=AjI.1 h;simp only [Ah3] at h;obtain⟨rfl,rfl⟩:=h;have h1:=Acq hx;have h2:=C0 hy;exact⟨h1.1.append h2.1,h1.2,h2.2⟩
theorem Adp{l:List UInt8}{a b:Nat}{c:Fg}(h:P0 l a=some (c,b)):UE l a b (Km c)/\GF c:=by
 unfold P0 at h;obtain⟨x,hx,h⟩:=Aj6.1 h;obtain⟨y,hy,h⟩:=Aj6.1 h;obtain⟨z,hz,h⟩:=Aj6.1 h;obtain⟨u,hu,h⟩:=AjI.1 h;simp only [Ah3] at h;obtain⟨rfl,rfl⟩:=h;have h1:=C0 hx;have h2:=C0 hy;have h3:=C0 hz;have h4:=C0 hu;exact⟨((h1.1.append h2.1).append h3.1).append h4.1,h1.2.2,h2.2,h3.2.2,h4.2.2⟩
theorem Qk{α:Type}{l:List UInt8}{rd:Nat->Option (α × Nat)}{enc:α->List UInt8}{Ok:α->Prop}(hr:∀ a x b,rd a=some (x,b)->UE l a b (enc x)/\Ok x) :
  ∀(n:Nat) {a b:Nat} {xs:List α},a<=l.length->BN rd n a=some (xs,b)->UE l a b (xs.flatMap enc)/\xs.length=n/\∀ x∈xs,Ok x
 | 0,a,b,xs,ha,h=>by
  simp only [BN,AjH,Ah3] at h;obtain⟨rfl,rfl⟩:=h;exact⟨.nil ha,rfl,Osi⟩
 | n+1,a,b,xs,ha,h=>by
  unfold BN at h;obtain⟨r,h1,h⟩:=Aj6.1 h;obtain⟨x,h2,h⟩:=AjI.1 h;simp only [Ah3] at h;obtain⟨rfl,rfl⟩:=h;obtain⟨g1,g2,g3⟩:=Qk hr n ha h1;obtain⟨g4,g5⟩:=hr _ _ _ h2;refine⟨?_,by simp [g2],λ y hy=>?_⟩
  ·rw [Aj8];simpa using g1.append g4
  ·rcases List.mem_append.1 hy with h | h
   ·exact g3 y h
   ·rw [List.mem_singleton.1 h];exact g5
theorem IL{cs:List Bv}(h:Ao cs=true):cs≠[]:=by
 intro e;have:=AX h;rw [e] at this;simp at this
theorem AbZ{l:List UInt8}{a b:Nat}{cs:List Bv}(h:Vo l a=some (cs,b)):UE l a b (IE cs)/\(cs=[]\/Ao cs=true):=by
 unfold Vo at h;obtain⟨x,hx,h⟩:=Aj6.1 h;have h1:=C0 hx;split at h
 ·rename_i hc;have h2:=Rv h;rw [hc] at h1;refine⟨?_,.inr h2.2⟩;rw [IE,if_neg (IL h2.2)];exact h1.1.append h2.1
 ·rename_i hc;cases h;have:x.1=0:=Omg;rw [this] at h1;exact⟨by rw [IE,if_pos rfl];exact h1.1,.inl rfl⟩
theorem Adn{l:List UInt8}{c:MF}{b:Nat}(h:AbT l=some (c,b)):UE l 0 b (FA c.Ay c.parts c.CC)/\AfU c:=by
 unfold AbT at h;obtain⟨x,hx,h⟩:=Aj6.1 h;obtain⟨y,hy,h⟩:=Aj6.1 h;obtain⟨z,hz,h⟩:=Aj6.1 h;obtain⟨u,hu,h⟩:=Aj6.1 h;obtain⟨v,hv,h⟩:=AjI.1 h;simp only [Ah3] at h;obtain⟨rfl,rfl⟩:=h;have h1:=AbZ hx;have h2:=C0 hy;have h3:=Qk (λ a p b=>Acw) _ h2.1.le hz;have h4:=C0 hu;have h5:=Qk (λ a p b=>Adp) _ h4.1.le hv;refine⟨?_,h1.2,by rw [h3.2.1];exact h2.2.2,by rw [h5.2.1];exact h4.2.2,h3.2.2,h5.2.2⟩;unfold FA Aco;simp only [h3.2.1,h5.2.1];exact (((h1.1.append h2.1).append h3.1).append h4.1).append h5.1
theorem Hg{a b:Nat}(ha:a<18446744073709551616)(hb:b<18446744073709551616){x y:List UInt8}(h:Af a++x=Af b++y):a=b/\x=y:=by
 have h1:=Bo (l:=Af a++x) (r:=x) (at_:=0) ha Osi;have h2:=Bo (l:=Af b++y) (r:=y) (at_:=0) hb Osi;rw [h] at h1;rw [h2] at h1;simp only [AjH,Ah3] at h1;obtain⟨e,_⟩:=h1;subst e;exact⟨rfl,List.append_cancel_left h⟩
theorem AdC{c d:Fg}(hc:GF c)(hd:GF d){x y:List UInt8}(h:Km c++x=Km d++y):c=d/\x=y:=by
 obtain⟨c1,c2,c3,c4⟩:=c;obtain⟨d1,d2,d3,d4⟩:=d;obtain⟨a1,a2,a3,a4⟩:=hc;obtain⟨b1,b2,b3,b4⟩:=hd;simp only [A3] at a1 a2 a3 a4 b1 b2 b3 b4;simp only [Km,Air] at h;have h1:=Hg Omg Omg h;have h2:=Hg Omg Omg h1.2;have h3:=Hg Omg Omg h2.2;have h4:=Hg Omg Omg h3.2;exact⟨by rw [h1.1,h2.1,h3.1,h4.1],h4.2⟩
theorem Yc:∀ {k m:List Fg},(∀ c∈k,GF c)->(∀ c∈m,GF c)->k.length=m.length->k.flatMap Km=m.flatMap Km->k=m
 | [],[],_,_,_,_=>rfl
 | [],_ :: _,_,_,h,_=>by cases h
 | _ :: _,[],_,_,h,_=>by cases h
 | c :: k,d :: m,hk,hm,hl,h=>by
  rw [AjA,AjA] at h;have h1:=AdC (hk c Osi) (hm d Osi) h;rw [h1.1,Yc (λ x hx=>hk x (by simp [hx])) (λ x hx=>hm x (by simp [hx])) (by simpa using hl) h1.2]
theorem Aet{cs:List Bv}{ps:List FG}{k m:List Fg}(hk:∀ c∈k,GF c)(hm:∀ c∈m,GF c)(lk:k.length<=64)(lm:m.length<=64)(h:FA cs ps k=FA cs ps m):k=m:=by
 unfold FA at h;simp only [Air] at h;have h1:=Hg Omg Omg (List.append_cancel_left h);exact Yc hk hm h1.1 h1.2
def mapOf(k:List Fg)(i:Nat):Option (Nat × Nat × Nat):=(k.reverse.find? λ c=>decide (c.1=i)).map (·.2)
theorem Jk(k:List Fg)(c:Fg)(i:Nat):mapOf (k++[c]) i=if i=c.1 then some c.2 else mapOf k i:=by
 unfold mapOf;rw [List.reverse_append];simp only [List.reverse_cons,List.reverse_nil,List.nil_append,List.cons_append,List.find?_cons];by_cases h:i=c.1
 ·subst h;simp
 ·have aQ:¬ c.1=i:=λ e=>h e.symm;simp [h,aQ]
theorem LK{k:List Fg}{i:Nat}{x:Nat × Nat × Nat}(h:mapOf k i=some x):(i,x)∈k:=by
 unfold mapOf at h;obtain⟨c,hc,rfl⟩:=AjI.1 h;have h1:=List.find?_some hc;have h2:=List.mem_of_find?_eq_some hc;simp only [decide_eq_true_eq] at h1;subst h1;exact List.mem_reverse.1 h2
theorem DO{k:List Fg}{i:Nat}:(mapOf k i).isSome=true↔i∈k.map (·.1):=by
 constructor
 ·intro h;obtain⟨x,hx⟩:=Aj9.1 h;exact Ah9.2 ⟨_,LK hx,rfl⟩
 ·intro h;obtain⟨c,hc,rfl⟩:=Ah9.1 h;unfold mapOf;rw [Option.isSome_map,List.find?_isSome];exact⟨c,List.mem_reverse.2 hc,Osi⟩
def SW(k:List Fg):Prop:=(k.map (·.1)).Pairwise (·<·)
theorem Xa:∀ {x y:List Nat},x.Pairwise (·<·)->y.Pairwise (·<·)->(∀ i,i∈x↔i∈y)->x=y
 | [],[],_,_,_=>rfl
 | [],b :: y,_,_,h=>by have:=(h b).2 Osi;cases this
 | a :: x,[],_,_,h=>by have:=(h a).1 Osi;cases this
 | a :: x,b :: y,hx,hy,h=>by
  rw [List.pairwise_cons] at hx hy;have fM:a=b:=by
   rcases Nat.lt_trichotomy a b with hl | he | hl
   ·have:=(h a).1 Osi;rcases Aia.1 this with e | e
    ·exact e
    ·have:=hy.1 a e;omega
   ·exact he
   ·have:=(h b).2 Osi;rcases Aia.1 this with e | e
    ·exact e.symm
    ·have:=hx.1 b e;omega
  subst fM;congr 1;refine Xa hx.2 hy.2 λ i=>?_;constructor
  ·intro hi;rcases Aia.1 ((h i).1 (by simp [hi])) with e | e
   ·have:=hx.1 i hi;omega
   ·exact e
  ·intro hi;rcases Aia.1 ((h i).2 (by simp [hi])) with e | e
   ·have:=hy.1 i hi;omega
   ·exact e
def Cz(g:Nat->Option (Nat × Nat × Nat))(ids:List Nat):List Fg:=ids.map λ i=>(i,(g i).getD (0,0,0))
theorem PY(g:Nat->Option (Nat × Nat × Nat))(ids:List Nat):(Cz g ids).map (·.1)=ids:=by
 unfold Cz;rw [List.map_map];exact List.map_id _
theorem PZ{k:List Fg}{ids:List Nat}(hm:∀ i,i∈ids↔(mapOf k i).isSome=true){c:Fg}(h:c∈Cz (mapOf k) ids):c∈k:=by
 unfold Cz at h;obtain⟨i,hi,rfl⟩:=Ah9.1 h;obtain⟨x,hx⟩:=Aj9.1 ((hm i).1 hi);rw [hx];exact LK hx
theorem Xb{k:List Fg}(h:SW k){c d:Fg}(hc:c∈k)(hd:d∈k)(e:c.1=d.1):c=d:=by
 unfold SW at h
 induction k with
 | nil=>cases hc
 | cons a k ih =>
  rw [List.map_cons,List.pairwise_cons] at h;rcases Aia.1 hc with e1 | dV
  ·rcases Aia.1 hd with e2 | dw
   ·rw [e1,e2]
   ·have:=h.1 d.1 (Ah9.2 ⟨d,dw,rfl⟩);rw [e1] at e;omega
  ·rcases Aia.1 hd with e2 | dw
   ·have:=h.1 c.1 (Ah9.2 ⟨c,dV,rfl⟩);rw [e2] at e;omega
   ·exact ih h.2 dV dw
theorem Tg{k:List Fg}{ids:List Nat}(hs:ids.Pairwise (·<·))(hm:∀ i,i∈ids↔(mapOf k i).isSome=true):Cz (mapOf k) ids=k↔SW k:=by
 constructor
 ·intro h;unfold SW;rw [<- h,PY];exact hs
 ·intro h;have e:ids=k.map (·.1):=Xa hs h λ i=>(hm i).trans DO;rw [e];unfold Cz;rw [List.map_map]
  conv=>rhs;rw [<- List.map_id k]
  refine List.map_congr_left λ c hc=>?_;obtain⟨x,hx⟩:=Aj9.1 (DO.2 (Ah9.2 ⟨c,hc,rfl⟩));have:=Xb h (LK hx) hc rfl;simp only [Function.comp,hx,Option.getD_some,id];exact this
theorem AaC{l:List UInt8}{at_:Int}{v:AD}{k:Nat}(h:Bg l at_=some (v,k)):BM v:=by
 unfold Bg at h;split at h
 ·cases h
 ·simp only at h;split at h
  ·cases h;exact⟨Ode,Ode⟩
  ·split at h
   ·obtain⟨x,hx,he⟩:=AjI.1 h;have:=AA (n:=x.1) (k:=x.2) hx;have hr:=Gn this.1;cases he;exact⟨hr.1,hr.2⟩
   ·split at h
    ·split at h
     ·rename_i h2;cases h;exact⟨by simp only;omega,by simp only;omega⟩
     ·cases h
    ·split at h
     ·obtain⟨x,hx,he⟩:=AjI.1 h;cases he;exact⟨by simp only;omega,by simp only;omega⟩
     ·cases h
theorem FY{α:Type}{rd:Nat->Option (α × Nat)}{a i:Nat}(h:BN rd i a=none):∀ {n:Nat},i<=n->BN rd n a=none:=by
 intro n hn;obtain⟨d,rfl⟩:=Nat.exists_eq_add_of_le hn;clear hn
 induction d with
 | zero=>exact h
 | succ d ih=>rw [Nat.add_succ];unfold BN;rw [ih];rfl
theorem CZ{α:Type}{rd:Nat->Option (α × Nat)}{a i b:Nat}{xs:List α}(h:BN rd i a=some (xs,b)):BN rd (i+1) a=(rd b).map λ x=>(xs++[x.1],x.2):=by
 show (BN rd i a).bind _=_;rw [h];rfl
theorem Qj{α:Type}{rd:Nat->Option (α × Nat)}:∀(n:Nat) {a b:Nat} {xs:List α},BN rd n a=some (xs,b)->xs.length=n
 | 0,a,b,xs,h=>by
  simp only [BN,AjH,Ah3] at h;rw [<- h.1];rfl
 | n+1,a,b,xs,h=>by
  unfold BN at h;obtain⟨r,h1,h⟩:=Aj6.1 h;obtain⟨x,h2,h⟩:=AjI.1 h;simp only [Ah3] at h;rw [<- h.1,Aiq,Qj n h1];rfl
theorem Qh{α:Type}{rd:Nat->Option (α × Nat)}{Q:α->Nat->Prop}(hr:∀ a x b,rd a=some (x,b)->Q x b) :
  ∀(n:Nat) {a b:Nat} {xs:List α},BN rd n a=some (xs,b)->(∀ x∈xs,∃ k,Q x k)/\(n=0/\b=a\/∃ x,Q x b)
 | 0,a,b,xs,h=>by
  simp only [BN,AjH,Ah3] at h;obtain⟨rfl,rfl⟩:=h;exact⟨Osi,.inl ⟨rfl,rfl⟩⟩
 | n+1,a,b,xs,h=>by
  unfold BN at h;obtain⟨r,h1,h⟩:=Aj6.1 h;obtain⟨x,h2,h⟩:=AjI.1 h;simp only [Ah3] at h;obtain⟨rfl,rfl⟩:=h;refine⟨λ y hy=>?_,.inr ⟨x.1,hr _ _ _ h2⟩⟩;rcases List.mem_append.1 hy with hy | hy
  ·exact (Qh hr n h1).1 y hy
  ·rw [List.mem_singleton.1 hy];exact⟨_,hr _ _ _ h2⟩
theorem Dw{l x r:List UInt8}{a:Nat}(h:l.drop a=x++r):l.drop (a+x.length)=r:=by
 rw [<- AjM,h,List.drop_left]
theorem Jj{α:Type}{l:List UInt8}{rd:Nat->Option (α × Nat)}{enc:α->List UInt8}{xs:List α}{a:Nat}{r:List UInt8}(hr:∀ x∈xs,∀ b r,l.drop b=enc x++r->rd b=some (x,b+(enc x).length))(h:l.drop a=xs.flatMap enc++r) :
  BN rd xs.length a=some (xs,a+(xs.flatMap enc).length):=by
 have key:∀ k,k<=xs.length->BN rd k a=some (xs.take k,a+((xs.take k).flatMap enc).length):=by
  intro k
  induction k with
  | zero=>intro _;simp [BN]
  | succ k ih =>
   intro hk;have dY:k<xs.length:=hk;rw [CZ (ih Omg)];have e:l.drop a=(xs.take k).flatMap enc++(enc xs[k]++((xs.drop (k+1)).flatMap enc++r)):=by
    rw [h]
    conv=>lhs;rw [<- List.take_append_drop k xs,Aj7 dY,Aj8,AjA]
    simp only [Air]
   rw [hr _ (List.getElem_mem dY) _ _ (Dw e)];rw [List.take_succ_eq_append_getElem dY,Aj8];simp only [Option.map_some,AjA,List.flatMap_nil,List.append_nil,Aiq];rw [Nat.add_assoc]
 have:=key xs.length (Nat.le_refl _);rwa [List.take_length] at this
def Jx(r:List AD):List UInt8:=r.flatMap Cr
def Fx(rows:List (List AD)):List UInt8:=Af rows.length++rows.flatMap Jx
def QP(l:List UInt8)(cs:List Bv)(at_:Nat):Option (List AD × Nat):=(BN (λ a=>Bg l (a:Int)) cs.length at_).bind λ r=>if CT cs r.1 then some r else none
def Be(l:List UInt8)(cs:List Bv)(at_:Int):Option (List (List AD) × Nat) :=
 if Ao cs then (takeN l at_).bind λ n=>if n.1<=1024 then BN (QP l cs) n.1 n.2 else none else none
theorem Lr{l:List UInt8}{cs:List Bv}{at_:Int}{rows:List (List AD)}{k:Nat}(h:Be l cs at_=some (rows,k)):Br cs rows/\k<=l.length:=by
 unfold Be at h;split at h
 ·rename_i hR;obtain⟨n,hn,h⟩:=Aj6.1 h;split at h
  ·rename_i h4;have hb:=AA (n:=n.1) (k:=n.2) hn;have hl:=Qj _ h;have h5:=Qh (Q:=λ r b=>CT cs r=true/\(∀ v∈r,BM v)/\b<=l.length) (λ a x b hx=>by
    unfold QP at hx;obtain⟨y,hy,hx⟩:=Aj6.1 hx;split at hx
    ·rename_i hf;cases hx;have h6:=Qh (Q:=λ v b=>BM v/\b<=l.length) (λ a x b hx=>⟨AaC hx,Zg hx⟩) _ hy;refine⟨hf,λ v hv=>?_,?_⟩
     ·obtain⟨_,h7,_⟩:=h6.1 v hv;exact h7
     ·rcases h6.2 with ⟨h8,_⟩ | ⟨_,_,h8⟩
      ·have:=(AX hR).1;omega
      ·exact h8
    ·cases hx) _ h
   refine⟨⟨hR,Omg,λ r hr=>?_,λ r hr=>?_⟩,?_⟩
   ·obtain⟨_,h6,_⟩:=h5.1 r hr;exact h6
   ·obtain⟨_,_,h6,_⟩:=h5.1 r hr;exact h6
   ·rcases h5.2 with ⟨_,h6⟩ | ⟨_,_,_,h6⟩
    ·omega
    ·exact h6
  ·cases h
 ·cases h
theorem U8{l r:List UInt8}{cs:List Bv}{rows:List (List AD)}{at_:Nat}(hs:Br cs rows)(h:l.drop at_=Fx rows++r):Be l cs (at_:Int)=some (rows,at_+(Fx rows).length):=by
 unfold Be;have hlen:=hs.len;unfold Fx at h ⊢;rw [Air] at h;rw [if_pos hs.right,Bo Omg h,Option.bind_some,if_pos hlen];simp only;rw [Jj (enc:=Jx) (r:=r) (λ x hx b r' hb=>?_) (Dw h)]
 ·rw [Aiq,Nat.add_assoc]
 ·unfold QP;have hf:=hs.fits x hx;have hl:=IB hf;rw [<- hl,Jj (enc:=Cr) (r:=r') (λ v hv b2 r2 h2=>?_) hb]
  ·rw [Option.bind_some,if_pos hf];rfl
  ·refine NK ?_ (hs.ok x hx v hv) h2;obtain⟨i,hi,rfl⟩:=List.mem_iff_getElem.1 hv;have:=Sp hf Omg hi;simp only [Gu,Bool.and_eq_true] at this;exact this.1
theorem SI{cs:List Bv}{rows:List (List AD)}(hs:Br cs rows){r:List AD}(hr:r∈rows):(Jx r).length<=16640:=by
 have hf:=hs.fits r hr;have hl:=IB hf;have gi:=(AX hs.right).2;have key:∀(r':List AD),(∀ v∈r',AK v=true/\BM v)->(Jx r').length<=r'.length*1040:=by
  intro r'
  induction r' with
  | nil=>intro _;simp [Jx]
  | cons v r' ih =>
   intro h;have h1:=Ho (h v Osi).1 (h v Osi).2;have h2:=ih (λ x hx=>h x (by simp [hx]));unfold Jx at h2 ⊢;rw [AjA,Aiq,List.length_cons];omega
 have:=key r λ v hv=>by
  obtain⟨i,hi,rfl⟩:=List.mem_iff_getElem.1 hv;have:=Sp hf Omg hi;simp only [Gu,Bool.and_eq_true] at this;exact⟨this.1,hs.ok r hr _ (List.getElem_mem hi)⟩
 have:r.length*1040<=16*1040:=Nat.mul_le_mul_right _ Omg;omega
theorem V2{cs:List Bv}{rows:List (List AD)}(hs:Br cs rows){i:Nat}:((rows.take i).flatMap Jx).length<=17039360:=by
 have key:∀(rs:List (List AD)),(∀ r∈rs,(Jx r).length<=16640)->(rs.flatMap Jx).length<=rs.length*16640:=by
  intro rs
  induction rs with
  | nil=>intro _;simp
  | cons r rs ih =>
   intro h;have h1:=h r Osi;have h2:=ih (λ x hx=>h x (by simp [hx]));rw [AjA,Aiq,List.length_cons];omega
 have h1:=key (rows.take i) λ r hr=>SI hs (List.mem_of_mem_take hr);have h2:=hs.len;have h3:(rows.take i).length<=1024:=by rw [Ajm];omega
 omega
end Go.Proofs.YtpnaifmmggnimaaGreatDoor
namespace Go.Proofs.YtpnaifmmggnimaaGreatDoor
open R
open _root_.Int renaming toNat_natCast -> Ait
set_option maxRecDepth 100000
open Go.Dn Go.Proofs
open Go.RowKit (Below)
set_option linter.unusedVariables false
def Et(b:Nat)(a:Option Addr)(n c at_:Nat)(bad:Bool):It:=It.cells b #[.slice a n c,.int .i64 (at_:Int),.bool bad] 79
def J3{α:Type}(bad ae:Bool)(o:Option α)(x:α):Prop:=(ae=false/\bad=false/\o=some x)\/(ae=true/\(bad=true\/o=none))
theorem J3.bind{α β:Type}{b0 b1 b2:Bool}{o:Option α}{x:α}{g:α->Option β}{y:β}(h:J3 b0 b1 o x)(h2:J3 b1 b2 (g x) y):J3 b0 b2 (o.bind g) y:=by
 rcases h2 with ⟨h3,h4,h5⟩ | ⟨h3,h4⟩
 ·subst h4;rcases h with ⟨_,h6,rfl⟩ | ⟨h6,_⟩
  ·exact .inl ⟨h3,h6,h5⟩
  ·cases h6
 ·refine .inr ⟨h3,?_⟩;rcases h with ⟨h5,_,rfl⟩ | ⟨_,h5 | h5⟩
  ·rcases h4 with h4 | h4
   ·rw [h5] at h4;cases h4
   ·exact .inr h4
  ·exact .inl h5
  ·exact .inr (by rw [h5];rfl)
theorem J3.map{α β:Type}{b0 b1:Bool}{o:Option α}{x:α}(g:α->β)(h:J3 b0 b1 o x):J3 b0 b1 (o.map g) (g x):=by
 rcases h with ⟨h1,h2,rfl⟩ | ⟨h1,h2⟩
 ·exact .inl ⟨h1,h2,rfl⟩
 ·exact .inr ⟨h1,h2.imp id λ h=>by rw [h];rfl⟩
theorem J3.ok{α:Type}{bad:Bool}{o:Option α}{x:α}(h:J3 bad false o x):bad=false/\o=some x:=by
 rcases h with ⟨_,h1,h2⟩ | ⟨h,_⟩
 ·exact⟨h1,h2⟩
 ·cases h
theorem J3.no{α:Type}{bad:Bool}{o:Option α}{x:α}(h:J3 bad true o x):bad=true\/o=none:=by
 rcases h with ⟨h,_⟩ | ⟨_,h⟩
 ·cases h
 ·exact h
section
variable {w0 w:World}{H:List It}{b:Nat}{a:Option Addr}{c at_:Nat}{bad:Bool}{l:List UInt8}
theorem C8(S:ST w0 w H)(n m:Nat)(hn:H[n]?=some (Et b a l.length c at_ bad))(hm:H[m]?=some (It.rd a (l.map Ag)))(hc:l.length<=c)(hs:l.length<=140737488355328)(lo hi:Nat)(hhi:hi<=A3) :
  Cw 61 #[.pointer (some ⟨b,0,none⟩),.int .i64 (lo:Int),.int .i64 (hi:Int)] w λ v w'=>∃(z at':Nat) (ae:Bool),v=.int .i64 (z:Int)/\ST w0 w' (H.set n (Et b a l.length c at' ae))/\J3 bad ae (Ei l lo hi at_) (z,at')/\(ae=true->z=0):=by
 apply GM
 delta Bz D F G I Lb Li Ls S Am W;try dsimp only [Ps]
 refine S.draw λ w1 B1 S=>?_;refine⟨_,_,_,S.cell n hn rfl,_,S.cell n hn rfl,?_⟩;refine (AL (S.get m hm) hc Omg (at_:Int)).mono ?_;rintro _ w2 ⟨_,rfl,rfl,rfl⟩;obtain⟨n0,k0,e0,hv,hk,cY,hx⟩:=DT _ (rfl:takeN l (at_:Int)=takeN l (at_:Int));rw [hv];refine⟨_,_,_,rfl,_,S.cell n hn rfl,?_⟩;have fail:(bad=true\/Ei l lo hi at_=none)->DG (Addr.add ⟨b,0,none⟩ 2) (.bool true) (λ w'=>∃(z at':Nat) (ae:Bool),Value.int .i64 0=.int .i64 (z:Int)/\ST w0 w' (H.set n (Et b a l.length c at' ae))/\J3 bad ae (Ei l lo hi at_) (z,at')/\(ae=true->z=0)) w2:=λ h =>
  S.BD n hn (i:=2) (aC:=#[.slice a l.length c,.int .i64 (at_:Int),.bool true]) Osi rfl λ w3 S=>⟨0,at_,true,rfl,S,.inr ⟨rfl,h⟩,λ _=>rfl⟩
 refine Aq (λ hb=>fail (.inl hb)) (λ hb=>?_);subst hb;refine Ai (λ h=>fail (.inr ?_)) (λ h=>?_)
 ·rcases hx with ⟨h2,_⟩ | ⟨_,h2⟩
  ·exact absurd h2 h
  ·simp [Ei,h2]
 have rL:takeN l (at_:Int)=some (n0,k0):=by
  rcases hx with ⟨_,h2⟩ | ⟨h2,_⟩
  ·exact h2
  ·exact absurd h h2
 have hR:Ei l lo hi at_=if lo<=n0/\n0<=hi then some (n0,k0) else none:=by simp [Ei,rL]
 unfold A3 at hhi;refine Aa (λ h=>fail (.inr ?_)) (λ h1=>?_)
 ·rw [hR,if_neg Omg]
 rw [wrap_i64 Omg Omg];refine Aa (λ h=>fail (.inr ?_)) (λ h2=>Aa (λ h=>fail (.inr ?_)) (λ h3=>?_))
 ·rw [hR,if_neg Omg]
 ·rw [hR,if_neg Omg]
 rw [if_pos Omg] at hR;exact S.BD n hn (i:=1) (aC:=#[.slice a l.length c,.int .i64 (k0:Int),.bool false]) Osi rfl λ w3 S=>⟨n0,k0,false,rfl,S,.inl ⟨rfl,rfl,hR⟩,λ h=>by cases h⟩
theorem Ny(S:ST w0 w H)(n m:Nat)(hn:H[n]?=some (Et b a l.length c at_ bad))(hm:H[m]?=some (It.rd a (l.map Ag)))(hc:l.length<=c)(hs:l.length<=140737488355328) :
  Cw 62 #[.pointer (some ⟨b,0,none⟩)] w λ v w'=>∃(ca:Option Addr) (cc:Nat) (cs:List Bv) (at':Nat) (ae:Bool),v=.slice ca cs.length cc/\ST w0 w' (CD ca cc cs :: H.set n (Et b a l.length c at' ae))/\J3 bad ae (A7 l (at_:Int)) (cs,at')/\(ae=true->ca=none/\cs=[]):=by
 apply GN
 delta HQ D F G I Lb Li Ls O S Am;try dsimp only [Ps]
 refine S.draw λ w1 B1 S=>?_;refine⟨_,_,_,S.cell n hn rfl,_,S.cell n hn rfl,?_⟩;refine (Lg (S.get m hm) hc Omg (at_:Int)).mono ?_;rintro _ w2 ⟨_,rfl,hx⟩;have fail:∀ {wx:World},ST w0 wx H->(bad=true\/A7 l (at_:Int)=none)->DG (Addr.add ⟨b,0,none⟩ 2) (.bool true) (λ w'=>∃(ca:Option Addr) (cc:Nat) (cs:List Bv) (at':Nat) (ae:Bool),Value.slice none 0 0=.slice ca cs.length cc/\ST w0 w' (CD ca cc cs :: H.set n (Et b a l.length c at' ae))/\J3 bad ae (A7 l (at_:Int)) (cs,at')/\(ae=true->ca=none/\cs=[])) wx:=λ S h =>
  S.BD n hn (i:=2) (aC:=#[.slice a l.length c,.int .i64 (at_:Int),.bool true]) Osi rfl λ w3 S=>⟨none,0,[],at_,true,rfl,S.nil _ _,.inr ⟨rfl,h⟩,λ _=>⟨rfl,rfl⟩⟩
 cases ho:A7 l (at_:Int) with
 | none =>
  rw [ho] at hx fail;obtain⟨rfl,B⟩:=hx;have S:=S.grown B;exact⟨_,_,_,_,_,rfl,_,S.cell n hn rfl,Aq (λ hb=>fail S (.inl hb)) (λ hb=>Ai (λ h=>fail S (.inr rfl)) (λ h=>by cases h))⟩
 | some x =>
  rw [ho] at hx fail;obtain⟨a',c',rfl,T⟩:=hx;have dA:([CD a' c' x.1]++H)[n+1]?=some (Et b a l.length c at_ bad):=by simpa using hn
  have S:=S.join T;refine⟨_,_,_,_,_,rfl,_,S.cell (n+1) dA rfl,?_⟩;refine Aq (λ hb=>fail (S.drop 1) (.inl hb)) (λ hb=>?_);subst hb;exact Ai (λ h=>absurd rfl h) (λ h=>S.BD (n+1) dA (i:=1) (aC:=#[.slice a l.length c,.int .i64 (x.2:Int),.bool false]) Osi rfl λ w3 S=>⟨a',c',x.1,x.2,false,rfl,S,.inl ⟨rfl,rfl,rfl⟩,λ h=>by cases h⟩)
theorem V4(S:ST w0 w H)(n:Nat)(hn:H[n]?=some (Et b a l.length c at_ bad)) :
  Cw 39 #[.pointer (some ⟨b,0,none⟩)] w λ v w'=>v=.bool (!bad && decide (at_=l.length))/\ST w0 w' H:=by
 apply Hf
 delta D F G Lb Li Ls;try dsimp only [Ps]
 refine S.draw λ w1 B1 S=>⟨_,S.cell n hn rfl,?_⟩;refine As (Aq (λ hb=>?_) (λ hb=>?_))
 ·subst hb;exact⟨rfl,S⟩
 ·subst hb;refine⟨_,S.cell n hn rfl,_,_,_,S.cell n hn rfl,?_,S⟩;congr 1;rw [Bool.not_false,Bool.true_and];by_cases h:at_=l.length
  ·simp [h]
  ·have:¬ (at_:Int)=(l.length:Int):=Omg;simp [h,this]
end
section
variable {w:World}{g p:Addr}{cs:List Bv}{aR:List BH}{n:Nat}
theorem SF{α:Type}{f:α->List Value}{k:Nat}(hf:∀ x,(f x).length=k+1){xs:List α}(h:Rd w none (xs.flatMap f)):xs=[]:=by
 cases xs with
 | nil=>rfl
 | cons x xs =>
  have hx:=hf x;cases yf:f x with
  | nil=>rw [yf] at hx;simp at hx
  | cons v vs =>
   obtain⟨p,hp,_⟩:=h 0 v (by simp [yf]);cases hp
theorem QQ{b:Nat}{t:TypeId}{sz:Nat}(h:w.heap[b]?=some (.cells #[] t (0,0))):Row w t sz (some ⟨b,0,none⟩) 0 0 [] :=
 ⟨Osi,.inr ⟨b,#[],rfl,h,Omg,Omg,Osi,Osi⟩⟩
theorem Ahu(vs:List AD):∀ u∈AR vs,u.oneCell'=true:=by
 intro u hu;obtain⟨v,_,hv⟩:=List.mem_flatMap.1 hu;simp only [HG,List.mem_cons,List.not_mem_nil,or_false] at hv;rcases hv with rfl | rfl | rfl <;> rfl
theorem Adx(vs:List Bv):∀ u∈BF vs,u.oneCell'=true:=by
 intro u hu;obtain⟨v,_,hv⟩:=List.mem_flatMap.1 hu;simp only [UK,List.mem_cons,List.not_mem_nil,or_false] at hv;rcases hv with rfl | rfl | rfl <;> rfl
theorem AbA{a:Option Addr}{c:Nat}{vs:List Bv}(h:Rd w a (BF vs))(hl:vs.length<=100000):Cw 58 #[.slice a vs.length c] w λ v w'=>∃ a' c',v=.slice a' vs.length c'/\ST w w' [CD a' c' vs]:=by
 apply D9
 delta F J Ks N O S;try dsimp only [Ps]
 cases a with
 | none =>
  have:=SF (k:=2) (λ _=>rfl) h;subst this;exact CG ⟨none,0,rfl,(ST.start w).nil _ _⟩
 | some q =>
  refine AN ((ST.start w).An λ b2 w1 _ B1 S=>?_);have S:=S.H7 0 rfl (.refl _ _) (It.row 102 3 (some ⟨b2,0,none⟩) 0 0 []) (QQ (S.CA 0 rfl)) (λ k hk=>.inl hk);refine S.app 0 rfl Af3 rfl Omg Omg (h.grown B1) (mm:=vs.length) (Adw vs) (Adx vs) Omg λ a' c' w' S=>⟨_,_,_,rfl,a',c',by rw [Nat.zero_add],?_⟩;simp only [Nat.zero_add,List.nil_append] at S;exact S
theorem AeW(hg:w.cell? g=some (.pointer (some p)))(h:J5 w p cs aR n):Cw 79 #[.pointer (some g)] w λ v w'=>∃ a' c',v=.slice a' cs.length c'/\ST w w' [CD a' c' cs]:=by
 apply HA
 delta Cs F Lp Ls O S;try dsimp only [Ps]
 obtain⟨a,c,h1,h2⟩:=h.Ay;have:=(AX h.right).2;refine AN ⟨_,hg,_,_,_,h1,(AbA h2 Omg).mono ?_⟩;rintro _ w1 ⟨_,rfl,a',c',rfl,S⟩;exact⟨_,_,_,rfl,a',c',rfl,S⟩
end
theorem AaT(u v:Bv):((u.1==v.1) && ((u.2.1==v.2.1) && ((u.2.2==v.2.2) && true)))=decide (u=v):=by
 obtain⟨a,b,s⟩:=u;obtain⟨c,d,t⟩:=v;rw [Bool.eq_iff_iff];simp [WA]
section
variable {w:World}{a a2:Option Addr}{c c2:Nat}
theorem F7{ls ms:List Bv}(hl:Rd w a (BF ls))(hm:Rd w a2 (BF ms))(hn:ls.length<=9223372036854775807) :
  Cw 67 #[.slice a ls.length c,.slice a2 ms.length c2] w λ v w'=>Below w.heap.size w w'/\v=.bool (decide (ls=ms)):=by
 apply QC
 delta D F G I Lb Li Lt Qi W X;try dsimp only [Ps]
 refine Ai (λ h=>⟨.refl _ _,?_⟩) (λ hlen=>?_)
 ·congr 1;rw [eq_comm,decide_eq_false_iff_not];rintro rfl;exact h rfl
 have bN:ls.length=ms.length:=Omg;refine⟨λ s w1=>∃ i:Nat,i<=ls.length/\s=[.int .i64 (i:Int)]/\Below w.heap.size w w1/\ls.take i=ms.take i,λ s _=>match s with
   | [.int _ i]=>ls.length-i.toNat
   | _=>0,⟨0,Omg,rfl,.refl _ _,rfl⟩,?_⟩
 rintro _ w1 ⟨i,hi,hs,B1,hT⟩;cases hs;refine Aa (λ aB=>?_) (λ aJ=>⟨B1,?_⟩)
 ·have h1:i<ls.length:=Omg;have h2:i<ms.length:=Omg;refine (SH.start (λ _=>False) w1).EL λ w2 B2 _=>⟨⟨Omg,aB⟩,?_⟩;have C2:=Ac B1 B2;obtain⟨p1,rfl,c0,c1,c2⟩:=Fq (hl.grown C2) h1;obtain⟨p2,rfl,d0,d1,d2⟩:=Fq (hm.grown C2) h2;refine⟨⟨Omg,Omg⟩,_,by rw [Ait];exact c0,_,by rw [Ait];exact c1,_,by rw [Ait];exact c2,_,by rw [Ait];exact d0,_,by rw [Ait];exact d1,_,by rw [Ait];exact d2,?_⟩;rw [AaT];refine As (Aa (λ he=>?_) (λ he=>⟨C2,?_⟩))
  ·rw [Ae Omg];refine⟨⟨i+1,Omg,rfl,C2,?_⟩,?_⟩
   ·rw [List.take_succ_eq_append_getElem h1,List.take_succ_eq_append_getElem h2,hT,he]
   ·simp only [Ait];omega
  ·congr 1;rw [eq_comm,decide_eq_false_iff_not];rintro rfl;exact he rfl
 ·congr 1;rw [eq_comm,decide_eq_true_eq];rw [List.take_of_length_le Omg,List.take_of_length_le Omg] at hT;exact hT
end
section
variable {w:World}{g p:Addr}{cs:List Bv}{aR:List BH}{n:Nat}{a a2:Option Addr}{c c2:Nat}{ps:List BH}
end
end Go.Proofs.YtpnaifmmggnimaaGreatDoor
