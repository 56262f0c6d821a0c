/-
  Texts of this claim, laid one behind the other by a program of mine (install.py): G.Seg3, G.Seg4, G.Seg5, G.Seg6, G.Seg7, G.Seg8, G.Seg9, G.Seg10, G.Seg11, G.Seg12, G.SegEnv, G.Cp1, G.Cp2, G.Ct1, G.Seg13, G.Seg14, G.Seg15, G.SegArg, G.Seg16, G.Seg17, Dn.St2, Dn.St3, Dn.Ld.
-/
import Derived.Test.YtpnaifmmggnimaaGreatDoorM8
import Derived.Test.YtpnaifmmggnimaaGreatDoorM7
import Derived.Test.YtpnaifmmggnimaaGreatDoorM1
import Derived.Test.YtpnaifmmggnimaaGreatDoorRows
import Derived.Test.YtpnaifmmggnimaaGreatDoorM6
namespace Go.Proofs.YtpnaifmmggnimaaGreatDoor
open _root_.Int renaming fdiv -> Alu, toNat_natCast -> Ale
open _root_.List renaming append_assoc -> Alc, append_nil -> Amc, drop -> AmJ, drop_left -> Amu, drop_zero -> AmG, ext_getElem -> AmH, flatten_cons -> AmL, getD -> AmK, getElem?_append_right -> AmN, getElem?_eq_getElem -> Al5, getElem?_map -> AmP, getElem_mem -> AlS, length -> Amz, length_append -> Alb, length_cons -> Ald, length_drop -> AlE, length_map -> Alr, length_nil -> Amp, length_take -> Al7, map_append -> Alv, map_cons -> AmQ, map_drop -> AlF, map_take -> AlG, mem_append -> Al8, mem_cons -> AkV, mem_map -> AkU, not_mem_nil -> Amf, range -> AlL, replicate -> Ak9, take -> AmI, take_left -> Ak6, take_of_length_le -> AlK, take_succ_eq_append_getElem -> Al6
open _root_.Nat renaming le_refl -> Ak8, mul_one -> Alh, sub_self -> AmO, sub_zero -> AmE, zero_add -> Alg, zero_mul -> Amg
open _root_.Option renaming map_eq_some_iff -> Amt, map_some -> AmA
open _root_.Option.some renaming inj -> Ami, injEq -> Ams
open _root_.Prod renaming fst -> AmM
open _root_.Prod.mk renaming injEq -> AkO
open _root_.UInt8 renaming ofNat -> Alj
set_option maxRecDepth 100000
open Go.Dn Go.Proofs
open Go.RowKit (Below)
set_option linter.unusedVariables false
theorem AiK:Tryz.prog.underlying ty.AH=some (.slice ty.uint8):=by kernel_rfl
theorem Ahw:Tryz.prog.underlying ty.uint8=some (.int .u8):=by kernel_rfl
theorem I4(l:List UInt8){n:Nat}{f:List Value->Prop}(hn:l.length=n)(h:f (l.map Ag)):FC (Ak9 n (.int .u8 0)) f :=
 Jr .u8 (l.map uI) (by simpa using hn) (by rw [<- MA];exact h)
def Aeu(a:Option Addr)(c:Nat)(l:List UInt8):It:=It.buf ty.uint8 1 a l.length c (l.map Ag)
section
variable {w0 w:World}{H:List It}{a:Option Addr}{c:Nat}{l:List UInt8}
theorem Ac8(S:ST w0 w H)(n:Nat)(hn:H[n]?=some (Aeu a c l)){m:List UInt8}{b:Option Addr}{mc:Nat}(hs:Rd w b (m.map Ag))(h0:0<m.length)(hl:l.length+m.length<=140737488355328){f:Value->World->Prop}
  (hf:∀ a' c' w',ST w0 w' (H.set n (CP a' c' (l++m)))->f (.slice a' (l++m).length c') w') :
  DB Tryz.prog (Builtin.append_ #[ty.AH,ty.AH] ty.AH #[.slice a l.length c,.slice b m.length mc]) f w:=by
 refine S.Ako n hn tB zB (by omega) (by omega) hs (mm:=m.length) (by simp) h0 (Ge _) (by omega) λ a' c' w' S'=>?_;have e1:(l++m).length=l.length+m.length:=by simp
 rw [<- Alv] at S';have:=hf a' c' w' (by unfold CP;rw [e1];exact S');rwa [e1] at this
theorem Ad0(S:ST w0 w H)(n:Nat)(hn:H[n]?=some (CP a c l)):ST w0 w (H.set n (Aeu a c l)):=S.I2 n hn (.refl _ _) _ (.inl (S.get n hn)) (λ k hk=>.inl hk)
theorem Y5(S:ST w0 w H)(n:Nat)(hn:H[n]?=some (CP a c l)){m:List UInt8}{k:Nat}(hk:m.length=k){b:Option Addr}{mc:Nat}(hs:Rd w b (m.map Ag))(hl:l.length+m.length<=140737488355328){f:Value->World->Prop}
  (hf:∀ a' c' w',ST w0 w' (H.set n (CP a' c' (l++m)))->f (.slice a' (l++m).length c') w') :
  DB Tryz.prog (Builtin.append_ #[ty.AH,ty.AH] ty.AH #[.slice a l.length c,.slice b k mc]) f w:=by
 subst hk;exact Ac7 S n hn hs hl hf
end
section
variable {w:World}{a a2:Option Addr}{c c2:Nat}{cs:List BQ}{ps:List BF}
theorem Vs(n:Nat)(hn:n<4294967296):Calls Tryz.prog f.Abm #[.int .i64 (n:Int)] w (AG λ v w'=>∃ b,v=.slice (some ⟨b,0,none⟩) 4 4/\Bm w w' (LP n) (some ⟨b,0,none⟩) 4):=by
 apply R.Ql
 delta R.B R.J R.N R.S R.Wb;try dsimp only [R.Ps]
 refine (ST.start w).An λ b w1 hb B S=>⟨b,rfl,?_⟩;have sh:∀ k,Alu (n:Int) (2 ^ k)=((n / 2 ^ k:Nat):Int):=λ k=>by
  rw [Int.fdiv_eq_ediv_of_nonneg _ (Int.pow_nonneg (by decide))]
  norm_cast
 have by_:∀ m:Nat,Value.int .u8 (IntKind.u8.wrap (m:Int))=Ag (Alj (m % 256)):=λ m=>by
  rw [wrap_u8,<- Cq (x:=m % 256) (by omega)];congr 1
 have e:(#[Value.int .u8 (IntKind.u8.wrap (n:Int)),.int .u8 (IntKind.u8.wrap (Alu (n:Int) (2 ^ (min 8 64)))),.int .u8 (IntKind.u8.wrap (Alu (n:Int) (2 ^ (min 16 64)))),.int .u8 (IntKind.u8.wrap (Alu (n:Int) (2 ^ (min 24 64))))]:Array Value)=((LP n).map Ag).toArray:=by
  rw [show min 8 64=8 from rfl,show min 16 64=16 from rfl,show min 24 64=24 from rfl,sh,sh,sh,by_,by_,by_,by_];rfl
 rw [e] at S;have hg:=S.CJ 0 rfl;exact⟨⟨rfl,.inr ⟨b,_,rfl,hg,Ak8 _,by decide,rfl,rfl⟩⟩,λ k hk=>by cases hk;exact hb,B⟩
theorem ZA{b:Nat}{r:List AB}{ra:Option Addr}{rc:Nat}(hc:w.cell? ⟨b,0,none⟩=some (.slice a cs.length c))(hl:Rd w a (BM cs))(hn:cs.length<=9223372036854775807)(hq:∀ c∈cs,c.1.size<=9223372036854775807)(hr:Rd w ra (AP r)) :
  Calls Tryz.prog f.EX #[.slice ra r.length rc,.pointer (some ⟨b,0,none⟩)] w (AG λ v w'=>v=.bool (!(Ap cs && C8 cs r))/\Below w.heap.size w w'):=by
 apply R.J3
 delta R.A R.Cb R.G R.Ls R.S;try dsimp only [R.Ps]
 refine⟨_,_,_,hc,(Vp hl hn hq hr).mono ?_⟩;rintro _ w1 ⟨_,rfl,rfl,B⟩;exact⟨_,rfl,rfl,B⟩
theorem XO{b:Nat}(hc:w.cell? ⟨b,0,none⟩=some (.slice a cs.length c))(hl:Rd w a (BM cs))(hn:cs.length<=9223372036854775807)(hq:∀ c∈cs,c.1.size<=9223372036854775807)(hr:Ba w a2 ps)(hm:ps.length<=900000) :
  Calls Tryz.prog f.FZ #[.slice a2 ps.length c2,.func (.func f.EX) #[] #[.pointer (some ⟨b,0,none⟩)]] w (AG λ v w'=>∃ z:Int,v=.int .i64 z/\Below w.heap.size w w'/\(0<=z↔∃ r∈rws ps,(Ap cs && C8 cs r)=false)):=by
 apply R.EI
 delta R.Ad R.F R.G R.I R.Ls R.Qi R.S R.W R.X;try dsimp only [R.Ps]
 refine⟨λ st w2=>∃ i:Nat,st=[.int .i64 (i:Int)]/\i<=ps.length/\(∀ r∈rws (ps.take i),(Ap cs && C8 cs r)=true)/\Below w.heap.size w w2,λ st _=>match st with | [.int _ t]=>ps.length-t.toNat | _=>0,⟨0,rfl,by omega,by simp,.refl _ _⟩,?_⟩;rintro t w2 ⟨i,aA,hi,aF,B2⟩;cases aA;refine Aa (λ aB=>⟨⟨by omega,aB⟩,?_⟩) (λ aI=>⟨_,rfl,B2,?_⟩)
 ·have aD:i<ps.length:=by omega
  obtain⟨q,rfl,ld,hv⟩:=(hr.grown B2).at aD;have cG:w2.cell? ⟨b,0,none⟩=some (.slice a cs.length c):=(Ai.AA (F:=λ _=>False) B2).cell hc (by simp);refine⟨_,_,_,by rw [Ale];exact ld,?_⟩;rw [show enters Tryz.prog f.EX=true by kernel_rfl];refine (ZA cG (hl.grown B2) hn hq hv).mono ?_;rintro _ w3 ⟨_,rfl,rfl,B3⟩;refine⟨_,rfl,As (Aq (λ hf=>?_) (λ hf=>?_))⟩
  ·rw [Ae (by omega)];refine⟨⟨i+1,rfl,by omega,λ r hr=>?_,Ac B2 B3⟩,?_⟩
   ·simp only [rws,AkU] at hr;obtain⟨p,hp,rfl⟩:=hr;rw [Al6 aD] at hp;rcases Al8.1 hp with h | h
    ·exact aF _ (AkU.2 ⟨p,h,rfl⟩)
    ·rw [List.mem_singleton.1 h];exact hf
   ·show ps.length-((i+1:Nat):Int).toNat<ps.length-((i:Nat):Int).toNat;simp only [Ale];omega
  ·exact⟨_,rfl,Ac B2 B3,⟨λ _=>⟨_,AkU.2 ⟨ps[i],AlS aD,rfl⟩,hf⟩,λ _=>by omega⟩⟩
 ·rw [AlK (by omega)] at aF;constructor
  ·intro h;omega
  ·rintro⟨r,hr,hf⟩;rw [aF r hr] at hf;cases hf
theorem SX{b:Nat}(hc:w.cell? ⟨b,0,none⟩=some (.slice a cs.length c))(hl:Rd w a (BM cs))(hn:cs.length<=9223372036854775807)(hq:∀ c∈cs,c.1.size<=9223372036854775807)(hr:Ba w a2 ps)(hm:ps.length<=900000) :
  Calls Tryz.prog f.Fo #[.slice a2 ps.length c2,.func (.func f.EX) #[] #[.pointer (some ⟨b,0,none⟩)]] w (AG λ v w'=>∃ z:Bool,v=.bool z/\Below w.heap.size w w'/\(z=true↔∃ r∈rws ps,(Ap cs && C8 cs r)=false)):=by
 apply R.Eg
 delta R.Ci R.G R.S;try dsimp only [R.Ps]
 refine (XO hc hl hn hq hr hm).mono ?_;rintro _ w1 ⟨_,rfl,z,rfl,B,h⟩;exact⟨_,rfl,_,rfl,B,by rw [decide_eq_true_eq];exact h⟩
theorem Jc{l:List UInt8}{v:AB}{r:Value}{w w':World}(hr:AK v=true)(h:Ai6 l v r w w'):∃ a c,r=.tuple #[.slice a (l++CC v).length c,.int .i64 0]/\Bm w w' (l++CC v) a c:=by
 rcases h with ⟨h,_⟩ | ⟨_,h⟩
 ·rw [hr] at h;cases h
 ·exact h
set_option maxHeartbeats 1000000 in
theorem Jj(T:I5 w)(hl:Rd w a (BM cs))(hn:cs.length<=9223372036854775807)(hq:∀ c∈cs,c.1.size<=9223372036854775807)(hr:Ba w a2 ps)(hm:ps.length<=9223372036854775807)(hv:∀ r∈rws ps,∀ v∈r,BL v) :
  Calls Tryz.prog f.Wq #[.slice a cs.length c,.slice a2 ps.length c2] w (AG λ v w'=>Aes cs (rws ps) v/\Below w.heap.size w w'):=by
 apply R.M4
 delta R.A R.Ab R.B R.EL R.AR R.Cb R.Cf R.Cs R.D R.E R.F R.H R.I R.J R.Ks R.Li R.Ls R.Lt R.N R.O R.P R.Rs R.Rt R.S R.Am R.T R.U R.Wu R.X R.Y;try dsimp only [R.Ps]
 refine (ST.start w).An λ b3 w1 dG B1 S=>⟨_,_,_,S.cell 0 rfl rfl,?_⟩;refine (IV (l:=[]) (a:=none) (c:=0) (Rd.nil _ _) (by simp) (hl.grown S.Ar) hn hq).mono ?_;rintro _ w2 ⟨_,rfl,h2⟩;have bad:∀ {wx:World} (e:Int),Below w.heap.size w wx->(Ef cs (rws ps)=e)->e≠0->Aes cs (rws ps) (.tuple #[.string ⟨#[]⟩,.int .i64 e])/\Below w.heap.size w wx:=by
  rintro wx e B rfl h0;refine⟨.inl ⟨λ hs=>h0 ?_,rfl,h0⟩,B⟩;have h1:¬ (1024<(rws ps).length\/∃ r∈rws ps,C8 cs r=false):=by
   rintro (h | ⟨r,hr,h⟩)
   ·have:=hs.len;omega
   ·rw [hs.fits r hr] at h;cases h
  have h2:¬ Ap cs=false:=by rw [hs.right];decide
  rw [Ef,if_neg h2,if_neg h1]
 rcases h2 with ⟨hR,rfl,B2⟩ | ⟨hR,im,iQ,rfl,h2⟩
 ·refine⟨_,_,_,_,rfl,(S.grown B2).An λ b8 w3 _ _ S=>S.BP 0 rfl (by simp) rfl λ w4 S=>Ah (λ _=>bad 50 S.Ar ?_ (by decide)) (λ h=>by cases h)⟩;rw [Ef,if_pos hR]
 have gZ:¬ Ap cs=false:=by rw [hR];decide
 rw [List.nil_append] at h2 ⊢;have S:=BJ S h2;refine⟨_,_,_,_,rfl,S.An λ b8 w3 _ _ S=>S.BP 0 rfl (aC:=#[.slice im (CF cs).length iQ]) (by simp) rfl λ w4 S=>Ah (λ h=>absurd rfl h) (λ _=>Aa (λ h=>bad 51 S.Ar ?_ (by decide)) (λ hlen=>?_))⟩
 ·have:1024<(rws ps).length:=by simp only [rws,Alr];omega
  rw [Ef,if_neg gZ,if_pos (.inl this)]
 have bJ:ps.length<=1024:=by omega
 refine (SX (S.cell 2 rfl rfl) (hl.grown S.Ar) hn hq (hr.grown S.Ar) (by omega)).mono ?_;rintro _ w5 ⟨_,rfl,z,rfl,B5,hz⟩;have S:=S.grown B5;refine⟨_,rfl,Aq (λ h=>bad 51 S.Ar ?_ (by decide)) (λ o5=>?_)⟩
 ·obtain⟨r,hr,hf⟩:=hz.1 h;rw [hR,Bool.true_and] at hf;rw [Ef,if_neg gZ,if_pos (.inr ⟨r,hr,hf⟩)]
 have aK:Bv cs (rws ps):=by
  refine⟨hR,by simp only [rws,Alr];omega,λ r hr=>?_,hv⟩;cases hf:C8 cs r with
  | true=>rfl
  | false =>
   have:=hz.2 ⟨r,hr,by rw [hf,Bool.and_false]⟩;rw [o5] at this;cases this
 have kx:∀ p∈ps,p.2.2.length=cs.length:=λ p hp=>aK.Vn (AkU.2 ⟨p,hp,rfl⟩);have bN:=A6 hR;have bD:=GJ hR;have d1:=Al (n:=ps.length) (by omega);have wY:Rd w5 im ((CF cs).map Ag):=Ew S 1 rfl;rw [Aj (by omega) (by omega)];refine⟨_,_,_,S.cell 0 rfl rfl,(Bg (CF cs) wY ps.length (by omega) (by omega)).mono ?_⟩;rintro _ w6 ⟨_,rfl,a6,c6,rfl,h6⟩;have S:=BJ S h6;refine⟨_,_,_,rfl,S.BP 1 rfl (aC:=#[.slice a6 (CF cs++Af ps.length).length c6]) (by simp) rfl λ w7 S=>S.An λ iq w8 kX _ S=>ZU AiK Ahw (S.CJ 0 rfl) λ w9 K9 yD=>⟨_,_,_,rfl,?_⟩⟩;have S:=S.I2 0 rfl (K9.mono λ k _ h=>by subst h;rfl) (Aeu (some ⟨iq,0,none⟩) 4 Ck) (.inr ⟨_,rfl,rfl,Rd.Ak yD,rfl,(Array.getElem?_eq_some_iff.1 yD).1⟩) (λ k hk=>.inl hk);refine S.An λ lF bV _ _ S=>S.BP 0 rfl (aC:=#[.slice (some ⟨iq,0,none⟩) 4 4]) (by simp) rfl λ aY S=>⟨_,_,_,S.cell 5 rfl rfl,Mf.mono ?_⟩;rintro _ bK ⟨_,rfl,q1,q2,rfl,P⟩;have S:=S.join P;refine⟨_,_,_,rfl,by kernel_rfl,λ rr aA dW hy=>?_⟩
 have S:=S.range rr;obtain⟨L,hL⟩:∃ L,L=bK.heap.size+1:=⟨_,rfl⟩;obtain⟨d,hd⟩:∃ d,d=bK.heap.size:=⟨_,rfl⟩;rw [<- hL] at S hy ⊢;rw [<- hd] at S ⊢;have S:=S.pull 6 rfl;let Hq:Obj->Option Addr->Nat->List UInt8->Option Addr->Nat->List UInt8->List It:=λ o fa fc ft ba bc bb=>[CP fa fc ft,It.obj L o,It.obj d (.deferred (some [])),It.cells q2 #[.slice a2 ps.length c2] ty.Ce,It.cells q1 #[.slice a cs.length c] ty.AX,
  It.cells lF #[.slice ba bb.length bc] ty.AH,Aeu ba bc bb,It.cells b8 #[.slice fa ft.length fc] ty.AH,CP im iQ (CF cs),It.cells b3 #[.slice a cs.length c] ty.AX]
 let J:Nat->World->Prop:=λ q wx=>∃(xs:List (List UInt8)) (fa:Option Addr) (fc:Nat) (ba:Option Addr) (bc:Nat),xs.length=q/\Et cs (rws ps) xs /\
  ST w wx (Hq (.loop rr) fa fc (CF cs++Af ps.length++Cr (rws ps) xs) ba bc (Ck++xs.flatten))
 have ay:=SY (w:=(bK.alloc (.deferred (some []))).alloc (.loop rr)) (c:=c2) (L:=L) (b1:=q1) (b2:=q2) (a:=a2) (c2:=c) (a2:=a) (n:=cs.length) hn (by omega) kx J (λ q wx hj=>by
   obtain⟨xs,fa,fc,ba,bc,_,_,S⟩:=hj;exact⟨hr.grown S.Ar,S.cell 3 rfl rfl⟩) (λ q wx wy hj B=>by
   obtain⟨xs,fa,fc,ba,bc,h1,h2,S⟩:=hj;exact⟨xs,fa,fc,ba,bc,h1,h2,S.grown B⟩) (by
  rintro q wx la lc lf ⟨xs,fa,fc,ba,bc,dB,du,S⟩ hla;subst dB;have hg:=aK.D7 lf;have cd:=du.flat aK;have q7:=du.Agn aK;obtain⟨⟨z1,z2⟩,z3,z4⟩:=hg.Adm;have dv:(Bs (rws ps) xs.length).length=ps.length:=by rw [Gh];simp [rws]
  refine hy _ _ _ _ _ wx (S.get 1 rfl) ?_;refine S.AjO 1 rfl λ an vX S=>?_;obtain⟨p,hp,c0,c1,c2⟩:=FQ (hl.grown S.Ar) lf;refine⟨_,_,_,S.cell 9 rfl rfl,⟨by omega,by omega⟩,?_⟩;rw [hp];refine⟨_,by rw [Ale];exact c1,?_⟩;have lU:=vX _ _ hla;have hE:=Ke (c:=lc) cs[xs.length].2.1 lU (by omega) hg.ok;rw [dv] at hE;refine hE.mono ?_;rintro _ ah ⟨_,rfl,eo⟩;rcases eo with ⟨aP,_⟩ | ⟨_,x,xa,xc,hx,rfl,eo⟩
  ·rw [hg.right] at aP;cases aP
  have dB:=hx.len hg;have wv:0<x.length:=by have:=(hx.read hg).2.1;omega
  have S:=BJ S eo;have hZ:=Nk (c:=lc) (lU.grown eo.Ar);rw [dv] at hZ;refine⟨_,_,_,_,rfl,hZ.mono ?_⟩;rintro _ cp ⟨_,rfl,xD,yq⟩;rcases xD with ⟨_,rfl⟩ | ⟨aP,_⟩
  case inr=>exact absurd hg.G9 aP
  have S:=S.grown yq;refine⟨_,_,_,_,_,_,_,_,rfl,S.An λ rF cP _ _ S=>S.Abs 0 rfl λ fE S=>⟨_,_,_,S.cell 7 rfl rfl,?_⟩⟩;have hrx:Rd fE xa (x.map Ag):=Ew S 1 rfl;have lW:Ck.length=4:=rfl;refine Ac8 S 8 rfl hrx wv (by rw [Alb];omega) λ a25 tV gQ S=>⟨_,_,_,rfl,S.BP 7 rfl (aC:=#[.slice a25 (Ck++xs.flatten++x).length tV]) (by simp) rfl λ kE S=>S.draw λ lB _ S=>⟨_,_,_,S.cell 9 rfl rfl,_,S.cell 0 rfl rfl,?_⟩⟩;have bn:Au (Bs (rws ps) xs.length)<=1024:=by have:=Dc (Bs (rws ps) xs.length);omega
  obtain⟨ft,bQ⟩:∃ ft,ft=CF cs++Af ps.length++Cr (rws ps) xs:=⟨_,rfl⟩;rw [<- bQ] at S ⊢;have kh:ft.length<=40000:=by rw [bQ];simp only [Alb];omega
  have iG:Rd lB fa (ft.map Ag):=Ew S 2 rfl;rw [Aj (n:=(x.length:Int)) (by omega) (by omega)];refine (Bg ft iG x.length (by omega) (by omega)).mono ?_;rintro _ oB ⟨_,rfl,a28,c28,rfl,xq⟩;have S:=BJ S xq;have xi:=Al (n:=x.length) (by omega);have e29:=Al (n:=Au (Bs (rws ps) xs.length)) (by omega);have xj:=HM z1 z2;have xk:=HM z3 z4;refine⟨_,_,_,rfl,S.cell 1 rfl rfl,?_⟩;rw [Aj (n:=((Au (Bs (rws ps) xs.length):Nat):Int)) (by omega) (by omega)];refine (Bg _ xq.rd (Au (Bs (rws ps) xs.length)) (by omega) (by rw [Alb];omega)).mono ?_;rintro _ kF ⟨_,rfl,a29,zw,rfl,h29⟩;have S:=BJ S h29;refine⟨_,_,_,rfl,S.BP 11 rfl (aC:=#[.slice a29 (ft++Af x.length++Af (Au (Bs (rws ps) xs.length))).length zw]) (by simp) rfl λ eK S=>⟨_,_,_,S.cell 11 rfl rfl,_,S.cell 2 rfl rfl,_,S.cell 2 rfl rfl,_,S.cell 2 rfl rfl,?_⟩⟩;have wL:Rd eK a29 ((ft++Af x.length++Af (Au (Bs (rws ps) xs.length))).map Ag):=Ew S 0 rfl;refine (J8 _ wL (Ga (Bs (rws ps) xs.length)).1 z2 (by simp only [Alb];omega)).mono ?_
  rintro _ kG ⟨_,rfl,h31⟩;obtain⟨a31,c31,rfl,n31⟩:=Jc z1 h31;have S:=BJ S n31;refine⟨_,_,_,_,rfl,S.BP 12 rfl (aC:=#[.slice a31 (ft++Af x.length++Af (Au (Bs (rws ps) xs.length))++CC (Ga (Bs (rws ps) xs.length)).1).length c31]) (by simp) rfl λ cQ S=>⟨_,_,_,S.cell 12 rfl rfl,_,S.cell 3 rfl rfl,_,S.cell 3 rfl rfl,_,S.cell 3 rfl rfl,?_⟩⟩;have wM:Rd cQ a31 ((ft++Af x.length++Af (Au (Bs (rws ps) xs.length))++CC (Ga (Bs (rws ps) xs.length)).1).map Ag):=Ew S 0 rfl;refine (J8 _ wM (Ga (Bs (rws ps) xs.length)).2 z4 (by simp only [Alb];omega)).mono ?_;rintro _ ia ⟨_,rfl,rU⟩;obtain⟨a33,rK,rfl,n33⟩:=Jc z3 rU;have S:=BJ S n33;have pG:ft++Af x.length++Af (Au (Bs (rws ps) xs.length))++CC (Ga (Bs (rws ps) xs.length)).1++CC (Ga (Bs (rws ps) xs.length)).2=CF cs++Af ps.length++Cr (rws ps) (xs++[x]):=by
   rw [Sn,bQ];simp [Kh]
  have pF:Ck++xs.flatten++x=Ck++(xs++[x]).flatten:=by simp
  rw [pG] at S ⊢;rw [pF] at S;refine⟨_,_,_,_,rfl,S.BP 13 rfl (aC:=#[.slice a33 (CF cs++Af ps.length++Cr (rws ps) (xs++[x])).length rK]) (by simp) rfl λ qx S=>S.Agh 7 aA dW rfl λ w' S=>⟨rfl,xs++[x],a33,rK,a25,tV,by simp,du.snoc lf hx,?_⟩⟩;exact (Ad0 S 12 rfl).keep 6) ⟨[],a6,c6,some ⟨iq,0,none⟩,4,rfl,Et.nil _ _,by
   have e1:CF cs++Af ps.length++Cr (rws ps) []=CF cs++Af ps.length:=by simp [Cr]
   have e2:Ck++([]:List (List UInt8)).flatten=Ck:=by simp
   rw [e1,e2];exact S⟩ (S.cell 4 rfl rfl)
 refine ay.mono ?_;rintro _ xG ⟨_,rfl,xs,fa,fc,ba,bc,dB,du,S⟩;refine⟨⟨_,rfl⟩,S.Agg 1 aA dW rfl λ sM S=>⟨rfl,S.draw λ ib _ S=>⟨_,_,_,S.cell 5 rfl rfl,_,_,_,S.cell 7 rfl rfl,_,_,_,S.cell 7 rfl rfl,?_⟩⟩⟩;have cd:=du.flat aK;have q7:=du.TY aK;have bM:=du.AcG aK;have rQ:CF cs++Af ps.length++Cr (rws ps) xs=DQ cs (rws ps) xs:=by
  unfold DQ;rw [show (rws ps).length=ps.length by simp [rws]]
 rw [rQ] at S ⊢;obtain⟨ft,bQ⟩:∃ ft,ft=DQ cs (rws ps) xs:=⟨_,rfl⟩;rw [<- bQ] at S q7 ⊢;obtain⟨bb,jz⟩:∃ bb,bb=Ck++xs.flatten:=⟨_,rfl⟩;rw [<- jz] at S ⊢;refine (Vs ft.length (by omega)).mono ?_;rintro _ qy ⟨_,rfl,rG,rfl,h38⟩;have S:=BJ S h38;refine⟨_,_,_,rfl,S.cell 8 rfl rfl,S.cell 6 rfl rfl,S.An λ zl kH _ _ S=>?_⟩;have qX:Rd kH ba (bb.map Ag):=S.rdF 8 rfl;have iG:Rd kH fa (ft.map Ag):=Ew S 2 rfl;have ng:Rd kH (some ⟨rG,0,none⟩) ((LP ft.length).map Ag):=Ew S 1 rfl;have vz:Rd kH (some ⟨zl,0,none⟩) ([(ba,bc,bb),(fa,fc,ft),(some ⟨rG,0,none⟩,4,LP ft.length)].map Cc):=S.GD 0 rfl;have ebl:bb.length<=33000004:=by rw [jz];simp only [Alb,Ck,Ald,Amp];omega
 refine (Bo (c:=3) [(ba,bc,bb),(fa,fc,ft),(some ⟨rG,0,none⟩,4,LP ft.length)] vz (by
   intro p hp;simp only [AkV,Amf,or_false] at hp;rcases hp with rfl | rfl | rfl
   ·exact qX
   ·exact iG
   ·exact ng) (by simp) (by rw [WY];simp only [Alb,LP,Ald,Amp];omega)).mono ?_
 rintro _ xH ⟨_,rfl,a40,rL,rfl,pM⟩;have mF:BT [(ba,bc,bb),(fa,fc,ft),(some ⟨rG,0,none⟩,4,LP ft.length)]=KC cs (rws ps) xs:=by
  rw [WY,jz,bQ];simp [KC]
 rw [mF] at pM ⊢;have S:=BJ S pM;obtain⟨pre,cY⟩:∃ pre,pre=KC cs (rws ps) xs:=⟨_,rfl⟩;rw [<- cY] at S bM ⊢;refine⟨_,_,_,rfl,S.BP 8 rfl (aC:=#[.slice a40 pre.length rL]) (by simp) rfl λ qz S=>⟨_,_,_,S.cell 8 rfl rfl,S.An λ zm lp _ _ S=>?_⟩⟩;have wP:Rd lp a40 (pre.map Ag):=Ew S 1 rfl;have wA:Rd lp (some ⟨zm,0,none⟩) ([(a40,rL,pre)].map Cc):=S.GD 0 rfl;have xl:BT [(a40,rL,pre)]=pre:=by simp [BT]
 refine (Lx (c:=1) (T.grown S.Ar) [(a40,rL,pre)] wA (by
   intro p hp;simp only [AkV,Amf,or_false] at hp;subst hp;exact wP) (by simp) (by rw [xl];omega)).mono ?_
 rw [xl];rintro _ yn ⟨_,rfl,rfl,yz⟩;have S:=S.grown yz;have bj:(IE pre).length=32:=FU _;obtain⟨dg,hdg⟩:∃ dg,dg=IE pre:=⟨_,rfl⟩;rw [<- hdg] at bj ⊢;refine I4 (dg) bj ⟨rfl,?_⟩;refine S.An λ xb w44 _ _ S=>?_;have jM:((dg).map Ag).length=32:=by rw [Alr];exact bj
 refine Ds jM ?_;refine S.Er 0 rfl jM (Ge _) λ yo S=>?_;refine S.draw λ oy _ S=>?_;refine⟨⟨by omega,by omega,by omega⟩,_,_,_,S.cell 10 rfl rfl,?_⟩;have wQ:Rd oy (Cm (some ⟨xb,0,none⟩) 0 32 1) ((dg).map Ag):=by
  have h:=(S.GD 0 rfl).OY 0 32 32 1 (by omega);have e:(AmI ((32-0)*1) (AmJ (0*1) ((dg).map Ag)))=(dg).map Ag:=by
   rw [Amg,AmG];exact AlK (by rw [Alr];omega)
  have h':Rd oy (Cm (some ⟨xb,0,none⟩) 0 32 1) (AmI ((32-0)*1) (AmJ (0*1) ((dg).map Ag))):=h;rwa [e] at h'
 refine Y5 S 2 rfl bj wQ (by omega) λ zW c47 w47 S=>⟨_,_,_,rfl,?_⟩;have wT:Rd w47 zW ((pre++dg).map Ag):=Ew S 2 rfl;refine Ax CA rfl wT ⟨_,rfl,S.get 7 rfl,.inr ⟨aK,_,rfl,⟨xs,dB,du,?_⟩⟩,(S.put 7 rfl _).Ar⟩;rw [Mb,hdg,cY]
end
def EW(p:BF):It:=Mp p.1 p.2.1 p.2.2
def Ff(bo:Nat)(ps:List BF):List It:=It.cells bo ⟨ps.map Cz⟩ ty.CG :: ps.map EW
theorem Ajk:M9 Tryz.prog ty.CG=some (ty.AW,3,32,.agg #[.int .i64 0,.int .i64 0,.string ⟨#[]⟩]):=by kernel_rfl
theorem Ad2:M9 Tryz.prog ty.Ce=some (ty.CG,1,24,.slice none 0 0):=by kernel_rfl
section
variable {w0 w:World}{E:List It}{bo:Nat}{ps:List BF}
theorem Mz(S:ST w0 w (E++Ff bo ps)){i:Nat}(hi:i<ps.length):w.cell? ((⟨bo,0,none⟩:Addr).add (i*1))=some (.slice ps[i].1 ps[i].2.2.length ps[i].2.1):=by
 rw [Ay,Alg,Alh];refine S.cell E.length (cs:=⟨ps.map Cz⟩) (t:=ty.CG) ?_ ?_
 ·rw [AmN (Ak8 _),AmO];rfl
 ·rw [<- Array.getElem?_toList];show (ps.map Cz)[i]?=_;rw [AmP,Al5 hi];rfl
theorem Z8(S:ST w0 w (E++Ff bo ps)){i:Nat}(hi:i<ps.length){x:AB}{b:Nat}(hs:Rd w (some ⟨b,0,none⟩) (H6 x))(hl:ps[i].2.2.length+1<=1000000){f:Value->World->Prop}
  (hf:∀ a' c' w',(∀ k:World->Prop,(∀ cO,ST w0 cO (E++Ff bo (ps.set i (a',c',ps[i].2.2++[x])))->k cO)->DY ((⟨bo,0,none⟩:Addr).add (i*1)) (.slice a' (ps[i].2.2++[x]).length c') k w')->f (.slice a' (ps[i].2.2++[x]).length c') w') :
  DB Tryz.prog (Builtin.append_ #[ty.CG,ty.CG] ty.CG #[.slice ps[i].1 ps[i].2.2.length ps[i].2.1,.slice (some ⟨b,0,none⟩) 1 1]) f w:=by
 have hn:(E++Ff bo ps)[E.length+(i+1)]?=some (Mp ps[i].1 ps[i].2.1 ps[i].2.2):=by
  rw [AmN (by omega),Nat.add_sub_cancel_left];show (ps.map EW)[i]?=_;rw [AmP,Al5 hi];rfl
 refine Y6 S (E.length+(i+1)) Ajk hn hs hl λ a' c' w' S'=>hf a' c' w' λ k hk=>?_;rw [Ay,Alg,Alh];have e1:(E++Ff bo ps).set (E.length+(i+1)) (Mp a' c' (ps[i].2.2++[x]))=E++(It.cells bo ⟨ps.map Cz⟩ ty.CG :: (ps.set i (a',c',ps[i].2.2++[x])).map EW):=by
  rw [List.set_append_right _ _ (by omega),Nat.add_sub_cancel_left];show E++(_ :: (ps.map EW).set i _)=_;rw [List.map_set];rfl
 rw [e1] at S';refine S'.BP E.length (cs:=⟨ps.map Cz⟩) (aC:=⟨(ps.set i (a',c',ps[i].2.2++[x])).map Cz⟩) (t:=ty.CG) ?_ (by show i<(ps.map Cz).length;simpa using hi) ?_ λ cO S''=>hk cO ?_
 ·rw [AmN (Ak8 _),AmO];rfl
 ·apply Array.ext';rw [Array.toList_setIfInBounds,List.map_set];rfl
 ·rw [List.set_append_right _ _ (Ak8 _),AmO] at S'';exact S''
theorem Q5(S:ST w0 w (E++Ff bo ps)):Ba w (some ⟨bo,0,none⟩) ps:=by
 refine⟨?_,λ p hp=>?_⟩
 ·have hg:w.heap[bo]?=some (.cells ⟨ps.map Cz⟩ ty.CG (0,0)):=S.ok (It.cells bo ⟨ps.map Cz⟩ ty.CG) (by simp [Ff]);exact Rd.Ak hg
 ·have:(EW p).ok w:=S.ok _ (List.mem_append_right _ (List.mem_cons_of_mem _ (AkU.2 ⟨p,hp,rfl⟩)));exact Row.rd this
theorem W2(S:ST w0 w E){w':World}(n:Nat)(hb:w.heap.size<=bo)(B:Below w.heap.size w w')(hg:w'.heap[bo]?=some (.cells (madeCells (Value.slice none 0 0).cells (n*1)) ty.CG (0,0))):ST w0 w' (Ff bo (Ak9 n (none,0,[]))++E):=by
 have e:madeCells (Value.slice none 0 0).cells (n*1)=⟨(Ak9 n ((none,0,[]):BF)).map Cz⟩:=by
  apply Array.ext';rw [El _ rfl,Alh,List.map_replicate];rfl
 rw [e] at hg;have S1:∀ m,ST w0 w' ((Ak9 m ((none,0,[]):BF)).map EW++E):=by
  intro m
  induction m with
  | zero=>exact S.grown B
  | succ m ih=>rw [List.replicate_succ];exact ih.nil _ _
 have nn:∀ k,(It.cells bo ⟨(Ak9 n ((none,0,[]):BF)).map Cz⟩ ty.CG).CJ=some k->∀ y∈(Ak9 n ((none,0,[]):BF)).map EW++E,y.CJ≠some k:=by
  intro k hk y hy x9;have dV:bo=k:=Ami hk;rcases Al8.1 hy with h | h
  ·obtain⟨p,hp,rfl⟩:=AkU.1 h;rw [(List.mem_replicate.1 hp).2] at x9;cases x9
  ·have:=y.lt w (S.ok y h) k x9;omega
 refine⟨(S1 n).Ar,λ x hx=>?_,List.pairwise_cons.2 ⟨λ y hy k hk=>nn k hk y hy,(S1 n).nd⟩,λ x hx k hk=>?_⟩
 ·rcases AkV.1 hx with rfl | hx
  ·exact hg
  ·exact (S1 n).ok x hx
 ·rcases AkV.1 hx with rfl | hx
  ·have dV:bo=k:=Ami hk;have:=S.Ar.size;omega
  ·exact (S1 n).own x hx k hk
end
def rowAt(AM:List (List AB))(r:Nat):List AB:=AM.map λ l=>l.getD r Z0
def rowsOf(AM:List (List AB))(n:Nat):List (List AB):=(AlL n).map (rowAt AM)
theorem Ac3(aR:List BF){j:Nat}(hj:j<aR.length){r:Nat}(hr:r<aR[j].2.2.length):rowAt (rws (aR.take (j+1))) r=rowAt (rws (aR.take j)) r++[aR[j].2.2[r]]:=by
 unfold rowAt rws;rw [Al6 hj,Alv,Alv];simp only [AmQ,List.map_nil,AmK,Al5 hr,Option.getD_some]
theorem Abc{ps:List BF}{n:Nat}{AM:List (List AB)}(hl:ps.length=n)(h:∀ r (hr:r<ps.length),ps[r].2.2=rowAt AM r):rws ps=rowsOf AM n:=by
 refine AmH (by simp [rowsOf,hl]) λ r h1 h2=>?_;simp only [rws,List.getElem_map,rowsOf,List.getElem_range];exact h r (by simpa using h1)
section
variable {w:World}{p:Addr}{n:Nat}{aR:List BF}{va:Option Addr}{vc:Nat}
theorem AiV(h3:w.cell? (p.add 3)=some (.int .i64 (n:Int)))(h1:w.cell? (p.add 1)=some (.slice va aR.length vc))(hv:Ba w va aR)(hn:n<=4096)(hc:aR.length<=1000)(hl:∀ q∈aR,q.2.2.length=n) :
  Calls Tryz.prog f.M5 #[.pointer (some p)] w (AG λ v w'=>∃ bo ps,v=.slice (some ⟨bo,0,none⟩) n n/\ps.length=n/\rws ps=rowsOf (rws aR) n/\Ba w' (some ⟨bo,0,none⟩) ps/\Below w.heap.size w w'):=by
 apply R.Ii
 delta R.Ad R.D R.F R.I R.J R.Ks R.Li R.Ls R.Lt R.N R.Qi R.Rs R.S R.Am R.T R.W R.X;try dsimp only [R.Ps]
 refine⟨_,h3,Ea Ad2 (l:=(n:Int)) (c:=(n:Int)) (by omega) (by omega) (by omega) (by omega) λ bo w1 fO B1 kS=>?_⟩;rw [Ale] at kS ⊢;have S:=W2 (ST.start w) n fO B1 kS;rw [Amc] at S;refine⟨_,_,_,rfl,λ s w2=>∃(i:Nat) (ps:List BF),s=[.int .i64 (i:Int)]/\i<=n/\ps.length=n/\(∀ r (hr:r<ps.length),ps[r].2.2=if r<i then rowAt (rws aR) r else [])/\ST w w2 ([]++Ff bo ps),λ s _=>match s with
   | [.int _ i]=>n-i.toNat
   | _=>0,⟨0,_,rfl,by omega,by simp,λ r hr=>by simp,S⟩,?_⟩
 rintro _ w2 ⟨i,ps,aA,hi,bM,aJ,S⟩;cases aA;refine Aa (λ aB=>?_) (λ aI=>⟨bo,ps,rfl,bM,Abc bM λ r hr=>by rw [aJ r hr,if_pos (by omega)],Q5 S,S.Ar⟩);have cD:i<n:=by omega
 have K:=Ai.AA (F:=λ _=>False) S.Ar;refine⟨_,_,_,K.cell h1 (by simp),?_⟩;refine⟨λ s w3=>∃(j:Nat) (ps:List BF),s=[.int .i64 (j:Int)]/\j<=aR.length/\ps.length=n/\(∀ r (hr:r<ps.length),ps[r].2.2=if r<i then rowAt (rws aR) r else if r=i then rowAt (rws (aR.take j)) r else [])/\ST w w3 ([]++Ff bo ps),λ s _=>match s with
   | [.int _ j]=>aR.length-j.toNat
   | _=>0,⟨0,ps,rfl,by omega,bM,λ r hr=>by rw [aJ r hr];simp [rowAt],S⟩,?_⟩
 clear aJ S bM ps K;rintro _ w3 ⟨j,ps,aA,hj,bM,aJ,S⟩;cases aA;refine Aa (λ aB=>⟨⟨by omega,aB⟩,?_⟩) (λ aI=>?_)
 ·have fR:j<aR.length:=by omega
  have hlen:=hl _ (AlS fR);obtain⟨q,hq,aE,bU⟩:=(hv.grown S.Ar).at fR;rw [hq];refine⟨_,_,_,by rw [Ale];exact aE,S.draw λ w4 B4 S=>?_⟩;have rh:i<ps.length:=by omega
  obtain⟨q2,iF,d0,d1,d2⟩:=Di (bU.grown B4) (i:=i) (by omega);have vH:=Mz S rh;refine⟨⟨by omega,by omega⟩,⟨by omega,by omega⟩,?_⟩;rw [iF];refine⟨_,_,_,by rw [Ale];exact vH,_,by rw [Ale];exact d0,_,by rw [Ale];exact d1,_,by rw [Ale];exact d2,S.An λ ju w5 _ _ S=>?_⟩;have S':ST w w5 ([It.cells ju (H6 (aR[j].2.2[i]'(by omega))).toArray ty.AW]++Ff bo ps):=S;have nF:=Mz S' rh;have qZ:ps[i].2.2=rowAt (rws (aR.take j)) i:=by rw [aJ i rh];simp
  have kx:ps[i].2.2.length=j:=by rw [qZ];simp [rowAt,rws];omega
  refine⟨by rw [Ale];exact nF,?_⟩;have aW:Rd w5 (some ⟨ju,0,none⟩) (H6 (aR[j].2.2[i]'(by omega))):=S'.GD 0 rfl;refine Z8 S' rh aW (by omega) λ a6 c6 w6 hk=>⟨_,_,_,rfl,⟨by omega,by omega⟩,?_⟩;rw [Ale];unfold Av;simp only;refine hk _ λ w7 S=>?_;rw [Ae (by omega)];refine⟨⟨j+1,ps.set i (a6,c6,ps[i].2.2++[aR[j].2.2[i]'(by omega)]),rfl,by omega,by rw [List.length_set];exact bM,λ r hr=>?_,S.drop 1⟩,?_⟩
  ·rw [List.length_set] at hr;rw [List.getElem_set];by_cases kv:i=r
   ·subst kv;simp only [if_true,Nat.lt_irrefl,if_false];rw [Ac3 aR fR (by omega),qZ]
   ·rw [if_neg kv,aJ r hr];by_cases h5:r<i
    ·rw [if_pos h5,if_pos h5]
    ·rw [if_neg h5,if_neg h5,if_neg (λ h=>kv h.symm),if_neg (λ h=>kv h.symm)]
  ·show aR.length-((j+1:Nat):Int).toNat<aR.length-((j:Nat):Int).toNat;simp only [Ale];omega
 ·rw [Ae (by omega)];refine⟨⟨i+1,ps,rfl,by omega,bM,λ r hr=>?_,S⟩,?_⟩
  ·rw [aJ r hr,AlK (by omega)];by_cases h5:r<i
   ·rw [if_pos h5,if_pos (by omega)]
   ·by_cases h6:r=i
    ·rw [if_neg h5,if_pos h6,if_pos (by omega)]
    ·rw [if_neg h5,if_neg h6,if_neg (by omega)]
  ·show n-((i+1:Nat):Int).toNat<n-((i:Nat):Int).toNat;simp only [Ale];omega
end
def AF(lim:Nat)(l:List UInt8)(at_:Nat):Nat->Option (List Nat × Nat)
 | 0=>some ([],at_)
 | k+1=>match takeN l (at_:Int) with
  | none=>none
  | some x=>match takeN l (x.2:Int) with
   | none=>none
   | some y=>match Bi l (y.2:Int) with
    | none=>none
    | some u=>match Bi l (u.2:Int) with
     | none=>none
     | some v=>if lim<x.1 then none else (AF lim l v.2 k).map λ r=>(x.1 :: r.1,r.2)
def Es(lim:Nat)(l:List UInt8)(at_:Int)(n:Nat):Option (Nat × List Nat) :=
 match takeN l at_ with
 | none=>none
 | some x=>if 1024<x.1 then none else (AF lim l x.2 n).map λ r=>(x.1,r.1)
def Iq(a:Option Addr)(c:Nat)(ns:List Nat):It:=It.row ty.int 1 a ns.length c (ns.map λ n:Nat=>Value.int .i64 (n:Int))
theorem Akc:M9 Tryz.prog ty.WI=some (ty.int,1,8,.int .i64 0):=by kernel_rfl
theorem Ahd{w0 w:World}{H:List It}{a:Option Addr}{c:Nat}{ns:List Nat}(S:ST w0 w H)(n:Nat)(hn:H[n]?=some (Iq a c ns)){x:Nat}{b:Nat}(hs:Rd w (some ⟨b,0,none⟩) [Value.int .i64 (x:Int)])(hl:ns.length+1<=1000000){f:Value->World->Prop}
  (hf:∀ a' c' w',ST w0 w' (H.set n (Iq a' c' (ns++[x])))->f (.slice a' (ns++[x]).length c') w') :
  DB Tryz.prog (Builtin.append_ #[ty.WI,ty.WI] ty.WI #[.slice a ns.length c,.slice (some ⟨b,0,none⟩) 1 1]) f w:=by
 refine S.app n hn Akc rfl (by omega) (by omega) hs (mm:=1) rfl (by simp;rfl) (by omega) λ a' c' w' S'=>?_;have e1:(ns++[x]).length=ns.length+1:=by simp
 have e2:(ns.map λ n:Nat=>Value.int .i64 (n:Int))++[Value.int .i64 (x:Int)]=(ns++[x]).map λ n:Nat=>Value.int .i64 (n:Int):=by simp
 rw [e2] at S';have:=hf a' c' w' (by unfold Iq;rw [e1];exact S');rwa [e1] at this
theorem Ec{l:List UInt8}{at_:Int}(o:Option (Nat × Nat))(h:takeN l at_=o):∃(n k:Nat) (e:Int),LR o=.tuple #[.int .u64 (n:Int),.int .i64 (k:Int),.int .i64 e]/\k<=l.length/\n<18446744073709551616/\((e=0/\o=some (n,k))\/(e≠0/\o=none)):=by
 cases o with
 | none=>exact⟨0,0,20,rfl,by omega,by omega,.inr ⟨by decide,rfl⟩⟩
 | some x =>
  have:=Az (n:=x.1) (k:=x.2) h;exact⟨x.1,x.2,0,rfl,by omega,by omega,.inl ⟨rfl,rfl⟩⟩
theorem AbA{l:List UInt8}{at_:Int}{v:AB}{k:Nat}(h:Bi l at_=some (v,k)):k<=l.length:=by
 unfold Bi at h;split at h
 ·cases h
 ·rename_i hb;simp only at h;split at h
  ·cases h;omega
  ·split at h
   ·obtain⟨x,hx,he⟩:=Amt.1 h;have:=Az (n:=x.1) (k:=x.2) hx;cases he;omega
   ·split at h
    ·split at h
     ·rename_i h2;cases h;omega
     ·cases h
    ·split at h
     ·obtain⟨x,hx,he⟩:=Amt.1 h;have:=Mo (s:=x.1) (k:=x.2) hx;cases he;omega
     ·cases h
theorem Jn{l:List UInt8}{at_:Int}(o:Option (AB × Nat))(h:Bi l at_=o):∃(v:AB) (k:Nat) (e:Int),VG o=.tuple #[.agg #[.int .i64 v.1,.int .i64 v.2.1,.string v.2.2],.int .i64 (k:Int),.int .i64 e]/\k<=l.length/\((e=0/\o=some (v,k))\/(e≠0/\o=none)):=by
 cases o with
 | none=>exact⟨Z0,0,20,rfl,by omega,.inr ⟨by decide,rfl⟩⟩
 | some x=>exact⟨x.1,x.2,0,rfl,AbA (v:=x.1) (k:=x.2) h,.inl ⟨rfl,rfl⟩⟩
def PlV(o:Option (Nat × List Nat))(w w':World)(v:Value):Prop :=
 match o with
 | none=>v=.tuple #[.int .i64 0,.slice none 0 0,.bool false]/\Below w.heap.size w w'
 | some r=>∃ a c,v=.tuple #[.int .i64 (r.1:Int),.slice a r.2.length c,.bool true]/\ST w w' [Iq a c r.2]
theorem PlV.bad{o:Option (Nat × List Nat)}{w w':World}(h:o=none)(B:Below w.heap.size w w'):PlV o w w' (.tuple #[.int .i64 0,.slice none 0 0,.bool false]):=by
 subst h;exact⟨rfl,B⟩
section
variable {w:World}{a:Option Addr}{c:Nat}{l:List UInt8}
theorem Qm(hl:Rd w a (l.map Ag))(hc:l.length<=c)(hs:l.length<=140737488355328)(at_:Int)(n:Nat)(hn:n<=1000) :
  Calls Tryz.prog f.Vt #[.slice a l.length c,.int .i64 at_,.int .i64 (n:Int)] w (AG λ v w'=>PlV (Es 1073741824 l at_ n) w w' v):=by
 apply R.Mh
 delta R.A R.Ab R.Ei R.Bu R.F R.G R.H R.I R.J R.Ks R.N R.O R.KV R.S R.Am R.T R.W;try dsimp only [R.Ps]
 refine (AL hl hc (by omega) at_ ).mono ?_;rintro _ w1 ⟨_,rfl,rfl,rfl⟩;obtain⟨r0,at0,e0,hv0,hk0,hr0,nt⟩:=Ec _ (rfl:takeN l at_=takeN l at_);rw [hv0];have bL:takeN l at_=none->Es 1073741824 l at_ n=none:=λ h=>by simp [Es,h]
 refine⟨_,_,_,rfl,Ah (λ h=>.bad ?_ (.refl _ _)) (λ oY=>?_)⟩
 ·rcases nt with ⟨h2,_⟩ | ⟨_,h2⟩
  ·exact absurd h2 h
  ·exact bL h2
 have jk:takeN l at_=some (r0,at0):=by
  rcases nt with ⟨_,h2⟩ | ⟨h2,_⟩
  ·exact h2
  ·exact absurd oY h2
 refine Aa (λ h=>.bad ?_ (.refl _ _)) (λ rT=>?_)
 ·have:1024<r0:=by omega
  simp [Es,jk,this]
 have hT:Es 1073741824 l at_ n=(AF 1073741824 l at0 n).map λ r=>(r0,r.1):=by
  have:¬ 1024<r0:=by omega
  simp [Es,jk,this]
 rw [hT];refine⟨λ s w2=>∃(i aL:Nat) (ns:List Nat) (na:Option Addr) (nc:Nat),s=[.int .i64 (aL:Int),.slice na ns.length nc,.int .i64 (i:Int)]/\i<=n/\ns.length=i/\aL<=l.length /\
   AF 1073741824 l at0 n=((AF 1073741824 l aL (n-i)).map λ r=>(ns++r.1,r.2))/\ST w1 w2 [Iq na nc ns],λ s _=>match s with
  | [_,_,.int _ i]=>n-i.toNat
  | _=>0,⟨0,at0,[],none,0,rfl,by omega,rfl,by omega,by simp,(ST.start w1).nil _ _⟩,?_⟩
 rintro _ na _ nc _ w2 ⟨i,aL,ns,_,_,aA,hi,nU,cU,aV,S⟩;cases aA;refine Aa (λ aB=>?_) (λ aI=>?_)
 ·obtain⟨m,hm⟩:∃ m,n-i=m+1:=⟨n-i-1,by omega⟩;rw [hm] at aV;have ax:=hl.grown S.Ar;refine (AL ax hc (by omega) (aL:Int) ).mono ?_;rintro _ w2 ⟨_,rfl,rfl,rfl⟩;obtain⟨x1,x2,e1,hv1,cg,dQ,hx1⟩:=Ec _ (rfl:takeN l (aL:Int)=takeN l (aL:Int));rw [hv1];refine⟨_,_,_,rfl,(AL ax hc (by omega) (x2:Int) ).mono ?_⟩;rintro _ w2 ⟨_,rfl,rfl,rfl⟩;obtain⟨y1,y2,e2,iH,bA,wK,hx2⟩:=Ec _ (rfl:takeN l (x2:Int)=takeN l (x2:Int));rw [iH];refine⟨_,_,_,rfl,(IY ax hc hs (y2:Int)).mono ?_⟩;rintro _ w5 ⟨_,rfl,rfl,B5⟩;have S:=S.grown B5;obtain⟨u1,u2,e3,hv3,iB,hx3⟩:=Jn _ (rfl:Bi l (y2:Int)=Bi l (y2:Int));rw [hv3];refine⟨_,_,_,_,_,rfl,S.II λ xV w9 _ S=>(IY (hl.grown S.Ar) hc hs (u2:Int)).mono ?_⟩;rintro _ bV ⟨_,rfl,rfl,bp⟩;have S:=S.grown bp;obtain⟨v1,v2,e4,hv4,nK,hx4⟩:=Jn _ (rfl:Bi l (u2:Int)=Bi l (u2:Int));rw [hv4];refine⟨_,_,_,_,_,rfl,S.II λ rE an _ S=>?_⟩;have fail:AF 1073741824 l aL (m+1)=none->((AF 1073741824 l at0 n).map λ r=>(r0,r.1))=none:=λ h=>by rw [aV,h];rfl
  refine Ah (λ h=>.bad (fail ?_) S.Ar) (λ h1=>?_)
  ·rcases hx1 with ⟨h2,_⟩ | ⟨_,h2⟩
   ·exact absurd h2 h
   ·simp [AF,h2]
  have g1:takeN l (aL:Int)=some (x1,x2):=by
   rcases hx1 with ⟨_,h2⟩ | ⟨h2,_⟩
   ·exact h2
   ·exact absurd h1 h2
  refine Ah (λ h=>.bad (fail ?_) S.Ar) (λ h1=>?_)
  ·rcases hx2 with ⟨h2,_⟩ | ⟨_,h2⟩
   ·exact absurd h2 h
   ·simp [AF,g1,h2]
  have g2:takeN l (x2:Int)=some (y1,y2):=by
   rcases hx2 with ⟨_,h2⟩ | ⟨h2,_⟩
   ·exact h2
   ·exact absurd h1 h2
  refine Ah (λ h=>.bad (fail ?_) S.Ar) (λ h1=>?_)
  ·rcases hx3 with ⟨h2,_⟩ | ⟨_,h2⟩
   ·exact absurd h2 h
   ·simp [AF,g1,g2,h2]
  have g3:Bi l (y2:Int)=some (u1,u2):=by
   rcases hx3 with ⟨_,h2⟩ | ⟨h2,_⟩
   ·exact h2
   ·exact absurd h1 h2
  refine Ah (λ h=>.bad (fail ?_) S.Ar) (λ h1=>?_)
  ·rcases hx4 with ⟨h2,_⟩ | ⟨_,h2⟩
   ·exact absurd h2 h
   ·simp [AF,g1,g2,g3,h2]
  have g4:Bi l (u2:Int)=some (v1,v2):=by
   rcases hx4 with ⟨_,h2⟩ | ⟨h2,_⟩
   ·exact h2
   ·exact absurd h1 h2
  refine Aa (λ h=>.bad (fail ?_) S.Ar) (λ gH=>?_)
  ·have:1073741824<x1:=by omega
   simp [AF,g1,g2,g3,g4,this]
  rw [wrap_i64 (n:=(x1:Int)) (by omega) (by omega)];refine S.An λ mB ah _ _ S=>?_;have aW:Rd ah (some ⟨mB,0,none⟩) [Value.int .i64 (x1:Int)]:=S.GD 0 rfl;refine Ahd S 3 rfl aW (by omega) λ kK kM cp S=>⟨_,_,_,rfl,?_⟩;rw [Ae (by omega)];refine⟨⟨i+1,v2,ns++[x1],kK,kM,rfl,by omega,by simp [nU],by omega,?_,S.drop 3⟩,?_⟩
  ·rw [aV,show n-(i+1)=m by omega];have:¬ 1073741824<x1:=by omega
   simp only [AF,g1,g2,g3,g4,this,if_false,Option.map_map];congr 1;funext r;simp
  ·show n-((i+1:Nat):Int).toNat<n-(i:Int).toNat;omega
 ·have:n-i=0:=by omega
  rw [this] at aV;simp only [AF,AmA,Amc] at aV;rw [aV,wrap_i64 (n:=(r0:Int)) (by omega) (by omega)];exact⟨na,nc,rfl,S⟩
theorem Vg(hl:Rd w a (l.map Ag))(hc:l.length<=c)(hs:l.length<=140737488355328)(at_:Int)(mU:at_<=9223372036854775807)(n:Nat)(hn:n<=1000) :
  Calls Tryz.prog f.AaY #[.slice a l.length c,.int .i64 at_,.int .i64 (n:Int)] w (AG λ v w'=>PlV (Es 100000000 l at_ n) w w' v):=by
 apply R.P7
 delta R.A R.Ab R.Ei R.Bu R.F R.G R.H R.I R.J R.Ks R.N R.O R.KV R.S R.Am R.T R.W;try dsimp only [R.Ps]
 refine (AJ hl (by omega) at_ mU).mono ?_;rintro _ w1 ⟨_,rfl,rfl,rfl⟩;obtain⟨r0,at0,e0,hv0,hk0,hr0,nt⟩:=Ec _ (rfl:takeN l at_=takeN l at_);rw [hv0];have bL:takeN l at_=none->Es 100000000 l at_ n=none:=λ h=>by simp [Es,h]
 refine⟨_,_,_,rfl,Ah (λ h=>.bad ?_ (.refl _ _)) (λ oY=>?_)⟩
 ·rcases nt with ⟨h2,_⟩ | ⟨_,h2⟩
  ·exact absurd h2 h
  ·exact bL h2
 have jk:takeN l at_=some (r0,at0):=by
  rcases nt with ⟨_,h2⟩ | ⟨h2,_⟩
  ·exact h2
  ·exact absurd oY h2
 refine Aa (λ h=>.bad ?_ (.refl _ _)) (λ rT=>?_)
 ·have:1024<r0:=by omega
  simp [Es,jk,this]
 have hT:Es 100000000 l at_ n=(AF 100000000 l at0 n).map λ r=>(r0,r.1):=by
  have:¬ 1024<r0:=by omega
  simp [Es,jk,this]
 rw [hT];refine⟨λ s w2=>∃(i aL:Nat) (ns:List Nat) (na:Option Addr) (nc:Nat),s=[.int .i64 (aL:Int),.slice na ns.length nc,.int .i64 (i:Int)]/\i<=n/\ns.length=i/\aL<=l.length /\
   AF 100000000 l at0 n=((AF 100000000 l aL (n-i)).map λ r=>(ns++r.1,r.2))/\ST w1 w2 [Iq na nc ns],λ s _=>match s with
  | [_,_,.int _ i]=>n-i.toNat
  | _=>0,⟨0,at0,[],none,0,rfl,by omega,rfl,by omega,by simp,(ST.start w1).nil _ _⟩,?_⟩
 rintro _ na _ nc _ w2 ⟨i,aL,ns,_,_,aA,hi,nU,cU,aV,S⟩;cases aA;refine Aa (λ aB=>?_) (λ aI=>?_)
 ·obtain⟨m,hm⟩:∃ m,n-i=m+1:=⟨n-i-1,by omega⟩;rw [hm] at aV;have ax:=hl.grown S.Ar;refine (AJ ax (by omega) (aL:Int) (by omega)).mono ?_;rintro _ w2 ⟨_,rfl,rfl,rfl⟩;obtain⟨x1,x2,e1,hv1,cg,dQ,hx1⟩:=Ec _ (rfl:takeN l (aL:Int)=takeN l (aL:Int));rw [hv1];refine⟨_,_,_,rfl,(AJ ax (by omega) (x2:Int) (by omega)).mono ?_⟩;rintro _ w2 ⟨_,rfl,rfl,rfl⟩;obtain⟨y1,y2,e2,iH,bA,wK,hx2⟩:=Ec _ (rfl:takeN l (x2:Int)=takeN l (x2:Int));rw [iH];refine⟨_,_,_,rfl,(IK ax hc hs (y2:Int)).mono ?_⟩;rintro _ w5 ⟨_,rfl,rfl,B5⟩;have S:=S.grown B5;obtain⟨u1,u2,e3,hv3,iB,hx3⟩:=Jn _ (rfl:Bi l (y2:Int)=Bi l (y2:Int));rw [hv3];refine⟨_,_,_,_,_,rfl,S.II λ xV w9 _ S=>(IK (hl.grown S.Ar) hc hs (u2:Int)).mono ?_⟩;rintro _ bV ⟨_,rfl,rfl,bp⟩;have S:=S.grown bp;obtain⟨v1,v2,e4,hv4,nK,hx4⟩:=Jn _ (rfl:Bi l (u2:Int)=Bi l (u2:Int));rw [hv4];refine⟨_,_,_,_,_,rfl,S.II λ rE an _ S=>?_⟩;have fail:AF 100000000 l aL (m+1)=none->((AF 100000000 l at0 n).map λ r=>(r0,r.1))=none:=λ h=>by rw [aV,h];rfl
  refine Ah (λ h=>.bad (fail ?_) S.Ar) (λ h1=>?_)
  ·rcases hx1 with ⟨h2,_⟩ | ⟨_,h2⟩
   ·exact absurd h2 h
   ·simp [AF,h2]
  have g1:takeN l (aL:Int)=some (x1,x2):=by
   rcases hx1 with ⟨_,h2⟩ | ⟨h2,_⟩
   ·exact h2
   ·exact absurd h1 h2
  refine Ah (λ h=>.bad (fail ?_) S.Ar) (λ h1=>?_)
  ·rcases hx2 with ⟨h2,_⟩ | ⟨_,h2⟩
   ·exact absurd h2 h
   ·simp [AF,g1,h2]
  have g2:takeN l (x2:Int)=some (y1,y2):=by
   rcases hx2 with ⟨_,h2⟩ | ⟨h2,_⟩
   ·exact h2
   ·exact absurd h1 h2
  refine Ah (λ h=>.bad (fail ?_) S.Ar) (λ h1=>?_)
  ·rcases hx3 with ⟨h2,_⟩ | ⟨_,h2⟩
   ·exact absurd h2 h
   ·simp [AF,g1,g2,h2]
  have g3:Bi l (y2:Int)=some (u1,u2):=by
   rcases hx3 with ⟨_,h2⟩ | ⟨h2,_⟩
   ·exact h2
   ·exact absurd h1 h2
  refine Ah (λ h=>.bad (fail ?_) S.Ar) (λ h1=>?_)
  ·rcases hx4 with ⟨h2,_⟩ | ⟨_,h2⟩
   ·exact absurd h2 h
   ·simp [AF,g1,g2,g3,h2]
  have g4:Bi l (u2:Int)=some (v1,v2):=by
   rcases hx4 with ⟨_,h2⟩ | ⟨h2,_⟩
   ·exact h2
   ·exact absurd h1 h2
  refine Aa (λ h=>.bad (fail ?_) S.Ar) (λ gH=>?_)
  ·have:100000000<x1:=by omega
   simp [AF,g1,g2,g3,g4,this]
  rw [wrap_i64 (n:=(x1:Int)) (by omega) (by omega)];refine S.An λ mB ah _ _ S=>?_;have aW:Rd ah (some ⟨mB,0,none⟩) [Value.int .i64 (x1:Int)]:=S.GD 0 rfl;refine Ahd S 3 rfl aW (by omega) λ kK kM cp S=>⟨_,_,_,rfl,?_⟩;rw [Ae (by omega)];refine⟨⟨i+1,v2,ns++[x1],kK,kM,rfl,by omega,by simp [nU],by omega,?_,S.drop 3⟩,?_⟩
  ·rw [aV,show n-(i+1)=m by omega];have:¬ 100000000<x1:=by omega
   simp only [AF,g1,g2,g3,g4,this,if_false,Option.map_map];congr 1;funext r;simp
  ·show n-((i+1:Nat):Int).toNat<n-(i:Int).toNat;omega
 ·have:n-i=0:=by omega
  rw [this] at aV;simp only [AF,AmA,Amc] at aV;rw [aV,wrap_i64 (n:=(r0:Int)) (by omega) (by omega)];exact⟨na,nc,rfl,S⟩
end
theorem DD{l:List UInt8}{at_:Nat}{c:UInt8}{r:List UInt8}(h:l.drop at_=c :: r):at_<l.length/\l.getD at_ 0=c/\l.drop (at_+1)=r:=by
 have aB:at_<l.length:=by
  rcases Nat.lt_or_ge at_ l.length with h1 | h1
  ·exact h1
  ·rw [List.drop_eq_nil_of_le h1] at h;cases h
 have h2:=List.drop_eq_getElem_cons aB;rw [h2] at h;injection h with h3 h4
 exact⟨aB,by simp [AmK,aB,h3],h4⟩
theorem VF{l r:List UInt8}{at_ most:Nat}{s:ByteArray}(hs:s.size<=most)(hm:most<=1048576)(h:l.drop at_=BA s++r):BD l (at_:Int) most=some (bl s,at_+(BA s).length):=by
 unfold BA at h;rw [Alc] at h;have h1:=Cd (m:=s.size) (by omega) h;have h2:=CR h;have au:=Bb s;have hlen:=congrArg Amz h2;rw [AlE,Alb,au] at hlen;unfold BD;rw [h1];have aP:¬ (1048576<s.size\/most<s.size\/l.length-(at_+(Af s.size).length)<s.size):=by omega
 simp only [if_neg aP,Ams,AkO];refine⟨?_,?_⟩
 ·rw [h2,<- au,Ak6]
 ·simp only [BA,Alb,au];omega
theorem OS{l r:List UInt8}{at_:Nat}{v:AB}(hr:AK v=true)(hv:BL v)(h:l.drop at_=CC v++r):Bi l (at_:Int)=some (v,at_+(CC v).length):=by
 have eI:((at_:Int)+1)=((at_+1:Nat):Int):=by omega
 obtain⟨k,n,s⟩:=v;rcases Gl hr with hk | hk | ⟨hk,hn⟩ | ⟨hk,hs⟩
 ·simp only at hk;subst hk;simp [AK] at hr;obtain⟨rfl,rfl⟩:=hr;simp only [CC] at h ⊢;obtain⟨h1,h2,h3⟩:=DD (c:=0) (r:=r) (by simpa using h);unfold Bi;rw [if_neg (by omega),Ale,h2];simp
 ·simp only at hk;subst hk;simp [AK] at hr;subst hr;simp only [CC,if_true] at h ⊢;obtain⟨h1,h2,h3⟩:=DD (c:=1) (r:=Af (D8 n)++r) (by simpa using h);have h4:=Cd (F2 hv.lo hv.hi) h3;unfold Bi;rw [if_neg (by omega),Ale,h2,eI,h4];simp only [Ald,AmA];have:=Gq (n:=n);simp [this];omega
 ·simp only at hk hn;subst hk;simp [AK] at hr;obtain⟨_,rfl⟩:=hr;simp only [CC] at h ⊢;obtain⟨h1,h2,h3⟩:=DD (c:=2) (r:=Alj n.toNat :: r) (by simpa using h);obtain⟨h4,h5,h6⟩:=DD h3;have e5:(l.getD (at_+1) 0).toNat=n.toNat:=by rw [h5];rcases hn with rfl | rfl <;> rfl
  unfold Bi;rw [if_neg (by omega),Ale,h2];simp only;have h7:(at_:Int)+1<(l.length:Int)/\(l.getD (at_+1) 0).toNat<=1:=⟨by omega,by omega⟩;rw [if_neg (by decide),if_neg (by decide),if_pos (by decide),if_pos h7,e5];rcases hn with rfl | rfl <;> rfl
 ·simp only at hk hs;subst hk;simp [AK] at hr;obtain⟨rfl,_⟩:=hr;simp only [CC] at h ⊢;obtain⟨h1,h2,h3⟩:=DD (c:=3) (r:=BA s++r) (by simpa using h);have h4:=VF (most:=1024) hs (by omega) h3;unfold Bi;rw [if_neg (by omega),Ale,h2,eI,h4];simp [EJ];omega
theorem NA:∀(cs:List BQ) {l r:List UInt8} {at_:Nat},(∀ c∈cs,c.1.size<=24/\1<=c.2.1/\c.2.1<=3)->l.drop at_=cs.flatMap Jx++r->Bc l at_ cs.length=some (cs,at_+(cs.flatMap Jx).length)
 | [],l,r,at_,_,_=>rfl
 | c :: cs,l,r,at_,hq,h=>by
  obtain⟨hs,cg,bA⟩:=hq c (by simp);rw [List.flatMap_cons,Alc] at h;have h0:l.drop at_=BA c.1++([Alj c.2.1.toNat,Ja c.2.2]++(cs.flatMap Jx++r)):=by rw [h];simp [Jx]
  have h1:=VF (most:=24) hs (by omega) h0;have h2:=CR h0;obtain⟨g1,g2,g3⟩:=DD (c:=Alj c.2.1.toNat) (r:=Ja c.2.2 :: (cs.flatMap Jx++r)) (by simpa using h2);obtain⟨g4,g5,g6⟩:=DD g3;have hf:(Ja c.2.2).toNat<=1:=by unfold Ja;split <;> decide
  have eQ:((Alj c.2.1.toNat).toNat:Int)=c.2.1:=by
   have:c.2.1=1\/c.2.1=2\/c.2.1=3:=by omega
   rcases this with h | h | h <;> rw [h] <;> rfl
  have cd:((Ja c.2.2).toNat==1)=c.2.2:=by unfold Ja;cases c.2.2 <;> rfl
  have ih:=NA cs (l:=l) (r:=r) (at_:=at_+(BA c.1).length+2) (λ c hc=>hq c (by simp [hc])) (by rw [<- g6]);show Bc l at_ (cs.length+1)=_;unfold Bc;rw [h1];simp only;have aP:¬ (l.length-(at_+(BA c.1).length)<2\/1<(l.getD (at_+(BA c.1).length+1) 0).toNat):=by rw [g5];omega
  rw [if_neg aP,ih,g2,g5];simp only [AmA,Ams,AkO,EJ,eQ,cd,true_and];simp only [List.flatMap_cons,Jx,Alb,Ald,Amp];omega
theorem J6{cs:List BQ}(hR:Ap cs=true){l r:List UInt8}{at_:Nat}(h:l.drop at_=CF cs++r):Bj l (at_:Int)=some (cs,at_+(CF cs).length):=by
 have hl:=A6 hR;unfold CF at h;rw [Alc] at h;have h1:=Cd (m:=cs.length) (by omega) h;have h2:=NA cs (λ c hc=>by obtain⟨_,a,b,c⟩:=Dr hR hc;exact⟨c,a,b⟩) (CR h);unfold Bj;rw [h1];simp only;rw [if_neg (by omega),h2];simp only [hR,if_true,CF,Alb];congr 2;omega
theorem Mk(lim:Nat):∀(ps:List (List UInt8 × List AB)) {l r:List UInt8} {at_:Nat},(∀ p∈ps,p.1.length<=lim/\p.1.length<=2000300/\∃ k,Be k p.2)->l.drop at_=(ps.map λ p=>Kh p.1 p.2).flatten++r ->
  AF lim l at_ ps.length=some (ps.map (·.1.length),at_+((ps.map λ p=>Kh p.1 p.2).flatten).length)
 | [],l,r,at_,_,_=>rfl
 | p :: ps,l,r,at_,hq,h=>by
  obtain⟨gH,hx,k,hg⟩:=hq p (by simp);have hz:=hg.Adm;rw [AmQ,AmL,Alc] at h;rw [Kh] at h;simp only [Alc] at h;have bn:Au p.2<18446744073709551616:=by have:=Dc p.2;have:=hg.len;omega
  have h1:=Cd (m:=p.1.length) (by omega) h;have d1:=CR h;have h2:=Cd bn d1;have d2:=CR d1;have h3:=OS hz.1.1 hz.1.2 d2;have d3:=CR d2;have h4:=OS hz.2.1 hz.2.2 d3;have d4:=CR d3;have ih:=Mk lim ps (λ p hp=>hq p (by simp [hp])) d4;show AF lim l at_ (ps.length+1)=_;unfold AF;rw [h1];simp only;rw [h2];simp only;rw [h3];simp only;rw [h4];simp only;rw [if_neg (by omega),ih];simp only [AmA,AmQ,AmL,Alb,Kh,Ams,AkO,true_and];omega
theorem NB(lim:Nat){l:List UInt8}:∀(n at_:Nat) {r:List Nat × Nat},AF lim l at_ n=some r->r.1.length=n
 | 0,at_,r,h=>by simp [AF] at h;rw [<- h];rfl
 | n+1,at_,r,h=>by
  unfold AF at h;split at h
  ·cases h
  ·split at h
   ·cases h
   ·split at h
    ·cases h
    ·split at h
     ·cases h
     ·split at h
      ·cases h
      ·obtain⟨x,hx,he⟩:=Amt.1 h;rw [<- he];simp [NB lim n _ hx]
theorem VE{lim:Nat}{l:List UInt8}{at_:Int}{n:Nat}{r:Nat × List Nat}(h:Es lim l at_ n=some r):r.2.length=n/\r.1<=1024:=by
 unfold Es at h;split at h
 ·cases h
 ·split at h
  ·cases h
  ·obtain⟨x,hx,he⟩:=Amt.1 h;rw [<- he];exact⟨NB lim n _ hx,by simp only;omega⟩
section
variable {cs:List BQ}{rows:List (List AB)}{xs:List (List UInt8)}
theorem Jb(hs:Bv cs rows):Bj (DQ cs rows xs) 0=some (cs,(CF cs).length):=by
 have:=J6 hs.right (l:=DQ cs rows xs) (at_:=0) (r:=Af rows.length++Cr rows xs) (by simp [DQ]);simpa using this
theorem TZ{lim:Nat}(gH:2000300<=lim)(hs:Bv cs rows)(hx:Et cs rows xs)(hl:xs.length=cs.length):Es lim (DQ cs rows xs) ((CF cs).length:Int) cs.length=some (rows.length,xs.map Amz):=by
 have d0:(DQ cs rows xs).drop (CF cs).length=Af rows.length++(Cr rows xs++[]):=by
  rw [DQ,Alc,Amu];simp
 have h1:=Cd (m:=rows.length) (by have:=hs.len;omega) d0;have d1:=CR d0;obtain⟨ps,dz⟩:∃ ps,ps=xs.mapIdx λ i x=>(x,Bs rows i):=⟨_,rfl⟩;have e1:Cr rows xs=(ps.map λ p=>Kh p.1 p.2).flatten:=by
  rw [dz,Cr];congr 1;refine AmH (by simp) λ i h1 h2=>?_;simp
 have e2:ps.length=cs.length:=by rw [dz,List.length_mapIdx,hl]
 have e3:ps.map (·.1.length)=xs.map Amz:=by
  rw [dz];refine AmH (by simp) λ i h1 h2=>?_;simp
 rw [e1] at d1;have h2:=Mk lim ps (l:=DQ cs rows xs) (r:=[]) (λ p hp=>by
  rw [dz] at hp;obtain⟨i,hi,rfl⟩:=List.mem_mapIdx.1 hp;have:=hx.lens hs _ (AlS hi);exact⟨by simp only;omega,this,_,hs.D7 (by omega:i<cs.length)⟩) d1
 rw [e2,e3] at h2;unfold Es;rw [h1];simp only;rw [if_neg (by have:=hs.len;omega),h2];rfl
end
section
variable {w:World}{a:Option Addr}{c:Nat}{l:List UInt8}
theorem Zn:Calls Tryz.prog f.Ij #[.slice a l.length c] w (AG λ v w'=>∃ b1,v=.func (.func f.D4) #[] #[.pointer (some ⟨b1,0,none⟩)]/\ST w w' [It.cells b1 #[.slice a l.length c] ty.AH]):=by
 apply R.F5
 delta R.J R.N R.P R.S;try dsimp only [R.Ps]
 exact (ST.start w).An λ b1 w1 _ _ S1=>⟨b1,rfl,S1⟩
theorem Uk{L b:Nat}(hn:l.length<=1000000)(J:Nat->World->Prop)(cw:∀ k w,J k w->Rd w a (l.map Ag)/\w.cell? ⟨b,0,none⟩=some (.slice a l.length c))
  (ae:∀ k w (hk:k<l.length),J k w->O8 Tryz.prog L #[.int .i64 ((l.length-1-k:Nat):Int),.int .u8 ((l[l.length-1-k]'(by omega)).toNat:Int)] (λ y w'=>y=true/\J (k+1) w') w) (h0:J 0 w) :
  Calls Tryz.prog f.D4 #[.func (.yield L) #[] #[],.pointer (some ⟨b,0,none⟩)] w (AG λ _ w'=>J l.length w'):=by
 apply R.Fm
 delta R.A R.Ad R.B R.F R.H R.I R.Ls R.Ly R.Qi R.W R.X;try dsimp only [R.Ps]
 refine⟨_,_,_,(cw _ _ h0).2,λ s w1=>∃ k:Nat,k<=l.length/\s=[.int .i64 ((l.length:Int)-1-(k:Int))]/\J k w1,λ s _=>match s with
   | [.int _ i]=>(i+1).toNat
   | _=>0,⟨0,by omega,by rw [wrap_i64 (by omega) (by omega)];simp,h0⟩,?_⟩
 rintro _ w1 ⟨k,hk,aA,hj⟩;cases aA;refine Aa (λ aB=>?_) (λ aI=>?_)
 ·have aO:k<l.length:=by omega
  obtain⟨r1,r2⟩:=cw _ _ hj;have e:(l.length:Int)-1-(k:Int)=((l.length-1-k:Nat):Int):=by omega
  have hi:l.length-1-k<l.length:=by omega
  obtain⟨p,hp,hc⟩:=byte_at r1 hi;rw [e];refine⟨_,_,_,r2,⟨by omega,by omega⟩,?_⟩;rw [hp];refine⟨_,by rw [Ale];exact hc,?_⟩;refine (ae k w1 aO hj).mono ?_;rintro y w2 ⟨rfl,h⟩;rw [wrap_i64 (by omega) (by omega)];refine AV ⟨⟨k+1,by omega,by rw [<- e];congr 2;omega,h⟩,?_⟩;show (((l.length-1-k:Nat):Int)-1+1).toNat<(((l.length-1-k:Nat):Int)+1).toNat;omega
 ·have:k=l.length:=by omega
  subst this;exact hj
end
theorem Aii{n x:Nat}(hn:n<1099511627776)(hx:x<256):IntKind.i64.wrap (((BitVec.ofInt 64 (IntKind.i64.wrap ((n:Int)*2 ^ (min 8 64))) ||| BitVec.ofInt 64 (IntKind.i64.wrap (x:Int))).toNat:Int))=((n*256+x:Nat):Int):=by
 have e1:(n:Int)*2 ^ (min 8 64)=((n*256:Nat):Int):=by
  rw [show min 8 64=8 from rfl];omega
 rw [e1,wrap_i64 (n:=((n*256:Nat):Int)) (by omega) (by omega),wrap_i64 (n:=(x:Int)) (by omega) (by omega),BitVec.toNat_or,BitVec.ofInt_natCast,BitVec.ofInt_natCast,BitVec.toNat_ofNat,BitVec.toNat_ofNat,Nat.mod_eq_of_lt (by omega),Nat.mod_eq_of_lt (by omega)];have e2:n*256 ||| x=n*256+x:=by
  have:=Nat.two_pow_add_eq_or_of_lt (i:=8) (b:=x) hx n;rw [show 2 ^ 8*n=n*256 by omega] at this;exact this.symm
 rw [e2,wrap_i64 (by omega) (by omega)]
def KY(l:List UInt8)(k:Nat):Nat:=(l.reverse.take k).foldl (λ n c=>n*256+c.toNat) 0
theorem QO{l:List UInt8}{k:Nat}(hk:k<l.length):KY l (k+1)=KY l k*256+(l[l.length-1-k]'(by omega)).toNat:=by
 unfold KY;rw [Al6 (by simpa using hk),List.foldl_append];simp only [List.foldl_cons,List.foldl_nil];congr 2;rw [List.getElem_reverse]
theorem O9{l:List UInt8}:∀ k,k<=l.length->KY l k<256 ^ k
 | 0,_=>by simp [KY]
 | k+1,h=>by
  have ih:=O9 (l:=l) k (by omega);rw [QO (by omega),Nat.pow_succ];have:=(l[l.length-1-k]'(by omega)).toNat_lt;omega
theorem AfZ(n:Nat)(hn:n<4294967296):KY (LP n) 4=n:=by
 have h:∀ m,m<256->(Alj m).toNat=m:=λ m hm=>by simp;omega
 simp only [KY,LP,List.reverse_cons,List.reverse_nil,List.nil_append,List.cons_append,List.take_succ_cons,List.take_zero,List.foldl_cons,List.foldl_nil];rw [h _ (by omega),h _ (by omega),h _ (by omega),h _ (by omega)];omega
def VQ(q:BF):List Value:=(zC (Au q.2.2:Int) (Ga q.2.2)).toList
structure KT(w:World)(p:Addr)(cs:List BQ)(aR:List BF)(n:Nat):Prop where
 AM:∃ a c,w.cell? p=some (.slice a cs.length c)/\Rd w a (BM cs)
 Akg:∃ a c,w.cell? (p.add 1)=some (.slice a aR.length c)/\Ba w a aR
 Aki:∃ a c,w.cell? (p.add 2)=some (.slice a aR.length c)/\Rd w a (aR.flatMap VQ)
 many:w.cell? (p.add 3)=some (.int .i64 (n:Int))
 right:Ap cs=true
 len:aR.length=cs.length
 small:n<=1024
 each:∀ q∈aR,q.2.2.length=n/\∃ k,Be k q.2.2
structure Eu(cs:List BQ)(rows:List (List AB))(xs:List (List UInt8))(b:List UInt8):Prop where
 ok:Bv cs rows
 chs:Et cs rows xs
 len:xs.length=cs.length
 eq:b=KC cs rows xs
theorem Eu.split{cs:List BQ}{rows:List (List AB)}{xs:List (List UInt8)}{b:List UInt8}(h:Eu cs rows xs b):8<=b.length/\KY (b.drop (b.length-4)) 4=(DQ cs rows xs).length/\(DQ cs rows xs).length<=b.length-8 /\
  ((b.take (b.length-4)).drop (b.length-4-(DQ cs rows xs).length))=DQ cs rows xs/\((b.take (b.length-4-(DQ cs rows xs).length)).drop 4)=xs.flatten:=by
 have hf:=h.chs.TY h.ok;obtain⟨ft,bQ⟩:∃ ft,ft=DQ cs rows xs:=⟨_,rfl⟩;have e:=h.eq;unfold KC at e;rw [<- bQ] at e hf ⊢;have hm:Ck.length=4:=rfl;have fS:(LP ft.length).length=4:=rfl;have hl:b.length=4+xs.flatten.length+ft.length+4:=by rw [e];simp only [Alb,hm,fS]
 have e1:b.length-4=(Ck++xs.flatten++ft).length:=by simp only [Alb,hm];omega
 have e2:b.length-4-ft.length=(Ck++xs.flatten).length:=by simp only [Alb,hm];omega
 refine⟨by omega,?_,by omega,?_,?_⟩
 ·rw [e1,e,Amu];exact AfZ _ (by omega)
 ·rw [e2,e1,e,Ak6,Amu]
 ·rw [e2,e,Alc (Ck++xs.flatten),Ak6,show 4=Ck.length from rfl,Amu]
def Ajw(b:List UInt8)(w w':World)(v:Value):Prop :=
 Below w.heap.size w w'/\((∃ p cs aR n,v=.tuple #[.pointer (some p),.bool true]/\KT w' p cs aR n/\∀ aC rows' gR,Eu aC rows' gR b->cs=aC/\n=rows'.length/\rws aR=(AlL aC.length).map (Bs rows')) \/
  (v=.tuple #[.pointer none,.bool false]/\∀ aC rows' gR,¬ Eu aC rows' gR b))
theorem tVV:M9 Tryz.prog ty.Gr=some (ty.CD,1,24,.slice none 0 0):=by kernel_rfl
theorem tZZ:M9 Tryz.prog ty.Js=some (ty.AU,7,72,.agg #[.int .i64 0,.int .i64 0,.int .i64 0,.string ⟨#[]⟩,.int .i64 0,.int .i64 0,.string ⟨#[]⟩]):=by kernel_rfl
def AfC(a:Option Addr)(c:Nat)(aR:List BF):It:=It.row ty.CD 1 a aR.length c (aR.map Cz)
def AfH(a:Option Addr)(c:Nat)(aR:List BF):It:=It.row ty.AU 7 a aR.length c (aR.flatMap VQ)
section
variable {w0 w:World}{H:List It}{a:Option Addr}{c:Nat}{aR:List BF}
theorem Ac9(S:ST w0 w H)(n:Nat)(hn:H[n]?=some (AfC a c aR)){x:BF}{b:Nat}(hs:Rd w (some ⟨b,0,none⟩) [Cz x])(hl:aR.length+1<=1000000){f:Value->World->Prop}
  (hf:∀ a' c' w',ST w0 w' (H.set n (AfC a' c' (aR++[x])))->f (.slice a' (aR++[x]).length c') w') :
  DB Tryz.prog (Builtin.append_ #[ty.Gr,ty.Gr] ty.Gr #[.slice a aR.length c,.slice (some ⟨b,0,none⟩) 1 1]) f w:=by
 refine S.app n hn tVV rfl (by omega) (by omega) hs (mm:=1) rfl (by simp [Cz];rfl) (by omega) λ a' c' w' S'=>?_;have e1:(aR++[x]).length=aR.length+1:=by simp
 have e2:aR.map Cz++[Cz x]=(aR++[x]).map Cz:=by simp
 rw [e2] at S';have:=hf a' c' w' (by unfold AfC;rw [e1];exact S');rwa [e1] at this
theorem Ada(S:ST w0 w H)(n:Nat)(hn:H[n]?=some (AfH a c aR)){x:BF}{b:Nat}(hs:Rd w (some ⟨b,0,none⟩) (VQ x))(hl:aR.length+1<=1000000){f:Value->World->Prop}
  (hf:∀ a' c' w',ST w0 w' (H.set n (AfH a' c' (aR++[x])))->f (.slice a' (aR++[x]).length c') w') :
  DB Tryz.prog (Builtin.append_ #[ty.Js,ty.Js] ty.Js #[.slice a aR.length c,.slice (some ⟨b,0,none⟩) 1 1]) f w:=by
 refine S.app n hn tZZ rfl (by omega) (by omega) hs (mm:=1) rfl (by simp [VQ,zC];exact⟨rfl,rfl,rfl,rfl,rfl,rfl,rfl⟩) (by omega) λ a' c' w' S'=>?_;have e1:(aR++[x]).length=aR.length+1:=by simp
 have e2:aR.flatMap VQ++VQ x=(aR++[x]).flatMap VQ:=by simp
 rw [e2] at S';have:=hf a' c' w' (by unfold AfH;rw [e1];exact S');rwa [e1] at this
end
theorem DG{l:List UInt8}{at_:Int}{r:List BQ × Nat}(h:Bj l at_=some r):Ap r.1=true:=by
 unfold Bj at h;split at h
 ·cases h
 ·split at h
  ·cases h
  ·split at h
   ·cases h
   ·split at h
    ·rename_i hR;cases h;exact hR
    ·cases h
theorem WL.open{o:Option (List BQ × Nat)}{w0 w w':World}{v:Value}{H:List It}(S:ST w0 w H)(h:WL o w w' v)(hr:∀ r,o=some r->Ap r.1=true):∃(cs:List BQ) (ca:Option Addr) (cc aL:Nat) (e:Int),v=.tuple #[.slice ca cs.length cc,.int .i64 (aL:Int),.int .i64 e]/\ST w0 w' (CK ca cc cs :: H) /\
  cs.length<=16/\((e=0/\o=some (cs,aL)/\Ap cs=true)\/(e≠0/\o=none)):=by
 cases o with
 | none =>
  obtain⟨rfl,B⟩:=h;exact⟨[],none,0,0,52,rfl,(S.grown B).nil _ _,by simp,.inr ⟨by decide,rfl⟩⟩
 | some r =>
  obtain⟨ca,cc,rfl,S2⟩:=h;have hR:=hr r rfl;exact⟨r.1,ca,cc,r.2,0,rfl,S.join S2,(A6 hR).2,.inl ⟨rfl,rfl,hR⟩⟩
theorem PlV.open{o:Option (Nat × List Nat)}{w0 w w':World}{v:Value}{H:List It}(S:ST w0 w H)(h:PlV o w w' v):∃(r:Nat) (ns:List Nat) (na:Option Addr) (nc:Nat) (ok:Bool),v=.tuple #[.int .i64 (r:Int),.slice na ns.length nc,.bool ok]/\ST w0 w' (Iq na nc ns :: H) /\
  ((ok=true/\o=some (r,ns))\/(ok=false/\o=none)):=by
 cases o with
 | none =>
  obtain⟨rfl,B⟩:=h;exact⟨0,[],none,0,false,rfl,(S.grown B).nil _ _,.inr ⟨rfl,rfl⟩⟩
 | some r =>
  obtain⟨na,nc,rfl,S2⟩:=h;exact⟨r.1,r.2,na,nc,true,rfl,S.join S2,.inl ⟨rfl,rfl⟩⟩
theorem Acx{w:World}{a:Option Addr}{ns:List Nat}(h:Rd w a (ns.map λ n:Nat=>Value.int .i64 (n:Int))){i:Nat}(hi:i<ns.length):∃ p,a=some p/\w.cell? (p.add (i*1))=some (.int .i64 (ns[i]:Int)):=by
 obtain⟨p,hp,hc⟩:=h i (.int .i64 (ns[i]:Int)) (by simp [hi]);exact⟨p,hp,by rw [Alh];exact hc⟩
def rdI(q:BF):It:=It.rd q.1 (AP q.2.2)
theorem Qp{w0 w w':World}{H:List It}{a:Option Addr}{xs:List Value}(S:ST w0 w H)(B:Below w.heap.size w w')(h:XR w w' a xs):ST w0 w' (It.rd a xs :: H):=by
 refine S.add B _ h.rd λ k hk=>h.new k ?_;cases xs with
 | nil=>cases hk
 | cons x xs=>exact hk
theorem Py{xs:List (List UInt8)}{i:Nat}(hi:i<xs.length):(xs.drop i).flatten=xs[i]++(xs.drop (i+1)).flatten:=by
 rw [List.drop_eq_getElem_cons hi,AmL]
section
variable {w:World}{a:Option Addr}{c:Nat}{b:List UInt8}
theorem SC(hl:Rd w a (b.map Ag))(hc:b.length<=c){n:Nat}(h8:8<=b.length)(hn:n<=b.length-8) :
  Rd w (Cm (Cm a 0 c 1) (b.length-4-n) c 1) (((b.take (b.length-4)).drop (b.length-4-n)).map Ag)/\Rd w (Cm (Cm a 0 c 1) 4 c 1) (((b.take (b.length-4-n)).drop 4).map Ag):=by
 have h1:=hl.OY 0 (b.length-4) c 1 (by omega);have h2:=h1.OY (b.length-4-n) (b.length-4) c 1 (by omega);have h3:=h1.OY 4 (b.length-4-n) c 1 (by omega);simp only [Alh,AmG,AmE] at h2 h3;constructor
 ·rw [<- AlG,<- AlF,<- AlG] at h2;have e:((b.take (b.length-4)).drop (b.length-4-n)).take (b.length-4-(b.length-4-n))=(b.take (b.length-4)).drop (b.length-4-n):=AlK (by rw [AlE,Al7];omega);rw [e] at h2;exact h2
 ·rw [<- AlG,<- AlF,<- AlG] at h3;have e:((b.take (b.length-4)).drop 4).take (b.length-4-n-4)=(b.take (b.length-4-n)).drop 4:=by
   rw [List.drop_take,List.drop_take,List.take_take];congr 1;omega
  rw [e] at h3;exact h3
theorem TM(hl:Rd w a (b.map Ag))(hc:b.length<=c)(hs:b.length<=140737488355328)(h8:8<=b.length) :
  Calls Tryz.prog f.Y4 #[.slice a b.length c] w (AG λ v w'=>Ajw b w w' v):=by
 apply R.OO
 delta R.A R.Ab R.Ad R.B R.EL R.WD R.Adn R.Ik R.Cf R.D R.F R.G R.H R.I R.J R.Ks R.Li R.Ls R.Lt R.N R.O R.P R.EM R.S R.Am R.T R.W R.X R.Y;try dsimp only [R.Ps]
 have eW:IntKind.i64.wrap ((b.length:Int)-4)=((b.length-4:Nat):Int):=by rw [wrap_i64 (by omega) (by omega)];omega
 rw [eW];simp only [Ale,AmE];obtain⟨t,ht⟩:∃ t,t=b.drop (b.length-4):=⟨_,rfl⟩;have eU:t.length=4:=by rw [ht,AlE];omega
 have hrt:Rd w (Cm a (b.length-4) c 1) (t.map Ag):=by
  have h:=hl.OY (b.length-4) b.length c 1 hc;simp only [Alh] at h;rw [<- AlF,<- AlG] at h;rw [ht];have e:(b.drop (b.length-4)).take (b.length-(b.length-4))=b.drop (b.length-4):=AlK (by rw [AlE];omega);rwa [e] at h
 refine (ST.start w).An λ b2 w1 _ _ S=>S.BP 0 rfl (aC:=#[.int .i64 0]) (by simp) rfl λ w2 S=>⟨⟨by omega,by omega,by omega⟩,?_⟩;have hB:=Zn (w:=w2) (a:=Cm a (b.length-4) c 1) (c:=c-(b.length-4)) (l:=t);rw [show b.length-(b.length-4)=t.length by omega];refine hB.mono ?_;rintro _ w3 ⟨_,rfl,bq,rfl,P⟩;have S:=S.join P;refine⟨_,_,_,rfl,by kernel_rfl,λ rr aA dW hy=>?_⟩;have S:=S.range rr;obtain⟨L,hL⟩:∃ L,L=w3.heap.size+1:=⟨_,rfl⟩;obtain⟨d,hd⟩:∃ d,d=w3.heap.size:=⟨_,rfl⟩;rw [<- hL] at S hy ⊢;rw [<- hd] at S ⊢;let J:Nat->World->Prop:=λ k wx=>ST w wx [It.obj L (.loop rr),It.obj d (.deferred (some [])),It.cells bq #[.slice (Cm a (b.length-4) c 1) t.length (c-(b.length-4))] ty.AH,It.cells b2 #[.int .i64 (KY t k:Int)] ty.int];have ay:=Uk (w:=(w3.alloc (.deferred (some []))).alloc (.loop rr)) (a:=Cm a (b.length-4) c 1) (c:=c-(b.length-4)) (l:=t) (L:=L) (b:=bq) (by omega) J (λ k wx (hj:ST w wx _)=>⟨hrt.grown hj.Ar,hj.cell 2 rfl rfl⟩) (by
  rintro k wx hk (S:ST w wx _);have h1:=O9 (l:=t) k (by omega);have h2:256 ^ k<=256 ^ 3:=Nat.pow_le_pow_right (by omega) (by omega);have h3:(256:Nat) ^ 3=16777216:=by decide
  refine hy _ _ _ wx (S.get 0 rfl) ?_;refine S.AjN 0 rfl λ w5 S=>⟨_,S.cell 3 rfl rfl,?_⟩;rw [Aii (by omega) ((t[t.length-1-k]'(by omega)).toNat_lt)];rw [<- QO hk];exact S.BP 3 rfl (aC:=#[.int .i64 (KY t (k+1):Int)]) (by simp) rfl λ w6 S=>S.Agh 0 aA dW rfl λ w7 S=>⟨rfl,S⟩) S
 refine ay.mono ?_;rw [eU];rintro _ w7 ⟨_,rfl,S⟩;obtain⟨n,hn⟩:∃ n,n=KY t 4:=⟨_,rfl⟩;have S:ST w w7 [It.obj L (.loop rr),It.obj d (.deferred (some [])),It.cells bq #[.slice (Cm a (b.length-4) c 1) t.length (c-(b.length-4))] ty.AH,It.cells b2 #[.int .i64 (n:Int)] ty.int]:=by rw [hn];exact S
 have vo:n<4294967296:=by rw [hn];exact O9 (l:=t) 4 (by omega)
 have ni:∀ cs rows xs,Eu cs rows xs b->n=(DQ cs rows xs).length:=λ cs rows xs h=>by rw [hn,ht];exact h.split.2.1
 refine⟨⟨_,rfl⟩,S.Agg 0 aA dW rfl λ w8 S=>⟨rfl,⟨by omega,by omega,by omega⟩,_,S.cell 3 rfl rfl,?_⟩⟩;have pE:IntKind.i64.wrap (((b.length-4:Nat):Int)-4)=((b.length-8:Nat):Int):=by rw [wrap_i64 (by omega) (by omega)];omega
 have bad:∀ {wx:World} {H:List It},ST w wx (It.obj d (.deferred (some [])) :: H)->(∀ aC rows' gR,¬ Eu aC rows' gR b)->wx.heap[d]?=some (.deferred (some []))/\Ajw b w (wx.putObj d (.deferred none)) (.tuple #[.pointer none,.bool false]):=λ S h=>⟨S.get 0 rfl,(S.put 0 rfl _).Ar,.inr ⟨rfl,h⟩⟩;refine Aa (λ h=>bad (S.drop 1) λ cs rows xs hP=>?_) (λ hle=>?_)
 ·have:=hP.split.2.2.1;have:=ni cs rows xs hP;rw [pE] at h;omega
 rw [pE] at hle;have nT:n<=b.length-8:=by omega
 refine S.draw λ w9 _ S=>⟨_,S.cell 3 rfl rfl,?_⟩;have rP:IntKind.i64.wrap (((b.length-4:Nat):Int)-(n:Int))=((b.length-4-n:Nat):Int):=by rw [wrap_i64 (by omega) (by omega)];omega
 rw [rP];simp only [Ale];refine⟨⟨by omega,by omega,by omega⟩,_,S.cell 3 rfl rfl,?_⟩;rw [rP];simp only [Ale];refine⟨⟨by omega,by omega,by omega⟩,?_⟩;obtain⟨iG,qX⟩:=SC hl hc h8 nT;obtain⟨ft,bQ⟩:∃ ft,ft=(b.take (b.length-4)).drop (b.length-4-n):=⟨_,rfl⟩;obtain⟨bd,gd⟩:∃ bd,bd=(b.take (b.length-4-n)).drop 4:=⟨_,rfl⟩;rw [<- bQ] at iG;rw [<- gd] at qX;obtain⟨fa,hfa⟩:∃ fa,fa=Cm (Cm a 0 c 1) (b.length-4-n) c 1:=⟨_,rfl⟩;obtain⟨ba,hba⟩:∃ ba,ba=Cm (Cm a 0 c 1) 4 c 1:=⟨_,rfl⟩;rw [<- hfa] at iG ⊢;rw [<- hba] at qX ⊢;have kh:ft.length=b.length-4-(b.length-4-n):=by rw [bQ,AlE,Al7];omega
 have pt:bd.length=b.length-4-n-4:=by rw [gd,AlE,Al7];omega
 rw [<- kh,<- pt];have cH:∀ cs rows xs,Eu cs rows xs b->ft=DQ cs rows xs/\bd=xs.flatten:=λ cs rows xs hP=>by
  have e:=ni cs rows xs hP;have:=hP.split.2.2.2;rw [<- e] at this;exact⟨by rw [bQ];exact this.1,by rw [gd];exact this.2⟩
 have hT:=Ma (c:=c-(b.length-4-n)) (iG.grown S.Ar) (by omega) (by omega) 0;refine hT.mono ?_;rintro _ bV ⟨_,rfl,hT⟩;obtain⟨cs,ca,cc,aL,e,rfl,S,bN,aj⟩:=hT.open S (λ r h=>DG h);refine⟨_,_,_,_,_,rfl,(Qm (c:=c-(b.length-4-n)) (iG.grown S.Ar) (by omega) (by omega) (aL:Int) cs.length (by omega)).mono ?_⟩;rintro _ aY ⟨_,rfl,uG⟩;obtain⟨r,ns,na,nc,ok,rfl,S,j'⟩:=uG.open S;refine⟨_,_,_,_,_,rfl,Ah (λ h=>bad (S.drop 3) λ aC rows xs hP=>?_) (λ he=>As (Aq (λ aK=>?_) (λ aK=>bad (S.drop 3) λ aC rows xs hP=>?_)))⟩
 ·have h2:=Jb (xs:=xs) hP.ok;rw [<- (cH aC rows xs hP).1] at h2;rcases aj with ⟨h3,_⟩ | ⟨_,h3⟩
  ·exact h h3
  ·rw [h2] at h3;cases h3
 rotate_left
 ·have h2:=Jb (xs:=xs) hP.ok;rw [<- (cH aC rows xs hP).1] at h2;rcases aj with ⟨_,h3,_⟩ | ⟨h3,_⟩
  ·rw [h2] at h3;have h4:=Ami h3;obtain rfl:aC=cs:=congrArg AmM h4;obtain rfl:(CF aC).length=aL:=congrArg Prod.snd h4;have h5:=TZ (lim:=1073741824) (by omega) hP.ok hP.chs hP.len;rw [<- (cH aC rows xs hP).1] at h5;rcases j' with ⟨h6,_⟩ | ⟨_,h6⟩
   ·rw [aK] at h6;cases h6
   ·rw [h5] at h6;cases h6
  ·exact h3 he
 have gD:Bj ft 0=some (cs,aL)/\Ap cs=true:=by
  rcases aj with ⟨_,h3⟩ | ⟨h3,_⟩
  ·exact h3
  ·exact absurd he h3
 have ja:Es 1073741824 ft (aL:Int) cs.length=some (r,ns):=by
  rcases j' with ⟨_,h6⟩ | ⟨h6,_⟩
  ·exact h6
  ·rw [aK] at h6;cases h6
 obtain⟨bn,hr24⟩:=VE ja;simp only at bn hr24;have key:∀ aC rows xs,Eu aC rows xs b->cs=aC/\r=rows.length/\ns=xs.map Amz/\bd=xs.flatten:=λ aC rows xs hP=>by
  have h2:=Jb (xs:=xs) hP.ok;rw [<- (cH aC rows xs hP).1,gD.1] at h2;have h4:=Ami h2;obtain rfl:cs=aC:=congrArg AmM h4;obtain rfl:aL=(CF cs).length:=congrArg Prod.snd h4;have h5:=TZ (lim:=1073741824) (by omega) hP.ok hP.chs hP.len;rw [<- (cH cs rows xs hP).1,ja] at h5;have h6:=Ami h5;exact⟨rfl,congrArg AmM h6,congrArg Prod.snd h6,(cH cs rows xs hP).2⟩
 refine S.An λ eh bK _ _ S=>?_;have S:=((S.nil ty.AU 7).nil ty.CD 1).pull 2 rfl;obtain⟨oL,hoL⟩:∃ oL,oL=Obj.loop { rr with state:=.exhausted,pending:=none }:=⟨_,rfl⟩;let Hq:Option Addr->Nat->Option Addr->Nat->List BF->List It:=λ va vc za zc aR=>It.cells eh #[.slice ca cs.length cc,.slice va aR.length vc,.slice za aR.length zc,.int .i64 (r:Int)] ty.G6 :: AfC va vc aR :: AfH za zc aR :: Iq na nc ns :: CK ca cc cs ::
  It.obj L oL :: It.obj d (.deferred (some [])) :: It.cells bq #[.slice (Cm a (b.length-4) c 1) t.length (c-(b.length-4))] ty.AH :: It.cells b2 #[.int .i64 (n:Int)] ty.int :: aR.reverse.map rdI
 let Inv:List Value->World->Prop:=λ s wx=>∃(i:Nat) (rest:List UInt8) (ra:Option Addr) (rc:Nat) (aR:List BF) (va:Option Addr) (vc:Nat) (za:Option Addr) (zc:Nat),s=[.slice ra rest.length rc,.int .i64 (i:Int)]/\i<=ns.length/\aR.length=i/\rest.length<=rc/\rest.length<=b.length/\Rd w ra (rest.map Ag) /\
  (∀ q∈aR,q.2.2.length=r/\∃ k,Be k q.2.2)/\(∀ aC rows xs,Eu aC rows xs b->rest=(xs.drop i).flatten/\rws aR=(AlL i).map (Bs rows))/\ST w wx (Hq va vc za zc aR)
 let Mu:List Value->World->Nat:=λ s _=>match s with
   | [_,.int _ i]=>ns.length-i.toNat
   | _=>0
 refine⟨Inv,Mu,⟨0,bd,ba,c-4,[],none,0,none,0,rfl,by omega,rfl,by omega,by omega,qX,by simp,λ aC rows xs hP=>⟨by rw [(key aC rows xs hP).2.2.2];rfl,rfl⟩,by simp only [Hq];rw [hoL];exact S⟩,?_⟩;rintro ra _ rc _ al ⟨i,rest,_,_,aR,va,vc,za,zc,aA,hi,uu,hrc,kx,hR,cW,aV,S⟩;cases aA;refine Aa (λ aB=>⟨⟨by omega,aB⟩,?_⟩) (λ aI=>?_)
 ·have aD:i<ns.length:=by omega
  have hN:Rd al na (ns.map λ n:Nat=>Value.int .i64 (n:Int)):=S.rd 3 rfl;obtain⟨pn,hpn,lP⟩:=Acx hN aD;rw [hpn];have dI:∀ aC rows xs,Eu aC rows xs b->∃ hx:i<xs.length,ns[i]=xs[i].length/\rest=xs[i]++(xs.drop (i+1)).flatten:=λ aC rows xs hP=>by
   have h1:=(key aC rows xs hP).2.2.1;have hx:i<xs.length:=by rw [h1,Alr] at aD;exact aD
   refine⟨hx,?_,by rw [(aV aC rows xs hP).1,Py hx]⟩;simp [h1]
  refine⟨_,by rw [Ale];exact lP,Aa (λ h=>bad (S.pull 6 rfl) λ aC rows xs hP=>?_) (λ cV=>?_)⟩
  ·obtain⟨hx,h1,h2⟩:=dI aC rows xs hP;have:=congrArg Amz h2;rw [Alb] at this;omega
  have pz:ns[i]<=rest.length:=by omega
  simp only [Ale];refine⟨⟨by omega,by omega,by omega⟩,?_⟩;have bD:Rd w (Cm ra 0 rc 1) ((rest.take ns[i]).map Ag):=by
   have h:=hR.OY 0 ns[i] rc 1 (by omega);simp only [Alh,AmG,AmE] at h;rw [<- AlG] at h;exact h
  have hsr:Rd w (Cm ra ns[i] rc 1) ((rest.drop ns[i]).map Ag):=by
   have h:=hR.OY ns[i] rest.length rc 1 hrc;simp only [Alh] at h;rw [<- AlF,<- AlG] at h;have e:(rest.drop ns[i]).take (rest.length-ns[i])=rest.drop ns[i]:=AlK (by rw [AlE];omega);rwa [e] at h
  have wk:(rest.take ns[i]).length=ns[i]:=by rw [Al7];omega
  have hD:=Ta (c:=rc) (bD.grown S.Ar) (by omega) (by omega);rw [wk] at hD;refine hD.mono ?_;rintro _ an ⟨_,rfl,K,ls,la,lc,e,rfl,jx,oz,oh,aG⟩;have S:=Qp S oz jx;have gE:∀ aC rows xs,Eu aC rows xs b->e=0/\ls=Bs rows i:=λ aC rows xs hP=>by
   obtain⟨hx,h1,h2⟩:=dI aC rows xs hP;have lk:i<aC.length:=by have:=hP.len;omega
   have h3:rest.take ns[i]=xs[i]:=by rw [h1,h2,Ak6]
   have h4:=hP.chs.each i lk hx;rw [<- h3] at h4;rcases aG with ⟨_,_,he,hu⟩ | ⟨aP,_⟩
   ·exact⟨he,((hu _ _ (hP.ok.D7 lk) h4).2).symm⟩
   ·exact absurd h4 (aP _ _ (hP.ok.D7 lk))
  refine⟨_,_,_,_,_,rfl,Ah (λ h=>bad (S.pull 7 rfl) λ aC rows xs hP=>h (gE aC rows xs hP).1) (λ he=>Ah (λ h=>bad (S.pull 7 rfl) λ aC rows xs hP=>?_) (λ hlr=>?_))⟩
  ·apply h;rw [(gE aC rows xs hP).2,Gh,(key aC rows xs hP).2.1]
  obtain⟨hg,hC⟩:Be K ls/\True:=by
   rcases aG with ⟨hg,_⟩ | ⟨_,_,_,h80⟩
   ·exact⟨hg,trivial⟩
   ·omega
  refine (Nk (c:=lc) (S.ok (It.rd la (AP ls)) (by simp))).mono ?_;rintro _ ah ⟨_,rfl,xD,dm⟩;rcases xD with ⟨_,rfl⟩ | ⟨aP,_⟩
  case inr=>exact absurd hg.G9 aP
  have S:=S.grown dm;obtain⟨q,hq⟩:∃ q:BF,q=(la,lc,ls):=⟨_,rfl⟩;refine⟨_,_,_,_,_,_,_,_,rfl,S.An λ xY cp _ _ S=>S.Abs 0 rfl λ fp S=>S.draw λ fE _ S=>⟨⟨by omega,by omega,by omega⟩,_,_,_,S.cell 2 rfl rfl,_,_,_,S.cell 2 rfl rfl,_,S.cell 0 rfl rfl,_,S.cell 0 rfl rfl,_,S.cell 0 rfl rfl,_,S.cell 0 rfl rfl,_,S.cell 0 rfl rfl,_,S.cell 0 rfl rfl,_,S.cell 0 rfl rfl,?_⟩⟩;have gz:aR.length+1<=1000000:=by omega
  have fin:∀(wx:World) (x0 x1 x2:It) (gO:Option Addr) (gP:Nat) (gp:Option Addr) (gq:Nat),ST w wx (x0 :: x1 :: x2 :: It.rd la (AP ls) :: It.cells eh #[.slice ca cs.length cc,.slice va aR.length vc,.slice za aR.length zc,.int .i64 (r:Int)] ty.G6 :: AfC gO gP (aR++[q]) :: AfH gp gq (aR++[q]) :: Iq na nc ns :: CK ca cc cs ::
     It.obj L oL :: It.obj d (.deferred (some [])) :: It.cells bq #[.slice (Cm a (b.length-4) c 1) t.length (c-(b.length-4))] ty.AH :: It.cells b2 #[.int .i64 (n:Int)] ty.int :: aR.reverse.map rdI) ->
    DY ⟨eh,1,none⟩ (.slice gO (aR++[q]).length gP) (λ kF=>DY ⟨eh,2,none⟩ (.slice gp (aR++[q]).length gq) (λ eK=>Inv [.slice (Cm ra ns[i] rc 1) (rest.length-ns[i]) (rc-ns[i]),.int .i64 (IntKind.i64.wrap ((i:Int)+1))] eK /\
     Mu [.slice (Cm ra ns[i] rc 1) (rest.length-ns[i]) (rc-ns[i]),.int .i64 (IntKind.i64.wrap ((i:Int)+1))] eK<Mu [.slice ra rest.length rc,.int .i64 (i:Int)] al) kF) wx:=by
   intro wx x0 x1 x2 gO gP gp gq S;refine S.BP 4 rfl (aC:=#[.slice ca cs.length cc,.slice gO (aR++[q]).length gP,.slice za aR.length zc,.int .i64 (r:Int)]) (by simp) rfl λ kF S=>S.BP 4 rfl (aC:=#[.slice ca cs.length cc,.slice gO (aR++[q]).length gP,.slice gp (aR++[q]).length gq,.int .i64 (r:Int)]) (by simp) rfl λ eK S=>?_;rw [Ae (by omega)];have bj:(rest.drop ns[i]).length=rest.length-ns[i]:=AlE;refine⟨⟨i+1,rest.drop ns[i],Cm ra ns[i] rc 1,rc-ns[i],aR++[q],gO,gP,gp,gq,by rw [bj],by omega,by simp [uu],by omega,by omega,hsr,λ q' kt=>?_,λ aC rows xs hP=>?_,?_⟩,?_⟩
   ·rcases Al8.1 kt with h | h
    ·exact cW q' h
    ·rw [List.mem_singleton.1 h,hq];exact⟨by show ls.length=r;omega,K,hg⟩
   ·obtain⟨hx,h1,h2⟩:=dI aC rows xs hP;refine⟨by rw [h2,h1,Amu],?_⟩;rw [rws,Alv,List.range_succ,Alv];have:=(aV aC rows xs hP).2;rw [rws] at this;rw [this];simp [hq,(gE aC rows xs hP).2]
   ·have S3:=S.drop 3;show ST w eK (Hq gO gP gp gq (aR++[q]));have e:(aR++[q]).reverse.map rdI=It.rd la (AP ls) :: aR.reverse.map rdI:=by
     rw [List.reverse_append,Alv,hq];rfl
    simp only [Hq];rw [e];exact S3.perm (List.perm_middle (l₁:=[It.cells eh #[.slice ca cs.length cc,.slice gO (aR++[q]).length gP,.slice gp (aR++[q]).length gq,.int .i64 (r:Int)] ty.G6,AfC gO gP (aR++[q]),AfH gp gq (aR++[q]),Iq na nc ns,CK ca cc cs,It.obj L oL,It.obj d (.deferred (some [])),It.cells bq #[.slice (Cm a (b.length-4) c 1) t.length (c-(b.length-4))] ty.AH,It.cells b2 #[.int .i64 (n:Int)] ty.int])).symm
   ·show ns.length-((i+1:Nat):Int).toNat<ns.length-((i:Nat):Int).toNat;simp only [Ale];omega
  have lg:Cz q=.slice la ls.length lc:=by rw [hq];rfl
  have xB:VQ q=(zC (Au ls:Int) (Ga ls)).toList:=by rw [hq];rfl
  refine⟨S.An λ x' gQ _ _ S=>⟨⟨S.cell 1 rfl rfl,S.cell 1 rfl rfl,S.cell 1 rfl rfl,S.cell 1 rfl rfl,S.cell 1 rfl rfl,S.cell 1 rfl rfl,S.cell 1 rfl rfl⟩,S.cell 3 rfl rfl,S.cell 3 rfl rfl,?_,?_⟩,S.An λ zi sM _ _ S=>⟨S.cell 3 rfl rfl,S.cell 3 rfl rfl,S.An λ zj ib _ _ S=>⟨S.cell 4 rfl rfl,S.cell 4 rfl rfl,?_⟩⟩⟩
  ·have je:Rd gQ (some ⟨x',0,none⟩) [Cz q]:=by rw [lg];exact S.GD 0 rfl
   refine Ac9 S 4 rfl je gz λ gO gP kE S=>⟨_,_,_,rfl,⟨S.cell 1 rfl rfl,S.cell 1 rfl rfl,S.cell 1 rfl rfl,S.cell 1 rfl rfl,S.cell 1 rfl rfl,S.cell 1 rfl rfl,S.cell 1 rfl rfl⟩,S.cell 3 rfl rfl,S.An λ zf lB _ _ S=>⟨S.cell 4 rfl rfl,?_⟩⟩;have eJ:Rd lB (some ⟨zf,0,none⟩) (VQ q):=by rw [xB];exact S.GD 0 rfl
   exact Ada S 6 rfl eJ gz λ gp gq oB S=>⟨_,_,_,rfl,fin oB _ _ _ gO gP gp gq S⟩
  ·refine S.An λ tK kG _ _ S=>⟨S.cell 4 rfl rfl,S.cell 4 rfl rfl,?_⟩;have je:Rd kG (some ⟨x',0,none⟩) [Cz q]:=by rw [lg];exact S.GD 1 rfl
   refine Ac9 S 5 rfl je gz λ gO gP cQ S=>⟨_,_,_,rfl,S.cell 4 rfl rfl,?_⟩;have eJ:Rd cQ (some ⟨tK,0,none⟩) (VQ q):=by rw [xB];exact S.GD 0 rfl
   exact Ada S 6 rfl eJ gz λ gp gq ia S=>⟨_,_,_,rfl,fin ia _ _ _ gO gP gp gq S⟩
  ·have je:Rd ib (some ⟨zj,0,none⟩) [Cz q]:=by rw [lg];exact S.GD 0 rfl
   refine Ac9 S 5 rfl je gz λ gO gP qy S=>⟨_,_,_,rfl,S.cell 4 rfl rfl,?_⟩;have eJ:Rd qy (some ⟨zi,0,none⟩) (VQ q):=by rw [xB];exact S.GD 1 rfl
   exact Ada S 6 rfl eJ gz λ gp gq kH S=>⟨_,_,_,rfl,fin kH _ _ _ gO gP gp gq S⟩
 ·have bF:i=ns.length:=by omega
  refine⟨S.get 6 rfl,?_⟩;have S:=S.put 6 rfl (.deferred none);refine⟨S.Ar,.inl ⟨⟨eh,0,none⟩,cs,aR,r,rfl,⟨⟨ca,cc,S.cell 0 rfl rfl,S.rd 4 rfl⟩,⟨va,vc,S.cell 0 rfl rfl,S.rd 1 rfl,λ q hq=>?_⟩,⟨za,zc,S.cell 0 rfl rfl,S.rd 2 rfl⟩,S.cell 0 rfl rfl,gD.2,by omega,hr24,cW⟩,λ aC rows xs hP=>?_⟩⟩
  ·have hm:rdI q∈aR.reverse.map rdI:=AkU.2 ⟨q,List.mem_reverse.2 hq,rfl⟩;exact S.ok (rdI q) (List.mem_of_mem_drop (i:=9) hm)
  ·obtain⟨h1,h2,h3,h4⟩:=key aC rows xs hP;refine⟨h1,h2,?_⟩;rw [(aV aC rows xs hP).2,bF,bn,h1]
end
def I7(l:List UInt8):Prop:=40<=l.length/\l.drop (l.length-32)=IE (l.take (l.length-32))
theorem FL.pre{cs:List BQ}{rows:List (List AB)}{l:List UInt8}(hs:Bv cs rows)(h:FL cs rows l):∃ xs,Eu cs rows xs (l.take (l.length-32))/\I7 l:=by
 obtain⟨xs,h1,h2,rfl⟩:=h.ex;have h8:8<=(KC cs rows xs).length:=(Eu.split ⟨hs,h2,h1,rfl⟩).1;obtain⟨dg,hdg⟩:∃ dg,dg=IE (KC cs rows xs):=⟨_,rfl⟩;have bj:dg.length=32:=by rw [hdg];exact FU _
 have e:(Mb (KC cs rows xs)).length-32=(KC cs rows xs).length:=by
  unfold Mb;rw [<- hdg,Alb,bj];omega
 have e2:(Mb (KC cs rows xs)).take ((Mb (KC cs rows xs)).length-32)=KC cs rows xs:=by
  rw [e];unfold Mb;rw [<- hdg,Ak6]
 refine⟨xs,⟨hs,h2,h1,e2⟩,?_,?_⟩
 ·unfold Mb;rw [<- hdg,Alb,bj];omega
 ·rw [e2,e];unfold Mb;rw [<- hdg,Amu,hdg]
theorem SK{cs:List BQ}{rows:List (List AB)}(h:∀ r∈rows,r.length=cs.length):rowsOf ((AlL cs.length).map (Bs rows)) rows.length=rows:=by
 refine AmH (by simp [rowsOf]) λ i h1 h2=>?_;simp only [rowsOf,List.getElem_map,List.getElem_range,rowAt,List.map_map];have hl:=h _ (AlS h2);refine AmH (by simp [hl]) λ j g1 g2=>?_;simp [Bs,AmK,h2,g2]
def AjC(l:List UInt8)(w w':World)(v:Value):Prop :=
 Below w.heap.size w w'/\((∃ g p cs aR n,v=.tuple #[.pointer (some g),.int .i64 0]/\w'.cell? g=some (.pointer (some p))/\KT w' p cs aR n/\Bv cs (rowsOf (rws aR) n)/\FL cs (rowsOf (rws aR) n) l /\
   ∀ aC rows',Bv aC rows'->FL aC rows' l->aC=cs/\rows'=rowsOf (rws aR) n/\n=rows'.length/\rws aR=(AlL aC.length).map (Bs rows')) \/
  (v=.tuple #[.pointer none,.int .i64 91]/\¬ I7 l)\/(v=.tuple #[.pointer none,.int .i64 90]/\I7 l/\∀ aC rows',Bv aC rows'->¬ FL aC rows' l))
theorem KT.grown{w w':World}{p:Addr}{cs:List BQ}{aR:List BF}{n:Nat}(h:KT w p cs aR n)(B:Below w.heap.size w w'):KT w' p cs aR n:=by
 have K:=Ai.AA (F:=λ _=>False) B;obtain⟨a0,c0,h1,h2⟩:=h.AM;obtain⟨a1,c1,h3,h4⟩:=h.Akg;obtain⟨a2,c2,h5,h6⟩:=h.Aki;exact⟨⟨a0,c0,K.cell h1 (by simp),h2.grown B⟩,⟨a1,c1,K.cell h3 (by simp),h4.grown B⟩,⟨a2,c2,K.cell h5 (by simp),h6.grown B⟩,K.cell h.many (by simp),h.right,h.len,h.small,h.each⟩
section
variable {w:World}
theorem TL(T:I5 w)(s:ByteArray)(hs:s.size<=140737488355328):Calls Tryz.prog f.Y3 #[.string s] w (AG λ v w'=>AjC (bl s) w w' v):=by
 apply R.OM
 delta R.A R.B R.Ajr R.Ix R.Cs R.D R.F R.H R.I R.J R.Ls R.N R.P R.Rs R.Rt R.S R.T R.W R.Y;try dsimp only [R.Ps]
 have au:=Bb s;obtain⟨l,hl⟩:∃ l,l=bl s:=⟨_,rfl⟩;rw [<- hl] at au;have aP:s.size<40->¬ I7 l:=λ h hd=>by have:=hd.1;omega
 rw [<- hl];refine Aa (λ h=>⟨.refl _ _,.inr (.inl ⟨rfl,aP (by omega)⟩)⟩) (λ pM=>?_);have mI:40<=l.length:=by omega
 refine CE CA s w λ b0 c0 cells e0 w1 bg B1 jQ aj jg dA=>?_;have dQ:Rd w1 (some ⟨b0,0,none⟩) (l.map Ag):=by
  have:=(Rd.Ak jQ).take s.size;rw [dA,<- hl] at this;exact this
 have eW:IntKind.i64.wrap ((s.size:Int)-32)=((l.length-32:Nat):Int):=by rw [wrap_i64 (by omega) (by omega)];omega
 refine⟨_,_,_,rfl,?_⟩;rw [eW];simp only [Ale,AmE];obtain⟨l1,dw⟩:∃ l1,l1=l.take (l.length-32):=⟨_,rfl⟩;have nM:l1.length=l.length-32:=by rw [dw,Al7];omega
 obtain⟨a1,ha1⟩:∃ a1,a1=Cm (some ⟨b0,0,none⟩) 0 c0 1:=⟨_,rfl⟩;have wJ:Rd w1 a1 (l1.map Ag):=by
  have h:=dQ.OY 0 (l.length-32) c0 1 (by omega);simp only [Alh,AmG,AmE] at h;rw [<- AlG,<- dw,<- ha1] at h;exact h
 rw [<- ha1,<- nM];have S:=Qp (ST.start w) B1 (a:=some ⟨b0,0,none⟩) (xs:=l.map Ag) ⟨dQ,λ k hk=>by cases hk;exact Nat.le_of_eq bg.symm⟩;refine⟨⟨by omega,by omega,by omega⟩,S.An λ b4 w2 _ B2 S=>?_⟩;have gm:Rd w2 (some ⟨b4,0,none⟩) ([(a1,c0,l1)].map Cc):=S.GD 0 rfl;have e2:BT [(a1,c0,l1)]=l1:=by simp [BT]
 refine (Lx (c:=1) (T.grown S.Ar) [(a1,c0,l1)] gm (by
   intro p hp;simp only [AkV,Amf,or_false] at hp;subst hp;exact wJ.grown B2) (by simp) (by rw [e2];omega)).mono ?_
 rw [e2];rintro _ w3 ⟨_,rfl,rfl,B3⟩;have S:=S.grown B3;have bj:(IE l1).length=32:=FU _;obtain⟨dg,hdg⟩:∃ dg,dg=IE l1:=⟨_,rfl⟩;rw [<- hdg] at bj ⊢;have jM:(dg.map Ag).length=32:=by rw [Alr];exact bj
 refine I4 dg bj ⟨rfl,S.An λ b7 w4 _ B4 S=>Ds jM (S.Er 0 rfl jM (Ge _) λ w5 S=>S.draw λ w6 _ S=>⟨⟨by omega,by omega,by omega⟩,⟨by omega,by omega,by omega⟩,?_⟩)⟩;have qW:Rd w6 (Cm (some ⟨b7,0,none⟩) 0 32 1) (dg.map Ag):=by
  have h:=(S.GD 0 rfl).OY 0 32 32 1 (by omega);have e:(AmI ((32-0)*1) (AmJ (0*1) (dg.map Ag)))=dg.map Ag:=by
   rw [Amg,AmG];exact AlK (by rw [Alr];omega)
  have h':Rd w6 (Cm (some ⟨b7,0,none⟩) 0 32 1) (AmI ((32-0)*1) (AmJ (0*1) (dg.map Ag))):=h;rwa [e] at h'
 refine Ax CA bj.symm qW ⟨_,rfl,?_⟩;have vA:s.extract l1.length s.size=BC (l.drop (l.length-32)):=by
  rw [extract_eq,<- hl,nM];congr 1;exact AlK (by rw [AlE];omega)
 rw [vA,A0];have jN:I7 l↔BC dg=BC (l.drop (l.length-32)):=by
  unfold I7;rw [<- dw,<- hdg];constructor
  ·intro h;rw [h.2]
  ·intro h;have:=congrArg bl h;rw [BN,BN] at this;exact⟨mI,this.symm⟩
 refine As (Aa (λ hd=>⟨⟨by omega,by omega,by omega⟩,?_⟩) (λ hd=>⟨S.Ar,.inr (.inl ⟨rfl,λ h=>hd (jN.1 h)⟩)⟩));have hD:=jN.2 hd;have wW:Rd w6 (some ⟨b0,0,none⟩) (l.map Ag):=S.ok (It.rd (some ⟨b0,0,none⟩) (l.map Ag)) (List.mem_of_mem_drop (i:=2) (by simp));have wU:Rd w6 a1 (l1.map Ag):=by
  have h:=wW.OY 0 (l.length-32) c0 1 (by omega);simp only [Alh,AmG,AmE] at h;rw [<- AlG,<- dw,<- ha1] at h;exact h
 refine (TM wU (by omega) (by omega) (by omega)).mono ?_;rintro _ w8 ⟨_,rfl,B8,hC⟩;have S:=S.grown B8;have no:(∀ aC rows' gR,¬ Eu aC rows' gR l1)->∀ aC rows',Bv aC rows'->¬ FL aC rows' l:=λ h aC rows' bS hI=>by
  obtain⟨xs,hP,_⟩:=hI.pre bS;rw [<- dw] at hP;exact h _ _ _ hP
 rcases hC with ⟨p,cs,aR,n,rfl,hA,hu⟩ | ⟨rfl,hno2⟩
 ·have iZ:∀ aC rows',Bv aC rows'->FL aC rows' l->aC=cs/\rows'=rowsOf (rws aR) n/\n=rows'.length/\rws aR=(AlL aC.length).map (Bs rows'):=λ aC rows' bS hI=>by
   obtain⟨xs,hP,_⟩:=hI.pre bS;rw [<- dw] at hP;obtain⟨h1,h2,h3⟩:=hu aC rows' xs hP;refine⟨h1.symm,?_,h2,h3⟩;rw [h3,h2,SK λ r hr=>bS.Vn hr]
  refine⟨_,_,rfl,As (CN (S.draw λ w9 B9 S=>?_))⟩;have rV:=hA.grown B9;obtain⟨ca,cc,gC,cG⟩:=rV.AM;obtain⟨va,vc,hv1,iH⟩:=rV.Akg;have bN:=A6 hA.right;have dX:=hA.small;refine⟨_,_,_,gC,(AiV rV.many hv1 iH (by omega) (by have:=hA.len;omega) (λ q hq=>(hA.each q hq).1)).mono ?_⟩;rintro _ bV ⟨_,rfl,bo,ps,rfl,bM,cL,uJ,bp⟩;have u5:=rV.grown bp;have S:=S.grown bp;have xN:=Ai.AA (F:=λ _=>False) bp;refine⟨_,_,_,rfl,xN.cell gC (by simp),?_⟩;have hW:=Jj (c:=cc) (c2:=n) (T.grown S.Ar) (cG.grown bp) (by omega) (λ c hc=>by have:=(Dr hA.right hc).2.2.2;omega) uJ (by omega) (by
   intro r hr v hv;rw [cL] at hr;obtain⟨i,hi,rfl⟩:=AkU.1 hr;obtain⟨dM,dv,rfl⟩:=AkU.1 hv;obtain⟨q,hq,rfl⟩:=AkU.1 dv;obtain⟨ku,k,hg⟩:=hA.each q hq;have aD:i<q.2.2.length:=by have:=List.mem_range.1 hi;omega
   have e:q.2.2.getD i Z0=q.2.2[i]:=by simp [AmK,aD]
   rw [e];exact hg.ok _ (AlS aD))
  rw [bM] at hW;refine hW.mono ?_;rintro _ aY ⟨_,rfl,hV,cF⟩;have S:=S.grown cF;have u6:=u5.grown cF;rw [cL] at hV;rcases hV with ⟨hnok,rfl,hE⟩ | ⟨aK,b,rfl,hI⟩
  ·refine⟨_,_,rfl,Ah (λ _=>⟨S.Ar,.inr (.inr ⟨rfl,hD,λ aC rows' bS hI=>?_⟩)⟩) (λ h=>absurd h hE)⟩;obtain⟨rfl,rfl,_⟩:=iZ aC rows' bS hI;exact hnok bS
  ·refine⟨_,_,rfl,Ah (λ h=>absurd rfl h) (λ _=>?_)⟩;rw [A0];refine As (Aa (λ he=>?_) (λ he=>⟨S.Ar,.inr (.inr ⟨rfl,hD,λ aC rows' bS kQ=>?_⟩)⟩))
   ·have jF:b=l:=by have:=congrArg bl he;rwa [BN,<- hl] at this
    subst jF;refine S.An λ ju bK _ ic S=>⟨S.Ar,.inl ⟨⟨ju,0,none⟩,p,cs,aR,n,rfl,S.cell 0 rfl rfl,u6.grown ic,aK,hI,iZ⟩⟩
   ·obtain⟨rfl,rfl,_⟩:=iZ aC rows' bS kQ;exact he (by rw [hI.one kQ,hl,EJ])
 ·exact⟨_,_,rfl,As (AV ⟨S.Ar,.inr (.inr ⟨rfl,hD,no hno2⟩)⟩)⟩
end
section
variable {w:World}{g p:Addr}{cs:List BQ}{aR:List BF}{n:Nat}
theorem AjZ(hg:w.cell? g=some (.pointer (some p))):Calls Tryz.prog f.ON #[.pointer (some g)] w (AG λ v w'=>v=.pointer (some p)/\w'=w):=by
 apply R.IW
 delta R.F R.Lp R.P;try dsimp only [R.Ps]
 exact AV ⟨_,hg,rfl,rfl⟩
theorem Adt(hg:w.cell? g=some (.pointer (some p)))(h:KT w p cs aR n):Calls Tryz.prog f.Me #[.pointer (some g)] w (AG λ v w'=>v=.int .i64 (n:Int)/\w'=w):=by
 apply R.HZ
 delta R.Ci R.Cp R.I R.P;try dsimp only [R.Ps]
 refine (AjZ hg).mono ?_;rintro _ w1 ⟨_,rfl,rfl,rfl⟩;have h':Calls Tryz.prog f.Mg #[.pointer (some p)] w1 (AG λ v w'=>v=.int .i64 (n:Int)/\w'=w1):=by
  apply R.H2
  delta R.F R.I R.Li;try dsimp only [R.Ps]
  exact AV ⟨_,h.many,rfl,rfl⟩
 refine⟨_,rfl,h'.mono ?_⟩;rintro _ w2 ⟨_,rfl,rfl,rfl⟩;exact⟨_,rfl,rfl,rfl⟩
end
theorem FL.len{cs:List BQ}{rows:List (List AB)}{b:List UInt8}(hs:Bv cs rows)(h:FL cs rows b):b.length<=40000000:=by
 obtain⟨xs,h1,h2,rfl⟩:=h.ex;have:=h2.AcG hs;have hd:=FU (KC cs rows xs);unfold Mb;rw [Alb,hd];omega
theorem WZ{f:Int->Value}{m:Nat}:∀(gr:List (List Int)) (cs:List Value),cs.length=gr.length*m->(∀ i (hi:i<gr.length),(cs.drop (i*m)).take m=gr[i].map f)->cs=gr.flatten.map f
 | [],cs,hl,_=>by
  have:cs=[]:=List.eq_nil_of_length_eq_zero (by simpa using hl);rw [this];rfl
 | z :: zs,cs,hl,h=>by
  have h0:=h 0 (by simp);simp only [Amg,AmG,List.getElem_cons_zero] at h0;have ih:=WZ (m:=m) zs (cs.drop m) (by rw [AlE,hl,Ald,Nat.add_mul];omega) (λ i hi=>by
   have:=h (i+1) (by simp;omega);rw [List.drop_drop];rw [show m+i*m=(i+1)*m by rw [Nat.add_mul];omega];exact this)
  rw [AmL,Alv,<- h0,<- ih,List.take_append_drop]
theorem VX{H:Type}{enc:TypeId × Value->H}{P:Program}{w:World}{base:Nat}{sp:Nat->Bool}{held:Bool}{fuel:Nat}{t e e2:TypeId}{n m:Nat}{k:IntKind}{cs:List Value}{gr:List (List Int)}{p:List MemPlace}
  (ht:P.underlying t=some (.array n e)) (he:P.underlying e=some (.array m e2)) (mq:P.underlying e2=some (.int k)) (cG:P.cellsOf e2=1) (mj:P.cellsOf e=m) (ke:P.cellsOf t=n*m)
  (h:DataW.trod enc P w base sp held fuel t cs=some (.agg (gr.map (Lib.tabData k)),p)):cs=gr.flatten.map λ z=>Value.int k z:=by
 cases fuel with
 | zero=>simp [DataW.trod] at h
 | succ fuel =>
  simp only [DataW.trod,ht,mj,ke] at h;split at h
  ·rename_i hl;obtain⟨xs,hm,hx⟩:=Amt.1 h;have bP:xs.map (·.1)=gr.map (Lib.tabData (H:=H) k):=by
    have:=congrArg AmM hx;simpa using this
   have dB:xs.length=n:=by simpa using Lib.mapM_length hm
   have xC:gr.length=n:=by
    have:=congrArg Amz bP;simp at this;omega
   refine WZ (m:=m) gr cs (by rw [hl,xC]) λ i hi=>?_;have cD:i<n:=by omega
   obtain⟨b,hb,hf⟩:=Lib.mapM_at hm i i (by simp [cD]);have h2:(xs.map (·.1))[i]?=some b.1:=by simp [hb]
   rw [bP,AmP,Al5 hi] at h2;have h3:b.1=Lib.tabData k gr[i]:=(Ami h2).symm;obtain⟨b1,b2⟩:=b;simp only at h3;subst h3;exact Lib.cells_of_tab he mq cG mj hf
  ·cases h
theorem Ad9{P:Program}{W:World}{name:String}{g:Nat}{cs:List Value}(hg:P.globalNamed name=some g)(h:W.var? P name=some cs.toArray):Rd W (some ⟨g,0,none⟩) cs:=by
 intro j v hv;refine⟨_,rfl,?_⟩;rw [Ay,Alg];have:=World.var?_cell hg h j;rw [this];simpa using hv
theorem Ad4{P:Program}{W:World}{name:String}{k:IntKind}{gr:List (List Int)}{g:Nat}{t e e2:TypeId}{n m:Nat}{rest:List (String × DataW Unit)}
  (hg:P.globalNamed name=some g) (wm:(P.globals[g]?).map (·.type)=some t) (ht:P.underlying t=some (.array n e)) (he:P.underlying e=some (.array m e2)) (mq:P.underlying e2=some (.int k)) (cG:P.cellsOf e2=1) (mj:P.cellsOf e=m) (ke:P.cellsOf t=n*m)
  (h:laidMet P ((name,.agg (gr.map (Lib.tabData k))) :: rest) W):Rd W (some ⟨g,0,none⟩) (gr.flatten.map λ z=>Value.int k z):=by
 obtain⟨ps,⟨g',t',cs,fuel,p,q,bC,ht',hvar,hd,_,_⟩,_⟩:=h;obtain rfl:=Ami (hg.symm.trans bC);obtain rfl:=Ami (wm.symm.trans ht');have e:=VX ht he mq cG mj ke hd;refine Ad9 hg ?_;rw [hvar,<- e]
theorem Ait{P:Program}{W:World}{name:String}{k:IntKind}{zs:List Int}{g:Nat}{t e:TypeId}{n:Nat}{rest:List (String × DataW Unit)}
  (hg:P.globalNamed name=some g) (wm:(P.globals[g]?).map (·.type)=some t) (ht:P.underlying t=some (.array n e)) (he:P.underlying e=some (.int k)) (mj:P.cellsOf e=1) (ke:P.cellsOf t=n)
  (h:laidMet P ((name,Lib.tabData k zs) :: rest) W):Rd W (some ⟨g,0,none⟩) (zs.map λ z=>Value.int k z):=Ad9 hg (Lib.tabIs_of_head hg wm ht he mj ke h)
theorem Aiu {W : World} {l : List (String × DataW Unit)} (h1 : (l.filter λ x => x.1 == "stackyard/hash.first") = [("stackyard/hash.first", Rows.laid_stackyard_hash_first)]) (h2 : (l.filter λ x => x.1 == "stackyard/hash.orders") = [("stackyard/hash.orders", Rows.laid_stackyard_hash_orders)])
  (h3 : (l.filter λ x => x.1 == "stackyard/hash.places") = [("stackyard/hash.places", Rows.laid_stackyard_hash_places)]) (h : laidMet Tryz.prog l W) : I5 W := by
 have g1 := h.filter λ x => x.1 == "stackyard/hash.first"
 have g2 := h.filter λ x => x.1 == "stackyard/hash.orders"
 have g3 := h.filter λ x => x.1 == "stackyard/hash.places"
 rw [h1] at g1;rw [h2] at g2;rw [h3] at g3;have e1:(Rows.laid_stackyard_hash_first:DataW Unit)=Lib.tabData .u32 (Ca.map λ x=>(x.toNat:Int)):=by rfl
 have e2:(Rows.laid_stackyard_hash_orders:DataW Unit)=.agg (((AlL 10).map LS).map (Lib.tabData .u8)):=by rfl
 have e3:(Rows.laid_stackyard_hash_places:DataW Unit)=.agg (((AlL 8).map λ i=>(HH.drop (i*4)).take 4).map (Lib.tabData .u8)):=by rfl
 rw [e1] at g1;rw [e2] at g2;rw [e3] at g3;have r1:=Ait (g:=0) (t:=216) (e:=184) (n:=8) (by kernel_rfl) (by kernel_rfl) (by kernel_rfl) (by kernel_rfl) (by kernel_rfl) (by kernel_rfl) g1;have r2:=Ad4 (g:=1) (t:=297) (e:=296) (e2:=5) (n:=10) (m:=16) (by kernel_rfl) (by kernel_rfl) (by kernel_rfl) (by kernel_rfl) (by kernel_rfl) (by kernel_rfl) (by kernel_rfl) (by kernel_rfl) g2;have r3:=Ad4 (g:=2) (t:=299) (e:=298) (e2:=5) (n:=8) (m:=4) (by kernel_rfl) (by kernel_rfl) (by kernel_rfl) (by kernel_rfl) (by kernel_rfl) (by kernel_rfl) (by kernel_rfl) (by kernel_rfl) g3;have q2:((AlL 10).map LS).flatten=T3:=by decide
 have q3:((AlL 8).map λ i=>(HH.drop (i*4)).take 4).flatten=HH:=by decide
 rw [q2] at r2;rw [q3] at r3;exact⟨by rw [List.map_map] at r1;exact r1,r2,r3⟩
end Go.Proofs.YtpnaifmmggnimaaGreatDoor
namespace Go.Proofs.YtpnaifmmggnimaaGreatDoor
open _root_.List renaming append_assoc -> Alc, drop_drop -> Amx, drop_eq_getElem_cons -> AmS, flatMap_cons -> Aml, length_append -> Alb, length_take -> Al7
open _root_.Option renaming bind_eq_some_iff -> AmR, map_eq_some_iff -> Amt
open _root_.Option.some renaming injEq -> Ams
open _root_.Prod.mk renaming injEq -> AkO
set_option maxRecDepth 100000
open Go.Dn Go.Proofs
set_option linter.unusedVariables false
structure Seg(l:List UInt8)(a b:Nat)(x:List UInt8):Prop where
 le:b<=l.length
 eq:l.drop a=x++l.drop b
 len:b=a+x.length
theorem Seg.nil{l:List UInt8}{a:Nat}(h:a<=l.length):Seg l a a []:=⟨h,rfl,rfl⟩
theorem Seg.append{l x y:List UInt8}{a b c:Nat}(h:Seg l a b x)(h':Seg l b c y):Seg l a c (x++y) :=
 ⟨h'.le,by rw [h.eq,h'.eq,Alc],by rw [h'.len,h.len,Alb];omega⟩
theorem R0{l:List UInt8}{a n b:Nat}(h:takeN l (a:Int)=some (n,b)):Seg l a b (Af n):=by
 have hb:=Az h;unfold takeN at h;rw [if_neg (by omega),Int.toNat_natCast] at h;obtain⟨x,hx,he⟩:=Amt.1 h;obtain⟨n',k⟩:=x;simp only [AkO] at he;obtain⟨rfl,rfl⟩:=he;obtain⟨m,e1,e2,e3,_⟩:=Va _ _ _ _ _ hx;simp only [Nat.pow_zero,Nat.mul_one,Nat.zero_add] at e1 e2;subst e1;subst e2;refine⟨hb.2.2.2.1,?_,rfl⟩
 conv=>lhs;rw [e3]
 rw [Amx]
theorem Agf{l:List UInt8}{k n:Nat}(h:n<=l.length-k)(hk:k<=l.length):Seg l k (k+n) ((l.drop k).take n):=by
 refine⟨by omega,?_,by rw [Al7,List.length_drop];omega⟩;rw [<- Amx,List.take_append_drop]
theorem R9{l:List UInt8}{a most k:Nat}{s:List UInt8}(h:BD l (a:Int) most=some (s,k)):Seg l a k (BA (BC s))/\s.length<=most/\s.length<=1048576:=by
 unfold BD at h;cases hn:takeN l (a:Int) with
 | none=>rw [hn] at h;cases h
 | some x =>
  obtain⟨n,p⟩:=x;rw [hn] at h;simp only at h;split at h
  ·cases h
  ·rename_i aP;simp only [Ams,AkO] at h;obtain⟨rfl,rfl⟩:=h;have h1:=R0 hn;have h2:=Agf (l:=l) (k:=p) (n:=n) (by omega) h1.le;have e:((l.drop p).take n).length=n:=by rw [Al7,List.length_drop];omega
   refine⟨?_,by omega,by omega⟩;have:=h1.append h2;unfold BA;rw [BN,A1,e];exact this
theorem Aiv{l:List UInt8}{k:Nat}(h:2<=l.length-k):Seg l k (k+2) [l.getD k 0,l.getD (k+1) 0]:=by
 refine⟨by omega,?_,rfl⟩;have h1:k<l.length:=by omega
 have h2:k+1<l.length:=by omega
 rw [AmS h1,AmS h2];simp [List.getD,h1,h2]
theorem Qr:∀(n:Nat) {l:List UInt8} {a k:Nat} {cs:List BQ},a<=l.length->Bc l a n=some (cs,k)->Seg l a k (cs.flatMap Jx)/\cs.length=n
 | 0,l,a,k,cs,ha,h=>by
  simp only [Bc,Ams,AkO] at h;obtain⟨rfl,rfl⟩:=h;exact⟨.nil ha,rfl⟩
 | n+1,l,a,k,cs,ha,h=>by
  unfold Bc at h;cases ht:BD l (a:Int) 24 with
  | none=>rw [ht] at h;cases h
  | some x =>
   obtain⟨s,p⟩:=x;rw [ht] at h;simp only at h;split at h
   ·cases h
   ·rename_i aP;obtain⟨r,hr,he⟩:=Amt.1 h;obtain⟨rs,q⟩:=r;simp only [AkO] at he;obtain⟨rfl,rfl⟩:=he;have h1:=(R9 ht).1;have h2:=Aiv (l:=l) (k:=p) (by omega);obtain⟨h3,h4⟩:=Qr n (by omega) hr;refine⟨?_,by simp [h4]⟩;have:=(h1.append h2).append h3;have e1:UInt8.ofNat ((l.getD p 0).toNat:Int).toNat=l.getD p 0:=by simp
    have e2:Ja ((l.getD (p+1) 0).toNat==1)=l.getD (p+1) 0:=by
     have hle:(l.getD (p+1) 0).toNat<=1:=by omega
     generalize l.getD (p+1) 0=u at hle ⊢;have hu:u=UInt8.ofNat u.toNat:=by simp
     rcases Nat.le_one_iff_eq_zero_or_eq_one.1 hle with h | h <;> rw [h] at hu <;> subst hu <;> rfl
    rw [Aml];unfold Jx;simp only;rw [e1,e2];exact this
theorem Abz{l:List UInt8}{a k:Nat}{cs:List BQ}(h:Bj l (a:Int)=some (cs,k)):Seg l a k (CF cs)/\Ap cs=true:=by
 unfold Bj at h;cases hn:takeN l (a:Int) with
 | none=>rw [hn] at h;cases h
 | some x =>
  obtain⟨n,p⟩:=x;rw [hn] at h;simp only at h;split at h
  ·cases h
  ·cases hc:Bc l p n with
   | none=>rw [hc] at h;cases h
   | some y =>
    obtain⟨aC,q⟩:=y;rw [hc] at h;simp only at h;split at h
    ·rename_i hR;simp only [Ams,AkO] at h;obtain⟨rfl,rfl⟩:=h;have h1:=R0 hn;obtain⟨h2,h3⟩:=Qr n h1.le hc;refine⟨?_,hR⟩;unfold CF;rw [h3];exact h1.append h2
    ·cases h
def Cw:Nat:=4611686018427387904
def Oa(l:List UInt8)(lo hi at_:Nat):Option (Nat × Nat):=(takeN l (at_:Int)).bind λ x=>if lo<=x.1/\x.1<=hi then some x else none
def Sw(l:List UInt8)(at_:Nat):Option (ByteArray × Nat):=(BD l (at_:Int) 64).bind λ x=>if x.1.length=64 then some (BC x.1,x.2) else none
abbrev H8:=ByteArray × Nat
abbrev I1:=Nat × Nat × Nat × Nat
def Dy{α:Type}(rd:Nat->Option (α × Nat)):Nat->Nat->Option (List α × Nat)
 | 0,at_=>some ([],at_)
 | n+1,at_=>(Dy rd n at_).bind λ r=>(rd r.2).map λ x=>(r.1++[x.1],x.2)
structure VT where
 AM:List BQ
 parts:List H8
 Dw:List I1
def AjE(p:H8):Prop:=p.1.size=64/\1<=p.2/\p.2<=1024
def Aju(c:I1):Prop:=c.1<=Cw/\(1<=c.2.1/\c.2.1<=Cw)/\c.2.2.1<=1000/\c.2.2.2<=Cw
theorem HP{l:List UInt8}{lo hi a n b:Nat}(h:Oa l lo hi a=some (n,b)):Seg l a b (Af n)/\lo<=n/\n<=hi:=by
 unfold Oa at h;obtain⟨x,hx,h⟩:=AmR.1 h;split at h
 ·rename_i hc;cases h;exact⟨R0 hx,hc⟩
 ·cases h
theorem Vm{cs:List BQ}(h:Ap cs=true):cs≠[]:=by
 intro e;have:=A6 h;rw [e] at this;simp at this
def mapOf(k:List I1)(i:Nat):Option (Nat × Nat × Nat):=(k.reverse.find? λ c=>decide (c.1=i)).map (·.2)
theorem NZ(k:List I1)(c:I1)(i:Nat):mapOf (k++[c]) i=if i=c.1 then some c.2 else mapOf k i:=by
 unfold mapOf;rw [List.reverse_append];simp only [List.reverse_cons,List.reverse_nil,List.nil_append,List.cons_append,List.find?_cons];by_cases h:i=c.1
 ·subst h;simp
 ·have aQ:¬ c.1=i:=λ e=>h e.symm;simp [h,aQ]
theorem Ae2{k:List I1}{i:Nat}{x:Nat × Nat × Nat}(h:mapOf k i=some x):(i,x)∈k:=by
 unfold mapOf at h;obtain⟨c,hc,rfl⟩:=Amt.1 h;have h1:=List.find?_some hc;have h2:=List.mem_of_find?_eq_some hc;simp only [decide_eq_true_eq] at h1;subst h1;exact List.mem_reverse.1 h2
theorem HN{k:List I1}{i:Nat}:(mapOf k i).isSome=true↔i∈k.map (·.1):=by
 constructor
 ·intro h;obtain⟨x,hx⟩:=Option.isSome_iff_exists.1 h;exact List.mem_map.2 ⟨_,Ae2 hx,rfl⟩
 ·intro h;obtain⟨c,hc,rfl⟩:=List.mem_map.1 h;unfold mapOf;rw [Option.isSome_map,List.find?_isSome];exact⟨c,List.mem_reverse.2 hc,by simp⟩
theorem Adg{l:List UInt8}{at_:Int}{v:AB}{k:Nat}(h:Bi l at_=some (v,k)):BL v:=by
 unfold Bi at h;split at h
 ·cases h
 ·simp only at h;split at h
  ·cases h;exact⟨by decide,by decide⟩
  ·split at h
   ·obtain⟨x,hx,he⟩:=Amt.1 h;have:=Az (n:=x.1) (k:=x.2) hx;have hr:=GQ this.1;cases he;exact⟨hr.1,hr.2⟩
   ·split at h
    ·split at h
     ·rename_i h2;cases h;exact⟨by simp only;omega,by simp only;omega⟩
     ·cases h
    ·split at h
     ·obtain⟨x,hx,he⟩:=Amt.1 h;cases he;exact⟨by simp only;omega,by simp only;omega⟩
     ·cases h
theorem Gj{α:Type}{rd:Nat->Option (α × Nat)}{a i:Nat}(h:Dy rd i a=none):∀ {n:Nat},i<=n->Dy rd n a=none:=by
 intro n hn;obtain⟨d,rfl⟩:=Nat.exists_eq_add_of_le hn;clear hn
 induction d with
 | zero=>exact h
 | succ d ih=>rw [Nat.add_succ];unfold Dy;rw [ih];rfl
theorem Dh{α:Type}{rd:Nat->Option (α × Nat)}{a i b:Nat}{xs:List α}(h:Dy rd i a=some (xs,b)):Dy rd (i+1) a=(rd b).map λ x=>(xs++[x.1],x.2):=by
 show (Dy rd i a).bind _=_;rw [h];rfl
theorem Rj{α:Type}{rd:Nat->Option (α × Nat)}:∀(n:Nat) {a b:Nat} {xs:List α},Dy rd n a=some (xs,b)->xs.length=n
 | 0,a,b,xs,h=>by
  simp only [Dy,Ams,AkO] at h;rw [<- h.1];rfl
 | n+1,a,b,xs,h=>by
  unfold Dy at h;obtain⟨r,h1,h⟩:=AmR.1 h;obtain⟨x,h2,h⟩:=Amt.1 h;simp only [AkO] at h;rw [<- h.1,Alb,Rj n h1];rfl
theorem Rh{α:Type}{rd:Nat->Option (α × Nat)}{Q:α->Nat->Prop}(hr:∀ a x b,rd a=some (x,b)->Q x b) :
  ∀(n:Nat) {a b:Nat} {xs:List α},Dy rd n a=some (xs,b)->(∀ x∈xs,∃ k,Q x k)/\(n=0/\b=a\/∃ x,Q x b)
 | 0,a,b,xs,h=>by
  simp only [Dy,Ams,AkO] at h;obtain⟨rfl,rfl⟩:=h;exact⟨by simp,.inl ⟨rfl,rfl⟩⟩
 | n+1,a,b,xs,h=>by
  unfold Dy at h;obtain⟨r,h1,h⟩:=AmR.1 h;obtain⟨x,h2,h⟩:=Amt.1 h;simp only [AkO] at h;obtain⟨rfl,rfl⟩:=h;refine⟨λ y hy=>?_,.inr ⟨x.1,hr _ _ _ h2⟩⟩;rcases List.mem_append.1 hy with hy | hy
  ·exact (Rh hr n h1).1 y hy
  ·rw [List.mem_singleton.1 hy];exact⟨_,hr _ _ _ h2⟩
theorem Pq{l x r:List UInt8}{a:Nat}(h:l.drop a=x++r):l.drop (a+x.length)=r:=by
 rw [<- Amx,h,List.drop_left]
theorem U3{α:Type}{l:List UInt8}{rd:Nat->Option (α × Nat)}{enc:α->List UInt8}{xs:List α}{a:Nat}{r:List UInt8}(hr:∀ x∈xs,∀ b r,l.drop b=enc x++r->rd b=some (x,b+(enc x).length))(h:l.drop a=xs.flatMap enc++r) :
  Dy rd xs.length a=some (xs,a+(xs.flatMap enc).length):=by
 have key:∀ k,k<=xs.length->Dy rd k a=some (xs.take k,a+((xs.take k).flatMap enc).length):=by
  intro k
  induction k with
  | zero=>intro _;simp [Dy]
  | succ k ih =>
   intro hk;have dV:k<xs.length:=hk;rw [Dh (ih (by omega))];have e:l.drop a=(xs.take k).flatMap enc++(enc xs[k]++((xs.drop (k+1)).flatMap enc++r)):=by
    rw [h]
    conv=>lhs;rw [<- List.take_append_drop k xs,AmS dV,List.flatMap_append,Aml]
    simp only [Alc]
   rw [hr _ (List.getElem_mem dV) _ _ (Pq e)];rw [List.take_succ_eq_append_getElem dV,List.flatMap_append];simp only [Option.map_some,Aml,List.flatMap_nil,List.append_nil,Alb];rw [Nat.add_assoc]
 have:=key xs.length (Nat.le_refl _);rwa [List.take_length] at this
def J1(r:List AB):List UInt8:=r.flatMap CC
def FX(rows:List (List AB)):List UInt8:=Af rows.length++rows.flatMap J1
def RU(l:List UInt8)(cs:List BQ)(at_:Nat):Option (List AB × Nat):=(Dy (λ a=>Bi l (a:Int)) cs.length at_).bind λ r=>if C8 cs r.1 then some r else none
def Bf(l:List UInt8)(cs:List BQ)(at_:Int):Option (List (List AB) × Nat) :=
 if Ap cs then (takeN l at_).bind λ n=>if n.1<=1024 then Dy (RU l cs) n.1 n.2 else none else none
theorem Mn{l:List UInt8}{cs:List BQ}{at_:Int}{rows:List (List AB)}{k:Nat}(h:Bf l cs at_=some (rows,k)):Bv cs rows/\k<=l.length:=by
 unfold Bf at h;split at h
 ·rename_i hR;obtain⟨n,hn,h⟩:=AmR.1 h;split at h
  ·rename_i h4;have hb:=Az (n:=n.1) (k:=n.2) hn;have hl:=Rj _ h;have h5:=Rh (Q:=λ r b=>C8 cs r=true/\(∀ v∈r,BL v)/\b<=l.length) (λ a x b hx=>by
    unfold RU at hx;obtain⟨y,hy,hx⟩:=AmR.1 hx;split at hx
    ·rename_i hf;cases hx;have h6:=Rh (Q:=λ v b=>BL v/\b<=l.length) (λ a x b hx=>⟨Adg hx,AbA hx⟩) _ hy;refine⟨hf,λ v hv=>?_,?_⟩
     ·obtain⟨_,h7,_⟩:=h6.1 v hv;exact h7
     ·rcases h6.2 with ⟨h8,_⟩ | ⟨_,_,h8⟩
      ·have:=(A6 hR).1;omega
      ·exact h8
    ·cases hx) _ h
   refine⟨⟨hR,by omega,λ r hr=>?_,λ r hr=>?_⟩,?_⟩
   ·obtain⟨_,h6,_⟩:=h5.1 r hr;exact h6
   ·obtain⟨_,_,h6,_⟩:=h5.1 r hr;exact h6
   ·rcases h5.2 with ⟨_,h6⟩ | ⟨_,_,_,h6⟩
    ·omega
    ·exact h6
  ·cases h
 ·cases h
theorem Wx{l r:List UInt8}{cs:List BQ}{rows:List (List AB)}{at_:Nat}(hs:Bv cs rows)(h:l.drop at_=FX rows++r):Bf l cs (at_:Int)=some (rows,at_+(FX rows).length):=by
 unfold Bf;have hlen:=hs.len;unfold FX at h ⊢;rw [Alc] at h;rw [if_pos hs.right,Cd (by omega) h,Option.bind_some,if_pos hlen];simp only;rw [U3 (enc:=J1) (r:=r) (λ x hx b r' hb=>?_) (Pq h)]
 ·rw [Alb,Nat.add_assoc]
 ·unfold RU;have hf:=hs.fits x hx;have hl:=I9 hf;rw [<- hl,U3 (enc:=CC) (r:=r') (λ v hv b2 r2 h2=>?_) hb]
  ·rw [Option.bind_some,if_pos hf];rfl
  ·refine OS ?_ (hs.ok x hx v hv) h2;obtain⟨i,hi,rfl⟩:=List.mem_iff_getElem.1 hv;have:=TX hf (by omega) hi;simp only [GW,Bool.and_eq_true] at this;exact this.1
theorem T9{cs:List BQ}{rows:List (List AB)}(hs:Bv cs rows){r:List AB}(hr:r∈rows):(J1 r).length<=16640:=by
 have hf:=hs.fits r hr;have hl:=I9 hf;have gU:=(A6 hs.right).2;have key:∀(r':List AB),(∀ v∈r',AK v=true/\BL v)->(J1 r').length<=r'.length*1040:=by
  intro r'
  induction r' with
  | nil=>intro _;simp [J1]
  | cons v r' ih =>
   intro h;have h1:=HM (h v (by simp)).1 (h v (by simp)).2;have h2:=ih (λ x hx=>h x (by simp [hx]));unfold J1 at h2 ⊢;rw [Aml,Alb,List.length_cons];omega
 have:=key r λ v hv=>by
  obtain⟨i,hi,rfl⟩:=List.mem_iff_getElem.1 hv;have:=TX hf (by omega) hi;simp only [GW,Bool.and_eq_true] at this;exact⟨this.1,hs.ok r hr _ (List.getElem_mem hi)⟩
 have:r.length*1040<=16*1040:=Nat.mul_le_mul_right _ (by omega);omega
theorem Xt{cs:List BQ}{rows:List (List AB)}(hs:Bv cs rows){i:Nat}:((rows.take i).flatMap J1).length<=17039360:=by
 have key:∀(rs:List (List AB)),(∀ r∈rs,(J1 r).length<=16640)->(rs.flatMap J1).length<=rs.length*16640:=by
  intro rs
  induction rs with
  | nil=>intro _;simp
  | cons r rs ih =>
   intro h;have h1:=h r (by simp);have h2:=ih (λ x hx=>h x (by simp [hx]));rw [Aml,Alb,List.length_cons];omega
 have h1:=key (rows.take i) λ r hr=>T9 hs (List.mem_of_mem_take hr);have h2:=hs.len;have h3:(rows.take i).length<=1024:=by rw [Al7];omega
 omega
end Go.Proofs.YtpnaifmmggnimaaGreatDoor
namespace Go.Proofs.YtpnaifmmggnimaaGreatDoor
open _root_.Int renaming toNat_natCast -> Ale
open _root_.List renaming mem_cons -> AkV, not_mem_nil -> Amf
open _root_.Nat renaming le_trans -> Als
set_option maxRecDepth 100000
open Go.Dn Go.Proofs
open Go.RowKit (Below)
set_option linter.unusedVariables false
def EV(b:Nat)(a:Option Addr)(n c at_:Nat)(bad:Bool):It:=It.cells b #[.slice a n c,.int .i64 (at_:Int),.bool bad] ty.Lg
def Sf{α:Type}(bad aX:Bool)(o:Option α)(x:α):Prop:=(aX=false/\bad=false/\o=some x)\/(aX=true/\(bad=true\/o=none))
theorem Sf.bind{α β:Type}{b0 b1 b2:Bool}{o:Option α}{x:α}{g:α->Option β}{y:β}(h:Sf b0 b1 o x)(h2:Sf b1 b2 (g x) y):Sf b0 b2 (o.bind g) y:=by
 rcases h2 with ⟨h3,h4,h5⟩ | ⟨h3,h4⟩
 ·subst h4;rcases h with ⟨_,h6,rfl⟩ | ⟨h6,_⟩
  ·exact .inl ⟨h3,h6,h5⟩
  ·cases h6
 ·refine .inr ⟨h3,?_⟩;rcases h with ⟨h5,_,rfl⟩ | ⟨_,h5 | h5⟩
  ·rcases h4 with h4 | h4
   ·rw [h5] at h4;cases h4
   ·exact .inr h4
  ·exact .inl h5
  ·exact .inr (by rw [h5];rfl)
theorem Sf.map{α β:Type}{b0 b1:Bool}{o:Option α}{x:α}(g:α->β)(h:Sf b0 b1 o x):Sf b0 b1 (o.map g) (g x):=by
 rcases h with ⟨h1,h2,rfl⟩ | ⟨h1,h2⟩
 ·exact .inl ⟨h1,h2,rfl⟩
 ·exact .inr ⟨h1,h2.imp id λ h=>by rw [h];rfl⟩
theorem Sf.ok{α:Type}{bad:Bool}{o:Option α}{x:α}(h:Sf bad false o x):bad=false/\o=some x:=by
 rcases h with ⟨_,h1,h2⟩ | ⟨h,_⟩
 ·exact⟨h1,h2⟩
 ·cases h
theorem Sf.no{α:Type}{bad:Bool}{o:Option α}{x:α}(h:Sf bad true o x):bad=true\/o=none:=by
 rcases h with ⟨h,_⟩ | ⟨_,h⟩
 ·cases h
 ·exact h
section
variable {w0 w:World}{H:List It}{b:Nat}{a:Option Addr}{c at_:Nat}{bad:Bool}{l:List UInt8}
theorem OG(S:ST w0 w H)(n m:Nat)(hn:H[n]?=some (EV b a l.length c at_ bad))(hm:H[m]?=some (It.rd a (l.map Ag)))(hc:l.length<=c)(hs:l.length<=140737488355328)(lo hi:Nat)(hhi:hi<=Cw) :
  Calls Tryz.prog f.Ku #[.pointer (some ⟨b,0,none⟩),.int .i64 (lo:Int),.int .i64 (hi:Int)] w (AG λ v w'=>∃(z at':Nat) (aX:Bool),v=.int .i64 (z:Int)/\ST w0 w' (H.set n (EV b a l.length c at' aX))/\Sf bad aX (Oa l lo hi at_) (z,at')/\(aX=true->z=0)):=by
 apply R.Hh
 delta R.Bu R.D R.F R.G R.I R.Lb R.Li R.Ls R.S R.Am R.W;try dsimp only [R.Ps]
 refine S.draw λ w1 B1 S=>?_;refine⟨_,_,_,S.cell n hn rfl,_,S.cell n hn rfl,?_⟩;refine (AL (S.get m hm) hc (by omega) (at_:Int)).mono ?_;rintro _ w2 ⟨_,rfl,rfl,rfl⟩;obtain⟨n0,k0,e0,hv,hk,ct,hx⟩:=Ec _ (rfl:takeN l (at_:Int)=takeN l (at_:Int));rw [hv];refine⟨_,_,_,rfl,_,S.cell n hn rfl,?_⟩;have fail:(bad=true\/Oa l lo hi at_=none)->DY (Addr.add ⟨b,0,none⟩ 2) (.bool true) (λ w'=>∃(z at':Nat) (aX:Bool),Value.int .i64 0=.int .i64 (z:Int)/\ST w0 w' (H.set n (EV b a l.length c at' aX))/\Sf bad aX (Oa l lo hi at_) (z,at')/\(aX=true->z=0)) w2:=λ h =>
  S.BP n hn (i:=2) (aC:=#[.slice a l.length c,.int .i64 (at_:Int),.bool true]) (by simp) rfl λ w3 S=>⟨0,at_,true,rfl,S,.inr ⟨rfl,h⟩,λ _=>rfl⟩
 refine Aq (λ hb=>fail (.inl hb)) (λ hb=>?_);subst hb;refine Ah (λ h=>fail (.inr ?_)) (λ h=>?_)
 ·rcases hx with ⟨h2,_⟩ | ⟨_,h2⟩
  ·exact absurd h2 h
  ·simp [Oa,h2]
 have qk:takeN l (at_:Int)=some (n0,k0):=by
  rcases hx with ⟨_,h2⟩ | ⟨h2,_⟩
  ·exact h2
  ·exact absurd h h2
 have hR:Oa l lo hi at_=if lo<=n0/\n0<=hi then some (n0,k0) else none:=by simp [Oa,qk]
 unfold Cw at hhi;refine Aa (λ h=>fail (.inr ?_)) (λ h1=>?_)
 ·rw [hR,if_neg (by omega)]
 rw [wrap_i64 (by omega) (by omega)];refine Aa (λ h=>fail (.inr ?_)) (λ h2=>Aa (λ h=>fail (.inr ?_)) (λ h3=>?_))
 ·rw [hR,if_neg (by omega)]
 ·rw [hR,if_neg (by omega)]
 rw [if_pos (by omega)] at hR;exact S.BP n hn (i:=1) (aC:=#[.slice a l.length c,.int .i64 (k0:Int),.bool false]) (by simp) rfl λ w3 S=>⟨n0,k0,false,rfl,S,.inl ⟨rfl,rfl,hR⟩,λ h=>by cases h⟩
theorem Vo(S:ST w0 w H)(n m:Nat)(hn:H[n]?=some (EV b a l.length c at_ bad))(hm:H[m]?=some (It.rd a (l.map Ag)))(hc:l.length<=c)(hs:l.length<=140737488355328) :
  Calls Tryz.prog f.Kv #[.pointer (some ⟨b,0,none⟩)] w (AG λ v w'=>∃(ca:Option Addr) (cc:Nat) (cs:List BQ) (at':Nat) (aX:Bool),v=.slice ca cs.length cc/\ST w0 w' (CK ca cc cs :: H.set n (EV b a l.length c at' aX))/\Sf bad aX (Bj l (at_:Int)) (cs,at')/\(aX=true->ca=none/\cs=[])):=by
 apply R.Hi
 delta R.Ik R.D R.F R.G R.I R.Lb R.Li R.Ls R.O R.S R.Am;try dsimp only [R.Ps]
 refine S.draw λ w1 B1 S=>?_;refine⟨_,_,_,S.cell n hn rfl,_,S.cell n hn rfl,?_⟩;refine (Ma (S.get m hm) hc (by omega) (at_:Int)).mono ?_;rintro _ w2 ⟨_,rfl,hx⟩;have fail:∀ {wx:World},ST w0 wx H->(bad=true\/Bj l (at_:Int)=none)->DY (Addr.add ⟨b,0,none⟩ 2) (.bool true) (λ w'=>∃(ca:Option Addr) (cc:Nat) (cs:List BQ) (at':Nat) (aX:Bool),Value.slice none 0 0=.slice ca cs.length cc/\ST w0 w' (CK ca cc cs :: H.set n (EV b a l.length c at' aX))/\Sf bad aX (Bj l (at_:Int)) (cs,at')/\(aX=true->ca=none/\cs=[])) wx:=λ S h =>
  S.BP n hn (i:=2) (aC:=#[.slice a l.length c,.int .i64 (at_:Int),.bool true]) (by simp) rfl λ w3 S=>⟨none,0,[],at_,true,rfl,S.nil _ _,.inr ⟨rfl,h⟩,λ _=>⟨rfl,rfl⟩⟩
 cases ho:Bj l (at_:Int) with
 | none =>
  rw [ho] at hx fail;obtain⟨rfl,B⟩:=hx;have S:=S.grown B;exact⟨_,_,_,_,_,rfl,_,S.cell n hn rfl,Aq (λ hb=>fail S (.inl hb)) (λ hb=>Ah (λ h=>fail S (.inr rfl)) (λ h=>by cases h))⟩
 | some x =>
  rw [ho] at hx fail;obtain⟨a',c',rfl,T⟩:=hx;have cm:([CK a' c' x.1]++H)[n+1]?=some (EV b a l.length c at_ bad):=by simpa using hn
  have S:=S.join T;refine⟨_,_,_,_,_,rfl,_,S.cell (n+1) cm rfl,?_⟩;refine Aq (λ hb=>fail (S.drop 1) (.inl hb)) (λ hb=>?_);subst hb;exact Ah (λ h=>absurd rfl h) (λ h=>S.BP (n+1) cm (i:=1) (aC:=#[.slice a l.length c,.int .i64 (x.2:Int),.bool false]) (by simp) rfl λ w3 S=>⟨a',c',x.1,x.2,false,rfl,S,.inl ⟨rfl,rfl,rfl⟩,λ h=>by cases h⟩)
theorem Afv(S:ST w0 w H)(n:Nat)(hn:H[n]?=some (EV b a l.length c at_ bad)) :
  Calls Tryz.prog f.Lh #[.pointer (some ⟨b,0,none⟩)] w (AG λ v w'=>v=.bool (!bad && decide (at_=l.length))/\ST w0 w' H):=by
 apply R.HF
 delta R.D R.F R.G R.Lb R.Li R.Ls;try dsimp only [R.Ps]
 refine S.draw λ w1 B1 S=>⟨_,S.cell n hn rfl,?_⟩;refine As (Aq (λ hb=>?_) (λ hb=>?_))
 ·subst hb;exact⟨rfl,S⟩
 ·subst hb;refine⟨_,S.cell n hn rfl,_,_,_,S.cell n hn rfl,?_,S⟩;congr 1;rw [Bool.not_false,Bool.true_and];by_cases h:at_=l.length
  ·simp [h]
  ·have:¬ (at_:Int)=(l.length:Int):=by omega
   simp [h,this]
end
section
variable {w:World}{g p:Addr}{cs:List BQ}{aR:List BF}{n:Nat}
theorem Yz{α:Type}{f:α->List Value}{k:Nat}(hf:∀ x,(f x).length=k+1){xs:List α}(h:Rd w none (xs.flatMap f)):xs=[]:=by
 cases xs with
 | nil=>rfl
 | cons x xs =>
  have hx:=hf x;cases yB:f x with
  | nil=>rw [yB] at hx;simp at hx
  | cons v vs =>
   obtain⟨p,hp,_⟩:=h 0 v (by simp [yB]);cases hp
theorem RV{b:Nat}{t:TypeId}{sz:Nat}(h:w.heap[b]?=some (.cells #[] t (0,0))):Row w t sz (some ⟨b,0,none⟩) 0 0 [] :=
 ⟨by simp,.inr ⟨b,#[],rfl,h,by omega,by omega,by simp,by simp⟩⟩
theorem Akh(vs:List AB):∀ u∈AP vs,u.oneCell'=true:=by
 intro u hu;obtain⟨v,_,hv⟩:=List.mem_flatMap.1 hu;simp only [H6,AkV,Amf,or_false] at hv;rcases hv with rfl | rfl | rfl <;> rfl
theorem Agb(vs:List BQ):∀ u∈BM vs,u.oneCell'=true:=by
 intro u hu;obtain⟨v,_,hv⟩:=List.mem_flatMap.1 hu;simp only [V3,AkV,Amf,or_false] at hv;rcases hv with rfl | rfl | rfl <;> rfl
theorem Aed{a:Option Addr}{c:Nat}{vs:List BQ}(h:Rd w a (BM vs))(hl:vs.length<=100000):Calls Tryz.prog f.Fz #[.slice a vs.length c] w (AG λ v w'=>∃ a' c',v=.slice a' vs.length c'/\ST w w' [CK a' c' vs]):=by
 apply R.Eo
 delta R.F R.J R.Ks R.N R.O R.S;try dsimp only [R.Ps]
 cases a with
 | none =>
  have:=Yz (k:=2) (λ _=>rfl) h;subst this;exact CN ⟨none,0,rfl,(ST.start w).nil _ _⟩
 | some q =>
  refine AV ((ST.start w).An λ b2 w1 _ B1 S=>?_);have S:=S.I2 0 rfl (.refl _ _) (It.row ty.Dg 3 (some ⟨b2,0,none⟩) 0 0 []) (RV (S.CJ 0 rfl)) (λ k hk=>.inl hk);refine S.app 0 rfl AiJ rfl (by omega) (by omega) (h.grown B1) (mm:=vs.length) (Aga vs) (Agb vs) (by omega) λ a' c' w' S=>⟨_,_,_,rfl,a',c',by rw [Nat.zero_add],?_⟩;simp only [Nat.zero_add,List.nil_append] at S;exact S
theorem AhH(hg:w.cell? g=some (.pointer (some p)))(h:KT w p cs aR n):Calls Tryz.prog f.Md #[.pointer (some g)] w (AG λ v w'=>∃ a' c',v=.slice a' cs.length c'/\ST w w' [CK a' c' cs]):=by
 apply R.HY
 delta R.Cs R.F R.Lp R.Ls R.O R.S;try dsimp only [R.Ps]
 obtain⟨a,c,h1,h2⟩:=h.AM;have:=(A6 h.right).2;refine AV ⟨_,hg,_,_,_,h1,(Aed h2 (by omega)).mono ?_⟩;rintro _ w1 ⟨_,rfl,a',c',rfl,S⟩;exact⟨_,_,_,rfl,a',c',rfl,S⟩
end
theorem Adx(u v:BQ):((u.1==v.1) && ((u.2.1==v.2.1) && ((u.2.2==v.2.2) && true)))=decide (u=v):=by
 obtain⟨a,b,s⟩:=u;obtain⟨c,d,t⟩:=v;rw [Bool.eq_iff_iff];simp [XV]
section
variable {w:World}{a a2:Option Addr}{c c2:Nat}
theorem Gs{ls ms:List BQ}(hl:Rd w a (BM ls))(hm:Rd w a2 (BM ms))(hn:ls.length<=9223372036854775807) :
  Calls Tryz.prog f.AcR #[.slice a ls.length c,.slice a2 ms.length c2] w (AG λ v w'=>Below w.heap.size w w'/\v=.bool (decide (ls=ms))):=by
 apply R.RG
 delta R.D R.F R.G R.I R.Lb R.Li R.Lt R.Qi R.W R.X;try dsimp only [R.Ps]
 refine Ah (λ h=>⟨.refl _ _,?_⟩) (λ hlen=>?_)
 ·congr 1;rw [eq_comm,decide_eq_false_iff_not];rintro rfl;exact h rfl
 have bJ:ls.length=ms.length:=by omega
 refine⟨λ s w1=>∃ i:Nat,i<=ls.length/\s=[.int .i64 (i:Int)]/\Below w.heap.size w w1/\ls.take i=ms.take i,λ s _=>match s with
   | [.int _ i]=>ls.length-i.toNat
   | _=>0,⟨0,by omega,rfl,.refl _ _,rfl⟩,?_⟩
 rintro _ w1 ⟨i,hi,hs,B1,hT⟩;cases hs;refine Aa (λ aB=>?_) (λ aI=>⟨B1,?_⟩)
 ·have h1:i<ls.length:=by omega
  have h2:i<ms.length:=by omega
  refine (SH.start (λ _=>False) w1).E5 λ w2 B2 _=>⟨⟨by omega,aB⟩,?_⟩;have C2:=Ac B1 B2;obtain⟨p1,rfl,c0,c1,c2⟩:=FQ (hl.grown C2) h1;obtain⟨p2,rfl,d0,d1,d2⟩:=FQ (hm.grown C2) h2;refine⟨⟨by omega,by omega⟩,_,by rw [Ale];exact c0,_,by rw [Ale];exact c1,_,by rw [Ale];exact c2,_,by rw [Ale];exact d0,_,by rw [Ale];exact d1,_,by rw [Ale];exact d2,?_⟩;rw [Adx];refine As (Aa (λ he=>?_) (λ he=>⟨C2,?_⟩))
  ·rw [Ae (by omega)];refine⟨⟨i+1,by omega,rfl,C2,?_⟩,?_⟩
   ·rw [List.take_succ_eq_append_getElem h1,List.take_succ_eq_append_getElem h2,hT,he]
   ·simp only [Ale];omega
  ·congr 1;rw [eq_comm,decide_eq_false_iff_not];rintro rfl;exact he rfl
 ·congr 1;rw [eq_comm,decide_eq_true_eq];rw [List.take_of_length_le (by omega),List.take_of_length_le (by omega)] at hT;exact hT
end
section
variable {w:World}{g p:Addr}{cs:List BQ}{aR:List BF}{n:Nat}{a a2:Option Addr}{c c2:Nat}{ps:List BF}
end
def AjR(c:BQ):Prop:=c.1.size<=maxLen
def rwC(p:BF):List Value:=[Cz p]
structure AjH(w:World)(p:BF):Prop where
 len:p.2.2.length<=maxLen
 rd:Rd w p.1 (AP p.2.2)
 ok:∀ v∈p.2.2,BL v
theorem Ur:Tryz.prog.cellsOf ty.bool=1:=by kernel_rfl
theorem Aiw:Pu Tryz.prog ty.Dg=some [(ty.string,0),(ty.int,1),(ty.bool,2)]:=by kernel_rfl
theorem VH:Tryz.prog.underlying ty.string=some .string:=by kernel_rfl
theorem XB:Tryz.prog.underlying ty.bool=some .bool:=by kernel_rfl
theorem Aix:Tryz.prog.underlying ty.CG=some (.slice ty.AW):=by kernel_rfl
theorem Aew:Tryz.prog.cellsOf ty.Dg=3:=by kernel_rfl
theorem Tg{w:World}:∀ m r,r.length=Tryz.prog.cellsOf ty.Dg->Go.Dn.Good Tryz.prog w m ty.Dg r->∃ x,r=V3 x/\AjR x:=by
 intro m r hl h;obtain⟨_,n,hf⟩:=h.fields Aiw;rw [Aew] at hl
 match r,hl with
 | [v0,v1,v2],_ =>
  simp only [AkV,Amf,or_false,forall_eq_or_imp,forall_eq,QU,Ur,Mw] at hf;obtain⟨h0,h1,h2⟩:=hf;obtain⟨x0,e0,q0⟩:=h0.str VH;obtain⟨x1,e1,q1⟩:=h1.int Qu;obtain⟨x2,e2⟩:=h2.bool XB;refine⟨(x0,x1,x2),?_,q0⟩;simp only [List.drop_zero,List.take_succ_cons,List.take_zero,List.drop_succ_cons,List.cons.injEq,and_true] at e0 e1 e2;rw [e0,e1,e2];rfl
theorem Yh{w:World}:∀ m r,r.length=Tryz.prog.cellsOf ty.CG->Go.Dn.Good Tryz.prog w m ty.CG r->∃ x,r=rwC x/\AjH w x:=by
 intro m r hl h;obtain⟨a,c,xs,rfl,h1,h2,h3,h4,h5⟩:=h.list Aix _ _ UL;exact⟨(a,c,xs),rfl,Als h1 h2,h4,λ v hv=>(h5 v hv).1⟩
theorem Af9{w:World}{a:Option Addr}{cs:List BQ}{c:Nat}(g:GL w V3 AjR a cs c):Rd w a (BM cs)/\cs.length<=9223372036854775807/\∀ c∈cs,c.1.size<=9223372036854775807 :=
 ⟨g.2.2.2.1,Als (Als g.1 g.2.1) (by decide),λ v hv=>Als (g.2.2.2.2 v hv) (by decide)⟩
theorem Ag7{w:World}{a:Option Addr}{ps:List BF}{c:Nat}(g:GL w rwC (AjH w) a ps c):Ba w a ps/\ps.length<=9223372036854775807/\(∀ r∈rws ps,∀ v∈r,BL v)/\∀ p∈ps,p.2.2.length<=9223372036854775807:=by
 refine⟨⟨?_,λ p hp=>(g.2.2.2.2 p hp).rd⟩,Als (Als g.1 g.2.1) (by decide),λ r hr=>?_,λ p hp=>Als (g.2.2.2.2 p hp).len (by decide)⟩
 ·have:=g.2.2.2.1;rw [show ps.flatMap rwC=ps.map Cz from Agk Cz ps] at this;exact this
 ·obtain⟨p,hp,rfl⟩:=List.mem_map.1 hr;exact (g.2.2.2.2 p hp).ok
section
variable {w:World}{a a2:Option Addr}{c c2:Nat}{cs:List BQ}{ps:List BF}
end
def Fj(s:ByteArray):ByteArray:=BC (Tj (IE (bl s)))
theorem N9(s:ByteArray):(Fj s).size=64:=by
 unfold Fj;rw [A1,UP,FU]
section
variable {w:World}
theorem G5(T:I5 w)(s:ByteArray)(hs:s.size<=140737488355328):Calls Tryz.prog f.Y2 #[.string s] w (AG λ v w'=>v=.string (Fj s)/\Below w.heap.size w w'):=by
 apply R.OL
 delta R.B R.Ct R.J R.N R.Rs R.S R.T;try dsimp only [R.Ps]
 have au:=Bb s;refine CE CA s w λ b0 c0 cells e0 w1 bg B1 jQ aj jg dA=>?_;have dQ:Rd w1 (some ⟨b0,0,none⟩) ((bl s).map Ag):=by
  have:=(Rd.Ak jQ).take s.size;rw [dA] at this;exact this
 refine⟨_,_,_,rfl,(((ST.start w).grown B1).An λ b4 w2 _ B2 S=>?_)⟩;rw [<- au] at S;have gm:Rd w2 (some ⟨b4,0,none⟩) ([(some ⟨b0,0,none⟩,c0,bl s)].map Cc):=S.GD 0 rfl;have e2:BT [(some ⟨b0,0,none⟩,c0,bl s)]=bl s:=by simp [BT]
 refine (Lx (c:=1) (T.grown S.Ar) [(some ⟨b0,0,none⟩,c0,bl s)] gm (by
   intro p hp;simp only [AkV,Amf,or_false] at hp;subst hp;exact dQ.grown B2) (by simp) (by rw [e2];omega)).mono ?_
 rw [e2];rintro _ w3 ⟨_,rfl,rfl,B3⟩;have S:=S.grown B3;have bj:(IE (bl s)).length=32:=FU _;obtain⟨nm,bz⟩:∃ nm,nm=Fj s:=⟨_,rfl⟩;unfold Fj at bz;obtain⟨dg,hdg⟩:∃ dg,dg=IE (bl s):=⟨_,rfl⟩;rw [show Fj s=nm from bz.symm];rw [<- hdg] at bj bz ⊢;refine I4 dg bj ⟨rfl,(Z9 dg bj w3).mono ?_⟩;rintro _ w4 ⟨_,rfl,rfl,B4⟩;exact⟨_,rfl,by rw [bz],Ac S.Ar B4⟩
theorem Nv(s:ByteArray)(hs:s.size<=140737488355328):Calls Tryz.prog f.AcX #[.string s] w (AG λ v w'=>v=.string (Fj s)/\Below w.heap.size w w'):=by
 apply R.RN
 delta R.B R.Ct R.Rs R.S R.T;try dsimp only [R.Ps]
 have au:=Bb s;refine CE CA s w λ b0 c0 cells e0 w1 bg B1 jQ aj jg dA=>?_;have dQ:Rd w1 (some ⟨b0,0,none⟩) ((bl s).map Ag):=by
  have:=(Rd.Ak jQ).take s.size;rw [dA] at this;exact this
 rw [<- au];refine⟨_,_,_,rfl,(JX (bl s) dQ (by omega) (by omega)).mono ?_⟩;rintro _ w3 ⟨_,rfl,rfl,B3⟩;have bj:(IE (bl s)).length=32:=FU _;obtain⟨nm,bz⟩:∃ nm,nm=Fj s:=⟨_,rfl⟩;unfold Fj at bz;obtain⟨dg,hdg⟩:∃ dg,dg=IE (bl s):=⟨_,rfl⟩;rw [show Fj s=nm from bz.symm];rw [<- hdg] at bj bz ⊢;refine I4 dg bj ⟨rfl,(YE dg bj w3).mono ?_⟩;rintro _ w4 ⟨_,rfl,rfl,B4⟩;exact⟨_,rfl,by rw [bz],Ac (Ac B1 B3) B4⟩
end
end Go.Proofs.YtpnaifmmggnimaaGreatDoor
namespace Go.Dn
set_option linter.unusedVariables false
set_option maxRecDepth 100000
open Go.RowKit (Below)
section
variable {w0 w:World}{H:List It}
theorem ST.mid(l:List It){X B:List It}(S:ST w0 w (X++(l++B))):ST w0 w (l++(X++B)):=S.perm (List.perm_append_comm_assoc X l B)
end
end Go.Dn
namespace Go.Dn
set_option linter.unusedVariables false
set_option maxRecDepth 100000
section
variable {w0 w:World}{H:List It}
end
end Go.Dn
namespace Go.Dn
set_option linter.unusedVariables false
set_option maxRecDepth 100000
open Go.RowKit (Below)
section
variable {w0 w:World}{H:List It}{P:Program}{f:FuncId}{args:Array Value}{Q:Ending->World->Prop}
end
section
variable {w0 w:World}{H:List It}
theorem ST.mk0(S:ST w0 w H){P:Program}{t e:TypeId}{sz bytes:Nat}{z:Value}(hT:M9 P t=some (e,sz,bytes,z)){c:Nat}(hb:bytes*c<=281474976710656)(hc:c<=9223372036854775807){f:Value->World->Prop}{kl kc:IntKind}
  (hf:∀ b w',ST w0 w' (It.row e sz (some ⟨b,0,none⟩) 0 c [] :: H)->f (.slice (some ⟨b,0,none⟩) 0 c) w'):DB P (Instr.makeSlice t (.int kl 0) (.int kc (c:Int))) f w :=
 Hw hT hb hc λ b w' h1 h2 h3=>hf b w' (S.add h2 _ h3 λ k hk=>by cases hk;exact h1)
theorem ST.AkH(S:ST w0 w H)(n:Nat){e:TypeId}{sz:Nat}{a:Option Addr}{m c:Nat}{xs:List Value}(hn:H[n]?=some (It.row e sz a m c xs)):ST w0 w (H.set n (It.rd a xs)) :=
 S.I2 n hn (Ai.refl _ w) _ (S.rd n hn) λ k hk=>by
  cases xs with
  | nil=>cases hk
  | cons x xs=>exact .inl hk
end
end Go.Dn
