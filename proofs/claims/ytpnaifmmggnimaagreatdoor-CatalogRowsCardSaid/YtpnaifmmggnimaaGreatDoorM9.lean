/-
  Texts of this claim, laid one behind the other by a program of mine (install.py): G.Seg3, G.Seg4, G.Seg5, G.Seg6, G.Seg7, G.Seg8, G.Seg9, G.Seg10, G.Seg11, G.Seg12, G.SegEnv, G.Cp1, G.Cp2, G.Ct1, G.Seg13, G.Seg14, G.Seg15, G.SegArg, G.Seg16, G.Seg17, Dn.St2, Dn.St3, Dn.Ld.
-/
import Derived.Test.YtpnaifmmggnimaaGreatDoorM8
import Derived.Test.YtpnaifmmggnimaaGreatDoorM7
import Derived.Test.YtpnaifmmggnimaaGreatDoorM1
import Derived.Test.YtpnaifmmggnimaaGreatDoorRows
import Derived.Test.YtpnaifmmggnimaaGreatDoorM6
namespace Go.Proofs.YtpnaifmmggnimaaGreatDoor
open _root_.Int renaming fdiv -> Alj, toNat_natCast -> Ak4
open _root_.List renaming append_assoc -> Ak2, append_nil -> Al2, drop -> Amz, drop_left -> Amk, drop_zero -> Amw, ext_getElem -> Amx, flatten_cons -> AmB, getD -> AmA, getElem?_append_right -> AmD, getElem?_eq_getElem -> AlV, getElem?_map -> AmF, getElem_mem -> AlI, length -> Amp, length_append -> Ak1, length_cons -> Ak3, length_drop -> Alu, length_map -> Alh, length_nil -> Amf, length_take -> AlX, map_append -> Alk, map_cons -> AmG, map_drop -> Alv, map_take -> Alw, mem_append -> AlY, mem_cons -> AkL, mem_map -> AkK, not_mem_nil -> Al5, range -> AlB, replicate -> AkZ, take -> Amy, take_left -> AkW, take_of_length_le -> AlA, take_succ_eq_append_getElem -> AlW
open _root_.Nat renaming le_refl -> AkY, mul_one -> Ak7, sub_self -> AmE, sub_zero -> Amu, zero_add -> Ak6, zero_mul -> Al6
open _root_.Option renaming map_eq_some_iff -> Amj, map_some -> Amq
open _root_.Option.some renaming inj -> Al8, injEq -> Ami
open _root_.Prod renaming fst -> AmC
open _root_.Prod.mk renaming injEq -> AkE
open _root_.UInt8 renaming ofNat -> Ak9
set_option maxRecDepth 100000
open Go.Dn Go.Proofs
open Go.RowKit (Below)
set_option linter.unusedVariables false
theorem Air:Tryz.prog.underlying ty.AH=some (.slice ty.uint8):=by kernel_rfl
theorem Ag4:Tryz.prog.underlying ty.uint8=some (.int .u8):=by kernel_rfl
theorem I6(l:List UInt8){n:Nat}{f:List Value->Prop}(hn:l.length=n)(h:f (l.map Ag)):FD (AkZ n (.int .u8 0)) f :=
 JA .u8 (l.map uI) (by simpa using hn) (by rw [<- MB];exact h)
def Aey(a:Option Addr)(c:Nat)(l:List UInt8):It:=It.buf ty.uint8 1 a l.length c (l.map Ag)
section
variable {w0 w:World}{H:List It}{a:Option Addr}{c:Nat}{l:List UInt8}
theorem AbX(S:ST w0 w H)(n:Nat)(hn:H[n]?=some (Aey a c l)){m:List UInt8}{b:Option Addr}{mc:Nat}(hs:Rd w b (m.map Ag))(h0:0<m.length)(hl:l.length+m.length<=140737488355328){f:Value->World->Prop}
  (hf:∀ a' c' w',ST w0 w' (H.set n (CP a' c' (l++m)))->f (.slice a' (l++m).length c') w') :
  DE Tryz.prog (Builtin.append_ #[ty.AH,ty.AH] ty.AH #[.slice a l.length c,.slice b m.length mc]) f w:=by
 refine S.Ako n hn tB zB (by omega) (by omega) hs (mm:=m.length) (by simp) h0 (Ge _) (by omega) λ a' c' w' S'=>?_;have e1:(l++m).length=l.length+m.length:=by simp
 rw [<- Alk] at S';have:=hf a' c' w' (by unfold CP;rw [e1];exact S');rwa [e1] at this
theorem AdD(S:ST w0 w H)(n:Nat)(hn:H[n]?=some (CP a c l)):ST w0 w (H.set n (Aey a c l)):=S.IX n hn (.refl _ _) _ (.inl (S.get n hn)) (λ k hk=>.inl hk)
theorem Yt(S:ST w0 w H)(n:Nat)(hn:H[n]?=some (CP a c l)){m:List UInt8}{k:Nat}(hk:m.length=k){b:Option Addr}{mc:Nat}(hs:Rd w b (m.map Ag))(hl:l.length+m.length<=140737488355328){f:Value->World->Prop}
  (hf:∀ a' c' w',ST w0 w' (H.set n (CP a' c' (l++m)))->f (.slice a' (l++m).length c') w') :
  DE Tryz.prog (Builtin.append_ #[ty.AH,ty.AH] ty.AH #[.slice a l.length c,.slice b k mc]) f w:=by
 subst hk;exact AbM S n hn hs hl hf
end
section
variable {w:World}{a a2:Option Addr}{c c2:Nat}{cs:List BQ}{ps:List BG}
theorem UP(n:Nat)(hn:n<4294967296):Calls Tryz.prog f.ZS #[.int .i64 (n:Int)] w (AG λ v w'=>∃ b,v=.slice (some ⟨b,0,none⟩) 4 4/\Bn w w' (Lh n) (some ⟨b,0,none⟩) 4):=by
 apply R.Pu
 delta R.B R.J R.N R.S R.Wb;try dsimp only [R.Ps]
 refine (ST.start w).An λ b w1 hb B S=>⟨b,rfl,?_⟩;have sh:∀ k,Alj (n:Int) (2 ^ k)=((n / 2 ^ k:Nat):Int):=λ k=>by
  rw [Int.fdiv_eq_ediv_of_nonneg _ (Int.pow_nonneg (by decide))]
  norm_cast
 have by_:∀ m:Nat,Value.int .u8 (IntKind.u8.wrap (m:Int))=Ag (Ak9 (m % 256)):=λ m=>by
  rw [wrap_u8,<- CA (x:=m % 256) (by omega)];congr 1
 have e:(#[Value.int .u8 (IntKind.u8.wrap (n:Int)),.int .u8 (IntKind.u8.wrap (Alj (n:Int) (2 ^ (min 8 64)))),.int .u8 (IntKind.u8.wrap (Alj (n:Int) (2 ^ (min 16 64)))),.int .u8 (IntKind.u8.wrap (Alj (n:Int) (2 ^ (min 24 64))))]:Array Value)=((Lh n).map Ag).toArray:=by
  rw [show min 8 64=8 from rfl,show min 16 64=16 from rfl,show min 24 64=24 from rfl,sh,sh,sh,by_,by_,by_,by_];rfl
 rw [e] at S;have hg:=S.CJ 0 rfl;exact⟨⟨rfl,.inr ⟨b,_,rfl,hg,AkY _,by decide,rfl,rfl⟩⟩,λ k hk=>by cases hk;exact hb,B⟩
theorem AaZ{b:Nat}{r:List AB}{ra:Option Addr}{rc:Nat}(hc:w.cell? ⟨b,0,none⟩=some (.slice a cs.length c))(hl:Rd w a (BM cs))(hn:cs.length<=9223372036854775807)(hq:∀ c∈cs,c.1.size<=9223372036854775807)(hr:Rd w ra (AO r)) :
  Calls Tryz.prog f.EN #[.slice ra r.length rc,.pointer (some ⟨b,0,none⟩)] w (AG λ v w'=>v=.bool (!(Aq cs && C0 cs r))/\Below w.heap.size w w'):=by
 apply R.J1
 delta R.A R.Cb R.G R.Ls R.S;try dsimp only [R.Ps]
 refine⟨_,_,_,hc,(U4 hl hn hq hr).mono ?_⟩;rintro _ w1 ⟨_,rfl,rfl,B⟩;exact⟨_,rfl,rfl,B⟩
theorem Y4{b:Nat}(hc:w.cell? ⟨b,0,none⟩=some (.slice a cs.length c))(hl:Rd w a (BM cs))(hn:cs.length<=9223372036854775807)(hq:∀ c∈cs,c.1.size<=9223372036854775807)(hr:Bb w a2 ps)(hm:ps.length<=900000) :
  Calls Tryz.prog f.FR #[.slice a2 ps.length c2,.func (.func f.EN) #[] #[.pointer (some ⟨b,0,none⟩)]] w (AG λ v w'=>∃ z:Int,v=.int .i64 z/\Below w.heap.size w w'/\(0<=z↔∃ r∈rws ps,(Aq cs && C0 cs r)=false)):=by
 apply R.EC
 delta R.Ad R.F R.G R.I R.Ls R.Qi R.S R.W R.X;try dsimp only [R.Ps]
 refine⟨λ st w2=>∃ i:Nat,st=[.int .i64 (i:Int)]/\i<=ps.length/\(∀ r∈rws (ps.take i),(Aq cs && C0 cs r)=true)/\Below w.heap.size w w2,λ st _=>match st with | [.int _ t]=>ps.length-t.toNat | _=>0,⟨0,rfl,by omega,by simp,.refl _ _⟩,?_⟩;rintro t w2 ⟨i,aA,hi,aF,B2⟩;cases aA;refine Aa (λ aB=>⟨⟨by omega,aB⟩,?_⟩) (λ aJ=>⟨_,rfl,B2,?_⟩)
 ·have aD:i<ps.length:=by omega
  obtain⟨q,rfl,lG,hv⟩:=(hr.grown B2).at aD;have cG:w2.cell? ⟨b,0,none⟩=some (.slice a cs.length c):=(Ai.AA (F:=λ _=>False) B2).cell hc (by simp);refine⟨_,_,_,by rw [Ak4];exact lG,?_⟩;rw [show enters Tryz.prog f.EN=true by kernel_rfl];refine (AaZ cG (hl.grown B2) hn hq hv).mono ?_;rintro _ w3 ⟨_,rfl,rfl,B3⟩;refine⟨_,rfl,Au (Ap (λ hf=>?_) (λ hf=>?_))⟩
  ·rw [Ae (by omega)];refine⟨⟨i+1,rfl,by omega,λ r hr=>?_,Ac B2 B3⟩,?_⟩
   ·simp only [rws,AkK] at hr;obtain⟨p,hp,rfl⟩:=hr;rw [AlW aD] at hp;rcases AlY.1 hp with h | h
    ·exact aF _ (AkK.2 ⟨p,h,rfl⟩)
    ·rw [List.mem_singleton.1 h];exact hf
   ·show ps.length-((i+1:Nat):Int).toNat<ps.length-((i:Nat):Int).toNat;simp only [Ak4];omega
  ·exact⟨_,rfl,Ac B2 B3,⟨λ _=>⟨_,AkK.2 ⟨ps[i],AlI aD,rfl⟩,hf⟩,λ _=>by omega⟩⟩
 ·rw [AlA (by omega)] at aF;constructor
  ·intro h;omega
  ·rintro⟨r,hr,hf⟩;rw [aF r hr] at hf;cases hf
theorem Tc{b:Nat}(hc:w.cell? ⟨b,0,none⟩=some (.slice a cs.length c))(hl:Rd w a (BM cs))(hn:cs.length<=9223372036854775807)(hq:∀ c∈cs,c.1.size<=9223372036854775807)(hr:Bb w a2 ps)(hm:ps.length<=900000) :
  Calls Tryz.prog f.Fa #[.slice a2 ps.length c2,.func (.func f.EN) #[] #[.pointer (some ⟨b,0,none⟩)]] w (AG λ v w'=>∃ z:Bool,v=.bool z/\Below w.heap.size w w'/\(z=true↔∃ r∈rws ps,(Aq cs && C0 cs r)=false)):=by
 apply R.Ee
 delta R.Ci R.G R.S;try dsimp only [R.Ps]
 refine (Y4 hc hl hn hq hr hm).mono ?_;rintro _ w1 ⟨_,rfl,z,rfl,B,h⟩;exact⟨_,rfl,_,rfl,B,by rw [decide_eq_true_eq];exact h⟩
theorem Jd{l:List UInt8}{v:AB}{r:Value}{w w':World}(hr:AK v=true)(h:AiH l v r w w'):∃ a c,r=.tuple #[.slice a (l++CD v).length c,.int .i64 0]/\Bn w w' (l++CD v) a c:=by
 rcases h with ⟨h,_⟩ | ⟨_,h⟩
 ·rw [hr] at h;cases h
 ·exact h
set_option maxHeartbeats 1000000 in
theorem I5(T:I8 w)(hl:Rd w a (BM cs))(hn:cs.length<=9223372036854775807)(hq:∀ c∈cs,c.1.size<=9223372036854775807)(hr:Bb w a2 ps)(hm:ps.length<=9223372036854775807)(hv:∀ r∈rws ps,∀ v∈r,BN v) :
  Calls Tryz.prog f.VS #[.slice a cs.length c,.slice a2 ps.length c2] w (AG λ v w'=>Afz cs (rws ps) v/\Below w.heap.size w w'):=by
 apply R.MQ
 delta R.A R.Ab R.B R.EP R.AR R.Cb R.Cf R.Cs R.D R.E R.F R.H R.I R.J R.Ks R.Li R.Ls R.Lt R.N R.O R.P R.Rs R.Rt R.S R.Am R.T R.U R.Wu R.X R.Y;try dsimp only [R.Ps]
 refine (ST.start w).An λ b3 w1 dE B1 S=>⟨_,_,_,S.cell 0 rfl rfl,?_⟩;refine (IK (l:=[]) (a:=none) (c:=0) (Rd.nil _ _) (by simp) (hl.grown S.Ar) hn hq).mono ?_;rintro _ w2 ⟨_,rfl,h2⟩;have bad:∀ {wx:World} (e:Int),Below w.heap.size w wx->(D9 cs (rws ps)=e)->e≠0->Afz cs (rws ps) (.tuple #[.string ⟨#[]⟩,.int .i64 e])/\Below w.heap.size w wx:=by
  rintro wx e B rfl h0;refine⟨.inl ⟨λ hs=>h0 ?_,rfl,h0⟩,B⟩;have h1:¬ (1024<(rws ps).length\/∃ r∈rws ps,C0 cs r=false):=by
   rintro (h | ⟨r,hr,h⟩)
   ·have:=hs.len;omega
   ·rw [hs.fits r hr] at h;cases h
  have h2:¬ Aq cs=false:=by rw [hs.right];decide
  rw [D9,if_neg h2,if_neg h1]
 rcases h2 with ⟨hR,rfl,B2⟩ | ⟨hR,ib,iL,rfl,h2⟩
 ·refine⟨_,_,_,_,rfl,(S.grown B2).An λ b8 w3 _ _ S=>S.BR 0 rfl (by simp) rfl λ w4 S=>Ah (λ _=>bad 50 S.Ar ?_ (by decide)) (λ h=>by cases h)⟩;rw [D9,if_pos hR]
 have gh:¬ Aq cs=false:=by rw [hR];decide
 rw [List.nil_append] at h2 ⊢;have S:=BL S h2;refine⟨_,_,_,_,rfl,S.An λ b8 w3 _ _ S=>S.BR 0 rfl (aC:=#[.slice ib (CG cs).length iL]) (by simp) rfl λ w4 S=>Ah (λ h=>absurd rfl h) (λ _=>Aa (λ h=>bad 51 S.Ar ?_ (by decide)) (λ hlen=>?_))⟩
 ·have:1024<(rws ps).length:=by simp only [rws,Alh];omega
  rw [D9,if_neg gh,if_pos (.inl this)]
 have bP:ps.length<=1024:=by omega
 refine (Tc (S.cell 2 rfl rfl) (hl.grown S.Ar) hn hq (hr.grown S.Ar) (by omega)).mono ?_;rintro _ w5 ⟨_,rfl,z,rfl,B5,hz⟩;have S:=S.grown B5;refine⟨_,rfl,Ap (λ h=>bad 51 S.Ar ?_ (by decide)) (λ nw=>?_)⟩
 ·obtain⟨r,hr,hf⟩:=hz.1 h;rw [hR,Bool.true_and] at hf;rw [D9,if_neg gh,if_pos (.inr ⟨r,hr,hf⟩)]
 have aK:Bv cs (rws ps):=by
  refine⟨hR,by simp only [rws,Alh];omega,λ r hr=>?_,hv⟩;cases hf:C0 cs r with
  | true=>rfl
  | false =>
   have:=hz.2 ⟨r,hr,by rw [hf,Bool.and_false]⟩;rw [nw] at this;cases this
 have kI:∀ p∈ps,p.2.2.length=cs.length:=λ p hp=>aK.Ue (AkK.2 ⟨p,hp,rfl⟩);have bM:=A6 hR;have bD:=GH hR;have d1:=Al (n:=ps.length) (by omega);have wC:Rd w5 ib ((CG cs).map Ag):=Er S 1 rfl;rw [Aj (by omega) (by omega)];refine⟨_,_,_,S.cell 0 rfl rfl,(Bf (CG cs) wC ps.length (by omega) (by omega)).mono ?_⟩;rintro _ w6 ⟨_,rfl,a6,c6,rfl,h6⟩;have S:=BL S h6;refine⟨_,_,_,rfl,S.BR 1 rfl (aC:=#[.slice a6 (CG cs++Af ps.length).length c6]) (by simp) rfl λ w7 S=>S.An λ iv w8 kK _ S=>ZV Air Ag4 (S.CJ 0 rfl) λ w9 K9 xx=>⟨_,_,_,rfl,?_⟩⟩;have S:=S.IX 0 rfl (K9.mono λ k _ h=>by subst h;rfl) (Aey (some ⟨iv,0,none⟩) 4 Ch) (.inr ⟨_,rfl,rfl,Rd.Ak xx,rfl,(Array.getElem?_eq_some_iff.1 xx).1⟩) (λ k hk=>.inl hk);refine S.An λ ld bZ _ _ S=>S.BR 0 rfl (aC:=#[.slice (some ⟨iv,0,none⟩) 4 4]) (by simp) rfl λ aX S=>⟨_,_,_,S.cell 5 rfl rfl,Lr.mono ?_⟩;rintro _ bJ ⟨_,rfl,q1,q2,rfl,P⟩;have S:=S.join P;refine⟨_,_,_,rfl,by kernel_rfl,λ rr aA dR hy=>?_⟩
 have S:=S.range rr;obtain⟨L,hL⟩:∃ L,L=bJ.heap.size+1:=⟨_,rfl⟩;obtain⟨d,hd⟩:∃ d,d=bJ.heap.size:=⟨_,rfl⟩;rw [<- hL] at S hy ⊢;rw [<- hd] at S ⊢;have S:=S.pull 6 rfl;let Hq:Obj->Option Addr->Nat->List UInt8->Option Addr->Nat->List UInt8->List It:=λ o fa fc ft ba bc bb=>[CP fa fc ft,It.obj L o,It.obj d (.deferred (some [])),It.cells q2 #[.slice a2 ps.length c2] ty.Cd,It.cells q1 #[.slice a cs.length c] ty.AX,
  It.cells ld #[.slice ba bb.length bc] ty.AH,Aey ba bc bb,It.cells b8 #[.slice fa ft.length fc] ty.AH,CP ib iL (CG cs),It.cells b3 #[.slice a cs.length c] ty.AX]
 let J:Nat->World->Prop:=λ q wx=>∃(xs:List (List UInt8)) (fa:Option Addr) (fc:Nat) (ba:Option Addr) (bc:Nat),xs.length=q/\Eu cs (rws ps) xs /\
  ST w wx (Hq (.loop rr) fa fc (CG cs++Af ps.length++Cq (rws ps) xs) ba bc (Ch++xs.flatten))
 have bA:=TI (w:=(bJ.alloc (.deferred (some []))).alloc (.loop rr)) (c:=c2) (L:=L) (b1:=q1) (b2:=q2) (a:=a2) (c2:=c) (a2:=a) (n:=cs.length) hn (by omega) kI J (λ q wx hj=>by
   obtain⟨xs,fa,fc,ba,bc,_,_,S⟩:=hj;exact⟨hr.grown S.Ar,S.cell 3 rfl rfl⟩) (λ q wx wy hj B=>by
   obtain⟨xs,fa,fc,ba,bc,h1,h2,S⟩:=hj;exact⟨xs,fa,fc,ba,bc,h1,h2,S.grown B⟩) (by
  rintro q wx la lc lg ⟨xs,fa,fc,ba,bc,ct,du,S⟩ hla;subst ct;have hg:=aK.D1 lg;have cj:=du.flat aK;have qA:=du.AfT aK;obtain⟨⟨z1,z2⟩,z3,z4⟩:=hg.AbL;have dp:(Bs (rws ps) xs.length).length=ps.length:=by rw [Gl];simp [rws]
  refine hy _ _ _ _ _ wx (S.get 1 rfl) ?_;refine S.AjV 1 rfl λ an uL S=>?_;obtain⟨p,hp,c0,c1,c2⟩:=FZ (hl.grown S.Ar) lg;refine⟨_,_,_,S.cell 9 rfl rfl,⟨by omega,by omega⟩,?_⟩;rw [hp];refine⟨_,by rw [Ak4];exact c1,?_⟩;have lV:=uL _ _ hla;have hE:=Kb (c:=lc) cs[xs.length].2.1 lV (by omega) hg.ok;rw [dp] at hE;refine hE.mono ?_;rintro _ ah ⟨_,rfl,eY⟩;rcases eY with ⟨aP,_⟩ | ⟨_,x,xa,xc,hx,rfl,eY⟩
  ·rw [hg.right] at aP;cases aP
  have ct:=hx.len hg;have tb:0<x.length:=by have:=(hx.read hg).2.1;omega
  have S:=BL S eY;have hZ:=Nx (c:=lc) (lV.grown eY.Ar);rw [dp] at hZ;refine⟨_,_,_,_,rfl,hZ.mono ?_⟩;rintro _ cf ⟨_,rfl,tt,zu⟩;rcases tt with ⟨_,rfl⟩ | ⟨aP,_⟩
  case inr=>exact absurd hg.GS aP
  have S:=S.grown zu;refine⟨_,_,_,_,_,_,_,_,rfl,S.An λ vd cP _ _ S=>S.Zl 0 rfl λ fJ S=>⟨_,_,_,S.cell 7 rfl rfl,?_⟩⟩;have hrx:Rd fJ xa (x.map Ag):=Er S 1 rfl;have lK:Ch.length=4:=rfl;refine AbX S 8 rfl hrx tb (by rw [Ak1];omega) λ a25 uH gG S=>⟨_,_,_,rfl,S.BR 7 rfl (aC:=#[.slice a25 (Ch++xs.flatten++x).length uH]) (by simp) rfl λ jl S=>S.draw λ kN _ S=>⟨_,_,_,S.cell 9 rfl rfl,_,S.cell 0 rfl rfl,?_⟩⟩;have bn:As (Bs (rws ps) xs.length)<=1024:=by have:=Dc (Bs (rws ps) xs.length);omega
  obtain⟨ft,bR⟩:∃ ft,ft=CG cs++Af ps.length++Cq (rws ps) xs:=⟨_,rfl⟩;rw [<- bR] at S ⊢;have kX:ft.length<=40000:=by rw [bR];simp only [Ak1];omega
  have iC:Rd kN fa (ft.map Ag):=Er S 2 rfl;rw [Aj (n:=(x.length:Int)) (by omega) (by omega)];refine (Bf ft iC x.length (by omega) (by omega)).mono ?_;rintro _ nE ⟨_,rfl,a28,c28,rfl,xK⟩;have S:=BL S xK;have y6:=Al (n:=x.length) (by omega);have e29:=Al (n:=As (Bs (rws ps) xs.length)) (by omega);have xH:=HB z1 z2;have xC:=HB z3 z4;refine⟨_,_,_,rfl,S.cell 1 rfl rfl,?_⟩;rw [Aj (n:=((As (Bs (rws ps) xs.length):Nat):Int)) (by omega) (by omega)];refine (Bf _ xK.rd (As (Bs (rws ps) xs.length)) (by omega) (by rw [Ak1];omega)).mono ?_;rintro _ kD ⟨_,rfl,a29,c29,rfl,h29⟩;have S:=BL S h29;refine⟨_,_,_,rfl,S.BR 11 rfl (aC:=#[.slice a29 (ft++Af x.length++Af (As (Bs (rws ps) xs.length))).length c29]) (by simp) rfl λ eA S=>⟨_,_,_,S.cell 11 rfl rfl,_,S.cell 2 rfl rfl,_,S.cell 2 rfl rfl,_,S.cell 2 rfl rfl,?_⟩⟩;have vD:Rd eA a29 ((ft++Af x.length++Af (As (Bs (rws ps) xs.length))).map Ag):=Er S 0 rfl;refine (Jp _ vD (F7 (Bs (rws ps) xs.length)).1 z2 (by simp only [Ak1];omega)).mono ?_
  rintro _ kB ⟨_,rfl,h31⟩;obtain⟨a31,c31,rfl,n31⟩:=Jd z1 h31;have S:=BL S n31;refine⟨_,_,_,_,rfl,S.BR 12 rfl (aC:=#[.slice a31 (ft++Af x.length++Af (As (Bs (rws ps) xs.length))++CD (F7 (Bs (rws ps) xs.length)).1).length c31]) (by simp) rfl λ cQ S=>⟨_,_,_,S.cell 12 rfl rfl,_,S.cell 3 rfl rfl,_,S.cell 3 rfl rfl,_,S.cell 3 rfl rfl,?_⟩⟩;have vJ:Rd cQ a31 ((ft++Af x.length++Af (As (Bs (rws ps) xs.length))++CD (F7 (Bs (rws ps) xs.length)).1).map Ag):=Er S 0 rfl;refine (Jp _ vJ (F7 (Bs (rws ps) xs.length)).2 z4 (by simp only [Ak1];omega)).mono ?_;rintro _ iQ ⟨_,rfl,rj⟩;obtain⟨a33,s4,rfl,n33⟩:=Jd z3 rj;have S:=BL S n33;have po:ft++Af x.length++Af (As (Bs (rws ps) xs.length))++CD (F7 (Bs (rws ps) xs.length)).1++CD (F7 (Bs (rws ps) xs.length)).2=CG cs++Af ps.length++Cq (rws ps) (xs++[x]):=by
   rw [Su,bR];simp [Kf]
  have pY:Ch++xs.flatten++x=Ch++(xs++[x]).flatten:=by simp
  rw [po] at S ⊢;rw [pY] at S;refine⟨_,_,_,_,rfl,S.BR 13 rfl (aC:=#[.slice a33 (CG cs++Af ps.length++Cq (rws ps) (xs++[x])).length s4]) (by simp) rfl λ pX S=>S.Ahr 7 aA dR rfl λ w' S=>⟨rfl,xs++[x],a33,s4,a25,uH,by simp,du.snoc lg hx,?_⟩⟩;exact (AdD S 12 rfl).keep 6) ⟨[],a6,c6,some ⟨iv,0,none⟩,4,rfl,Eu.nil _ _,by
   have e1:CG cs++Af ps.length++Cq (rws ps) []=CG cs++Af ps.length:=by simp [Cq]
   have e2:Ch++([]:List (List UInt8)).flatten=Ch:=by simp
   rw [e1,e2];exact S⟩ (S.cell 4 rfl rfl)
 refine bA.mono ?_;rintro _ uD ⟨_,rfl,xs,fa,fc,ba,bc,ct,du,S⟩;refine⟨⟨_,rfl⟩,S.AfL 1 aA dR rfl λ rU S=>⟨rfl,S.draw λ iU _ S=>⟨_,_,_,S.cell 5 rfl rfl,_,_,_,S.cell 7 rfl rfl,_,_,_,S.cell 7 rfl rfl,?_⟩⟩⟩;have cj:=du.flat aK;have qA:=du.TU aK;have bL:=du.Aca aK;have rY:CG cs++Af ps.length++Cq (rws ps) xs=DQ cs (rws ps) xs:=by
  unfold DQ;rw [show (rws ps).length=ps.length by simp [rws]]
 rw [rY] at S ⊢;obtain⟨ft,bR⟩:∃ ft,ft=DQ cs (rws ps) xs:=⟨_,rfl⟩;rw [<- bR] at S qA ⊢;obtain⟨bb,kF⟩:∃ bb,bb=Ch++xs.flatten:=⟨_,rfl⟩;rw [<- kF] at S ⊢;refine (UP ft.length (by omega)).mono ?_;rintro _ q7 ⟨_,rfl,rm,rfl,h38⟩;have S:=BL S h38;refine⟨_,_,_,rfl,S.cell 8 rfl rfl,S.cell 6 rfl rfl,S.An λ ym jt _ _ S=>?_⟩;have qM:Rd jt ba (bb.map Ag):=S.rdF 8 rfl;have iC:Rd jt fa (ft.map Ag):=Er S 2 rfl;have mE:Rd jt (some ⟨rm,0,none⟩) ((Lh ft.length).map Ag):=Er S 1 rfl;have uu:Rd jt (some ⟨ym,0,none⟩) ([(ba,bc,bb),(fa,fc,ft),(some ⟨rm,0,none⟩,4,Lh ft.length)].map BZ):=S.Gw 0 rfl;have zM:bb.length<=33000004:=by rw [kF];simp only [Ak1,Ch,Ak3,Amf];omega
 refine (Bp (c:=3) [(ba,bc,bb),(fa,fc,ft),(some ⟨rm,0,none⟩,4,Lh ft.length)] uu (by
   intro p hp;simp only [AkL,Al5,or_false] at hp;rcases hp with rfl | rfl | rfl
   ·exact qM
   ·exact iC
   ·exact mE) (by simp) (by rw [Xl];simp only [Ak1,Lh,Ak3,Amf];omega)).mono ?_
 rintro _ tf ⟨_,rfl,a40,rI,rfl,ov⟩;have nD:BV [(ba,bc,bb),(fa,fc,ft),(some ⟨rm,0,none⟩,4,Lh ft.length)]=KC cs (rws ps) xs:=by
  rw [Xl,kF,bR];simp [KC]
 rw [nD] at ov ⊢;have S:=BL S ov;obtain⟨pre,cZ⟩:∃ pre,pre=KC cs (rws ps) xs:=⟨_,rfl⟩;rw [<- cZ] at S bL ⊢;refine⟨_,_,_,rfl,S.BR 8 rfl (aC:=#[.slice a40 pre.length rI]) (by simp) rfl λ pg S=>⟨_,_,_,S.cell 8 rfl rfl,S.An λ b73 lH _ _ S=>?_⟩⟩;have tQ:Rd lH a40 (pre.map Ag):=Er S 1 rfl;have uR:Rd lH (some ⟨b73,0,none⟩) ([(a40,rI,pre)].map BZ):=S.Gw 0 rfl;have xV:BV [(a40,rI,pre)]=pre:=by simp [BV]
 refine (Mp (c:=1) (T.grown S.Ar) [(a40,rI,pre)] uR (by
   intro p hp;simp only [AkL,Al5,or_false] at hp;subst hp;exact tQ) (by simp) (by rw [xV];omega)).mono ?_
 rw [xV];rintro _ xw ⟨_,rfl,rfl,zR⟩;have S:=S.grown zR;have bj:(Iw pre).length=32:=FK _;obtain⟨dg,hdg⟩:∃ dg,dg=Iw pre:=⟨_,rfl⟩;rw [<- hdg] at bj ⊢;refine I6 (dg) bj ⟨rfl,?_⟩;refine S.An λ yQ w44 _ _ S=>?_;have jS:((dg).map Ag).length=32:=by rw [Alh];exact bj
 refine Ds jS ?_;refine S.En 0 rfl jS (Ge _) λ xO S=>?_;refine S.draw λ ot _ S=>?_;refine⟨⟨by omega,by omega,by omega⟩,_,_,_,S.cell 10 rfl rfl,?_⟩;have sH:Rd ot (Ck (some ⟨yQ,0,none⟩) 0 32 1) ((dg).map Ag):=by
  have h:=(S.Gw 0 rfl).OV 0 32 32 1 (by omega);have e:(Amy ((32-0)*1) (Amz (0*1) ((dg).map Ag)))=(dg).map Ag:=by
   rw [Al6,Amw];exact AlA (by rw [Alh];omega)
  have h':Rd ot (Ck (some ⟨yQ,0,none⟩) 0 32 1) (Amy ((32-0)*1) (Amz (0*1) ((dg).map Ag))):=h;rwa [e] at h'
 refine Yt S 2 rfl bj sH (by omega) λ zy c47 zE S=>⟨_,_,_,rfl,?_⟩;have uB:Rd zE zy ((pre++dg).map Ag):=Er S 2 rfl;refine Aw CB rfl uB ⟨_,rfl,S.get 7 rfl,.inr ⟨aK,_,rfl,⟨xs,ct,du,?_⟩⟩,(S.put 7 rfl _).Ar⟩;rw [Me,hdg,cZ]
end
def EV(p:BG):It:=Lk p.1 p.2.1 p.2.2
def Fp(bo:Nat)(ps:List BG):List It:=It.cells bo ⟨ps.map Cz⟩ ty.CH :: ps.map EV
theorem AiT:MN Tryz.prog ty.CH=some (ty.AW,3,32,.agg #[.int .i64 0,.int .i64 0,.string ⟨#[]⟩]):=by kernel_rfl
theorem Adg:MN Tryz.prog ty.Cd=some (ty.CH,1,24,.slice none 0 0):=by kernel_rfl
section
variable {w0 w:World}{E:List It}{bo:Nat}{ps:List BG}
theorem Mx(S:ST w0 w (E++Fp bo ps)){i:Nat}(hi:i<ps.length):w.cell? ((⟨bo,0,none⟩:Addr).add (i*1))=some (.slice ps[i].1 ps[i].2.2.length ps[i].2.1):=by
 rw [Ax,Ak6,Ak7];refine S.cell E.length (cs:=⟨ps.map Cz⟩) (t:=ty.CH) ?_ ?_
 ·rw [AmD (AkY _),AmE];rfl
 ·rw [<- Array.getElem?_toList];show (ps.map Cz)[i]?=_;rw [AmF,AlV hi];rfl
theorem AaY(S:ST w0 w (E++Fp bo ps)){i:Nat}(hi:i<ps.length){x:AB}{b:Nat}(hs:Rd w (some ⟨b,0,none⟩) (HE x))(hl:ps[i].2.2.length+1<=1000000){f:Value->World->Prop}
  (hf:∀ a' c' w',(∀ k:World->Prop,(∀ cK,ST w0 cK (E++Fp bo (ps.set i (a',c',ps[i].2.2++[x])))->k cK)->DV ((⟨bo,0,none⟩:Addr).add (i*1)) (.slice a' (ps[i].2.2++[x]).length c') k w')->f (.slice a' (ps[i].2.2++[x]).length c') w') :
  DE Tryz.prog (Builtin.append_ #[ty.CH,ty.CH] ty.CH #[.slice ps[i].1 ps[i].2.2.length ps[i].2.1,.slice (some ⟨b,0,none⟩) 1 1]) f w:=by
 have hn:(E++Fp bo ps)[E.length+(i+1)]?=some (Lk ps[i].1 ps[i].2.1 ps[i].2.2):=by
  rw [AmD (by omega),Nat.add_sub_cancel_left];show (ps.map EV)[i]?=_;rw [AmF,AlV hi];rfl
 refine YJ S (E.length+(i+1)) AiT hn hs hl λ a' c' w' S'=>hf a' c' w' λ k hk=>?_;rw [Ax,Ak6,Ak7];have e1:(E++Fp bo ps).set (E.length+(i+1)) (Lk a' c' (ps[i].2.2++[x]))=E++(It.cells bo ⟨ps.map Cz⟩ ty.CH :: (ps.set i (a',c',ps[i].2.2++[x])).map EV):=by
  rw [List.set_append_right _ _ (by omega),Nat.add_sub_cancel_left];show E++(_ :: (ps.map EV).set i _)=_;rw [List.map_set];rfl
 rw [e1] at S';refine S'.BR E.length (cs:=⟨ps.map Cz⟩) (aC:=⟨(ps.set i (a',c',ps[i].2.2++[x])).map Cz⟩) (t:=ty.CH) ?_ (by show i<(ps.map Cz).length;simpa using hi) ?_ λ cK S''=>hk cK ?_
 ·rw [AmD (AkY _),AmE];rfl
 ·apply Array.ext';rw [Array.toList_setIfInBounds,List.map_set];rfl
 ·rw [List.set_append_right _ _ (AkY _),AmE] at S'';exact S''
theorem RX(S:ST w0 w (E++Fp bo ps)):Bb w (some ⟨bo,0,none⟩) ps:=by
 refine⟨?_,λ p hp=>?_⟩
 ·have hg:w.heap[bo]?=some (.cells ⟨ps.map Cz⟩ ty.CH (0,0)):=S.ok (It.cells bo ⟨ps.map Cz⟩ ty.CH) (by simp [Fp]);exact Rd.Ak hg
 ·have:(EV p).ok w:=S.ok _ (List.mem_append_right _ (List.mem_cons_of_mem _ (AkK.2 ⟨p,hp,rfl⟩)));exact Row.rd this
theorem WC(S:ST w0 w E){w':World}(n:Nat)(hb:w.heap.size<=bo)(B:Below w.heap.size w w')(hg:w'.heap[bo]?=some (.cells (madeCells (Value.slice none 0 0).cells (n*1)) ty.CH (0,0))):ST w0 w' (Fp bo (AkZ n (none,0,[]))++E):=by
 have e:madeCells (Value.slice none 0 0).cells (n*1)=⟨(AkZ n ((none,0,[]):BG)).map Cz⟩:=by
  apply Array.ext';rw [Ej _ rfl,Ak7,List.map_replicate];rfl
 rw [e] at hg;have S1:∀ m,ST w0 w' ((AkZ m ((none,0,[]):BG)).map EV++E):=by
  intro m
  induction m with
  | zero=>exact S.grown B
  | succ m ih=>rw [List.replicate_succ];exact ih.nil _ _
 have nn:∀ k,(It.cells bo ⟨(AkZ n ((none,0,[]):BG)).map Cz⟩ ty.CH).CJ=some k->∀ y∈(AkZ n ((none,0,[]):BG)).map EV++E,y.CJ≠some k:=by
  intro k hk y hy uT;have dV:bo=k:=Al8 hk;rcases AlY.1 hy with h | h
  ·obtain⟨p,hp,rfl⟩:=AkK.1 h;rw [(List.mem_replicate.1 hp).2] at uT;cases uT
  ·have:=y.lt w (S.ok y h) k uT;omega
 refine⟨(S1 n).Ar,λ x hx=>?_,List.pairwise_cons.2 ⟨λ y hy k hk=>nn k hk y hy,(S1 n).nd⟩,λ x hx k hk=>?_⟩
 ·rcases AkL.1 hx with rfl | hx
  ·exact hg
  ·exact (S1 n).ok x hx
 ·rcases AkL.1 hx with rfl | hx
  ·have dV:bo=k:=Al8 hk;have:=S.Ar.size;omega
  ·exact (S1 n).own x hx k hk
end
def rowAt(AM:List (List AB))(r:Nat):List AB:=AM.map λ l=>l.getD r Z0
def rowsOf(AM:List (List AB))(n:Nat):List (List AB):=(AlB n).map (rowAt AM)
theorem Acj(aR:List BG){j:Nat}(hj:j<aR.length){r:Nat}(hr:r<aR[j].2.2.length):rowAt (rws (aR.take (j+1))) r=rowAt (rws (aR.take j)) r++[aR[j].2.2[r]]:=by
 unfold rowAt rws;rw [AlW hj,Alk,Alk];simp only [AmG,List.map_nil,AmA,AlV hr,Option.getD_some]
theorem Abr{ps:List BG}{n:Nat}{AM:List (List AB)}(hl:ps.length=n)(h:∀ r (hr:r<ps.length),ps[r].2.2=rowAt AM r):rws ps=rowsOf AM n:=by
 refine Amx (by simp [rowsOf,hl]) λ r h1 h2=>?_;simp only [rws,List.getElem_map,rowsOf,List.getElem_range];exact h r (by simpa using h1)
section
variable {w:World}{p:Addr}{n:Nat}{aR:List BG}{va:Option Addr}{vc:Nat}
theorem Ai4(h3:w.cell? (p.add 3)=some (.int .i64 (n:Int)))(h1:w.cell? (p.add 1)=some (.slice va aR.length vc))(hv:Bb w va aR)(hn:n<=4096)(hc:aR.length<=1000)(hl:∀ q∈aR,q.2.2.length=n) :
  Calls Tryz.prog f.MY #[.pointer (some p)] w (AG λ v w'=>∃ bo ps,v=.slice (some ⟨bo,0,none⟩) n n/\ps.length=n/\rws ps=rowsOf (rws aR) n/\Bb w' (some ⟨bo,0,none⟩) ps/\Below w.heap.size w w'):=by
 apply R.Ia
 delta R.Ad R.D R.F R.I R.J R.Ks R.Li R.Ls R.Lt R.N R.Qi R.Rs R.S R.Am R.T R.W R.X;try dsimp only [R.Ps]
 refine⟨_,h3,Ea Adg (l:=(n:Int)) (c:=(n:Int)) (by omega) (by omega) (by omega) (by omega) λ bo w1 fN B1 kH=>?_⟩;rw [Ak4] at kH ⊢;have S:=WC (ST.start w) n fN B1 kH;rw [Al2] at S;refine⟨_,_,_,rfl,λ s w2=>∃(i:Nat) (ps:List BG),s=[.int .i64 (i:Int)]/\i<=n/\ps.length=n/\(∀ r (hr:r<ps.length),ps[r].2.2=if r<i then rowAt (rws aR) r else [])/\ST w w2 ([]++Fp bo ps),λ s _=>match s with
   | [.int _ i]=>n-i.toNat
   | _=>0,⟨0,_,rfl,by omega,by simp,λ r hr=>by simp,S⟩,?_⟩
 rintro _ w2 ⟨i,ps,aA,hi,bL,aI,S⟩;cases aA;refine Aa (λ aB=>?_) (λ aJ=>⟨bo,ps,rfl,bL,Abr bL λ r hr=>by rw [aI r hr,if_pos (by omega)],RX S,S.Ar⟩);have cD:i<n:=by omega
 have K:=Ai.AA (F:=λ _=>False) S.Ar;refine⟨_,_,_,K.cell h1 (by simp),?_⟩;refine⟨λ s w3=>∃(j:Nat) (ps:List BG),s=[.int .i64 (j:Int)]/\j<=aR.length/\ps.length=n/\(∀ r (hr:r<ps.length),ps[r].2.2=if r<i then rowAt (rws aR) r else if r=i then rowAt (rws (aR.take j)) r else [])/\ST w w3 ([]++Fp bo ps),λ s _=>match s with
   | [.int _ j]=>aR.length-j.toNat
   | _=>0,⟨0,ps,rfl,by omega,bL,λ r hr=>by rw [aI r hr];simp [rowAt],S⟩,?_⟩
 clear aI S bL ps K;rintro _ w3 ⟨j,ps,aA,hj,bL,aI,S⟩;cases aA;refine Aa (λ aB=>⟨⟨by omega,aB⟩,?_⟩) (λ aJ=>?_)
 ·have fV:j<aR.length:=by omega
  have hlen:=hl _ (AlI fV);obtain⟨q,hq,aE,bQ⟩:=(hv.grown S.Ar).at fV;rw [hq];refine⟨_,_,_,by rw [Ak4];exact aE,S.draw λ w4 B4 S=>?_⟩;have re:i<ps.length:=by omega
  obtain⟨q2,iB,d0,d1,d2⟩:=De (bQ.grown B4) (i:=i) (by omega);have sP:=Mx S re;refine⟨⟨by omega,by omega⟩,⟨by omega,by omega⟩,?_⟩;rw [iB];refine⟨_,_,_,by rw [Ak4];exact sP,_,by rw [Ak4];exact d0,_,by rw [Ak4];exact d1,_,by rw [Ak4];exact d2,S.An λ jr w5 _ _ S=>?_⟩;have S':ST w w5 ([It.cells jr (HE (aR[j].2.2[i]'(by omega))).toArray ty.AW]++Fp bo ps):=S;have mM:=Mx S' re;have qG:ps[i].2.2=rowAt (rws (aR.take j)) i:=by rw [aI i re];simp
  have kI:ps[i].2.2.length=j:=by rw [qG];simp [rowAt,rws];omega
  refine⟨by rw [Ak4];exact mM,?_⟩;have aW:Rd w5 (some ⟨jr,0,none⟩) (HE (aR[j].2.2[i]'(by omega))):=S'.Gw 0 rfl;refine AaY S' re aW (by omega) λ a6 c6 w6 hk=>⟨_,_,_,rfl,⟨by omega,by omega⟩,?_⟩;rw [Ak4];unfold Av;simp only;refine hk _ λ w7 S=>?_;rw [Ae (by omega)];refine⟨⟨j+1,ps.set i (a6,c6,ps[i].2.2++[aR[j].2.2[i]'(by omega)]),rfl,by omega,by rw [List.length_set];exact bL,λ r hr=>?_,S.drop 1⟩,?_⟩
  ·rw [List.length_set] at hr;rw [List.getElem_set];by_cases kM:i=r
   ·subst kM;simp only [if_true,Nat.lt_irrefl,if_false];rw [Acj aR fV (by omega),qG]
   ·rw [if_neg kM,aI r hr];by_cases h5:r<i
    ·rw [if_pos h5,if_pos h5]
    ·rw [if_neg h5,if_neg h5,if_neg (λ h=>kM h.symm),if_neg (λ h=>kM h.symm)]
  ·show aR.length-((j+1:Nat):Int).toNat<aR.length-((j:Nat):Int).toNat;simp only [Ak4];omega
 ·rw [Ae (by omega)];refine⟨⟨i+1,ps,rfl,by omega,bL,λ r hr=>?_,S⟩,?_⟩
  ·rw [aI r hr,AlA (by omega)];by_cases h5:r<i
   ·rw [if_pos h5,if_pos (by omega)]
   ·by_cases h6:r=i
    ·rw [if_neg h5,if_pos h6,if_pos (by omega)]
    ·rw [if_neg h5,if_neg h6,if_neg (by omega)]
  ·show n-((i+1:Nat):Int).toNat<n-((i:Nat):Int).toNat;simp only [Ak4];omega
end
def AF(lim:Nat)(l:List UInt8)(at_:Nat):Nat->Option (List Nat × Nat)
 | 0=>some ([],at_)
 | k+1=>match takeN l (at_:Int) with
  | none=>none
  | some x=>match takeN l (x.2:Int) with
   | none=>none
   | some y=>match Bj l (y.2:Int) with
    | none=>none
    | some u=>match Bj l (u.2:Int) with
     | none=>none
     | some v=>if lim<x.1 then none else (AF lim l v.2 k).map λ r=>(x.1 :: r.1,r.2)
def Eo(lim:Nat)(l:List UInt8)(at_:Int)(n:Nat):Option (Nat × List Nat) :=
 match takeN l at_ with
 | none=>none
 | some x=>if 1024<x.1 then none else (AF lim l x.2 n).map λ r=>(x.1,r.1)
def Iq(a:Option Addr)(c:Nat)(ns:List Nat):It:=It.row ty.int 1 a ns.length c (ns.map λ n:Nat=>Value.int .i64 (n:Int))
theorem Ajk:MN Tryz.prog ty.Xi=some (ty.int,1,8,.int .i64 0):=by kernel_rfl
theorem AgR{w0 w:World}{H:List It}{a:Option Addr}{c:Nat}{ns:List Nat}(S:ST w0 w H)(n:Nat)(hn:H[n]?=some (Iq a c ns)){x:Nat}{b:Nat}(hs:Rd w (some ⟨b,0,none⟩) [Value.int .i64 (x:Int)])(hl:ns.length+1<=1000000){f:Value->World->Prop}
  (hf:∀ a' c' w',ST w0 w' (H.set n (Iq a' c' (ns++[x])))->f (.slice a' (ns++[x]).length c') w') :
  DE Tryz.prog (Builtin.append_ #[ty.Xi,ty.Xi] ty.Xi #[.slice a ns.length c,.slice (some ⟨b,0,none⟩) 1 1]) f w:=by
 refine S.app n hn Ajk rfl (by omega) (by omega) hs (mm:=1) rfl (by simp;rfl) (by omega) λ a' c' w' S'=>?_;have e1:(ns++[x]).length=ns.length+1:=by simp
 have e2:(ns.map λ n:Nat=>Value.int .i64 (n:Int))++[Value.int .i64 (x:Int)]=(ns++[x]).map λ n:Nat=>Value.int .i64 (n:Int):=by simp
 rw [e2] at S';have:=hf a' c' w' (by unfold Iq;rw [e1];exact S');rwa [e1] at this
theorem Ed{l:List UInt8}{at_:Int}(o:Option (Nat × Nat))(h:takeN l at_=o):∃(n k:Nat) (e:Int),LX o=.tuple #[.int .u64 (n:Int),.int .i64 (k:Int),.int .i64 e]/\k<=l.length/\n<18446744073709551616/\((e=0/\o=some (n,k))\/(e≠0/\o=none)):=by
 cases o with
 | none=>exact⟨0,0,20,rfl,by omega,by omega,.inr ⟨by decide,rfl⟩⟩
 | some x =>
  have:=Az (n:=x.1) (k:=x.2) h;exact⟨x.1,x.2,0,rfl,by omega,by omega,.inl ⟨rfl,rfl⟩⟩
theorem Abt{l:List UInt8}{at_:Int}{v:AB}{k:Nat}(h:Bj l at_=some (v,k)):k<=l.length:=by
 unfold Bj at h;split at h
 ·cases h
 ·rename_i hb;simp only at h;split at h
  ·cases h;omega
  ·split at h
   ·obtain⟨x,hx,he⟩:=Amj.1 h;have:=Az (n:=x.1) (k:=x.2) hx;cases he;omega
   ·split at h
    ·split at h
     ·rename_i h2;cases h;omega
     ·cases h
    ·split at h
     ·obtain⟨x,hx,he⟩:=Amj.1 h;have:=Md (s:=x.1) (k:=x.2) hx;cases he;omega
     ·cases h
theorem Ji{l:List UInt8}{at_:Int}(o:Option (AB × Nat))(h:Bj l at_=o):∃(v:AB) (k:Nat) (e:Int),Ur o=.tuple #[.agg #[.int .i64 v.1,.int .i64 v.2.1,.string v.2.2],.int .i64 (k:Int),.int .i64 e]/\k<=l.length/\((e=0/\o=some (v,k))\/(e≠0/\o=none)):=by
 cases o with
 | none=>exact⟨Z0,0,20,rfl,by omega,.inr ⟨by decide,rfl⟩⟩
 | some x=>exact⟨x.1,x.2,0,rfl,Abt (v:=x.1) (k:=x.2) h,.inl ⟨rfl,rfl⟩⟩
def PlV(o:Option (Nat × List Nat))(w w':World)(v:Value):Prop :=
 match o with
 | none=>v=.tuple #[.int .i64 0,.slice none 0 0,.bool false]/\Below w.heap.size w w'
 | some r=>∃ a c,v=.tuple #[.int .i64 (r.1:Int),.slice a r.2.length c,.bool true]/\ST w w' [Iq a c r.2]
theorem PlV.bad{o:Option (Nat × List Nat)}{w w':World}(h:o=none)(B:Below w.heap.size w w'):PlV o w w' (.tuple #[.int .i64 0,.slice none 0 0,.bool false]):=by
 subst h;exact⟨rfl,B⟩
section
variable {w:World}{a:Option Addr}{c:Nat}{l:List UInt8}
theorem P5(hl:Rd w a (l.map Ag))(hc:l.length<=c)(hs:l.length<=140737488355328)(at_:Int)(n:Nat)(hn:n<=1000) :
  Calls Tryz.prog f.VE #[.slice a l.length c,.int .i64 at_,.int .i64 (n:Int)] w (AG λ v w'=>PlV (Eo 1073741824 l at_ n) w w' v):=by
 apply R.LR
 delta R.A R.Ab R.Eg R.Bz R.F R.G R.H R.I R.J R.Ks R.N R.O R.Ll R.S R.Am R.T R.W;try dsimp only [R.Ps]
 refine (AL hl hc (by omega) at_ ).mono ?_;rintro _ w1 ⟨_,rfl,rfl,rfl⟩;obtain⟨r0,at0,e0,hv0,hk0,hr0,nS⟩:=Ed _ (rfl:takeN l at_=takeN l at_);rw [hv0];have bK:takeN l at_=none->Eo 1073741824 l at_ n=none:=λ h=>by simp [Eo,h]
 refine⟨_,_,_,rfl,Ah (λ h=>.bad ?_ (.refl _ _)) (λ oS=>?_)⟩
 ·rcases nS with ⟨h2,_⟩ | ⟨_,h2⟩
  ·exact absurd h2 h
  ·exact bK h2
 have il:takeN l at_=some (r0,at0):=by
  rcases nS with ⟨_,h2⟩ | ⟨h2,_⟩
  ·exact h2
  ·exact absurd oS h2
 refine Aa (λ h=>.bad ?_ (.refl _ _)) (λ rq=>?_)
 ·have:1024<r0:=by omega
  simp [Eo,il,this]
 have hT:Eo 1073741824 l at_ n=(AF 1073741824 l at0 n).map λ r=>(r0,r.1):=by
  have:¬ 1024<r0:=by omega
  simp [Eo,il,this]
 rw [hT];refine⟨λ s w2=>∃(i aL:Nat) (ns:List Nat) (na:Option Addr) (nc:Nat),s=[.int .i64 (aL:Int),.slice na ns.length nc,.int .i64 (i:Int)]/\i<=n/\ns.length=i/\aL<=l.length /\
   AF 1073741824 l at0 n=((AF 1073741824 l aL (n-i)).map λ r=>(ns++r.1,r.2))/\ST w1 w2 [Iq na nc ns],λ s _=>match s with
  | [_,_,.int _ i]=>n-i.toNat
  | _=>0,⟨0,at0,[],none,0,rfl,by omega,rfl,by omega,by simp,(ST.start w1).nil _ _⟩,?_⟩
 rintro _ na _ nc _ w2 ⟨i,aL,ns,_,_,aA,hi,nK,cU,aV,S⟩;cases aA;refine Aa (λ aB=>?_) (λ aJ=>?_)
 ·obtain⟨m,hm⟩:∃ m,n-i=m+1:=⟨n-i-1,by omega⟩;rw [hm] at aV;have ay:=hl.grown S.Ar;refine (AL ay hc (by omega) (aL:Int) ).mono ?_;rintro _ w2 ⟨_,rfl,rfl,rfl⟩;obtain⟨x1,x2,e1,hv1,cm,dP,hx1⟩:=Ed _ (rfl:takeN l (aL:Int)=takeN l (aL:Int));rw [hv1];refine⟨_,_,_,rfl,(AL ay hc (by omega) (x2:Int) ).mono ?_⟩;rintro _ w2 ⟨_,rfl,rfl,rfl⟩;obtain⟨y1,y2,e2,gn,ax,wP,hx2⟩:=Ed _ (rfl:takeN l (x2:Int)=takeN l (x2:Int));rw [gn];refine⟨_,_,_,rfl,(IB ay hc hs (y2:Int)).mono ?_⟩;rintro _ w5 ⟨_,rfl,rfl,B5⟩;have S:=S.grown B5;obtain⟨u1,u2,e3,hv3,iF,hx3⟩:=Ji _ (rfl:Bj l (y2:Int)=Bj l (y2:Int));rw [hv3];refine⟨_,_,_,_,_,rfl,S.Iz λ xn w9 _ S=>(IB (hl.grown S.Ar) hc hs (u2:Int)).mono ?_⟩;rintro _ bZ ⟨_,rfl,rfl,cA⟩;have S:=S.grown cA;obtain⟨v1,v2,e4,hv4,mQ,hx4⟩:=Ji _ (rfl:Bj l (u2:Int)=Bj l (u2:Int));rw [hv4];refine⟨_,_,_,_,_,rfl,S.Iz λ ox an _ S=>?_⟩;have fail:AF 1073741824 l aL (m+1)=none->((AF 1073741824 l at0 n).map λ r=>(r0,r.1))=none:=λ h=>by rw [aV,h];rfl
  refine Ah (λ h=>.bad (fail ?_) S.Ar) (λ h1=>?_)
  ·rcases hx1 with ⟨h2,_⟩ | ⟨_,h2⟩
   ·exact absurd h2 h
   ·simp [AF,h2]
  have g1:takeN l (aL:Int)=some (x1,x2):=by
   rcases hx1 with ⟨_,h2⟩ | ⟨h2,_⟩
   ·exact h2
   ·exact absurd h1 h2
  refine Ah (λ h=>.bad (fail ?_) S.Ar) (λ h1=>?_)
  ·rcases hx2 with ⟨h2,_⟩ | ⟨_,h2⟩
   ·exact absurd h2 h
   ·simp [AF,g1,h2]
  have g2:takeN l (x2:Int)=some (y1,y2):=by
   rcases hx2 with ⟨_,h2⟩ | ⟨h2,_⟩
   ·exact h2
   ·exact absurd h1 h2
  refine Ah (λ h=>.bad (fail ?_) S.Ar) (λ h1=>?_)
  ·rcases hx3 with ⟨h2,_⟩ | ⟨_,h2⟩
   ·exact absurd h2 h
   ·simp [AF,g1,g2,h2]
  have g3:Bj l (y2:Int)=some (u1,u2):=by
   rcases hx3 with ⟨_,h2⟩ | ⟨h2,_⟩
   ·exact h2
   ·exact absurd h1 h2
  refine Ah (λ h=>.bad (fail ?_) S.Ar) (λ h1=>?_)
  ·rcases hx4 with ⟨h2,_⟩ | ⟨_,h2⟩
   ·exact absurd h2 h
   ·simp [AF,g1,g2,g3,h2]
  have g4:Bj l (u2:Int)=some (v1,v2):=by
   rcases hx4 with ⟨_,h2⟩ | ⟨h2,_⟩
   ·exact h2
   ·exact absurd h1 h2
  refine Aa (λ h=>.bad (fail ?_) S.Ar) (λ fu=>?_)
  ·have:1073741824<x1:=by omega
   simp [AF,g1,g2,g3,g4,this]
  rw [wrap_i64 (n:=(x1:Int)) (by omega) (by omega)];refine S.An λ td ah _ _ S=>?_;have aW:Rd ah (some ⟨td,0,none⟩) [Value.int .i64 (x1:Int)]:=S.Gw 0 rfl;refine AgR S 3 rfl aW (by omega) λ kf kV cf S=>⟨_,_,_,rfl,?_⟩;rw [Ae (by omega)];refine⟨⟨i+1,v2,ns++[x1],kf,kV,rfl,by omega,by simp [nK],by omega,?_,S.drop 3⟩,?_⟩
  ·rw [aV,show n-(i+1)=m by omega];have:¬ 1073741824<x1:=by omega
   simp only [AF,g1,g2,g3,g4,this,if_false,Option.map_map];congr 1;funext r;simp
  ·show n-((i+1:Nat):Int).toNat<n-(i:Int).toNat;omega
 ·have:n-i=0:=by omega
  rw [this] at aV;simp only [AF,Amq,Al2] at aV;rw [aV,wrap_i64 (n:=(r0:Int)) (by omega) (by omega)];exact⟨na,nc,rfl,S⟩
theorem Vn(hl:Rd w a (l.map Ag))(hc:l.length<=c)(hs:l.length<=140737488355328)(at_:Int)(mY:at_<=9223372036854775807)(n:Nat)(hn:n<=1000) :
  Calls Tryz.prog f.AaH #[.slice a l.length c,.int .i64 at_,.int .i64 (n:Int)] w (AG λ v w'=>PlV (Eo 100000000 l at_ n) w w' v):=by
 apply R.PS
 delta R.A R.Ab R.Eg R.Bz R.F R.G R.H R.I R.J R.Ks R.N R.O R.Ll R.S R.Am R.T R.W;try dsimp only [R.Ps]
 refine (AJ hl (by omega) at_ mY).mono ?_;rintro _ w1 ⟨_,rfl,rfl,rfl⟩;obtain⟨r0,at0,e0,hv0,hk0,hr0,nS⟩:=Ed _ (rfl:takeN l at_=takeN l at_);rw [hv0];have bK:takeN l at_=none->Eo 100000000 l at_ n=none:=λ h=>by simp [Eo,h]
 refine⟨_,_,_,rfl,Ah (λ h=>.bad ?_ (.refl _ _)) (λ oS=>?_)⟩
 ·rcases nS with ⟨h2,_⟩ | ⟨_,h2⟩
  ·exact absurd h2 h
  ·exact bK h2
 have il:takeN l at_=some (r0,at0):=by
  rcases nS with ⟨_,h2⟩ | ⟨h2,_⟩
  ·exact h2
  ·exact absurd oS h2
 refine Aa (λ h=>.bad ?_ (.refl _ _)) (λ rq=>?_)
 ·have:1024<r0:=by omega
  simp [Eo,il,this]
 have hT:Eo 100000000 l at_ n=(AF 100000000 l at0 n).map λ r=>(r0,r.1):=by
  have:¬ 1024<r0:=by omega
  simp [Eo,il,this]
 rw [hT];refine⟨λ s w2=>∃(i aL:Nat) (ns:List Nat) (na:Option Addr) (nc:Nat),s=[.int .i64 (aL:Int),.slice na ns.length nc,.int .i64 (i:Int)]/\i<=n/\ns.length=i/\aL<=l.length /\
   AF 100000000 l at0 n=((AF 100000000 l aL (n-i)).map λ r=>(ns++r.1,r.2))/\ST w1 w2 [Iq na nc ns],λ s _=>match s with
  | [_,_,.int _ i]=>n-i.toNat
  | _=>0,⟨0,at0,[],none,0,rfl,by omega,rfl,by omega,by simp,(ST.start w1).nil _ _⟩,?_⟩
 rintro _ na _ nc _ w2 ⟨i,aL,ns,_,_,aA,hi,nK,cU,aV,S⟩;cases aA;refine Aa (λ aB=>?_) (λ aJ=>?_)
 ·obtain⟨m,hm⟩:∃ m,n-i=m+1:=⟨n-i-1,by omega⟩;rw [hm] at aV;have ay:=hl.grown S.Ar;refine (AJ ay (by omega) (aL:Int) (by omega)).mono ?_;rintro _ w2 ⟨_,rfl,rfl,rfl⟩;obtain⟨x1,x2,e1,hv1,cm,dP,hx1⟩:=Ed _ (rfl:takeN l (aL:Int)=takeN l (aL:Int));rw [hv1];refine⟨_,_,_,rfl,(AJ ay (by omega) (x2:Int) (by omega)).mono ?_⟩;rintro _ w2 ⟨_,rfl,rfl,rfl⟩;obtain⟨y1,y2,e2,gn,ax,wP,hx2⟩:=Ed _ (rfl:takeN l (x2:Int)=takeN l (x2:Int));rw [gn];refine⟨_,_,_,rfl,(ID ay hc hs (y2:Int)).mono ?_⟩;rintro _ w5 ⟨_,rfl,rfl,B5⟩;have S:=S.grown B5;obtain⟨u1,u2,e3,hv3,iF,hx3⟩:=Ji _ (rfl:Bj l (y2:Int)=Bj l (y2:Int));rw [hv3];refine⟨_,_,_,_,_,rfl,S.Iz λ xn w9 _ S=>(ID (hl.grown S.Ar) hc hs (u2:Int)).mono ?_⟩;rintro _ bZ ⟨_,rfl,rfl,cA⟩;have S:=S.grown cA;obtain⟨v1,v2,e4,hv4,mQ,hx4⟩:=Ji _ (rfl:Bj l (u2:Int)=Bj l (u2:Int));rw [hv4];refine⟨_,_,_,_,_,rfl,S.Iz λ ox an _ S=>?_⟩;have fail:AF 100000000 l aL (m+1)=none->((AF 100000000 l at0 n).map λ r=>(r0,r.1))=none:=λ h=>by rw [aV,h];rfl
  refine Ah (λ h=>.bad (fail ?_) S.Ar) (λ h1=>?_)
  ·rcases hx1 with ⟨h2,_⟩ | ⟨_,h2⟩
   ·exact absurd h2 h
   ·simp [AF,h2]
  have g1:takeN l (aL:Int)=some (x1,x2):=by
   rcases hx1 with ⟨_,h2⟩ | ⟨h2,_⟩
   ·exact h2
   ·exact absurd h1 h2
  refine Ah (λ h=>.bad (fail ?_) S.Ar) (λ h1=>?_)
  ·rcases hx2 with ⟨h2,_⟩ | ⟨_,h2⟩
   ·exact absurd h2 h
   ·simp [AF,g1,h2]
  have g2:takeN l (x2:Int)=some (y1,y2):=by
   rcases hx2 with ⟨_,h2⟩ | ⟨h2,_⟩
   ·exact h2
   ·exact absurd h1 h2
  refine Ah (λ h=>.bad (fail ?_) S.Ar) (λ h1=>?_)
  ·rcases hx3 with ⟨h2,_⟩ | ⟨_,h2⟩
   ·exact absurd h2 h
   ·simp [AF,g1,g2,h2]
  have g3:Bj l (y2:Int)=some (u1,u2):=by
   rcases hx3 with ⟨_,h2⟩ | ⟨h2,_⟩
   ·exact h2
   ·exact absurd h1 h2
  refine Ah (λ h=>.bad (fail ?_) S.Ar) (λ h1=>?_)
  ·rcases hx4 with ⟨h2,_⟩ | ⟨_,h2⟩
   ·exact absurd h2 h
   ·simp [AF,g1,g2,g3,h2]
  have g4:Bj l (u2:Int)=some (v1,v2):=by
   rcases hx4 with ⟨_,h2⟩ | ⟨h2,_⟩
   ·exact h2
   ·exact absurd h1 h2
  refine Aa (λ h=>.bad (fail ?_) S.Ar) (λ fu=>?_)
  ·have:100000000<x1:=by omega
   simp [AF,g1,g2,g3,g4,this]
  rw [wrap_i64 (n:=(x1:Int)) (by omega) (by omega)];refine S.An λ td ah _ _ S=>?_;have aW:Rd ah (some ⟨td,0,none⟩) [Value.int .i64 (x1:Int)]:=S.Gw 0 rfl;refine AgR S 3 rfl aW (by omega) λ kf kV cf S=>⟨_,_,_,rfl,?_⟩;rw [Ae (by omega)];refine⟨⟨i+1,v2,ns++[x1],kf,kV,rfl,by omega,by simp [nK],by omega,?_,S.drop 3⟩,?_⟩
  ·rw [aV,show n-(i+1)=m by omega];have:¬ 100000000<x1:=by omega
   simp only [AF,g1,g2,g3,g4,this,if_false,Option.map_map];congr 1;funext r;simp
  ·show n-((i+1:Nat):Int).toNat<n-(i:Int).toNat;omega
 ·have:n-i=0:=by omega
  rw [this] at aV;simp only [AF,Amq,Al2] at aV;rw [aV,wrap_i64 (n:=(r0:Int)) (by omega) (by omega)];exact⟨na,nc,rfl,S⟩
end
theorem DB{l:List UInt8}{at_:Nat}{c:UInt8}{r:List UInt8}(h:l.drop at_=c :: r):at_<l.length/\l.getD at_ 0=c/\l.drop (at_+1)=r:=by
 have aB:at_<l.length:=by
  rcases Nat.lt_or_ge at_ l.length with h1 | h1
  ·exact h1
  ·rw [List.drop_eq_nil_of_le h1] at h;cases h
 have h2:=List.drop_eq_getElem_cons aB;rw [h2] at h;injection h with h3 h4
 exact⟨aB,by simp [AmA,aB,h3],h4⟩
theorem UB{l r:List UInt8}{at_ most:Nat}{s:ByteArray}(hs:s.size<=most)(hm:most<=1048576)(h:l.drop at_=Bu s++r):BD l (at_:Int) most=some (bl s,at_+(Bu s).length):=by
 unfold Bu at h;rw [Ak2] at h;have h1:=Cc (m:=s.size) (by omega) h;have h2:=CR h;have au:=A9 s;have hlen:=congrArg Amp h2;rw [Alu,Ak1,au] at hlen;unfold BD;rw [h1];have aP:¬ (1048576<s.size\/most<s.size\/l.length-(at_+(Af s.size).length)<s.size):=by omega
 simp only [if_neg aP,Ami,AkE];refine⟨?_,?_⟩
 ·rw [h2,<- au,AkW]
 ·simp only [Bu,Ak1,au];omega
theorem Ol{l r:List UInt8}{at_:Nat}{v:AB}(hr:AK v=true)(hv:BN v)(h:l.drop at_=CD v++r):Bj l (at_:Int)=some (v,at_+(CD v).length):=by
 have eI:((at_:Int)+1)=((at_+1:Nat):Int):=by omega
 obtain⟨k,n,s⟩:=v;rcases Gf hr with hk | hk | ⟨hk,hn⟩ | ⟨hk,hs⟩
 ·simp only at hk;subst hk;simp [AK] at hr;obtain⟨rfl,rfl⟩:=hr;simp only [CD] at h ⊢;obtain⟨h1,h2,h3⟩:=DB (c:=0) (r:=r) (by simpa using h);unfold Bj;rw [if_neg (by omega),Ak4,h2];simp
 ·simp only at hk;subst hk;simp [AK] at hr;subst hr;simp only [CD,if_true] at h ⊢;obtain⟨h1,h2,h3⟩:=DB (c:=1) (r:=Af (D4 n)++r) (by simpa using h);have h4:=Cc (FQ hv.lo hv.hi) h3;unfold Bj;rw [if_neg (by omega),Ak4,h2,eI,h4];simp only [Ak3,Amq];have:=Gp (n:=n);simp [this];omega
 ·simp only at hk hn;subst hk;simp [AK] at hr;obtain⟨_,rfl⟩:=hr;simp only [CD] at h ⊢;obtain⟨h1,h2,h3⟩:=DB (c:=2) (r:=Ak9 n.toNat :: r) (by simpa using h);obtain⟨h4,h5,h6⟩:=DB h3;have e5:(l.getD (at_+1) 0).toNat=n.toNat:=by rw [h5];rcases hn with rfl | rfl <;> rfl
  unfold Bj;rw [if_neg (by omega),Ak4,h2];simp only;have h7:(at_:Int)+1<(l.length:Int)/\(l.getD (at_+1) 0).toNat<=1:=⟨by omega,by omega⟩;rw [if_neg (by decide),if_neg (by decide),if_pos (by decide),if_pos h7,e5];rcases hn with rfl | rfl <;> rfl
 ·simp only at hk hs;subst hk;simp [AK] at hr;obtain⟨rfl,_⟩:=hr;simp only [CD] at h ⊢;obtain⟨h1,h2,h3⟩:=DB (c:=3) (r:=Bu s++r) (by simpa using h);have h4:=UB (most:=1024) hs (by omega) h3;unfold Bj;rw [if_neg (by omega),Ak4,h2,eI,h4];simp [EI];omega
theorem Nj:∀(cs:List BQ) {l r:List UInt8} {at_:Nat},(∀ c∈cs,c.1.size<=24/\1<=c.2.1/\c.2.1<=3)->l.drop at_=cs.flatMap J2++r->Ba l at_ cs.length=some (cs,at_+(cs.flatMap J2).length)
 | [],l,r,at_,_,_=>rfl
 | c :: cs,l,r,at_,hq,h=>by
  obtain⟨hs,cm,ax⟩:=hq c (by simp);rw [List.flatMap_cons,Ak2] at h;have h0:l.drop at_=Bu c.1++([Ak9 c.2.1.toNat,Ja c.2.2]++(cs.flatMap J2++r)):=by rw [h];simp [J2]
  have h1:=UB (most:=24) hs (by omega) h0;have h2:=CR h0;obtain⟨g1,g2,g3⟩:=DB (c:=Ak9 c.2.1.toNat) (r:=Ja c.2.2 :: (cs.flatMap J2++r)) (by simpa using h2);obtain⟨g4,g5,g6⟩:=DB g3;have hf:(Ja c.2.2).toNat<=1:=by unfold Ja;split <;> decide
  have eQ:((Ak9 c.2.1.toNat).toNat:Int)=c.2.1:=by
   have:c.2.1=1\/c.2.1=2\/c.2.1=3:=by omega
   rcases this with h | h | h <;> rw [h] <;> rfl
  have cj:((Ja c.2.2).toNat==1)=c.2.2:=by unfold Ja;cases c.2.2 <;> rfl
  have ih:=Nj cs (l:=l) (r:=r) (at_:=at_+(Bu c.1).length+2) (λ c hc=>hq c (by simp [hc])) (by rw [<- g6]);show Ba l at_ (cs.length+1)=_;unfold Ba;rw [h1];simp only;have aP:¬ (l.length-(at_+(Bu c.1).length)<2\/1<(l.getD (at_+(Bu c.1).length+1) 0).toNat):=by rw [g5];omega
  rw [if_neg aP,ih,g2,g5];simp only [Amq,Ami,AkE,EI,eQ,cj,true_and];simp only [List.flatMap_cons,J2,Ak1,Ak3,Amf];omega
theorem JB{cs:List BQ}(hR:Aq cs=true){l r:List UInt8}{at_:Nat}(h:l.drop at_=CG cs++r):Bk l (at_:Int)=some (cs,at_+(CG cs).length):=by
 have hl:=A6 hR;unfold CG at h;rw [Ak2] at h;have h1:=Cc (m:=cs.length) (by omega) h;have h2:=Nj cs (λ c hc=>by obtain⟨_,a,b,c⟩:=Dq hR hc;exact⟨c,a,b⟩) (CR h);unfold Bk;rw [h1];simp only;rw [if_neg (by omega),h2];simp only [hR,if_true,CG,Ak1];congr 2;omega
theorem LF(lim:Nat):∀(ps:List (List UInt8 × List AB)) {l r:List UInt8} {at_:Nat},(∀ p∈ps,p.1.length<=lim/\p.1.length<=2000300/\∃ k,Bc k p.2)->l.drop at_=(ps.map λ p=>Kf p.1 p.2).flatten++r ->
  AF lim l at_ ps.length=some (ps.map (·.1.length),at_+((ps.map λ p=>Kf p.1 p.2).flatten).length)
 | [],l,r,at_,_,_=>rfl
 | p :: ps,l,r,at_,hq,h=>by
  obtain⟨fu,hx,k,hg⟩:=hq p (by simp);have hz:=hg.AbL;rw [AmG,AmB,Ak2] at h;rw [Kf] at h;simp only [Ak2] at h;have bn:As p.2<18446744073709551616:=by have:=Dc p.2;have:=hg.len;omega
  have h1:=Cc (m:=p.1.length) (by omega) h;have d1:=CR h;have h2:=Cc bn d1;have d2:=CR d1;have h3:=Ol hz.1.1 hz.1.2 d2;have d3:=CR d2;have h4:=Ol hz.2.1 hz.2.2 d3;have d4:=CR d3;have ih:=LF lim ps (λ p hp=>hq p (by simp [hp])) d4;show AF lim l at_ (ps.length+1)=_;unfold AF;rw [h1];simp only;rw [h2];simp only;rw [h3];simp only;rw [h4];simp only;rw [if_neg (by omega),ih];simp only [Amq,AmG,AmB,Ak1,Kf,Ami,AkE,true_and];omega
theorem Nu(lim:Nat){l:List UInt8}:∀(n at_:Nat) {r:List Nat × Nat},AF lim l at_ n=some r->r.1.length=n
 | 0,at_,r,h=>by simp [AF] at h;rw [<- h];rfl
 | n+1,at_,r,h=>by
  unfold AF at h;split at h
  ·cases h
  ·split at h
   ·cases h
   ·split at h
    ·cases h
    ·split at h
     ·cases h
     ·split at h
      ·cases h
      ·obtain⟨x,hx,he⟩:=Amj.1 h;rw [<- he];simp [Nu lim n _ hx]
theorem U1{lim:Nat}{l:List UInt8}{at_:Int}{n:Nat}{r:Nat × List Nat}(h:Eo lim l at_ n=some r):r.2.length=n/\r.1<=1024:=by
 unfold Eo at h;split at h
 ·cases h
 ·split at h
  ·cases h
  ·obtain⟨x,hx,he⟩:=Amj.1 h;rw [<- he];exact⟨Nu lim n _ hx,by simp only;omega⟩
section
variable {cs:List BQ}{rows:List (List AB)}{xs:List (List UInt8)}
theorem Je(hs:Bv cs rows):Bk (DQ cs rows xs) 0=some (cs,(CG cs).length):=by
 have:=JB hs.right (l:=DQ cs rows xs) (at_:=0) (r:=Af rows.length++Cq rows xs) (by simp [DQ]);simpa using this
theorem TT{lim:Nat}(fu:2000300<=lim)(hs:Bv cs rows)(hx:Eu cs rows xs)(hl:xs.length=cs.length):Eo lim (DQ cs rows xs) ((CG cs).length:Int) cs.length=some (rows.length,xs.map Amp):=by
 have d0:(DQ cs rows xs).drop (CG cs).length=Af rows.length++(Cq rows xs++[]):=by
  rw [DQ,Ak2,Amk];simp
 have h1:=Cc (m:=rows.length) (by have:=hs.len;omega) d0;have d1:=CR d0;obtain⟨ps,dk⟩:∃ ps,ps=xs.mapIdx λ i x=>(x,Bs rows i):=⟨_,rfl⟩;have e1:Cq rows xs=(ps.map λ p=>Kf p.1 p.2).flatten:=by
  rw [dk,Cq];congr 1;refine Amx (by simp) λ i h1 h2=>?_;simp
 have e2:ps.length=cs.length:=by rw [dk,List.length_mapIdx,hl]
 have e3:ps.map (·.1.length)=xs.map Amp:=by
  rw [dk];refine Amx (by simp) λ i h1 h2=>?_;simp
 rw [e1] at d1;have h2:=LF lim ps (l:=DQ cs rows xs) (r:=[]) (λ p hp=>by
  rw [dk] at hp;obtain⟨i,hi,rfl⟩:=List.mem_mapIdx.1 hp;have:=hx.lens hs _ (AlI hi);exact⟨by simp only;omega,this,_,hs.D1 (by omega:i<cs.length)⟩) d1
 rw [e2,e3] at h2;unfold Eo;rw [h1];simp only;rw [if_neg (by have:=hs.len;omega),h2];rfl
end
section
variable {w:World}{a:Option Addr}{c:Nat}{l:List UInt8}
theorem Aa7:Calls Tryz.prog f.Ib #[.slice a l.length c] w (AG λ v w'=>∃ b1,v=.func (.func f.DW) #[] #[.pointer (some ⟨b1,0,none⟩)]/\ST w w' [It.cells b1 #[.slice a l.length c] ty.AH]):=by
 apply R.F4
 delta R.J R.N R.P R.S;try dsimp only [R.Ps]
 exact (ST.start w).An λ b1 w1 _ _ S1=>⟨b1,rfl,S1⟩
theorem Uj{L b:Nat}(hn:l.length<=1000000)(J:Nat->World->Prop)(cr:∀ k w,J k w->Rd w a (l.map Ag)/\w.cell? ⟨b,0,none⟩=some (.slice a l.length c))
  (ae:∀ k w (hk:k<l.length),J k w->PQ Tryz.prog L #[.int .i64 ((l.length-1-k:Nat):Int),.int .u8 ((l[l.length-1-k]'(by omega)).toNat:Int)] (λ y w'=>y=true/\J (k+1) w') w) (h0:J 0 w) :
  Calls Tryz.prog f.DW #[.func (.yield L) #[] #[],.pointer (some ⟨b,0,none⟩)] w (AG λ _ w'=>J l.length w'):=by
 apply R.Fo
 delta R.A R.Ad R.B R.F R.H R.I R.Ls R.Ly R.Qi R.W R.X;try dsimp only [R.Ps]
 refine⟨_,_,_,(cr _ _ h0).2,λ s w1=>∃ k:Nat,k<=l.length/\s=[.int .i64 ((l.length:Int)-1-(k:Int))]/\J k w1,λ s _=>match s with
   | [.int _ i]=>(i+1).toNat
   | _=>0,⟨0,by omega,by rw [wrap_i64 (by omega) (by omega)];simp,h0⟩,?_⟩
 rintro _ w1 ⟨k,hk,aA,hj⟩;cases aA;refine Aa (λ aB=>?_) (λ aJ=>?_)
 ·have aO:k<l.length:=by omega
  obtain⟨r1,r2⟩:=cr _ _ hj;have e:(l.length:Int)-1-(k:Int)=((l.length-1-k:Nat):Int):=by omega
  have hi:l.length-1-k<l.length:=by omega
  obtain⟨p,hp,hc⟩:=byte_at r1 hi;rw [e];refine⟨_,_,_,r2,⟨by omega,by omega⟩,?_⟩;rw [hp];refine⟨_,by rw [Ak4];exact hc,?_⟩;refine (ae k w1 aO hj).mono ?_;rintro y w2 ⟨rfl,h⟩;rw [wrap_i64 (by omega) (by omega)];refine AV ⟨⟨k+1,by omega,by rw [<- e];congr 2;omega,h⟩,?_⟩;show (((l.length-1-k:Nat):Int)-1+1).toNat<(((l.length-1-k:Nat):Int)+1).toNat;omega
 ·have:k=l.length:=by omega
  subst this;exact hj
end
theorem AhG{n x:Nat}(hn:n<1099511627776)(hx:x<256):IntKind.i64.wrap (((BitVec.ofInt 64 (IntKind.i64.wrap ((n:Int)*2 ^ (min 8 64))) ||| BitVec.ofInt 64 (IntKind.i64.wrap (x:Int))).toNat:Int))=((n*256+x:Nat):Int):=by
 have e1:(n:Int)*2 ^ (min 8 64)=((n*256:Nat):Int):=by
  rw [show min 8 64=8 from rfl];omega
 rw [e1,wrap_i64 (n:=((n*256:Nat):Int)) (by omega) (by omega),wrap_i64 (n:=(x:Int)) (by omega) (by omega),BitVec.toNat_or,BitVec.ofInt_natCast,BitVec.ofInt_natCast,BitVec.toNat_ofNat,BitVec.toNat_ofNat,Nat.mod_eq_of_lt (by omega),Nat.mod_eq_of_lt (by omega)];have e2:n*256 ||| x=n*256+x:=by
  have:=Nat.two_pow_add_eq_or_of_lt (i:=8) (b:=x) hx n;rw [show 2 ^ 8*n=n*256 by omega] at this;exact this.symm
 rw [e2,wrap_i64 (by omega) (by omega)]
def Lj(l:List UInt8)(k:Nat):Nat:=(l.reverse.take k).foldl (λ n c=>n*256+c.toNat) 0
theorem Sa{l:List UInt8}{k:Nat}(hk:k<l.length):Lj l (k+1)=Lj l k*256+(l[l.length-1-k]'(by omega)).toNat:=by
 unfold Lj;rw [AlW (by simpa using hk),List.foldl_append];simp only [List.foldl_cons,List.foldl_nil];congr 2;rw [List.getElem_reverse]
theorem Pc{l:List UInt8}:∀ k,k<=l.length->Lj l k<256 ^ k
 | 0,_=>by simp [Lj]
 | k+1,h=>by
  have ih:=Pc (l:=l) k (by omega);rw [Sa (by omega),Nat.pow_succ];have:=(l[l.length-1-k]'(by omega)).toNat_lt;omega
theorem AgI(n:Nat)(hn:n<4294967296):Lj (Lh n) 4=n:=by
 have h:∀ m,m<256->(Ak9 m).toNat=m:=λ m hm=>by simp;omega
 simp only [Lj,Lh,List.reverse_cons,List.reverse_nil,List.nil_append,List.cons_append,List.take_succ_cons,List.take_zero,List.foldl_cons,List.foldl_nil];rw [h _ (by omega),h _ (by omega),h _ (by omega),h _ (by omega)];omega
def U6(q:BG):List Value:=(zC (As q.2.2:Int) (F7 q.2.2)).toList
structure Ml(w:World)(p:Addr)(cs:List BQ)(aR:List BG)(n:Nat):Prop where
 AM:∃ a c,w.cell? p=some (.slice a cs.length c)/\Rd w a (BM cs)
 AjM:∃ a c,w.cell? (p.add 1)=some (.slice a aR.length c)/\Bb w a aR
 Aj5:∃ a c,w.cell? (p.add 2)=some (.slice a aR.length c)/\Rd w a (aR.flatMap U6)
 many:w.cell? (p.add 3)=some (.int .i64 (n:Int))
 right:Aq cs=true
 len:aR.length=cs.length
 small:n<=1024
 each:∀ q∈aR,q.2.2.length=n/\∃ k,Bc k q.2.2
structure Et(cs:List BQ)(rows:List (List AB))(xs:List (List UInt8))(b:List UInt8):Prop where
 ok:Bv cs rows
 chs:Eu cs rows xs
 len:xs.length=cs.length
 eq:b=KC cs rows xs
theorem Et.split{cs:List BQ}{rows:List (List AB)}{xs:List (List UInt8)}{b:List UInt8}(h:Et cs rows xs b):8<=b.length/\Lj (b.drop (b.length-4)) 4=(DQ cs rows xs).length/\(DQ cs rows xs).length<=b.length-8 /\
  ((b.take (b.length-4)).drop (b.length-4-(DQ cs rows xs).length))=DQ cs rows xs/\((b.take (b.length-4-(DQ cs rows xs).length)).drop 4)=xs.flatten:=by
 have hf:=h.chs.TU h.ok;obtain⟨ft,bR⟩:∃ ft,ft=DQ cs rows xs:=⟨_,rfl⟩;have e:=h.eq;unfold KC at e;rw [<- bR] at e hf ⊢;have hm:Ch.length=4:=rfl;have fA:(Lh ft.length).length=4:=rfl;have hl:b.length=4+xs.flatten.length+ft.length+4:=by rw [e];simp only [Ak1,hm,fA]
 have e1:b.length-4=(Ch++xs.flatten++ft).length:=by simp only [Ak1,hm];omega
 have e2:b.length-4-ft.length=(Ch++xs.flatten).length:=by simp only [Ak1,hm];omega
 refine⟨by omega,?_,by omega,?_,?_⟩
 ·rw [e1,e,Amk];exact AgI _ (by omega)
 ·rw [e2,e1,e,AkW,Amk]
 ·rw [e2,e,Ak2 (Ch++xs.flatten),AkW,show 4=Ch.length from rfl,Amk]
def AjC(b:List UInt8)(w w':World)(v:Value):Prop :=
 Below w.heap.size w w'/\((∃ p cs aR n,v=.tuple #[.pointer (some p),.bool true]/\Ml w' p cs aR n/\∀ aC rows' gA,Et aC rows' gA b->cs=aC/\n=rows'.length/\rws aR=(AlB aC.length).map (Bs rows')) \/
  (v=.tuple #[.pointer none,.bool false]/\∀ aC rows' gA,¬ Et aC rows' gA b))
theorem tVV:MN Tryz.prog ty.Gt=some (ty.CE,1,24,.slice none 0 0):=by kernel_rfl
theorem tZZ:MN Tryz.prog ty.JG=some (ty.AU,7,72,.agg #[.int .i64 0,.int .i64 0,.int .i64 0,.string ⟨#[]⟩,.int .i64 0,.int .i64 0,.string ⟨#[]⟩]):=by kernel_rfl
def Aen(a:Option Addr)(c:Nat)(aR:List BG):It:=It.row ty.CE 1 a aR.length c (aR.map Cz)
def Afy(a:Option Addr)(c:Nat)(aR:List BG):It:=It.row ty.AU 7 a aR.length c (aR.flatMap U6)
section
variable {w0 w:World}{H:List It}{a:Option Addr}{c:Nat}{aR:List BG}
theorem Ada(S:ST w0 w H)(n:Nat)(hn:H[n]?=some (Aen a c aR)){x:BG}{b:Nat}(hs:Rd w (some ⟨b,0,none⟩) [Cz x])(hl:aR.length+1<=1000000){f:Value->World->Prop}
  (hf:∀ a' c' w',ST w0 w' (H.set n (Aen a' c' (aR++[x])))->f (.slice a' (aR++[x]).length c') w') :
  DE Tryz.prog (Builtin.append_ #[ty.Gt,ty.Gt] ty.Gt #[.slice a aR.length c,.slice (some ⟨b,0,none⟩) 1 1]) f w:=by
 refine S.app n hn tVV rfl (by omega) (by omega) hs (mm:=1) rfl (by simp [Cz];rfl) (by omega) λ a' c' w' S'=>?_;have e1:(aR++[x]).length=aR.length+1:=by simp
 have e2:aR.map Cz++[Cz x]=(aR++[x]).map Cz:=by simp
 rw [e2] at S';have:=hf a' c' w' (by unfold Aen;rw [e1];exact S');rwa [e1] at this
theorem Acn(S:ST w0 w H)(n:Nat)(hn:H[n]?=some (Afy a c aR)){x:BG}{b:Nat}(hs:Rd w (some ⟨b,0,none⟩) (U6 x))(hl:aR.length+1<=1000000){f:Value->World->Prop}
  (hf:∀ a' c' w',ST w0 w' (H.set n (Afy a' c' (aR++[x])))->f (.slice a' (aR++[x]).length c') w') :
  DE Tryz.prog (Builtin.append_ #[ty.JG,ty.JG] ty.JG #[.slice a aR.length c,.slice (some ⟨b,0,none⟩) 1 1]) f w:=by
 refine S.app n hn tZZ rfl (by omega) (by omega) hs (mm:=1) rfl (by simp [U6,zC];exact⟨rfl,rfl,rfl,rfl,rfl,rfl,rfl⟩) (by omega) λ a' c' w' S'=>?_;have e1:(aR++[x]).length=aR.length+1:=by simp
 have e2:aR.flatMap U6++U6 x=(aR++[x]).flatMap U6:=by simp
 rw [e2] at S';have:=hf a' c' w' (by unfold Afy;rw [e1];exact S');rwa [e1] at this
end
theorem DA{l:List UInt8}{at_:Int}{r:List BQ × Nat}(h:Bk l at_=some r):Aq r.1=true:=by
 unfold Bk at h;split at h
 ·cases h
 ·split at h
  ·cases h
  ·split at h
   ·cases h
   ·split at h
    ·rename_i hR;cases h;exact hR
    ·cases h
theorem W9.open{o:Option (List BQ × Nat)}{w0 w w':World}{v:Value}{H:List It}(S:ST w0 w H)(h:W9 o w w' v)(hr:∀ r,o=some r->Aq r.1=true):∃(cs:List BQ) (ca:Option Addr) (cc aL:Nat) (e:Int),v=.tuple #[.slice ca cs.length cc,.int .i64 (aL:Int),.int .i64 e]/\ST w0 w' (CK ca cc cs :: H) /\
  cs.length<=16/\((e=0/\o=some (cs,aL)/\Aq cs=true)\/(e≠0/\o=none)):=by
 cases o with
 | none =>
  obtain⟨rfl,B⟩:=h;exact⟨[],none,0,0,52,rfl,(S.grown B).nil _ _,by simp,.inr ⟨by decide,rfl⟩⟩
 | some r =>
  obtain⟨ca,cc,rfl,S2⟩:=h;have hR:=hr r rfl;exact⟨r.1,ca,cc,r.2,0,rfl,S.join S2,(A6 hR).2,.inl ⟨rfl,rfl,hR⟩⟩
theorem PlV.open{o:Option (Nat × List Nat)}{w0 w w':World}{v:Value}{H:List It}(S:ST w0 w H)(h:PlV o w w' v):∃(r:Nat) (ns:List Nat) (na:Option Addr) (nc:Nat) (ok:Bool),v=.tuple #[.int .i64 (r:Int),.slice na ns.length nc,.bool ok]/\ST w0 w' (Iq na nc ns :: H) /\
  ((ok=true/\o=some (r,ns))\/(ok=false/\o=none)):=by
 cases o with
 | none =>
  obtain⟨rfl,B⟩:=h;exact⟨0,[],none,0,false,rfl,(S.grown B).nil _ _,.inr ⟨rfl,rfl⟩⟩
 | some r =>
  obtain⟨na,nc,rfl,S2⟩:=h;exact⟨r.1,r.2,na,nc,true,rfl,S.join S2,.inl ⟨rfl,rfl⟩⟩
theorem AcO{w:World}{a:Option Addr}{ns:List Nat}(h:Rd w a (ns.map λ n:Nat=>Value.int .i64 (n:Int))){i:Nat}(hi:i<ns.length):∃ p,a=some p/\w.cell? (p.add (i*1))=some (.int .i64 (ns[i]:Int)):=by
 obtain⟨p,hp,hc⟩:=h i (.int .i64 (ns[i]:Int)) (by simp [hi]);exact⟨p,hp,by rw [Ak7];exact hc⟩
def rdI(q:BG):It:=It.rd q.1 (AO q.2.2)
theorem PD{w0 w w':World}{H:List It}{a:Option Addr}{xs:List Value}(S:ST w0 w H)(B:Below w.heap.size w w')(h:Y1 w w' a xs):ST w0 w' (It.rd a xs :: H):=by
 refine S.add B _ h.rd λ k hk=>h.new k ?_;cases xs with
 | nil=>cases hk
 | cons x xs=>exact hk
theorem Qq{xs:List (List UInt8)}{i:Nat}(hi:i<xs.length):(xs.drop i).flatten=xs[i]++(xs.drop (i+1)).flatten:=by
 rw [List.drop_eq_getElem_cons hi,AmB]
section
variable {w:World}{a:Option Addr}{c:Nat}{b:List UInt8}
theorem SI(hl:Rd w a (b.map Ag))(hc:b.length<=c){n:Nat}(h8:8<=b.length)(hn:n<=b.length-8) :
  Rd w (Ck (Ck a 0 c 1) (b.length-4-n) c 1) (((b.take (b.length-4)).drop (b.length-4-n)).map Ag)/\Rd w (Ck (Ck a 0 c 1) 4 c 1) (((b.take (b.length-4-n)).drop 4).map Ag):=by
 have h1:=hl.OV 0 (b.length-4) c 1 (by omega);have h2:=h1.OV (b.length-4-n) (b.length-4) c 1 (by omega);have h3:=h1.OV 4 (b.length-4-n) c 1 (by omega);simp only [Ak7,Amw,Amu] at h2 h3;constructor
 ·rw [<- Alw,<- Alv,<- Alw] at h2;have e:((b.take (b.length-4)).drop (b.length-4-n)).take (b.length-4-(b.length-4-n))=(b.take (b.length-4)).drop (b.length-4-n):=AlA (by rw [Alu,AlX];omega);rw [e] at h2;exact h2
 ·rw [<- Alw,<- Alv,<- Alw] at h3;have e:((b.take (b.length-4)).drop 4).take (b.length-4-n-4)=(b.take (b.length-4-n)).drop 4:=by
   rw [List.drop_take,List.drop_take,List.take_take];congr 1;omega
  rw [e] at h3;exact h3
theorem Tn(hl:Rd w a (b.map Ag))(hc:b.length<=c)(hs:b.length<=140737488355328)(h8:8<=b.length) :
  Calls Tryz.prog f.Y6 #[.slice a b.length c] w (AG λ v w'=>AjC b w w' v):=by
 apply R.NP
 delta R.A R.Ab R.Ad R.B R.EP R.WV R.Adt R.Ir R.Cf R.D R.F R.G R.H R.I R.J R.Ks R.Li R.Ls R.Lt R.N R.O R.P R.ER R.S R.Am R.T R.W R.X R.Y;try dsimp only [R.Ps]
 have eW:IntKind.i64.wrap ((b.length:Int)-4)=((b.length-4:Nat):Int):=by rw [wrap_i64 (by omega) (by omega)];omega
 rw [eW];simp only [Ak4,Amu];obtain⟨t,ht⟩:∃ t,t=b.drop (b.length-4):=⟨_,rfl⟩;have eR:t.length=4:=by rw [ht,Alu];omega
 have hrt:Rd w (Ck a (b.length-4) c 1) (t.map Ag):=by
  have h:=hl.OV (b.length-4) b.length c 1 hc;simp only [Ak7] at h;rw [<- Alv,<- Alw] at h;rw [ht];have e:(b.drop (b.length-4)).take (b.length-(b.length-4))=b.drop (b.length-4):=AlA (by rw [Alu];omega);rwa [e] at h
 refine (ST.start w).An λ b2 w1 _ _ S=>S.BR 0 rfl (aC:=#[.int .i64 0]) (by simp) rfl λ w2 S=>⟨⟨by omega,by omega,by omega⟩,?_⟩;have hB:=Aa7 (w:=w2) (a:=Ck a (b.length-4) c 1) (c:=c-(b.length-4)) (l:=t);rw [show b.length-(b.length-4)=t.length by omega];refine hB.mono ?_;rintro _ w3 ⟨_,rfl,bq,rfl,P⟩;have S:=S.join P;refine⟨_,_,_,rfl,by kernel_rfl,λ rr aA dR hy=>?_⟩;have S:=S.range rr;obtain⟨L,hL⟩:∃ L,L=w3.heap.size+1:=⟨_,rfl⟩;obtain⟨d,hd⟩:∃ d,d=w3.heap.size:=⟨_,rfl⟩;rw [<- hL] at S hy ⊢;rw [<- hd] at S ⊢;let J:Nat->World->Prop:=λ k wx=>ST w wx [It.obj L (.loop rr),It.obj d (.deferred (some [])),It.cells bq #[.slice (Ck a (b.length-4) c 1) t.length (c-(b.length-4))] ty.AH,It.cells b2 #[.int .i64 (Lj t k:Int)] ty.int];have bA:=Uj (w:=(w3.alloc (.deferred (some []))).alloc (.loop rr)) (a:=Ck a (b.length-4) c 1) (c:=c-(b.length-4)) (l:=t) (L:=L) (b:=bq) (by omega) J (λ k wx (hj:ST w wx _)=>⟨hrt.grown hj.Ar,hj.cell 2 rfl rfl⟩) (by
  rintro k wx hk (S:ST w wx _);have h1:=Pc (l:=t) k (by omega);have h2:256 ^ k<=256 ^ 3:=Nat.pow_le_pow_right (by omega) (by omega);have h3:(256:Nat) ^ 3=16777216:=by decide
  refine hy _ _ _ wx (S.get 0 rfl) ?_;refine S.AjU 0 rfl λ w5 S=>⟨_,S.cell 3 rfl rfl,?_⟩;rw [AhG (by omega) ((t[t.length-1-k]'(by omega)).toNat_lt)];rw [<- Sa hk];exact S.BR 3 rfl (aC:=#[.int .i64 (Lj t (k+1):Int)]) (by simp) rfl λ w6 S=>S.Ahr 0 aA dR rfl λ w7 S=>⟨rfl,S⟩) S
 refine bA.mono ?_;rw [eR];rintro _ w7 ⟨_,rfl,S⟩;obtain⟨n,hn⟩:∃ n,n=Lj t 4:=⟨_,rfl⟩;have S:ST w w7 [It.obj L (.loop rr),It.obj d (.deferred (some [])),It.cells bq #[.slice (Ck a (b.length-4) c 1) t.length (c-(b.length-4))] ty.AH,It.cells b2 #[.int .i64 (n:Int)] ty.int]:=by rw [hn];exact S
 have u7:n<4294967296:=by rw [hn];exact Pc (l:=t) 4 (by omega)
 have nW:∀ cs rows xs,Et cs rows xs b->n=(DQ cs rows xs).length:=λ cs rows xs h=>by rw [hn,ht];exact h.split.2.1
 refine⟨⟨_,rfl⟩,S.AfL 0 aA dR rfl λ w8 S=>⟨rfl,⟨by omega,by omega,by omega⟩,_,S.cell 3 rfl rfl,?_⟩⟩;have pP:IntKind.i64.wrap (((b.length-4:Nat):Int)-4)=((b.length-8:Nat):Int):=by rw [wrap_i64 (by omega) (by omega)];omega
 have bad:∀ {wx:World} {H:List It},ST w wx (It.obj d (.deferred (some [])) :: H)->(∀ aC rows' gA,¬ Et aC rows' gA b)->wx.heap[d]?=some (.deferred (some []))/\AjC b w (wx.putObj d (.deferred none)) (.tuple #[.pointer none,.bool false]):=λ S h=>⟨S.get 0 rfl,(S.put 0 rfl _).Ar,.inr ⟨rfl,h⟩⟩;refine Aa (λ h=>bad (S.drop 1) λ cs rows xs hP=>?_) (λ hle=>?_)
 ·have:=hP.split.2.2.1;have:=nW cs rows xs hP;rw [pP] at h;omega
 rw [pP] at hle;have mj:n<=b.length-8:=by omega
 refine S.draw λ w9 _ S=>⟨_,S.cell 3 rfl rfl,?_⟩;have r7:IntKind.i64.wrap (((b.length-4:Nat):Int)-(n:Int))=((b.length-4-n:Nat):Int):=by rw [wrap_i64 (by omega) (by omega)];omega
 rw [r7];simp only [Ak4];refine⟨⟨by omega,by omega,by omega⟩,_,S.cell 3 rfl rfl,?_⟩;rw [r7];simp only [Ak4];refine⟨⟨by omega,by omega,by omega⟩,?_⟩;obtain⟨iC,qM⟩:=SI hl hc h8 mj;obtain⟨ft,bR⟩:∃ ft,ft=(b.take (b.length-4)).drop (b.length-4-n):=⟨_,rfl⟩;obtain⟨bd,gP⟩:∃ bd,bd=(b.take (b.length-4-n)).drop 4:=⟨_,rfl⟩;rw [<- bR] at iC;rw [<- gP] at qM;obtain⟨fa,hfa⟩:∃ fa,fa=Ck (Ck a 0 c 1) (b.length-4-n) c 1:=⟨_,rfl⟩;obtain⟨ba,hba⟩:∃ ba,ba=Ck (Ck a 0 c 1) 4 c 1:=⟨_,rfl⟩;rw [<- hfa] at iC ⊢;rw [<- hba] at qM ⊢;have kX:ft.length=b.length-4-(b.length-4-n):=by rw [bR,Alu,AlX];omega
 have pq:bd.length=b.length-4-n-4:=by rw [gP,Alu,AlX];omega
 rw [<- kX,<- pq];have cO:∀ cs rows xs,Et cs rows xs b->ft=DQ cs rows xs/\bd=xs.flatten:=λ cs rows xs hP=>by
  have e:=nW cs rows xs hP;have:=hP.split.2.2.2;rw [<- e] at this;exact⟨by rw [bR];exact this.1,by rw [gP];exact this.2⟩
 have hT:=L7 (c:=c-(b.length-4-n)) (iC.grown S.Ar) (by omega) (by omega) 0;refine hT.mono ?_;rintro _ bZ ⟨_,rfl,hT⟩;obtain⟨cs,ca,cc,aL,e,rfl,S,bM,al⟩:=hT.open S (λ r h=>DA h);refine⟨_,_,_,_,_,rfl,(P5 (c:=c-(b.length-4-n)) (iC.grown S.Ar) (by omega) (by omega) (aL:Int) cs.length (by omega)).mono ?_⟩;rintro _ aX ⟨_,rfl,sA⟩;obtain⟨r,ns,na,nc,ok,rfl,S,jH⟩:=sA.open S;refine⟨_,_,_,_,_,rfl,Ah (λ h=>bad (S.drop 3) λ aC rows xs hP=>?_) (λ he=>Au (Ap (λ aK=>?_) (λ aK=>bad (S.drop 3) λ aC rows xs hP=>?_)))⟩
 ·have h2:=Je (xs:=xs) hP.ok;rw [<- (cO aC rows xs hP).1] at h2;rcases al with ⟨h3,_⟩ | ⟨_,h3⟩
  ·exact h h3
  ·rw [h2] at h3;cases h3
 rotate_left
 ·have h2:=Je (xs:=xs) hP.ok;rw [<- (cO aC rows xs hP).1] at h2;rcases al with ⟨_,h3,_⟩ | ⟨h3,_⟩
  ·rw [h2] at h3;have h4:=Al8 h3;obtain rfl:aC=cs:=congrArg AmC h4;obtain rfl:(CG aC).length=aL:=congrArg Prod.snd h4;have h5:=TT (lim:=1073741824) (by omega) hP.ok hP.chs hP.len;rw [<- (cO aC rows xs hP).1] at h5;rcases jH with ⟨h6,_⟩ | ⟨_,h6⟩
   ·rw [aK] at h6;cases h6
   ·rw [h5] at h6;cases h6
  ·exact h3 he
 have gC:Bk ft 0=some (cs,aL)/\Aq cs=true:=by
  rcases al with ⟨_,h3⟩ | ⟨h3,_⟩
  ·exact h3
  ·exact absurd he h3
 have jE:Eo 1073741824 ft (aL:Int) cs.length=some (r,ns):=by
  rcases jH with ⟨_,h6⟩ | ⟨h6,_⟩
  ·exact h6
  ·rw [aK] at h6;cases h6
 obtain⟨bn,fH⟩:=U1 jE;simp only at bn fH;have key:∀ aC rows xs,Et aC rows xs b->cs=aC/\r=rows.length/\ns=xs.map Amp/\bd=xs.flatten:=λ aC rows xs hP=>by
  have h2:=Je (xs:=xs) hP.ok;rw [<- (cO aC rows xs hP).1,gC.1] at h2;have h4:=Al8 h2;obtain rfl:cs=aC:=congrArg AmC h4;obtain rfl:aL=(CG cs).length:=congrArg Prod.snd h4;have h5:=TT (lim:=1073741824) (by omega) hP.ok hP.chs hP.len;rw [<- (cO cs rows xs hP).1,jE] at h5;have h6:=Al8 h5;exact⟨rfl,congrArg AmC h6,congrArg Prod.snd h6,(cO cs rows xs hP).2⟩
 refine S.An λ eh bJ _ _ S=>?_;have S:=((S.nil ty.AU 7).nil ty.CE 1).pull 2 rfl;obtain⟨oL,hoL⟩:∃ oL,oL=Obj.loop { rr with state:=.exhausted,pending:=none }:=⟨_,rfl⟩;let Hq:Option Addr->Nat->Option Addr->Nat->List BG->List It:=λ va vc za zc aR=>It.cells eh #[.slice ca cs.length cc,.slice va aR.length vc,.slice za aR.length zc,.int .i64 (r:Int)] ty.GY :: Aen va vc aR :: Afy za zc aR :: Iq na nc ns :: CK ca cc cs ::
  It.obj L oL :: It.obj d (.deferred (some [])) :: It.cells bq #[.slice (Ck a (b.length-4) c 1) t.length (c-(b.length-4))] ty.AH :: It.cells b2 #[.int .i64 (n:Int)] ty.int :: aR.reverse.map rdI
 let Inv:List Value->World->Prop:=λ s wx=>∃(i:Nat) (rest:List UInt8) (ra:Option Addr) (rc:Nat) (aR:List BG) (va:Option Addr) (vc:Nat) (za:Option Addr) (zc:Nat),s=[.slice ra rest.length rc,.int .i64 (i:Int)]/\i<=ns.length/\aR.length=i/\rest.length<=rc/\rest.length<=b.length/\Rd w ra (rest.map Ag) /\
  (∀ q∈aR,q.2.2.length=r/\∃ k,Bc k q.2.2)/\(∀ aC rows xs,Et aC rows xs b->rest=(xs.drop i).flatten/\rws aR=(AlB i).map (Bs rows))/\ST w wx (Hq va vc za zc aR)
 let Mu:List Value->World->Nat:=λ s _=>match s with
   | [_,.int _ i]=>ns.length-i.toNat
   | _=>0
 refine⟨Inv,Mu,⟨0,bd,ba,c-4,[],none,0,none,0,rfl,by omega,rfl,by omega,by omega,qM,by simp,λ aC rows xs hP=>⟨by rw [(key aC rows xs hP).2.2.2];rfl,rfl⟩,by simp only [Hq];rw [hoL];exact S⟩,?_⟩;rintro ra _ rc _ aj ⟨i,rest,_,_,aR,va,vc,za,zc,aA,hi,uk,hrc,kI,hR,cW,aV,S⟩;cases aA;refine Aa (λ aB=>⟨⟨by omega,aB⟩,?_⟩) (λ aJ=>?_)
 ·have aD:i<ns.length:=by omega
  have hN:Rd aj na (ns.map λ n:Nat=>Value.int .i64 (n:Int)):=S.rd 3 rfl;obtain⟨pn,hpn,lJ⟩:=AcO hN aD;rw [hpn];have dF:∀ aC rows xs,Et aC rows xs b->∃ hx:i<xs.length,ns[i]=xs[i].length/\rest=xs[i]++(xs.drop (i+1)).flatten:=λ aC rows xs hP=>by
   have h1:=(key aC rows xs hP).2.2.1;have hx:i<xs.length:=by rw [h1,Alh] at aD;exact aD
   refine⟨hx,?_,by rw [(aV aC rows xs hP).1,Qq hx]⟩;simp [h1]
  refine⟨_,by rw [Ak4];exact lJ,Aa (λ h=>bad (S.pull 6 rfl) λ aC rows xs hP=>?_) (λ cY=>?_)⟩
  ·obtain⟨hx,h1,h2⟩:=dF aC rows xs hP;have:=congrArg Amp h2;rw [Ak1] at this;omega
  have qR:ns[i]<=rest.length:=by omega
  simp only [Ak4];refine⟨⟨by omega,by omega,by omega⟩,?_⟩;have bD:Rd w (Ck ra 0 rc 1) ((rest.take ns[i]).map Ag):=by
   have h:=hR.OV 0 ns[i] rc 1 (by omega);simp only [Ak7,Amw,Amu] at h;rw [<- Alw] at h;exact h
  have hsr:Rd w (Ck ra ns[i] rc 1) ((rest.drop ns[i]).map Ag):=by
   have h:=hR.OV ns[i] rest.length rc 1 hrc;simp only [Ak7] at h;rw [<- Alv,<- Alw] at h;have e:(rest.drop ns[i]).take (rest.length-ns[i])=rest.drop ns[i]:=AlA (by rw [Alu];omega);rwa [e] at h
  have vG:(rest.take ns[i]).length=ns[i]:=by rw [AlX];omega
  have hD:=Ti (c:=rc) (bD.grown S.Ar) (by omega) (by omega);rw [vG] at hD;refine hD.mono ?_;rintro _ an ⟨_,rfl,K,ls,la,lc,e,rfl,kA,pB,oH,aG⟩;have S:=PD S pB kA;have fw:∀ aC rows xs,Et aC rows xs b->e=0/\ls=Bs rows i:=λ aC rows xs hP=>by
   obtain⟨hx,h1,h2⟩:=dF aC rows xs hP;have lU:i<aC.length:=by have:=hP.len;omega
   have h3:rest.take ns[i]=xs[i]:=by rw [h1,h2,AkW]
   have h4:=hP.chs.each i lU hx;rw [<- h3] at h4;rcases aG with ⟨_,_,he,hu⟩ | ⟨aP,_⟩
   ·exact⟨he,((hu _ _ (hP.ok.D1 lU) h4).2).symm⟩
   ·exact absurd h4 (aP _ _ (hP.ok.D1 lU))
  refine⟨_,_,_,_,_,rfl,Ah (λ h=>bad (S.pull 7 rfl) λ aC rows xs hP=>h (fw aC rows xs hP).1) (λ he=>Ah (λ h=>bad (S.pull 7 rfl) λ aC rows xs hP=>?_) (λ hlr=>?_))⟩
  ·apply h;rw [(fw aC rows xs hP).2,Gl,(key aC rows xs hP).2.1]
  obtain⟨hg,hC⟩:Bc K ls/\True:=by
   rcases aG with ⟨hg,_⟩ | ⟨_,_,_,h80⟩
   ·exact⟨hg,trivial⟩
   ·omega
  refine (Nx (c:=lc) (S.ok (It.rd la (AO ls)) (by simp))).mono ?_;rintro _ ah ⟨_,rfl,tt,dq⟩;rcases tt with ⟨_,rfl⟩ | ⟨aP,_⟩
  case inr=>exact absurd hg.GS aP
  have S:=S.grown dq;obtain⟨q,hq⟩:∃ q:BG,q=(la,lc,ls):=⟨_,rfl⟩;refine⟨_,_,_,_,_,_,_,_,rfl,S.An λ xL cf _ _ S=>S.Zl 0 rfl λ gW S=>S.draw λ fJ _ S=>⟨⟨by omega,by omega,by omega⟩,_,_,_,S.cell 2 rfl rfl,_,_,_,S.cell 2 rfl rfl,_,S.cell 0 rfl rfl,_,S.cell 0 rfl rfl,_,S.cell 0 rfl rfl,_,S.cell 0 rfl rfl,_,S.cell 0 rfl rfl,_,S.cell 0 rfl rfl,_,S.cell 0 rfl rfl,?_⟩⟩;have gq:aR.length+1<=1000000:=by omega
  have fin:∀(wx:World) (x0 x1 x2:It) (fz:Option Addr) (gE:Nat) (gb:Option Addr) (gT:Nat),ST w wx (x0 :: x1 :: x2 :: It.rd la (AO ls) :: It.cells eh #[.slice ca cs.length cc,.slice va aR.length vc,.slice za aR.length zc,.int .i64 (r:Int)] ty.GY :: Aen fz gE (aR++[q]) :: Afy gb gT (aR++[q]) :: Iq na nc ns :: CK ca cc cs ::
     It.obj L oL :: It.obj d (.deferred (some [])) :: It.cells bq #[.slice (Ck a (b.length-4) c 1) t.length (c-(b.length-4))] ty.AH :: It.cells b2 #[.int .i64 (n:Int)] ty.int :: aR.reverse.map rdI) ->
    DV ⟨eh,1,none⟩ (.slice fz (aR++[q]).length gE) (λ kD=>DV ⟨eh,2,none⟩ (.slice gb (aR++[q]).length gT) (λ eA=>Inv [.slice (Ck ra ns[i] rc 1) (rest.length-ns[i]) (rc-ns[i]),.int .i64 (IntKind.i64.wrap ((i:Int)+1))] eA /\
     Mu [.slice (Ck ra ns[i] rc 1) (rest.length-ns[i]) (rc-ns[i]),.int .i64 (IntKind.i64.wrap ((i:Int)+1))] eA<Mu [.slice ra rest.length rc,.int .i64 (i:Int)] aj) kD) wx:=by
   intro wx x0 x1 x2 fz gE gb gT S;refine S.BR 4 rfl (aC:=#[.slice ca cs.length cc,.slice fz (aR++[q]).length gE,.slice za aR.length zc,.int .i64 (r:Int)]) (by simp) rfl λ kD S=>S.BR 4 rfl (aC:=#[.slice ca cs.length cc,.slice fz (aR++[q]).length gE,.slice gb (aR++[q]).length gT,.int .i64 (r:Int)]) (by simp) rfl λ eA S=>?_;rw [Ae (by omega)];have bj:(rest.drop ns[i]).length=rest.length-ns[i]:=Alu;refine⟨⟨i+1,rest.drop ns[i],Ck ra ns[i] rc 1,rc-ns[i],aR++[q],fz,gE,gb,gT,by rw [bj],by omega,by simp [uk],by omega,by omega,hsr,λ q' kP=>?_,λ aC rows xs hP=>?_,?_⟩,?_⟩
   ·rcases AlY.1 kP with h | h
    ·exact cW q' h
    ·rw [List.mem_singleton.1 h,hq];exact⟨by show ls.length=r;omega,K,hg⟩
   ·obtain⟨hx,h1,h2⟩:=dF aC rows xs hP;refine⟨by rw [h2,h1,Amk],?_⟩;rw [rws,Alk,List.range_succ,Alk];have:=(aV aC rows xs hP).2;rw [rws] at this;rw [this];simp [hq,(fw aC rows xs hP).2]
   ·have S3:=S.drop 3;show ST w eA (Hq fz gE gb gT (aR++[q]));have e:(aR++[q]).reverse.map rdI=It.rd la (AO ls) :: aR.reverse.map rdI:=by
     rw [List.reverse_append,Alk,hq];rfl
    simp only [Hq];rw [e];exact S3.perm (List.perm_middle (l₁:=[It.cells eh #[.slice ca cs.length cc,.slice fz (aR++[q]).length gE,.slice gb (aR++[q]).length gT,.int .i64 (r:Int)] ty.GY,Aen fz gE (aR++[q]),Afy gb gT (aR++[q]),Iq na nc ns,CK ca cc cs,It.obj L oL,It.obj d (.deferred (some [])),It.cells bq #[.slice (Ck a (b.length-4) c 1) t.length (c-(b.length-4))] ty.AH,It.cells b2 #[.int .i64 (n:Int)] ty.int])).symm
   ·show ns.length-((i+1:Nat):Int).toNat<ns.length-((i:Nat):Int).toNat;simp only [Ak4];omega
  have lZ:Cz q=.slice la ls.length lc:=by rw [hq];rfl
  have tL:U6 q=(zC (As ls:Int) (F7 ls)).toList:=by rw [hq];rfl
  refine⟨S.An λ xv gG _ _ S=>⟨⟨S.cell 1 rfl rfl,S.cell 1 rfl rfl,S.cell 1 rfl rfl,S.cell 1 rfl rfl,S.cell 1 rfl rfl,S.cell 1 rfl rfl,S.cell 1 rfl rfl⟩,S.cell 3 rfl rfl,S.cell 3 rfl rfl,?_,?_⟩,S.An λ b61 rU _ _ S=>⟨S.cell 3 rfl rfl,S.cell 3 rfl rfl,S.An λ zm iU _ _ S=>⟨S.cell 4 rfl rfl,S.cell 4 rfl rfl,?_⟩⟩⟩
  ·have im:Rd gG (some ⟨xv,0,none⟩) [Cz q]:=by rw [lZ];exact S.Gw 0 rfl
   refine Ada S 4 rfl im gq λ fz gE jl S=>⟨_,_,_,rfl,⟨S.cell 1 rfl rfl,S.cell 1 rfl rfl,S.cell 1 rfl rfl,S.cell 1 rfl rfl,S.cell 1 rfl rfl,S.cell 1 rfl rfl,S.cell 1 rfl rfl⟩,S.cell 3 rfl rfl,S.An λ zS kN _ _ S=>⟨S.cell 4 rfl rfl,?_⟩⟩;have eB:Rd kN (some ⟨zS,0,none⟩) (U6 q):=by rw [tL];exact S.Gw 0 rfl
   exact Acn S 6 rfl eB gq λ gb gT nE S=>⟨_,_,_,rfl,fin nE _ _ _ fz gE gb gT S⟩
  ·refine S.An λ te kB _ _ S=>⟨S.cell 4 rfl rfl,S.cell 4 rfl rfl,?_⟩;have im:Rd kB (some ⟨xv,0,none⟩) [Cz q]:=by rw [lZ];exact S.Gw 1 rfl
   refine Ada S 5 rfl im gq λ fz gE cQ S=>⟨_,_,_,rfl,S.cell 4 rfl rfl,?_⟩;have eB:Rd cQ (some ⟨te,0,none⟩) (U6 q):=by rw [tL];exact S.Gw 0 rfl
   exact Acn S 6 rfl eB gq λ gb gT iQ S=>⟨_,_,_,rfl,fin iQ _ _ _ fz gE gb gT S⟩
  ·have im:Rd iU (some ⟨zm,0,none⟩) [Cz q]:=by rw [lZ];exact S.Gw 0 rfl
   refine Ada S 5 rfl im gq λ fz gE q7 S=>⟨_,_,_,rfl,S.cell 4 rfl rfl,?_⟩;have eB:Rd q7 (some ⟨b61,0,none⟩) (U6 q):=by rw [tL];exact S.Gw 1 rfl
   exact Acn S 6 rfl eB gq λ gb gT jt S=>⟨_,_,_,rfl,fin jt _ _ _ fz gE gb gT S⟩
 ·have bG:i=ns.length:=by omega
  refine⟨S.get 6 rfl,?_⟩;have S:=S.put 6 rfl (.deferred none);refine⟨S.Ar,.inl ⟨⟨eh,0,none⟩,cs,aR,r,rfl,⟨⟨ca,cc,S.cell 0 rfl rfl,S.rd 4 rfl⟩,⟨va,vc,S.cell 0 rfl rfl,S.rd 1 rfl,λ q hq=>?_⟩,⟨za,zc,S.cell 0 rfl rfl,S.rd 2 rfl⟩,S.cell 0 rfl rfl,gC.2,by omega,fH,cW⟩,λ aC rows xs hP=>?_⟩⟩
  ·have hm:rdI q∈aR.reverse.map rdI:=AkK.2 ⟨q,List.mem_reverse.2 hq,rfl⟩;exact S.ok (rdI q) (List.mem_of_mem_drop (i:=9) hm)
  ·obtain⟨h1,h2,h3,h4⟩:=key aC rows xs hP;refine⟨h1,h2,?_⟩;rw [(aV aC rows xs hP).2,bG,bn,h1]
end
def I1(l:List UInt8):Prop:=40<=l.length/\l.drop (l.length-32)=Iw (l.take (l.length-32))
theorem FO.pre{cs:List BQ}{rows:List (List AB)}{l:List UInt8}(hs:Bv cs rows)(h:FO cs rows l):∃ xs,Et cs rows xs (l.take (l.length-32))/\I1 l:=by
 obtain⟨xs,h1,h2,rfl⟩:=h.ex;have h8:8<=(KC cs rows xs).length:=(Et.split ⟨hs,h2,h1,rfl⟩).1;obtain⟨dg,hdg⟩:∃ dg,dg=Iw (KC cs rows xs):=⟨_,rfl⟩;have bj:dg.length=32:=by rw [hdg];exact FK _
 have e:(Me (KC cs rows xs)).length-32=(KC cs rows xs).length:=by
  unfold Me;rw [<- hdg,Ak1,bj];omega
 have e2:(Me (KC cs rows xs)).take ((Me (KC cs rows xs)).length-32)=KC cs rows xs:=by
  rw [e];unfold Me;rw [<- hdg,AkW]
 refine⟨xs,⟨hs,h2,h1,e2⟩,?_,?_⟩
 ·unfold Me;rw [<- hdg,Ak1,bj];omega
 ·rw [e2,e];unfold Me;rw [<- hdg,Amk,hdg]
theorem Se{cs:List BQ}{rows:List (List AB)}(h:∀ r∈rows,r.length=cs.length):rowsOf ((AlB cs.length).map (Bs rows)) rows.length=rows:=by
 refine Amx (by simp [rowsOf]) λ i h1 h2=>?_;simp only [rowsOf,List.getElem_map,List.getElem_range,rowAt,List.map_map];have hl:=h _ (AlI h2);refine Amx (by simp [hl]) λ j g1 g2=>?_;simp [Bs,AmA,h2,g2]
def Ajj(l:List UInt8)(w w':World)(v:Value):Prop :=
 Below w.heap.size w w'/\((∃ g p cs aR n,v=.tuple #[.pointer (some g),.int .i64 0]/\w'.cell? g=some (.pointer (some p))/\Ml w' p cs aR n/\Bv cs (rowsOf (rws aR) n)/\FO cs (rowsOf (rws aR) n) l /\
   ∀ aC rows',Bv aC rows'->FO aC rows' l->aC=cs/\rows'=rowsOf (rws aR) n/\n=rows'.length/\rws aR=(AlB aC.length).map (Bs rows')) \/
  (v=.tuple #[.pointer none,.int .i64 91]/\¬ I1 l)\/(v=.tuple #[.pointer none,.int .i64 90]/\I1 l/\∀ aC rows',Bv aC rows'->¬ FO aC rows' l))
theorem Ml.grown{w w':World}{p:Addr}{cs:List BQ}{aR:List BG}{n:Nat}(h:Ml w p cs aR n)(B:Below w.heap.size w w'):Ml w' p cs aR n:=by
 have K:=Ai.AA (F:=λ _=>False) B;obtain⟨a0,c0,h1,h2⟩:=h.AM;obtain⟨a1,c1,h3,h4⟩:=h.AjM;obtain⟨a2,c2,h5,h6⟩:=h.Aj5;exact⟨⟨a0,c0,K.cell h1 (by simp),h2.grown B⟩,⟨a1,c1,K.cell h3 (by simp),h4.grown B⟩,⟨a2,c2,K.cell h5 (by simp),h6.grown B⟩,K.cell h.many (by simp),h.right,h.len,h.small,h.each⟩
section
variable {w:World}
theorem SZ(T:I8 w)(s:ByteArray)(hs:s.size<=140737488355328):Calls Tryz.prog f.XG #[.string s] w (AG λ v w'=>Ajj (bl s) w w' v):=by
 apply R.NU
 delta R.A R.B R.AjL R.Iy R.Cs R.D R.F R.H R.I R.J R.Ls R.N R.P R.Rs R.Rt R.S R.T R.W R.Y;try dsimp only [R.Ps]
 have au:=A9 s;obtain⟨l,hl⟩:∃ l,l=bl s:=⟨_,rfl⟩;rw [<- hl] at au;have aP:s.size<40->¬ I1 l:=λ h hd=>by have:=hd.1;omega
 rw [<- hl];refine Aa (λ h=>⟨.refl _ _,.inr (.inl ⟨rfl,aP (by omega)⟩)⟩) (λ ov=>?_);have nH:40<=l.length:=by omega
 refine CF CB s w λ b0 c0 cells e0 w1 bh B1 jW al iY dA=>?_;have dP:Rd w1 (some ⟨b0,0,none⟩) (l.map Ag):=by
  have:=(Rd.Ak jW).take s.size;rw [dA,<- hl] at this;exact this
 have eW:IntKind.i64.wrap ((s.size:Int)-32)=((l.length-32:Nat):Int):=by rw [wrap_i64 (by omega) (by omega)];omega
 refine⟨_,_,_,rfl,?_⟩;rw [eW];simp only [Ak4,Amu];obtain⟨l1,dh⟩:∃ l1,l1=l.take (l.length-32):=⟨_,rfl⟩;have oC:l1.length=l.length-32:=by rw [dh,AlX];omega
 obtain⟨a1,ha1⟩:∃ a1,a1=Ck (some ⟨b0,0,none⟩) 0 c0 1:=⟨_,rfl⟩;have sk:Rd w1 a1 (l1.map Ag):=by
  have h:=dP.OV 0 (l.length-32) c0 1 (by omega);simp only [Ak7,Amw,Amu] at h;rw [<- Alw,<- dh,<- ha1] at h;exact h
 rw [<- ha1,<- oC];have S:=PD (ST.start w) B1 (a:=some ⟨b0,0,none⟩) (xs:=l.map Ag) ⟨dP,λ k hk=>by cases hk;exact Nat.le_of_eq bh.symm⟩;refine⟨⟨by omega,by omega,by omega⟩,S.An λ b4 w2 _ B2 S=>?_⟩;have gU:Rd w2 (some ⟨b4,0,none⟩) ([(a1,c0,l1)].map BZ):=S.Gw 0 rfl;have e2:BV [(a1,c0,l1)]=l1:=by simp [BV]
 refine (Mp (c:=1) (T.grown S.Ar) [(a1,c0,l1)] gU (by
   intro p hp;simp only [AkL,Al5,or_false] at hp;subst hp;exact sk.grown B2) (by simp) (by rw [e2];omega)).mono ?_
 rw [e2];rintro _ w3 ⟨_,rfl,rfl,B3⟩;have S:=S.grown B3;have bj:(Iw l1).length=32:=FK _;obtain⟨dg,hdg⟩:∃ dg,dg=Iw l1:=⟨_,rfl⟩;rw [<- hdg] at bj ⊢;have jS:(dg.map Ag).length=32:=by rw [Alh];exact bj
 refine I6 dg bj ⟨rfl,S.An λ b7 w4 _ B4 S=>Ds jS (S.En 0 rfl jS (Ge _) λ w5 S=>S.draw λ w6 _ S=>⟨⟨by omega,by omega,by omega⟩,⟨by omega,by omega,by omega⟩,?_⟩)⟩;have p9:Rd w6 (Ck (some ⟨b7,0,none⟩) 0 32 1) (dg.map Ag):=by
  have h:=(S.Gw 0 rfl).OV 0 32 32 1 (by omega);have e:(Amy ((32-0)*1) (Amz (0*1) (dg.map Ag)))=dg.map Ag:=by
   rw [Al6,Amw];exact AlA (by rw [Alh];omega)
  have h':Rd w6 (Ck (some ⟨b7,0,none⟩) 0 32 1) (Amy ((32-0)*1) (Amz (0*1) (dg.map Ag))):=h;rwa [e] at h'
 refine Aw CB bj.symm p9 ⟨_,rfl,?_⟩;have wj:s.extract l1.length s.size=BC (l.drop (l.length-32)):=by
  rw [extract_eq,<- hl,oC];congr 1;exact AlA (by rw [Alu];omega)
 rw [wj,AZ];have j':I1 l↔BC dg=BC (l.drop (l.length-32)):=by
  unfold I1;rw [<- dh,<- hdg];constructor
  ·intro h;rw [h.2]
  ·intro h;have:=congrArg bl h;rw [BP,BP] at this;exact⟨nH,this.symm⟩
 refine Au (Aa (λ hd=>⟨⟨by omega,by omega,by omega⟩,?_⟩) (λ hd=>⟨S.Ar,.inr (.inl ⟨rfl,λ h=>hd (j'.1 h)⟩)⟩));have hD:=j'.2 hd;have wo:Rd w6 (some ⟨b0,0,none⟩) (l.map Ag):=S.ok (It.rd (some ⟨b0,0,none⟩) (l.map Ag)) (List.mem_of_mem_drop (i:=2) (by simp));have tV:Rd w6 a1 (l1.map Ag):=by
  have h:=wo.OV 0 (l.length-32) c0 1 (by omega);simp only [Ak7,Amw,Amu] at h;rw [<- Alw,<- dh,<- ha1] at h;exact h
 refine (Tn tV (by omega) (by omega) (by omega)).mono ?_;rintro _ w8 ⟨_,rfl,B8,hC⟩;have S:=S.grown B8;have no:(∀ aC rows' gA,¬ Et aC rows' gA l1)->∀ aC rows',Bv aC rows'->¬ FO aC rows' l:=λ h aC rows' bU hI=>by
  obtain⟨xs,hP,_⟩:=hI.pre bU;rw [<- dh] at hP;exact h _ _ _ hP
 rcases hC with ⟨p,cs,aR,n,rfl,hA,hu⟩ | ⟨rfl,hno2⟩
 ·have iN:∀ aC rows',Bv aC rows'->FO aC rows' l->aC=cs/\rows'=rowsOf (rws aR) n/\n=rows'.length/\rws aR=(AlB aC.length).map (Bs rows'):=λ aC rows' bU hI=>by
   obtain⟨xs,hP,_⟩:=hI.pre bU;rw [<- dh] at hP;obtain⟨h1,h2,h3⟩:=hu aC rows' xs hP;refine⟨h1.symm,?_,h2,h3⟩;rw [h3,h2,Se λ r hr=>bU.Ue hr]
  refine⟨_,_,rfl,Au (CQ (S.draw λ w9 B9 S=>?_))⟩;have ru:=hA.grown B9;obtain⟨ca,cc,gH,cG⟩:=ru.AM;obtain⟨va,vc,hv1,gn⟩:=ru.AjM;have bM:=A6 hA.right;have dQ:=hA.small;refine⟨_,_,_,gH,(Ai4 ru.many hv1 gn (by omega) (by have:=hA.len;omega) (λ q hq=>(hA.each q hq).1)).mono ?_⟩;rintro _ bZ ⟨_,rfl,bo,ps,rfl,bL,cM,uy,cA⟩;have sL:=ru.grown cA;have S:=S.grown cA;have xY:=Ai.AA (F:=λ _=>False) cA;refine⟨_,_,_,rfl,xY.cell gH (by simp),?_⟩;have hW:=I5 (c:=cc) (c2:=n) (T.grown S.Ar) (cG.grown cA) (by omega) (λ c hc=>by have:=(Dq hA.right hc).2.2.2;omega) uy (by omega) (by
   intro r hr v hv;rw [cM] at hr;obtain⟨i,hi,rfl⟩:=AkK.1 hr;obtain⟨dN,dp,rfl⟩:=AkK.1 hv;obtain⟨q,hq,rfl⟩:=AkK.1 dp;obtain⟨kQ,k,hg⟩:=hA.each q hq;have aD:i<q.2.2.length:=by have:=List.mem_range.1 hi;omega
   have e:q.2.2.getD i Z0=q.2.2[i]:=by simp [AmA,aD]
   rw [e];exact hg.ok _ (AlI aD))
  rw [bL] at hW;refine hW.mono ?_;rintro _ aX ⟨_,rfl,hV,cF⟩;have S:=S.grown cF;have uA:=sL.grown cF;rw [cM] at hV;rcases hV with ⟨hnok,rfl,hE⟩ | ⟨aK,b,rfl,hI⟩
  ·refine⟨_,_,rfl,Ah (λ _=>⟨S.Ar,.inr (.inr ⟨rfl,hD,λ aC rows' bU hI=>?_⟩)⟩) (λ h=>absurd h hE)⟩;obtain⟨rfl,rfl,_⟩:=iN aC rows' bU hI;exact hnok bU
  ·refine⟨_,_,rfl,Ah (λ h=>absurd rfl h) (λ _=>?_)⟩;rw [AZ];refine Au (Aa (λ he=>?_) (λ he=>⟨S.Ar,.inr (.inr ⟨rfl,hD,λ aC rows' bU jo=>?_⟩)⟩))
   ·have je:b=l:=by have:=congrArg bl he;rwa [BP,<- hl] at this
    subst je;refine S.An λ jr bJ _ ig S=>⟨S.Ar,.inl ⟨⟨jr,0,none⟩,p,cs,aR,n,rfl,S.cell 0 rfl rfl,uA.grown ig,aK,hI,iN⟩⟩
   ·obtain⟨rfl,rfl,_⟩:=iN aC rows' bU jo;exact he (by rw [hI.one jo,hl,EI])
 ·exact⟨_,_,rfl,Au (AV ⟨S.Ar,.inr (.inr ⟨rfl,hD,no hno2⟩)⟩)⟩
end
section
variable {w:World}{g p:Addr}{cs:List BQ}{aR:List BG}{n:Nat}
theorem AjX(hg:w.cell? g=some (.pointer (some p))):Calls Tryz.prog f.NQ #[.pointer (some g)] w (AG λ v w'=>v=.pointer (some p)/\w'=w):=by
 apply R.IA
 delta R.F R.Lp R.P;try dsimp only [R.Ps]
 exact AV ⟨_,hg,rfl,rfl⟩
theorem Ado(hg:w.cell? g=some (.pointer (some p)))(h:Ml w p cs aR n):Calls Tryz.prog f.Mk #[.pointer (some g)] w (AG λ v w'=>v=.int .i64 (n:Int)/\w'=w):=by
 apply R.HT
 delta R.Ci R.Cp R.I R.P;try dsimp only [R.Ps]
 refine (AjX hg).mono ?_;rintro _ w1 ⟨_,rfl,rfl,rfl⟩;have h':Calls Tryz.prog f.LZ #[.pointer (some p)] w1 (AG λ v w'=>v=.int .i64 (n:Int)/\w'=w1):=by
  apply R.HZ
  delta R.F R.I R.Li;try dsimp only [R.Ps]
  exact AV ⟨_,h.many,rfl,rfl⟩
 refine⟨_,rfl,h'.mono ?_⟩;rintro _ w2 ⟨_,rfl,rfl,rfl⟩;exact⟨_,rfl,rfl,rfl⟩
end
theorem FO.len{cs:List BQ}{rows:List (List AB)}{b:List UInt8}(hs:Bv cs rows)(h:FO cs rows b):b.length<=40000000:=by
 obtain⟨xs,h1,h2,rfl⟩:=h.ex;have:=h2.Aca hs;have hd:=FK (KC cs rows xs);unfold Me;rw [Ak1,hd];omega
theorem Xt{f:Int->Value}{m:Nat}:∀(gZ:List (List Int)) (cs:List Value),cs.length=gZ.length*m->(∀ i (hi:i<gZ.length),(cs.drop (i*m)).take m=gZ[i].map f)->cs=gZ.flatten.map f
 | [],cs,hl,_=>by
  have:cs=[]:=List.eq_nil_of_length_eq_zero (by simpa using hl);rw [this];rfl
 | z :: zs,cs,hl,h=>by
  have h0:=h 0 (by simp);simp only [Al6,Amw,List.getElem_cons_zero] at h0;have ih:=Xt (m:=m) zs (cs.drop m) (by rw [Alu,hl,Ak3,Nat.add_mul];omega) (λ i hi=>by
   have:=h (i+1) (by simp;omega);rw [List.drop_drop];rw [show m+i*m=(i+1)*m by rw [Nat.add_mul];omega];exact this)
  rw [AmB,Alk,<- h0,<- ih,List.take_append_drop]
theorem V6{H:Type}{enc:TypeId × Value->H}{P:Program}{w:World}{base:Nat}{sp:Nat->Bool}{held:Bool}{fuel:Nat}{t e e2:TypeId}{n m:Nat}{k:IntKind}{cs:List Value}{gZ:List (List Int)}{p:List MemPlace}
  (ht:P.underlying t=some (.array n e)) (he:P.underlying e=some (.array m e2)) (ml:P.underlying e2=some (.int k)) (cG:P.cellsOf e2=1) (m6:P.cellsOf e=m) (l8:P.cellsOf t=n*m)
  (h:DataW.trod enc P w base sp held fuel t cs=some (.agg (gZ.map (Lib.tabData k)),p)):cs=gZ.flatten.map λ z=>Value.int k z:=by
 cases fuel with
 | zero=>simp [DataW.trod] at h
 | succ fuel =>
  simp only [DataW.trod,ht,m6,l8] at h;split at h
  ·rename_i hl;obtain⟨xs,hm,hx⟩:=Amj.1 h;have bN:xs.map (·.1)=gZ.map (Lib.tabData (H:=H) k):=by
    have:=congrArg AmC hx;simpa using this
   have ct:xs.length=n:=by simpa using Lib.mapM_length hm
   have sW:gZ.length=n:=by
    have:=congrArg Amp bN;simp at this;omega
   refine Xt (m:=m) gZ cs (by rw [hl,sW]) λ i hi=>?_;have cD:i<n:=by omega
   obtain⟨b,hb,hf⟩:=Lib.mapM_at hm i i (by simp [cD]);have h2:(xs.map (·.1))[i]?=some b.1:=by simp [hb]
   rw [bN,AmF,AlV hi] at h2;have h3:b.1=Lib.tabData k gZ[i]:=(Al8 h2).symm;obtain⟨b1,b2⟩:=b;simp only at h3;subst h3;exact Lib.cells_of_tab he ml cG m6 hf
  ·cases h
theorem AdL{P:Program}{W:World}{name:String}{g:Nat}{cs:List Value}(hg:P.globalNamed name=some g)(h:W.var? P name=some cs.toArray):Rd W (some ⟨g,0,none⟩) cs:=by
 intro j v hv;refine⟨_,rfl,?_⟩;rw [Ax,Ak6];have:=World.var?_cell hg h j;rw [this];simpa using hv
theorem Adp{P:Program}{W:World}{name:String}{k:IntKind}{gZ:List (List Int)}{g:Nat}{t e e2:TypeId}{n m:Nat}{rest:List (String × DataW Unit)}
  (hg:P.globalNamed name=some g) (so:(P.globals[g]?).map (·.type)=some t) (ht:P.underlying t=some (.array n e)) (he:P.underlying e=some (.array m e2)) (ml:P.underlying e2=some (.int k)) (cG:P.cellsOf e2=1) (m6:P.cellsOf e=m) (l8:P.cellsOf t=n*m)
  (h:laidMet P ((name,.agg (gZ.map (Lib.tabData k))) :: rest) W):Rd W (some ⟨g,0,none⟩) (gZ.flatten.map λ z=>Value.int k z):=by
 obtain⟨ps,⟨g',t',cs,fuel,p,q,bC,ht',hvar,hd,_,_⟩,_⟩:=h;obtain rfl:=Al8 (hg.symm.trans bC);obtain rfl:=Al8 (so.symm.trans ht');have e:=V6 ht he ml cG m6 l8 hd;refine AdL hg ?_;rw [hvar,<- e]
theorem Ah9{P:Program}{W:World}{name:String}{k:IntKind}{zs:List Int}{g:Nat}{t e:TypeId}{n:Nat}{rest:List (String × DataW Unit)}
  (hg:P.globalNamed name=some g) (so:(P.globals[g]?).map (·.type)=some t) (ht:P.underlying t=some (.array n e)) (he:P.underlying e=some (.int k)) (m6:P.cellsOf e=1) (l8:P.cellsOf t=n)
  (h:laidMet P ((name,Lib.tabData k zs) :: rest) W):Rd W (some ⟨g,0,none⟩) (zs.map λ z=>Value.int k z):=AdL hg (Lib.tabIs_of_head hg so ht he m6 l8 h)
theorem AhE {W : World} {l : List (String × DataW Unit)} (h1 : (l.filter λ x => x.1 == "stackyard/hash.first") = [("stackyard/hash.first", Rows.laid_stackyard_hash_first)]) (h2 : (l.filter λ x => x.1 == "stackyard/hash.orders") = [("stackyard/hash.orders", Rows.laid_stackyard_hash_orders)])
  (h3 : (l.filter λ x => x.1 == "stackyard/hash.places") = [("stackyard/hash.places", Rows.laid_stackyard_hash_places)]) (h : laidMet Tryz.prog l W) : I8 W := by
 have g1 := h.filter λ x => x.1 == "stackyard/hash.first"
 have g2 := h.filter λ x => x.1 == "stackyard/hash.orders"
 have g3 := h.filter λ x => x.1 == "stackyard/hash.places"
 rw [h1] at g1;rw [h2] at g2;rw [h3] at g3;have e1:(Rows.laid_stackyard_hash_first:DataW Unit)=Lib.tabData .u32 (Ca.map λ x=>(x.toNat:Int)):=by rfl
 have e2:(Rows.laid_stackyard_hash_orders:DataW Unit)=.agg (((AlB 10).map LJ).map (Lib.tabData .u8)):=by rfl
 have e3:(Rows.laid_stackyard_hash_places:DataW Unit)=.agg (((AlB 8).map λ i=>(HP.drop (i*4)).take 4).map (Lib.tabData .u8)):=by rfl
 rw [e1] at g1;rw [e2] at g2;rw [e3] at g3;have r1:=Ah9 (g:=0) (t:=216) (e:=184) (n:=8) (by kernel_rfl) (by kernel_rfl) (by kernel_rfl) (by kernel_rfl) (by kernel_rfl) (by kernel_rfl) g1;have r2:=Adp (g:=1) (t:=297) (e:=296) (e2:=5) (n:=10) (m:=16) (by kernel_rfl) (by kernel_rfl) (by kernel_rfl) (by kernel_rfl) (by kernel_rfl) (by kernel_rfl) (by kernel_rfl) (by kernel_rfl) g2;have r3:=Adp (g:=2) (t:=299) (e:=298) (e2:=5) (n:=8) (m:=4) (by kernel_rfl) (by kernel_rfl) (by kernel_rfl) (by kernel_rfl) (by kernel_rfl) (by kernel_rfl) (by kernel_rfl) (by kernel_rfl) g3;have q2:((AlB 10).map LJ).flatten=T4:=by decide
 have q3:((AlB 8).map λ i=>(HP.drop (i*4)).take 4).flatten=HP:=by decide
 rw [q2] at r2;rw [q3] at r3;exact⟨by rw [List.map_map] at r1;exact r1,r2,r3⟩
end Go.Proofs.YtpnaifmmggnimaaGreatDoor
namespace Go.Proofs.YtpnaifmmggnimaaGreatDoor
open _root_.List renaming append_assoc -> Ak2, drop_drop -> Amn, drop_eq_getElem_cons -> AmI, flatMap_cons -> Amb, length_append -> Ak1, length_take -> AlX
open _root_.Option renaming bind_eq_some_iff -> AmH, map_eq_some_iff -> Amj
open _root_.Option.some renaming injEq -> Ami
open _root_.Prod.mk renaming injEq -> AkE
set_option maxRecDepth 100000
open Go.Dn Go.Proofs
set_option linter.unusedVariables false
structure Seg(l:List UInt8)(a b:Nat)(x:List UInt8):Prop where
 le:b<=l.length
 eq:l.drop a=x++l.drop b
 len:b=a+x.length
theorem Seg.nil{l:List UInt8}{a:Nat}(h:a<=l.length):Seg l a a []:=⟨h,rfl,rfl⟩
theorem Seg.append{l x y:List UInt8}{a b c:Nat}(h:Seg l a b x)(h':Seg l b c y):Seg l a c (x++y) :=
 ⟨h'.le,by rw [h.eq,h'.eq,Ak2],by rw [h'.len,h.len,Ak1];omega⟩
theorem RO{l:List UInt8}{a n b:Nat}(h:takeN l (a:Int)=some (n,b)):Seg l a b (Af n):=by
 have hb:=Az h;unfold takeN at h;rw [if_neg (by omega),Int.toNat_natCast] at h;obtain⟨x,hx,he⟩:=Amj.1 h;obtain⟨n',k⟩:=x;simp only [AkE] at he;obtain⟨rfl,rfl⟩:=he;obtain⟨m,e1,e2,e3,_⟩:=Uu _ _ _ _ _ hx;simp only [Nat.pow_zero,Nat.mul_one,Nat.zero_add] at e1 e2;subst e1;subst e2;refine⟨hb.2.2.2.1,?_,rfl⟩
 conv=>lhs;rw [e3]
 rw [Amn]
theorem AgD{l:List UInt8}{k n:Nat}(h:n<=l.length-k)(hk:k<=l.length):Seg l k (k+n) ((l.drop k).take n):=by
 refine⟨by omega,?_,by rw [AlX,List.length_drop];omega⟩;rw [<- Amn,List.take_append_drop]
theorem RS{l:List UInt8}{a most k:Nat}{s:List UInt8}(h:BD l (a:Int) most=some (s,k)):Seg l a k (Bu (BC s))/\s.length<=most/\s.length<=1048576:=by
 unfold BD at h;cases hn:takeN l (a:Int) with
 | none=>rw [hn] at h;cases h
 | some x =>
  obtain⟨n,p⟩:=x;rw [hn] at h;simp only at h;split at h
  ·cases h
  ·rename_i aP;simp only [Ami,AkE] at h;obtain⟨rfl,rfl⟩:=h;have h1:=RO hn;have h2:=AgD (l:=l) (k:=p) (n:=n) (by omega) h1.le;have e:((l.drop p).take n).length=n:=by rw [AlX,List.length_drop];omega
   refine⟨?_,by omega,by omega⟩;have:=h1.append h2;unfold Bu;rw [BP,AY,e];exact this
theorem Ah7{l:List UInt8}{k:Nat}(h:2<=l.length-k):Seg l k (k+2) [l.getD k 0,l.getD (k+1) 0]:=by
 refine⟨by omega,?_,rfl⟩;have h1:k<l.length:=by omega
 have h2:k+1<l.length:=by omega
 rw [AmI h1,AmI h2];simp [List.getD,h1,h2]
theorem P0:∀(n:Nat) {l:List UInt8} {a k:Nat} {cs:List BQ},a<=l.length->Ba l a n=some (cs,k)->Seg l a k (cs.flatMap J2)/\cs.length=n
 | 0,l,a,k,cs,ha,h=>by
  simp only [Ba,Ami,AkE] at h;obtain⟨rfl,rfl⟩:=h;exact⟨.nil ha,rfl⟩
 | n+1,l,a,k,cs,ha,h=>by
  unfold Ba at h;cases ht:BD l (a:Int) 24 with
  | none=>rw [ht] at h;cases h
  | some x =>
   obtain⟨s,p⟩:=x;rw [ht] at h;simp only at h;split at h
   ·cases h
   ·rename_i aP;obtain⟨r,hr,he⟩:=Amj.1 h;obtain⟨rs,q⟩:=r;simp only [AkE] at he;obtain⟨rfl,rfl⟩:=he;have h1:=(RS ht).1;have h2:=Ah7 (l:=l) (k:=p) (by omega);obtain⟨h3,h4⟩:=P0 n (by omega) hr;refine⟨?_,by simp [h4]⟩;have:=(h1.append h2).append h3;have e1:UInt8.ofNat ((l.getD p 0).toNat:Int).toNat=l.getD p 0:=by simp
    have e2:Ja ((l.getD (p+1) 0).toNat==1)=l.getD (p+1) 0:=by
     have hle:(l.getD (p+1) 0).toNat<=1:=by omega
     generalize l.getD (p+1) 0=u at hle ⊢;have hu:u=UInt8.ofNat u.toNat:=by simp
     rcases Nat.le_one_iff_eq_zero_or_eq_one.1 hle with h | h <;> rw [h] at hu <;> subst hu <;> rfl
    rw [Amb];unfold J2;simp only;rw [e1,e2];exact this
theorem ZT{l:List UInt8}{a k:Nat}{cs:List BQ}(h:Bk l (a:Int)=some (cs,k)):Seg l a k (CG cs)/\Aq cs=true:=by
 unfold Bk at h;cases hn:takeN l (a:Int) with
 | none=>rw [hn] at h;cases h
 | some x =>
  obtain⟨n,p⟩:=x;rw [hn] at h;simp only at h;split at h
  ·cases h
  ·cases hc:Ba l p n with
   | none=>rw [hc] at h;cases h
   | some y =>
    obtain⟨aC,q⟩:=y;rw [hc] at h;simp only at h;split at h
    ·rename_i hR;simp only [Ami,AkE] at h;obtain⟨rfl,rfl⟩:=h;have h1:=RO hn;obtain⟨h2,h3⟩:=P0 n h1.le hc;refine⟨?_,hR⟩;unfold CG;rw [h3];exact h1.append h2
    ·cases h
def Cr:Nat:=4611686018427387904
def OT(l:List UInt8)(lo hi at_:Nat):Option (Nat × Nat):=(takeN l (at_:Int)).bind λ x=>if lo<=x.1/\x.1<=hi then some x else none
def Sr(l:List UInt8)(at_:Nat):Option (ByteArray × Nat):=(BD l (at_:Int) 64).bind λ x=>if x.1.length=64 then some (BC x.1,x.2) else none
abbrev H6:=ByteArray × Nat
abbrev Km:=Nat × Nat × Nat × Nat
def Dy{α:Type}(rd:Nat->Option (α × Nat)):Nat->Nat->Option (List α × Nat)
 | 0,at_=>some ([],at_)
 | n+1,at_=>(Dy rd n at_).bind λ r=>(rd r.2).map λ x=>(r.1++[x.1],x.2)
structure YM where
 AM:List BQ
 parts:List H6
 Dt:List Km
def AjI(p:H6):Prop:=p.1.size=64/\1<=p.2/\p.2<=1024
def Ajm(c:Km):Prop:=c.1<=Cr/\(1<=c.2.1/\c.2.1<=Cr)/\c.2.2.1<=1000/\c.2.2.2<=Cr
theorem HM{l:List UInt8}{lo hi a n b:Nat}(h:OT l lo hi a=some (n,b)):Seg l a b (Af n)/\lo<=n/\n<=hi:=by
 unfold OT at h;obtain⟨x,hx,h⟩:=AmH.1 h;split at h
 ·rename_i hc;cases h;exact⟨RO hx,hc⟩
 ·cases h
theorem Vh{cs:List BQ}(h:Aq cs=true):cs≠[]:=by
 intro e;have:=A6 h;rw [e] at this;simp at this
def mapOf(k:List Km)(i:Nat):Option (Nat × Nat × Nat):=(k.reverse.find? λ c=>decide (c.1=i)).map (·.2)
theorem Vw(k:List Km)(c:Km)(i:Nat):mapOf (k++[c]) i=if i=c.1 then some c.2 else mapOf k i:=by
 unfold mapOf;rw [List.reverse_append];simp only [List.reverse_cons,List.reverse_nil,List.nil_append,List.cons_append,List.find?_cons];by_cases h:i=c.1
 ·subst h;simp
 ·have aQ:¬ c.1=i:=λ e=>h e.symm;simp [h,aQ]
theorem Afx{k:List Km}{i:Nat}{x:Nat × Nat × Nat}(h:mapOf k i=some x):(i,x)∈k:=by
 unfold mapOf at h;obtain⟨c,hc,rfl⟩:=Amj.1 h;have h1:=List.find?_some hc;have h2:=List.mem_of_find?_eq_some hc;simp only [decide_eq_true_eq] at h1;subst h1;exact List.mem_reverse.1 h2
theorem HK{k:List Km}{i:Nat}:(mapOf k i).isSome=true↔i∈k.map (·.1):=by
 constructor
 ·intro h;obtain⟨x,hx⟩:=Option.isSome_iff_exists.1 h;exact List.mem_map.2 ⟨_,Afx hx,rfl⟩
 ·intro h;obtain⟨c,hc,rfl⟩:=List.mem_map.1 h;unfold mapOf;rw [Option.isSome_map,List.find?_isSome];exact⟨c,List.mem_reverse.2 hc,by simp⟩
theorem AbU{l:List UInt8}{at_:Int}{v:AB}{k:Nat}(h:Bj l at_=some (v,k)):BN v:=by
 unfold Bj at h;split at h
 ·cases h
 ·simp only at h;split at h
  ·cases h;exact⟨by decide,by decide⟩
  ·split at h
   ·obtain⟨x,hx,he⟩:=Amj.1 h;have:=Az (n:=x.1) (k:=x.2) hx;have hr:=GJ this.1;cases he;exact⟨hr.1,hr.2⟩
   ·split at h
    ·split at h
     ·rename_i h2;cases h;exact⟨by simp only;omega,by simp only;omega⟩
     ·cases h
    ·split at h
     ·obtain⟨x,hx,he⟩:=Amj.1 h;cases he;exact⟨by simp only;omega,by simp only;omega⟩
     ·cases h
theorem Gn{α:Type}{rd:Nat->Option (α × Nat)}{a i:Nat}(h:Dy rd i a=none):∀ {n:Nat},i<=n->Dy rd n a=none:=by
 intro n hn;obtain⟨d,rfl⟩:=Nat.exists_eq_add_of_le hn;clear hn
 induction d with
 | zero=>exact h
 | succ d ih=>rw [Nat.add_succ];unfold Dy;rw [ih];rfl
theorem Dh{α:Type}{rd:Nat->Option (α × Nat)}{a i b:Nat}{xs:List α}(h:Dy rd i a=some (xs,b)):Dy rd (i+1) a=(rd b).map λ x=>(xs++[x.1],x.2):=by
 show (Dy rd i a).bind _=_;rw [h];rfl
theorem Rl{α:Type}{rd:Nat->Option (α × Nat)}:∀(n:Nat) {a b:Nat} {xs:List α},Dy rd n a=some (xs,b)->xs.length=n
 | 0,a,b,xs,h=>by
  simp only [Dy,Ami,AkE] at h;rw [<- h.1];rfl
 | n+1,a,b,xs,h=>by
  unfold Dy at h;obtain⟨r,h1,h⟩:=AmH.1 h;obtain⟨x,h2,h⟩:=Amj.1 h;simp only [AkE] at h;rw [<- h.1,Ak1,Rl n h1];rfl
theorem QQ{α:Type}{rd:Nat->Option (α × Nat)}{Q:α->Nat->Prop}(hr:∀ a x b,rd a=some (x,b)->Q x b) :
  ∀(n:Nat) {a b:Nat} {xs:List α},Dy rd n a=some (xs,b)->(∀ x∈xs,∃ k,Q x k)/\(n=0/\b=a\/∃ x,Q x b)
 | 0,a,b,xs,h=>by
  simp only [Dy,Ami,AkE] at h;obtain⟨rfl,rfl⟩:=h;exact⟨by simp,.inl ⟨rfl,rfl⟩⟩
 | n+1,a,b,xs,h=>by
  unfold Dy at h;obtain⟨r,h1,h⟩:=AmH.1 h;obtain⟨x,h2,h⟩:=Amj.1 h;simp only [AkE] at h;obtain⟨rfl,rfl⟩:=h;refine⟨λ y hy=>?_,.inr ⟨x.1,hr _ _ _ h2⟩⟩;rcases List.mem_append.1 hy with hy | hy
  ·exact (QQ hr n h1).1 y hy
  ·rw [List.mem_singleton.1 hy];exact⟨_,hr _ _ _ h2⟩
theorem PZ{l x r:List UInt8}{a:Nat}(h:l.drop a=x++r):l.drop (a+x.length)=r:=by
 rw [<- Amn,h,List.drop_left]
theorem UQ{α:Type}{l:List UInt8}{rd:Nat->Option (α × Nat)}{enc:α->List UInt8}{xs:List α}{a:Nat}{r:List UInt8}(hr:∀ x∈xs,∀ b r,l.drop b=enc x++r->rd b=some (x,b+(enc x).length))(h:l.drop a=xs.flatMap enc++r) :
  Dy rd xs.length a=some (xs,a+(xs.flatMap enc).length):=by
 have key:∀ k,k<=xs.length->Dy rd k a=some (xs.take k,a+((xs.take k).flatMap enc).length):=by
  intro k
  induction k with
  | zero=>intro _;simp [Dy]
  | succ k ih =>
   intro hk;have dV:k<xs.length:=hk;rw [Dh (ih (by omega))];have e:l.drop a=(xs.take k).flatMap enc++(enc xs[k]++((xs.drop (k+1)).flatMap enc++r)):=by
    rw [h]
    conv=>lhs;rw [<- List.take_append_drop k xs,AmI dV,List.flatMap_append,Amb]
    simp only [Ak2]
   rw [hr _ (List.getElem_mem dV) _ _ (PZ e)];rw [List.take_succ_eq_append_getElem dV,List.flatMap_append];simp only [Option.map_some,Amb,List.flatMap_nil,List.append_nil,Ak1];rw [Nat.add_assoc]
 have:=key xs.length (Nat.le_refl _);rwa [List.take_length] at this
def JF(r:List AB):List UInt8:=r.flatMap CD
def F1(rows:List (List AB)):List UInt8:=Af rows.length++rows.flatMap JF
def QN(l:List UInt8)(cs:List BQ)(at_:Nat):Option (List AB × Nat):=(Dy (λ a=>Bj l (a:Int)) cs.length at_).bind λ r=>if C0 cs r.1 then some r else none
def Bg(l:List UInt8)(cs:List BQ)(at_:Int):Option (List (List AB) × Nat) :=
 if Aq cs then (takeN l at_).bind λ n=>if n.1<=1024 then Dy (QN l cs) n.1 n.2 else none else none
theorem LH{l:List UInt8}{cs:List BQ}{at_:Int}{rows:List (List AB)}{k:Nat}(h:Bg l cs at_=some (rows,k)):Bv cs rows/\k<=l.length:=by
 unfold Bg at h;split at h
 ·rename_i hR;obtain⟨n,hn,h⟩:=AmH.1 h;split at h
  ·rename_i h4;have hb:=Az (n:=n.1) (k:=n.2) hn;have hl:=Rl _ h;have h5:=QQ (Q:=λ r b=>C0 cs r=true/\(∀ v∈r,BN v)/\b<=l.length) (λ a x b hx=>by
    unfold QN at hx;obtain⟨y,hy,hx⟩:=AmH.1 hx;split at hx
    ·rename_i hf;cases hx;have h6:=QQ (Q:=λ v b=>BN v/\b<=l.length) (λ a x b hx=>⟨AbU hx,Abt hx⟩) _ hy;refine⟨hf,λ v hv=>?_,?_⟩
     ·obtain⟨_,h7,_⟩:=h6.1 v hv;exact h7
     ·rcases h6.2 with ⟨h8,_⟩ | ⟨_,_,h8⟩
      ·have:=(A6 hR).1;omega
      ·exact h8
    ·cases hx) _ h
   refine⟨⟨hR,by omega,λ r hr=>?_,λ r hr=>?_⟩,?_⟩
   ·obtain⟨_,h6,_⟩:=h5.1 r hr;exact h6
   ·obtain⟨_,_,h6,_⟩:=h5.1 r hr;exact h6
   ·rcases h5.2 with ⟨_,h6⟩ | ⟨_,_,_,h6⟩
    ·omega
    ·exact h6
  ·cases h
 ·cases h
theorem VX{l r:List UInt8}{cs:List BQ}{rows:List (List AB)}{at_:Nat}(hs:Bv cs rows)(h:l.drop at_=F1 rows++r):Bg l cs (at_:Int)=some (rows,at_+(F1 rows).length):=by
 unfold Bg;have hlen:=hs.len;unfold F1 at h ⊢;rw [Ak2] at h;rw [if_pos hs.right,Cc (by omega) h,Option.bind_some,if_pos hlen];simp only;rw [UQ (enc:=JF) (r:=r) (λ x hx b r' hb=>?_) (PZ h)]
 ·rw [Ak1,Nat.add_assoc]
 ·unfold QN;have hf:=hs.fits x hx;have hl:=Jf hf;rw [<- hl,UQ (enc:=CD) (r:=r') (λ v hv b2 r2 h2=>?_) hb]
  ·rw [Option.bind_some,if_pos hf];rfl
  ·refine Ol ?_ (hs.ok x hx v hv) h2;obtain⟨i,hi,rfl⟩:=List.mem_iff_getElem.1 hv;have:=TV hf (by omega) hi;simp only [GR,Bool.and_eq_true] at this;exact this.1
theorem TW{cs:List BQ}{rows:List (List AB)}(hs:Bv cs rows){r:List AB}(hr:r∈rows):(JF r).length<=16640:=by
 have hf:=hs.fits r hr;have hl:=Jf hf;have gM:=(A6 hs.right).2;have key:∀(r':List AB),(∀ v∈r',AK v=true/\BN v)->(JF r').length<=r'.length*1040:=by
  intro r'
  induction r' with
  | nil=>intro _;simp [JF]
  | cons v r' ih =>
   intro h;have h1:=HB (h v (by simp)).1 (h v (by simp)).2;have h2:=ih (λ x hx=>h x (by simp [hx]));unfold JF at h2 ⊢;rw [Amb,Ak1,List.length_cons];omega
 have:=key r λ v hv=>by
  obtain⟨i,hi,rfl⟩:=List.mem_iff_getElem.1 hv;have:=TV hf (by omega) hi;simp only [GR,Bool.and_eq_true] at this;exact⟨this.1,hs.ok r hr _ (List.getElem_mem hi)⟩
 have:r.length*1040<=16*1040:=Nat.mul_le_mul_right _ (by omega);omega
theorem Xn{cs:List BQ}{rows:List (List AB)}(hs:Bv cs rows){i:Nat}:((rows.take i).flatMap JF).length<=17039360:=by
 have key:∀(rs:List (List AB)),(∀ r∈rs,(JF r).length<=16640)->(rs.flatMap JF).length<=rs.length*16640:=by
  intro rs
  induction rs with
  | nil=>intro _;simp
  | cons r rs ih =>
   intro h;have h1:=h r (by simp);have h2:=ih (λ x hx=>h x (by simp [hx]));rw [Amb,Ak1,List.length_cons];omega
 have h1:=key (rows.take i) λ r hr=>TW hs (List.mem_of_mem_take hr);have h2:=hs.len;have h3:(rows.take i).length<=1024:=by rw [AlX];omega
 omega
end Go.Proofs.YtpnaifmmggnimaaGreatDoor
namespace Go.Proofs.YtpnaifmmggnimaaGreatDoor
open _root_.Int renaming toNat_natCast -> Ak4
open _root_.List renaming mem_cons -> AkL, not_mem_nil -> Al5
open _root_.Nat renaming le_trans -> Ali
set_option maxRecDepth 100000
open Go.Dn Go.Proofs
open Go.RowKit (Below)
set_option linter.unusedVariables false
def EX(b:Nat)(a:Option Addr)(n c at_:Nat)(bad:Bool):It:=It.cells b #[.slice a n c,.int .i64 (at_:Int),.bool bad] ty.KY
def SL{α:Type}(bad aY:Bool)(o:Option α)(x:α):Prop:=(aY=false/\bad=false/\o=some x)\/(aY=true/\(bad=true\/o=none))
theorem SL.bind{α β:Type}{b0 b1 b2:Bool}{o:Option α}{x:α}{g:α->Option β}{y:β}(h:SL b0 b1 o x)(h2:SL b1 b2 (g x) y):SL b0 b2 (o.bind g) y:=by
 rcases h2 with ⟨h3,h4,h5⟩ | ⟨h3,h4⟩
 ·subst h4;rcases h with ⟨_,h6,rfl⟩ | ⟨h6,_⟩
  ·exact .inl ⟨h3,h6,h5⟩
  ·cases h6
 ·refine .inr ⟨h3,?_⟩;rcases h with ⟨h5,_,rfl⟩ | ⟨_,h5 | h5⟩
  ·rcases h4 with h4 | h4
   ·rw [h5] at h4;cases h4
   ·exact .inr h4
  ·exact .inl h5
  ·exact .inr (by rw [h5];rfl)
theorem SL.map{α β:Type}{b0 b1:Bool}{o:Option α}{x:α}(g:α->β)(h:SL b0 b1 o x):SL b0 b1 (o.map g) (g x):=by
 rcases h with ⟨h1,h2,rfl⟩ | ⟨h1,h2⟩
 ·exact .inl ⟨h1,h2,rfl⟩
 ·exact .inr ⟨h1,h2.imp id λ h=>by rw [h];rfl⟩
theorem SL.ok{α:Type}{bad:Bool}{o:Option α}{x:α}(h:SL bad false o x):bad=false/\o=some x:=by
 rcases h with ⟨_,h1,h2⟩ | ⟨h,_⟩
 ·exact⟨h1,h2⟩
 ·cases h
theorem SL.no{α:Type}{bad:Bool}{o:Option α}{x:α}(h:SL bad true o x):bad=true\/o=none:=by
 rcases h with ⟨h,_⟩ | ⟨_,h⟩
 ·cases h
 ·exact h
section
variable {w0 w:World}{H:List It}{b:Nat}{a:Option Addr}{c at_:Nat}{bad:Bool}{l:List UInt8}
theorem OC(S:ST w0 w H)(n m:Nat)(hn:H[n]?=some (EX b a l.length c at_ bad))(hm:H[m]?=some (It.rd a (l.map Ag)))(hc:l.length<=c)(hs:l.length<=140737488355328)(lo hi:Nat)(zA:hi<=Cr) :
  Calls Tryz.prog f.Kw #[.pointer (some ⟨b,0,none⟩),.int .i64 (lo:Int),.int .i64 (hi:Int)] w (AG λ v w'=>∃(z at':Nat) (aY:Bool),v=.int .i64 (z:Int)/\ST w0 w' (H.set n (EX b a l.length c at' aY))/\SL bad aY (OT l lo hi at_) (z,at')/\(aY=true->z=0)):=by
 apply R.Hh
 delta R.Bz R.D R.F R.G R.I R.Lb R.Li R.Ls R.S R.Am R.W;try dsimp only [R.Ps]
 refine S.draw λ w1 B1 S=>?_;refine⟨_,_,_,S.cell n hn rfl,_,S.cell n hn rfl,?_⟩;refine (AL (S.get m hm) hc (by omega) (at_:Int)).mono ?_;rintro _ w2 ⟨_,rfl,rfl,rfl⟩;obtain⟨n0,k0,e0,hv,hk,dB,hx⟩:=Ed _ (rfl:takeN l (at_:Int)=takeN l (at_:Int));rw [hv];refine⟨_,_,_,rfl,_,S.cell n hn rfl,?_⟩;have fail:(bad=true\/OT l lo hi at_=none)->DV (Addr.add ⟨b,0,none⟩ 2) (.bool true) (λ w'=>∃(z at':Nat) (aY:Bool),Value.int .i64 0=.int .i64 (z:Int)/\ST w0 w' (H.set n (EX b a l.length c at' aY))/\SL bad aY (OT l lo hi at_) (z,at')/\(aY=true->z=0)) w2:=λ h =>
  S.BR n hn (i:=2) (aC:=#[.slice a l.length c,.int .i64 (at_:Int),.bool true]) (by simp) rfl λ w3 S=>⟨0,at_,true,rfl,S,.inr ⟨rfl,h⟩,λ _=>rfl⟩
 refine Ap (λ hb=>fail (.inl hb)) (λ hb=>?_);subst hb;refine Ah (λ h=>fail (.inr ?_)) (λ h=>?_)
 ·rcases hx with ⟨h2,_⟩ | ⟨_,h2⟩
  ·exact absurd h2 h
  ·simp [OT,h2]
 have qb:takeN l (at_:Int)=some (n0,k0):=by
  rcases hx with ⟨_,h2⟩ | ⟨h2,_⟩
  ·exact h2
  ·exact absurd h h2
 have hR:OT l lo hi at_=if lo<=n0/\n0<=hi then some (n0,k0) else none:=by simp [OT,qb]
 unfold Cr at zA;refine Aa (λ h=>fail (.inr ?_)) (λ h1=>?_)
 ·rw [hR,if_neg (by omega)]
 rw [wrap_i64 (by omega) (by omega)];refine Aa (λ h=>fail (.inr ?_)) (λ h2=>Aa (λ h=>fail (.inr ?_)) (λ h3=>?_))
 ·rw [hR,if_neg (by omega)]
 ·rw [hR,if_neg (by omega)]
 rw [if_pos (by omega)] at hR;exact S.BR n hn (i:=1) (aC:=#[.slice a l.length c,.int .i64 (k0:Int),.bool false]) (by simp) rfl λ w3 S=>⟨n0,k0,false,rfl,S,.inl ⟨rfl,rfl,hR⟩,λ h=>by cases h⟩
theorem US(S:ST w0 w H)(n m:Nat)(hn:H[n]?=some (EX b a l.length c at_ bad))(hm:H[m]?=some (It.rd a (l.map Ag)))(hc:l.length<=c)(hs:l.length<=140737488355328) :
  Calls Tryz.prog f.Kp #[.pointer (some ⟨b,0,none⟩)] w (AG λ v w'=>∃(ca:Option Addr) (cc:Nat) (cs:List BQ) (at':Nat) (aY:Bool),v=.slice ca cs.length cc/\ST w0 w' (CK ca cc cs :: H.set n (EX b a l.length c at' aY))/\SL bad aY (Bk l (at_:Int)) (cs,at')/\(aY=true->ca=none/\cs=[])):=by
 apply R.Hl
 delta R.Ir R.D R.F R.G R.I R.Lb R.Li R.Ls R.O R.S R.Am;try dsimp only [R.Ps]
 refine S.draw λ w1 B1 S=>?_;refine⟨_,_,_,S.cell n hn rfl,_,S.cell n hn rfl,?_⟩;refine (L7 (S.get m hm) hc (by omega) (at_:Int)).mono ?_;rintro _ w2 ⟨_,rfl,hx⟩;have fail:∀ {wx:World},ST w0 wx H->(bad=true\/Bk l (at_:Int)=none)->DV (Addr.add ⟨b,0,none⟩ 2) (.bool true) (λ w'=>∃(ca:Option Addr) (cc:Nat) (cs:List BQ) (at':Nat) (aY:Bool),Value.slice none 0 0=.slice ca cs.length cc/\ST w0 w' (CK ca cc cs :: H.set n (EX b a l.length c at' aY))/\SL bad aY (Bk l (at_:Int)) (cs,at')/\(aY=true->ca=none/\cs=[])) wx:=λ S h =>
  S.BR n hn (i:=2) (aC:=#[.slice a l.length c,.int .i64 (at_:Int),.bool true]) (by simp) rfl λ w3 S=>⟨none,0,[],at_,true,rfl,S.nil _ _,.inr ⟨rfl,h⟩,λ _=>⟨rfl,rfl⟩⟩
 cases ho:Bk l (at_:Int) with
 | none =>
  rw [ho] at hx fail;obtain⟨rfl,B⟩:=hx;have S:=S.grown B;exact⟨_,_,_,_,_,rfl,_,S.cell n hn rfl,Ap (λ hb=>fail S (.inl hb)) (λ hb=>Ah (λ h=>fail S (.inr rfl)) (λ h=>by cases h))⟩
 | some x =>
  rw [ho] at hx fail;obtain⟨a',c',rfl,T⟩:=hx;have cg:([CK a' c' x.1]++H)[n+1]?=some (EX b a l.length c at_ bad):=by simpa using hn
  have S:=S.join T;refine⟨_,_,_,_,_,rfl,_,S.cell (n+1) cg rfl,?_⟩;refine Ap (λ hb=>fail (S.drop 1) (.inl hb)) (λ hb=>?_);subst hb;exact Ah (λ h=>absurd rfl h) (λ h=>S.BR (n+1) cg (i:=1) (aC:=#[.slice a l.length c,.int .i64 (x.2:Int),.bool false]) (by simp) rfl λ w3 S=>⟨a',c',x.1,x.2,false,rfl,S,.inl ⟨rfl,rfl,rfl⟩,λ h=>by cases h⟩)
theorem Afw(S:ST w0 w H)(n:Nat)(hn:H[n]?=some (EX b a l.length c at_ bad)) :
  Calls Tryz.prog f.LD #[.pointer (some ⟨b,0,none⟩)] w (AG λ v w'=>v=.bool (!bad && decide (at_=l.length))/\ST w0 w' H):=by
 apply R.HJ
 delta R.D R.F R.G R.Lb R.Li R.Ls;try dsimp only [R.Ps]
 refine S.draw λ w1 B1 S=>⟨_,S.cell n hn rfl,?_⟩;refine Au (Ap (λ hb=>?_) (λ hb=>?_))
 ·subst hb;exact⟨rfl,S⟩
 ·subst hb;refine⟨_,S.cell n hn rfl,_,_,_,S.cell n hn rfl,?_,S⟩;congr 1;rw [Bool.not_false,Bool.true_and];by_cases h:at_=l.length
  ·simp [h]
  ·have:¬ (at_:Int)=(l.length:Int):=by omega
   simp [h,this]
end
section
variable {w:World}{g p:Addr}{cs:List BQ}{aR:List BG}{n:Nat}
theorem YF{α:Type}{f:α->List Value}{k:Nat}(hf:∀ x,(f x).length=k+1){xs:List α}(h:Rd w none (xs.flatMap f)):xs=[]:=by
 cases xs with
 | nil=>rfl
 | cons x xs =>
  have hx:=hf x;cases xA:f x with
  | nil=>rw [xA] at hx;simp at hx
  | cons v vs =>
   obtain⟨p,hp,_⟩:=h 0 v (by simp [xA]);cases hp
theorem RA{b:Nat}{t:TypeId}{sz:Nat}(h:w.heap[b]?=some (.cells #[] t (0,0))):Row w t sz (some ⟨b,0,none⟩) 0 0 [] :=
 ⟨by simp,.inr ⟨b,#[],rfl,h,by omega,by omega,by simp,by simp⟩⟩
theorem Aji(vs:List AB):∀ u∈AO vs,u.oneCell'=true:=by
 intro u hu;obtain⟨v,_,hv⟩:=List.mem_flatMap.1 hu;simp only [HE,AkL,Al5,or_false] at hv;rcases hv with rfl | rfl | rfl <;> rfl
theorem AfM(vs:List BQ):∀ u∈BM vs,u.oneCell'=true:=by
 intro u hu;obtain⟨v,_,hv⟩:=List.mem_flatMap.1 hu;simp only [Wh,AkL,Al5,or_false] at hv;rcases hv with rfl | rfl | rfl <;> rfl
theorem AeI{a:Option Addr}{c:Nat}{vs:List BQ}(h:Rd w a (BM vs))(hl:vs.length<=100000):Calls Tryz.prog f.Fx #[.slice a vs.length c] w (AG λ v w'=>∃ a' c',v=.slice a' vs.length c'/\ST w w' [CK a' c' vs]):=by
 apply R.El
 delta R.F R.J R.Ks R.N R.O R.S;try dsimp only [R.Ps]
 cases a with
 | none =>
  have:=YF (k:=2) (λ _=>rfl) h;subst this;exact CQ ⟨none,0,rfl,(ST.start w).nil _ _⟩
 | some q =>
  refine AV ((ST.start w).An λ b2 w1 _ B1 S=>?_);have S:=S.IX 0 rfl (.refl _ _) (It.row ty.Di 3 (some ⟨b2,0,none⟩) 0 0 []) (RA (S.CJ 0 rfl)) (λ k hk=>.inl hk);refine S.app 0 rfl Ait rfl (by omega) (by omega) (h.grown B1) (mm:=vs.length) (AfO vs) (AfM vs) (by omega) λ a' c' w' S=>⟨_,_,_,rfl,a',c',by rw [Nat.zero_add],?_⟩;simp only [Nat.zero_add,List.nil_append] at S;exact S
theorem AhU(hg:w.cell? g=some (.pointer (some p)))(h:Ml w p cs aR n):Calls Tryz.prog f.LY #[.pointer (some g)] w (AG λ v w'=>∃ a' c',v=.slice a' cs.length c'/\ST w w' [CK a' c' cs]):=by
 apply R.H2
 delta R.Cs R.F R.Lp R.Ls R.O R.S;try dsimp only [R.Ps]
 obtain⟨a,c,h1,h2⟩:=h.AM;have:=(A6 h.right).2;refine AV ⟨_,hg,_,_,_,h1,(AeI h2 (by omega)).mono ?_⟩;rintro _ w1 ⟨_,rfl,a',c',rfl,S⟩;exact⟨_,_,_,rfl,a',c',rfl,S⟩
end
theorem Adv(u v:BQ):((u.1==v.1) && ((u.2.1==v.2.1) && ((u.2.2==v.2.2) && true)))=decide (u=v):=by
 obtain⟨a,b,s⟩:=u;obtain⟨c,d,t⟩:=v;rw [Bool.eq_iff_iff];simp [Ads]
section
variable {w:World}{a a2:Option Addr}{c c2:Nat}
theorem Gs{ls ms:List BQ}(hl:Rd w a (BM ls))(hm:Rd w a2 (BM ms))(hn:ls.length<=9223372036854775807) :
  Calls Tryz.prog f.Ac7 #[.slice a ls.length c,.slice a2 ms.length c2] w (AG λ v w'=>Below w.heap.size w w'/\v=.bool (decide (ls=ms))):=by
 apply R.Ry
 delta R.D R.F R.G R.I R.Lb R.Li R.Lt R.Qi R.W R.X;try dsimp only [R.Ps]
 refine Ah (λ h=>⟨.refl _ _,?_⟩) (λ hlen=>?_)
 ·congr 1;rw [eq_comm,decide_eq_false_iff_not];rintro rfl;exact h rfl
 have bP:ls.length=ms.length:=by omega
 refine⟨λ s w1=>∃ i:Nat,i<=ls.length/\s=[.int .i64 (i:Int)]/\Below w.heap.size w w1/\ls.take i=ms.take i,λ s _=>match s with
   | [.int _ i]=>ls.length-i.toNat
   | _=>0,⟨0,by omega,rfl,.refl _ _,rfl⟩,?_⟩
 rintro _ w1 ⟨i,hi,hs,B1,hT⟩;cases hs;refine Aa (λ aB=>?_) (λ aJ=>⟨B1,?_⟩)
 ·have h1:i<ls.length:=by omega
  have h2:i<ms.length:=by omega
  refine (SH.start (λ _=>False) w1).E9 λ w2 B2 _=>⟨⟨by omega,aB⟩,?_⟩;have C2:=Ac B1 B2;obtain⟨p1,rfl,c0,c1,c2⟩:=FZ (hl.grown C2) h1;obtain⟨p2,rfl,d0,d1,d2⟩:=FZ (hm.grown C2) h2;refine⟨⟨by omega,by omega⟩,_,by rw [Ak4];exact c0,_,by rw [Ak4];exact c1,_,by rw [Ak4];exact c2,_,by rw [Ak4];exact d0,_,by rw [Ak4];exact d1,_,by rw [Ak4];exact d2,?_⟩;rw [Adv];refine Au (Aa (λ he=>?_) (λ he=>⟨C2,?_⟩))
  ·rw [Ae (by omega)];refine⟨⟨i+1,by omega,rfl,C2,?_⟩,?_⟩
   ·rw [List.take_succ_eq_append_getElem h1,List.take_succ_eq_append_getElem h2,hT,he]
   ·simp only [Ak4];omega
  ·congr 1;rw [eq_comm,decide_eq_false_iff_not];rintro rfl;exact he rfl
 ·congr 1;rw [eq_comm,decide_eq_true_eq];rw [List.take_of_length_le (by omega),List.take_of_length_le (by omega)] at hT;exact hT
end
section
variable {w:World}{g p:Addr}{cs:List BQ}{aR:List BG}{n:Nat}{a a2:Option Addr}{c c2:Nat}{ps:List BG}
end
def Aj6(c:BQ):Prop:=c.1.size<=maxLen
def rwC(p:BG):List Value:=[Cz p]
structure AjP(w:World)(p:BG):Prop where
 len:p.2.2.length<=maxLen
 rd:Rd w p.1 (AO p.2.2)
 ok:∀ v∈p.2.2,BN v
theorem VL:Tryz.prog.cellsOf ty.bool=1:=by kernel_rfl
theorem Aig:PV Tryz.prog ty.Di=some [(ty.string,0),(ty.int,1),(ty.bool,2)]:=by kernel_rfl
theorem UY:Tryz.prog.underlying ty.string=some .string:=by kernel_rfl
theorem W5:Tryz.prog.underlying ty.bool=some .bool:=by kernel_rfl
theorem Ah5:Tryz.prog.underlying ty.CH=some (.slice ty.AW):=by kernel_rfl
theorem Aef:Tryz.prog.cellsOf ty.Di=3:=by kernel_rfl
theorem Tb{w:World}:∀ m r,r.length=Tryz.prog.cellsOf ty.Di->Go.Dn.Good Tryz.prog w m ty.Di r->∃ x,r=Wh x/\Aj6 x:=by
 intro m r hl h;obtain⟨_,n,hf⟩:=h.fields Aig;rw [Aef] at hl
 match r,hl with
 | [v0,v1,v2],_ =>
  simp only [AkL,Al5,or_false,forall_eq_or_imp,forall_eq,RV,VL,Ms] at hf;obtain⟨h0,h1,h2⟩:=hf;obtain⟨x0,e0,q0⟩:=h0.str UY;obtain⟨x1,e1,q1⟩:=h1.int Qr;obtain⟨x2,e2⟩:=h2.bool W5;refine⟨(x0,x1,x2),?_,q0⟩;simp only [List.drop_zero,List.take_succ_cons,List.take_zero,List.drop_succ_cons,List.cons.injEq,and_true] at e0 e1 e2;rw [e0,e1,e2];rfl
theorem YZ{w:World}:∀ m r,r.length=Tryz.prog.cellsOf ty.CH->Go.Dn.Good Tryz.prog w m ty.CH r->∃ x,r=rwC x/\AjP w x:=by
 intro m r hl h;obtain⟨a,c,xs,rfl,h1,h2,h3,h4,h5⟩:=h.list Ah5 _ _ Uh;exact⟨(a,c,xs),rfl,Ali h1 h2,h4,λ v hv=>(h5 v hv).1⟩
theorem Age{w:World}{a:Option Addr}{cs:List BQ}{c:Nat}(g:GL w Wh Aj6 a cs c):Rd w a (BM cs)/\cs.length<=9223372036854775807/\∀ c∈cs,c.1.size<=9223372036854775807 :=
 ⟨g.2.2.2.1,Ali (Ali g.1 g.2.1) (by decide),λ v hv=>Ali (g.2.2.2.2 v hv) (by decide)⟩
theorem AfK{w:World}{a:Option Addr}{ps:List BG}{c:Nat}(g:GL w rwC (AjP w) a ps c):Bb w a ps/\ps.length<=9223372036854775807/\(∀ r∈rws ps,∀ v∈r,BN v)/\∀ p∈ps,p.2.2.length<=9223372036854775807:=by
 refine⟨⟨?_,λ p hp=>(g.2.2.2.2 p hp).rd⟩,Ali (Ali g.1 g.2.1) (by decide),λ r hr=>?_,λ p hp=>Ali (g.2.2.2.2 p hp).len (by decide)⟩
 ·have:=g.2.2.2.1;rw [show ps.flatMap rwC=ps.map Cz from Ags Cz ps] at this;exact this
 ·obtain⟨p,hp,rfl⟩:=List.mem_map.1 hr;exact (g.2.2.2.2 p hp).ok
section
variable {w:World}{a a2:Option Addr}{c c2:Nat}{cs:List BQ}{ps:List BG}
end
def Fe(s:ByteArray):ByteArray:=BC (TK (Iw (bl s)))
theorem Js(s:ByteArray):(Fe s).size=64:=by
 unfold Fe;rw [AY,Vt,FK]
section
variable {w:World}
theorem G5(T:I8 w)(s:ByteArray)(hs:s.size<=140737488355328):Calls Tryz.prog f.Yz #[.string s] w (AG λ v w'=>v=.string (Fe s)/\Below w.heap.size w w'):=by
 apply R.OQ
 delta R.B R.Ct R.J R.N R.Rs R.S R.T;try dsimp only [R.Ps]
 have au:=A9 s;refine CF CB s w λ b0 c0 cells e0 w1 bh B1 jW al iY dA=>?_;have dP:Rd w1 (some ⟨b0,0,none⟩) ((bl s).map Ag):=by
  have:=(Rd.Ak jW).take s.size;rw [dA] at this;exact this
 refine⟨_,_,_,rfl,(((ST.start w).grown B1).An λ b4 w2 _ B2 S=>?_)⟩;rw [<- au] at S;have gU:Rd w2 (some ⟨b4,0,none⟩) ([(some ⟨b0,0,none⟩,c0,bl s)].map BZ):=S.Gw 0 rfl;have e2:BV [(some ⟨b0,0,none⟩,c0,bl s)]=bl s:=by simp [BV]
 refine (Mp (c:=1) (T.grown S.Ar) [(some ⟨b0,0,none⟩,c0,bl s)] gU (by
   intro p hp;simp only [AkL,Al5,or_false] at hp;subst hp;exact dP.grown B2) (by simp) (by rw [e2];omega)).mono ?_
 rw [e2];rintro _ w3 ⟨_,rfl,rfl,B3⟩;have S:=S.grown B3;have bj:(Iw (bl s)).length=32:=FK _;obtain⟨nm,cC⟩:∃ nm,nm=Fe s:=⟨_,rfl⟩;unfold Fe at cC;obtain⟨dg,hdg⟩:∃ dg,dg=Iw (bl s):=⟨_,rfl⟩;rw [show Fe s=nm from cC.symm];rw [<- hdg] at bj cC ⊢;refine I6 dg bj ⟨rfl,(ZM dg bj w3).mono ?_⟩;rintro _ w4 ⟨_,rfl,rfl,B4⟩;exact⟨_,rfl,by rw [cC],Ac S.Ar B4⟩
theorem Ni(s:ByteArray)(hs:s.size<=140737488355328):Calls Tryz.prog f.Acg #[.string s] w (AG λ v w'=>v=.string (Fe s)/\Below w.heap.size w w'):=by
 apply R.RH
 delta R.B R.Ct R.Rs R.S R.T;try dsimp only [R.Ps]
 have au:=A9 s;refine CF CB s w λ b0 c0 cells e0 w1 bh B1 jW al iY dA=>?_;have dP:Rd w1 (some ⟨b0,0,none⟩) ((bl s).map Ag):=by
  have:=(Rd.Ak jW).take s.size;rw [dA] at this;exact this
 rw [<- au];refine⟨_,_,_,rfl,(JM (bl s) dP (by omega) (by omega)).mono ?_⟩;rintro _ w3 ⟨_,rfl,rfl,B3⟩;have bj:(Iw (bl s)).length=32:=FK _;obtain⟨nm,cC⟩:∃ nm,nm=Fe s:=⟨_,rfl⟩;unfold Fe at cC;obtain⟨dg,hdg⟩:∃ dg,dg=Iw (bl s):=⟨_,rfl⟩;rw [show Fe s=nm from cC.symm];rw [<- hdg] at bj cC ⊢;refine I6 dg bj ⟨rfl,(Yd dg bj w3).mono ?_⟩;rintro _ w4 ⟨_,rfl,rfl,B4⟩;exact⟨_,rfl,by rw [cC],Ac (Ac B1 B3) B4⟩
end
end Go.Proofs.YtpnaifmmggnimaaGreatDoor
namespace Go.Dn
set_option linter.unusedVariables false
set_option maxRecDepth 100000
open Go.RowKit (Below)
section
variable {w0 w:World}{H:List It}
theorem ST.mid(l:List It){X B:List It}(S:ST w0 w (X++(l++B))):ST w0 w (l++(X++B)):=S.perm (List.perm_append_comm_assoc X l B)
end
end Go.Dn
namespace Go.Dn
set_option linter.unusedVariables false
set_option maxRecDepth 100000
section
variable {w0 w:World}{H:List It}
end
end Go.Dn
namespace Go.Dn
set_option linter.unusedVariables false
set_option maxRecDepth 100000
open Go.RowKit (Below)
section
variable {w0 w:World}{H:List It}{P:Program}{f:FuncId}{args:Array Value}{Q:Ending->World->Prop}
end
section
variable {w0 w:World}{H:List It}
theorem ST.mk0(S:ST w0 w H){P:Program}{t e:TypeId}{sz bytes:Nat}{z:Value}(hT:MN P t=some (e,sz,bytes,z)){c:Nat}(hb:bytes*c<=281474976710656)(hc:c<=9223372036854775807){f:Value->World->Prop}{kl kc:IntKind}
  (hf:∀ b w',ST w0 w' (It.row e sz (some ⟨b,0,none⟩) 0 c [] :: H)->f (.slice (some ⟨b,0,none⟩) 0 c) w'):DE P (Instr.makeSlice t (.int kl 0) (.int kc (c:Int))) f w :=
 Hx hT hb hc λ b w' h1 h2 h3=>hf b w' (S.add h2 _ h3 λ k hk=>by cases hk;exact h1)
theorem ST.Akw(S:ST w0 w H)(n:Nat){e:TypeId}{sz:Nat}{a:Option Addr}{m c:Nat}{xs:List Value}(hn:H[n]?=some (It.row e sz a m c xs)):ST w0 w (H.set n (It.rd a xs)) :=
 S.IX n hn (Ai.refl _ w) _ (S.rd n hn) λ k hk=>by
  cases xs with
  | nil=>cases hk
  | cons x xs=>exact .inl hk
end
end Go.Dn
