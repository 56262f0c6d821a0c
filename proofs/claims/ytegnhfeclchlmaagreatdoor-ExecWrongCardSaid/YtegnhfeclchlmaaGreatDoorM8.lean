/-
  Texts of this claim, laid one behind the other by a program of mine (install.py): Z.Seg3, Z.Seg4, Z.Seg5, Z.TakeS2, Z.Seg6, Z.Seg7, Z.Seg8, Z.Seg9, Z.Seg10, Z.Seg11, Z.Seg12, Z.Seg13, Z.Ew1, Z.PlLaw, Z.Kind, Z.Kind2.
-/
import Derived.Test.YtegnhfeclchlmaaGreatDoorM7
import Derived.Test.YtegnhfeclchlmaaGreatDoorM4
import Derived.Test.YtegnhfeclchlmaaGreatDoorM6
namespace Go.Proofs.YtegnhfeclchlmaaGreatDoor
open _root_.Int renaming fdiv -> Akz, toNat_natCast -> Ajz
open _root_.List renaming append_assoc -> Aju, drop -> AkC, drop_left -> Aku, drop_zero -> Akd, ext_getElem -> Akx, flatten_cons -> Ake, getD -> Akq, getElem?_append_right -> AkE, getElem?_eq_getElem -> Ajv, getElem_mem -> Akg, length -> Aky, length_append -> Ajk, length_cons -> AjK, length_drop -> Ajw, length_map -> AjM, length_nil -> Akp, length_take -> Ajr, map_append -> Akv, map_cons -> Aj4, map_drop -> AkD, map_take -> Akt, mem_append -> Akk, mem_cons -> Ajc, mem_map -> Ajb, mem_singleton -> Akn, nil_append -> AkA, not_mem_nil -> Akw, range -> AjO, replicate -> AjJ, take -> AkB, take_left -> Ajo, take_of_length_le -> Akm, take_succ_eq_append_getElem -> Akj
open _root_.Nat renaming le_refl -> Ajx, mul_one -> AjC, sub_self -> AkF, sub_zero -> Aks, zero_add -> Ajp
open _root_.Option renaming map_eq_some_iff -> Aj8, map_some -> Aj0
open _root_.Option.some renaming inj -> Aj9, injEq -> AjY
open _root_.Prod.mk renaming injEq -> AjI
open _root_.UInt8 renaming ofNat -> AjA
set_option maxRecDepth 100000
open Go.Dn Go.Proofs
open Go.RowKit (Below)
set_option linter.unusedVariables false
theorem Ais:Tryz.prog.underlying ty.AM=some (.slice ty.uint8):=by kernel_rfl
theorem AhA:Tryz.prog.underlying ty.uint8=some (.int .u8):=by kernel_rfl
theorem Wc(l:List UInt8){n:Nat}{f:List Value->Prop}(hn:l.length=n)(h:f (l.map Af)):Fw (AjJ n (.int .u8 0)) f :=
 HC .u8 (l.map uI) (by simpa using hn) (by rw [<- JX];exact h)
def Ae3(a:Option Addr)(c:Nat)(l:List UInt8):It:=It.buf ty.uint8 1 a l.length c (l.map Af)
section
variable {w0 w:World}{H:List It}{a:Option Addr}{c:Nat}{l:List UInt8}
theorem Ahr(S:ST w0 w H)(n:Nat)(hn:H[n]?=some (Ae3 a c l)){m:List UInt8}{b:Option Addr}{mc:Nat}(hs:Rd w b (m.map Af))(h0:0<m.length)(hl:l.length+m.length<=140737488355328){f:Value->World->Prop}
  (hf:∀ a' c' w',ST w0 w' (H.set n (Ev a' c' (l++m)))->f (.slice a' (l++m).length c') w') :
  Dc Tryz.prog (Builtin.append_ #[ty.AM,ty.AM] ty.AM #[.slice a l.length c,.slice b m.length mc]) f w:=by
 refine S.AiB n hn tB zB (by omega) (by omega) hs (mm:=m.length) (by simp) h0 (Hg _) (by omega) λ a' c' w' S'=>?_;have e1:(l++m).length=l.length+m.length:=by simp
 rw [<- Akv] at S';have:=hf a' c' w' (by unfold Ev;rw [e1];exact S');rwa [e1] at this
theorem AfZ(S:ST w0 w H)(n:Nat)(hn:H[n]?=some (Ev a c l)):ST w0 w (H.set n (Ae3 a c l)):=S.Sw n hn (.refl _ _) _ (.inl (S.get n hn)) (λ k hk=>.inl hk)
theorem Ahs(S:ST w0 w H)(n:Nat)(hn:H[n]?=some (Ev a c l)){m:List UInt8}{k:Nat}(hk:m.length=k){b:Option Addr}{mc:Nat}(hs:Rd w b (m.map Af))(hl:l.length+m.length<=140737488355328){f:Value->World->Prop}
  (hf:∀ a' c' w',ST w0 w' (H.set n (Ev a' c' (l++m)))->f (.slice a' (l++m).length c') w') :
  Dc Tryz.prog (Builtin.append_ #[ty.AM,ty.AM] ty.AM #[.slice a l.length c,.slice b k mc]) f w:=by
 subst hk;exact Aeu S n hn hs hl hf
end
section
variable {w:World}{a a2:Option Addr}{c c2:Nat}{cs:List AA}{ps:List BN}
theorem R5(n:Nat)(hn:n<4294967296):Calls Tryz.prog f.Yb #[.int .i64 (n:Int)] w (AD λ v w'=>∃ b,v=.slice (some ⟨b,0,none⟩) 4 4/\EU w w' (PH n) (some ⟨b,0,none⟩) 4):=by
 apply R.Ni
 delta R.B R.J R.N R.S R.Wb;try dsimp only [R.Ps]
 refine (ST.start w).Ak λ b w1 hb B S=>⟨b,rfl,?_⟩;have sh:∀ k,Akz (n:Int) (2 ^ k)=((n / 2 ^ k:Nat):Int):=λ k=>by
  rw [Int.fdiv_eq_ediv_of_nonneg _ (Int.pow_nonneg (by decide))]
  norm_cast
 have by_:∀ m:Nat,Value.int .u8 (IntKind.u8.wrap (m:Int))=Af (AjA (m % 256)):=λ m=>by
  rw [wrap_u8,<- He (x:=m % 256) (by omega)];congr 1
 have e:(#[Value.int .u8 (IntKind.u8.wrap (n:Int)),.int .u8 (IntKind.u8.wrap (Akz (n:Int) (2 ^ (min 8 64)))),.int .u8 (IntKind.u8.wrap (Akz (n:Int) (2 ^ (min 16 64)))),.int .u8 (IntKind.u8.wrap (Akz (n:Int) (2 ^ (min 24 64))))]:Array Value)=((PH n).map Af).toArray:=by
  rw [show min 8 64=8 from rfl,show min 16 64=16 from rfl,show min 24 64=24 from rfl,sh,sh,sh,by_,by_,by_,by_];rfl
 rw [e] at S;have hg:=S.Bu 0 rfl;exact⟨⟨rfl,.inr ⟨b,_,rfl,hg,Ajx _,by decide,rfl,rfl⟩⟩,λ k hk=>by cases hk;exact hb,B⟩
theorem Wp{b:Nat}{r:List AW}{ra:Option Addr}{rc:Nat}(hc:w.cell? ⟨b,0,none⟩=some (.slice a cs.length c))(hl:Rd w a (AO cs))(hn:cs.length<=9223372036854775807)(hq:∀ c∈cs,c.1.size<=9223372036854775807)(hr:Rd w ra (Ba r)) :
  Calls Tryz.prog f.Dk #[.slice ra r.length rc,.pointer (some ⟨b,0,none⟩)] w (AD λ v w'=>v=.bool (!(Ai cs && EY cs r))/\Below w.heap.size w w'):=by
 apply R.Ii
 delta R.A R.Cb R.G R.Ls R.S;try dsimp only [R.Ps]
 refine⟨_,_,_,hc,(RX hl hn hq hr).mono ?_⟩;rintro _ w1 ⟨_,rfl,rfl,B⟩;exact⟨_,rfl,rfl,B⟩
theorem Uz{b:Nat}(hc:w.cell? ⟨b,0,none⟩=some (.slice a cs.length c))(hl:Rd w a (AO cs))(hn:cs.length<=9223372036854775807)(hq:∀ c∈cs,c.1.size<=9223372036854775807)(hr:BU w a2 ps)(hm:ps.length<=900000) :
  Calls Tryz.prog f.BM #[.slice a2 ps.length c2,.func (.func f.Dk) #[] #[.pointer (some ⟨b,0,none⟩)]] w (AD λ v w'=>∃ z:Int,v=.int .i64 z/\Below w.heap.size w w'/\(0<=z↔∃ r∈rws ps,(Ai cs && EY cs r)=false)):=by
 apply R.Bj
 delta R.Ad R.F R.G R.I R.Ls R.Qi R.S R.W R.X;try dsimp only [R.Ps]
 refine⟨λ st w2=>∃ i:Nat,st=[.int .i64 (i:Int)]/\i<=ps.length/\(∀ r∈rws (ps.take i),(Ai cs && EY cs r)=true)/\Below w.heap.size w w2,λ st _=>match st with | [.int _ t]=>ps.length-t.toNat | _=>0,⟨0,rfl,by omega,by simp,.refl _ _⟩,?_⟩;rintro t w2 ⟨i,aA,hi,aC,B2⟩;cases aA;refine Aa (λ aB=>⟨⟨by omega,aB⟩,?_⟩) (λ aM=>⟨_,rfl,B2,?_⟩)
 ·have aE:i<ps.length:=by omega
  obtain⟨q,rfl,hq1,hv⟩:=(hr.grown B2).at aE;have dN:w2.cell? ⟨b,0,none⟩=some (.slice a cs.length c):=(Aq.AQ (F:=λ _=>False) B2).cell hc (by simp);refine⟨_,_,_,by rw [Ajz];exact hq1,?_⟩;rw [show enters Tryz.prog f.Dk=true by kernel_rfl];refine (Wp dN (hl.grown B2) hn hq hv).mono ?_;rintro _ w3 ⟨_,rfl,rfl,B3⟩;refine⟨_,rfl,Ap (Ao (λ hf=>?_) (λ hf=>?_))⟩
  ·rw [Ah (by omega)];refine⟨⟨i+1,rfl,by omega,λ r hr=>?_,Ac B2 B3⟩,?_⟩
   ·simp only [rws,Ajb] at hr;obtain⟨p,hp,rfl⟩:=hr;rw [Akj aE] at hp;rcases Akk.1 hp with h | h
    ·exact aC _ (Ajb.2 ⟨p,h,rfl⟩)
    ·rw [Akn.1 h];exact hf
   ·show ps.length-((i+1:Nat):Int).toNat<ps.length-((i:Nat):Int).toNat;simp only [Ajz];omega
  ·exact⟨_,rfl,Ac B2 B3,⟨λ _=>⟨_,Ajb.2 ⟨ps[i],Akg aE,rfl⟩,hf⟩,λ _=>by omega⟩⟩
 ·rw [Akm (by omega)] at aC;constructor
  ·intro h;omega
  ·rintro⟨r,hr,hf⟩;rw [aC r hr] at hf;cases hf
theorem Pk{b:Nat}(hc:w.cell? ⟨b,0,none⟩=some (.slice a cs.length c))(hl:Rd w a (AO cs))(hn:cs.length<=9223372036854775807)(hq:∀ c∈cs,c.1.size<=9223372036854775807)(hr:BU w a2 ps)(hm:ps.length<=900000) :
  Calls Tryz.prog f.Br #[.slice a2 ps.length c2,.func (.func f.Dk) #[] #[.pointer (some ⟨b,0,none⟩)]] w (AD λ v w'=>∃ z:Bool,v=.bool z/\Below w.heap.size w w'/\(z=true↔∃ r∈rws ps,(Ai cs && EY cs r)=false)):=by
 apply R.A9
 delta R.Ci R.G R.S;try dsimp only [R.Ps]
 refine (Uz hc hl hn hq hr hm).mono ?_;rintro _ w1 ⟨_,rfl,z,rfl,B,h⟩;exact⟨_,rfl,_,rfl,B,by rw [decide_eq_true_eq];exact h⟩
theorem Xp{l:List UInt8}{v:AW}{r:Value}{w w':World}(hr:AG v=true)(h:Ah6 l v r w w'):∃ a c,r=.tuple #[.slice a (l++E3 v).length c,.int .i64 0]/\EU w w' (l++E3 v) a c:=by
 rcases h with ⟨h,_⟩ | ⟨_,h⟩
 ·rw [hr] at h;cases h
 ·exact h
set_option maxHeartbeats 1000000 in
theorem Hx(h0:ps=[])(T:L6 w)(hl:Rd w a (AO cs))(hn:cs.length<=9223372036854775807)(hq:∀ c∈cs,c.1.size<=9223372036854775807)(hr:BU w a2 ps)(hm:ps.length<=9223372036854775807)(hv:∀ r∈rws ps,∀ v∈r,F5 v) :
  Calls Tryz.prog f.EP #[.slice a cs.length c,.slice a2 ps.length c2] w (AD λ v w'=>AhP cs (rws ps) v/\Below w.heap.size w w'):=by
 apply R.Kf
 delta R.A R.Ab R.B R.FH R.Dd R.Cb R.Cf R.Cs R.D R.E R.F R.H R.I R.J R.Ks R.Li R.Ls R.Lt R.N R.O R.P R.Rs R.Rt R.S R.Ae R.T R.U R.Wu R.X R.Y;try dsimp only [R.Ps]
 refine (ST.start w).Ak λ b3 w1 mf B1 S=>⟨_,_,_,S.cell 0 rfl rfl,?_⟩;refine (Tg (l:=[]) (a:=none) (c:=0) (Rd.nil _ _) (by simp) (hl.grown S.Ag) hn hq).mono ?_;rintro _ w2 ⟨_,rfl,h2⟩;have bad:∀ {wx:World} (e:Int),Below w.heap.size w wx->(Z6 cs (rws ps)=e)->e≠0->AhP cs (rws ps) (.tuple #[.string ⟨#[]⟩,.int .i64 e])/\Below w.heap.size w wx:=by
  rintro wx e B rfl h0;refine⟨.inl ⟨λ hs=>h0 ?_,rfl,h0⟩,B⟩;have h1:¬ (1024<(rws ps).length\/∃ r∈rws ps,EY cs r=false):=by
   rintro (h | ⟨r,hr,h⟩)
   ·have:=hs.len;omega
   ·rw [hs.fits r hr] at h;cases h
  have h2:¬ Ai cs=false:=by rw [hs.right];decide
  rw [Z6,if_neg h2,if_neg h1]
 rcases h2 with ⟨hR,rfl,B2⟩ | ⟨hR,je,jA,rfl,h2⟩
 ·refine⟨_,_,_,_,rfl,(S.grown B2).Ak λ b8 w3 _ _ S=>S.BA 0 rfl (by simp) rfl λ w4 S=>As (λ _=>bad 50 S.Ag ?_ (by decide)) (λ h=>by cases h)⟩;rw [Z6,if_pos hR]
 have oy:¬ Ai cs=false:=by rw [hR];decide
 rw [AkA] at h2 ⊢;have S:=Gz S h2;refine⟨_,_,_,_,rfl,S.Ak λ b8 w3 _ _ S=>S.BA 0 rfl (aD:=#[.slice je (En cs).length jA]) (by simp) rfl λ w4 S=>As (λ h=>absurd rfl h) (λ _=>Aa (λ h=>bad 51 S.Ag ?_ (by decide)) (λ hlen=>?_))⟩
 ·have:1024<(rws ps).length:=by simp only [rws,AjM];omega
  rw [Z6,if_neg oy,if_pos (.inl this)]
 have cL:ps.length<=1024:=by omega
 refine (Pk (S.cell 2 rfl rfl) (hl.grown S.Ag) hn hq (hr.grown S.Ag) (by omega)).mono ?_;rintro _ w5 ⟨_,rfl,z,rfl,B5,hz⟩;have S:=S.grown B5;refine⟨_,rfl,Ao (λ h=>bad 51 S.Ag ?_ (by decide)) (λ o9=>?_)⟩
 ·obtain⟨r,hr,hf⟩:=hz.1 h;rw [hR,Bool.true_and] at hf;rw [Z6,if_neg oy,if_pos (.inr ⟨r,hr,hf⟩)]
 have aZ:Cw cs (rws ps):=by
  refine⟨hR,by simp only [rws,AjM];omega,λ r hr=>?_,hv,by rw [h0];rfl⟩;cases hf:EY cs r with
  | true=>rfl
  | false =>
   have:=hz.2 ⟨r,hr,by rw [hf,Bool.and_false]⟩;rw [o9] at this;cases this
 have jN:∀ p∈ps,p.2.2.length=cs.length:=λ p hp=>aZ.Z4 (Ajb.2 ⟨p,hp,rfl⟩);have cF:=CL hR;have dU:=X5 hR;have d1:=AE (n:=ps.length) (by omega);have nu:Rd w5 je ((En cs).map Af):=KI S 1 rfl;rw [A8 (by omega) (by omega)];refine⟨_,_,_,S.cell 0 rfl rfl,(BC (En cs) nu ps.length (by omega) (by omega)).mono ?_⟩;rintro _ w6 ⟨_,rfl,a6,c6,rfl,h6⟩;have S:=Gz S h6;refine⟨_,_,_,rfl,S.BA 1 rfl (aD:=#[.slice a6 (En cs++Al ps.length).length c6]) (by simp) rfl λ w7 S=>S.Ak λ dq w8 rV _ S=>WJ Ais AhA (S.Bu 0 rfl) λ w9 K9 pH=>⟨_,_,_,rfl,?_⟩⟩;have S:=S.Sw 0 rfl (K9.mono λ k _ h=>by subst h;rfl) (Ae3 (some ⟨dq,0,none⟩) 4 CZ) (.inr ⟨_,rfl,rfl,Rd.Av pH,rfl,(Array.getElem?_eq_some_iff.1 pH).1⟩) (λ k hk=>.inl hk);refine S.Ak λ oW dJ _ _ S=>S.BA 0 rfl (aD:=#[.slice (some ⟨dq,0,none⟩) 4 4]) (by simp) rfl λ bm S=>⟨_,_,_,S.cell 5 rfl rfl,JJ.mono ?_⟩;rintro _ cI ⟨_,rfl,q1,q2,rfl,P⟩;have S:=S.join P;refine⟨_,_,_,rfl,by kernel_rfl,λ rr aA bT hy=>?_⟩
 have S:=S.range rr;obtain⟨L,hL⟩:∃ L,L=cI.heap.size+1:=⟨_,rfl⟩;obtain⟨d,hd⟩:∃ d,d=cI.heap.size:=⟨_,rfl⟩;rw [<- hL] at S hy ⊢;rw [<- hd] at S ⊢;have S:=S.pull 6 rfl;let Hq:Obj->Option Addr->Nat->List UInt8->Option Addr->Nat->List UInt8->List It:=λ o fa fc ft ba bc bb=>[Ev fa fc ft,It.obj L o,It.obj d (.deferred (some [])),It.cells q2 #[.slice a2 ps.length c2] ty.NO,It.cells q1 #[.slice a cs.length c] ty.Bo,
  It.cells oW #[.slice ba bb.length bc] ty.AM,Ae3 ba bc bb,It.cells b8 #[.slice fa ft.length fc] ty.AM,Ev je jA (En cs),It.cells b3 #[.slice a cs.length c] ty.Bo]
 let J:Nat->World->Prop:=λ q wx=>∃(xs:List (List UInt8)) (fa:Option Addr) (fc:Nat) (ba:Option Addr) (bc:Nat),xs.length=q/\CU cs (rws ps) xs /\
  ST w wx (Hq (.loop rr) fa fc (En cs++Al ps.length++CX (rws ps) xs) ba bc (CZ++xs.flatten))
 have aT:=Pn (w:=(cI.alloc (.deferred (some []))).alloc (.loop rr)) (c:=c2) (L:=L) (b1:=q1) (b2:=q2) (a:=a2) (c2:=c) (a2:=a) (n:=cs.length) hn (by omega) jN J (λ q wx hj=>by
   obtain⟨xs,fa,fc,ba,bc,_,_,S⟩:=hj;exact⟨hr.grown S.Ag,S.cell 3 rfl rfl⟩) (λ q wx wy hj B=>by
   obtain⟨xs,fa,fc,ba,bc,h1,h2,S⟩:=hj;exact⟨xs,fa,fc,ba,bc,h1,h2,S.grown B⟩) (by
  rintro q wx la lc nZ ⟨xs,fa,fc,ba,bc,dm,fZ,S⟩ sB;subst dm;have hg:=aZ.Ji nZ;have jx:=fZ.flat aZ;have pF:=fZ.Agm aZ;obtain⟨⟨z1,z2⟩,z3,z4⟩:=hg.AcQ;have gF:(A4 (rws ps) xs.length).length=ps.length:=by rw [JT];simp [rws]
  refine hy _ _ _ _ _ wx (S.get 1 rfl) ?_;refine S.AhU 1 rfl λ bG nJ S=>?_;obtain⟨p,hp,c0,c1,c2⟩:=Fh (hl.grown S.Ag) nZ;refine⟨_,_,_,S.cell 9 rfl rfl,⟨by omega,by omega⟩,?_⟩;rw [hp];refine⟨_,by rw [Ajz];exact c1,?_⟩;have pN:=nJ _ _ sB;have hE:=Iq (w:=bG) (a:=la) (c:=lc) cs[xs.length].2.1 hg.none;rw [gF] at hE;refine hE.mono ?_;rintro _ cB ⟨_,rfl,ji⟩;rcases ji with ⟨aq,_⟩ | ⟨_,x,xa,xc,hx,rfl,ji⟩
  ·rw [hg.right] at aq;cases aq
  have dm:=hx.len hg;have sv:0<x.length:=by have:=hx.seven;omega
  have S:=Gz S ji;have hZ:=Kk (w:=cB) (a:=la) (c:=lc) hg.none;rw [gF] at hZ;refine⟨_,_,_,_,rfl,hZ.mono ?_⟩;rintro _ cZ ⟨_,rfl,jV,iD⟩;rcases jV with ⟨_,rfl⟩ | ⟨aq,_⟩
  case inr=>exact absurd hg.OE aq
  have S:=S.grown iD;refine⟨_,_,_,_,_,_,_,_,rfl,S.Ak λ tV cM _ _ S=>S.Af0 0 rfl λ iC S=>⟨_,_,_,S.cell 7 rfl rfl,?_⟩⟩;have sS:Rd iC xa (x.map Af):=KI S 1 rfl;have ic:CZ.length=4:=rfl;refine Ahr S 8 rfl sS sv (by rw [Ajk];omega) λ a25 og oE S=>⟨_,_,_,rfl,S.BA 7 rfl (aD:=#[.slice a25 (CZ++xs.flatten++x).length og]) (by simp) rfl λ lZ S=>S.draw λ fu _ S=>⟨_,_,_,S.cell 9 rfl rfl,_,S.cell 0 rfl rfl,?_⟩⟩;have ei:Dv (A4 (rws ps) xs.length)<=1024:=by have:=Oa (A4 (rws ps) xs.length);omega
  obtain⟨ft,hft⟩:∃ ft,ft=En cs++Al ps.length++CX (rws ps) xs:=⟨_,rfl⟩;rw [<- hft] at S ⊢;have jy:ft.length<=40000:=by rw [hft];simp only [Ajk];omega
  have eA:Rd fu fa (ft.map Af):=KI S 2 rfl;rw [A8 (n:=(x.length:Int)) (by omega) (by omega)];refine (BC ft eA x.length (by omega) (by omega)).mono ?_;rintro _ oF ⟨_,rfl,a28,tb,rfl,ou⟩;have S:=Gz S ou;have tf:=AE (n:=x.length) (by omega);have tg:=AE (n:=Dv (A4 (rws ps) xs.length)) (by omega);have th:=MG z1 z2;have ti:=MG z3 z4;refine⟨_,_,_,rfl,S.cell 1 rfl rfl,?_⟩;rw [A8 (n:=((Dv (A4 (rws ps) xs.length):Nat):Int)) (by omega) (by omega)];refine (BC _ ou.rd (Dv (A4 (rws ps) xs.length)) (by omega) (by rw [Ajk];omega)).mono ?_;rintro _ oG ⟨_,rfl,a29,qq,rfl,rG⟩;have S:=Gz S rG;refine⟨_,_,_,rfl,S.BA 11 rfl (aD:=#[.slice a29 (ft++Al x.length++Al (Dv (A4 (rws ps) xs.length))).length qq]) (by simp) rfl λ iz S=>⟨_,_,_,S.cell 11 rfl rfl,_,S.cell 2 rfl rfl,_,S.cell 2 rfl rfl,_,S.cell 2 rfl rfl,?_⟩⟩;have nf:Rd iz a29 ((ft++Al x.length++Al (Dv (A4 (rws ps) xs.length))).map Af):=KI S 0 rfl;refine (Nw _ nf (zmm (A4 (rws ps) xs.length)).1 z2 (by simp only [Ajk];omega)).mono ?_
  rintro _ jZ ⟨_,rfl,rH⟩;obtain⟨a31,c31,rfl,n31⟩:=Xp z1 rH;have S:=Gz S n31;refine⟨_,_,_,_,rfl,S.BA 12 rfl (aD:=#[.slice a31 (ft++Al x.length++Al (Dv (A4 (rws ps) xs.length))++E3 (zmm (A4 (rws ps) xs.length)).1).length c31]) (by simp) rfl λ ld S=>⟨_,_,_,S.cell 12 rfl rfl,_,S.cell 3 rfl rfl,_,S.cell 3 rfl rfl,_,S.cell 3 rfl rfl,?_⟩⟩;have ng:Rd ld a31 ((ft++Al x.length++Al (Dv (A4 (rws ps) xs.length))++E3 (zmm (A4 (rws ps) xs.length)).1).map Af):=KI S 0 rfl;refine (Nw _ ng (zmm (A4 (rws ps) xs.length)).2 z4 (by simp only [Ajk];omega)).mono ?_;rintro _ pt ⟨_,rfl,rI⟩;obtain⟨a33,c33,rfl,n33⟩:=Xp z3 rI;have S:=Gz S n33;have jh:ft++Al x.length++Al (Dv (A4 (rws ps) xs.length))++E3 (zmm (A4 (rws ps) xs.length)).1++E3 (zmm (A4 (rws ps) xs.length)).2=En cs++Al ps.length++CX (rws ps) (xs++[x]):=by
   rw [W8,hft];simp [Jg]
  have jg:CZ++xs.flatten++x=CZ++(xs++[x]).flatten:=by simp
  rw [jh] at S ⊢;rw [jg] at S;refine⟨_,_,_,_,rfl,S.BA 13 rfl (aD:=#[.slice a33 (En cs++Al ps.length++CX (rws ps) (xs++[x])).length c33]) (by simp) rfl λ tJ S=>S.Mi 7 aA bT rfl λ w' S=>⟨rfl,xs++[x],a33,c33,a25,og,by simp,fZ.snoc nZ hx,?_⟩⟩;exact (AfZ S 12 rfl).keep 6) ⟨[],a6,c6,some ⟨dq,0,none⟩,4,rfl,CU.nil _ _,by
   have e1:En cs++Al ps.length++CX (rws ps) []=En cs++Al ps.length:=by simp [CX]
   have e2:CZ++([]:List (List UInt8)).flatten=CZ:=by simp
   rw [e1,e2];exact S⟩ (S.cell 4 rfl rfl)
 refine aT.mono ?_;rintro _ tK ⟨_,rfl,xs,fa,fc,ba,bc,dm,fZ,S⟩;refine⟨⟨_,rfl⟩,S.Kq 1 aA bT rfl λ oH S=>⟨rfl,S.draw λ oI _ S=>⟨_,_,_,S.cell 5 rfl rfl,_,_,_,S.cell 7 rfl rfl,_,_,_,S.cell 7 rfl rfl,?_⟩⟩⟩;have jx:=fZ.flat aZ;have pF:=fZ.Vj aZ;have cr:=fZ.Aej aZ;have qu:En cs++Al ps.length++CX (rws ps) xs=Ds cs (rws ps) xs:=by
  unfold Ds;rw [show (rws ps).length=ps.length by simp [rws]]
 rw [qu] at S ⊢;obtain⟨ft,hft⟩:∃ ft,ft=Ds cs (rws ps) xs:=⟨_,rfl⟩;rw [<- hft] at S pF ⊢;obtain⟨bb,jF⟩:∃ bb,bb=CZ++xs.flatten:=⟨_,rfl⟩;rw [<- jF] at S ⊢;refine (R5 ft.length (by omega)).mono ?_;rintro _ pv ⟨_,rfl,lG,rfl,rJ⟩;have S:=Gz S rJ;refine⟨_,_,_,rfl,S.cell 8 rfl rfl,S.cell 6 rfl rfl,S.Ak λ qk j' _ _ S=>?_⟩;have kI:Rd j' ba (bb.map Af):=S.rdF 8 rfl;have eA:Rd j' fa (ft.map Af):=KI S 2 rfl;have nz:Rd j' (some ⟨lG,0,none⟩) ((PH ft.length).map Af):=KI S 1 rfl;have nW:Rd j' (some ⟨qk,0,none⟩) ([(ba,bc,bb),(fa,fc,ft),(some ⟨lG,0,none⟩,4,PH ft.length)].map C1):=S.rdc 0 rfl;have tu:bb.length<=33000004:=by rw [jF];simp only [Ajk,CZ,AjK,Akp];omega
 refine (Ca (c:=3) [(ba,bc,bb),(fa,fc,ft),(some ⟨lG,0,none⟩,4,PH ft.length)] nW (by
   intro p hp;simp only [Ajc,Akw,or_false] at hp;rcases hp with rfl | rfl | rfl
   ·exact kI
   ·exact eA
   ·exact nz) (by simp) (by rw [AaQ];simp only [Ajk,PH,AjK,Akp];omega)).mono ?_
 rintro _ uT ⟨_,rfl,a40,lH,rfl,jk⟩;have ly:Bv [(ba,bc,bb),(fa,fc,ft),(some ⟨lG,0,none⟩,4,PH ft.length)]=J9 cs (rws ps) xs:=by
  rw [AaQ,jF,hft];simp [J9]
 rw [ly] at jk ⊢;have S:=Gz S jk;obtain⟨pre,gN⟩:∃ pre,pre=J9 cs (rws ps) xs:=⟨_,rfl⟩;rw [<- gN] at S cr ⊢;refine⟨_,_,_,rfl,S.BA 8 rfl (aD:=#[.slice a40 pre.length lH]) (by simp) rfl λ uU S=>⟨_,_,_,S.cell 8 rfl rfl,S.Ak λ ql oJ _ _ S=>?_⟩⟩;have nh:Rd oJ a40 (pre.map Af):=KI S 1 rfl;have nX:Rd oJ (some ⟨ql,0,none⟩) ([(a40,lH,pre)].map C1):=S.rdc 0 rfl;have oh:Bv [(a40,lH,pre)]=pre:=by simp [Bv]
 refine (Jk (c:=1) (T.grown S.Ag) [(a40,lH,pre)] nX (by
   intro p hp;simp only [Ajc,Akw,or_false] at hp;subst hp;exact nh) (by simp) (by rw [oh];omega)).mono ?_
 rw [oh];rintro _ pw ⟨_,rfl,rfl,q9⟩;have S:=S.grown q9;have dZ:(Pp pre).length=32:=Mf _;obtain⟨dg,hdg⟩:∃ dg,dg=Pp pre:=⟨_,rfl⟩;rw [<- hdg] at dZ ⊢;refine Wc (dg) dZ ⟨rfl,?_⟩;refine S.Ak λ lr tL _ _ S=>?_;have jv:((dg).map Af).length=32:=by rw [AjM];exact dZ
 refine EL jv ?_;refine S.GA 0 rfl jv (Hg _) λ lf S=>?_;refine S.draw λ px _ S=>?_;refine⟨⟨by omega,by omega,by omega⟩,_,_,_,S.cell 10 rfl rfl,?_⟩;have ni:Rd px (BD (some ⟨lr,0,none⟩) 0 32 1) ((dg).map Af):=by
  have h:=(S.rdc 0 rfl).YA 0 32 32 1 (by omega);have e:(AkB ((32-0)*1) (AkC (0*1) ((dg).map Af)))=(dg).map Af:=by
   rw [Nat.zero_mul,Akd];exact Akm (by rw [AjM];omega)
  have h':Rd px (BD (some ⟨lr,0,none⟩) 0 32 1) (AkB ((32-0)*1) (AkC (0*1) ((dg).map Af))):=h;rwa [e] at h'
 refine Ahs S 2 rfl dZ ni (by omega) λ qX td tM S=>⟨_,_,_,rfl,?_⟩;have nk:Rd tM qX ((pre++dg).map Af):=KI S 2 rfl;refine BH LI rfl nk ⟨_,rfl,S.get 7 rfl,.inr ⟨aZ,_,rfl,⟨xs,dm,fZ,?_⟩⟩,(S.put 7 rfl _).Ag⟩;rw [KE,hdg,gN]
end
def Z3(p:BN):It:=Nu p.1 p.2.1 p.2.2
def Jj(bo:Nat)(ps:List BN):List It:=It.cells bo ⟨ps.map C4⟩ ty.A0 :: ps.map Z3
theorem Ahx:LO Tryz.prog ty.A0=some (ty.AX,3,32,.agg #[.int .i64 0,.int .i64 0,.string ⟨#[]⟩]):=by kernel_rfl
theorem Aey:LO Tryz.prog ty.NO=some (ty.A0,1,24,.slice none 0 0):=by kernel_rfl
section
variable {w0 w:World}{E:List It}{bo:Nat}{ps:List BN}
theorem TL(S:ST w0 w (E++Jj bo ps)){i:Nat}(hi:i<ps.length):w.cell? ((⟨bo,0,none⟩:Addr).add (i*1))=some (.slice ps[i].1 ps[i].2.2.length ps[i].2.1):=by
 rw [Ar,Ajp,AjC];refine S.cell E.length (cs:=⟨ps.map C4⟩) (t:=ty.A0) ?_ ?_
 ·rw [AkE (Ajx _),AkF];rfl
 ·rw [<- Array.getElem?_toList];show (ps.map C4)[i]?=_;rw [List.getElem?_map,Ajv hi];rfl
theorem AdR(S:ST w0 w (E++Jj bo ps)){i:Nat}(hi:i<ps.length){x:AW}{b:Nat}(hs:Rd w (some ⟨b,0,none⟩) (GH x))(hl:ps[i].2.2.length+1<=1000000){f:Value->World->Prop}
  (hf:∀ a' c' w',(∀ k:World->Prop,(∀ aR,ST w0 aR (E++Jj bo (ps.set i (a',c',ps[i].2.2++[x])))->k aR)->CI ((⟨bo,0,none⟩:Addr).add (i*1)) (.slice a' (ps[i].2.2++[x]).length c') k w')->f (.slice a' (ps[i].2.2++[x]).length c') w') :
  Dc Tryz.prog (Builtin.append_ #[ty.A0,ty.A0] ty.A0 #[.slice ps[i].1 ps[i].2.2.length ps[i].2.1,.slice (some ⟨b,0,none⟩) 1 1]) f w:=by
 have hn:(E++Jj bo ps)[E.length+(i+1)]?=some (Nu ps[i].1 ps[i].2.1 ps[i].2.2):=by
  rw [AkE (by omega),Nat.add_sub_cancel_left];show (ps.map Z3)[i]?=_;rw [List.getElem?_map,Ajv hi];rfl
 refine Aev S (E.length+(i+1)) Ahx hn hs hl λ a' c' w' S'=>hf a' c' w' λ k hk=>?_;rw [Ar,Ajp,AjC];have e1:(E++Jj bo ps).set (E.length+(i+1)) (Nu a' c' (ps[i].2.2++[x]))=E++(It.cells bo ⟨ps.map C4⟩ ty.A0 :: (ps.set i (a',c',ps[i].2.2++[x])).map Z3):=by
  rw [List.set_append_right _ _ (by omega),Nat.add_sub_cancel_left];show E++(_ :: (ps.map Z3).set i _)=_;rw [List.map_set];rfl
 rw [e1] at S';refine S'.BA E.length (cs:=⟨ps.map C4⟩) (aD:=⟨(ps.set i (a',c',ps[i].2.2++[x])).map C4⟩) (t:=ty.A0) ?_ (by show i<(ps.map C4).length;simpa using hi) ?_ λ aR S''=>hk aR ?_
 ·rw [AkE (Ajx _),AkF];rfl
 ·apply Array.ext';rw [Array.toList_setIfInBounds,List.map_set];rfl
 ·rw [List.set_append_right _ _ (Ajx _),AkF] at S'';exact S''
theorem Ab1(S:ST w0 w (E++Jj bo ps)):BU w (some ⟨bo,0,none⟩) ps:=by
 refine⟨?_,λ p hp=>?_⟩
 ·have hg:w.heap[bo]?=some (.cells ⟨ps.map C4⟩ ty.A0 (0,0)):=S.ok (It.cells bo ⟨ps.map C4⟩ ty.A0) (by simp [Jj]);exact Rd.Av hg
 ·have:(Z3 p).ok w:=S.ok _ (List.mem_append_right _ (List.mem_cons_of_mem _ (Ajb.2 ⟨p,hp,rfl⟩)));exact Row.rd this
theorem Ab0(S:ST w0 w E){w':World}(n:Nat)(hb:w.heap.size<=bo)(B:Below w.heap.size w w')(hg:w'.heap[bo]?=some (.cells (madeCells (Value.slice none 0 0).cells (n*1)) ty.A0 (0,0))):ST w0 w' (Jj bo (AjJ n (none,0,[]))++E):=by
 have e:madeCells (Value.slice none 0 0).cells (n*1)=⟨(AjJ n ((none,0,[]):BN)).map C4⟩:=by
  apply Array.ext';rw [SS _ rfl,AjC,List.map_replicate];rfl
 rw [e] at hg;have S1:∀ m,ST w0 w' ((AjJ m ((none,0,[]):BN)).map Z3++E):=by
  intro m
  induction m with
  | zero=>exact S.grown B
  | succ m ih=>rw [List.replicate_succ];exact ih.nil _ _
 have nn:∀ k,(It.cells bo ⟨(AjJ n ((none,0,[]):BN)).map C4⟩ ty.A0).Bu=some k->∀ y∈(AjJ n ((none,0,[]):BN)).map Z3++E,y.Bu≠some k:=by
  intro k hk y hy kS;have cG:bo=k:=Aj9 hk;rcases Akk.1 hy with h | h
  ·obtain⟨p,hp,rfl⟩:=Ajb.1 h;rw [(List.mem_replicate.1 hp).2] at kS;cases kS
  ·have:=y.lt w (S.ok y h) k kS;omega
 refine⟨(S1 n).Ag,λ x hx=>?_,List.pairwise_cons.2 ⟨λ y hy k hk=>nn k hk y hy,(S1 n).nd⟩,λ x hx k hk=>?_⟩
 ·rcases Ajc.1 hx with rfl | hx
  ·exact hg
  ·exact (S1 n).ok x hx
 ·rcases Ajc.1 hx with rfl | hx
  ·have cG:bo=k:=Aj9 hk;have:=S.Ag.size;omega
  ·exact (S1 n).own x hx k hk
end
def rowAt(SE:List (List AW))(r:Nat):List AW:=SE.map λ l=>l.getD r Z0
def rowsOf(SE:List (List AW))(n:Nat):List (List AW):=(AjO n).map (rowAt SE)
theorem Z2(aH:List BN){j:Nat}(hj:j<aH.length){r:Nat}(hr:r<aH[j].2.2.length):rowAt (rws (aH.take (j+1))) r=rowAt (rws (aH.take j)) r++[aH[j].2.2[r]]:=by
 unfold rowAt rws;rw [Akj hj,Akv,Akv];simp only [Aj4,List.map_nil,Akq,Ajv hr,Option.getD_some]
theorem Aep{ps:List BN}{n:Nat}{SE:List (List AW)}(hl:ps.length=n)(h:∀ r (hr:r<ps.length),ps[r].2.2=rowAt SE r):rws ps=rowsOf SE n:=by
 refine Akx (by simp [rowsOf,hl]) λ r h1 h2=>?_;simp only [rws,List.getElem_map,rowsOf,List.getElem_range];exact h r (by simpa using h1)
section
variable {w:World}{p:Addr}{n:Nat}{aH:List BN}{va:Option Addr}{vc:Nat}
theorem AgI(h3:w.cell? (p.add 3)=some (.int .i64 (n:Int)))(h1:w.cell? (p.add 1)=some (.slice va aH.length vc))(hv:BU w va aH)(hn:n<=4096)(hc:aH.length<=1000)(hl:∀ q∈aH,q.2.2.length=n) :
  Calls Tryz.prog f.Kg #[.pointer (some p)] w (AD λ v w'=>∃ bo ps,v=.slice (some ⟨bo,0,none⟩) n n/\ps.length=n/\rws ps=rowsOf (rws aH) n/\BU w' (some ⟨bo,0,none⟩) ps/\Below w.heap.size w w'):=by
 apply R.GF
 delta R.Ad R.D R.F R.I R.J R.Ks R.Li R.Ls R.Lt R.N R.Qi R.Rs R.S R.Ae R.T R.W R.X;try dsimp only [R.Ps]
 refine⟨_,h3,MJ Aey (l:=(n:Int)) (c:=(n:Int)) (by omega) (by omega) (by omega) (by omega) λ bo w1 lM B1 mS=>?_⟩;rw [Ajz] at mS ⊢;have S:=Ab0 (ST.start w) n lM B1 mS;rw [List.append_nil] at S;refine⟨_,_,_,rfl,λ s w2=>∃(i:Nat) (ps:List BN),s=[.int .i64 (i:Int)]/\i<=n/\ps.length=n/\(∀ r (hr:r<ps.length),ps[r].2.2=if r<i then rowAt (rws aH) r else [])/\ST w w2 ([]++Jj bo ps),λ s _=>match s with
   | [.int _ i]=>n-i.toNat
   | _=>0,⟨0,_,rfl,by omega,by simp,λ r hr=>by simp,S⟩,?_⟩
 rintro _ w2 ⟨i,ps,aA,hi,cr,aI,S⟩;cases aA;refine Aa (λ aB=>?_) (λ aM=>⟨bo,ps,rfl,cr,Aep cr λ r hr=>by rw [aI r hr,if_pos (by omega)],Ab1 S,S.Ag⟩);have cj:i<n:=by omega
 have K:=Aq.AQ (F:=λ _=>False) S.Ag;refine⟨_,_,_,K.cell h1 (by simp),?_⟩;refine⟨λ s w3=>∃(j:Nat) (ps:List BN),s=[.int .i64 (j:Int)]/\j<=aH.length/\ps.length=n/\(∀ r (hr:r<ps.length),ps[r].2.2=if r<i then rowAt (rws aH) r else if r=i then rowAt (rws (aH.take j)) r else [])/\ST w w3 ([]++Jj bo ps),λ s _=>match s with
   | [.int _ j]=>aH.length-j.toNat
   | _=>0,⟨0,ps,rfl,by omega,cr,λ r hr=>by rw [aI r hr];simp [rowAt],S⟩,?_⟩
 clear aI S cr ps K;rintro _ w3 ⟨j,ps,aA,hj,cr,aI,S⟩;cases aA;refine Aa (λ aB=>⟨⟨by omega,aB⟩,?_⟩) (λ aM=>?_)
 ·have eZ:j<aH.length:=by omega
  have hlen:=hl _ (Akg eZ);obtain⟨q,hq,hcell,bj⟩:=(hv.grown S.Ag).at eZ;rw [hq];refine⟨_,_,_,by rw [Ajz];exact hcell,S.draw λ w4 B4 S=>?_⟩;have lQ:i<ps.length:=by omega
  obtain⟨q2,hq2,d0,d1,d2⟩:=Oz (bj.grown B4) (i:=i) (by omega);have gH:=TL S lQ;refine⟨⟨by omega,by omega⟩,⟨by omega,by omega⟩,?_⟩;rw [hq2];refine⟨_,_,_,by rw [Ajz];exact gH,_,by rw [Ajz];exact d0,_,by rw [Ajz];exact d1,_,by rw [Ajz];exact d2,S.Ak λ jf w5 _ _ S=>?_⟩;have S':ST w w5 ([It.cells jf (GH (aH[j].2.2[i]'(by omega))).toArray ty.AX]++Jj bo ps):=S;have mz:=TL S' lQ;have dH:ps[i].2.2=rowAt (rws (aH.take j)) i:=by rw [aI i lQ];simp
  have jN:ps[i].2.2.length=j:=by rw [dH];simp [rowAt,rws];omega
  refine⟨by rw [Ajz];exact mz,?_⟩;have cu:Rd w5 (some ⟨jf,0,none⟩) (GH (aH[j].2.2[i]'(by omega))):=S'.rdc 0 rfl;refine AdR S' lQ cu (by omega) λ a6 c6 w6 hk=>⟨_,_,_,rfl,⟨by omega,by omega⟩,?_⟩;rw [Ajz];unfold AL;simp only;refine hk _ λ w7 S=>?_;rw [Ah (by omega)];refine⟨⟨j+1,ps.set i (a6,c6,ps[i].2.2++[aH[j].2.2[i]'(by omega)]),rfl,by omega,by rw [List.length_set];exact cr,λ r hr=>?_,S.drop 1⟩,?_⟩
  ·rw [List.length_set] at hr;rw [List.getElem_set];by_cases gP:i=r
   ·subst gP;simp only [if_true,Nat.lt_irrefl,if_false];rw [Z2 aH eZ (by omega),dH]
   ·rw [if_neg gP,aI r hr];by_cases h5:r<i
    ·rw [if_pos h5,if_pos h5]
    ·rw [if_neg h5,if_neg h5,if_neg (λ h=>gP h.symm),if_neg (λ h=>gP h.symm)]
  ·show aH.length-((j+1:Nat):Int).toNat<aH.length-((j:Nat):Int).toNat;simp only [Ajz];omega
 ·rw [Ah (by omega)];refine⟨⟨i+1,ps,rfl,by omega,cr,λ r hr=>?_,S⟩,?_⟩
  ·rw [aI r hr,Akm (by omega)];by_cases h5:r<i
   ·rw [if_pos h5,if_pos (by omega)]
   ·by_cases h6:r=i
    ·rw [if_neg h5,if_pos h6,if_pos (by omega)]
    ·rw [if_neg h5,if_neg h6,if_neg (by omega)]
  ·show n-((i+1:Nat):Int).toNat<n-((i:Nat):Int).toNat;simp only [Ajz];omega
end
def AR(lim:Nat)(l:List UInt8)(at_:Nat):Nat->Option (List Nat × Nat)
 | 0=>some ([],at_)
 | k+1=>match takeN l (at_:Int) with
  | none=>none
  | some x=>match takeN l (x.2:Int) with
   | none=>none
   | some y=>match CG l (y.2:Int) with
    | none=>none
    | some u=>match CG l (u.2:Int) with
     | none=>none
     | some v=>if lim<x.1 then none else (AR lim l v.2 k).map λ r=>(x.1 :: r.1,r.2)
def GB(lim:Nat)(l:List UInt8)(at_:Int)(n:Nat):Option (Nat × List Nat) :=
 match takeN l at_ with
 | none=>none
 | some x=>if 1024<x.1 then none else (AR lim l x.2 n).map λ r=>(x.1,r.1)
def ME(a:Option Addr)(c:Nat)(ns:List Nat):It:=It.row ty.int 1 a ns.length c (ns.map λ n:Nat=>Value.int .i64 (n:Int))
theorem Aio:LO Tryz.prog ty.Fy=some (ty.int,1,8,.int .i64 0):=by kernel_rfl
theorem Aht{w0 w:World}{H:List It}{a:Option Addr}{c:Nat}{ns:List Nat}(S:ST w0 w H)(n:Nat)(hn:H[n]?=some (ME a c ns)){x:Nat}{b:Nat}(hs:Rd w (some ⟨b,0,none⟩) [Value.int .i64 (x:Int)])(hl:ns.length+1<=1000000){f:Value->World->Prop}
  (hf:∀ a' c' w',ST w0 w' (H.set n (ME a' c' (ns++[x])))->f (.slice a' (ns++[x]).length c') w') :
  Dc Tryz.prog (Builtin.append_ #[ty.Fy,ty.Fy] ty.Fy #[.slice a ns.length c,.slice (some ⟨b,0,none⟩) 1 1]) f w:=by
 refine S.app n hn Aio rfl (by omega) (by omega) hs (mm:=1) rfl (by simp;rfl) (by omega) λ a' c' w' S'=>?_;have e1:(ns++[x]).length=ns.length+1:=by simp
 have e2:(ns.map λ n:Nat=>Value.int .i64 (n:Int))++[Value.int .i64 (x:Int)]=(ns++[x]).map λ n:Nat=>Value.int .i64 (n:Int):=by simp
 rw [e2] at S';have:=hf a' c' w' (by unfold ME;rw [e1];exact S');rwa [e1] at this
theorem Rz{l:List UInt8}{at_:Int}(o:Option (Nat × Nat))(h:takeN l at_=o):∃(n k:Nat) (e:Int),ZE o=.tuple #[.int .u64 (n:Int),.int .i64 (k:Int),.int .i64 e]/\k<=l.length/\n<18446744073709551616/\((e=0/\o=some (n,k))\/(e≠0/\o=none)):=by
 cases o with
 | none=>exact⟨0,0,20,rfl,by omega,by omega,.inr ⟨by decide,rfl⟩⟩
 | some x =>
  have:=Cr (n:=x.1) (k:=x.2) h;exact⟨x.1,x.2,0,rfl,by omega,by omega,.inl ⟨rfl,rfl⟩⟩
theorem Aez{l:List UInt8}{at_:Int}{v:AW}{k:Nat}(h:CG l at_=some (v,k)):k<=l.length:=by
 unfold CG at h;split at h
 ·cases h
 ·rename_i hb;simp only at h;split at h
  ·cases h;omega
  ·split at h
   ·obtain⟨x,hx,he⟩:=Aj8.1 h;have:=Cr (n:=x.1) (k:=x.2) hx;cases he;omega
   ·split at h
    ·split at h
     ·rename_i h2;cases h;omega
     ·cases h
    ·split at h
     ·obtain⟨x,hx,he⟩:=Aj8.1 h;have:=Yk (s:=x.1) (k:=x.2) hx;cases he;omega
     ·cases h
theorem Yq{l:List UInt8}{at_:Int}(o:Option (AW × Nat))(h:CG l at_=o):∃(v:AW) (k:Nat) (e:Int),Aae o=.tuple #[.agg #[.int .i64 v.1,.int .i64 v.2.1,.string v.2.2],.int .i64 (k:Int),.int .i64 e]/\k<=l.length/\((e=0/\o=some (v,k))\/(e≠0/\o=none)):=by
 cases o with
 | none=>exact⟨Z0,0,20,rfl,by omega,.inr ⟨by decide,rfl⟩⟩
 | some x=>exact⟨x.1,x.2,0,rfl,Aez (v:=x.1) (k:=x.2) h,.inl ⟨rfl,rfl⟩⟩
def PlV(o:Option (Nat × List Nat))(w w':World)(v:Value):Prop :=
 match o with
 | none=>v=.tuple #[.int .i64 0,.slice none 0 0,.bool false]/\Below w.heap.size w w'
 | some r=>∃ a c,v=.tuple #[.int .i64 (r.1:Int),.slice a r.2.length c,.bool true]/\ST w w' [ME a c r.2]
theorem PlV.bad{o:Option (Nat × List Nat)}{w w':World}(h:o=none)(B:Below w.heap.size w w'):PlV o w w' (.tuple #[.int .i64 0,.slice none 0 0,.bool false]):=by
 subst h;exact⟨rfl,B⟩
section
variable {w:World}{a:Option Addr}{c:Nat}{l:List UInt8}
theorem Nj(hl:Rd w a (l.map Af))(hc:l.length<=c)(hs:l.length<=140737488355328)(at_:Int)(n:Nat)(hn:n<=1000) :
  Calls Tryz.prog f.R6 #[.slice a l.length c,.int .i64 at_,.int .i64 (n:Int)] w (AD λ v w'=>PlV (GB 1073741824 l at_ n) w w' v):=by
 apply R.JK
 delta R.A R.Ab R.NH R.F3 R.F R.G R.H R.I R.J R.Ks R.N R.O R.AhL R.S R.Ae R.T R.W;try dsimp only [R.Ps]
 refine (AK hl hc (by omega) at_ ).mono ?_;rintro _ w1 ⟨_,rfl,rfl,rfl⟩;obtain⟨r0,at0,e0,gz,nI,pY,fh⟩:=Rz _ (rfl:takeN l at_=takeN l at_);rw [gz];have dd:takeN l at_=none->GB 1073741824 l at_ n=none:=λ h=>by simp [GB,h]
 refine⟨_,_,_,rfl,As (λ h=>.bad ?_ (.refl _ _)) (λ pC=>?_)⟩
 ·rcases fh with ⟨h2,_⟩ | ⟨_,h2⟩
  ·exact absurd h2 h
  ·exact dd h2
 have kR:takeN l at_=some (r0,at0):=by
  rcases fh with ⟨_,h2⟩ | ⟨h2,_⟩
  ·exact h2
  ·exact absurd pC h2
 refine Aa (λ h=>.bad ?_ (.refl _ _)) (λ tz=>?_)
 ·have:1024<r0:=by omega
  simp [GB,kR,this]
 have hT:GB 1073741824 l at_ n=(AR 1073741824 l at0 n).map λ r=>(r0,r.1):=by
  have:¬ 1024<r0:=by omega
  simp [GB,kR,this]
 rw [hT];refine⟨λ s w2=>∃(i cD:Nat) (ns:List Nat) (na:Option Addr) (nc:Nat),s=[.int .i64 (cD:Int),.slice na ns.length nc,.int .i64 (i:Int)]/\i<=n/\ns.length=i/\cD<=l.length /\
   AR 1073741824 l at0 n=((AR 1073741824 l cD (n-i)).map λ r=>(ns++r.1,r.2))/\ST w1 w2 [ME na nc ns],λ s _=>match s with
  | [_,_,.int _ i]=>n-i.toNat
  | _=>0,⟨0,at0,[],none,0,rfl,by omega,rfl,by omega,by simp,(ST.start w1).nil _ _⟩,?_⟩
 rintro _ na _ nc _ w2 ⟨i,cD,ns,_,_,aA,hi,nS,gb,ay,S⟩;cases aA;refine Aa (λ aB=>?_) (λ aM=>?_)
 ·obtain⟨m,hm⟩:∃ m,n-i=m+1:=⟨n-i-1,by omega⟩;rw [hm] at ay;have bC:=hl.grown S.Ag;refine (AK bC hc (by omega) (cD:Int) ).mono ?_;rintro _ w2 ⟨_,rfl,rfl,rfl⟩;obtain⟨x1,x2,e1,hv1,dz,dh,hx1⟩:=Rz _ (rfl:takeN l (cD:Int)=takeN l (cD:Int));rw [hv1];refine⟨_,_,_,rfl,(AK bC hc (by omega) (x2:Int) ).mono ?_⟩;rintro _ w2 ⟨_,rfl,rfl,rfl⟩;obtain⟨y1,y2,e2,hv2,bB,bU,dV⟩:=Rz _ (rfl:takeN l (x2:Int)=takeN l (x2:Int));rw [hv2];refine⟨_,_,_,rfl,(KL bC hc hs (y2:Int)).mono ?_⟩;rintro _ w5 ⟨_,rfl,rfl,B5⟩;have S:=S.grown B5;obtain⟨u1,u2,e3,hv3,ry,jT⟩:=Yq _ (rfl:CG l (y2:Int)=CG l (y2:Int));rw [hv3];refine⟨_,_,_,_,_,rfl,S.N5 λ fB w9 _ S=>(KL (hl.grown S.Ag) hc hs (u2:Int)).mono ?_⟩;rintro _ dJ ⟨_,rfl,rfl,fU⟩;have S:=S.grown fU;obtain⟨v1,v2,e4,hv4,hk4,hx4⟩:=Yq _ (rfl:CG l (u2:Int)=CG l (u2:Int));rw [hv4];refine⟨_,_,_,_,_,rfl,S.N5 λ qZ bG _ S=>?_⟩;have fail:AR 1073741824 l cD (m+1)=none->((AR 1073741824 l at0 n).map λ r=>(r0,r.1))=none:=λ h=>by rw [ay,h];rfl
  refine As (λ h=>.bad (fail ?_) S.Ag) (λ h1=>?_)
  ·rcases hx1 with ⟨h2,_⟩ | ⟨_,h2⟩
   ·exact absurd h2 h
   ·simp [AR,h2]
  have g1:takeN l (cD:Int)=some (x1,x2):=by
   rcases hx1 with ⟨_,h2⟩ | ⟨h2,_⟩
   ·exact h2
   ·exact absurd h1 h2
  refine As (λ h=>.bad (fail ?_) S.Ag) (λ h1=>?_)
  ·rcases dV with ⟨h2,_⟩ | ⟨_,h2⟩
   ·exact absurd h2 h
   ·simp [AR,g1,h2]
  have g2:takeN l (x2:Int)=some (y1,y2):=by
   rcases dV with ⟨_,h2⟩ | ⟨h2,_⟩
   ·exact h2
   ·exact absurd h1 h2
  refine As (λ h=>.bad (fail ?_) S.Ag) (λ h1=>?_)
  ·rcases jT with ⟨h2,_⟩ | ⟨_,h2⟩
   ·exact absurd h2 h
   ·simp [AR,g1,g2,h2]
  have g3:CG l (y2:Int)=some (u1,u2):=by
   rcases jT with ⟨_,h2⟩ | ⟨h2,_⟩
   ·exact h2
   ·exact absurd h1 h2
  refine As (λ h=>.bad (fail ?_) S.Ag) (λ h1=>?_)
  ·rcases hx4 with ⟨h2,_⟩ | ⟨_,h2⟩
   ·exact absurd h2 h
   ·simp [AR,g1,g2,g3,h2]
  have g4:CG l (u2:Int)=some (v1,v2):=by
   rcases hx4 with ⟨_,h2⟩ | ⟨h2,_⟩
   ·exact h2
   ·exact absurd h1 h2
  refine Aa (λ h=>.bad (fail ?_) S.Ag) (λ kC=>?_)
  ·have:1073741824<x1:=by omega
   simp [AR,g1,g2,g3,g4,this]
  rw [wrap_i64 (n:=(x1:Int)) (by omega) (by omega)];refine S.Ak λ qb cB _ _ S=>?_;have cu:Rd cB (some ⟨qb,0,none⟩) [Value.int .i64 (x1:Int)]:=S.rdc 0 rfl;refine Aht S 3 rfl cu (by omega) λ qW qo cZ S=>⟨_,_,_,rfl,?_⟩;rw [Ah (by omega)];refine⟨⟨i+1,v2,ns++[x1],qW,qo,rfl,by omega,by simp [nS],by omega,?_,S.drop 3⟩,?_⟩
  ·rw [ay,show n-(i+1)=m by omega];have:¬ 1073741824<x1:=by omega
   simp only [AR,g1,g2,g3,g4,this,if_false,Option.map_map];congr 1;funext r;simp
  ·show n-((i+1:Nat):Int).toNat<n-(i:Int).toNat;omega
 ·have:n-i=0:=by omega
  rw [this] at ay;simp only [AR,Aj0,List.append_nil] at ay;rw [ay,wrap_i64 (n:=(r0:Int)) (by omega) (by omega)];exact⟨na,nc,rfl,S⟩
end
theorem AcI{n:Int}:Pe (OD n)=n:=by unfold Pe OD;split <;> split <;> omega
theorem EK{l r:List UInt8}{at_ m:Nat}(hm:m<18446744073709551616)(h:l.drop at_=Al m++r):takeN l (at_:Int)=some (m,at_+(Al m).length):=by
 unfold takeN;rw [if_neg (by omega),Ajz,h,VL m 0 0 r (by simpa using hm) (by omega) (by intro;rfl)];simp
theorem DW{l r d:List UInt8}{at_:Nat}(h:l.drop at_=d++r):l.drop (at_+d.length)=r:=by
 rw [<- List.drop_drop,h,Aku]
theorem BP{l:List UInt8}{at_:Nat}{c:UInt8}{r:List UInt8}(h:l.drop at_=c :: r):at_<l.length/\l.getD at_ 0=c/\l.drop (at_+1)=r:=by
 have aB:at_<l.length:=by
  rcases Nat.lt_or_ge at_ l.length with h1 | h1
  ·exact h1
  ·rw [List.drop_eq_nil_of_le h1] at h;cases h
 have h2:=List.drop_eq_getElem_cons aB;rw [h2] at h;injection h with h3 h4
 exact⟨aB,by simp [Akq,aB,h3],h4⟩
theorem Se{l r:List UInt8}{at_ most:Nat}{s:ByteArray}(hs:s.size<=most)(hm:most<=1048576)(h:l.drop at_=Es s++r):E9 l (at_:Int) most=some (bl s,at_+(Es s).length):=by
 unfold Es at h;rw [Aju] at h;have h1:=EK (m:=s.size) (by omega) h;have h2:=DW h;have dM:=Bs s;have hlen:=congrArg Aky h2;rw [Ajw,Ajk,dM] at hlen;unfold E9;rw [h1];have aq:¬ (1048576<s.size\/most<s.size\/l.length-(at_+(Al s.size).length)<s.size):=by omega
 simp only [if_neg aq,AjY,AjI];refine⟨?_,?_⟩
 ·rw [h2,<- dM,Ajo]
 ·simp only [Es,Ajk,dM];omega
theorem Sh{l r:List UInt8}{at_:Nat}{v:AW}(hr:AG v=true)(hv:F5 v)(h:l.drop at_=E3 v++r):CG l (at_:Int)=some (v,at_+(E3 v).length):=by
 have eI:((at_:Int)+1)=((at_+1:Nat):Int):=by omega
 obtain⟨k,n,s⟩:=v;rcases DL hr with hk | hk | ⟨hk,hn⟩ | ⟨hk,hs⟩
 ·simp only at hk;subst hk;simp [AG] at hr;obtain⟨rfl,rfl⟩:=hr;simp only [E3] at h ⊢;obtain⟨h1,h2,h3⟩:=BP (c:=0) (r:=r) (by simpa using h);unfold CG;rw [if_neg (by omega),Ajz,h2];simp
 ·simp only at hk;subst hk;simp [AG] at hr;subst hr;simp only [E3,if_true] at h ⊢;obtain⟨h1,h2,h3⟩:=BP (c:=1) (r:=Al (OD n)++r) (by simpa using h);have h4:=EK (V2 hv.lo hv.hi) h3;unfold CG;rw [if_neg (by omega),Ajz,h2,eI,h4];simp only [AjK,Aj0];have:=AcI (n:=n);simp [this];omega
 ·simp only at hk hn;subst hk;simp [AG] at hr;obtain⟨_,rfl⟩:=hr;simp only [E3] at h ⊢;obtain⟨h1,h2,h3⟩:=BP (c:=2) (r:=AjA n.toNat :: r) (by simpa using h);obtain⟨h4,h5,h6⟩:=BP h3;have e5:(l.getD (at_+1) 0).toNat=n.toNat:=by rw [h5];rcases hn with rfl | rfl <;> rfl
  unfold CG;rw [if_neg (by omega),Ajz,h2];simp only;have h7:(at_:Int)+1<(l.length:Int)/\(l.getD (at_+1) 0).toNat<=1:=⟨by omega,by omega⟩;rw [if_neg (by decide),if_neg (by decide),if_pos (by decide),if_pos h7,e5];rcases hn with rfl | rfl <;> rfl
 ·simp only at hk hs;subst hk;simp [AG] at hr;obtain⟨rfl,_⟩:=hr;simp only [E3] at h ⊢;obtain⟨h1,h2,h3⟩:=BP (c:=3) (r:=Es s++r) (by simpa using h);have h4:=Se (most:=1024) hs (by omega) h3;unfold CG;rw [if_neg (by omega),Ajz,h2,eI,h4];simp [Fs];omega
theorem KJ:∀(cs:List AA) {l r:List UInt8} {at_:Nat},(∀ c∈cs,c.1.size<=24/\1<=c.2.1/\c.2.1<=3)->l.drop at_=cs.flatMap KT++r->Cd l at_ cs.length=some (cs,at_+(cs.flatMap KT).length)
 | [],l,r,at_,_,_=>rfl
 | c :: cs,l,r,at_,hq,h=>by
  obtain⟨hs,dz,bB⟩:=hq c (by simp);rw [List.flatMap_cons,Aju] at h;have h0:l.drop at_=Es c.1++([AjA c.2.1.toNat,Ms c.2.2]++(cs.flatMap KT++r)):=by rw [h];simp [KT]
  have h1:=Se (most:=24) hs (by omega) h0;have h2:=DW h0;obtain⟨g1,g2,g3⟩:=BP (c:=AjA c.2.1.toNat) (r:=Ms c.2.2 :: (cs.flatMap KT++r)) (by simpa using h2);obtain⟨g4,g5,g6⟩:=BP g3;have hf:(Ms c.2.2).toNat<=1:=by unfold Ms;split <;> decide
  have gn:((AjA c.2.1.toNat).toNat:Int)=c.2.1:=by
   have:c.2.1=1\/c.2.1=2\/c.2.1=3:=by omega
   rcases this with h | h | h <;> rw [h] <;> rfl
  have jx:((Ms c.2.2).toNat==1)=c.2.2:=by unfold Ms;cases c.2.2 <;> rfl
  have ih:=KJ cs (l:=l) (r:=r) (at_:=at_+(Es c.1).length+2) (λ c hc=>hq c (by simp [hc])) (by rw [<- g6]);show Cd l at_ (cs.length+1)=_;unfold Cd;rw [h1];simp only;have aq:¬ (l.length-(at_+(Es c.1).length)<2\/1<(l.getD (at_+(Es c.1).length+1) 0).toNat):=by rw [g5];omega
  rw [if_neg aq,ih,g2,g5];simp only [Aj0,AjY,AjI,Fs,gn,jx,true_and];simp only [List.flatMap_cons,KT,Ajk,AjK,Akp];omega
theorem VW{cs:List AA}(hR:Ai cs=true){l r:List UInt8}{at_:Nat}(h:l.drop at_=En cs++r):Em l (at_:Int)=some (cs,at_+(En cs).length):=by
 have hl:=CL hR;unfold En at h;rw [Aju] at h;have h1:=EK (m:=cs.length) (by omega) h;have h2:=KJ cs (λ c hc=>by obtain⟨_,a,b,c⟩:=F1 hR hc;exact⟨c,a,b⟩) (DW h);unfold Em;rw [h1];simp only;rw [if_neg (by omega),h2];simp only [hR,if_true,En,Ajk];congr 2;omega
theorem JO(lim:Nat):∀(ps:List (List UInt8 × List AW)) {l r:List UInt8} {at_:Nat},(∀ p∈ps,p.1.length<=lim/\p.1.length<=2000300/\∃ k,BS k p.2)->l.drop at_=(ps.map λ p=>Jg p.1 p.2).flatten++r ->
  AR lim l at_ ps.length=some (ps.map (·.1.length),at_+((ps.map λ p=>Jg p.1 p.2).flatten).length)
 | [],l,r,at_,_,_=>rfl
 | p :: ps,l,r,at_,hq,h=>by
  obtain⟨kC,hx,k,hg⟩:=hq p (by simp);have hz:=hg.AcQ;rw [Aj4,Ake,Aju] at h;rw [Jg] at h;simp only [Aju] at h;have ei:Dv p.2<18446744073709551616:=by have:=Oa p.2;have:=hg.len;omega
  have h1:=EK (m:=p.1.length) (by omega) h;have d1:=DW h;have h2:=EK ei d1;have d2:=DW d1;have h3:=Sh hz.1.1 hz.1.2 d2;have d3:=DW d2;have h4:=Sh hz.2.1 hz.2.2 d3;have d4:=DW d3;have ih:=JO lim ps (λ p hp=>hq p (by simp [hp])) d4;show AR lim l at_ (ps.length+1)=_;unfold AR;rw [h1];simp only;rw [h2];simp only;rw [h3];simp only;rw [h4];simp only;rw [if_neg (by omega),ih];simp only [Aj0,Aj4,Ake,Ajk,Jg,AjY,AjI,true_and];omega
theorem KK(lim:Nat){l:List UInt8}:∀(n at_:Nat) {r:List Nat × Nat},AR lim l at_ n=some r->r.1.length=n
 | 0,at_,r,h=>by simp [AR] at h;rw [<- h];rfl
 | n+1,at_,r,h=>by
  unfold AR at h;split at h
  ·cases h
  ·split at h
   ·cases h
   ·split at h
    ·cases h
    ·split at h
     ·cases h
     ·split at h
      ·cases h
      ·obtain⟨x,hx,he⟩:=Aj8.1 h;rw [<- he];simp [KK lim n _ hx]
theorem Aad{lim:Nat}{l:List UInt8}{at_:Int}{n:Nat}{r:Nat × List Nat}(h:GB lim l at_ n=some r):r.2.length=n/\r.1<=1024:=by
 unfold GB at h;split at h
 ·cases h
 ·split at h
  ·cases h
  ·obtain⟨x,hx,he⟩:=Aj8.1 h;rw [<- he];exact⟨KK lim n _ hx,by simp only;omega⟩
section
variable {cs:List AA}{rows:List (List AW)}{xs:List (List UInt8)}
theorem QZ(hs:Cw cs rows):Em (Ds cs rows xs) 0=some (cs,(En cs).length):=by
 have:=VW hs.right (l:=Ds cs rows xs) (at_:=0) (r:=Al rows.length++CX rows xs) (by simp [Ds]);simpa using this
theorem AaR{lim:Nat}(kC:2000300<=lim)(hs:Cw cs rows)(hx:CU cs rows xs)(hl:xs.length=cs.length):GB lim (Ds cs rows xs) ((En cs).length:Int) cs.length=some (rows.length,xs.map Aky):=by
 have d0:(Ds cs rows xs).drop (En cs).length=Al rows.length++(CX rows xs++[]):=by
  rw [Ds,Aju,Aku];simp
 have h1:=EK (m:=rows.length) (by have:=hs.len;omega) d0;have d1:=DW d0;obtain⟨ps,e7⟩:∃ ps,ps=xs.mapIdx λ i x=>(x,A4 rows i):=⟨_,rfl⟩;have e1:CX rows xs=(ps.map λ p=>Jg p.1 p.2).flatten:=by
  rw [e7,CX];congr 1;refine Akx (by simp) λ i h1 h2=>?_;simp
 have e2:ps.length=cs.length:=by rw [e7,List.length_mapIdx,hl]
 have e3:ps.map (·.1.length)=xs.map Aky:=by
  rw [e7];refine Akx (by simp) λ i h1 h2=>?_;simp
 rw [e1] at d1;have h2:=JO lim ps (l:=Ds cs rows xs) (r:=[]) (λ p hp=>by
  rw [e7] at hp;obtain⟨i,hi,rfl⟩:=List.mem_mapIdx.1 hp;have:=hx.lens hs _ (Akg hi);exact⟨by simp only;omega,this,_,hs.Ji (by omega:i<cs.length)⟩) d1
 rw [e2,e3] at h2;unfold GB;rw [h1];simp only;rw [if_neg (by have:=hs.len;omega),h2];rfl
end
section
variable {w:World}{a:Option Addr}{c:Nat}{l:List UInt8}
theorem V9:Calls Tryz.prog f.GG #[.slice a l.length c] w (AD λ v w'=>∃ b1,v=.func (.func f.Ck) #[] #[.pointer (some ⟨b1,0,none⟩)]/\ST w w' [It.cells b1 #[.slice a l.length c] ty.AM]):=by
 apply R.Eo
 delta R.J R.N R.P R.S;try dsimp only [R.Ps]
 exact (ST.start w).Ak λ b1 w1 _ _ S1=>⟨b1,rfl,S1⟩
theorem QF{L b:Nat}(hn:l.length<=1000000)(J:Nat->World->Prop)(aP:∀ k w,J k w->Rd w a (l.map Af)/\w.cell? ⟨b,0,none⟩=some (.slice a l.length c))
  (cA:∀ k w (hk:k<l.length),J k w->J3 Tryz.prog L #[.int .i64 ((l.length-1-k:Nat):Int),.int .u8 ((l[l.length-1-k]'(by omega)).toNat:Int)] (λ y w'=>y=true/\J (k+1) w') w) (h0:J 0 w) :
  Calls Tryz.prog f.Ck #[.func (.yield L) #[] #[],.pointer (some ⟨b,0,none⟩)] w (AD λ _ w'=>J l.length w'):=by
 apply R.DB
 delta R.A R.Ad R.B R.F R.H R.I R.Ls R.Ly R.Qi R.W R.X;try dsimp only [R.Ps]
 refine⟨_,_,_,(aP _ _ h0).2,λ s w1=>∃ k:Nat,k<=l.length/\s=[.int .i64 ((l.length:Int)-1-(k:Int))]/\J k w1,λ s _=>match s with
   | [.int _ i]=>(i+1).toNat
   | _=>0,⟨0,by omega,by rw [wrap_i64 (by omega) (by omega)];simp,h0⟩,?_⟩
 rintro _ w1 ⟨k,hk,aA,hj⟩;cases aA;refine Aa (λ aB=>?_) (λ aM=>?_)
 ·have bX:k<l.length:=by omega
  obtain⟨r1,r2⟩:=aP _ _ hj;have e:(l.length:Int)-1-(k:Int)=((l.length-1-k:Nat):Int):=by omega
  have hi:l.length-1-k<l.length:=by omega
  obtain⟨p,hp,hc⟩:=byte_at r1 hi;rw [e];refine⟨_,_,_,r2,⟨by omega,by omega⟩,?_⟩;rw [hp];refine⟨_,by rw [Ajz];exact hc,?_⟩;refine (cA k w1 bX hj).mono ?_;rintro y w2 ⟨rfl,h⟩;rw [wrap_i64 (by omega) (by omega)];refine AN ⟨⟨k+1,by omega,by rw [<- e];congr 2;omega,h⟩,?_⟩;show (((l.length-1-k:Nat):Int)-1+1).toNat<(((l.length-1-k:Nat):Int)+1).toNat;omega
 ·have:k=l.length:=by omega
  subst this;exact hj
end
theorem AfL{n x:Nat}(hn:n<1099511627776)(hx:x<256):IntKind.i64.wrap (((BitVec.ofInt 64 (IntKind.i64.wrap ((n:Int)*2 ^ (min 8 64))) ||| BitVec.ofInt 64 (IntKind.i64.wrap (x:Int))).toNat:Int))=((n*256+x:Nat):Int):=by
 have e1:(n:Int)*2 ^ (min 8 64)=((n*256:Nat):Int):=by
  rw [show min 8 64=8 from rfl];omega
 rw [e1,wrap_i64 (n:=((n*256:Nat):Int)) (by omega) (by omega),wrap_i64 (n:=(x:Int)) (by omega) (by omega),BitVec.toNat_or,BitVec.ofInt_natCast,BitVec.ofInt_natCast,BitVec.toNat_ofNat,BitVec.toNat_ofNat,Nat.mod_eq_of_lt (by omega),Nat.mod_eq_of_lt (by omega)];have e2:n*256 ||| x=n*256+x:=by
  have:=Nat.two_pow_add_eq_or_of_lt (i:=8) (b:=x) hx n;rw [show 2 ^ 8*n=n*256 by omega] at this;exact this.symm
 rw [e2,wrap_i64 (by omega) (by omega)]
def QB(l:List UInt8)(k:Nat):Nat:=(l.reverse.take k).foldl (λ n c=>n*256+c.toNat) 0
theorem Tu{l:List UInt8}{k:Nat}(hk:k<l.length):QB l (k+1)=QB l k*256+(l[l.length-1-k]'(by omega)).toNat:=by
 unfold QB;rw [Akj (by simpa using hk),List.foldl_append];simp only [List.foldl_cons,List.foldl_nil];congr 2;rw [List.getElem_reverse]
theorem UF{l:List UInt8}:∀ k,k<=l.length->QB l k<256 ^ k
 | 0,_=>by simp [QB]
 | k+1,h=>by
  have ih:=UF (l:=l) k (by omega);rw [Tu (by omega),Nat.pow_succ];have:=(l[l.length-1-k]'(by omega)).toNat_lt;omega
theorem Adb(n:Nat)(hn:n<4294967296):QB (PH n) 4=n:=by
 have h:∀ m,m<256->(AjA m).toNat=m:=λ m hm=>by simp;omega
 simp only [QB,PH,List.reverse_cons,List.reverse_nil,AkA,List.cons_append,List.take_succ_cons,List.take_zero,List.foldl_cons,List.foldl_nil];rw [h _ (by omega),h _ (by omega),h _ (by omega),h _ (by omega)];omega
def Sv(q:BN):List Value:=(zC (Dv q.2.2:Int) (zmm q.2.2)).toList
structure GW(w:World)(p:Addr)(cs:List AA)(aH:List BN)(n:Nat):Prop where
 SE:∃ a c,w.cell? p=some (.slice a cs.length c)/\Rd w a (AO cs)
 VY:∃ a c,w.cell? (p.add 1)=some (.slice a aH.length c)/\BU w a aH
 Aiu:∃ a c,w.cell? (p.add 2)=some (.slice a aH.length c)/\Rd w a (aH.flatMap Sv)
 many:w.cell? (p.add 3)=some (.int .i64 (n:Int))
 right:Ai cs=true
 len:aH.length=cs.length
 small:n<=1024
 each:∀ q∈aH,q.2.2.length=n/\∃ k,BS k q.2.2
structure Fz(cs:List AA)(rows:List (List AW))(xs:List (List UInt8))(b:List UInt8):Prop where
 ok:Cw cs rows
 chs:CU cs rows xs
 len:xs.length=cs.length
 eq:b=J9 cs rows xs
theorem Fz.split{cs:List AA}{rows:List (List AW)}{xs:List (List UInt8)}{b:List UInt8}(h:Fz cs rows xs b):8<=b.length/\QB (b.drop (b.length-4)) 4=(Ds cs rows xs).length/\(Ds cs rows xs).length<=b.length-8 /\
  ((b.take (b.length-4)).drop (b.length-4-(Ds cs rows xs).length))=Ds cs rows xs/\((b.take (b.length-4-(Ds cs rows xs).length)).drop 4)=xs.flatten:=by
 have hf:=h.chs.Vj h.ok;obtain⟨ft,hft⟩:∃ ft,ft=Ds cs rows xs:=⟨_,rfl⟩;have e:=h.eq;unfold J9 at e;rw [<- hft] at e hf ⊢;have hm:CZ.length=4:=rfl;have nO:(PH ft.length).length=4:=rfl;have hl:b.length=4+xs.flatten.length+ft.length+4:=by rw [e];simp only [Ajk,hm,nO]
 have e1:b.length-4=(CZ++xs.flatten++ft).length:=by simp only [Ajk,hm];omega
 have e2:b.length-4-ft.length=(CZ++xs.flatten).length:=by simp only [Ajk,hm];omega
 refine⟨by omega,?_,by omega,?_,?_⟩
 ·rw [e1,e,Aku];exact Adb _ (by omega)
 ·rw [e2,e1,e,Ajo,Aku]
 ·rw [e2,e,Aju (CZ++xs.flatten),Ajo,show 4=CZ.length from rfl,Aku]
def AhF(b:List UInt8)(w w':World)(v:Value):Prop :=
 Below w.heap.size w w'/\((∃ p cs aH n,v=.tuple #[.pointer (some p),.bool true]/\GW w' p cs aH n/\∀ aD rows' fT,Fz aD rows' fT b->cs=aD/\n=rows'.length/\rws aH=(AjO aD.length).map (A4 rows')) \/
  (v=.tuple #[.pointer none,.bool false]/\∀ aD rows' fT,¬ Fz aD rows' fT b))
theorem tVV:LO Tryz.prog ty.EN=some (ty.ET,1,24,.slice none 0 0):=by kernel_rfl
theorem tZZ:LO Tryz.prog ty.HE=some (ty.QE,7,72,.agg #[.int .i64 0,.int .i64 0,.int .i64 0,.string ⟨#[]⟩,.int .i64 0,.int .i64 0,.string ⟨#[]⟩]):=by kernel_rfl
def AcG(a:Option Addr)(c:Nat)(aH:List BN):It:=It.row ty.ET 1 a aH.length c (aH.map C4)
def AcP(a:Option Addr)(c:Nat)(aH:List BN):It:=It.row ty.QE 7 a aH.length c (aH.flatMap Sv)
section
variable {w0 w:World}{H:List It}{a:Option Addr}{c:Nat}{aH:List BN}
theorem Z9(S:ST w0 w H)(n:Nat)(hn:H[n]?=some (AcG a c aH)){x:BN}{b:Nat}(hs:Rd w (some ⟨b,0,none⟩) [C4 x])(hl:aH.length+1<=1000000){f:Value->World->Prop}
  (hf:∀ a' c' w',ST w0 w' (H.set n (AcG a' c' (aH++[x])))->f (.slice a' (aH++[x]).length c') w') :
  Dc Tryz.prog (Builtin.append_ #[ty.EN,ty.EN] ty.EN #[.slice a aH.length c,.slice (some ⟨b,0,none⟩) 1 1]) f w:=by
 refine S.app n hn tVV rfl (by omega) (by omega) hs (mm:=1) rfl (by simp [C4];rfl) (by omega) λ a' c' w' S'=>?_;have e1:(aH++[x]).length=aH.length+1:=by simp
 have e2:aH.map C4++[C4 x]=(aH++[x]).map C4:=by simp
 rw [e2] at S';have:=hf a' c' w' (by unfold AcG;rw [e1];exact S');rwa [e1] at this
theorem Aaa(S:ST w0 w H)(n:Nat)(hn:H[n]?=some (AcP a c aH)){x:BN}{b:Nat}(hs:Rd w (some ⟨b,0,none⟩) (Sv x))(hl:aH.length+1<=1000000){f:Value->World->Prop}
  (hf:∀ a' c' w',ST w0 w' (H.set n (AcP a' c' (aH++[x])))->f (.slice a' (aH++[x]).length c') w') :
  Dc Tryz.prog (Builtin.append_ #[ty.HE,ty.HE] ty.HE #[.slice a aH.length c,.slice (some ⟨b,0,none⟩) 1 1]) f w:=by
 refine S.app n hn tZZ rfl (by omega) (by omega) hs (mm:=1) rfl (by simp [Sv,zC];exact⟨rfl,rfl,rfl,rfl,rfl,rfl,rfl⟩) (by omega) λ a' c' w' S'=>?_;have e1:(aH++[x]).length=aH.length+1:=by simp
 have e2:aH.flatMap Sv++Sv x=(aH++[x]).flatMap Sv:=by simp
 rw [e2] at S';have:=hf a' c' w' (by unfold AcP;rw [e1];exact S');rwa [e1] at this
end
theorem Tj{l:List UInt8}{at_:Int}{r:List AA × Nat}(h:Em l at_=some r):Ai r.1=true:=by
 unfold Em at h;split at h
 ·cases h
 ·split at h
  ·cases h
  ·split at h
   ·cases h
   ·split at h
    ·rename_i hR;cases h;exact hR
    ·cases h
theorem Wo.open{o:Option (List AA × Nat)}{w0 w w':World}{v:Value}{H:List It}(S:ST w0 w H)(h:Wo o w w' v)(hr:∀ r,o=some r->Ai r.1=true):∃(cs:List AA) (ca:Option Addr) (cc cD:Nat) (e:Int),v=.tuple #[.slice ca cs.length cc,.int .i64 (cD:Int),.int .i64 e]/\ST w0 w' (AP ca cc cs :: H) /\
  cs.length<=16/\((e=0/\o=some (cs,cD)/\Ai cs=true)\/(e≠0/\o=none)):=by
 cases o with
 | none =>
  obtain⟨rfl,B⟩:=h;exact⟨[],none,0,0,52,rfl,(S.grown B).nil _ _,by simp,.inr ⟨by decide,rfl⟩⟩
 | some r =>
  obtain⟨ca,cc,rfl,S2⟩:=h;have hR:=hr r rfl;exact⟨r.1,ca,cc,r.2,0,rfl,S.join S2,(CL hR).2,.inl ⟨rfl,rfl,hR⟩⟩
theorem PlV.open{o:Option (Nat × List Nat)}{w0 w w':World}{v:Value}{H:List It}(S:ST w0 w H)(h:PlV o w w' v):∃(r:Nat) (ns:List Nat) (na:Option Addr) (nc:Nat) (ok:Bool),v=.tuple #[.int .i64 (r:Int),.slice na ns.length nc,.bool ok]/\ST w0 w' (ME na nc ns :: H) /\
  ((ok=true/\o=some (r,ns))\/(ok=false/\o=none)):=by
 cases o with
 | none =>
  obtain⟨rfl,B⟩:=h;exact⟨0,[],none,0,false,rfl,(S.grown B).nil _ _,.inr ⟨rfl,rfl⟩⟩
 | some r =>
  obtain⟨na,nc,rfl,S2⟩:=h;exact⟨r.1,r.2,na,nc,true,rfl,S.join S2,.inl ⟨rfl,rfl⟩⟩
theorem Ahe{w:World}{a:Option Addr}{ns:List Nat}(h:Rd w a (ns.map λ n:Nat=>Value.int .i64 (n:Int))){i:Nat}(hi:i<ns.length):∃ p,a=some p/\w.cell? (p.add (i*1))=some (.int .i64 (ns[i]:Int)):=by
 obtain⟨p,hp,hc⟩:=h i (.int .i64 (ns[i]:Int)) (by simp [hi]);exact⟨p,hp,by rw [AjC];exact hc⟩
def rdI(q:BN):It:=It.rd q.1 (Ba q.2.2)
theorem Abe{w0 w w':World}{H:List It}{a:Option Addr}{xs:List Value}(S:ST w0 w H)(B:Below w.heap.size w w')(h:RdN w w' a xs):ST w0 w' (It.rd a xs :: H):=by
 refine S.add B _ h.rd λ k hk=>h.new k ?_;cases xs with
 | nil=>cases hk
 | cons x xs=>exact hk
theorem Vi{xs:List (List UInt8)}{i:Nat}(hi:i<xs.length):(xs.drop i).flatten=xs[i]++(xs.drop (i+1)).flatten:=by
 rw [List.drop_eq_getElem_cons hi,Ake]
section
variable {w:World}{a:Option Addr}{c:Nat}{b:List UInt8}
theorem XX(hl:Rd w a (b.map Af))(hc:b.length<=c){n:Nat}(h8:8<=b.length)(hn:n<=b.length-8) :
  Rd w (BD (BD a 0 c 1) (b.length-4-n) c 1) (((b.take (b.length-4)).drop (b.length-4-n)).map Af)/\Rd w (BD (BD a 0 c 1) 4 c 1) (((b.take (b.length-4-n)).drop 4).map Af):=by
 have h1:=hl.YA 0 (b.length-4) c 1 (by omega);have h2:=h1.YA (b.length-4-n) (b.length-4) c 1 (by omega);have h3:=h1.YA 4 (b.length-4-n) c 1 (by omega);simp only [AjC,Akd,Aks] at h2 h3;constructor
 ·rw [<- Akt,<- AkD,<- Akt] at h2;have e:((b.take (b.length-4)).drop (b.length-4-n)).take (b.length-4-(b.length-4-n))=(b.take (b.length-4)).drop (b.length-4-n):=Akm (by rw [Ajw,Ajr];omega);rw [e] at h2;exact h2
 ·rw [<- Akt,<- AkD,<- Akt] at h3;have e:((b.take (b.length-4)).drop 4).take (b.length-4-n-4)=(b.take (b.length-4-n)).drop 4:=by
   rw [List.drop_take,List.drop_take,List.take_take];congr 1;omega
  rw [e] at h3;exact h3
theorem PU(hl:Rd w a (b.map Af))(hc:b.length<=c)(hs:b.length<=140737488355328)(h8:8<=b.length)(gY:∃ fy j3,Fz fy [] j3 b) :
  Calls Tryz.prog f.VS #[.slice a b.length c] w (AD λ v w'=>AhF b w w' v):=by
 apply R.LF
 delta R.A R.Ab R.Ad R.B R.FH R.Aao R.Agf R.Agg R.Cf R.D R.F R.G R.H R.I R.J R.Ks R.Li R.Ls R.Lt R.N R.O R.P R.J2 R.S R.Ae R.T R.W R.X R.Y;try dsimp only [R.Ps]
 have eW:IntKind.i64.wrap ((b.length:Int)-4)=((b.length-4:Nat):Int):=by rw [wrap_i64 (by omega) (by omega)];omega
 rw [eW];simp only [Ajz,Aks];obtain⟨t,ht⟩:∃ t,t=b.drop (b.length-4):=⟨_,rfl⟩;have sj:t.length=4:=by rw [ht,Ajw];omega
 have sR:Rd w (BD a (b.length-4) c 1) (t.map Af):=by
  have h:=hl.YA (b.length-4) b.length c 1 hc;simp only [AjC] at h;rw [<- AkD,<- Akt] at h;rw [ht];have e:(b.drop (b.length-4)).take (b.length-(b.length-4))=b.drop (b.length-4):=Akm (by rw [Ajw];omega);rwa [e] at h
 refine (ST.start w).Ak λ b2 w1 _ _ S=>S.BA 0 rfl (aD:=#[.int .i64 0]) (by simp) rfl λ w2 S=>⟨⟨by omega,by omega,by omega⟩,?_⟩;have hB:=V9 (w:=w2) (a:=BD a (b.length-4) c 1) (c:=c-(b.length-4)) (l:=t);rw [show b.length-(b.length-4)=t.length by omega];refine hB.mono ?_;rintro _ w3 ⟨_,rfl,bq,rfl,P⟩;have S:=S.join P;refine⟨_,_,_,rfl,by kernel_rfl,λ rr aA bT hy=>?_⟩;have S:=S.range rr;obtain⟨L,hL⟩:∃ L,L=w3.heap.size+1:=⟨_,rfl⟩;obtain⟨d,hd⟩:∃ d,d=w3.heap.size:=⟨_,rfl⟩;rw [<- hL] at S hy ⊢;rw [<- hd] at S ⊢;let J:Nat->World->Prop:=λ k wx=>ST w wx [It.obj L (.loop rr),It.obj d (.deferred (some [])),It.cells bq #[.slice (BD a (b.length-4) c 1) t.length (c-(b.length-4))] ty.AM,It.cells b2 #[.int .i64 (QB t k:Int)] ty.int];have aT:=QF (w:=(w3.alloc (.deferred (some []))).alloc (.loop rr)) (a:=BD a (b.length-4) c 1) (c:=c-(b.length-4)) (l:=t) (L:=L) (b:=bq) (by omega) J (λ k wx (hj:ST w wx _)=>⟨sR.grown hj.Ag,hj.cell 2 rfl rfl⟩) (by
  rintro k wx hk (S:ST w wx _);have h1:=UF (l:=t) k (by omega);have h2:256 ^ k<=256 ^ 3:=Nat.pow_le_pow_right (by omega) (by omega);have h3:(256:Nat) ^ 3=16777216:=by decide
  refine hy _ _ _ wx (S.get 0 rfl) ?_;refine S.YL 0 rfl λ w5 S=>⟨_,S.cell 3 rfl rfl,?_⟩;rw [AfL (by omega) ((t[t.length-1-k]'(by omega)).toNat_lt)];rw [<- Tu hk];exact S.BA 3 rfl (aD:=#[.int .i64 (QB t (k+1):Int)]) (by simp) rfl λ w6 S=>S.Mi 0 aA bT rfl λ w7 S=>⟨rfl,S⟩) S
 refine aT.mono ?_;rw [sj];rintro _ w7 ⟨_,rfl,S⟩;obtain⟨n,hn⟩:∃ n,n=QB t 4:=⟨_,rfl⟩;have S:ST w w7 [It.obj L (.loop rr),It.obj d (.deferred (some [])),It.cells bq #[.slice (BD a (b.length-4) c 1) t.length (c-(b.length-4))] ty.AM,It.cells b2 #[.int .i64 (n:Int)] ty.int]:=by rw [hn];exact S
 have sJ:n<4294967296:=by rw [hn];exact UF (l:=t) 4 (by omega)
 have da:∀ cs rows xs,Fz cs rows xs b->n=(Ds cs rows xs).length:=λ cs rows xs h=>by rw [hn,ht];exact h.split.2.1
 refine⟨⟨_,rfl⟩,S.Kq 0 aA bT rfl λ w8 S=>⟨rfl,⟨by omega,by omega,by omega⟩,_,S.cell 3 rfl rfl,?_⟩⟩;have oo:IntKind.i64.wrap (((b.length-4:Nat):Int)-4)=((b.length-8:Nat):Int):=by rw [wrap_i64 (by omega) (by omega)];omega
 have bad:∀ {wx:World} {H:List It},ST w wx (It.obj d (.deferred (some [])) :: H)->(∀ aD rows' fT,¬ Fz aD rows' fT b)->wx.heap[d]?=some (.deferred (some []))/\AhF b w (wx.putObj d (.deferred none)) (.tuple #[.pointer none,.bool false]):=λ S h=>⟨S.get 0 rfl,(S.put 0 rfl _).Ag,.inr ⟨rfl,h⟩⟩;refine Aa (λ h=>bad (S.drop 1) λ cs rows xs hP=>?_) (λ hle=>?_)
 ·have:=hP.split.2.2.1;have:=da cs rows xs hP;rw [oo] at h;omega
 rw [oo] at hle;have nR:n<=b.length-8:=by omega
 refine S.draw λ w9 _ S=>⟨_,S.cell 3 rfl rfl,?_⟩;have oq:IntKind.i64.wrap (((b.length-4:Nat):Int)-(n:Int))=((b.length-4-n:Nat):Int):=by rw [wrap_i64 (by omega) (by omega)];omega
 rw [oq];simp only [Ajz];refine⟨⟨by omega,by omega,by omega⟩,_,S.cell 3 rfl rfl,?_⟩;rw [oq];simp only [Ajz];refine⟨⟨by omega,by omega,by omega⟩,?_⟩;obtain⟨eA,kI⟩:=XX hl hc h8 nR;obtain⟨ft,hft⟩:∃ ft,ft=(b.take (b.length-4)).drop (b.length-4-n):=⟨_,rfl⟩;obtain⟨bd,hbd⟩:∃ bd,bd=(b.take (b.length-4-n)).drop 4:=⟨_,rfl⟩;rw [<- hft] at eA;rw [<- hbd] at kI;obtain⟨fa,hfa⟩:∃ fa,fa=BD (BD a 0 c 1) (b.length-4-n) c 1:=⟨_,rfl⟩;obtain⟨ba,hba⟩:∃ ba,ba=BD (BD a 0 c 1) 4 c 1:=⟨_,rfl⟩;rw [<- hfa] at eA ⊢;rw [<- hba] at kI ⊢;have jy:ft.length=b.length-4-(b.length-4-n):=by rw [hft,Ajw,Ajr];omega
 have mg:bd.length=b.length-4-n-4:=by rw [hbd,Ajw,Ajr];omega
 rw [<- jy,<- mg];have jE:∀ cs rows xs,Fz cs rows xs b->ft=Ds cs rows xs/\bd=xs.flatten:=λ cs rows xs hP=>by
  have e:=da cs rows xs hP;have:=hP.split.2.2.2;rw [<- e] at this;exact⟨by rw [hft];exact this.1,by rw [hbd];exact this.2⟩
 have hT:=RY (c:=c-(b.length-4-n)) (eA.grown S.Ag) (by omega) (by omega) 0;refine hT.mono ?_;rintro _ dJ ⟨_,rfl,hT⟩;obtain⟨cs,ca,cc,cD,e,rfl,S,cF,aj⟩:=hT.open S (λ r h=>Tj h);refine⟨_,_,_,_,_,rfl,(Nj (c:=c-(b.length-4-n)) (eA.grown S.Ag) (by omega) (by omega) (cD:Int) cs.length (by omega)).mono ?_⟩;rintro _ bm ⟨_,rfl,rP⟩;obtain⟨r,ns,na,nc,ok,rfl,S,hns⟩:=rP.open S;refine⟨_,_,_,_,_,rfl,As (λ h=>bad (S.drop 3) λ aD rows xs hP=>?_) (λ he=>Ap (Ao (λ aZ=>?_) (λ aZ=>bad (S.drop 3) λ aD rows xs hP=>?_)))⟩
 ·have h2:=QZ (xs:=xs) hP.ok;rw [<- (jE aD rows xs hP).1] at h2;rcases aj with ⟨h3,_⟩ | ⟨_,h3⟩
  ·exact h h3
  ·rw [h2] at h3;cases h3
 rotate_left
 ·have h2:=QZ (xs:=xs) hP.ok;rw [<- (jE aD rows xs hP).1] at h2;rcases aj with ⟨_,h3,_⟩ | ⟨h3,_⟩
  ·rw [h2] at h3;have h4:=Aj9 h3;obtain rfl:aD=cs:=congrArg Prod.fst h4;obtain rfl:(En aD).length=cD:=congrArg Prod.snd h4;have h5:=AaR (lim:=1073741824) (by omega) hP.ok hP.chs hP.len;rw [<- (jE aD rows xs hP).1] at h5;rcases hns with ⟨h6,_⟩ | ⟨_,h6⟩
   ·rw [aZ] at h6;cases h6
   ·rw [h5] at h6;cases h6
  ·exact h3 he
 have ju:Em ft 0=some (cs,cD)/\Ai cs=true:=by
  rcases aj with ⟨_,h3⟩ | ⟨h3,_⟩
  ·exact h3
  ·exact absurd he h3
 have kE:GB 1073741824 ft (cD:Int) cs.length=some (r,ns):=by
  rcases hns with ⟨_,h6⟩ | ⟨h6,_⟩
  ·exact h6
  ·rw [aZ] at h6;cases h6
 obtain⟨ei,hr24⟩:=Aad kE;simp only at ei hr24;have key:∀ aD rows xs,Fz aD rows xs b->cs=aD/\r=rows.length/\ns=xs.map Aky/\bd=xs.flatten:=λ aD rows xs hP=>by
  have h2:=QZ (xs:=xs) hP.ok;rw [<- (jE aD rows xs hP).1,ju.1] at h2;have h4:=Aj9 h2;obtain rfl:cs=aD:=congrArg Prod.fst h4;obtain rfl:cD=(En cs).length:=congrArg Prod.snd h4;have h5:=AaR (lim:=1073741824) (by omega) hP.ok hP.chs hP.len;rw [<- (jE cs rows xs hP).1,kE] at h5;have h6:=Aj9 h5;exact⟨rfl,congrArg Prod.fst h6,congrArg Prod.snd h6,(jE cs rows xs hP).2⟩
 refine S.Ak λ eY cI _ _ S=>?_;have S:=((S.nil ty.QE 7).nil ty.ET 1).pull 2 rfl;obtain⟨oL,hoL⟩:∃ oL,oL=Obj.loop { rr with state:=.exhausted,pending:=none }:=⟨_,rfl⟩;let Hq:Option Addr->Nat->Option Addr->Nat->List BN->List It:=λ va vc za zc aH=>It.cells eY #[.slice ca cs.length cc,.slice va aH.length vc,.slice za aH.length zc,.int .i64 (r:Int)] ty.Fm :: AcG va vc aH :: AcP za zc aH :: ME na nc ns :: AP ca cc cs ::
  It.obj L oL :: It.obj d (.deferred (some [])) :: It.cells bq #[.slice (BD a (b.length-4) c 1) t.length (c-(b.length-4))] ty.AM :: It.cells b2 #[.int .i64 (n:Int)] ty.int :: aH.reverse.map rdI
 let Inv:List Value->World->Prop:=λ s wx=>∃(i:Nat) (rest:List UInt8) (ra:Option Addr) (rc:Nat) (aH:List BN) (va:Option Addr) (vc:Nat) (za:Option Addr) (zc:Nat),s=[.slice ra rest.length rc,.int .i64 (i:Int)]/\i<=ns.length/\aH.length=i/\rest.length<=rc/\rest.length<=b.length/\Rd w ra (rest.map Af) /\
  (∀ q∈aH,q.2.2.length=r/\∃ k,BS k q.2.2)/\(∀ aD rows xs,Fz aD rows xs b->rest=(xs.drop i).flatten/\rws aH=(AjO i).map (A4 rows))/\ST w wx (Hq va vc za zc aH)
 let Mu:List Value->World->Nat:=λ s _=>match s with
   | [_,.int _ i]=>ns.length-i.toNat
   | _=>0
 refine⟨Inv,Mu,⟨0,bd,ba,c-4,[],none,0,none,0,rfl,by omega,rfl,by omega,by omega,kI,by simp,λ aD rows xs hP=>⟨by rw [(key aD rows xs hP).2.2.2];rfl,rfl⟩,by simp only [Hq];rw [hoL];exact S⟩,?_⟩;rintro ra _ rc _ bQ ⟨i,rest,_,_,aH,va,vc,za,zc,aA,hi,mn,sQ,jN,hR,gj,ay,S⟩;cases aA;refine Aa (λ aB=>⟨⟨by omega,aB⟩,?_⟩) (λ aM=>?_)
 ·have aE:i<ns.length:=by omega
  have hN:Rd bQ na (ns.map λ n:Nat=>Value.int .i64 (n:Int)):=S.rd 3 rfl;obtain⟨pn,hpn,mj⟩:=Ahe hN aE;rw [hpn];have lW:∀ aD rows xs,Fz aD rows xs b->∃ hx:i<xs.length,ns[i]=xs[i].length/\rest=xs[i]++(xs.drop (i+1)).flatten:=λ aD rows xs hP=>by
   have h1:=(key aD rows xs hP).2.2.1;have hx:i<xs.length:=by rw [h1,AjM] at aE;exact aE
   refine⟨hx,?_,by rw [(ay aD rows xs hP).1,Vi hx]⟩;simp [h1]
  refine⟨_,by rw [Ajz];exact mj,Aa (λ h=>bad (S.pull 6 rfl) λ aD rows xs hP=>?_) (λ dO=>?_)⟩
  ·obtain⟨hx,h1,h2⟩:=lW aD rows xs hP;have:=congrArg Aky h2;rw [Ajk] at this;omega
  have pE:ns[i]<=rest.length:=by omega
  simp only [Ajz];refine⟨⟨by omega,by omega,by omega⟩,?_⟩;have dU:Rd w (BD ra 0 rc 1) ((rest.take ns[i]).map Af):=by
   have h:=hR.YA 0 ns[i] rc 1 (by omega);simp only [AjC,Akd,Aks] at h;rw [<- Akt] at h;exact h
  have si:Rd w (BD ra ns[i] rc 1) ((rest.drop ns[i]).map Af):=by
   have h:=hR.YA ns[i] rest.length rc 1 sQ;simp only [AjC] at h;rw [<- AkD,<- Akt] at h;have e:(rest.drop ns[i]).take (rest.length-ns[i])=rest.drop ns[i]:=Akm (by rw [Ajw];omega);rwa [e] at h
  have o5:(rest.take ns[i]).length=ns[i]:=by rw [Ajr];omega
  obtain⟨fy,j3,gY⟩:=gY;obtain⟨K0,hgK,hCK⟩:∃ K0,BS K0 []/\ID K0 [] (rest.take ns[i]):=by
   obtain⟨hx,h1,h2⟩:=lW fy [] j3 gY;have jU:i<fy.length:=by have:=gY.len;omega
   refine⟨_,gY.ok.Ji jU,?_⟩;rw [h1,h2,Ajo];exact gY.chs.each i jU hx
  have hD:=Po (c:=rc) hgK hCK (dU.grown S.Ag) (by omega);rw [o5] at hD;refine hD.mono ?_;rintro _ bG ⟨_,rfl,K,ls,la,lc,e,rfl,rQ,cS,ed,gg⟩;have S:=Abe S cS rQ;have iN:∀ aD rows xs,Fz aD rows xs b->e=0/\ls=A4 rows i:=λ aD rows xs hP=>by
   obtain⟨hx,h1,h2⟩:=lW aD rows xs hP;have jU:i<aD.length:=by have:=hP.len;omega
   have h3:rest.take ns[i]=xs[i]:=by rw [h1,h2,Ajo]
   have h4:=hP.chs.each i jU hx;rw [<- h3] at h4;rcases gg with ⟨_,_,he,hu⟩ | ⟨aq,_⟩
   ·exact⟨he,((hu _ _ (hP.ok.Ji jU) h4).2).symm⟩
   ·exact absurd h4 (aq _ _ (hP.ok.Ji jU))
  refine⟨_,_,_,_,_,rfl,As (λ h=>bad (S.pull 7 rfl) λ aD rows xs hP=>h (iN aD rows xs hP).1) (λ he=>As (λ h=>bad (S.pull 7 rfl) λ aD rows xs hP=>?_) (λ uH=>?_))⟩
  ·apply h;rw [(iN aD rows xs hP).2,JT,(key aD rows xs hP).2.1]
  obtain⟨hg,hC⟩:BS K ls/\True:=by
   rcases gg with ⟨hg,_⟩ | ⟨_,_,_,h80⟩
   ·exact⟨hg,trivial⟩
   ·omega
  refine (Kk (a:=la) (c:=lc) hg.none).mono ?_;rintro _ cB ⟨_,rfl,jV,eV⟩;rcases jV with ⟨_,rfl⟩ | ⟨aq,_⟩
  case inr=>exact absurd hg.OE aq
  have S:=S.grown eV;obtain⟨q,hq⟩:∃ q:BN,q=(la,lc,ls):=⟨_,rfl⟩;refine⟨_,_,_,_,_,_,_,_,rfl,S.Ak λ tW cZ _ _ S=>S.Af0 0 rfl λ jY S=>S.draw λ iC _ S=>⟨⟨by omega,by omega,by omega⟩,_,_,_,S.cell 2 rfl rfl,_,_,_,S.cell 2 rfl rfl,_,S.cell 0 rfl rfl,_,S.cell 0 rfl rfl,_,S.cell 0 rfl rfl,_,S.cell 0 rfl rfl,_,S.cell 0 rfl rfl,_,S.cell 0 rfl rfl,_,S.cell 0 rfl rfl,?_⟩⟩;have eM:aH.length+1<=1000000:=by omega
  have fin:∀(wx:World) (x0 x1 x2:It) (dn:Option Addr) (dp:Nat) (eE:Option Addr) (eF:Nat),ST w wx (x0 :: x1 :: x2 :: It.rd la (Ba ls) :: It.cells eY #[.slice ca cs.length cc,.slice va aH.length vc,.slice za aH.length zc,.int .i64 (r:Int)] ty.Fm :: AcG dn dp (aH++[q]) :: AcP eE eF (aH++[q]) :: ME na nc ns :: AP ca cc cs ::
     It.obj L oL :: It.obj d (.deferred (some [])) :: It.cells bq #[.slice (BD a (b.length-4) c 1) t.length (c-(b.length-4))] ty.AM :: It.cells b2 #[.int .i64 (n:Int)] ty.int :: aH.reverse.map rdI) ->
    CI ⟨eY,1,none⟩ (.slice dn (aH++[q]).length dp) (λ oG=>CI ⟨eY,2,none⟩ (.slice eE (aH++[q]).length eF) (λ iz=>Inv [.slice (BD ra ns[i] rc 1) (rest.length-ns[i]) (rc-ns[i]),.int .i64 (IntKind.i64.wrap ((i:Int)+1))] iz /\
     Mu [.slice (BD ra ns[i] rc 1) (rest.length-ns[i]) (rc-ns[i]),.int .i64 (IntKind.i64.wrap ((i:Int)+1))] iz<Mu [.slice ra rest.length rc,.int .i64 (i:Int)] bQ) oG) wx:=by
   intro wx x0 x1 x2 dn dp eE eF S;refine S.BA 4 rfl (aD:=#[.slice ca cs.length cc,.slice dn (aH++[q]).length dp,.slice za aH.length zc,.int .i64 (r:Int)]) (by simp) rfl λ oG S=>S.BA 4 rfl (aD:=#[.slice ca cs.length cc,.slice dn (aH++[q]).length dp,.slice eE (aH++[q]).length eF,.int .i64 (r:Int)]) (by simp) rfl λ iz S=>?_;rw [Ah (by omega)];have dZ:(rest.drop ns[i]).length=rest.length-ns[i]:=Ajw;refine⟨⟨i+1,rest.drop ns[i],BD ra ns[i] rc 1,rc-ns[i],aH++[q],dn,dp,eE,eF,by rw [dZ],by omega,by simp [mn],by omega,by omega,si,λ q' gO=>?_,λ aD rows xs hP=>?_,?_⟩,?_⟩
   ·rcases Akk.1 gO with h | h
    ·exact gj q' h
    ·rw [Akn.1 h,hq];exact⟨by show ls.length=r;omega,K,hg⟩
   ·obtain⟨hx,h1,h2⟩:=lW aD rows xs hP;refine⟨by rw [h2,h1,Aku],?_⟩;rw [rws,Akv,List.range_succ,Akv];have:=(ay aD rows xs hP).2;rw [rws] at this;rw [this];simp [hq,(iN aD rows xs hP).2]
   ·have S3:=S.drop 3;show ST w iz (Hq dn dp eE eF (aH++[q]));have e:(aH++[q]).reverse.map rdI=It.rd la (Ba ls) :: aH.reverse.map rdI:=by
     rw [List.reverse_append,Akv,hq];rfl
    simp only [Hq];rw [e];exact S3.perm (List.perm_middle (l₁:=[It.cells eY #[.slice ca cs.length cc,.slice dn (aH++[q]).length dp,.slice eE (aH++[q]).length eF,.int .i64 (r:Int)] ty.Fm,AcG dn dp (aH++[q]),AcP eE eF (aH++[q]),ME na nc ns,AP ca cc cs,It.obj L oL,It.obj d (.deferred (some [])),It.cells bq #[.slice (BD a (b.length-4) c 1) t.length (c-(b.length-4))] ty.AM,It.cells b2 #[.int .i64 (n:Int)] ty.int])).symm
   ·show ns.length-((i+1:Nat):Int).toNat<ns.length-((i:Nat):Int).toNat;simp only [Ajz];omega
  have jP:C4 q=.slice la ls.length lc:=by rw [hq];rfl
  have et:Sv q=(zC (Dv ls:Int) (zmm ls)).toList:=by rw [hq];rfl
  refine⟨S.Ak λ oY oE _ _ S=>⟨⟨S.cell 1 rfl rfl,S.cell 1 rfl rfl,S.cell 1 rfl rfl,S.cell 1 rfl rfl,S.cell 1 rfl rfl,S.cell 1 rfl rfl,S.cell 1 rfl rfl⟩,S.cell 3 rfl rfl,S.cell 3 rfl rfl,?_,?_⟩,S.Ak λ oZ oH _ _ S=>⟨S.cell 3 rfl rfl,S.cell 3 rfl rfl,S.Ak λ qj oI _ _ S=>⟨S.cell 4 rfl rfl,S.cell 4 rfl rfl,?_⟩⟩⟩
  ·have kJ:Rd oE (some ⟨oY,0,none⟩) [C4 q]:=by rw [jP];exact S.rdc 0 rfl
   refine Z9 S 4 rfl kJ eM λ dn dp lZ S=>⟨_,_,_,rfl,⟨S.cell 1 rfl rfl,S.cell 1 rfl rfl,S.cell 1 rfl rfl,S.cell 1 rfl rfl,S.cell 1 rfl rfl,S.cell 1 rfl rfl,S.cell 1 rfl rfl⟩,S.cell 3 rfl rfl,S.Ak λ qg fu _ _ S=>⟨S.cell 4 rfl rfl,?_⟩⟩;have fN:Rd fu (some ⟨qg,0,none⟩) (Sv q):=by rw [et];exact S.rdc 0 rfl
   exact Aaa S 6 rfl fN eM λ eE eF oF S=>⟨_,_,_,rfl,fin oF _ _ _ dn dp eE eF S⟩
  ·refine S.Ak λ qi jZ _ _ S=>⟨S.cell 4 rfl rfl,S.cell 4 rfl rfl,?_⟩;have kJ:Rd jZ (some ⟨oY,0,none⟩) [C4 q]:=by rw [jP];exact S.rdc 1 rfl
   refine Z9 S 5 rfl kJ eM λ dn dp ld S=>⟨_,_,_,rfl,S.cell 4 rfl rfl,?_⟩;have fN:Rd ld (some ⟨qi,0,none⟩) (Sv q):=by rw [et];exact S.rdc 0 rfl
   exact Aaa S 6 rfl fN eM λ eE eF pt S=>⟨_,_,_,rfl,fin pt _ _ _ dn dp eE eF S⟩
  ·have kJ:Rd oI (some ⟨qj,0,none⟩) [C4 q]:=by rw [jP];exact S.rdc 0 rfl
   refine Z9 S 5 rfl kJ eM λ dn dp pv S=>⟨_,_,_,rfl,S.cell 4 rfl rfl,?_⟩;have fN:Rd pv (some ⟨oZ,0,none⟩) (Sv q):=by rw [et];exact S.rdc 1 rfl
   exact Aaa S 6 rfl fN eM λ eE eF j' S=>⟨_,_,_,rfl,fin j' _ _ _ dn dp eE eF S⟩
 ·have gm:i=ns.length:=by omega
  refine⟨S.get 6 rfl,?_⟩;have S:=S.put 6 rfl (.deferred none);refine⟨S.Ag,.inl ⟨⟨eY,0,none⟩,cs,aH,r,rfl,⟨⟨ca,cc,S.cell 0 rfl rfl,S.rd 4 rfl⟩,⟨va,vc,S.cell 0 rfl rfl,S.rd 1 rfl,λ q hq=>?_⟩,⟨za,zc,S.cell 0 rfl rfl,S.rd 2 rfl⟩,S.cell 0 rfl rfl,ju.2,by omega,hr24,gj⟩,λ aD rows xs hP=>?_⟩⟩
  ·have hm:rdI q∈aH.reverse.map rdI:=Ajb.2 ⟨q,List.mem_reverse.2 hq,rfl⟩;exact S.ok (rdI q) (List.mem_of_mem_drop (i:=9) hm)
  ·obtain⟨h1,h2,h3,h4⟩:=key aD rows xs hP;refine⟨h1,h2,?_⟩;rw [(ay aD rows xs hP).2,gm,ei,h1]
end
def TE(l:List UInt8):Prop:=40<=l.length/\l.drop (l.length-32)=Pp (l.take (l.length-32))
theorem FA.pre{cs:List AA}{rows:List (List AW)}{l:List UInt8}(hs:Cw cs rows)(h:FA cs rows l):∃ xs,Fz cs rows xs (l.take (l.length-32))/\TE l:=by
 obtain⟨xs,h1,h2,rfl⟩:=h.ex;have h8:8<=(J9 cs rows xs).length:=(Fz.split ⟨hs,h2,h1,rfl⟩).1;obtain⟨dg,hdg⟩:∃ dg,dg=Pp (J9 cs rows xs):=⟨_,rfl⟩;have dZ:dg.length=32:=by rw [hdg];exact Mf _
 have e:(KE (J9 cs rows xs)).length-32=(J9 cs rows xs).length:=by
  unfold KE;rw [<- hdg,Ajk,dZ];omega
 have e2:(KE (J9 cs rows xs)).take ((KE (J9 cs rows xs)).length-32)=J9 cs rows xs:=by
  rw [e];unfold KE;rw [<- hdg,Ajo]
 refine⟨xs,⟨hs,h2,h1,e2⟩,?_,?_⟩
 ·unfold KE;rw [<- hdg,Ajk,dZ];omega
 ·rw [e2,e];unfold KE;rw [<- hdg,Aku,hdg]
theorem XZ{cs:List AA}{rows:List (List AW)}(h:∀ r∈rows,r.length=cs.length):rowsOf ((AjO cs.length).map (A4 rows)) rows.length=rows:=by
 refine Akx (by simp [rowsOf]) λ i h1 h2=>?_;simp only [rowsOf,List.getElem_map,List.getElem_range,rowAt,List.map_map];have hl:=h _ (Akg h2);refine Akx (by simp [hl]) λ j g1 g2=>?_;simp [A4,Akq,h2,g2]
def Ac4(l:List UInt8)(w w':World)(v:Value):Prop :=
 Below w.heap.size w w'/\((∃ g p cs aH n,v=.tuple #[.pointer (some g),.int .i64 0]/\w'.cell? g=some (.pointer (some p))/\GW w' p cs aH n/\Cw cs (rowsOf (rws aH) n)/\FA cs (rowsOf (rws aH) n) l /\
   ∀ aD rows',Cw aD rows'->FA aD rows' l->aD=cs/\rows'=rowsOf (rws aH) n/\n=rows'.length/\rws aH=(AjO aD.length).map (A4 rows')) \/
  (v=.tuple #[.pointer none,.int .i64 91]/\¬ TE l)\/(v=.tuple #[.pointer none,.int .i64 90]/\TE l/\∀ aD rows',Cw aD rows'->¬ FA aD rows' l))
theorem GW.grown{w w':World}{p:Addr}{cs:List AA}{aH:List BN}{n:Nat}(h:GW w p cs aH n)(B:Below w.heap.size w w'):GW w' p cs aH n:=by
 have K:=Aq.AQ (F:=λ _=>False) B;obtain⟨a0,c0,h1,h2⟩:=h.SE;obtain⟨a1,c1,h3,h4⟩:=h.VY;obtain⟨a2,c2,h5,h6⟩:=h.Aiu;exact⟨⟨a0,c0,K.cell h1 (by simp),h2.grown B⟩,⟨a1,c1,K.cell h3 (by simp),h4.grown B⟩,⟨a2,c2,K.cell h5 (by simp),h6.grown B⟩,K.cell h.many (by simp),h.right,h.len,h.small,h.each⟩
section
variable {w:World}
theorem PT(T:L6 w)(s:ByteArray)(hs:s.size<=140737488355328)(mL:∃ cs rows,Cw cs rows/\FA cs rows (bl s)):Calls Tryz.prog f.FQ #[.string s] w (AD λ v w'=>Ac4 (bl s) w w' v):=by
 apply R.LD
 delta R.A R.B R.AhD R.Ux R.Cs R.D R.F R.H R.I R.J R.Ls R.N R.P R.Rs R.Rt R.S R.T R.W R.Y;try dsimp only [R.Ps]
 have dM:=Bs s;obtain⟨l,hl⟩:∃ l,l=bl s:=⟨_,rfl⟩;rw [<- hl] at dM mL;have aq:s.size<40->¬ TE l:=λ h hd=>by have:=hd.1;omega
 rw [<- hl];refine Aa (λ h=>⟨.refl _ _,.inr (.inl ⟨rfl,aq (by omega)⟩)⟩) (λ jk=>?_);have mD:40<=l.length:=by omega
 refine Fg LI s w λ b0 c0 cells e0 w1 dL B1 iR aj sW dk=>?_;have dh:Rd w1 (some ⟨b0,0,none⟩) (l.map Af):=by
  have:=(Rd.Av iR).take s.size;rw [dk,<- hl] at this;exact this
 have eW:IntKind.i64.wrap ((s.size:Int)-32)=((l.length-32:Nat):Int):=by rw [wrap_i64 (by omega) (by omega)];omega
 refine⟨_,_,_,rfl,?_⟩;rw [eW];simp only [Ajz,Aks];obtain⟨l1,ff⟩:∃ l1,l1=l.take (l.length-32):=⟨_,rfl⟩;have kA:l1.length=l.length-32:=by rw [ff,Ajr];omega
 obtain⟨a1,ha1⟩:∃ a1,a1=BD (some ⟨b0,0,none⟩) 0 c0 1:=⟨_,rfl⟩;have nb:Rd w1 a1 (l1.map Af):=by
  have h:=dh.YA 0 (l.length-32) c0 1 (by omega);simp only [AjC,Akd,Aks] at h;rw [<- Akt,<- ff,<- ha1] at h;exact h
 rw [<- ha1,<- kA];have S:=Abe (ST.start w) B1 (a:=some ⟨b0,0,none⟩) (xs:=l.map Af) ⟨dh,λ k hk=>by cases hk;exact Nat.le_of_eq dL.symm⟩;refine⟨⟨by omega,by omega,by omega⟩,S.Ak λ b4 w2 _ B2 S=>?_⟩;have kH:Rd w2 (some ⟨b4,0,none⟩) ([(a1,c0,l1)].map C1):=S.rdc 0 rfl;have e2:Bv [(a1,c0,l1)]=l1:=by simp [Bv]
 refine (Jk (c:=1) (T.grown S.Ag) [(a1,c0,l1)] kH (by
   intro p hp;simp only [Ajc,Akw,or_false] at hp;subst hp;exact nb.grown B2) (by simp) (by rw [e2];omega)).mono ?_
 rw [e2];rintro _ w3 ⟨_,rfl,rfl,B3⟩;have S:=S.grown B3;have dZ:(Pp l1).length=32:=Mf _;obtain⟨dg,hdg⟩:∃ dg,dg=Pp l1:=⟨_,rfl⟩;rw [<- hdg] at dZ ⊢;have jv:(dg.map Af).length=32:=by rw [AjM];exact dZ
 refine Wc dg dZ ⟨rfl,S.Ak λ b7 w4 _ B4 S=>EL jv (S.GA 0 rfl jv (Hg _) λ w5 S=>S.draw λ w6 _ S=>⟨⟨by omega,by omega,by omega⟩,⟨by omega,by omega,by omega⟩,?_⟩)⟩;have sP:Rd w6 (BD (some ⟨b7,0,none⟩) 0 32 1) (dg.map Af):=by
  have h:=(S.rdc 0 rfl).YA 0 32 32 1 (by omega);have e:(AkB ((32-0)*1) (AkC (0*1) (dg.map Af)))=dg.map Af:=by
   rw [Nat.zero_mul,Akd];exact Akm (by rw [AjM];omega)
  have h':Rd w6 (BD (some ⟨b7,0,none⟩) 0 32 1) (AkB ((32-0)*1) (AkC (0*1) (dg.map Af))):=h;rwa [e] at h'
 refine BH LI dZ.symm sP ⟨_,rfl,?_⟩;have mw:s.extract l1.length s.size=Dz (l.drop (l.length-32)):=by
  rw [extract_eq,<- hl,kA];congr 1;exact Akm (by rw [Ajw];omega)
 rw [mw,Aw];have jw:TE l↔Dz dg=Dz (l.drop (l.length-32)):=by
  unfold TE;rw [<- ff,<- hdg];constructor
  ·intro h;rw [h.2]
  ·intro h;have:=congrArg bl h;rw [CM,CM] at this;exact⟨mD,this.symm⟩
 refine Ap (Aa (λ hd=>⟨⟨by omega,by omega,by omega⟩,?_⟩) (λ hd=>⟨S.Ag,.inr (.inl ⟨rfl,λ h=>hd (jw.1 h)⟩)⟩));have hD:=jw.2 hd;have nq:Rd w6 (some ⟨b0,0,none⟩) (l.map Af):=S.ok (It.rd (some ⟨b0,0,none⟩) (l.map Af)) (List.mem_of_mem_drop (i:=2) (by simp));have np:Rd w6 a1 (l1.map Af):=by
  have h:=nq.YA 0 (l.length-32) c0 1 (by omega);simp only [AjC,Akd,Aks] at h;rw [<- Akt,<- ff,<- ha1] at h;exact h
 have gY:∃ fy j3,Fz fy [] j3 l1:=by
  obtain⟨fy,r0,h1,h2⟩:=mL;obtain⟨xs,hP,_⟩:=h2.pre h1;obtain rfl:=h1.none;exact⟨fy,xs,by rw [ff];exact hP⟩
 refine (PU np (by omega) (by omega) (by omega) gY).mono ?_;rintro _ w8 ⟨_,rfl,B8,hC⟩;have S:=S.grown B8;have no:(∀ aD rows' fT,¬ Fz aD rows' fT l1)->∀ aD rows',Cw aD rows'->¬ FA aD rows' l:=λ h aD rows' eC hI=>by
  obtain⟨xs,hP,_⟩:=hI.pre eC;rw [<- ff] at hP;exact h _ _ _ hP
 rcases hC with ⟨p,cs,aH,n,rfl,hA,hu⟩ | ⟨rfl,hno2⟩
 ·have dI:∀ aD rows',Cw aD rows'->FA aD rows' l->aD=cs/\rows'=rowsOf (rws aH) n/\n=rows'.length/\rws aH=(AjO aD.length).map (A4 rows'):=λ aD rows' eC hI=>by
   obtain⟨xs,hP,_⟩:=hI.pre eC;rw [<- ff] at hP;obtain⟨h1,h2,h3⟩:=hu aD rows' xs hP;refine⟨h1.symm,?_,h2,h3⟩;rw [h3,h2,XZ λ r hr=>eC.Z4 hr]
  refine⟨_,_,rfl,Ap (AZ (S.draw λ w9 B9 S=>?_))⟩;have lJ:=hA.grown B9;obtain⟨ca,cc,fY,dN⟩:=lJ.SE;obtain⟨va,vc,hv1,hv2⟩:=lJ.VY;have cF:=CL hA.right;have cH:=hA.small;refine⟨_,_,_,fY,(AgI lJ.many hv1 hv2 (by omega) (by have:=hA.len;omega) (λ q hq=>(hA.each q hq).1)).mono ?_⟩;rintro _ dJ ⟨_,rfl,bo,ps,rfl,cr,dR,mT,fU⟩;have mJ:=lJ.grown fU;have S:=S.grown fU;have qA:=Aq.AQ (F:=λ _=>False) fU;refine⟨_,_,_,rfl,qA.cell fY (by simp),?_⟩;have e7:ps=[]:=by
   obtain⟨fy,r0,h1,h2⟩:=mL;have h3:=(dI _ _ h1 h2).2.2.1;rw [h1.none] at h3;exact List.eq_nil_of_length_eq_zero (by rw [cr,h3];rfl)
  have hW:=Hx (c:=cc) (c2:=n) e7 (T.grown S.Ag) (dN.grown fU) (by omega) (λ c hc=>by have:=(F1 hA.right hc).2.2.2;omega) mT (by omega) (by
   intro r hr v hv;rw [dR] at hr;obtain⟨i,hi,rfl⟩:=Ajb.1 hr;obtain⟨col,gF,rfl⟩:=Ajb.1 hv;obtain⟨q,hq,rfl⟩:=Ajb.1 gF;obtain⟨hql,k,hg⟩:=hA.each q hq;have aE:i<q.2.2.length:=by have:=List.mem_range.1 hi;omega
   have e:q.2.2.getD i Z0=q.2.2[i]:=by simp [Akq,aE]
   rw [e];exact hg.ok _ (Akg aE))
  rw [cr] at hW;refine hW.mono ?_;rintro _ bm ⟨_,rfl,hV,dC⟩;have S:=S.grown dC;have mK:=mJ.grown dC;rw [dR] at hV;rcases hV with ⟨hnok,rfl,hE⟩ | ⟨aZ,b,rfl,hI⟩
  ·refine⟨_,_,rfl,As (λ _=>⟨S.Ag,.inr (.inr ⟨rfl,hD,λ aD rows' eC hI=>?_⟩)⟩) (λ h=>absurd h hE)⟩;obtain⟨rfl,rfl,_⟩:=dI aD rows' eC hI;exact hnok eC
  ·refine⟨_,_,rfl,As (λ h=>absurd rfl h) (λ _=>?_)⟩;rw [Aw];refine Ap (Aa (λ he=>?_) (λ he=>⟨S.Ag,.inr (.inr ⟨rfl,hD,λ aD rows' eC ov=>?_⟩)⟩))
   ·have mh:b=l:=by have:=congrArg bl he;rwa [CM,<- hl] at this
    subst mh;refine S.Ak λ jf cI _ j4 S=>⟨S.Ag,.inl ⟨⟨jf,0,none⟩,p,cs,aH,n,rfl,S.cell 0 rfl rfl,mK.grown j4,aZ,hI,dI⟩⟩
   ·obtain⟨rfl,rfl,_⟩:=dI aD rows' eC ov;exact he (by rw [hI.one ov,hl,Fs])
 ·exact⟨_,_,rfl,Ap (AN ⟨S.Ag,.inr (.inr ⟨rfl,hD,no hno2⟩)⟩)⟩
end
section
variable {w:World}{g p:Addr}{cs:List AA}{aH:List BN}{n:Nat}
end
theorem FA.len{cs:List AA}{rows:List (List AW)}{b:List UInt8}(hs:Cw cs rows)(h:FA cs rows b):b.length<=40000000:=by
 obtain⟨xs,h1,h2,rfl⟩:=h.ex;have:=h2.Aej hs;have hd:=Mf (J9 cs rows xs);unfold KE;rw [Ajk,hd];omega
theorem Ac4.Ji{cs:List AA}{rows:List (List AW)}{l:List UInt8}{w w':World}{v:Value}(hs:Cw cs rows)(hI:FA cs rows l)(h:Ac4 l w w' v):∃ g p aH,v=.tuple #[.pointer (some g),.int .i64 0]/\w'.cell? g=some (.pointer (some p))/\GW w' p cs aH rows.length/\rws aH=(AjO cs.length).map (A4 rows)/\Below w.heap.size w w':=by
 obtain⟨B,⟨g,p,gA,aH,n,rfl,hg,hA,_,_,hu⟩ | ⟨_,aq⟩ | ⟨_,_,aq⟩⟩:=h
 ·obtain⟨rfl,rfl,h3,h4⟩:=hu cs rows hs hI;refine⟨g,p,aH,rfl,hg,?_,h4,B⟩;rw [<- h3];exact hA
 ·obtain⟨_,_,hd⟩:=hI.pre hs;exact absurd hd aq
 ·exact absurd hI (aq cs rows hs)
section
variable {w:World}{g p:Addr}{cs:List AA}{aH:List BN}{n:Nat}
theorem Aa9{α:Type}{f:α->List Value}{k:Nat}(hf:∀ x,(f x).length=k+1){xs:List α}(h:Rd w none (xs.flatMap f)):xs=[]:=by
 cases xs with
 | nil=>rfl
 | cons x xs =>
  have hx:=hf x;cases pG:f x with
  | nil=>rw [pG] at hx;simp at hx
  | cons v vs =>
   obtain⟨p,hp,_⟩:=h 0 v (by simp [pG]);cases hp
theorem Ui{b:Nat}{t:TypeId}{sz:Nat}(h:w.heap[b]?=some (.cells #[] t (0,0))):Row w t sz (some ⟨b,0,none⟩) 0 0 [] :=
 ⟨by simp,.inr ⟨b,#[],rfl,h,by omega,by omega,by simp,by simp⟩⟩
theorem AeL(vs:List AW):∀ u∈Ba vs,u.oneCell'=true:=by
 intro u hu;obtain⟨v,_,hv⟩:=List.mem_flatMap.1 hu;simp only [GH,Ajc,Akw,or_false] at hv;rcases hv with rfl | rfl | rfl <;> rfl
theorem Adr(vs:List AA):∀ u∈AO vs,u.oneCell'=true:=by
 intro u hu;obtain⟨v,_,hv⟩:=List.mem_flatMap.1 hu;simp only [Hi,Ajc,Akw,or_false] at hv;rcases hv with rfl | rfl | rfl <;> rfl
theorem Abm{a:Option Addr}{c:Nat}{vs:List AA}(h:Rd w a (AO vs))(hl:vs.length<=100000):Calls Tryz.prog f.Bz #[.slice a vs.length c] w (AD λ v w'=>∃ a' c',v=.slice a' vs.length c'/\ST w w' [AP a' c' vs]):=by
 apply R.Bc
 delta R.F R.J R.Ks R.N R.O R.S;try dsimp only [R.Ps]
 cases a with
 | none =>
  have:=Aa9 (k:=2) (λ _=>rfl) h;subst this;exact AZ ⟨none,0,rfl,(ST.start w).nil _ _⟩
 | some q =>
  refine AN ((ST.start w).Ak λ b2 w1 _ B1 S=>?_);have S:=S.Sw 0 rfl (.refl _ _) (It.row ty.Bt 3 (some ⟨b2,0,none⟩) 0 0 []) (Ui (S.Bu 0 rfl)) (λ k hk=>.inl hk);refine S.app 0 rfl Yj rfl (by omega) (by omega) (h.grown B1) (mm:=vs.length) (WC vs) (Adr vs) (by omega) λ a' c' w' S=>⟨_,_,_,rfl,a',c',by rw [Ajp],?_⟩;simp only [Ajp,AkA] at S;exact S
theorem AeQ(hg:w.cell? g=some (.pointer (some p)))(h:GW w p cs aH n):Calls Tryz.prog f.JI #[.pointer (some g)] w (AD λ v w'=>∃ a' c',v=.slice a' cs.length c'/\ST w w' [AP a' c' cs]):=by
 apply R.Gu
 delta R.Cs R.F R.Lp R.Ls R.O R.S;try dsimp only [R.Ps]
 obtain⟨a,c,h1,h2⟩:=h.SE;have:=(CL h.right).2;refine AN ⟨_,hg,_,_,_,h1,(Abm h2 (by omega)).mono ?_⟩;rintro _ w1 ⟨_,rfl,a',c',rfl,S⟩;exact⟨_,_,_,rfl,a',c',rfl,S⟩
end
section
variable {w:World}{a:Option Addr}{c0:Nat}
theorem Zv{ps:List BN}(hr:BU w a ps)(hn:ps.length<=9223372036854775807){fn:FuncId}{fi ca:Array Value}(aY:enters Tryz.prog fn=true)(p:List AW->Bool)(hf:∀ w' (x:BN),Below w.heap.size w w'->x∈ps->Calls Tryz.prog fn ⟨fi.toList++[.slice x.1 x.2.2.length x.2.1]++ca.toList⟩ w' (AD λ r aR=>r=.bool (p x.2.2)/\Below w'.heap.size w' aR)) :
  Calls Tryz.prog f.BM #[.slice a ps.length c0,.func (.func fn) fi ca] w (AD λ r w'=>r=.int .i64 (PE (ps.findIdx? λ x=>p x.2.2))/\Below w.heap.size w w'):=by
 apply R.Bj
 delta R.Ad R.F R.G R.I R.Ls R.Qi R.S R.W R.X;try dsimp only [R.Ps]
 refine Mv ps.length (λ i w1=>(∀ x∈ps.take i,(λ x:BN=>p x.2.2) x=false)/\Below w.heap.size w w1) hn ⟨by simp,.refl _ _⟩ λ I M i w1 hi h next=>?_;obtain⟨aC,B1⟩:=h;refine Aa (λ aB=>⟨⟨by omega,aB⟩,?_⟩) (λ aM=>⟨?_,B1⟩)
 ·have aE:i<ps.length:=by omega
  obtain⟨q,rfl,hc,_⟩:=(hr.grown B1).at aE;refine⟨_,_,_,by rw [Ajz];exact hc,?_⟩;rw [aY];refine (hf w1 _ B1 (Akg aE)).mono ?_;rintro _ w2 ⟨_,rfl,rfl,B2⟩;refine⟨_,rfl,Ao (λ h=>⟨by rw [Ey (p:=λ x:BN=>p x.2.2) aE aC h];rfl,Ac B1 B2⟩) (λ h=>next _ aE ⟨λ x hx=>?_,Ac B1 B2⟩)⟩;rw [Akj aE] at hx;rcases Akk.1 hx with hx | hx
  ·exact aC x hx
  ·rw [Akn.1 hx];exact h
 ·rw [Akm (by omega)] at aC;rw [Dh aC];rfl
theorem YJ{ps:List BN}(hr:BU w a ps)(hn:ps.length<=9223372036854775807){fn:FuncId}{fi ca:Array Value}(aY:enters Tryz.prog fn=true)(p:List AW->Bool)(hf:∀ w' (x:BN),Below w.heap.size w w'->x∈ps->Calls Tryz.prog fn ⟨fi.toList++[.slice x.1 x.2.2.length x.2.1]++ca.toList⟩ w' (AD λ r aR=>r=.bool (p x.2.2)/\Below w'.heap.size w' aR)) :
  Calls Tryz.prog f.Br #[.slice a ps.length c0,.func (.func fn) fi ca] w (AD λ r w'=>r=.bool (ps.any λ x=>p x.2.2)/\Below w.heap.size w w'):=by
 apply R.A9
 delta R.Ci R.G R.S;try dsimp only [R.Ps]
 refine (Zv hr hn aY p hf).mono ?_;rintro _ w1 ⟨_,rfl,rfl,B1⟩;exact⟨_,rfl,by rw [EW],B1⟩
end
/-! ### may a row be ordered? -/
def Acl(vs:List AW)(ks:List (Int × Bool)):Bool:=vs.all AG && !(ks.any λ k=>decide (k.1<0) || decide (k.1>=vs.length))
section
variable {w:World}{a ak:Option Addr}{c kc:Nat}{vs:List AW}{ks:List (Int × Bool)}{rs:List Value}
theorem Acm{b:Nat}{cs:List Value}{k:Int × Bool}(hk:Lh k cs)(hc:w.cell? ⟨b,0,none⟩=some (.slice a vs.length c)) :
  Calls Tryz.prog f.Js #[.agg ⟨cs⟩,.pointer (some ⟨b,0,none⟩)] w (AD λ r w'=>r=.bool (decide (k.1<0) || decide (k.1>=vs.length))/\Below w.heap.size w w'):=by
 obtain⟨rfl,_⟩:=hk;apply R.Jt
 delta R.A R.F R.G R.I R.Li R.Ls R.N;try dsimp only [R.Ps]
 refine (ST.start w).Ak λ b1 w1 _ B1 S1=>⟨_,S1.cell 0 rfl rfl,Aa (λ h=>⟨by rw [decide_eq_true h];rfl,B1⟩) (λ h=>⟨_,S1.cell 0 rfl rfl,_,_,_,(Aq.AQ (F:=λ _=>False) B1).cell hc (by simp),by rw [decide_eq_false h];rfl,B1⟩)⟩
theorem RC(hl:Rd w a (Ba vs))(hn:vs.length<=9223372036854775807)(hk:Rd w ak rs)(hC:Ax Lh ks rs)(bY:ks.length<=9223372036854775807) :
  Calls Tryz.prog f.XJ #[.slice a vs.length c,.slice ak ks.length kc] w (AD λ r w'=>r=.bool (Acl vs ks)/\Below w.heap.size w w'):=by
 apply R.MP
 delta R.A R.Ab R.Cb R.E R.F R.G R.I R.J R.Li R.Ls R.Lt R.N R.P R.Qi R.S R.Ae R.T R.W R.X;try dsimp only [R.Ps]
 refine (ST.start w).Ak λ b w1 _ _ S1=>⟨_,_,_,S1.cell 0 rfl rfl,Mv vs.length (λ i w2=>ST w w2 [It.cells b #[.slice a vs.length c] ty.A0]/\(vs.take i).all AG=true) hn ⟨S1,rfl⟩ λ I M i w2 hi h next=>?_⟩;obtain⟨S2,aC⟩:=h;refine Aa (λ aB=>⟨⟨by omega,aB⟩,?_⟩) (λ aM=>?_)
 ·have aE:i<vs.length:=by omega
  obtain⟨p,rfl,h0,h1,h2⟩:=Oz (hl.grown S2.Ag) aE;refine⟨_,by rw [Ajz];exact h0,_,by rw [Ajz];exact h1,_,by rw [Ajz];exact h2,S2.N5 λ b9 w5 _ S5=>?_⟩;have S5:ST w w5 [It.cells b9 ⟨GH vs[i]⟩ ty.AX,It.cells b #[.slice (some p) vs.length c] ty.A0]:=S5;refine⟨_,S5.cell 0 rfl rfl,_,S5.cell 0 rfl rfl,_,S5.cell 0 rfl rfl,(BB w5 vs[i]).mono ?_⟩;rintro _ w6 ⟨_,rfl,rfl,B6⟩;have S6:=S5.grown B6;refine⟨_,rfl,Ap (Ao (λ hr=>next _ aE ⟨S6.drop 1,?_⟩) (λ hr=>⟨?_,S6.Ag⟩))⟩
  ·rw [Akj aE,List.all_append,aC];simp [hr]
  ·rw [Acl];have:vs.all AG=false:=by
    rw [Bool.eq_false_iff];intro h;rw [List.all_eq_true.1 h _ (Akg aE)] at hr;cases hr
   rw [this];rfl
 ·rw [Akm (by omega)] at aC;refine (IZ (fn:=f.Js) (fi:=#[]) (ca:=#[.pointer (some ⟨b,0,none⟩)]) (hk.grown S2.Ag) hC bY (by kernel_rfl) (λ k=>decide (k.1<0) || decide (k.1>=vs.length)) λ w' x cc B _ hx=>Acm (a:=a) (c:=c) hx ((S2.grown B).cell 0 rfl rfl)).mono ?_;rintro _ w3 ⟨_,rfl,rfl,B3⟩;exact⟨_,rfl,by rw [Acl,aC];rfl,Ac S2.Ag B3⟩
theorem Abs{b:Nat}(hl:Rd w a (Ba vs))(hn:vs.length<=9223372036854775807)(hk:Rd w ak rs)(hC:Ax Lh ks rs)(bY:ks.length<=9223372036854775807)(hc:w.cell? ⟨b,0,none⟩=some (.slice ak ks.length kc)) :
  Calls Tryz.prog f.MO #[.slice a vs.length c,.pointer (some ⟨b,0,none⟩)] w (AD λ r w'=>r=.bool (!Acl vs ks)/\Below w.heap.size w w'):=by
 apply R.Lm
 delta R.A R.Cb R.G R.Ls R.S;try dsimp only [R.Ps]
 refine⟨_,_,_,hc,(RC hl hn hk hC bY).mono ?_⟩;rintro _ w1 ⟨_,rfl,rfl,B1⟩;exact⟨_,rfl,rfl,B1⟩
theorem VD{ps:List BN}(hr:BU w a ps)(hn:ps.length<=9223372036854775807)(hv:∀ x∈ps,x.2.2.length<=9223372036854775807)(hk:Rd w ak rs)(hC:Ax Lh ks rs)(bY:ks.length<=9223372036854775807) :
  Calls Tryz.prog f.Acn #[.slice a ps.length c,.slice ak ks.length kc] w (AD λ r w'=>r=.bool (!(ps.any λ x=>!Acl x.2.2 ks))/\Below w.heap.size w w'):=by
 apply R.PI
 delta R.Cb R.G R.J R.N R.P R.S;try dsimp only [R.Ps]
 refine (ST.start w).Ak λ b w1 _ B1 S1=>(YJ (fn:=f.MO) (fi:=#[]) (ca:=#[.pointer (some ⟨b,0,none⟩)]) (hr.grown B1) hn (by kernel_rfl) (λ vs=>!Acl vs ks) λ w' x B hx=>Abs (((hr.grown B1).grown B).each x hx) (hv x hx) ((hk.grown B1).grown B) hC bY ((S1.grown B).cell 0 rfl rfl)).mono ?_;rintro _ w2 ⟨_,rfl,rfl,B2⟩;exact⟨_,rfl,rfl,Ac B1 B2⟩
end
/-! ### at most one row -/
section
variable {w:World}{a:Option Addr}{c n:Nat}{fn:FuncId}{fi ca:Array Value}
theorem Abn{a:Option Addr}{c:Nat}{vs:List AW}(h:Rd w a (Ba vs))(hl:vs.length<=100000):Calls Tryz.prog f.EH #[.slice a vs.length c] w (AD λ v w'=>∃ a' c',v=.slice a' vs.length c'/\ST w w' [Nu a' c' vs]):=by
 apply R.Dx
 delta R.F R.J R.Ks R.N R.O R.S;try dsimp only [R.Ps]
 cases a with
 | none =>
  have:=Aa9 (k:=2) (λ _=>rfl) h;subst this;exact AZ ⟨none,0,rfl,(ST.start w).nil _ _⟩
 | some q =>
  refine AN ((ST.start w).Ak λ b2 w1 _ B1 S=>?_);have S:=S.Sw 0 rfl (.refl _ _) (It.row ty.AX 3 (some ⟨b2,0,none⟩) 0 0 []) (Ui (S.Bu 0 rfl)) (λ k hk=>.inl hk);refine S.app 0 rfl Ahx rfl (by omega) (by omega) (h.grown B1) (mm:=vs.length) (Yr vs) (AeL vs) (by omega) λ a' c' w' S=>⟨_,_,_,rfl,a',c',by rw [Ajp],?_⟩;simp only [Ajp,AkA] at S;exact S
theorem Aab(hn:n<=1):Calls Tryz.prog f.Dq #[.slice a n c,.func (.func fn) fi ca] w (AD λ r w'=>r=.tuple #[]/\w'=w):=by
 have ins:∀ {w},Calls Tryz.prog f.DE #[.slice a n c,.int .i64 0,.int .i64 n,.func (.func fn) fi ca] w (AD λ r w'=>r=.tuple #[]/\w'=w):=by
  intro w;apply R.CF
  delta R.Ad R.D R.F R.H R.I R.Ls R.Qi R.S R.Ae R.W R.X;try dsimp only [R.Ps]
  refine⟨λ s w1=>s=[.int .i64 1]/\w1=w,λ _ _=>0,⟨rfl,rfl⟩,?_⟩;rintro i w1 ⟨aA,rfl⟩;cases aA;exact Aa (λ h=>by omega) (λ _=>⟨rfl,rfl⟩)
 have cmp:Calls Tryz.prog f.Fp #[.slice a n c,.int .i64 n,.func (.func fn) fi ca] w (AD λ r w'=>r=.tuple #[]/\w'=w):=by
  apply R.DP
  delta R.Cn R.F R.H R.I R.Qi R.Qii R.S R.W;try dsimp only [R.Ps]
  refine⟨λ s w1=>s=[.int .i64 0,.int .i64 20]/\w1=w,λ _ _=>0,⟨rfl,rfl⟩,?_⟩;rintro i j w1 ⟨aA,rfl⟩;cases aA;refine Aa (λ h=>by omega) (λ _=>ins.mono ?_);rintro _ w2 ⟨_,rfl,rfl,rfl⟩;refine⟨rfl,λ s w1=>s=[.int .i64 20]/\w1=w2,λ _ _=>0,⟨rfl,rfl⟩,?_⟩;rintro i w1 ⟨aA,rfl⟩;cases aA;exact Aa (λ h=>by omega) (λ _=>⟨rfl,rfl⟩)
 apply R.Ch
 delta R.Cn R.H R.I R.S;try dsimp only [R.Ps]
 refine cmp.mono ?_;rintro _ w1 ⟨_,rfl,rfl,rfl⟩;exact⟨rfl,rfl,rfl⟩
theorem Y2{ps:List BN}(hr:BU w a ps)(hn:ps.length<=1)(hv:∀ x∈ps,x.2.2.length<=100000) :
  Calls Tryz.prog f.VE #[.slice a ps.length c] w (AD λ r w'=>∃ a' c',r=.slice a' ps.length c'/\ps.length<=c'/\Below w.heap.size w w'):=by
 apply R.Ln
 delta R.Ad R.Cs R.F R.I R.J R.Ks R.Ls R.N R.O R.J2 R.S R.W R.X;try dsimp only [R.Ps]
 refine Vk ps.length (λ i a' l' c' w1=>l'=i/\∃ xs H,xs.length=i/\ST w w1 (It.row ty.A0 1 a' i c' xs :: H)) (by omega) ⟨rfl,[],[],rfl,(ST.start w).nil _ _⟩ λ I M a' l' c' i w1 hi h next=>?_;obtain⟨rfl,xs,H,hx,S1⟩:=h;refine Aa (λ aB=>⟨⟨by omega,aB⟩,?_⟩) (λ aM=>⟨_,_,by rw [show l'=ps.length by omega],?_,S1.Ag⟩)
 ·have aE:l'<ps.length:=by omega
  obtain⟨q,rfl,hc,_⟩:=(hr.grown S1.Ag).at aE;refine⟨_,_,_,by rw [Ajz];exact hc,(Abn ((hr.grown S1.Ag).each _ (Akg aE)) (hv _ (Akg aE))).mono ?_⟩;rintro _ w2 ⟨_,rfl,a2,c2,rfl,P2⟩;have S2:=S1.join P2;refine⟨_,_,_,rfl,S2.Ak λ b3 w3 _ _ S3=>S3.app 2 rfl Aey rfl (by omega) (by omega) (S3.rdc 0 rfl) (mm:=1) rfl (by intro u hu;simp at hu;rw [hu];rfl) (by omega) λ a4 c4 w4 S4=>⟨_,_,_,rfl,next _ _ _ _ aE ⟨rfl,_,_,?_,S4.pull 2 rfl⟩⟩⟩;simp [hx]
 ·have:=(S1.rw 0 rfl).le;omega
theorem Iy{ps:List BN}{ak:Option Addr}{kc:Nat}{ks:List (Int × Bool)}{rs:List Value}(k:Int)(hr:BU w a ps)(hn:ps.length<=1)(hv:∀ x∈ps,x.2.2.length<=100000)(hk:Rd w ak rs)(hC:Ax Lh ks rs)(bY:ks.length<=9223372036854775807) :
  Calls Tryz.prog f.XI #[.slice a ps.length c,.int .i64 k,.slice ak ks.length kc] w (AD λ r w'=>∃ a' l c' e,r=.tuple #[.slice a' l c',.int .i64 e]/\Below w.heap.size w w'):=by
 have tI:Calls Tryz.prog f.ZM #[.slice a ps.length c,.slice ak ks.length kc] w (AD λ r w'=>∃ a' l c' e,r=.tuple #[.slice a' l c',.int .i64 e]/\l<=c'/\Below w.heap.size w w'):=by
  apply R.Oc
  delta R.A R.Cb R.Cn R.Cs R.F R.H R.I R.J R.Ls R.N R.O R.P R.S;try dsimp only [R.Ps]
  refine (ST.start w).Ak λ b w1 _ _ S1=>⟨_,_,_,S1.cell 0 rfl rfl,S1.call (VD (hr.grown S1.Ag) (by omega) (λ x hx=>by have:=hv x hx;omega) (hk.grown S1.Ag) hC bY) λ w2 _ S2=>⟨_,rfl,Ap (Ao (λ _=>?_) (λ _=>⟨_,_,_,_,rfl,Ajx _,S2.Ag⟩))⟩⟩;refine (Y2 (hr.grown S2.Ag) hn hv).mono ?_;rintro _ w3 ⟨_,rfl,a3,c3,rfl,pA,B3⟩;have S3:=S2.grown B3;refine⟨_,_,_,rfl,(Aab hn).mono ?_⟩;rintro _ w4 ⟨_,rfl,rfl,rfl⟩;exact⟨rfl,_,_,_,_,rfl,pA,S3.Ag⟩
 apply R.MN
 delta R.Dd R.F R.G R.H R.I R.O R.S R.Zb;try dsimp only [R.Ps]
 refine tI.mono ?_;rintro _ w1 ⟨_,rfl,a1,l1,c1,e1,rfl,iZ,B1⟩;refine⟨_,_,_,_,rfl,λ s w'=>∃ b,s=[.bool b]/\w'=w1,Ao (λ _=>⟨_,rfl,rfl⟩) (λ _=>⟨_,rfl,rfl⟩),?_⟩;rintro b w2 ⟨b,aA,rfl⟩;cases aA;refine Ao (λ _=>⟨_,_,_,_,rfl,B1⟩) (λ _=>Aa (λ h0=>Aa (λ h1=>⟨⟨by omega,h0,by omega,by omega⟩,_,_,_,_,rfl,B1⟩) (λ _=>⟨_,_,_,_,rfl,B1⟩)) (λ _=>⟨_,_,_,_,rfl,B1⟩))
end
end Go.Proofs.YtegnhfeclchlmaaGreatDoor
namespace Go.Proofs.YtegnhfeclchlmaaGreatDoor
open _root_.Bool renaming and_eq_true -> Ai6
set_option maxRecDepth 100000
open Go.Dn Go.Proofs
open Go.RowKit (Below)
set_option linter.unusedVariables false
/-! ### which columns are used -/
def Yp(cs:List AA)(q:Qu)(c:Nat):Bool:=(RF q).any λ x=>x.formed && x.names.any λ s=>decide (Hm cs s=some c)
def Ef(cs:List AA)(q:Qu):List Nat:=(List.range cs.length).filter (Yp cs q)
theorem Ur{cs:List AA}{q:Qu}{c:Nat}:Yp cs q c=true↔∃ x∈RF q,x.formed=true/\∃ s∈x.names,Hm cs s=some c:=by
 simp only [Yp,List.any_eq_true,Ai6,decide_eq_true_eq]
theorem QX{cs:List AA}{s:ByteArray}{c:Nat}(h:Hm cs s=some c):∃ hc:c<cs.length,cs[c].1=s:=by
 obtain⟨hc,h1,_⟩:=List.findIdx?_eq_some_iff_getElem.1 h;exact⟨hc,by simpa using h1⟩
theorem Ll{cs:List AA}{q:Qu}{c:Nat}:c∈Ef cs q↔Yp cs q c=true:=by
 unfold Ef;rw [List.mem_filter,List.mem_range];constructor
 ·exact λ h=>h.2
 ·intro h;obtain⟨x,_,_,s,_,hs⟩:=Ur.1 h;exact⟨(QX hs).1,h⟩
theorem Ach(cs:List AA)(q:Qu):(Ef cs q).Pairwise (·<·):=List.Pairwise.sublist List.filter_sublist List.pairwise_lt_range
/-! ### kinds -/
theorem Agq{cs:List AA}(h:Ai cs=true){c:AA}(hc:c∈cs):Cp c.1=true/\1<=c.2.1/\c.2.1<=3:=by
 unfold Ai at h;simp only [Ai6,List.all_eq_true] at h;have:=h.1.2 c hc;simp only [DU,Ai6,decide_eq_true_eq] at this;exact⟨this.1,this.2⟩
/-! ### what a plan's columns are -/
theorem H7{cs:List AA}{q:Qu}:∀ {l:List F4} {i:Nat} {out:List AA},Jm cs q i l=.ok out->out.length=l.length/\∀(j:Nat) (h1:j<l.length) (h2:j<out.length),Kv cs q (i+j) l[j]=.ok out[j]
 | [],i,out,h=>by cases h;simp
 | x :: l,i,out,h=>by
  unfold Jm at h;split at h
  ·cases h
  ·rename_i c hc;split at h
   ·cases h
   ·rename_i r hr;cases h;obtain⟨h1,h2⟩:=H7 hr;refine⟨by simp [h1],λ j g1 g2=>?_⟩;cases j with
    | zero=>exact hc
    | succ j =>
     have:=h2 j (by simpa using g1) (by simpa using g2);simp only [List.getElem_cons_succ];rwa [show i+(j+1)=i+1+j by omega]
theorem Rq{cs:List AA}{q:Qu}{out:List AA}(h:DZ cs q=.ok out):Ai cs=true/\EE q=true/\LK cs q.wh=none/\K7 cs q.gr=none/\Jm cs q 0 q.it=.ok out:=by
 unfold DZ at h;split at h
 ·cases h
 ·split at h
  ·cases h
  ·split at h
   ·cases h
   ·split at h
    ·cases h
    ·rename_i h1 h2 _ h3 _ h4;exact⟨by simpa using h1,by simpa using h2,h3,h4,h⟩
theorem Acf{cs:List AA}{q:Qu}{out:List AA}(h:DZ cs q=.ok out):out.length=q.it.length:=(H7 (Rq h).2.2.2.2).1
theorem DQ{q:Qu}:Fq q=true↔(1<=q.it.length/\q.it.length<=16/\q.wh.length<=1/\q.gr.length<=4/\q.od.length<=4 /\ -1<=q.lim/\q.lim<=4096)/\(∀ i∈q.it,BF i=true)/\(∀ x∈q.wh,BG x=true)/\(∀ x∈q.gr,BG x=true)/\∀ k∈q.od,Eh q.it k.1=true:=by
 unfold Fq;simp only [Ai6,decide_eq_true_eq,List.all_eq_true,and_assoc]
theorem FP{q:Qu}(h:EE q=true):Fq q=true/\(quT q).size<=4096:=by
 unfold EE at h;simpa using h
/-! ### a column that is not used is taken away -/
section
variable {cs:List AA}{c:Nat}
end
/-! ### a query with its first item twice -/
end Go.Proofs.YtegnhfeclchlmaaGreatDoor
namespace Go.Proofs.YtegnhfeclchlmaaGreatDoor
open _root_.Int renaming toNat_natCast -> Ajz
open _root_.List renaming getElem_mem -> Akg
set_option maxRecDepth 100000
open Go.Dn Go.Proofs
open Go.RowKit (Below)
set_option linter.unusedVariables false
/-! ### lists of numbers, of texts -/
def FC(a:Option Addr)(c:Nat)(xs:List Int):It:=It.row ty.int 1 a xs.length c (xs.map MB)
def Du(a:Option Addr)(c:Nat)(xs:List ByteArray):It:=It.row ty.string 1 a xs.length c (xs.map Value.string)
theorem Ahw:LO Tryz.prog ty.Fy=some (ty.int,1,8,.int .i64 0):=by kernel_rfl
theorem Ahy:LO Tryz.prog ty.D5=some (ty.string,1,16,.string ⟨#[]⟩):=by kernel_rfl
section
variable {w0 w:World}{H:List It}{a:Option Addr}{c:Nat}
theorem Qk(S:ST w0 w H)(n:Nat){xs:List ByteArray}(hn:H[n]?=some (Du a c xs)){b:Option Addr}{mm mc:Nat}{ys:List ByteArray}(hy:ys.length=mm)(hs:Rd w b (ys.map Value.string))(hl:xs.length+mm<=1000000){f:Value->World->Prop}
  (hf:∀ a' c' w',ST w0 w' (H.set n (Du a' c' (xs++ys)))->f (.slice a' (xs++ys).length c') w') :
  Dc Tryz.prog (Builtin.append_ #[ty.D5,ty.D5] ty.D5 #[.slice a xs.length c,.slice b mm mc]) f w:=by
 refine S.app n hn Ahy rfl (by omega) (by omega) hs (mm:=mm) (by simp [hy]) (by intro u hu;obtain⟨y,_,rfl⟩:=List.mem_map.1 hu;rfl) (by omega) λ a' c' w' S'=>?_;have e1:(xs++ys).length=xs.length+mm:=by simp [hy]
 have e2:xs.map Value.string++ys.map Value.string=(xs++ys).map Value.string:=by simp
 rw [e2] at S';have:=hf a' c' w' (by unfold Du;rw [e1];exact S');rwa [e1] at this
end
/-! ### a column of a name -/
theorem RT:∀ cs:List AA,Ax (λ x c=>c=Hi x) cs (AO cs)
 | []=>rfl
 | x :: cs=>⟨Hi x,AO cs,rfl,rfl,RT cs⟩
section
variable {w:World}{a1:Option Addr}{c1:Nat}{cs:List AA}
theorem JH(hl:Rd w a1 (AO cs))(hn:cs.length<=9223372036854775807)(s:ByteArray):Calls Tryz.prog f.X6 #[.slice a1 cs.length c1,.string s] w (AD λ r w'=>r=.int .i64 (PE (Hm cs s))/\Below w.heap.size w w'):=by
 apply R.Nb
 delta R.Ci R.I R.J R.N R.P R.S R.T;try dsimp only [R.Ps]
 refine (ST.start w).Ak λ b3 w1 _ _ S1=>(MC (hl.grown S1.Ag) (RT cs) hn (by kernel_rfl) (λ c=>decide (c.1=s)) ?_).mono ?_
 ·rintro w2 x _ B2 _ rfl;show Calls Tryz.prog f.RW #[.agg #[.string x.1,.int .i64 x.2.1,.bool x.2.2],.pointer (some ⟨b3,0,none⟩)] w2 _;apply R.JG
  delta R.A R.G R.I R.Lt R.N R.T;try dsimp only [R.Ps]
  have S2:=S1.grown B2;exact (ST.start w2).Ak λ b5 w3 _ B3 S3=>⟨_,S3.cell 0 rfl rfl,_,(S2.grown B3).cell 0 rfl rfl,by rw [Aw],S3.Ag⟩
 ·rintro _ w2 ⟨_,rfl,rfl,B2⟩;exact⟨_,rfl,rfl,(S1.grown B2).Ag⟩
/-! ### kinds -/
theorem Acz:∀ n:Nat,1<=n->n<17->EF[n*3+1]?=some (.int .i64 (DR n))/\EF[n*3+2]?=some (.int .i64 (if n<=2 then 0 else FO n))
 | 0,h,_=>by omega
 | 1,_,_=>⟨rfl,rfl⟩
 | 2,_,_=>⟨rfl,rfl⟩
 | 3,_,_=>⟨rfl,rfl⟩
 | 4,_,_=>⟨rfl,rfl⟩
 | 5,_,_=>⟨rfl,rfl⟩
 | 6,_,_=>⟨rfl,rfl⟩
 | 7,_,_=>⟨rfl,rfl⟩
 | 8,_,_=>⟨rfl,rfl⟩
 | 9,_,_=>⟨rfl,rfl⟩
 | 10,_,_=>⟨rfl,rfl⟩
 | 11,_,_=>⟨rfl,rfl⟩
 | 12,_,_=>⟨rfl,rfl⟩
 | 13,_,_=>⟨rfl,rfl⟩
 | 14,_,_=>⟨rfl,rfl⟩
 | 15,_,_=>⟨rfl,rfl⟩
 | 16,_,_=>⟨rfl,rfl⟩
 | n+17,_,h=>by omega
theorem Xo{cs:List AA}:∀ {x:Ex} {e:Int},x.kind cs=.error e->e=120\/e=121:=by
 intro x
 induction x using Ex.ind with
 | h op nm v ks ih =>
  intro e h;unfold Ex.kind at h;have hL:∀(l:List Ex),(∀ k∈l,k∈ks)->∀ e,Ex.kinds cs l=.error e->e=120\/e=121:=by
   intro l
   induction l with
   | nil=>intro _ e h;cases h
   | cons k l ihl =>
    intro hl e h;unfold Ex.kinds at h;split at h
    ·rename_i e2 he;cases h;exact ih k (hl k (by simp)) he
    ·split at h
     ·rename_i e2 he;cases h;exact ihl (λ y hy=>hl y (by simp [hy])) _ he
     ·cases h
  split at h
  ·rename_i e2 he;cases h;exact hL ks (λ _ h=>h) _ he
  ·unfold OW Rh at h
   repeat' split at h
   all_goals first
    | (cases h;omega)
    | cases h
theorem Rj{cs:List AA}:∀(l:List Ex) (k:Ex),Ex.kinds cs (l++[k])=match Ex.kinds cs l with | .error e=>.error e | .ok r=>match k.kind cs with | .error e=>.error e | .ok i=>.ok (r++[i])
 | [],k=>by simp only [List.nil_append,Ex.kinds] <;> (cases k.kind cs <;> rfl)
 | x :: l,k=>by
  simp only [List.cons_append,Ex.kinds,Rj l k];cases x.kind cs with
  | error e=>rfl
  | ok i =>
   cases Ex.kinds cs l with
   | error e=>rfl
   | ok r=>cases k.kind cs <;> rfl
theorem TR{cs:List AA}{e:Int}:∀(l m:List Ex),Ex.kinds cs l=.error e->Ex.kinds cs (l++m)=.error e
 | [],m,h=>by cases h
 | x :: l,m,h=>by
  simp only [List.cons_append,Ex.kinds] at h ⊢;cases hx:x.kind cs with
  | error e2=>rw [hx] at h;simpa using h
  | ok i =>
   rw [hx] at h;simp only at h ⊢;cases hl:Ex.kinds cs l with
   | error e2 =>
    rw [hl] at h;cases h;rw [TR l m hl]
   | ok r=>rw [hl] at h;cases h
theorem TS{cs:List AA}:∀ {l:List Ex} {r:List Int},Ex.kinds cs l=.ok r->r.length=l.length
 | [],r,h=>by cases h;rfl
 | x :: l,r,h=>by
  unfold Ex.kinds at h;split at h
  ·cases h
  ·split at h
   ·cases h
   ·rename_i l2 hl;cases h;simp [TS hl]
theorem Kr(w:World)(a b:Int):Calls Tryz.prog f.Zl #[.int .i64 a,.int .i64 b] w (AD λ r w'=>r=.bool (F6 a b)/\w'=w):=by
 apply R.NX
 delta R.F R.G;try dsimp only [R.Ps]
 refine Aj (λ h=>⟨by simp [F6,h],rfl⟩) (λ h=>Aj (λ h2=>⟨by simp [F6,h2],rfl⟩) (λ h2=>⟨by congr 1;rw [Bool.eq_iff_iff];simp [F6,h,h2],rfl⟩))
theorem Afy{w:World}{a1:Option Addr}{cs:List AA}(hl:Rd w a1 (AO cs)){s:ByteArray}{j:Nat}(h:Hm cs s=some j):∃ p,a1=some p/\j<cs.length/\w.cell? ((p.add (j*3)).add 1)=some (.int .i64 (cs.getD j (E0,0,false)).2.1):=by
 obtain⟨hj,_⟩:=QX h;obtain⟨p,rfl,_,c1,_⟩:=Fh hl hj;exact⟨p,rfl,hj,by rw [List.getD_eq_getElem?_getD,List.getElem?_eq_getElem hj];exact c1⟩
theorem Ah5{op:Int}{nm:ByteArray}{v:AW}{ks:List Ex}(h:Sx (.mk op nm v ks)=true):ks.length<=2:=by
 rcases RB h with ⟨_,rfl⟩ | ⟨_,_,rfl⟩ | ⟨_,_,_,rfl⟩ <;> simp
theorem Ahz{l:List Int}{i:Nat}(hi:i<2):(#[Value.int .i64 (l.getD 0 0),Value.int .i64 (l.getD 1 0)]:Array Value)[i]?=some (.int .i64 (l.getD i 0)):=by
 rcases (show i=0\/i=1 by omega) with rfl | rfl <;> rfl
theorem Af8{l:List Int}{k:Int}{i:Nat}(hi:i<2)(hl:l.length=i):(#[Value.int .i64 (l.getD 0 0),Value.int .i64 (l.getD 1 0)]:Array Value).setIfInBounds i (.int .i64 k)=#[Value.int .i64 ((l++[k]).getD 0 0),Value.int .i64 ((l++[k]).getD 1 0)]:=by
 rcases (show i=0\/i=1 by omega) with rfl | rfl
 ·obtain rfl:l=[]:=List.eq_nil_of_length_eq_zero hl;rfl
 ·match l,hl with
  | [x],_=>rfl
theorem L7(b i:Nat):(⟨b,0,none⟩:Addr).add (((i:Nat):Int).toNat*1)=⟨b,i,none⟩:=by rw [Ar,Ajz,Nat.mul_one,Nat.zero_add]
def Abh(l:List Int)(b:Nat):It:=It.cells b #[.int .i64 (l.getD 0 0),.int .i64 (l.getD 1 0)] 305
theorem Vf(hn:cs.length<=9223372036854775807):∀(x:Ex) (d:Nat) (w:World) (a:Option Addr) (cap:Nat),x.T0 d=true->Env w->Rd w a1 (AO cs)->XC w x (An x a cap) ->
  Calls Tryz.prog f.AbX #[.slice a1 cs.length c1,.agg ⟨An x a cap⟩] w (AD λ r w'=>r=TQ (x.kind cs)/\Below w.heap.size w w'):=by
 intro x
 induction x using Ex.ind with
 | h op nm v ks ih =>
  intro d w a cap aZ E hl hx;obtain⟨a2,cap2,rs,he,aP,_,av,hmx,_,_,hkids⟩:=hx.open;have iO:a2=a/\cap2=cap:=by
   simp only [An,List.cons.injEq,Value.slice.injEq,and_true,true_and] at he;exact⟨he.1.symm,he.2.symm⟩
  obtain⟨rfl,rfl⟩:=iO;change IW _ _ ks rs at hkids;cases d with
  | zero=>simp [Ex.T0] at aZ
  | succ d =>
  obtain⟨ho,hk⟩:=Q0 aZ;have cq:=ZI ho;have hlen:=Ah5 ho;change 1<=op/\op<=16 at cq;obtain⟨n,rfl⟩:∃ n:Nat,op=n:=⟨op.toNat,by omega⟩;apply R.Pz
  delta R.A R.Ab R.Pj R.Cb R.Ci R.D R.E R.F R.G R.H R.I R.Li R.Ls R.Lt R.N R.O R.Qi R.S R.Ae R.T R.W R.X R.Zb;try dsimp only [R.Ps]
  refine (ST.start w).Ak λ b8 w1 _ B1 S1=>?_;have iB:∀ j v,EF[n*3+j]?=some v->w1.cell? (((⟨2,0,none⟩:Addr).add (((n:Nat):Int).toNat*3)).add j)=some v:=by
   intro j v hv;obtain⟨p,hp,hc⟩:=(E.grown B1).iB (n*3+j) v hv;cases hp;rw [Bp,Ajz];exact hc
  obtain⟨s1,s2⟩:=Acz n (by omega) (by omega);refine⟨_,S1.cell 0 rfl rfl,⟨by show (0:Int)<=(n:Int);omega,by show (n:Int)<17;omega⟩,_,iB 0 _ (Yd n (by omega) (by omega)),_,iB 1 _ s1,_,iB 2 _ s2,S1.N5 λ gW w5 _ S5=>S5.Ak λ dq w6 _ _ S6=>⟨_,_,_,S6.cell 2 rfl rfl,?_⟩⟩;refine⟨λ st w7=>∃(i:Nat) (l:List Int),st=[.int .i64 (i:Int)]/\i<=ks.length/\Ex.kinds cs (ks.take i)=.ok l/\ST w w7 [Abh l dq,It.cells gW #[.int .i64 (G5 n),.int .i64 (DR n),.int .i64 (if n<=2 then 0 else FO n)] ty.HV,V5 b8 (An (.mk n nm v ks) a2 cap2)],
   λ st _=>match st with | [.int _ t]=>ks.length-t.toNat | _=>0,⟨0,[],rfl,by omega,rfl,S6⟩,?_⟩
  rintro t w7 ⟨i,l,aA,hi,jI,S7⟩;cases aA;have pP:=TS jI;rw [List.length_take,Nat.min_eq_left hi] at pP;refine Aa (λ aB=>⟨⟨by omega,aB⟩,?_⟩) (λ aM=>?_)
  ·have aE:i<ks.length:=by change (i:Int)<(ks.length:Int) at aB;omega
   obtain⟨p,a3,aN,rfl,bF,c0,c1',c2,c3,c4,c5⟩:=QU (aP.grown S7.Ag) hkids aE;refine⟨_,by rw [Ajz];exact c0,_,by rw [Ajz];exact c1',_,by rw [Ajz];exact c2,_,by rw [Ajz];exact c3,_,by rw [Ajz];exact c4,_,_,_,by rw [Ajz];exact c5,S7.PG λ lq bG _ cC=>?_⟩;refine⟨_,cC.cell 0 rfl rfl,_,cC.cell 0 rfl rfl,_,cC.cell 0 rfl rfl,_,cC.cell 0 rfl rfl,_,cC.cell 0 rfl rfl,_,_,_,cC.cell 0 rfl rfl,?_⟩;refine (ih ks[i] (Akg aE) d bG a3 aN (hk _ (Akg aE)) (E.grown cC.Ag) (hl.grown cC.Ag) (bF.grown cC.Ag)).mono ?_;rintro _ cB ⟨_,rfl,hr,eV⟩;have au:=cC.grown eV;have eS:Ex.kinds cs (ks.take (i+1))=match ks[i].kind cs with | .error e=>.error e | .ok k=>.ok (l++[k]):=by
    rw [List.take_succ_eq_append_getElem aE,Rj,jI]
   cases gn:ks[i].kind cs with
   | error e =>
    rw [gn] at hr eS;subst hr;have pC:=Xo gn;refine⟨_,_,rfl,As (λ _=>⟨?_,au.Ag⟩) (λ h=>by omega)⟩;have:Ex.kinds cs ks=.error e:=by
     have:=TR _ (ks.drop (i+1)) eS;rwa [List.take_append_drop] at this
    simp only [Ex.kind,this,TQ]
   | ok k =>
    rw [gn] at hr eS;subst hr;refine⟨_,_,rfl,As (λ h=>absurd rfl h) (λ _=>⟨⟨by omega,by omega⟩,?_⟩)⟩;rw [L7];refine au.BA 1 rfl (i:=i) (by show i<2;omega) (Af8 (k:=k) (by omega) pP) λ cZ cN=>⟨⟨i+1,l++[k],by rw [Ah (by omega)],by omega,eS,cN.drop 1⟩,?_⟩;show ks.length-(IntKind.i64.wrap ((i:Int)+1)).toNat<ks.length-((i:Nat):Int).toNat;rw [Ah (by omega)];simp only [Ajz];omega
  obtain rfl:i=ks.length:=by change ¬ (i:Int)<(ks.length:Int) at aM;omega
  rw [List.take_length] at jI;have bF:(Ex.mk n nm v ks).kind cs=OW cs n nm v l:=by simp only [Ex.kind,jI]
  refine⟨_,_,_,S7.cell 2 rfl rfl,λ st w8=>∃ i:Nat,st=[.int .i64 (i:Int)]/\i<=ks.length/\(DR n=0\/∀ k∈l.take i,F6 k (DR n)=true)/\ST w w8 [Abh l dq,It.cells gW #[.int .i64 (G5 n),.int .i64 (DR n),.int .i64 (if n<=2 then 0 else FO n)] ty.HV,V5 b8 (An (.mk n nm v ks) a2 cap2)],
   λ st _=>match st with | [.int _ t]=>ks.length-t.toNat | _=>0,⟨0,rfl,by omega,.inr (by simp),S7⟩,?_⟩
  rintro t w8 ⟨i,aA,hi,hw,S8⟩;cases aA;have step:∀ w',ST w w' [Abh l dq,It.cells gW #[.int .i64 (G5 n),.int .i64 (DR n),.int .i64 (if n<=2 then 0 else FO n)] ty.HV,V5 b8 (An (.mk n nm v ks) a2 cap2)]->i<ks.length->(DR n=0\/∀ k∈l.take (i+1),F6 k (DR n)=true) ->
    (∃ j:Nat,[Value.int .i64 (IntKind.i64.wrap ((i:Int)+1))]=[.int .i64 (j:Int)]/\j<=ks.length/\(DR n=0\/∀ k∈l.take j,F6 k (DR n)=true)/\ST w w' [Abh l dq,It.cells gW #[.int .i64 (G5 n),.int .i64 (DR n),.int .i64 (if n<=2 then 0 else FO n)] ty.HV,V5 b8 (An (.mk n nm v ks) a2 cap2)])/\ks.length-(IntKind.i64.wrap ((i:Int)+1)).toNat<ks.length-((i:Nat):Int).toNat:=by
   intro w' S aE hw;rw [Ah (by omega)];refine⟨⟨i+1,rfl,by omega,hw,S⟩,?_⟩;simp only [Ajz];omega
  refine Aa (λ aB=>S8.draw λ cR _ bN=>?_) (λ aM=>?_)
  ·have aE:i<ks.length:=by change (i:Int)<(ks.length:Int) at aB;omega
   have eQ:i<l.length:=by omega
   refine⟨_,bN.cell 1 rfl rfl,As (λ lU=>⟨⟨by omega,by omega⟩,_,by rw [L7];exact bN.cell 0 rfl (Ahz (by omega)),_,bN.cell 1 rfl rfl,(Kr cR _ _).mono ?_⟩) (λ lU=>step _ bN aE (.inl lU))⟩;rintro _ fR ⟨_,rfl,rfl,rfl⟩;have iS:l.getD i 0=l[i]:=by rw [List.getD_eq_getElem?_getD,List.getElem?_eq_getElem eQ];rfl
   rw [iS];refine⟨_,rfl,Ap (Ao (λ fX=>step _ bN aE (.inr ?_)) (λ fX=>⟨?_,bN.Ag⟩))⟩
   ·intro k hk;rw [List.take_succ_eq_append_getElem eQ] at hk;rcases List.mem_append.1 hk with hk | hk
    ·rcases hw with hw | hw
     ·exact absurd hw lU
     ·exact hw k hk
    ·rw [List.mem_singleton.1 hk];exact fX
   ·rw [bF];unfold OW;rw [if_pos ⟨lU,List.any_eq_true.2 ⟨l[i],Akg eQ,by simp [fX]⟩⟩];rfl
  obtain rfl:i=ks.length:=by change ¬ (i:Int)<(ks.length:Int) at aM;omega
  have lV:¬ (DR n≠0/\l.any (λ k=>!F6 k (DR n))=true):=by
   rintro⟨h1,h2⟩;rcases hw with hw | hw
   ·exact h1 hw
   ·obtain⟨k,hk,bB⟩:=List.any_eq_true.1 h2;rw [hw k (by rwa [List.take_of_length_le (by omega)])] at bB;cases bB
  refine⟨_,S8.cell 2 rfl rfl,Aj (λ h1=>⟨_,S8.cell 2 rfl rfl,(JH (hl.grown S8.Ag) hn nm).mono ?_⟩) (λ h1=>Aj (λ h2=>⟨_,S8.cell 2 rfl rfl,?_,S8.Ag⟩) (λ h2=>?_))⟩
  ·change (n:Int)=1 at h1;rintro _ fS ⟨_,rfl,rfl,j5⟩;have iG:=S8.grown j5;have pM:TQ ((Ex.mk n nm v ks).kind cs)=TQ (Rh cs nm):=by
    rw [bF];unfold OW;rw [if_neg lV,if_pos h1]
   cases hf:Hm cs nm with
   | none=>exact⟨_,rfl,Aa (λ _=>⟨by rw [pM];unfold Rh;rw [hf];rfl,iG.Ag⟩) (λ h=>absurd (show (-1:Int)<0 by decide) h)⟩
   | some j =>
    obtain⟨p,rfl,hj,hc⟩:=Afy (hl.grown iG.Ag) hf;refine⟨_,rfl,Aa (λ h=>absurd h (by show ¬ ((j:Nat):Int)<0;omega)) (λ _=>⟨⟨by show (0:Int)<=(j:Int);omega,by show (j:Int)<_;omega⟩,_,hc,?_,iG.Ag⟩)⟩;rw [pM];unfold Rh;rw [hf];rfl
  ·change ¬ (n:Int)=1 at h1;change (n:Int)=2 at h2;rw [bF];unfold OW;rw [if_neg lV,if_neg h1,if_pos h2];rfl
  ·change ¬ (n:Int)=1 at h1;change ¬ (n:Int)=2 at h2;have jC:¬ n<=2:=by omega
   refine⟨λ st w9=>st=[.bool (decide ((n:Int)=9\/(n:Int)=10\/(n:Int)=11))]/\w9=w8,Aj (λ h=>⟨by change (n:Int)=9 at h;simp [h],rfl⟩) (λ h=>Aj (λ h'=>⟨by change (n:Int)=10 at h';simp [h'],rfl⟩) (λ h'=>⟨by change ¬ (n:Int)=9 at h;change ¬ (n:Int)=10 at h';congr 2;rw [Bool.eq_iff_iff];simp [h,h'];rfl,rfl⟩)),?_⟩;rintro t w9 ⟨ht,rfl⟩;obtain rfl:t=decide ((n:Int)=9\/(n:Int)=10\/(n:Int)=11):=by simpa using ht
   have own:(if n<=2 then 0 else FO n)=FO n:=if_neg jC;have fin:¬ (((n:Int)=9\/(n:Int)=10\/(n:Int)=11)/\F6 (l.getD 0 0) (l.getD 1 0)=false)->Value.tuple #[.int .i64 (if n<=2 then 0 else FO n),.int .i64 0]=TQ ((Ex.mk n nm v ks).kind cs):=λ h=>by
    rw [bF];unfold OW;rw [if_neg lV,if_neg h1,if_neg h2,if_neg h,own];rfl
   refine Aa (λ h9=>⟨_,S8.cell 0 rfl rfl,_,S8.cell 0 rfl rfl,(Kr w9 _ _).mono ?_⟩) (λ h9=>⟨_,S8.cell 1 rfl rfl,fin (λ hh=>h9 hh.1),S8.Ag⟩);rintro _ iy ⟨_,rfl,rfl,rfl⟩;refine⟨_,rfl,Ap (Ao (λ fX=>⟨_,S8.cell 1 rfl rfl,fin (λ hh=>by rw [fX] at hh;cases hh.2),S8.Ag⟩) (λ fX=>⟨?_,S8.Ag⟩))⟩;rw [bF];unfold OW;rw [if_neg lV,if_neg h1,if_neg h2,if_pos ⟨h9,fX⟩];rfl
end
end Go.Proofs.YtegnhfeclchlmaaGreatDoor
namespace Go.Proofs.YtegnhfeclchlmaaGreatDoor
set_option maxRecDepth 100000
open Go.Dn Go.Proofs
open Go.RowKit (Below)
set_option linter.unusedVariables false
theorem ints_at{w:World}{a:Option Addr}{l:List Int}(h:Rd w a (l.map MB)){i:Nat}(hi:i<l.length):∃ p,a=some p/\w.cell? (p.add i)=some (.int .i64 (l.getD i 0)):=by
 obtain⟨p,hp,hc⟩:=h i (MB l[i]) (by simp [hi]);exact⟨p,hp,by rw [hc,List.getD_eq_getElem?_getD,List.getElem?_eq_getElem hi];rfl⟩
section
variable {w:World}{a1:Option Addr}{c1:Nat}{cs:List AA}
theorem Q1{x:Ex}(h:x.formed=true):x.T0 40=true:=by
 simp only [Ex.formed,Bool.and_eq_true] at h;exact h.1
theorem Vd(E:Env w)(hl:Rd w a1 (AO cs))(hn:cs.length<=9223372036854775807)(hq:∀ c∈cs,c.1.size<=9223372036854775807){x:Ex}{a:Option Addr}{cap:Nat}(hx:XC w x (An x a cap)) :
  Calls Tryz.prog f.AbW #[.slice a1 cs.length c1,.agg ⟨An x a cap⟩] w (AD λ r w'=>r=TQ (Fa cs x)/\Below w.heap.size w w'):=by
 apply R.Px
 delta R.A R.Ab R.Pj R.Cb R.E R.F R.H R.I R.Li R.Ls R.Lt R.N R.S R.T;try dsimp only [R.Ps]
 refine (ST.start w).Ak λ b8 w1 _ _ S1=>(CC (hl.grown S1.Ag) hn hq).mono ?_;rintro _ w2 ⟨_,rfl,rfl,B2⟩;have S2:=S1.grown B2;refine⟨_,rfl,Ap (Ao (λ hr=>⟨_,S2.cell 0 rfl rfl,_,S2.cell 0 rfl rfl,_,S2.cell 0 rfl rfl,_,S2.cell 0 rfl rfl,_,S2.cell 0 rfl rfl,_,_,_,S2.cell 0 rfl rfl,(Ea (E.grown S2.Ag) (hx.grown S2.Ag)).mono ?_⟩) (λ hr=>⟨by unfold Fa;rw [if_neg (by rw [hr];decide)];rfl,S2.Ag⟩))⟩;rintro _ w3 ⟨_,rfl,rfl,B3⟩;have S3:=S2.grown B3;refine⟨_,rfl,Ap (Ao (λ hf=>⟨_,S3.cell 0 rfl rfl,_,S3.cell 0 rfl rfl,_,S3.cell 0 rfl rfl,_,S3.cell 0 rfl rfl,_,S3.cell 0 rfl rfl,_,_,_,S3.cell 0 rfl rfl,(Vf hn x 40 w3 a cap (Q1 hf) (E.grown S3.Ag) (hl.grown S3.Ag) (hx.grown S3.Ag)).mono ?_⟩) (λ hf=>⟨by unfold Fa;rw [if_pos hr,if_neg (by rw [hf];decide)];rfl,S3.Ag⟩))⟩;rintro _ w4 ⟨_,rfl,rfl,B4⟩;have:Fa cs x=x.kind cs:=by unfold Fa;rw [if_pos hr,if_pos hf]
 rw [this];cases x.kind cs with
 | error e=>exact⟨_,_,rfl,rfl,(S3.grown B4).Ag⟩
 | ok k=>exact⟨_,_,rfl,rfl,(S3.grown B4).Ag⟩
end
end Go.Proofs.YtegnhfeclchlmaaGreatDoor
