/- Texts of this claim, laid one behind the other by a program of mine. -/
import Derived.Test.YtpnaifmmggnimaaGreatDoorM10
import Derived.Test.YtpnaifmmggnimaaGreatDoorM4
import Derived.Test.YtpnaifmmggnimaaGreatDoorM9
namespace Go.Proofs.YtpnaifmmggnimaaGreatDoor
open R
open _root_.Go.Proofs.Tryz renaming prog -> Aix
open _root_.Int renaming fdiv -> AiJ, toNat_natCast -> Ait
open _root_.List.Sublist renaming refl -> Akd
open _root_.List renaming drop_zero -> AjV, flatMap_append -> Aj8, flatMap_cons -> AjA, getElem?_drop -> Aih, getElem?_eq_getElem -> Ajk, getElem?_map -> Aj4, getElem_mem -> Ai7, length -> AjO, length_append -> Aiq, length_cons -> Ais, length_drop -> AiT, length_map -> AiH, length_nil -> AjE, length_take -> Ajm, mem_append -> Ajn, mem_map -> Ah9, mem_of_mem_take -> Ajs, mem_singleton -> Ajo, nil_append -> Ajt, nil_sublist -> Akh, range -> Ai0, take_append_drop -> Akg, take_length -> Ajp, take_of_length_le -> AiZ, take_succ_eq_append_getElem -> Ajl
open _root_.Nat renaming le_trans -> AiI, mul_one -> Aiw, sub_zero -> AjT, zero_add -> Aiv, zero_le -> Ajz
open _root_.Option.some renaming inj -> Ajx
set_option maxRecDepth 100000
open Go.Dn Go.Proofs
open Go.RowKit (Below)
set_option linter.unusedVariables false
def Aab(ns:List ByteArray)(s:ByteArray):List UInt8:=3 :: (Af ns.length++(ns++[s]).flatMap Bm)
def Qm(ns:List ByteArray)(s:ByteArray):Prop:=ns.length<2\/256<ns.length\/262144<s.size\/∃ x∈ns,x.size≠64
instance (ns:List ByteArray) (s:ByteArray):Decidable (Qm ns s):=by unfold Qm;infer_instance
def RP(ns:List ByteArray)(s:ByteArray):Int:=if Qm ns s then 2 else if 262144<(Aab ns s).length then 130 else 0
def UU(ns:List ByteArray)(s:ByteArray):Value:=if RP ns s=0 then .tuple #[.string (Bu (Aab ns s)),.int .i64 0] else .tuple #[.string (Bu []),.int .i64 (RP ns s)]
theorem Zh{s:ByteArray}(h:s.size<=262144):(Bm s).length<=262154:=by
 have:=Ah (n:=s.size) Omg;simp only [Bm,Aiq,AW];omega
theorem V9{ns:List ByteArray}(h:∀ s∈ns,s.size<=262144):(ns.flatMap Bm).length<=ns.length*262154:=by
 induction ns with
 | nil=>simp
 | cons s ns ih =>
  have h1:=Zh (h s Osi);have h2:=ih λ x hx=>h x (by simp [hx]);rw [AjA,Aiq,Ais];omega
theorem Po{w:World}{a:Option Addr}{ns:List ByteArray}(h:Rd w a (ns.map Value.string)){i:Nat}(hi:i<ns.length):∃ p,a=some p/\w.cell? (p.add (i*1))=some (.string ns[i]):=by
 obtain⟨p,hp,h0⟩:=h i _ (by rw [Aj4,Ajk hi];rfl);exact⟨p,hp,by rw [Aiw];exact h0⟩
theorem Up:Me Aix 50=some (9,1,16,.string ⟨#[]⟩):=by kernel_rfl
section
variable {w0 w:World}{H:List It}{a:Option Addr}{c:Nat}{ns:List ByteArray}
theorem Xy(s:ByteArray)(w:World):Cw 53 #[.string s] w λ v w'=>v=.bool (decide (s.size≠64))/\w'=w:=by
 apply I3
 delta G;try dsimp only [Ps]
 refine⟨?_,rfl⟩;congr 1;by_cases h:s.size=64
 ·simp [h]
 ·have:¬ (s.size:Int)=64:=Omg;simp [h,this]
theorem Xv(h:Rd w a (ns.map Value.string))(hn:ns.length<=9223372036854775807):Cw 102 #[.slice a ns.length c,.func (.func 53) #[] #[]] w λ v w'=>∃ z:Int,v=.int .i64 z/\w'=w/\(0<=z↔∃ x∈ns,x.size≠64):=by
 apply CO
 delta Ad F G I Lt Qi T W X;try dsimp only [Ps]
 refine⟨λ s wx=>∃ i:Nat,s=[.int .i64 (i:Int)]/\i<=ns.length/\(∀ x∈ns.take i,x.size=64)/\wx=w,λ s _=>match s with
  | [.int _ i]=>ns.length-i.toNat
  | _=>0,⟨0,rfl,Omg,Osi,rfl⟩,?_⟩
 rintro _ w1 ⟨i,hs,hi,aF,rfl⟩;cases hs;refine Aa (λ aB=>?_) (λ aJ=>⟨_,rfl,rfl,?_⟩)
 ·have aD:i<ns.length:=Omg;obtain⟨p,rfl,hc⟩:=Po h aD;refine⟨⟨Omg,Omg⟩,_,by rw [Ait];exact hc,?_⟩;rw [show enters Aix 53=true by kernel_rfl];refine (Xy ns[i] w1).mono ?_;rintro _ w2 ⟨_,rfl,rfl,rfl⟩;refine⟨_,rfl,Aa (λ h2=>⟨_,rfl,rfl,⟨λ _=>⟨_,Ai7 aD,h2⟩,λ _=>Omg⟩⟩) (λ h2=>?_)⟩;rw [Ae Omg];refine⟨⟨i+1,rfl,Omg,λ x hx=>?_,rfl⟩,by simp only [Ait];omega⟩;rw [Ajl aD] at hx;rcases Ajn.1 hx with h | h
  ·exact aF x h
  ·rw [Ajo.1 h];exact Decidable.not_not.1 h2
 ·rw [AiZ Omg] at aF;constructor
  ·intro h;omega
  ·rintro⟨x,hx,h2⟩;exact absurd (aF x hx) h2
theorem AbC(h:Rd w a (ns.map Value.string))(hl:ns.length<=100000):Cw 55 #[.slice a ns.length c] w λ v w'=>∃ a' c',v=.slice a' ns.length c'/\ST w w' [It.row 9 1 a' ns.length c' (ns.map Value.string)]:=by
 apply Fz
 delta F J Ks N O S;try dsimp only [Ps]
 cases a with
 | none =>
  have h':Rd w none (ns.flatMap λ s=>[Value.string s]):=by rw [show ns.flatMap (λ s=>[Value.string s])=ns.map Value.string from AdJ Value.string ns];exact h
  have:=SF (k:=0) (λ _=>rfl) h';subst this;exact CG ⟨none,0,rfl,(ST.start w).nil _ _⟩
 | some q =>
  refine AN ((ST.start w).An λ b2 w1 _ B1 S=>?_);have S:=S.H7 0 rfl (.refl _ _) (It.row 9 1 (some ⟨b2,0,none⟩) 0 0 []) (QQ (S.CA 0 rfl)) (λ k hk=>.inl hk);refine S.app 0 rfl Up rfl Omg Omg (h.grown B1) (mm:=ns.length) Osi (λ u hu=>by obtain⟨s,_,rfl⟩:=Ah9.1 hu;rfl) Omg λ a' c' w' S=>⟨_,_,_,rfl,a',c',by rw [Aiv],?_⟩;simp only [Aiv,Ajt] at S;exact S
theorem HX(s:ByteArray)(h:Qm ns s):Value.tuple #[.string ⟨#[]⟩,.int .i64 2]=UU ns s:=by
 have e:RP ns s=2:=if_pos h;rw [UU,e,if_neg Ode];rfl
set_option maxHeartbeats 1000000 in
theorem AgO(h:Rd w a (ns.map Value.string))(hn:ns.length<=9223372036854775807)(s:ByteArray):Cw 21 #[.slice a ns.length c,.string s] w λ v w'=>v=UU ns s/\Below w.heap.size w w':=by
 apply LW
 delta Ad B AM H3 Cb Cs F H I J Ks Lt N Eg S T U W Wu X;try dsimp only [Ps]
 refine Aa (λ h=>⟨HX s (.inl Omg),.refl _ _⟩) (λ h1=>Aa (λ h=>⟨HX s (.inr (.inl Omg)),.refl _ _⟩) (λ h2=>Aa (λ h=>⟨HX s (.inr (.inr (.inl Omg))),.refl _ _⟩) (λ h3=>?_)));have hC:Cw 54 #[.slice a ns.length c,.func (.func 53) #[] #[]] w λ v w'=>∃ z:Bool,v=.bool z/\w'=w/\(z=true↔∃ x∈ns,x.size≠64):=by
  apply CE
  delta Ci G S;try dsimp only [Ps]
  refine (Xv h hn).mono ?_;rintro _ w1 ⟨_,rfl,z,rfl,rfl,hz⟩;exact⟨_,rfl,_,rfl,rfl,by rw [decide_eq_true_eq];exact hz⟩
 refine hC.mono ?_;rintro _ w1 ⟨_,rfl,z,rfl,rfl,hz⟩;refine⟨_,rfl,Aq (λ hb=>⟨HX s (.inr (.inr (.inr (hz.1 hb)))),.refl _ _⟩) (λ hb=>?_)⟩;have im:∀ x∈ns,x.size=64:=λ x hx=>Decidable.byContradiction λ aQ=>by
  rw [hz.2 ⟨x,hx,aQ⟩] at hb;cases hb
 have aP:¬ Qm ns s:=by
  rintro (h | h | h | ⟨x,hx,h⟩)
  ·omega
  ·omega
  ·omega
  ·exact h (im x hx)
 refine (ST.start w1).An λ b5 w2 _ _ S=>?_;have dz:Rd w2 (some ⟨b5,0,none⟩) (([3]:List UInt8).map Ag):=S.F0 0 rfl;have d1:=Ah (n:=ns.length) Omg;rw [Aj Omg Omg];refine (AE (c:=1) [3] dz ns.length Omg Osi).mono ?_;rintro _ w3 ⟨_,rfl,a3,c3,rfl,g3⟩;have S:=Ba S g3;refine⟨_,_,_,rfl,(AbC (h.grown S.Ar) Omg).mono ?_⟩;rintro _ w4 ⟨_,rfl,a4,c4,rfl,P⟩;have S:=S.join P;refine⟨_,_,_,rfl,S.An λ dN w5 _ _ S=>?_⟩;refine S.app 1 rfl Up rfl Omg Omg (S.F0 0 rfl) (mm:=1) rfl (by simp;rfl) Omg λ a6 c6 w6 S=>⟨_,_,_,rfl,?_⟩;obtain⟨ms,iu⟩:∃ ms,ms=ns++[s]:=⟨_,rfl⟩;have m7:ms.length=ns.length+1:=by rw [iu];simp
 have S:ST w1 w6 [BW a3 c3 ([3]++Af ns.length),It.rd a6 (ms.map Value.string)]:=by
  have S:=(S.drop 1).AhW 0 rfl;have S:=S.sub (H':=[It.rd a6 (ns.map Value.string++[Value.string s]),BW a3 c3 ([3]++Af ns.length)]) (.cons_cons _ (.cons_cons _ (Akh _)));have e:ns.map Value.string++[Value.string s]=ms.map Value.string:=by rw [iu];simp
  rw [e] at S;exact S.pull 1 rfl
 have ao:∀ x∈ms,x.size<=262144:=λ x hx=>by
  rw [iu] at hx;rcases Ajn.1 hx with h | h
  ·have:=im x h;omega
  ·rw [Ajo.1 h];omega
 have gT:∀ i,((ms.take i).flatMap Bm).length<=67500000:=λ i=>by
  have h1:=V9 (ns:=ms.take i) λ x hx=>ao x (Ajs hx);have h2:(ms.take i).length<=257:=by rw [Ajm];omega
  have:(ms.take i).length*262154<=257*262154:=Nat.mul_le_mul_right _ h2;omega
 rw [<- m7];refine⟨λ s wx=>∃(i:Nat) (out:List UInt8) (oa:Option Addr) (oc:Nat),s=[.slice oa out.length oc,.int .i64 (i:Int)]/\i<=ms.length/\out=[3]++Af ns.length++(ms.take i).flatMap Bm/\ST w1 wx [BW oa oc out,It.rd a6 (ms.map Value.string)],λ s _=>match s with
  | [_,.int _ i]=>ms.length-i.toNat
  | _=>0,⟨0,_,a3,c3,rfl,Omg,Osi,S⟩,?_⟩
 clear S;rintro oa _ oc _ w7 ⟨i,out,_,_,aA,hi,bE,S⟩;cases aA;have cC:out.length<=68000000:=by
  have:=gT i;rw [bE];simp only [Aiq,Ais,AjE];omega
 refine Aa (λ aB=>?_) (λ aJ=>?_)
 ·have aD:i<ms.length:=Omg;obtain⟨p,rfl,hc⟩:=Po (S.get 1 rfl) aD;have h5:=ao ms[i] (Ai7 aD);refine⟨⟨Omg,Omg⟩,_,by rw [Ait];exact hc,?_⟩;refine (FC out (Dd S 0 rfl) ms[i] Omg Omg).mono ?_;rintro _ w9 ⟨_,rfl,a9,c9,rfl,g9⟩;have S:=Ba S g9;rw [Ae Omg];refine⟨_,_,_,_,rfl,⟨i+1,out++Bm ms[i],a9,c9,rfl,Omg,?_,S.sub (.cons_cons _ (.cons _ (Akd _)))⟩,by simp only [Ait];omega⟩;rw [bE,Ajl aD,Aj8];simp
 ·obtain rfl:i=ms.length:=Omg;rw [Ajp] at bE;have e:out=Aab ns s:=by rw [bE,iu,Aab];simp
  subst e;refine (Tb (Dd S 0 rfl)).mono ?_;rintro _ w8 ⟨_,rfl,rfl,rfl⟩;by_cases hb:262144<(Aab ns s).length
  ·rw [if_pos hb];refine⟨_,_,rfl,?_,S.Ar⟩;have e2:RP ns s=130:=by rw [RP,if_neg aP,if_pos hb]
   rw [UU,e2,if_neg Ode]
  ·rw [if_neg hb];refine⟨_,_,rfl,?_,S.Ar⟩;have e2:RP ns s=0:=by rw [RP,if_neg aP,if_neg hb]
   rw [UU,e2,if_pos rfl]
set_option maxHeartbeats 1000000 in
theorem T8(h:Rd w a (ns.map Value.string))(hn:ns.length<=9223372036854775807)(s:ByteArray):Cw 22 #[.slice a ns.length c,.string s] w λ v w'=>v=UU ns s/\Below w.heap.size w w':=by
 apply O8
 delta Ad B AM Cs F H I J Lt N Eg Rt S T U W Wu X;try dsimp only [Ps]
 refine Aa (λ h=>⟨HX s (.inl Omg),.refl _ _⟩) (λ h1=>Aa (λ h=>⟨HX s (.inr (.inl Omg)),.refl _ _⟩) (λ h2=>Aa (λ h=>⟨HX s (.inr (.inr (.inl Omg))),.refl _ _⟩) (λ h3=>?_)));refine (ST.start w).An λ b5 w2 _ _ S=>?_;have dz:Rd w2 (some ⟨b5,0,none⟩) (([3]:List UInt8).map Ag):=S.F0 0 rfl;have d1:=Ah (n:=ns.length) Omg;rw [Aj Omg Omg];refine (Bf (c:=1) [3] dz ns.length Omg Osi).mono ?_;rintro _ w3 ⟨_,rfl,a3,c3,rfl,g3⟩;have S:=(Ba S g3).keep 1;refine⟨_,_,_,rfl,λ s wx=>∃(i:Nat) (out:List UInt8) (oa:Option Addr) (oc:Nat),s=[.slice oa out.length oc,.int .i64 (i:Int)]/\i<=ns.length/\out=[3]++Af ns.length++(ns.take i).flatMap Bm/\(∀ x∈ns.take i,x.size=64)/\ST w wx [BW oa oc out],λ s _=>match s with
  | [_,.int _ i]=>ns.length-i.toNat
  | _=>0,⟨0,_,a3,c3,rfl,Omg,Osi,Osi,S⟩,?_⟩
 clear S;rintro oa _ oc _ w7 ⟨i,out,_,_,aA,hi,bE,aF,S⟩;cases aA;have cC:out.length<=68000000:=by
  have h1:=V9 (ns:=ns.take i) λ x hx=>by have:=aF x hx;omega
  have h2:(ns.take i).length<=257:=by rw [Ajm];omega
  have:(ns.take i).length*262154<=257*262154:=Nat.mul_le_mul_right _ h2;rw [bE];simp only [Aiq,Ais,AjE];omega
 refine Aa (λ aB=>?_) (λ aJ=>?_)
 ·have aD:i<ns.length:=Omg;obtain⟨p,rfl,hc⟩:=Po (h.grown S.Ar) aD;refine⟨⟨Omg,Omg⟩,_,by rw [Ait];exact hc,?_⟩;refine Ai (λ h5=>⟨HX s (.inr (.inr (.inr ⟨_,Ai7 aD,Omg⟩))),S.Ar⟩) (λ h5=>?_);refine⟨⟨Omg,Omg⟩,_,by rw [Ait];exact hc,?_⟩;refine (Gg out (Dd S 0 rfl) ns[i] Omg Omg).mono ?_;rintro _ w9 ⟨_,rfl,a9,c9,rfl,g9⟩;have S:=Ba S g9;rw [Ae Omg];refine⟨_,_,_,_,rfl,⟨i+1,out++Bm ns[i],a9,c9,rfl,Omg,?_,λ x hx=>?_,S.keep 1⟩,by simp only [Ait];omega⟩
  ·rw [bE,Ajl aD,Aj8];simp
  ·rw [Ajl aD] at hx;rcases Ajn.1 hx with h | h
   ·exact aF x h
   ·rw [Ajo.1 h];omega
 ·obtain rfl:i=ns.length:=Omg;rw [Ajp] at bE aF;have aP:¬ Qm ns s:=by
   rintro (h | h | h | ⟨x,hx,h⟩)
   ·omega
   ·omega
   ·omega
   ·exact h (aF x hx)
  refine (Gg out (Dd S 0 rfl) s Omg Omg).mono ?_;rintro _ w5 ⟨_,rfl,a5,c5,rfl,g5⟩;have e:out++Bm s=Aab ns s:=by rw [bE,Aab];simp
  rw [e] at g5 ⊢;have B5:=Ac S.Ar g5.Ar;refine⟨_,_,_,_,rfl,Aa (λ hb=>⟨?_,B5⟩) (λ hb=>Aw Ca rfl g5.rd ⟨_,rfl,?_,B5⟩)⟩
  ·have e2:RP ns s=130:=by rw [RP,if_neg aP,if_pos Omg]
   rw [UU,e2,if_neg Ode];rfl
  ·have e2:RP ns s=0:=by rw [RP,if_neg aP,if_neg Omg]
   rw [UU,e2,if_pos rfl]
end
theorem Xc{w:World}{bm n:Nat}{k:List Fg}(h:Gr Aix 2 w bm n (Su k))(hn:n<=1000000){K:Option Addr->Nat->Nat->World->Prop}
  (hk:∀(a:Option Addr) (c:Nat) (ids:List Nat) (w':World),ids.Pairwise (·<·)->(∀ i,i∈ids↔(mapOf k i).isSome=true)->Row w' 2 1 a ids.length c (ids.map λ i:Nat=>Value.int .i64 (i:Int))->(∀ b,AF a=some b->w.heap.size<=b)->Below w.heap.size w w'->K a ids.length c w') :
  Calls Aix 60 #[.map (some bm)] w (λ e w1=>∃(fn:FuncId) (fi ca:Array Value),e=.returned (.func (.func fn) fi ca) /\
   Calls Aix 59 #[.func (.func fn) fi ca] w1 (λ e w2=>∃(a:Option Addr) (l c:Nat),e=.returned (.slice a l c)/\K a l c w2)):=by
 obtain⟨D,hD,ao,hl,dm,aV⟩:=h.keys Jz;refine (callsIn_wide.1 (Tryz.WY (some bm) w)).mono ?_;rintro _ w1 ⟨rfl,rfl⟩;refine⟨_,_,_,rfl,(callsIn_wide.1 (Tryz.Ip bm n D AcU w hD (AiI (AiI ao hn) Ode) Omg)).mono ?_⟩;rintro _ w2 ⟨v,ss,rfl,fp,aI,_,hb⟩;obtain⟨a,c,rfl,hR,ax⟩:=Rn aI;obtain⟨h1,h2⟩:=AcN (ss:=ss) (fp.nodup_iff.2 dm);obtain⟨ids,e,h3,h4⟩:=AdX (k:=k) h1 (λ x=>(h2 x).trans ((fp.mem_iff).trans (aV x)));have hlen:ids.length=ss.length:=by
  have:=congrArg AjO e;rw [List.length_mergeSort,AiH] at this;exact this.symm
 have sz:w.heap.size<=(w.alloc (.cells #[.map (some bm)] 71)).heap.size:=Osi;refine⟨_,_,_,rfl,?_⟩;have hR':Row w2 2 1 a ids.length c (ids.map λ i:Nat=>Value.int .i64 (i:Int)):=by
  have hR:=hR;rw [show (ss.mergeSort λ x y=>decide (x<=y))=ids.map (λ i:Nat=>(i:Int)) from e,List.map_map] at hR;rw [hlen];exact hR
 have:=hk a c ids w2 h3 h4 hR' (λ k hk=>AiI sz (ax k hk)) (((Below.refl _ w).alloc (Nat.le_refl _) _).trans (hb.mono sz));rwa [hlen] at this
theorem AdE{p:FG}(h:SS p):(RH p).length<=100:=by
 obtain⟨h1,h2,h3⟩:=h;have d1:=Ah (n:=p.1.size) Omg;have d2:=Ah (n:=p.2) Omg;simp only [RH,Bm,Aiq,AW];omega
theorem Vu{ps:List FG}(h:∀ p∈ps,SS p):(ps.flatMap RH).length<=ps.length*100:=by
 induction ps with
 | nil=>simp
 | cons p ps ih =>
  have h1:=AdE (h p Osi);have h2:=ih λ x hx=>h x (by simp [hx]);rw [AjA,Aiq,Ais];omega
theorem AdD{c:Fg}(h:GF c):(Km c).length<=40:=by
 obtain⟨h1,h2,h3,h4⟩:=h;unfold A3 at h1 h2 h4;have d1:=Ah (n:=c.1) Omg;have d2:=Ah (n:=c.2.1) Omg;have d3:=Ah (n:=c.2.2.1) Omg;have d4:=Ah (n:=c.2.2.2) Omg;simp only [Km,Aiq];omega
theorem Vt{ks:List Fg}(h:∀ c∈ks,GF c):(ks.flatMap Km).length<=ks.length*40:=by
 induction ks with
 | nil=>simp
 | cons p ps ih =>
  have h1:=AdD (h p Osi);have h2:=ih λ x hx=>h x (by simp [hx]);rw [AjA,Aiq,Ais];omega
theorem Yf{cs:List Bv}(h:cs=[]\/Ao cs=true):(IE cs).length<=700:=by
 rcases h with rfl | h
 ·have:=Ah (n:=0) Omg;simp only [IE,if_pos];omega
 ·have h1:=Fy h;have h2:=Ah (n:=1) Omg;rw [IE,if_neg (IL h),Aiq];omega
section
variable {w0 w:World}{H:List It}{bc bm n N cc pc:Nat}{ca pa:Option Addr}{C:Bq}
theorem WN{k:List Fg}{ids:List Nat}(h:ids.Pairwise (·<·))(hm:∀ i,i∈ids↔(mapOf k i).isSome=true):Iy k=ids.length:=by
 have dm:ids.Nodup:=h.imp λ {a b} fM e=>Omg;exact ((List.perm_ext_iff_of_nodup (DJ k) dm).2 λ i=>((EA k i).trans DO.symm).trans (hm i).symm).length_eq
set_option maxHeartbeats 2000000 in
theorem HS(S:ST w0 w (Bh bc ca cc pa pc bm n C++H))(hC:Iv C)(bJ:ca=none↔C.Ay=[])(hn:n<=1000000)(qU:Iy C.k<=100000) :
  Cw 25 #[.pointer (some ⟨bc,0,none⟩)] w λ v w'=>∃ ids,ids.Pairwise (·<·)/\(∀ i,i∈ids↔(mapOf C.k i).isSome=true)/\v=.string (Bu (FA C.Ay C.parts (Cz (mapOf C.k) ids)))/\Below w.heap.size w w':=by
 apply FU
 delta A Ab Ad AM Cf Cs D F I Li Lm Ls Lt M N O Eg Adh Ri Rt S Am T U W Wu X Zs;try dsimp only [Ps]
 have iw:=hC.np;refine AN ?_;have d0:=Ah (n:=0) Omg;have d1:=Ah (n:=1) Omg;refine (AE (a:=none) (c:=0) [] (Rd.nil _ _) 0 Omg Osi).mono ?_;rintro _ w1 ⟨_,rfl,a1,c1,rfl,h1⟩;rw [Ajt] at h1 ⊢;have qH:=S;have yc:∀ {wx:World},Below w.heap.size w wx->ST w wx []:=λ B=>(ST.start w).grown B;have S:=S.grown h1.Ar;have P:=Ba (ST.start w) h1;refine⟨_,_,_,rfl,λ s wx=>∃ a c,s=[.slice a (IE C.Ay).length c]/\ST w wx [BW a c (IE C.Ay)],⟨_,_,_,S.cell 0 rfl rfl,As (Aq (λ hb=>?_) (λ hb=>?_))⟩,?_⟩
 ·have cY:C.Ay=[]:=bJ.1 (by simpa using hb);refine⟨a1,c1,?_,?_⟩
  ·rw [IE,if_pos cY]
  ·rw [IE,if_pos cY];exact P
 ·have aQ:C.Ay≠[]:=λ e=>by rw [bJ.2 e] at hb;cases hb
  have hR:Ao C.Ay=true:=by
   rcases hC.Ay with h | h
   ·exact absurd h aQ
   ·exact h
  have bQ:=AX hR;have hq:∀ c∈C.Ay,c.1.size<=9223372036854775807:=λ c hc=>by have:=(CX hR hc).2.2.2;omega
  refine S.draw λ w2 B2 S=>⟨_,_,_,S.cell 0 rfl rfl,(AE (a:=none) (c:=0) [] (Rd.nil _ _) 1 Omg Osi).mono ?_⟩;rintro _ w3 ⟨_,rfl,a3,c3,rfl,h3⟩;rw [Ajt] at h3 ⊢;have S:=S.grown h3.Ar;have P:=Ba (P.grown B2) h3;refine⟨_,_,_,rfl,S.cell 0 rfl rfl,(Ga (l:=Af 1) (c:=c3) h3.rd Omg (S.rd 1 rfl) Omg hq).mono ?_⟩;rintro _ w4 ⟨_,rfl,h4⟩;rcases h4 with ⟨h,_⟩ | ⟨_,a4,c4,rfl,h4⟩
  ·rw [hR] at h;cases h
  refine⟨_,_,_,_,rfl,a4,c4,?_,?_⟩
  ·rw [IE,if_neg aQ]
  ·rw [IE,if_neg aQ];exact (Ba P h4).sub (.cons_cons _ (Akh _))
 rintro a5 _ c5 w5 ⟨_,_,hs,P⟩;cases hs;have ly:=Yf hC.Ay;have S:=qH.grown P.Ar;have dp:=Ah (n:=C.parts.length) Omg;refine⟨_,_,_,S.cell 0 rfl rfl,?_⟩;rw [Aj Omg Omg];refine (AE (IE C.Ay) (Dd P 0 rfl) C.parts.length Omg Omg).mono ?_;rintro _ w6 ⟨_,rfl,a6,c6,rfl,h6⟩;have P:=(Ba P h6).keep 1;have S:=qH.grown P.Ar;refine⟨_,_,_,rfl,_,_,_,S.cell 0 rfl rfl,?_⟩;refine⟨λ s wx=>∃(i:Nat) (out:List UInt8) (oa:Option Addr) (oc:Nat),s=[.slice oa out.length oc,.int .i64 (i:Int)]/\i<=C.parts.length/\out=IE C.Ay++Af C.parts.length++(C.parts.take i).flatMap RH/\ST w wx [BW oa oc out],λ s _=>match s with
  | [_,.int _ i]=>C.parts.length-i.toNat
  | _=>0,⟨0,_,a6,c6,rfl,Omg,Osi,P⟩,?_⟩
 clear S P h6;rintro oa _ oc _ w7 ⟨i,out,_,_,aA,hi,bE,P⟩;cases aA;have cC:out.length<=30000:=by
  have:=Vu (ps:=C.parts.take i) λ p hp=>hC.parts p (Ajs hp);rw [Ajm] at this;rw [bE];simp only [Aiq];omega
 have S:=qH.grown P.Ar;refine Aa (λ aB=>?_) (λ aJ=>?_)
 ·have aD:i<C.parts.length:=Omg;have yy:=hC.parts _ (Ai7 aD);obtain⟨p,hp,e0,e1⟩:=KX (S.rd 2 rfl) aD;rw [hp];refine⟨⟨Omg,Omg⟩,_,by rw [Ait];exact e0,_,by rw [Ait];exact e1,P.An λ pW w8 _ _ P=>P.BD 0 rfl (aC:=#[.string C.parts[i].1,.int .i64 0]) Osi rfl λ w9 P=>P.BD 0 rfl (aC:=#[.string C.parts[i].1,.int .i64 (C.parts[i].2:Int)]) Osi rfl λ bX P=>⟨_,P.cell 0 rfl rfl,?_⟩⟩;have hp64:=yy.1;have oC:=yy.2;refine (FC out (Dd P 1 rfl) C.parts[i].1 Omg Omg).mono ?_;rintro _ aZ ⟨_,rfl,pU,pg,rfl,mj⟩;have dt:=Zh (s:=C.parts[i].1) Omg;have P:=Ba P mj;refine⟨_,_,_,_,rfl,_,P.cell 1 rfl rfl,?_⟩;rw [Aj (n:=((C.parts[i].2:Nat):Int)) Omg Omg];refine (AE _ (Dd P 0 rfl) C.parts[i].2 Omg (by rw [Aiq];omega)).mono ?_;rintro _ bL ⟨_,rfl,a12,lY,rfl,fI⟩;have P:=(Ba P fI).keep 3;rw [Ae Omg];refine⟨_,_,_,rfl,⟨i+1,_,a12,lY,rfl,Omg,?_,P⟩,by simp only [Ait];omega⟩;rw [bE,Ajl aD,Aj8];simp [RH]
 ·obtain rfl:i=C.parts.length:=Omg;rw [Ajp] at bE;have jq:out=Aco C.Ay C.parts:=bE;refine⟨_,S.cell 0 rfl rfl,AdZ (S.get 3 rfl) ⟨_,rfl,?_⟩⟩;rw [Aj Omg Omg];have dc:=Ah (n:=Iy C.k) Omg;refine (AE out (Dd P 0 rfl) (Iy C.k) Omg Omg).mono ?_;rintro _ au ⟨_,rfl,pV,tz,rfl,gh⟩;have P:=(Ba P gh).keep 1;have S:=qH.grown P.Ar;refine⟨_,_,_,rfl,_,S.cell 0 rfl rfl,Xc (S.get 3 rfl) hn λ ka kc ids cd cp aV aI ax tC=>?_⟩;have qg:=WN cp aV;have aK:∀ c∈Cz (mapOf C.k) ids,GF c:=λ c hc=>hC.CC c (PZ aV hc);have aO:(Cz (mapOf C.k) ids).length=ids.length:=by simp [Cz]
  have P:=P.add tC (It.row 2 1 ka ids.length kc (ids.map λ i:Nat=>Value.int .i64 (i:Int))) aI ax;refine⟨λ s wx=>∃(i:Nat) (fw:List UInt8) (oa:Option Addr) (oc:Nat),s=[.slice oa fw.length oc,.int .i64 (i:Int)]/\i<=ids.length/\fw=out++Af ids.length++((Cz (mapOf C.k) ids).take i).flatMap Km/\ST w wx [It.row 2 1 ka ids.length kc (ids.map λ i:Nat=>Value.int .i64 (i:Int)),BW oa oc fw],λ s _=>match s with
   | [_,.int _ i]=>ids.length-i.toNat
   | _=>0,⟨0,_,pV,tz,rfl,Omg,by simp [qg],P⟩,?_⟩
  clear S P gh;rintro oa _ oc _ cF ⟨i,fw,_,_,aA,hi,iC,P⟩;cases aA;have hol2:fw.length<=30010+4000000:=by
   have h1:=Vt (ks:=(Cz (mapOf C.k) ids).take i) λ c hc=>aK c (Ajs hc);rw [Ajm] at h1;rw [iC];simp only [Aiq];rw [qg] at dc;omega
  have S:=qH.grown P.Ar;refine Aa (λ aB=>?_) (λ aJ=>?_)
  ·have aD:i<ids.length:=Omg;have qh:i<(Cz (mapOf C.k) ids).length:=Omg;obtain⟨p,rfl,e0⟩:=TS (P.rd 0 rfl) aD;have p8:=aK _ (Ai7 qh);obtain⟨x,hx⟩:=Option.isSome_iff_exists.1 ((aV ids[i]).1 (Ai7 aD));obtain⟨x1,x2,x3⟩:=x;have yH:(Cz (mapOf C.k) ids)[i]=(ids[i],x1,x2,x3):=by simp [Cz,hx]
   rw [yH] at p8;obtain⟨g1,⟨_,g2⟩,g3,g4⟩:=p8;simp only [A3] at g1 g2 g3 g4;refine⟨⟨Omg,Omg⟩,_,by rw [Ait];exact e0,_,S.cell 0 rfl rfl,?_⟩;refine S.Ahg 3 rfl Jz IV (Uy _) Omg ?_;rw [Aa0,hx];refine⟨_,_,_,rfl,P.An λ ru eT _ _ P=>P.BD 0 rfl (aC:=#[.int .i64 (x1:Int),.int .i64 0,.int .i64 0]) Osi rfl λ gG P=>P.BD 0 rfl (aC:=#[.int .i64 (x1:Int),.int .i64 (x2:Int),.int .i64 0]) Osi rfl λ gd P=>P.BD 0 rfl (aC:=#[.int .i64 (x1:Int),.int .i64 (x2:Int),.int .i64 (x3:Int)]) Osi rfl λ fN P =>
    ⟨_,P.cell 0 rfl rfl,_,P.cell 0 rfl rfl,_,P.cell 0 rfl rfl,P.An λ tt du _ _ P=>?_⟩⟩
   obtain⟨ns,fo⟩:∃ ns:List Nat,ns=[ids[i],x1,x2,x3]:=⟨_,rfl⟩;have br:ns.length=4:=by rw [fo];rfl
   have kT:∀ x∈ns,x<18446744073709551616:=λ x hx=>by
    rw [fo] at hx;simp only [List.mem_cons,List.not_mem_nil,or_false] at hx;rcases hx with rfl | rfl | rfl | rfl <;> omega
   have vX:∀ j,((ns.take j).flatMap Af).length<=40:=λ j=>by
    have key:∀(l:List Nat),(∀ x∈l,x<18446744073709551616)->(l.flatMap Af).length<=l.length*10:=by
     intro l
     induction l with
     | nil=>intro _;simp
     | cons x l ih =>
      intro h;have h1:=Ah (h x Osi);have h2:=ih λ y hy=>h y (by simp [hy]);rw [AjA,Aiq,Ais];omega
    have h1:=key (ns.take j) λ x hx=>kT x (Ajs hx);have h2:(ns.take j).length<=4:=by rw [Ajm];omega
    omega
   have P:ST w du (It.rd (some ⟨tt,0,none⟩) (ns.map λ n:Nat=>Value.int .i64 (n:Int)) :: [It.row 2 1 (some p) ids.length kc (ids.map λ i:Nat=>Value.int .i64 (i:Int)),BW oa oc fw]):=by
    have P:=P.H7 0 rfl (.refl _ _) (It.rd (some ⟨tt,0,none⟩) (ns.map λ n:Nat=>Value.int .i64 (n:Int))) (by rw [fo];exact P.F0 0 rfl) (λ k hk=>by rw [fo] at hk;exact .inl hk);exact P.keep 1
   refine⟨λ s wx=>∃(j:Nat) (ic:List UInt8) (oa:Option Addr) (oc:Nat),s=[.slice oa ic.length oc,.int .i64 (j:Int)]/\j<=4/\ic=fw++(ns.take j).flatMap Af/\ST w wx [It.rd (some ⟨tt,0,none⟩) (ns.map λ n:Nat=>Value.int .i64 (n:Int)),It.row 2 1 (some p) ids.length kc (ids.map λ i:Nat=>Value.int .i64 (i:Int)),BW oa oc ic],λ s _=>match s with
    | [_,.int _ j]=>4-j.toNat
    | _=>0,⟨0,fw,_,_,rfl,Omg,Osi,P⟩,?_⟩
   clear P S;rintro oa _ oc _ eA ⟨j,ic,_,_,aA,hj,jw,P⟩;cases aA;refine Aa (λ qu=>?_) (λ ng=>?_)
   ·have vy:j<ns.length:=Omg;obtain⟨p4,hp4,e4⟩:=TS (P.get 0 rfl) vy;cases hp4;have hb:=kT _ (Ai7 vy);have bp:=vX j;refine⟨⟨Omg,Omg⟩,_,by rw [Ait];exact e4,?_⟩;rw [Aj (n:=((ns[j]:Nat):Int)) Omg Omg];refine (AE ic (Dd P 2 rfl) ns[j] hb (by rw [jw,Aiq];omega)).mono ?_;rintro _ ie ⟨_,rfl,a26,s3,rfl,h26⟩;have P:=Ba P h26;rw [Ae Omg];refine⟨_,_,_,rfl,⟨j+1,_,a26,s3,rfl,Omg,?_,?_⟩,by simp only [Ait];omega⟩
    ·rw [jw,Ajl vy,Aj8];simp
    ·exact ((P.pull 2 rfl).pull 2 rfl).sub (.cons_cons _ (.cons_cons _ (.cons_cons _ (Akh _))))
   ·obtain rfl:j=4:=Omg;rw [Ae Omg];refine⟨⟨i+1,ic,_,_,rfl,Omg,?_,P.drop 1⟩,by simp only [Ait];omega⟩;rw [jw,iC,Ajl qh,Aj8,yH,fo];simp [Km]
  ·obtain rfl:i=ids.length:=Omg;rw [AiZ Omg] at iC;refine Aw Ca rfl (Dd P 1 rfl) ⟨_,rfl,ids,cp,aV,?_,P.Ar⟩;rw [iC,jq,FA,aO]
end
section
variable {w0 w:World}{H:List It}{b:Nat}{a:Option Addr}{c at_:Nat}{bad:Bool}{l:List UInt8}
theorem YV(S:ST w0 w H)(n m:Nat)(hn:H[n]?=some (Et b a l.length c at_ bad))(hm:H[m]?=some (It.rd a (l.map Ag)))(hc:l.length<=c)(hs:l.length<=140737488355328)(most:Nat) :
  Cw 74 #[.pointer (some ⟨b,0,none⟩),.int .i64 (most:Int)] w λ v w'=>∃(s:List UInt8) (at':Nat) (ae:Bool),v=.string (Bu s)/\ST w0 w' (H.set n (Et b a l.length c at' ae))/\J3 bad ae (BG l (at_:Int) most) (s,at'):=by
 apply HK
 delta Gb D F G I Lb Li Ls S Am T;try dsimp only [Ps]
 refine S.draw λ w1 B1 S=>⟨_,_,_,S.cell n hn rfl,_,S.cell n hn rfl,?_⟩;refine (Ef (S.get m hm) hc Omg (at_:Int) most).mono ?_;rintro _ w2 ⟨_,rfl,rfl,rfl⟩;have fail:∀ {X:Prop},(bad=true\/BG l (at_:Int) most=none)->DG (Addr.add ⟨b,0,none⟩ 2) (.bool true) (λ w'=>∃(s:List UInt8) (at':Nat) (ae:Bool),Value.string ⟨#[]⟩=.string (Bu s)/\ST w0 w' (H.set n (Et b a l.length c at' ae))/\J3 bad ae (BG l (at_:Int) most) (s,at')) w2:=λ h =>
  S.BD n hn (i:=2) (aC:=#[.slice a l.length c,.int .i64 (at_:Int),.bool true]) Osi rfl λ w3 S=>⟨[],at_,true,rfl,S,.inr ⟨rfl,h⟩⟩
 cases ho:BG l (at_:Int) most with
 | none =>
  rw [ho] at fail;exact⟨_,_,_,rfl,_,S.cell n hn rfl,Aq (λ hb=>fail (X:=True) (.inl hb)) (λ hb=>Ai (λ h=>fail (X:=True) (.inr rfl)) (λ h=>by cases h))⟩
 | some x =>
  rw [ho] at fail;refine⟨_,_,_,rfl,_,S.cell n hn rfl,Aq (λ hb=>fail (X:=True) (.inl hb)) (λ hb=>?_)⟩;subst hb;exact Ai (λ h=>absurd rfl h) (λ h=>S.BD n hn (i:=1) (aC:=#[.slice a l.length c,.int .i64 (x.2:Int),.bool false]) Osi rfl λ w3 S=>⟨x.1,x.2,false,rfl,S,.inl ⟨rfl,rfl,rfl⟩⟩)
theorem YN(S:ST w0 w H)(n m:Nat)(hn:H[n]?=some (Et b a l.length c at_ bad))(hm:H[m]?=some (It.rd a (l.map Ag)))(hc:l.length<=c)(hs:l.length<=140737488355328) :
  Cw 63 #[.pointer (some ⟨b,0,none⟩)] w λ v w'=>∃(s:ByteArray) (at':Nat) (ae:Bool),v=.string s/\ST w0 w' (H.set n (Et b a l.length c at' ae))/\J3 bad ae (JL l at_) (s,at'):=by
 apply HJ
 delta Ct F G I Lb P Am T;try dsimp only [Ps]
 have aB:=(List.getElem?_eq_some_iff.1 hn).1;refine (YV S n m hn hm hc hs 64).mono ?_;rintro _ w1 ⟨_,rfl,s,aL,b1,rfl,S,G⟩;have fB:(H.set n (Et b a l.length c aL b1))[n]?=some (Et b a l.length c aL b1):=List.getElem?_set_self aB;refine⟨_,rfl,_,S.cell n fB rfl,Aq (λ hb=>?_) (λ hb=>?_)⟩
 ·subst hb;refine S.BD n fB (i:=2) (aC:=#[.slice a l.length c,.int .i64 (aL:Int),.bool true]) Osi rfl λ w3 S=>⟨_,aL,true,rfl,?_,?_⟩
  ·rw [List.set_set] at S;exact S
  ·refine .inr ⟨rfl,?_⟩;rcases G.no with h | h
   ·exact .inl h
   ·exact .inr (by rw [JL,h];rfl)
 ·subst hb;obtain⟨rfl,h2⟩:=G.ok;refine S.BD n fB (i:=2) (aC:=#[.slice a l.length c,.int .i64 (aL:Int),.bool (((Bu s).size:Int) != 64)]) Osi rfl λ w3 S=>⟨_,aL,(((Bu s).size:Int) != 64),rfl,?_,?_⟩
  ·rw [List.set_set] at S;exact S
  ·have e:JL l at_=if s.length=64 then some (Bu s,aL) else none:=by rw [JL,h2,Option.bind_some]
   rw [AP];by_cases h:s.length=64
   ·refine .inl ⟨?_,rfl,by rw [e,if_pos h]⟩;simp [h]
   ·refine .inr ⟨?_,.inr (by rw [e,if_neg h])⟩;have:¬ (s.length:Int)=64:=Omg;simp [this]
end
theorem WZ{l:List UInt8}{b b':Bool}{lo hi at_ z at':Nat}(h:J3 b b' (Ei l lo hi at_) (z,at'))(hz:b'=true->z=0):z<=hi:=by
 cases b' with
 | true=>rw [hz rfl];exact Ajz _
 | false=>exact (C0 h.ok.2).2.2
theorem J3.same{α:Type}(b:Bool)(x:α):J3 b b (Option.some x) x:=by
 cases b with
 | false=>exact .inl ⟨rfl,rfl,rfl⟩
 | true=>exact .inr ⟨rfl,.inl rfl⟩
structure AaM(l:List UInt8)(c:MF):Prop where
 read:AbT l=some (c,l.length)
 empty:c.Ay=[]->c.parts=[]
 AhQ:SW c.CC
def Ag2(c:MF):Bq:=⟨c.Ay,c.parts,c.CC⟩
theorem Ae7{c:MF}(h:AfU c):Iv (Ag2 c):=⟨h.np,h.parts,h.CC,h.Ay⟩
theorem TF:∀ k:List Fg,(Hk k).length<=k.length
 | []=>by simp [Hk]
 | c :: k=>by
  have:=TF k;unfold Hk;split
  ·rw [Ais];omega
  ·rw [Ais,Ais];omega
def Adc(l:List UInt8)(w w':World)(v:Value):Prop :=
 (∃ c bc ca cc pa pc bm n,AaM l c/\v=.tuple #[.pointer (some ⟨bc,0,none⟩),.int .i64 0]/\n<=64/\(ca=none↔c.Ay=[])/\ST w w' (Bh bc ca cc pa pc bm n (Ag2 c))) \/
  ((∀ c,¬ AaM l c)/\v=.tuple #[.pointer none,.int .i64 220]/\Below w.heap.size w w')
section
variable {w:World}
set_option maxHeartbeats 2000000 in
theorem AeZ(s:ByteArray)(hs:s.size<=140737488355328):Cw 26 #[.string s] w λ v w'=>Adc (bl s) w w' v:=by
 apply MM
 delta Cb Ci Cp Cs Ct D E F G H I J Ks Lm Ls M N P Qi Rs S Am T W Z;try dsimp only [Ps]
 have an:=AW s;refine (Wt w).mono ?_;rintro _ w1 ⟨_,rfl,bc,bm,rfl,S⟩;refine⟨_,rfl,BT Ca s w1 λ b0 c0 cells e0 w2 bZ B2 eL aj iy cZ=>?_⟩;have hr:Rd w2 (some ⟨b0,0,none⟩) ((bl s).map Ag):=by
  have:=(Rd.Al eL).take s.size;rw [cZ] at this;exact this
 have S:=LR S B2 (⟨hr,λ k hk=>by cases hk;exact Nat.le_of_eq bZ.symm⟩:Vh w1 w2 _ _);obtain⟨l,hl⟩:∃ l,l=bl s:=⟨_,rfl⟩;rw [<- hl] at an S ⊢;have fe:l.length<=c0:=Omg;have kR:l.length<=140737488355328:=Omg;clear hr cZ;let L:Nat->Nat->Bool->Option Addr->Nat->Option Addr->Nat->Nat->Bq->List It:=λ b at_ bad ca cc pa pc n C=>Et b (some ⟨b0,0,none⟩) l.length c0 at_ bad :: It.rd (some ⟨b0,0,none⟩) (l.map Ag) :: Bh bc ca cc pa pc bm n C;refine⟨_,_,_,rfl,S.An λ b w3 _ _ S=>?_⟩;have S:ST w w3 (L b 0 false none 0 none 0 0 ⟨[],[],[]⟩):=by
  rw [<- an] at S;exact S
 refine⟨λ st wx=>st=[]/\∃ at_ bad ca cc cs,ST w wx (L b at_ bad ca cc none 0 0 ⟨cs,[],[]⟩)/\(ca=none↔cs=[])/\J3 false bad (Vo l 0) (cs,at_),?_,?_⟩
 ·refine (C8 S 0 1 rfl rfl fe kR 0 1 Ode).mono ?_;rintro _ w4 ⟨_,rfl,z,aL,b1,rfl,S,G1,_⟩;refine⟨_,rfl,Ap (λ hz=>?_) (λ hz=>⟨rfl,aL,b1,none,0,[],S,⟨λ _=>rfl,λ _=>rfl⟩,?_⟩)⟩
  ·refine (Ny S 0 1 rfl rfl fe kR).mono ?_;rintro _ w5 ⟨_,rfl,sa,sc,cs,aX,b2,rfl,S,G2,cW⟩;refine⟨_,_,_,rfl,S.BD 3 rfl (i:=0) (aC:=#[.slice sa cs.length sc,.slice none 0 0,.map (some bm)]) Osi rfl λ w6 S=>⟨rfl,aX,b2,sa,sc,cs,?_,?_,?_⟩⟩
   ·-- the new columns stand ahead;the old ones,which are none,go
    have S:=((S.pull 3 rfl).pull 3 rfl).pull 3 rfl;exact S.sub (.cons_cons _ (.cons_cons _ (.cons_cons _ (.cons_cons _ (.cons _ (Akd _))))))
   ·constructor
    ·intro h;subst h;have cm:Rd w6 none (BF cs):=S.rd 0 rfl;exact SF (k:=2) (λ _=>rfl) cm
    ·intro h;cases iM:b2 with
     | true=>exact (cW iM).1
     | false =>
      rw [iM] at G2;obtain⟨_,h2⟩:=G2.ok;have:=CV h2;exact absurd h (IL this)
   ·have:=G1.bind (g:=λ x=>if x.1=1 then A7 l (x.2:Int) else some ([],x.2)) (y:=(cs,aX)) (b2:=b2) (by
     simp only;rw [if_pos Omg];exact G2)
    exact this
  ·refine G1.bind (g:=λ x=>if x.1=1 then A7 l (x.2:Int) else some ([],x.2)) (y:=(([]:List Bv),aL)) (b2:=b1) ?_;simp only;rw [if_neg Omg];cases b1 with
   | false=>exact .inl ⟨rfl,rfl,rfl⟩
   | true=>exact .inr ⟨rfl,.inl rfl⟩
 clear S;rintro w7 ⟨_,aL,b1,ca,cc,cs,S,bJ,G0⟩;refine (C8 S 0 1 rfl rfl fe kR 0 256 Ode).mono ?_;rintro _ w8 ⟨_,rfl,np,aX,b2,rfl,S,G1,xZ⟩;have iw:=WZ G1 xZ;refine⟨_,rfl,λ st wx=>∃(i at_:Nat) (bad:Bool) (pa:Option Addr) (pc:Nat) (ps:List FG),st=[.int .i64 (i:Int)]/\i<=np/\ps.length=i/\ST w wx (L b at_ bad ca cc pa pc 0 ⟨cs,ps,[]⟩)/\J3 b2 bad (BN (KV l) i aX) (ps,at_),λ st _=>match st with
  | [.int _ i]=>np-i.toNat
  | _=>0,⟨0,aX,b2,none,0,[],rfl,Omg,rfl,S,J3.same _ _⟩,?_⟩
 clear S;rintro _ w9 ⟨i,bH,b3,pa,pc,ps,aA,hi,bM,S,G2⟩;cases aA;refine Aa (λ aB=>?_) (λ aJ=>?_)
 ·refine S.draw λ bX _ S=>⟨_,_,_,S.cell 2 rfl rfl,(YN S 0 1 rfl rfl fe kR).mono ?_⟩;rintro _ aZ ⟨_,rfl,nm,lW,b4,rfl,S,G3⟩;refine⟨_,rfl,S.cell 2 rfl rfl,(C8 S 0 1 rfl rfl fe kR 1 1024 Ode).mono ?_⟩;rintro _ bL ⟨_,rfl,r,mW,b5,rfl,S,G4,_⟩;refine⟨_,rfl,S.cell 2 rfl rfl,S.An λ ot al _ _ S=>⟨S.cell 3 rfl rfl,?_⟩⟩
  try simp only [Av]
  refine QU S (n:=5) (ps:=ps) rfl (p:=(nm,r)) (S.F0 0 rfl) Omg λ a' c' au S=>⟨_,_,_,rfl,?_⟩;refine S.BD 3 rfl (i:=1) (aC:=#[.slice ca cs.length cc,.slice a' (ps++[(nm,r)]).length c',.map (some bm)]) Osi rfl λ ah S=>?_;rw [Ae Omg];have G5:J3 b3 b5 (KV l bH) ((nm,r),mW):=G3.bind (g:=λ x=>(Ei l 1 1024 x.2).map λ y=>((x.1,y.1),y.2)) (G4.map (λ y=>((nm,y.1),y.2)));have G6:J3 b2 b5 (BN (KV l) (i+1) aX) (ps++[(nm,r)],mW):=G2.bind (g:=λ q=>(KV l q.2).map λ x=>(q.1++[x.1],x.2)) (G5.map (λ x=>(ps++[x.1],x.2)));exact⟨⟨i+1,mW,b5,a',c',ps++[(nm,r)],rfl,Omg,by simp [bM],S.drop 1,G6⟩,by simp only [Ait];omega⟩
 obtain rfl:i=np:=Omg;refine (C8 S 0 1 rfl rfl fe kR 0 64 Ode).mono ?_;rintro _ cd ⟨_,rfl,nc,lW,b4,rfl,S,G3,hz3⟩;have pH:=WZ G3 hz3;refine⟨_,rfl,λ st wx=>∃(j at_:Nat) (bad:Bool) (k:List Fg),st=[.int .i64 (j:Int)]/\j<=nc/\ST w wx (L b at_ bad ca cc pa pc j ⟨cs,ps,k⟩)/\J3 b4 bad (BN (P0 l) j lW) (k,at_),λ st _=>match st with
  | [.int _ i]=>nc-i.toNat
  | _=>0,⟨0,lW,b4,[],rfl,Omg,S,J3.same _ _⟩,?_⟩
 clear S;rintro _ cF ⟨j,mW,b5,k,aA,hj,S,G4⟩;cases aA;refine Aa (λ aB=>?_) (λ aJ=>?_)
 ·refine (C8 S 0 1 rfl rfl fe kR 0 A3 Ode).mono ?_;rintro _ fG ⟨_,rfl,y1,q1,d1,rfl,S,E1,z1⟩;have l1:=WZ E1 z1;refine⟨_,rfl,(C8 S 0 1 rfl rfl fe kR 1 A3 Ode).mono ?_⟩;rintro _ gb ⟨_,rfl,y2,q2,d2,rfl,S,E2,_⟩;refine⟨_,rfl,S.draw λ eT _ S=>⟨_,S.cell 2 rfl rfl,(C8 S 0 1 rfl rfl fe kR 0 1000 Ode).mono ?_⟩⟩;rintro _ gG ⟨_,rfl,y3,q3,d3,rfl,S,E3,_⟩;refine⟨_,rfl,S.cell 2 rfl rfl,(C8 S 0 1 rfl rfl fe kR 0 A3 Ode).mono ?_⟩;rintro _ gd ⟨_,rfl,y4,q4,d4,rfl,S,E4,_⟩;unfold A3 at l1;refine⟨_,rfl,S.cell 2 rfl rfl,S.AfZ 5 rfl Jz IV (by unfold maxLen;omega) Omg ((y2:Int),(y3:Int),(y4:Int)) λ fN S=>?_⟩;have eg:(λ y=>if y=(y1:Int) then some ((y2:Int),(y3:Int),(y4:Int)) else Su k y)=Su (k++[(y1,y2,y3,y4)]):=(Yd k (y1,y2,y3,y4)).symm;have S:ST w fN (L b q4 d4 ca cc pa pc (j+1) ⟨cs,ps,k++[(y1,y2,y3,y4)]⟩):=by
   rw [eg] at S;exact S
  rw [Ae Omg];have F1:J3 b5 d4 (P0 l mW) ((y1,y2,y3,y4),q4):=E1.bind (g:=λ x=>(Ei l 1 A3 x.2).bind λ y=>(Ei l 0 1000 y.2).bind λ z=>(Ei l 0 A3 z.2).map λ u=>((x.1,y.1,z.1,u.1),u.2))
   (E2.bind (g:=λ y=>(Ei l 0 1000 y.2).bind λ z=>(Ei l 0 A3 z.2).map λ u=>((y1,y.1,z.1,u.1),u.2)) (E3.bind (g:=λ z=>(Ei l 0 A3 z.2).map λ u=>((y1,y2,z.1,u.1),u.2)) (E4.map (λ u=>((y1,y2,y3,u.1),u.2)))))
  have F2:J3 b4 d4 (BN (P0 l) (j+1) lW) (k++[(y1,y2,y3,y4)],q4):=G4.bind (g:=λ q=>(P0 l q.2).map λ x=>(q.1++[x.1],x.2)) (F1.map (λ x=>(k++[x.1],x.2)));exact⟨⟨j+1,q4,d4,_,rfl,Omg,S,F2⟩,by simp only [Ait];omega⟩
 obtain rfl:j=nc:=Omg;have GC:J3 false b5 (AbT l) ((⟨cs,ps,k⟩:MF),mW):=G0.bind (g:=λ c=>(Ei l 0 256 c.2).bind λ n=>(BN (KV l) n.1 n.2).bind λ p=>(Ei l 0 64 p.2).bind λ m=>(BN (P0 l) m.1 m.2).map λ k=>((⟨c.1,p.1,k.1⟩:MF),k.2))
  (G1.bind (g:=λ n=>(BN (KV l) n.1 n.2).bind λ p=>(Ei l 0 64 p.2).bind λ m=>(BN (P0 l) m.1 m.2).map λ k=>((⟨cs,p.1,k.1⟩:MF),k.2)) (G2.bind (g:=λ p=>(Ei l 0 64 p.2).bind λ m=>(BN (P0 l) m.1 m.2).map λ k=>((⟨cs,p.1,k.1⟩:MF),k.2))
   (G3.bind (g:=λ m=>(BN (P0 l) m.1 m.2).map λ k=>((⟨cs,ps,k.1⟩:MF),k.2)) (G4.map (λ k=>((⟨cs,ps,k.1⟩:MF),k.2))))))
 have iT:∀ c,AaM l c->b5=false/\c=⟨cs,ps,k⟩/\mW=l.length:=λ c hG=>by
  obtain⟨h1,h2⟩:=GC.some hG.read;obtain⟨h3,h4⟩:=Prod.mk.inj h2;exact⟨h1,h3.symm,h4⟩
 refine (V4 S 0 rfl).mono ?_;clear S;rintro _ du ⟨_,rfl,rfl,S⟩;refine⟨_,rfl,As (Aq (λ hw=>?_) (λ hw=>.inr ⟨λ c hG=>?_,rfl,S.Ar⟩))⟩;rotate_left
 ·obtain⟨h1,_,h3⟩:=iT c hG;rw [h1,h3] at hw;simp at hw
 simp only [Bool.and_eq_true,Bool.not_eq_true',decide_eq_true_eq] at hw;obtain⟨rfl,rfl⟩:=hw;obtain⟨_,bO⟩:=GC.ok;obtain⟨hseg,eJ⟩:=Adn bO;have jj:=hseg.all rfl;simp only at jj;have S:ST w du (Bh bc ca cc pa pc bm j ⟨cs,ps,k⟩++[]):=S.drop 2;have hCS:Iv ⟨cs,ps,k⟩:=Ae7 eJ;have kN:Iy k<=100000:=by have:=TF k;have:=eJ.nc;simp only [Iy] at *;omega
 have snap:(cs=[]->ps=[])->Calls Aix 25 #[.pointer (some ⟨bc,0,none⟩)] du (λ e eA=>∃ t:ByteArray,e=.returned (.string t)/\ZB (!A1 t s) (Adc l w eA (.tuple #[.pointer none,.int .i64 220])) (Adc l w eA (.tuple #[.pointer (some ⟨bc,0,none⟩),.int .i64 0]))):=λ vZ=>by
  refine (HS S hCS bJ Omg kN).mono ?_;rintro _ eA ⟨_,rfl,ids,cp,aV,rfl,B⟩;have S:=S.grown B;refine⟨_,rfl,?_⟩;rw [AU];refine As (Aa (λ h=>.inl ⟨⟨cs,ps,k⟩,bc,ca,cc,pa,pc,bm,j,⟨bO,vZ,?_⟩,rfl,pH,bJ,S⟩) (λ h=>.inr ⟨λ c hG=>h ?_,rfl,S.Ar⟩))
  ·have h2:=congrArg bl h;rw [Bn,<- hl,jj] at h2;have ay:∀ c∈Cz (mapOf k) ids,GF c:=λ c hc=>eJ.CC c (PZ aV hc);have aO:(Cz (mapOf k) ids).length<=64:=by
    have h3:=WN cp aV;have h4:=TF k;have h5:=eJ.nc;simp only [Cz,AiH,Iy] at *;omega
   exact (Tg cp aV).1 (Aet ay eJ.CC aO eJ.nc h2)
  ·obtain⟨_,rfl,_⟩:=iT c hG;have h3:=(Tg cp aV).2 hG.AhQ;show Bu (FA cs ps (Cz (mapOf k) ids))=s;rw [h3,<- jj,hl,DP]
 refine⟨_,_,_,S.cell 0 rfl rfl,Aq (λ hb=>?_) (λ hb=>snap λ h=>?_)⟩
 ·refine⟨_,_,_,S.cell 0 rfl rfl,Aa (λ h=>.inr ⟨λ c hG=>?_,rfl,S.Ar⟩) (λ h=>snap λ _=>?_)⟩
  ·obtain⟨_,rfl,_⟩:=iT c hG;have yc:cs=[]:=bJ.1 (by simpa using hb);have:ps=[]:=hG.empty yc;rw [this] at h;simp at h
  ·have:ps.length=0:=by simp only at h;omega
   exact List.length_eq_zero_iff.1 this
 ·rw [bJ.2 h] at hb;cases hb
end
section
variable {w0 w:World}{H:List It}{b:Nat}{a:Option Addr}{c at_:Nat}{bad:Bool}{l:List UInt8}
end
def PX(c:Fg):List Value:=[.int .i64 (c.1:Int),.int .i64 (c.2.1:Int),.int .i64 (c.2.2.1:Int),.int .i64 (c.2.2.2:Int)]
def Dk(k:List Fg):List Value:=k.flatMap PX
theorem Kh(k:List Fg):(Dk k).length=k.length*4:=by
 induction k with
 | nil=>rfl
 | cons p ps ih =>
  show (PX p++Dk ps).length=_;rw [Aiq,ih,Ais];simp only [PX,Ais,AjE];omega
theorem Oh(k:List Fg)(i j:Nat)(hi:i<k.length)(hj:j<4):(Dk k)[i*4+j]?=(PX k[i])[j]?:=by
 induction k generalizing i with
 | nil=>simp at hi
 | cons p ps ih =>
  show (PX p++Dk ps)[_]?=_;cases i with
  | zero=>rw [Nat.zero_mul,Aiv,List.getElem?_append_left (by simp [PX];omega)];rfl
  | succ i =>
   rw [List.getElem?_append_right (by simp [PX];omega)];rw [show (i+1)*4+j-(PX p).length=i*4+j by simp [PX];omega,ih i (by simpa using hi)];rfl
def Mo(a:Option Addr)(c:Nat)(k:List Fg):It:=It.row 117 4 a k.length c (Dk k)
theorem AeD:Me Aix 29=some (117,4,32,.agg #[.int .i64 0,.int .i64 0,.int .i64 0,.int .i64 0]):=by kernel_rfl
def D7(b:Nat)(ca:Option Addr)(cc:Nat)(pa:Option Addr)(pc:Nat)(ka:Option Addr)(kc:Nat)(c:MF):List It :=
 [It.cells b #[.slice ca c.Ay.length cc,.slice pa c.parts.length pc,.slice ka c.CC.length kc] 31,CD ca cc c.Ay,EO pa pc c.parts,Mo ka kc c.CC]
section
variable {w0 w:World}{H:List It}{a:Option Addr}{c:Nat}
theorem Th{k:List Fg}(hl:Rd w a (Dk k)){i:Nat}(hi:i<k.length):∃ p,a=some p/\w.cell? (p.add (i*4))=some (.int .i64 (k[i].1:Int))/\w.cell? ((p.add (i*4)).add 1)=some (.int .i64 (k[i].2.1:Int))/\w.cell? ((p.add (i*4)).add 2)=some (.int .i64 (k[i].2.2.1:Int))/\w.cell? ((p.add (i*4)).add 3)=some (.int .i64 (k[i].2.2.2:Int)):=by
 obtain⟨p,hp,h0⟩:=hl (i*4+0) _ (by rw [Oh k i 0 hi Omg];rfl);obtain⟨p1,hp1,h1⟩:=hl (i*4+1) _ (by rw [Oh k i 1 hi Omg];rfl);obtain⟨p2,iD,h2⟩:=hl (i*4+2) _ (by rw [Oh k i 2 hi Omg];rfl);obtain⟨p3,pI,h3⟩:=hl (i*4+3) _ (by rw [Oh k i 3 hi Omg];rfl);rw [hp] at hp1 iD pI;cases hp1;cases iD;cases pI;exact⟨p,hp,h0,by rw [BJ];exact h1,by rw [BJ];exact h2,by rw [BJ];exact h3⟩
theorem AfH(S:ST w0 w H){n:Nat}{k:List Fg}(hn:H[n]?=some (Mo a c k)){x:Fg}{b:Nat}(hs:Rd w (some ⟨b,0,none⟩) (PX x))(hl:k.length+1<=1000000){f:Value->World->Prop}
  (hf:∀ a' c' w',ST w0 w' (H.set n (Mo a' c' (k++[x])))->f (.slice a' (k++[x]).length c') w') :
  De Aix (Builtin.append_ #[29,29] 29 #[.slice a k.length c,.slice (some ⟨b,0,none⟩) 1 1]) f w:=by
 refine S.app n hn AeD rfl Omg Omg hs (mm:=1) rfl (by simp [PX];exact⟨rfl,rfl,rfl,rfl⟩) Omg λ a' c' w' S'=>?_;have e1:(k++[x]).length=k.length+1:=Osi;have e2:Dk k++PX x=Dk (k++[x]):=by simp [Dk]
 rw [e2] at S';have:=hf a' c' w' (by unfold Mo;rw [e1];exact S');rwa [e1] at this
end
section
variable {w:World}
end
section
variable {w0 w:World}{H:List It}{a a2:Option Addr}{c c2:Nat}
end
theorem Ej.inj{w:World}(T:Hb w){cs aC:List Bv}{rows rows':List (List AD)}{b:List UInt8}(hs:Br cs rows)(bR:Br aC rows')(h:Ej cs rows b)(h':Ej aC rows' b):cs=aC/\rows=rows':=by
 have an:=h.len hs;obtain⟨_,_,_,⟨v,rfl,hO⟩,_⟩:=JP T (Bu b) (by rw [AP];omega) [];rw [Bn] at hO;obtain⟨_,⟨g,p,cs2,aR,n,_,_,_,_,_,hu⟩ | ⟨_,aP⟩ | ⟨_,_,aP⟩⟩:=hO
 ·obtain⟨rfl,rfl,_⟩:=hu cs rows hs h;obtain⟨rfl,rfl,_⟩:=hu aC rows' bR h';exact⟨rfl,rfl⟩
 ·obtain⟨_,_,hd⟩:=h.pre hs;exact absurd hd aP
 ·exact absurd h (aP cs rows hs)
section
variable {w:World}{a a2 a3:Option Addr}{c c2 c3:Nat}{cs:List Bv}{ps qs:List BH}
end
abbrev Vg:=Option Addr × Nat × List FG
def TX(p:Vg):Value:=.slice p.1 p.2.2.length p.2.1
def ET(ps:List Vg):List FG:=ps.flatMap (·.2.2)
theorem Hi(ps:List Vg)(k:Nat)(hk:k<ps.length):ET (ps.take (k+1))=ET (ps.take k)++ps[k].2.2:=by
 unfold ET;rw [Ajl hk,Aj8];simp
theorem Yb(ps:List Vg)(k:Nat):(ET (ps.take k)).length<=(ET ps).length:=by
 have e:ET ps=ET (ps.take k)++ET (ps.drop k):=by unfold ET;rw [<- Aj8,Akg]
 rw [e,Aiq];omega
theorem Fk(ps qs:List FG):Bw (ps++qs)=Bw ps++Bw qs:=by simp [Bw]
theorem AbG(w:World)(n:Nat)(hn:n<=1000000):Calls Aix 121 #[.slice none 0 0,.int .i64 (n:Int)] w
  (SV λ v w'=>∃ a c,v=.slice a 0 c/\ST w w' [EO a c []]):=by
 apply E7
 delta F I Rs S W Y;try dsimp only [Ps]
 have e0:IntKind.i64.wrap (((0:Nat):Int)-((0:Nat):Int))=0:=by rw [wrap_i64 Omg Omg];omega
 have e1:IntKind.i64.wrap ((n:Int)-0)=(n:Int):=by rw [wrap_i64 Omg Omg];omega
 refine Aa (λ h=>Omg) (λ _=>?_);rw [e0,e1];refine Aa (λ hp=>⟨⟨Omg,Omg,Omg⟩,?_⟩) (λ hp=>?_)
 ·obtain⟨c',w',aG,aI,hc,hb⟩:=Oa (u:=3) (ty:=28) Rq (show Aix.underlying 3=some (.int .i64) by kernel_rfl) rfl Omg Omg (w:=w) (m:=n) Omg Omg;have hs:Ch none 0 0 2=none:=rfl;unfold De;rw [hs];simp only [AjT,aG];refine⟨_,_,_,rfl,⟨Omg,Omg,Omg⟩,some ⟨w.heap.size,0,none⟩,c',?_,(ST.start w).add hb (EO (some ⟨w.heap.size,0,none⟩) c' []) aI (λ k hk=>by cases hk;exact Nat.le_refl _)⟩;have:Ch (some (⟨w.heap.size,0,none⟩:Addr)) 0 c' 2=some ⟨w.heap.size,0,none⟩:=by
   unfold Ch;split
   ·rfl
   ·simp [CS]
  rw [this]
 ·have:n=0:=Omg;subst this;exact⟨none,0,rfl,(ST.start w).nil _ _⟩
theorem ZG{w:World}{a:Option Addr}{c:Nat}(ps:List Vg)(hp:Rd w a (ps.map TX))(hb:∀ p∈ps,Rd w p.1 (Bw p.2.2))(hn:ps.length<1000)(hl:(ET ps).length<=100000) :
  Cw 83 #[.slice a ps.length c] w λ v w'=>∃ a c,v=.slice a (ET ps).length c/\ST w w' [EO a c (ET ps)]:=by
 apply EG
 delta Ad Cs F I Ks Ls O MH Eg S W X;try dsimp only [Ps]
 refine⟨λ s w1=>∃ k:Nat,s=[.int .i64 ((ET (ps.take k)).length:Int),.int .i64 k]/\k<=ps.length/\w1=w,
  λ s _=>match s with
   | [_,.int _ i]=>ps.length-i.toNat
   | _=>0,⟨0,rfl,Ajz _,rfl⟩,?_⟩
 rintro _ _ w1 ⟨k,hs,hk,rfl⟩;cases hs;refine Aa (λ aB=>⟨⟨Omg,aB⟩,?_⟩) (λ aJ=>?_)
 ·have aO:k<ps.length:=Omg;obtain⟨p,rfl,hc⟩:=hp k (TX ps[k]) (by simp [aO]);have h1:=Yb ps (k+1);rw [Hi ps k aO,Aiq] at h1;refine⟨_,_,_,by rw [Ait,Aiw];exact hc,?_⟩;have e:IntKind.i64.wrap (((ET (ps.take k)).length:Int)+(ps[k].2.2.length:Int))=((ET (ps.take (k+1))).length:Int):=by
   rw [Hi ps k aO,Aiq,wrap_i64 Omg Omg];omega
  rw [e];refine Aa (λ h=>Omg) (λ _=>?_);rw [Ae Omg];refine⟨⟨k+1,rfl,Omg,rfl⟩,?_⟩;simp only [Ait];omega
 ·have ji:k=ps.length:=Omg;subst ji;rw [Ajp];refine (AbG w1 _ Omg).mono ?_;rintro _ w2 ⟨_,rfl,a2,c2,rfl,S⟩;refine⟨_,_,_,rfl,?_⟩;refine⟨λ s w3=>∃(k:Nat) (a3:Option Addr) (c3:Nat),s=[.slice a3 (ET (ps.take k)).length c3,.int .i64 k]/\k<=ps.length/\ST w1 w3 [EO a3 c3 (ET (ps.take k))],
   λ s _=>match s with
    | [_,.int _ i]=>ps.length-i.toNat
    | _=>0,⟨0,a2,c2,rfl,Ajz _,S⟩,?_⟩
  clear S;rintro a3 _ c3 _ w3 ⟨k,_,_,hs,hk,S⟩;cases hs;refine Aa (λ aB=>⟨⟨Omg,aB⟩,?_⟩) (λ aJ=>?_)
  ·have aO:k<ps.length:=Omg;obtain⟨p,rfl,hc⟩:=(hp.grown S.Ar) k (TX ps[k]) (by simp [aO]);have h1:=Yb ps (k+1);rw [Hi ps k aO,Aiq] at h1;refine⟨_,_,_,by rw [Ait,Aiw];exact hc,?_⟩;refine S.app 0 rfl Rq rfl Omg Omg ((hb _ (Ai7 aO)).grown S.Ar) (Es _) (TY _) Omg λ a' c' w4 S=>?_;have e2:(ET (ps.take k)).length+ps[k].2.2.length=(ET (ps.take (k+1))).length:=by rw [Hi ps k aO,Aiq]
   rw [<- Fk,<- Hi ps k aO] at S;rw [e2] at S ⊢;rw [Ae Omg];exact⟨_,_,_,rfl,⟨k+1,a',c',rfl,Omg,S⟩,by simp only [Ait];omega⟩
  ·have ji:k=ps.length:=Omg;subst ji;rw [Ajp] at S ⊢;exact⟨a3,c3,rfl,S⟩
def Ov(ps:List FG)(ns:List ByteArray):Option Nat:=(Ai0 ps.length).find? λ i=>decide (((ps.drop i).take ns.length).map (·.1)=ns)
section
variable {w0 w:World}{H:List It}{a:Option Addr}{c:Nat}
theorem Aad{ps:List FG}{ns:List ByteArray}{i:Nat}:((ps.drop i).take ns.length).map (·.1)=ns↔i+ns.length<=ps.length+(if ns.length=0 then i else 0)/\∀ j (h:j<ns.length),(ps[i+j]?).map (·.1)=some ns[j]:=by
 constructor
 ·intro h;have hl:=congrArg AjO h;rw [AiH,Ajm,AiT] at hl;refine⟨by split <;> omega,λ j hj=>?_⟩;have h2:=congrArg (λ l=>l[j]?) h;simp only [Aj4,List.getElem?_take,hj,if_true,Aih] at h2;rw [h2,Ajk hj]
 ·rintro⟨h1,h2⟩;apply List.ext_getElem?;intro j;by_cases hj:j<ns.length
  ·simp only [Aj4,List.getElem?_take,hj,if_true,Aih];rw [h2 j hj,Ajk hj]
  ·rw [List.getElem?_eq_none (by rw [AiH,Ajm];omega),List.getElem?_eq_none Omg]
end
def Wp(ps:List FG)(ns:List ByteArray)(i:Nat):Prop:=((ps.drop i).take ns.length).map (·.1)=ns
theorem Ku{ps:List FG}{ns:List ByteArray}{i:Nat}(h1:1<=ns.length):Wp ps ns i↔i+ns.length<=ps.length/\∀ j (h:j<ns.length),(ps[i+j]?).map (·.1)=some ns[j]:=by
 unfold Wp;rw [Aad,if_neg Omg,Nat.add_zero]
theorem ZY{ps:List FG}{ns:List ByteArray}{i:Nat}(h:Wp ps ns i)(hi:i<ps.length)(aP:∀ j<i,¬ Wp ps ns j):Ov ps ns=some i:=by
 unfold Ov;rw [List.find?_range_eq_some];refine⟨decide_eq_true h,by simpa using hi,λ j hj=>?_⟩;rw [Bool.not_eq_true',decide_eq_false_iff_not];exact aP j hj
theorem ZX{ps:List FG}{ns:List ByteArray}(aP:∀ j<ps.length,¬ Wp ps ns j):Ov ps ns=none:=by
 unfold Ov;rw [List.find?_eq_none];intro j hj;rw [decide_eq_true_eq];exact aP j (by simpa using hj)
theorem MU{ps:List FG}{ns:List ByteArray}{i:Nat}(h:Ov ps ns=some i):Wp ps ns i/\i<ps.length:=by
 unfold Ov at h;rw [List.find?_range_eq_some] at h;refine⟨?_,by simpa using h.2.1⟩;have:=h.1;rw [decide_eq_true_eq] at this;exact this
def Vw(ps:List FG)(ns:List ByteArray):Int:=match Ov ps ns with
 | some i=>(i:Int)
 | none => -1
section
variable {w0 w:World}{H:List It}{na:Option Addr}{nc bc bm n cc pc:Nat}{ca pa:Option Addr}{C:Bq}{ns:List ByteArray}
theorem Afd(S:ST w0 w (Bh bc ca cc pa pc bm n C++H))(fo:Rd w na (ns.map Value.string))(h1:1<=ns.length)(hn:ns.length<=1000)(hp:C.parts.length<=1000) :
  Cw 76 #[.pointer (some ⟨bc,0,none⟩),.slice na ns.length nc] w λ v w'=>v=.int .i64 (Vw C.parts ns)/\w'=w:=by
 apply He
 delta Ad F I Ls Lt Qi W X;try dsimp only [Ps]
 have mH:(∀ j<C.parts.length,¬ Wp C.parts ns j)->Value.int .i64 (-1)=.int .i64 (Vw C.parts ns):=λ h=>by rw [Vw,ZX h]
 refine⟨_,_,_,S.cell 0 rfl rfl,λ s wx=>wx=w/\∃ i:Nat,s=[.int .i64 (i:Int)]/\i<=C.parts.length/\∀ j<i,¬ Wp C.parts ns j,λ s _=>match s with
  | [.int _ i]=>C.parts.length-i.toNat
  | _=>0,⟨rfl,0,rfl,Omg,λ j hj=>Omg⟩,?_⟩
 rintro _ w1 ⟨e,i,aA,hi,aP⟩;subst e;cases aA;refine Aa (λ aB=>⟨_,_,_,S.cell 0 rfl rfl,?_⟩) (λ aJ=>⟨mH λ j hj=>aP j Omg,rfl⟩);have ew:IntKind.i64.wrap ((C.parts.length:Int)-(i:Int))=((C.parts.length-i:Nat):Int):=by rw [wrap_i64 Omg Omg];omega
 rw [ew];refine Aa (λ hs=>⟨mH λ j hj hh=>?_,rfl⟩) (λ hs=>?_)
 ·by_cases dX:j<i
  ·exact aP j dX hh
  ·have:=((Ku h1).1 hh).1;omega
 refine⟨λ s wx=>wx=w1/\∃ j:Nat,s=[.int .i64 (j:Int)]/\j<=ns.length/\∀ t (h:t<ns.length),t<j->(C.parts[i+t]?).map (·.1)=some ns[t],λ s _=>match s with
  | [.int _ j]=>ns.length-j.toNat
  | _=>0,⟨rfl,0,rfl,Omg,λ t _ ht=>Omg⟩,?_⟩
 rintro _ w2 ⟨e,j,aA,hj,aF⟩;subst e;cases aA;refine Aa (λ av=>?_) (λ bz=>?_)
 ·have f':j<ns.length:=Omg;obtain⟨p,rfl,c0⟩:=Po fo f';have dQ:i+j<C.parts.length:=Omg;have kg:IntKind.i64.wrap ((i:Int)+(j:Int))=((i+j:Nat):Int):=by rw [wrap_i64 Omg Omg];omega
  refine⟨⟨Omg,Omg⟩,_,by rw [Ait];exact c0,_,_,_,S.cell 0 rfl rfl,?_⟩;rw [kg];obtain⟨q,hq,d0,_⟩:=KX (S.rd 2 rfl) dQ;subst hq;refine⟨⟨Omg,Omg⟩,_,by rw [Ait];exact d0,?_⟩;rw [AU];refine As (Aa (λ he=>?_) (λ he=>?_))
  ·rw [Ae Omg];refine⟨⟨rfl,j+1,rfl,Omg,λ t ht htj=>?_⟩,by simp only [Ait];omega⟩;by_cases xQ:t<j
   ·exact aF t ht xQ
   ·obtain rfl:t=j:=Omg;rw [Ajk dQ,Option.map_some,he]
  ·rw [Ae Omg];refine⟨⟨rfl,i+1,rfl,Omg,λ t ht hh=>?_⟩,by simp only [Ait];omega⟩;by_cases gD:t<i
   ·exact aP t gD hh
   ·obtain rfl:t=i:=Omg;have:=((Ku h1).1 hh).2 j f';rw [Ajk dQ,Option.map_some] at this;exact he (Ajx this)
 ·have hh:Wp C.parts ns i:=(Ku h1).2 ⟨Omg,λ t ht=>aF t ht Omg⟩;refine⟨?_,rfl⟩;rw [Vw,ZY hh Omg aP]
end
structure DK(C:MF):Prop where
 np:C.parts.length<=256
 nc:C.CC.length<=64
 rows:∀ p∈C.parts,p.2<=1024
 Ay:C.Ay=[]\/Ao C.Ay=true
section
variable {w0 w:World}{H:List It}{b cc pc kc nc:Nat}{ca pa ka na:Option Addr}{C:MF}{ns:List ByteArray}
theorem ZH(S:ST w0 w (D7 b ca cc pa pc ka kc C++H))(hC:DK C):Cw 123 #[.pointer (some ⟨b,0,none⟩)] w λ v w'=>v=.int .i64 (Bc C.parts:Int)/\w'=w:=by
 apply Ij
 delta F I Li Ls MH W X;try dsimp only [Ps]
 have iw:=hC.np;refine⟨λ s wx=>wx=w/\∃ i:Nat,s=[.int .i64 (Bc (C.parts.take i):Int),.int .i64 (i:Int)]/\i<=C.parts.length,λ s _=>match s with
  | [_,.int _ i]=>C.parts.length-i.toNat
  | _=>0,⟨rfl,0,rfl,Omg⟩,?_⟩
 rintro _ _ w1 ⟨e,i,aA,hi⟩;subst e;cases aA;refine⟨_,_,_,S.cell 0 rfl rfl,Aa (λ aB=>?_) (λ aJ=>?_)⟩
 ·have aD:i<C.parts.length:=Omg;obtain⟨p,hp,_,e1⟩:=KX (S.rd 2 rfl) aD;subst hp;refine⟨_,_,_,S.cell 0 rfl rfl,⟨Omg,Omg⟩,_,by rw [Ait];exact e1,?_⟩;have h1:=Ld (ps:=C.parts.take i) λ p hp=>hC.rows p (Ajs hp);have h2:=hC.rows C.parts[i] (Ai7 aD);rw [Ajm] at h1;have e:Bc (C.parts.take (i+1))=Bc (C.parts.take i)+C.parts[i].2:=by rw [Ajl aD,Hy]
  have ew:IntKind.i64.wrap ((Bc (C.parts.take i):Int)+(C.parts[i].2:Int))=(Bc (C.parts.take (i+1)):Int):=by rw [wrap_i64 Omg Omg,e];omega
  rw [ew,Ae Omg];exact⟨⟨rfl,i+1,rfl,Omg⟩,by simp only [Ait];omega⟩
 ·obtain rfl:i=C.parts.length:=Omg;rw [Ajp];exact⟨rfl,rfl⟩
theorem AcP(S:ST w0 w (D7 b ca cc pa pc ka kc C++H))(fo:Rd w na (ns.map Value.string))(hn:ns.length<=1000)(hC:DK C) :
  Cw 89 #[.pointer (some ⟨b,0,none⟩),.slice na ns.length nc] w λ v w'=>Below w.heap.size w w'/\∃ z:Int,v=.int .i64 z/\(z<0\/∃ i:Nat,z=(i:Int)/\i+ns.length<=C.parts.length):=by
 apply Hw
 delta Ad D F G I Ls Lt Qbi Qi W X;try dsimp only [Ps]
 have iw:=hC.np;refine⟨λ s wx=>Below w.heap.size w wx/\∃ i:Nat,s=[.int .i64 (i:Int)]/\i<=C.parts.length+1,λ s _=>match s with
  | [.int _ i]=>C.parts.length+1-i.toNat
  | _=>0,⟨.refl _ _,0,rfl,Omg⟩,?_⟩
 rintro _ w1 ⟨B1,i,aA,hi⟩;cases aA;have S1:=S.grown B1;refine⟨_,_,_,S1.cell 0 rfl rfl,?_⟩;have ew:IntKind.i64.wrap ((i:Int)+(ns.length:Int))=((i+ns.length:Nat):Int):=by rw [wrap_i64 Omg Omg];omega
 rw [ew];refine Aa (λ hle=>?_) (λ nh=>⟨B1,-1,rfl,.inl Omg⟩);refine⟨λ s wx=>Below w.heap.size w wx/\∃(all:Bool) (k:Nat),s=[.bool all,.int .i64 (k:Int)]/\k<=ns.length,λ s _=>match s with
  | [_,.int _ k]=>ns.length-k.toNat
  | _=>0,⟨B1,true,0,rfl,Omg⟩,?_⟩
 rintro _ _ w2 ⟨B2,all,k,aA,hk⟩;cases aA;refine Aa (λ aB=>?_) (λ aJ=>Aq (λ h=>⟨B2,(i:Int),rfl,.inr ⟨i,rfl,Omg⟩⟩) (λ h=>?_))
 ·have aO:k<ns.length:=Omg;refine (S.grown B2).draw λ w3 B3 S3=>Aq (λ h=>?_) (λ h=>?_)
  ·obtain⟨p,hp,c0⟩:=Po (fo.grown (Ac B2 B3)) aO;subst hp;have kg:IntKind.i64.wrap ((i:Int)+(k:Int))=((i+k:Nat):Int):=by rw [wrap_i64 Omg Omg];omega
   refine⟨⟨Omg,Omg⟩,_,_,_,S3.cell 0 rfl rfl,?_⟩;rw [kg];obtain⟨q,hq,d0,_⟩:=KX (S3.rd 2 rfl) (i:=i+k) Omg;subst hq;refine⟨⟨Omg,Omg⟩,_,by rw [Ait];exact d0,_,by rw [Ait];exact c0,?_⟩;rw [Ae Omg];exact⟨⟨Ac B2 B3,_,k+1,rfl,Omg⟩,by simp only [Ait];omega⟩
  ·rw [Ae Omg];exact⟨⟨Ac B2 B3,_,k+1,rfl,Omg⟩,by simp only [Ait];omega⟩
 ·rw [Ae Omg];exact⟨⟨B2,i+1,rfl,Omg⟩,by simp only [Ait];omega⟩
theorem Aei(S:ST w0 w (D7 b ca cc pa pc ka kc C++H))(id:Int)(hC:DK C) :
  Cw 86 #[.pointer (some ⟨b,0,none⟩),.int .i64 id] w λ v w'=>Below w.heap.size w w'/\∃(i:Nat) (t:Bool),v=.tuple #[.int .i64 (i:Int),.bool t]/\i<=C.CC.length/\(t=true->i<C.CC.length):=by
 apply HO
 delta D F G H I Li Ls Qi W X Zi;try dsimp only [Ps]
 have pH:=hC.nc;refine⟨λ st wx=>Below w.heap.size w wx/\∃ i:Nat,st=[.int .i64 (i:Int)]/\i<=C.CC.length,⟨λ s wx=>Below w.heap.size w wx/\∃ i:Nat,s=[.int .i64 (i:Int)]/\i<=C.CC.length,λ s _=>match s with
  | [.int _ i]=>C.CC.length-i.toNat
  | _=>0,⟨.refl _ _,0,rfl,Omg⟩,?_⟩,?_⟩
 ·rintro _ w1 ⟨B1,i,aA,hi⟩;cases aA;have S1:=S.grown B1;refine⟨_,_,_,S1.cell 0 rfl rfl,Aa (λ aB=>?_) (λ aJ=>⟨B1,i,rfl,hi⟩)⟩;have aD:i<C.CC.length:=Omg;obtain⟨p,hp,e0,_⟩:=Th (S1.rd 3 rfl) aD;subst hp;refine⟨_,_,_,S1.cell 0 rfl rfl,⟨Omg,Omg⟩,_,by rw [Ait];exact e0,Aa (λ h=>?_) (λ h=>⟨B1,i,rfl,hi⟩)⟩;rw [Ae Omg];exact⟨⟨B1,i+1,rfl,Omg⟩,by simp only [Ait];omega⟩
 rintro _ w2 ⟨B2,i,aA,hi⟩;cases aA;refine (S.grown B2).draw λ w3 B3 S3=>⟨_,_,_,S3.cell 0 rfl rfl,Aa (λ aB=>?_) (λ aJ=>⟨Ac B2 B3,i,false,rfl,hi,λ h=>by cases h⟩)⟩;have aD:i<C.CC.length:=Omg;obtain⟨p,hp,e0,_⟩:=Th (S3.rd 3 rfl) aD;subst hp;exact⟨_,_,_,S3.cell 0 rfl rfl,⟨Omg,Omg⟩,_,by rw [Ait];exact e0,Ac B2 B3,i,_,rfl,hi,λ _=>aD⟩
end
section
variable {w0 w:World}{H:List It}{a a2:Option Addr}{c c2:Nat}{l:List UInt8}{cs:List Bv}
set_option maxHeartbeats 1000000 in
theorem OY(hl:Rd w a (l.map Ag))(hc:l.length<=c)(hs:l.length<=140737488355328)(at_:Int)(cV:at_<=9223372036854775807)(aj:Rd w a2 (BF cs))(hn:cs.length<=9223372036854775807)(hq:∀ c∈cs,c.1.size<=9223372036854775807) :
  Cw 85 #[.slice a l.length c,.int .i64 at_,.slice a2 cs.length c2] w λ v w'=>Wx (Be l cs at_) w w' v:=by
 apply La
 delta A Ab DZ Bz Cb F H I J Ks Li Lt N O J8 S Am T W;try dsimp only [Ps]
 refine (DE aj hn hq).mono ?_;rintro _ w1 ⟨_,rfl,rfl,e1⟩;subst e1;have S:=ST.start w1;have bad:∀ {wx:World} (e:Int),e≠0->Below w1.heap.size w1 wx->Be l cs at_=none->Wx (Be l cs at_) w1 wx (.tuple #[.slice none 0 0,.int .i64 0,.int .i64 e]):=by
  intro wx e h0 B h;rw [h];exact⟨e,h0,rfl,B⟩
 refine⟨_,rfl,As (Aq (λ hR=>?_) (λ hR=>bad 50 Ode S.Ar (by simp [Be,hR])))⟩;have bQ:=AX hR;refine (AJ (c:=c) (hl.grown S.Ar) Omg at_ cV).mono ?_;rintro _ w2 ⟨_,rfl,rfl,rfl⟩;obtain⟨n,aL,e,hv,hk,qy,hx⟩:=DT _ (rfl:takeN l at_=takeN l at_);rw [hv];refine⟨_,_,_,rfl,Ai (λ h=>bad 52 Ode S.Ar ?_) (λ h=>?_)⟩
 ·rcases hx with ⟨h2,_⟩ | ⟨_,h2⟩
  ·exact absurd h2 h
  ·simp [Be,h2]
 have rL:takeN l at_=some (n,aL):=by
  rcases hx with ⟨_,h2⟩ | ⟨h2,_⟩
  ·exact h2
  ·exact absurd h h2
 have hT:Be l cs at_=if n<=1024 then BN (QP l cs) n aL else none:=by simp [Be,hR,rL]
 refine Aa (λ h=>bad 52 Ode S.Ar (by rw [hT,if_neg Omg])) (λ hle=>?_);rw [if_pos Omg] at hT;rw [wrap_i64 Omg Omg];refine⟨λ s wx=>∃(i aX:Nat) (qs:List BH) (ra:Option Addr) (rc:Nat),s=[.int .i64 (aX:Int),.slice ra qs.length rc,.int .i64 (i:Int)]/\i<=n/\qs.length=i/\aX<=l.length/\BN (QP l cs) i aL=some (rws qs,aX)/\ST w2 wx ([Gj ra rc qs]++qs.map EF),λ s _=>match s with
  | [_,_,.int _ i]=>n-i.toNat
  | _=>0,⟨0,aL,[],none,0,rfl,Omg,rfl,hk,rfl,S.nil _ _⟩,?_⟩
 clear S;rintro _ ra _ rc _ w3 ⟨i,aX,qs,_,_,aA,hi,wm,um,aW,S⟩;cases aA;refine Aa (λ aB=>?_) (λ aJ=>?_)
 ·have jh:i<n:=Omg;have kD:BN (λ a=>Bg l (a:Int)) cs.length aX=none->Be l cs at_=none:=λ h=>by
   rw [hT];refine FY (i:=i+1) ?_ jh;rw [CZ aW,QP,h];rfl
  refine⟨λ s wx=>∃(k bH:Nat) (cur:List AD) (va:Option Addr) (vc:Nat),s=[.int .i64 (bH:Int),.slice va cur.length vc,.int .i64 (k:Int)]/\k<=cs.length/\cur.length=k/\bH<=l.length/\BN (λ a=>Bg l (a:Int)) k aX=some (cur,bH) /\
    ST w2 wx (Lx va vc cur :: ([Gj ra rc qs]++qs.map EF)),λ s _=>match s with
   | [_,_,.int _ k]=>cs.length-k.toNat
   | _=>0,⟨0,aX,[],none,0,rfl,Omg,rfl,um,rfl,S.nil _ _⟩,?_⟩
  clear S;rintro _ va _ vc _ w5 ⟨k,bH,cur,_,_,aA,ay,jZ,uo,cM,S⟩;cases aA;refine Aa (λ av=>?_) (λ bz=>?_)
  ·have aO:k<cs.length:=Omg;refine (Ig (hl.grown S.Ar) hc Omg (bH:Int)).mono ?_;rintro _ w6 ⟨_,rfl,rfl,B6⟩;have S:=S.grown B6;obtain⟨v,k3,e3,hv3,iQ,hx3⟩:=IW _ (rfl:Bg l (bH:Int)=Bg l (bH:Int));rw [hv3];obtain⟨v1,v2,v3⟩:=v;refine⟨_,_,_,_,_,rfl,S.An λ th w7 _ _ S=>S.BD 0 rfl (aC:=#[.int .i64 v1,.int .i64 0,.string ⟨#[]⟩]) Osi rfl λ w8 S=>S.BD 0 rfl (aC:=#[.int .i64 v1,.int .i64 v2,.string ⟨#[]⟩]) Osi rfl λ w9 S=>S.BD 0 rfl (aC:=#[.int .i64 v1,.int .i64 v2,.string v3]) Osi rfl λ bX S=>Ai (λ h=>bad 52 Ode S.Ar (kD ?_)) (λ h=>?_)⟩
   ·refine FY (i:=k+1) ?_ aO;rw [CZ cM];rcases hx3 with ⟨h2,_⟩ | ⟨_,h2⟩
    ·exact absurd h2 h
    ·simp [h2]
   ·have oP:Bg l (bH:Int)=some ((v1,v2,v3),k3):=by
     rcases hx3 with ⟨_,h2⟩ | ⟨h2,_⟩
     ·exact h2
     ·exact absurd h h2
    refine⟨_,S.cell 0 rfl rfl,_,S.cell 0 rfl rfl,_,S.cell 0 rfl rfl,S.An λ mX aZ _ _ S=>?_⟩;refine Xe S 2 AgA rfl (x:=(v1,v2,v3)) (S.F0 0 rfl) Omg λ a' c' bL S=>⟨_,_,_,rfl,?_⟩;rw [Ae Omg];refine⟨⟨k+1,k3,cur++[(v1,v2,v3)],a',c',rfl,Omg,by simp [jZ],iQ,?_,S.drop 2⟩,by simp only [Ait];omega⟩;rw [CZ cM,oP];rfl
  ·obtain rfl:k=cs.length:=Omg;have hF:=Ih (c:=c2) (c2:=vc) (aj.grown S.Ar) hn hq (S.rd 0 rfl:Rd w5 va (AR cur));refine hF.mono ?_;rintro _ bX ⟨_,rfl,rfl,bu⟩;have S:=S.grown bu;rw [hR,Bool.true_and];refine⟨_,rfl,As (Aq (λ hf=>?_) (λ hf=>bad 52 Ode S.Ar ?_))⟩;rotate_left
   ·rw [hT];refine FY (i:=i+1) ?_ jh;rw [CZ aW,QP,cM];simp [hf]
   obtain⟨p,hp⟩:∃ p:BH,p=(va,vc,cur):=⟨_,rfl⟩;have S:ST w2 bX (EF p :: ([Gj ra rc qs]++qs.map EF)):=by rw [hp];exact S
   refine S.An λ rq al _ _ S=>?_;have jl:Rd al (some ⟨rq,0,none⟩) [Co p]:=by
    rw [hp];exact S.F0 0 rfl
   refine Aey S (n:=2) rfl jl Omg λ a' c' bL S=>⟨_,_,_,rfl,?_⟩;rw [Ae Omg];refine⟨⟨i+1,bH,qs++[p],a',c',rfl,Omg,by simp [wm],uo,?_,V3 (S.drop 1)⟩,by simp only [Ait];omega⟩;rw [CZ aW,QP,cM,Option.bind_some,if_pos hf,hp];simp [rws]
 ·obtain rfl:i=n:=Omg;rw [hT,aW];exact⟨_,_,qs,rfl,rfl,S⟩
end
section
variable {w:World}{a a2:Option Addr}{c c2:Nat}{cs:List Bv}{ps:List BH}
theorem U0(l:List UInt8)(hl:Rd w a (l.map Ag))(n:Nat)(hn:n<9223372036854775807)(p:AD × AD)(h1:AK p.1=true/\BM p.1)(h2:AK p.2=true/\BM p.2)(hs:l.length+10000<=140737488355328) :
  Cw 111 #[.slice a l.length c,.agg (zC (n:Int) p)] w λ v w'=>∃ a' c',v=.slice a' (l++(Af n++Cr p.1++Cr p.2)).length c'/\Bj w w' (l++(Af n++Cr p.1++Cr p.2)) a' c':=by
 apply QL
 delta A Ab AM Cs E I Li Lt N S T U Wu;try dsimp only [Ps]
 have d1:=Ah (n:=n) Omg;have d2:=Ho h1.1 h1.2;have d3:=Ho h2.1 h2.2;refine (ST.start w).An λ b9 w1 _ B1 S=>⟨_,S.cell 0 rfl rfl,?_⟩;rw [Aj Omg Omg];refine (Bf l (hl.grown B1) n Omg Omg).mono ?_;rintro _ w2 ⟨_,rfl,x2,y2,rfl,N2⟩;have S:=Ba S N2;refine⟨_,_,_,rfl,_,S.cell 1 rfl rfl,_,S.cell 1 rfl rfl,_,S.cell 1 rfl rfl,(Jv (l++Af n) (Dd S 0 rfl) p.1 h1.2 (by rw [Aiq];omega)).mono ?_⟩;rintro _ w3 ⟨_,rfl,h3⟩;obtain⟨x3,y3,rfl,N3⟩:=IF h1.1 h3;have S:=Ba S N3;refine⟨_,_,_,_,rfl,_,S.cell 2 rfl rfl,_,S.cell 2 rfl rfl,_,S.cell 2 rfl rfl,(Jv (l++Af n++Cr p.1) (Dd S 0 rfl) p.2 h2.2 (by simp only [Aiq];omega)).mono ?_⟩;rintro _ w4 ⟨_,rfl,h4⟩;obtain⟨x4,y4,rfl,N4⟩:=IF h2.1 h4;have S:=Ba S N4;have e:l++(Af n++Cr p.1++Cr p.2)=l++Af n++Cr p.1++Cr p.2:=Osi;rw [e];exact⟨_,_,_,_,rfl,x4,y4,rfl,Y5 S 0 rfl⟩
theorem Acl(n:Nat):(#[Value.int .u8 (IntKind.u8.wrap (n:Int)),.int .u8 (IntKind.u8.wrap (AiJ (n:Int) (2 ^ (min 8 64)))),.int .u8 (IntKind.u8.wrap (AiJ (n:Int) (2 ^ (min 16 64)))),.int .u8 (IntKind.u8.wrap (AiJ (n:Int) (2 ^ (min 24 64))))]:Array Value)=((KJ n).map Ag).toArray:=by
 have sh:∀ k,AiJ (n:Int) (2 ^ k)=((n / 2 ^ k:Nat):Int):=λ k=>by
  rw [Int.fdiv_eq_ediv_of_nonneg _ (Int.pow_nonneg Ode)]
  norm_cast
 have by_:∀ m:Nat,Value.int .u8 (IntKind.u8.wrap (m:Int))=Ag (UInt8.ofNat (m % 256)):=λ m=>by
  rw [wrap_u8,<- Ck (x:=m % 256) Omg];congr 1
 rw [show min 8 64=8 from rfl,show min 16 64=16 from rfl,show min 24 64=24 from rfl,sh,sh,sh,by_,by_,by_,by_];rfl
set_option maxHeartbeats 1000000 in
theorem Ht(hl:Rd w a (BF cs))(hn:cs.length<=9223372036854775807)(hq:∀ c∈cs,c.1.size<=9223372036854775807)(hr:A9 w a2 ps)(hm:ps.length<=9223372036854775807)(hv:∀ r∈rws ps,∀ v∈r,BM v) :
  Cw 69 #[.slice a cs.length c,.slice a2 ps.length c2] w λ v w'=>AbP cs (rws ps) v/\Below w.heap.size w w':=by
 apply O6
 delta A Ab Ad B Ew AM Cb Cs D E F H I J Ks Li Ls Lt Ly N O Qi Eg AbO Rs Rt S Am T U W Wb Wu X;try dsimp only [Ps]
 have bad:∀ {wx:World} (e:Int),Below w.heap.size w wx->(DW cs (rws ps)=e)->e≠0->AbP cs (rws ps) (.tuple #[.string ⟨#[]⟩,.int .i64 e])/\Below w.heap.size w wx:=by
  rintro wx e B rfl h0;refine⟨.inl ⟨λ hs=>h0 ?_,rfl,h0⟩,B⟩;have h1:¬ (1024<(rws ps).length\/∃ r∈rws ps,CT cs r=false):=by
   rintro (h | ⟨r,hr,h⟩)
   ·have:=hs.len;omega
   ·rw [hs.fits r hr] at h;cases h
  have h2:¬ Ao cs=false:=by rw [hs.right];decide
  rw [DW,if_neg h2,if_neg h1]
 refine (DE hl hn hq).mono ?_;rintro _ w1 ⟨_,rfl,rfl,rfl⟩;refine⟨_,rfl,As (Aq (λ hR=>?_) (λ hR=>bad 50 (.refl _ _) (by rw [DW,if_pos hR]) Ode))⟩;have gp:¬ Ao cs=false:=by rw [hR];decide
 refine Aa (λ h=>bad 51 (.refl _ _) ?_ Ode) (λ hlen=>?_)
 ·have:1024<(rws ps).length:=by simp only [rws,AiH];omega
  rw [DW,if_neg gp,if_pos (.inl this)]
 have bN:ps.length<=1024:=Omg;refine⟨λ s w2=>∃ i:Nat,s=[.int .i64 (i:Int)]/\i<=ps.length/\Below w1.heap.size w1 w2/\∀ j (hj:j<ps.length),j<i->CT cs ps[j].2.2=true,λ s _=>match s with
   | [.int _ i]=>ps.length-i.toNat
   | _=>0,⟨0,rfl,Omg,.refl _ _,λ j hj h=>Omg⟩,?_⟩
 rintro _ w2 ⟨i,aA,hi,B2,aF⟩;cases aA;refine Aa (λ aB=>⟨⟨Omg,aB⟩,?_⟩) (λ aJ=>?_)
 ·have aD:i<ps.length:=Omg;obtain⟨q,rfl,mB,aI⟩:=(hr.grown B2).at aD;refine⟨_,_,_,by rw [Ait];exact mB,(Ih (hl.grown B2) hn hq aI).mono ?_⟩;rw [hR,Bool.true_and];rintro _ w3 ⟨_,rfl,rfl,B3⟩;have C3:=Ac B2 B3;refine⟨_,rfl,As (Aq (λ hf=>?_) (λ hf=>bad 51 C3 ?_ Ode))⟩
  ·rw [Ae Omg];refine⟨⟨i+1,rfl,Omg,C3,λ j hj dX=>?_⟩,by simp only [Ait];omega⟩;rcases Nat.lt_or_ge j i with h | h
   ·exact aF j hj h
   ·obtain rfl:j=i:=Omg;exact hf
  ·rw [DW,if_neg gp,if_pos (.inr ⟨_,Ah9.2 ⟨ps[i],Ai7 aD,rfl⟩,hf⟩)]
 have aK:Br cs (rws ps):=by
  refine⟨hR,by simp only [rws,AiH];omega,λ r hr=>?_,hv⟩;obtain⟨p,hp,rfl⟩:=Ah9.1 hr;obtain⟨j,hj,rfl⟩:=List.getElem_of_mem hp;exact aF j hj Omg
 clear aF aJ hi;have lK:∀ p∈ps,p.2.2.length=cs.length:=λ p hp=>aK.Ud (Ah9.2 ⟨p,hp,rfl⟩);have bQ:=AX hR;have bF:=Fy hR;have d1:=Ah (n:=ps.length) Omg;have S:=(ST.start w1).grown B2;refine S.An λ ij w4 uv B4 S=>XS Af4 AeL (S.CA 0 rfl) λ w5 K5 yg=>⟨_,_,_,rfl,?_⟩;have S:=S.H7 0 rfl (K5.mono λ k _ h=>by subst h;rfl) (AbR (some ⟨ij,0,none⟩) 4 Cg) (.inr ⟨_,rfl,rfl,Rd.Al yg,rfl,(Array.getElem?_eq_some_iff.1 yg).1⟩) (λ k hk=>.inl hk);refine (Jw (l:=[]) (a:=none) (c:=0) (Rd.nil _ _) Osi (hl.grown S.Ar) hn hq).mono ?_;rintro _ w6 ⟨_,rfl,h6⟩;rcases h6 with ⟨hR0,_⟩ | ⟨_,a6,c6,rfl,N6⟩
 ·exact absurd hR0 gp
 rw [Ajt] at N6 ⊢;have S:=Ba S N6;rw [Aj Omg Omg];refine⟨_,_,_,_,rfl,(Bf (Cx cs) (Dd S 0 rfl) ps.length Omg Omg).mono ?_⟩;rintro _ w7 ⟨_,rfl,a7,c7,rfl,N7⟩;have S:=Ba S N7;refine⟨_,_,_,rfl,?_⟩;refine⟨λ s wx=>∃(xs:List (List UInt8)) (fa:Option Addr) (fc:Nat) (ba:Option Addr) (bc:Nat),xs.length<=cs.length/\Ed cs (rws ps) xs/\s=[.slice ba (Cg++xs.flatten).length bc,.slice fa (Cx cs++Af ps.length++Cm (rws ps) xs).length fc,.int .i64 (xs.length:Int)] /\
   ST w1 wx [BW fa fc (Cx cs++Af ps.length++Cm (rws ps) xs),AbR ba bc (Cg++xs.flatten)],λ s _=>match s with
   | [_,_,.int _ i]=>cs.length-i.toNat
   | _=>0,⟨[],a7,c7,some ⟨ij,0,none⟩,4,Osi,.nil _ _,?_,?_⟩,?_⟩
 ·have e1:Cx cs++Af ps.length++Cm (rws ps) ([]:List (List UInt8))=Cx cs++Af ps.length:=by simp [Cm]
  have e2:Cg++([]:List (List UInt8)).flatten=Cg:=Osi;rw [e1,e2];rfl
 ·have e1:Cx cs++Af ps.length++Cm (rws ps) ([]:List (List UInt8))=Cx cs++Af ps.length:=by simp [Cm]
  have e2:Cg++([]:List (List UInt8)).flatten=Cg:=Osi;rw [e1,e2];exact S.sub ((List.sublist_cons_self _ _).cons_cons _)
 clear S N6 N7;rintro _ _ _ _ _ _ _ w8 ⟨xs,fa,fc,ba,bc,mG,eH,aA,S⟩;cases aA;have ct:=eH.flat aK;have qZ:=eH.AdM aK;refine Aa (λ aB=>?_) (λ aJ=>?_)
 ·have mC:xs.length<cs.length:=Omg;have hg:=aK.DN mC;obtain⟨⟨z1,z2⟩,z3,z4⟩:=hg.AaH;have eK:(Bt (rws ps) xs.length).length=ps.length:=by rw [FW];simp [rws]
  obtain⟨dO,hcolE⟩:∃ dO,dO=Bt (rws ps) xs.length:=⟨_,rfl⟩;refine (Sa (hr.grown S.Ar) Omg (k:=xs.length) (λ q hq=>by rw [lK q hq];exact mC)).mono ?_;rw [<- hcolE] at hg z1 z2 z3 z4 eK ⊢;rintro _ w9 ⟨_,rfl,la,lc,rfl,P⟩;have S:=S.join P;obtain⟨p,rfl,c0,c1,c2⟩:=Fq (hl.grown S.Ar) mC;refine⟨_,_,_,rfl,⟨Omg,aB⟩,_,by rw [Ait];exact c1,(JN (c:=lc) cs[xs.length].2.1 (AeA S 0 rfl) Omg hg.ok).mono ?_⟩;rintro _ bX ⟨_,rfl,mi⟩;rcases mi with ⟨aP,_⟩ | ⟨_,x,xa,xc,hx,rfl,mi⟩
  ·rw [hg.right] at aP;cases aP
  have dE:=hx.len hg;have xW:0<x.length:=by have:=(hx.read hg).2.1;omega
  have S:=Ba S mi;refine⟨_,_,_,_,rfl,(UY (c:=lc) (AeA S 1 rfl)).mono ?_⟩;rintro _ aZ ⟨_,rfl,hz,cH⟩;have S:=S.grown cH;obtain⟨zn,zp,ze,rfl,eM⟩:=hz.open;obtain⟨rfl,rfl⟩:zn=(Au dO:Int)/\zp=FM dO:=by
   rcases eM with ⟨_,h1,h2,_⟩ | ⟨h1,_⟩
   ·exact⟨h1,h2⟩
   ·exact absurd hg.GD h1
  refine⟨_,_,_,_,_,_,_,_,rfl,S.An λ tj bL _ _ S=>S.Y7 0 rfl λ gb S=>?_⟩;refine Aav S 4 rfl (Dd S 1 rfl) xW (by simp only [Aiq,Cg,Ais,AjE];omega) λ a20 rz eT S=>⟨_,_,_,rfl,S.draw λ gG _ S=>?_⟩;refine⟨_,S.cell 0 rfl rfl,_,S.cell 0 rfl rfl,_,S.cell 0 rfl rfl,_,S.cell 0 rfl rfl,_,S.cell 0 rfl rfl,_,S.cell 0 rfl rfl,_,S.cell 0 rfl rfl,?_⟩;rw [Aj (n:=(x.length:Int)) Omg Omg];have qy:=CW dO;have d2:=Ah (n:=x.length) Omg;have d4:=Ah (n:=Au dO) Omg;refine (Bf (Cx cs++Af ps.length++Cm (rws ps) xs) (Dd S 3 rfl) x.length Omg (by simp only [Aiq];omega)).mono ?_;rintro _ gd ⟨_,rfl,a22,c22,rfl,zm⟩;have S:=Ba S zm;refine⟨_,_,_,rfl,⟨S.cell 1 rfl rfl,S.cell 1 rfl rfl,S.cell 1 rfl rfl,S.cell 1 rfl rfl,S.cell 1 rfl rfl,S.cell 1 rfl rfl,S.cell 1 rfl rfl⟩,?_⟩;refine (U0 (Cx cs++Af ps.length++Cm (rws ps) xs++Af x.length) (Dd S 0 rfl) (Au dO) Omg (FM dO) ⟨z1,z2⟩ ⟨z3,z4⟩ (by simp only [Aiq];omega)).mono ?_;rintro _ fN ⟨_,rfl,a23,yB,rfl,zo⟩
  have S:=Ba S zo;have ef:Cx cs++Af ps.length++Cm (rws ps) xs++Af x.length++(Af (Au dO)++Cr (FM dO).1++Cr (FM dO).2)=Cx cs++Af ps.length++Cm (rws ps) (xs++[x]):=by
   rw [Q7,<- hcolE];simp [JI]
  have eb:Cg++xs.flatten++x=Cg++(xs++[x]).flatten:=Osi;have el:xs.length+1=(xs++[x]).length:=Osi;rw [ef,eb] at S;rw [Ae Omg,ef,eb,el];refine⟨_,_,_,rfl,⟨xs++[x],a23,yB,a20,rz,by rw [<- el];omega,eH.snoc mC (by rw [<- hcolE];exact hx),rfl,?_⟩,by rw [<- el];simp only [Ait];omega⟩;have S2:ST w1 fN [BW a23 yB (Cx cs++Af ps.length++Cm (rws ps) (xs++[x])),BW a20 rz (Cg++(xs++[x]).flatten)]:=S.sub ((((Akd _).cons _).cons _).cons _ |>.cons _ |>.cons _ |>.cons_cons _);exact Abo S2 1 rfl
 ·have dE:xs.length=cs.length:=Omg;have vg:=eH.Sq aK;have bM:=eH.Aam aK;have s7:Cx cs++Af ps.length++Cm (rws ps) xs=Dy cs (rws ps) xs:=by
   unfold Dy;rw [show (rws ps).length=ps.length by simp [rws]]
  rw [s7] at S ⊢;obtain⟨ft,bV⟩:∃ ft,ft=Dy cs (rws ps) xs:=⟨_,rfl⟩;have vh:0<ft.length:=by
   rw [bV,<- s7];have:0<(Cx cs).length:=by
    unfold Cx;rw [Aiq];have:=List.length_pos_iff.2 (HU cs.length);omega
   simp only [Aiq];omega
  rw [<- bV] at S vg ⊢;obtain⟨bb,iM⟩:∃ bb,bb=Cg++xs.flatten:=⟨_,rfl⟩;rw [<- iM] at S ⊢;have ebl:bb.length<=33000004:=by rw [iM];simp only [Aiq,Cg,Ais,AjE];omega
  refine Aav S 1 rfl (Dd S 0 rfl) vh Omg λ a24 ov du S=>⟨_,_,_,rfl,?_⟩;rw [Acl];refine S.An λ b55 eA _ _ S=>?_;have oG:Rd eA (some ⟨b55,0,none⟩) ((KJ ft.length).map Ag):=S.F0 0 rfl;refine Xd S 2 rfl (m:=KJ ft.length) (k:=4) rfl oG (by simp only [Aiq,KJ,Ais,AjE];omega) λ a26 s3 ie S=>⟨_,_,_,rfl,?_⟩;have mf:bb++ft++KJ ft.length=JX cs (rws ps) xs:=by rw [iM,bV];rfl
  rw [mf] at S ⊢;obtain⟨pre,cl⟩:∃ pre,pre=JX cs (rws ps) xs:=⟨_,rfl⟩;rw [<- cl] at S bM ⊢;have vO:=(S.get 2 rfl:Row ie _ _ _ _ _ _).le;refine (Ju pre (Dd S 2 rfl) vO Omg).mono ?_;rintro _ lS ⟨_,rfl,rfl,od⟩;have S:=S.grown od;have bp:(H9 pre).length=32:=Fu _;obtain⟨dg,hdg⟩:∃ dg,dg=H9 pre:=⟨_,rfl⟩;rw [<- hdg] at bp ⊢;have jb:(dg.map Ag).length=32:=by rw [AiH];exact bp
  refine Iw dg bp ⟨rfl,S.An λ ru oZ _ _ S=>Dg jb (S.Eb 0 rfl jb (FR _) λ kV S=>?_)⟩;have S2:ST w1 kV [It.cells ru ⟨dg.map Ag⟩ 142,BW a26 s3 pre]:=S.sub (((Akd _).cons _).cons _ |>.cons_cons _);refine⟨λ s wx=>∃(j:Nat) (xa:Option Addr) (xc:Nat),s=[.slice xa (pre++dg.take j).length xc,.int .i64 (j:Int)]/\j<=32/\ST w1 wx [It.cells ru ⟨dg.map Ag⟩ 142,BW xa xc (pre++dg.take j)],λ s _=>match s with
   | [_,.int _ i]=>32-i.toNat
   | _=>0,⟨0,a26,s3,Osi,Omg,by simpa using S2⟩,?_⟩
  clear S S2;rintro _ _ _ _ eU ⟨j,xa,xc,aA,hj,S⟩;cases aA;refine Aa (λ av=>⟨⟨Omg,av⟩,?_⟩) (λ bz=>?_)
  ·have f':j<dg.length:=Omg;have aE:eU.cell? ((⟨ru,0,none⟩:Addr).add ((j:Int).toNat*1))=some (.int .u8 (dg[j].toNat:Int)):=by
    rw [Ait,Ax,Aiv,Aiw];refine S.cell 0 rfl ?_;simp [f',Ag]
   refine⟨_,aE,S.An λ b67 cR _ _ S=>?_⟩;have aY:Rd cR (some ⟨b67,0,none⟩) ([dg[j]].map Ag):=S.F0 0 rfl;refine Xd S 2 rfl (m:=[dg[j]]) (k:=1) rfl aY (by simp only [Aiq,Ajm,Ais,AjE];omega) λ a33 s4 j0 S=>⟨_,_,_,rfl,?_⟩;have ej:pre++dg.take j++[dg[j]]=pre++dg.take (j+1):=by rw [Ajl f',List.append_assoc]
   rw [ej] at S;rw [Ae Omg,ej];exact⟨⟨j+1,a33,s4,rfl,Omg,S.drop 1⟩,by simp only [Ait];omega⟩
  ·obtain rfl:j=32:=Omg;rw [AiZ Omg] at S ⊢;refine Aw Ca rfl (Dd S 1 rfl) ⟨_,rfl,.inr ⟨aK,_,rfl,⟨xs,dE,eH,?_⟩⟩,S.Ar⟩;rw [Lh,hdg,cl]
end
theorem Rr{l:List UInt8}:∀(n at_:Nat) {r:List Bv × Nat},A8 l at_ n=some r->at_<=l.length->r.2<=l.length
 | 0,at_,r,h,h0=>by simp only [A8,Option.some.injEq] at h;subst h;exact h0
 | n+1,at_,r,h,h0=>by
  unfold A8 at h;cases hx:BG l (at_:Int) 24 with
  | none=>rw [hx] at h;cases h
  | some x =>
   rw [hx] at h;simp only at h;split at h
   ·cases h
   ·rename_i aP;obtain⟨y,hy,rfl⟩:=Option.map_eq_some_iff.1 h;have:=Rr n (x.2+2) hy Omg;exact this
theorem AaB{l:List UInt8}{at_:Int}{r:List Bv × Nat}(h:A7 l at_=some r):r.2<=l.length:=by
 unfold A7 at h;split at h
 ·cases h
 ·rename_i x hx;obtain⟨_,_,_,hb,_⟩:=AA hx;split at h
  ·cases h
  ·split at h
   ·cases h
   ·rename_i y hy;split at h
    ·cases h;exact Rr _ _ hy hb
    ·cases h
theorem AcF(Ay:List (List AD))(l:List AD)(q:Nat):rowAt (Ay++[l]) q=rowAt Ay q++[l.getD q Z0]:=by simp [rowAt]
def RdV(b:List UInt8)(w w':World)(v:Value):Prop :=
 Below w.heap.size w w'/\((∃ cs Ay ps ca cc bo n,v=.tuple #[.slice ca cs.length cc,.slice (some ⟨bo,0,none⟩) n n,.bool true]/\Rd w' ca (BF cs)/\A9 w' (some ⟨bo,0,none⟩) ps/\ps.length=n/\n<=1024/\Ao cs=true/\rws ps=rowsOf Ay n /\
   (∀ dO∈Ay,dO.length=n/\∃ k,Bb k dO)/\(∀ aC rows' gf,Ee aC rows' gf b->cs=aC/\n=rows'.length/\Ay=(Ai0 aC.length).map (Bt rows'))/\ST w w' (EV bo ps)) \/
  (v=.tuple #[.slice none 0 0,.slice none 0 0,.bool false]/\∀ aC rows' gf,¬ Ee aC rows' gf b))
theorem Ab8{xs:List (List UInt8)}{i:Nat}(hi:i<xs.length):(xs.take (i+1)).flatten=(xs.take i).flatten++xs[i]:=by
 rw [Ajl hi,List.flatten_append];simp
section
variable {w:World}{a:Option Addr}{c:Nat}{b:List UInt8}
set_option maxHeartbeats 1000000 in
theorem UZ(s:ByteArray)(hb:b=(bl s).take (s.size-32))(pz:40<=s.size)(hs:s.size<=140737488355328) :
  Cw 92 #[.string s] w λ v w'=>RdV b w w' v:=by
 apply QK
 delta Ad Vb AaI HQ D F G H I J Ks Li Ls Lt Ly N O Qi MH Rs S Am T W X Y;try dsimp only [Ps]
 have bF:=AW s;have an:b.length=s.size-32:=by rw [hb,Ajm];omega
 have eW:IntKind.i64.wrap ((s.size:Int)-32)=(b.length:Int):=by rw [wrap_i64 Omg Omg];omega
 rw [eW,Ait];have eX:s.extract 0 b.length=Bu b:=by rw [extract_eq,AjV,AjT,an,<- hb]
 rw [eX];refine⟨⟨Omg,Omg,Omg⟩,BT Ca (Bu b) w λ b0 c0 cells e0 w1 bZ B1 jf aj iy cZ=>?_⟩;rw [AP] at iy cZ ⊢;rw [Bn] at cZ;have dS:Rd w1 (some ⟨b0,0,none⟩) (b.map Ag):=by
  have:=(Rd.Al jf).take b.length;rw [cZ] at this;exact this
 refine⟨_,_,_,rfl,?_⟩;obtain⟨t,ht⟩:∃ t,t=b.drop (b.length-4):=⟨_,rfl⟩;have fD:t.length=4:=by rw [ht,AiT];omega
 refine⟨λ st w2=>∃ k:Nat,st=[.int .i64 (Kb t k:Int),.int .i64 ((k+1:Nat):Int)]/\k<=4/\w1=w2,λ st _=>match st with
   | [_,.int _ i]=>5-i.toNat
   | _=>0,⟨0,by simp [Kb],Omg,rfl⟩,?_⟩
 rintro _ _ w2 ⟨k,aA,hk,rfl⟩;cases aA;refine Aa (λ aB=>?_) (λ aJ=>?_)
 ·have nt:k<t.length:=Omg;have h1:=N9 (l:=t) k Omg;have h2:256 ^ k<=256 ^ 3:=Nat.pow_le_pow_right Omg Omg;have h3:(256:Nat) ^ 3=16777216:=Ode;have hbi:b.length-(k+1)<b.length:=Omg;have eI:IntKind.i64.wrap ((b.length:Int)-((k+1:Nat):Int))=((b.length-(k+1):Nat):Int):=by rw [wrap_i64 Omg Omg];omega
  rw [eI,Ait];obtain⟨p,hp,aE⟩:=byte_at dS hbi;cases hp;refine⟨⟨Omg,Omg⟩,_,aE,?_⟩;have pJ:t[t.length-1-k]'Omg=b[b.length-(k+1)]:=by
   simp only [ht,List.getElem_drop,AiT];congr 1;omega
  have av:=(b[b.length-(k+1)]).toNat_lt;have ea:IntKind.i64.wrap (IntKind.i64.wrap (256*(Kb t k:Int))+IntKind.i64.wrap ((b[b.length-(k+1)]).toNat:Int))=(Kb t (k+1):Int):=by
   rw [PL nt,pJ,wrap_i64 (n:=256*(Kb t k:Int)) Omg Omg,wrap_i64 (n:=((b[b.length-(k+1)]).toNat:Int)) Omg Omg,wrap_i64 Omg Omg];omega
  have eb:IntKind.i64.wrap (((k+1:Nat):Int)+1)=((k+1+1:Nat):Int):=Ae Omg;rw [ea,eb];exact⟨⟨k+1,rfl,Omg,rfl⟩,by simp only [Ait];omega⟩
 obtain rfl:k=4:=Omg;obtain⟨n,hn⟩:∃ n,n=Kb t 4:=⟨_,rfl⟩;have wW:n<4294967296:=by rw [hn];exact N9 (l:=t) 4 Omg
 have oJ:∀ cs rows xs,Ee cs rows xs b->n=(Dy cs rows xs).length:=λ cs rows xs h=>by rw [hn,ht];exact h.split.2.1
 rw [<- hn];have eW1:IntKind.i64.wrap ((b.length:Int)-4)=((b.length-4:Nat):Int):=by rw [wrap_i64 Omg Omg];omega
 rw [eW1];simp only [Ait,AjT];refine⟨⟨Omg,Omg,Omg⟩,?_⟩;have pk:IntKind.i64.wrap (((b.length-4:Nat):Int)-4)=((b.length-8:Nat):Int):=by rw [wrap_i64 Omg Omg];omega
 have S:=ST.start w1;have bad:∀ {wx:World},Below w.heap.size w wx->(∀ aC rows' gf,¬ Ee aC rows' gf b)->RdV b w wx (.tuple #[.slice none 0 0,.slice none 0 0,.bool false]):=λ B h=>⟨B,.inr ⟨rfl,h⟩⟩;refine Aa (λ h=>bad (Ac B1 S.Ar) λ cs rows xs hP=>?_) (λ hle=>?_)
 ·have:=hP.split.2.2.1;have:=oJ cs rows xs hP;rw [pk] at h;omega
 rw [pk] at hle;have kT:n<=b.length-8:=Omg;have s6:IntKind.i64.wrap (((b.length-4:Nat):Int)-(n:Int))=((b.length-4-n:Nat):Int):=by rw [wrap_i64 Omg Omg];omega
 simp only [s6,Ait];refine⟨⟨Omg,Omg,Omg⟩,?_⟩;obtain⟨iW,_⟩:=Rh (c:=c0) dS iy Omg kT;obtain⟨ft,bV⟩:∃ ft,ft=(b.take (b.length-4)).drop (b.length-4-n):=⟨_,rfl⟩;obtain⟨bd,gr⟩:∃ bd,bd=(b.take (b.length-4-n)).drop 4:=⟨_,rfl⟩;rw [<- bV] at iW;obtain⟨fa,hfa⟩:∃ fa,fa=Ch (Ch (some ⟨b0,0,none⟩) 0 c0 1) (b.length-4-n) c0 1:=⟨_,rfl⟩;rw [<- hfa] at iW ⊢;have l9:ft.length=b.length-4-(b.length-4-n):=by rw [bV,AiT,Ajm];omega
 have qR:bd.length=b.length-4-n-4:=by rw [gr,AiT,Ajm];omega
 rw [<- l9];have cJ:∀ cs rows xs,Ee cs rows xs b->ft=Dy cs rows xs/\bd=xs.flatten:=λ cs rows xs hP=>by
  have e:=oJ cs rows xs hP;have:=hP.split.2.2.2;rw [<- e] at this;exact⟨by rw [bV];exact this.1,by rw [gr];exact this.2⟩
 have hT:=Ii (c:=c0-(b.length-4-n)) iW Omg Omg 0 Omg;refine hT.mono ?_;rintro _ bX ⟨_,rfl,hT⟩;obtain⟨cs,ca,cc,aL,e,rfl,S,bQ,aj⟩:=hT.open S (λ r h=>CV h);refine⟨_,_,_,_,_,rfl,Ai (λ h=>bad (Ac B1 S.Ar) λ aC rows xs hP=>?_) (λ he=>?_)⟩
 ·have h2:=ID (xs:=xs) hP.ok;rw [<- (cJ aC rows xs hP).1] at h2;rcases aj with ⟨h3,_⟩ | ⟨_,h3⟩
  ·exact h h3
  ·rw [h2] at h3;cases h3
 have gP:A7 ft 0=some (cs,aL)/\Ao cs=true:=by
  rcases aj with ⟨_,h3⟩ | ⟨h3,_⟩
  ·exact h3
  ·exact absurd he h3
 have nF:aL<=ft.length:=AaB gP.1;refine (T7 (c:=c0-(b.length-4-n)) (iW.grown S.Ar) Omg Omg (aL:Int) Omg cs.length Omg).mono ?_;rintro _ aZ ⟨_,rfl,uh⟩;obtain⟨r,ns,na,nc,ok,rfl,S,fo⟩:=uh.open S;refine⟨_,_,_,_,_,rfl,As (Aq (λ aK=>?_) (λ aK=>bad (Ac B1 S.Ar) λ aC rows xs hP=>?_))⟩;rotate_left
 ·have h2:=ID (xs:=xs) hP.ok;rw [<- (cJ aC rows xs hP).1,gP.1] at h2;have h4:=Ajx h2;obtain rfl:cs=aC:=congrArg Prod.fst h4;obtain rfl:aL=(Cx cs).length:=congrArg Prod.snd h4;have h5:=Sr (lim:=100000000) Omg hP.ok hP.chs hP.len;rw [<- (cJ cs rows xs hP).1] at h5;rcases fo with ⟨h6,_⟩ | ⟨_,h6⟩
  ·rw [aK] at h6;cases h6
  ·rw [h5] at h6;cases h6
 have jt:Ec 100000000 ft (aL:Int) cs.length=some (r,ns):=by
  rcases fo with ⟨_,h6⟩ | ⟨h6,_⟩
  ·exact h6
  ·rw [aK] at h6;cases h6
 obtain⟨br,hr24⟩:=Uq jt;simp only at br hr24;have key:∀ aC rows xs,Ee aC rows xs b->cs=aC/\r=rows.length/\ns=xs.map AjO/\bd=xs.flatten:=λ aC rows xs hP=>by
  have h2:=ID (xs:=xs) hP.ok;rw [<- (cJ aC rows xs hP).1,gP.1] at h2;have h4:=Ajx h2;obtain rfl:cs=aC:=congrArg Prod.fst h4;obtain rfl:aL=(Cx cs).length:=congrArg Prod.snd h4;have h5:=Sr (lim:=100000000) Omg hP.ok hP.chs hP.len;rw [<- (cJ cs rows xs hP).1,jt] at h5;have h6:=Ajx h5;exact⟨rfl,congrArg Prod.fst h6,congrArg Prod.snd h6,(cJ cs rows xs hP).2⟩
 refine DS Abq (l:=(r:Int)) (c:=(r:Int)) Omg Omg Omg Omg λ bo bL fW j7 fR=>?_;rw [Ait] at fR ⊢;have S:=Vz S r fW j7 fR;have S:ST w1 bL ([HW na nc ns,CD ca cc cs]++EV bo (List.replicate r (none,0,[]))):=S.perm List.perm_append_comm;let Inv:List Value->World->Prop:=λ st wx=>∃(i from_:Nat) (Ay:List (List AD)) (ps:List BH),st=[.int .i64 (from_:Int),.int .i64 (i:Int)]/\i<=cs.length/\Ay.length=i/\4<=from_/\from_<=b.length-4-n/\ps.length=r /\
  (∀ dO∈Ay,dO.length=r/\∃ k,Bb k dO)/\(∀ q (hq:q<ps.length),ps[q].2.2=rowAt Ay q)/\(∀ aC rows xs,Ee aC rows xs b->from_=4+(xs.take i).flatten.length/\Ay=(Ai0 i).map (Bt rows)) /\
  ST w1 wx ([HW na nc ns,CD ca cc cs]++EV bo ps)
 let Mu:List Value->World->Nat:=λ st _=>match st with
   | [_,.int _ i]=>cs.length-i.toNat
   | _=>0
 refine⟨_,_,_,rfl,Inv,Mu,⟨0,4,[],_,rfl,Omg,rfl,Omg,Omg,List.length_replicate,Osi,λ q hq=>by simp [rowAt],λ aC rows xs hP=>⟨Osi,Osi⟩,S⟩,?_⟩;clear S;rintro _ _ al ⟨i,from_,Ay,ps,aA,hi,lr,hf4,hfle,bM,cg,aI,aW,S⟩;cases aA;refine Aa (λ aB=>⟨⟨Omg,Omg⟩,?_⟩) (λ aJ=>?_)
 ·have aD:i<ns.length:=Omg;have hN:Rd al na (ns.map λ n:Nat=>Value.int .i64 (n:Int)):=S.rd 0 rfl;obtain⟨pn,rfl,kN⟩:=TS hN aD;have dM:∀ aC rows xs,Ee aC rows xs b->∃ hx:i<xs.length,ns[i]=xs[i].length/\bd.drop (from_-4)=xs[i]++(xs.drop (i+1)).flatten:=λ aC rows xs hP=>by
   obtain⟨_,_,h1,h2⟩:=key aC rows xs hP;have hx:i<xs.length:=by rw [h1,AiH] at aD;exact aD
   refine⟨hx,by simp [h1],?_⟩;have h3:=(aW aC rows xs hP).1;rw [h2,<- Oy hx];have h4:xs.flatten=(xs.take i).flatten++(xs.drop i).flatten:=by rw [<- List.flatten_append,Akg]
   rw [h4,h3,Nat.add_sub_cancel_left,List.drop_left]
  have eF:IntKind.i64.wrap (((b.length-4-n:Nat):Int)-(from_:Int))=((b.length-4-n-from_:Nat):Int):=by rw [wrap_i64 Omg Omg];omega
  rw [eF];refine⟨_,by rw [Ait];exact kN,Aa (λ h=>bad (Ac B1 S.Ar) λ aC rows xs hP=>?_) (λ cf=>?_)⟩
  ·obtain⟨hx,h1,h2⟩:=dM aC rows xs hP;have:=congrArg AjO h2;rw [Aiq,AiT] at this;omega
  have qY:from_+ns[i]<=b.length-4-n:=Omg;have eG:IntKind.i64.wrap ((from_:Int)+(ns[i]:Int))=((from_+ns[i]:Nat):Int):=by rw [wrap_i64 Omg Omg];omega
  refine⟨⟨Omg,Omg⟩,_,by rw [Ait];exact kN,?_⟩;rw [eG];simp only [Ait];refine⟨⟨Omg,Omg,Omg⟩,?_⟩;obtain⟨ch,eH⟩:∃ ch,ch=(bd.drop (from_-4)).take ns[i]:=⟨_,rfl⟩;have vP:ch.length=from_+ns[i]-from_:=by rw [eH,Ajm,AiT];omega
  have lN:Rd w1 (Ch (Ch (some ⟨b0,0,none⟩) 0 c0 1) from_ c0 1) (ch.map Ag):=by
   have h0:=dS.NQ 0 (b.length-4) c0 1 Omg;have h:=h0.NQ from_ (from_+ns[i]) c0 1 Omg;simp only [Aiw,AjV,AjT] at h;rw [<- List.map_take,<- List.map_drop,<- List.map_take] at h;have e:((b.take (b.length-4)).drop from_).take (from_+ns[i]-from_)=ch:=by
    rw [eH,gr,List.drop_drop,show 4+(from_-4)=from_ by omega,Nat.add_sub_cancel_left,List.drop_take,List.drop_take,List.take_take,List.take_take];congr 1;omega
   rwa [e] at h
  rw [<- vP];refine (RZ (c:=c0-from_) (lN.grown S.Ar) Omg Omg).mono ?_;rintro _ au ⟨_,rfl,K,ls,la,lc,e14,rfl,kL,pP,fe,aH⟩;have S:=LR S pP kL;have gQ:∀ aC rows xs,Ee aC rows xs b->e14=0/\ls=Bt rows i:=λ aC rows xs hP=>by
   obtain⟨hx,h1,h2⟩:=dM aC rows xs hP;have mG:i<aC.length:=by have:=hP.len;omega
   have h3:ch=xs[i]:=by rw [eH,h1,h2,List.take_left]
   have h4:=hP.chs.each i mG hx;rw [<- h3] at h4;rcases aH with ⟨_,_,he,hu⟩ | ⟨aP,_⟩
   ·exact⟨he,((hu _ _ (hP.ok.DN mG) h4).2).symm⟩
   ·exact absurd h4 (aP _ _ (hP.ok.DN mG))
  refine⟨_,_,_,_,_,rfl,Ai (λ h=>bad (Ac B1 S.Ar) λ aC rows xs hP=>h (gQ aC rows xs hP).1) (λ he=>Ai (λ h=>bad (Ac B1 S.Ar) λ aC rows xs hP=>?_) (λ hlr=>?_))⟩
  ·have:=(gQ aC rows xs hP).2;have h5:=(key aC rows xs hP).2.1;rw [this,FW] at h;omega
  have hg:Bb K ls:=by
   rcases aH with ⟨h,_⟩ | ⟨_,_,_,h⟩
   ·exact h
   ·rw [h] at he;exact absurd he Ode
  have wK:ls.length=r:=Omg;refine⟨λ st wx=>∃(j:Nat) (qs:List BH),st=[.int .i64 (j:Int)]/\j<=r/\qs.length=r/\(∀ q (hq:q<qs.length),qs[q].2.2=if q<j then rowAt (Ay++[ls]) q else rowAt Ay q)/\ST w1 wx ([It.rd la (AR ls),HW (some pn) nc ns,CD ca cc cs]++EV bo qs),λ st _=>match st with
   | [.int _ j]=>r-j.toNat
   | _=>0,⟨0,ps,rfl,Omg,bM,λ q hq=>by rw [aI q hq];simp,S⟩,?_⟩
  clear S;rintro _ ah ⟨j,qs,aA,hj,lI,jx,S⟩;cases aA;refine Aa (λ av=>?_) (λ bz=>?_)
  ·have hjr:j<r:=Omg;have sU:j<qs.length:=Omg;refine S.draw λ cd _ S=>⟨⟨Omg,Omg⟩,⟨Omg,Omg⟩,?_⟩;have vj:=LJ S sU;have bS:Rd cd la (AR ls):=S.ok (It.rd la (AR ls)) Osi;obtain⟨q2,rfl,d0,d1,d2⟩:=Db bS (i:=j) Omg;refine⟨_,_,_,by rw [Ait];exact vj,_,by rw [Ait];exact d0,_,by rw [Ait];exact d1,_,by rw [Ait];exact d2,S.An λ kI cF _ _ S=>?_⟩;have vw:j<ls.length:=Omg;have S':ST w1 cF ([It.cells kI (HG ls[j]).toArray 120,It.rd (some q2) (AR ls),HW (some pn) nc ns,CD ca cc cs]++EV bo qs):=S;have nb:=LJ S' sU;have rC:qs[j].2.2=rowAt Ay j:=by rw [jx j sU];simp
   have lK:qs[j].2.2.length=i:=by rw [rC];simp [rowAt,lr]
   refine⟨by rw [Ait];exact nb,?_⟩;have aY:Rd cF (some ⟨kI,0,none⟩) (HG ls[j]):=S'.F0 0 rfl;refine Ye S' sU aY Omg λ a6 c6 w6 hk=>⟨_,_,_,rfl,⟨Omg,Omg⟩,?_⟩;rw [Ait];unfold Av;simp only;refine hk _ λ w7 S=>?_;rw [Ae Omg];refine⟨⟨j+1,qs.set j (a6,c6,qs[j].2.2++[ls[j]]),rfl,Omg,by rw [List.length_set];exact lI,λ q hq=>?_,S.drop 1⟩,by simp only [Ait];omega⟩;rw [List.length_set] at hq;rw [List.getElem_set];by_cases wo:j=q
   ·subst wo;simp only [if_true,Nat.lt_succ_self];rw [rC,AcF];simp [List.getD,vw]
   ·rw [if_neg wo,jx q hq];by_cases h5:q<j
    ·rw [if_pos h5,if_pos Omg]
    ·rw [if_neg h5,if_neg Omg]
  ·have hN:Rd ah (some pn) (ns.map λ n:Nat=>Value.int .i64 (n:Int)):=S.rd 1 rfl;obtain⟨pn',hpn',hcn2⟩:=TS hN aD;cases hpn';refine⟨⟨Omg,Omg⟩,_,hcn2,?_⟩;rw [eG,Ae Omg];refine⟨⟨i+1,from_+ns[i],Ay++[ls],qs,rfl,Omg,by simp [lr],Omg,Omg,lI,λ dO eK=>?_,λ q hq=>by rw [jx q hq,if_pos Omg],λ aC rows xs hP=>?_,S.drop 1⟩,by show cs.length-((i+1:Nat):Int).toNat<cs.length-((i:Nat):Int).toNat;omega⟩
   ·rcases Ajn.1 eK with h | h
    ·exact cg dO h
    ·rw [Ajo.1 h];exact⟨wK,K,hg⟩
   ·obtain⟨hx,h1,h2⟩:=dM aC rows xs hP;obtain⟨h3,h4⟩:=aW aC rows xs hP;refine⟨?_,?_⟩
    ·rw [Ab8 hx,Aiq,h3,h1];omega
    ·rw [List.range_succ,List.map_append,h4,(gQ aC rows xs hP).2];rfl
 ·have bK:i=cs.length:=Omg;refine⟨Ac B1 S.Ar,.inl ⟨cs,Ay,ps,ca,cc,bo,r,rfl,Aez S 1 rfl,P6 S,bM,hr24,gP.2,YU bM aI,cg,λ aC rows xs hP=>?_,by
   have S':=((ST.start w).grown B1).join S;rw [List.append_nil] at S';exact S'.drop 2⟩⟩
  obtain⟨h1,h2,h3,h4⟩:=key aC rows xs hP;exact⟨h1,h2,by rw [(aW aC rows xs hP).2,bK,h1]⟩
end
def Ahy(l:List UInt8)(w w':World)(v:Value):Prop :=
 Below w.heap.size w w'/\((∃ cs ps ca cc bo,v=.tuple #[.slice ca cs.length cc,.slice (some ⟨bo,0,none⟩) ps.length ps.length,.int .i64 0]/\Rd w' ca (BF cs)/\A9 w' (some ⟨bo,0,none⟩) ps/\Br cs (rws ps)/\Ej cs (rws ps) l/\ST w w' (EV bo ps)) \/
  (v=.tuple #[.slice none 0 0,.slice none 0 0,.int .i64 91]/\¬ Iz l)\/(v=.tuple #[.slice none 0 0,.slice none 0 0,.int .i64 90]/\Iz l/\∀ aC rows',Br aC rows'->¬ Ej aC rows' l))
section
variable {w:World}
theorem Mv(s:ByteArray)(hs:s.size<=140737488355328):Cw 44 #[.string s] w λ v w'=>Ahy (bl s) w w' v:=by
 apply QJ
 delta A B AfT H3 D F H I Ly O Qi Rs S T W X Y;try dsimp only [Ps]
 have an:=AW s;obtain⟨l,hl⟩:∃ l,l=bl s:=⟨_,rfl⟩;rw [<- hl] at an ⊢;have aP:s.size<40->¬ Iz l:=λ h hd=>by have:=hd.1;omega
 refine Aa (λ h=>⟨.refl _ _,.inr (.inl ⟨rfl,aP Omg⟩)⟩) (λ pz=>?_);have ml:40<=s.size:=Omg;have eW:IntKind.i64.wrap ((s.size:Int)-32)=((s.size-32:Nat):Int):=by rw [wrap_i64 Omg Omg];omega
 rw [eW];simp only [Ait];obtain⟨l1,dz⟩:∃ l1,l1=l.take (s.size-32):=⟨_,rfl⟩;have nw:l1.length=s.size-32:=by rw [dz,Ajm];omega
 have eX:s.extract 0 (s.size-32)=Bu l1:=by rw [extract_eq,AjV,AjT,<- hl,<- dz]
 rw [eX];refine⟨⟨Omg,Omg,Omg⟩,BT Ca (Bu l1) w λ b0 c0 cells e0 w1 bZ B1 jf aj iy cZ=>?_⟩;rw [AP] at iy cZ ⊢;rw [Bn] at cZ;have dS:Rd w1 (some ⟨b0,0,none⟩) (l1.map Ag):=by
  have:=(Rd.Al jf).take l1.length;rw [cZ] at this;exact this
 refine⟨_,_,_,rfl,(Ju l1 dS iy Omg).mono ?_⟩;rintro _ w2 ⟨_,rfl,rfl,B2⟩;have S:=((ST.start w).grown B1).grown B2;have bp:(H9 l1).length=32:=Fu _;obtain⟨dg,hdg⟩:∃ dg,dg=H9 l1:=⟨_,rfl⟩;rw [<- hdg] at bp ⊢;have jb:(dg.map Ag).length=32:=by rw [AiH];exact bp
 have jc:Iz l↔∀ j (hj:j<32),dg[j]'Omg=l[s.size-32+j]'Omg:=by
  have h0:Iz l↔(40<=l.length/\l.drop (s.size-32)=dg):=by
   unfold Iz;rw [an,<- dz,<- hdg]
  rw [h0];constructor
  ·intro h j hj;have:(l.drop (s.size-32))[j]?=dg[j]?:=by rw [h.2]
   rw [Aih,Ajk Omg,Ajk Omg] at this;exact (Ajx this).symm
  ·intro h;refine⟨Omg,List.ext_getElem (by rw [AiT];omega) λ j g1 g2=>?_⟩;rw [List.getElem_drop];exact (h j Omg).symm
 refine Iw dg bp ⟨rfl,S.An λ b6 w3 _ _ S=>Dg jb (S.Eb 0 rfl jb (FR _) λ w4 S=>?_)⟩;refine⟨λ st wx=>∃ j:Nat,st=[.int .i64 (j:Int)]/\j<=32/\(∀ q (hq:q<32),q<j->dg[q]'Omg=l[s.size-32+q]'Omg)/\ST w wx [It.cells b6 ⟨dg.map Ag⟩ 142],λ st _=>match st with
   | [.int _ j]=>32-j.toNat
   | _=>0,⟨0,rfl,Omg,λ q _ h=>Omg,S⟩,?_⟩
 clear S;rintro _ w5 ⟨j,aA,hj,aF,S⟩;cases aA;refine Aa (λ aB=>?_) (λ aJ=>?_)
 ·have vu:j<32:=Omg;refine S.draw λ w6 _ S=>?_;have eI:IntKind.i64.wrap (((s.size-32:Nat):Int)+(j:Int))=((s.size-32+j:Nat):Int):=by rw [wrap_i64 Omg Omg];omega
  rw [eI];simp only [Ait];have aE:w6.cell? ((⟨b6,0,none⟩:Addr).add (j*1))=some (.int .u8 ((dg[j]'Omg).toNat:Int)):=by
   rw [Ax,Aiv,Aiw];refine S.cell 0 rfl ?_;simp [show j<dg.length by omega,Ag]
  have hsg:Az s (s.size-32+j)=l[s.size-32+j]'Omg:=by rw [LQ,<- hl];simp [List.getD,show s.size-32+j<l.length by omega]
  rw [hsg];refine⟨⟨Omg,aB⟩,⟨Omg,Omg⟩,_,aE,Ai (λ aQ=>⟨S.Ar,.inr (.inl ⟨rfl,λ hd=>aQ ?_⟩)⟩) (λ he=>?_)⟩
  ·rw [jc.1 hd j vu]
  ·rw [Ae Omg];refine⟨⟨j+1,rfl,Omg,λ q hq wo=>?_,S⟩,by simp only [Ait];omega⟩;rcases Nat.lt_or_ge q j with h | h
   ·exact aF q hq h
   ·obtain rfl:q=j:=Omg;exact UInt8.toNat_inj.1 Omg
 ·have hD:Iz l:=jc.2 λ q hq=>aF q hq Omg;refine (UZ s (by rw [<- hl]) ml hs).mono ?_;rintro _ w7 ⟨_,rfl,B7,hC⟩;have S5:=S;have S:=S.grown B7;rw [<- dz] at hC;have no:(∀ aC rows' gf,¬ Ee aC rows' gf l1)->∀ aC rows',Br aC rows'->¬ Ej aC rows' l:=λ h aC rows' bR hI=>by
   obtain⟨xs,hP,_⟩:=hI.pre bR;rw [an,<- dz] at hP;exact h _ _ _ hP
  rcases hC with ⟨cs,Ay,ps,ca,cc,bo,n,rfl,hcr,hrr,bM,hn24,hR,cO,cg,hu,hG⟩ | ⟨rfl,hno2⟩
  ·subst bM;have bQ:=AX hR;have iz:∀ aC rows',Br aC rows'->Ej aC rows' l->aC=cs/\rows'=rws ps:=λ aC rows' bR hI=>by
    obtain⟨xs,hP,_⟩:=hI.pre bR;rw [an,<- dz] at hP;obtain⟨h1,h2,h3⟩:=hu aC rows' xs hP;refine⟨h1.symm,?_⟩;rw [cO,h3,h2,Ro λ r hr=>bR.Ud hr]
   refine⟨_,_,_,_,_,_,_,rfl,As (CG ?_)⟩;refine (Ht hcr Omg (λ c hc=>by have:=(CX hR hc).2.2.2;omega) hrr Omg (by
    intro r hr v hv;rw [cO] at hr;obtain⟨i,hi,rfl⟩:=Ah9.1 hr;obtain⟨dO,eK,rfl⟩:=Ah9.1 hv;obtain⟨lI,k,hg⟩:=cg dO eK;have aD:i<dO.length:=by have:=List.mem_range.1 hi;omega
    have e:dO.getD i Z0=dO[i]:=by simp [List.getD,aD]
    rw [e];exact hg.ok _ (Ai7 aD))).mono ?_
   rintro _ w8 ⟨_,rfl,hV,B8⟩;have S:=S.grown B8;rcases hV with ⟨hnok,rfl,hE⟩ | ⟨aK,b,rfl,hI⟩
   ·refine⟨_,_,rfl,Ai (λ _=>⟨S.Ar,.inr (.inr ⟨rfl,hD,λ aC rows' bR hI=>?_⟩)⟩) (λ h=>absurd h hE)⟩;obtain⟨rfl,rfl⟩:=iz aC rows' bR hI;exact hnok bR
   ·refine⟨_,_,rfl,Ai (λ h=>absurd rfl h) (λ _=>?_)⟩;rw [AU];refine As (Aa (λ he=>?_) (λ he=>⟨S.Ar,.inr (.inr ⟨rfl,hD,λ aC rows' bR ki=>?_⟩)⟩))
    ·have jW:b=l:=by have:=congrArg bl he;rwa [Bn,<- hl] at this
     subst jW;exact⟨S.Ar,.inl ⟨cs,ps,ca,cc,bo,rfl,hcr.grown B8,hrr.grown B8,aK,hI,((S5.join hG).grown B8).sub (List.sublist_append_left _ _)⟩⟩
    ·obtain⟨rfl,rfl⟩:=iz aC rows' bR ki;exact he (by rw [hI.one ki,hl,DP])
  ·exact⟨_,_,_,_,_,_,_,rfl,As (AN ⟨S.Ar,.inr (.inr ⟨rfl,hD,no hno2⟩)⟩)⟩
variable {a a2:Option Addr}{c c2:Nat}{cs:List Bv}{ps:List BH}
theorem AbP.open{rows:List (List AD)}{v:Value}(h:AbP cs rows v):∃(s:ByteArray) (e:Int),v=.tuple #[.string s,.int .i64 e]/\s.size<=40000000:=by
 rcases h with ⟨_,rfl,_⟩ | ⟨aK,b,rfl,hI⟩
 ·exact⟨_,_,rfl,by show 0<=_;omega⟩
 ·exact⟨_,_,rfl,by rw [AP];exact hI.len aK⟩
end
def GH(w0:World)(H:List It)(b:Nat)(C:MF)(v:Value)(w':World):Prop :=
 ∃(d:Nat × Nat) (fs:List H5) (C':MF) (fa ca:Option Addr) (cc:Nat) (pa:Option Addr) (pc:Nat) (ka:Option Addr) (kc:Nat),v=AaY d fa fs/\DK C'/\fs.length<=1/\(∀ f∈fs,f.2.size<=140737488355328)/\(∀ p∈C'.parts,p∈C.parts\/∃ f∈fs,f.1=p.1)/\ST w0 w' (It.rd fa (A5 fs) :: (D7 b ca cc pa pc ka kc C'++H))
section
variable {w0 w:World}{H:List It}{b cc pc kc:Nat}{ca pa ka:Option Addr}{C:MF}{a a2:Option Addr}{c c2:Nat}{l:List UInt8}{cs:List Bv}
theorem Oq{K:Value->World->Prop}{q:Nat}{u v x:Value}(S:ST w0 w (It.cells q #[u,v] 40 :: H))(e r:Int)(hk:∀ w',ST w0 w' H->K (.tuple #[.agg #[.int .i64 e,.int .i64 r],x]) w') :
  DG ⟨q,0,none⟩ (.int .i64 e) (λ w=>DG ⟨q,1,none⟩ (.int .i64 r) (λ w=>∃ p':Int,w.cell? ⟨q,0,none⟩=some (.int .i64 p')/\∃ q':Int,w.cell? ⟨q,1,none⟩=some (.int .i64 q')/\K (.tuple #[.agg #[.int .i64 p',.int .i64 q'],x]) w) w) w :=
 S.BD 0 rfl (aC:=#[.int .i64 e,v]) Osi rfl λ w2 S=>S.BD 0 rfl (aC:=#[.int .i64 e,.int .i64 r]) Osi rfl λ w3 S=>⟨_,S.cell 0 rfl rfl,_,S.cell 0 rfl rfl,hk _ (S.drop 1)⟩
theorem dno{K:Value->World->Prop}{q:Nat}{u v:Value}(hK:∀ v w',GH w0 H b C v w'->K v w')(hC:DK C)(S:ST w0 w (It.cells q #[u,v] 40 :: (D7 b ca cc pa pc ka kc C++H)))(e:Nat) :
  DG ⟨q,0,none⟩ (.int .i64 (e:Int)) (λ w=>DG ⟨q,1,none⟩ (.int .i64 0) (λ w=>∃ p':Int,w.cell? ⟨q,0,none⟩=some (.int .i64 p')/\∃ q':Int,w.cell? ⟨q,1,none⟩=some (.int .i64 q')/\K (.tuple #[.agg #[.int .i64 p',.int .i64 q'],.slice none 0 0]) w) w) w :=
 Oq S (e:Int) 0 λ w' S=>hK _ _ ⟨(e,0),[],C,none,ca,cc,pa,pc,ka,kc,rfl,hC,Osi,Osi,λ p hp=>.inl hp,DY S⟩
theorem Wn(S:ST w0 w (D7 b ca cc pa pc ka kc C++H))(hC:DK C)(hl:Rd w a (l.map Ag))(hc:l.length<=c)(hs:l.length<=140737488355328) :
  Calls Aix 41 #[.pointer (some ⟨b,0,none⟩),.slice a l.length c] w (SV (GH w0 H b C)):=by
 apply Hu
 delta A Ab HQ E F H I Li Ls N O S Am;try dsimp only [Ps]
 refine S.An λ b3 w1 _ B1 S=>(Ii (hl.grown B1) hc hs 1 Ode).mono ?_;rintro _ w2 ⟨_,rfl,hx⟩;cases ho:A7 l 1 with
 | none =>
  rw [ho] at hx;obtain⟨rfl,B⟩:=hx;have S:=S.grown B;exact⟨_,_,_,_,_,rfl,Ai (λ _=>dno (λ _ _ h=>h) hC S 220) (λ h=>by cases h)⟩
 | some x =>
  have hR:=CV ho;rw [ho] at hx;obtain⟨a',c',rfl,T⟩:=hx;have S0:=S.grown T.Ar;have S:=S.join T;refine⟨_,_,_,_,_,rfl,Ai (λ h=>absurd rfl h) (λ _=>Ai (λ _=>dno (λ _ _ h=>h) hC S0 220) (λ _=>⟨_,_,_,S0.cell 1 rfl rfl,Aa (λ _=>dno (λ _ _ h=>h) hC S0 2) (λ h0=>?_)⟩))⟩
  try simp only [Av]
  refine S.BD 2 rfl (i:=0) (aC:=#[.slice a' x.1.length c',.slice pa C.parts.length pc,.slice ka C.CC.length kc]) Osi rfl λ w9 S=>?_;have S:ST w0 w9 (It.cells b3 #[.int .i64 0,.int .i64 0] 40 :: (D7 b a' c' pa pc ka kc { C with Ay:=x.1 }++H)) :=
   ((S.pull 2 rfl).pull 2 rfl).sub (.cons_cons _ (.cons_cons _ (.cons_cons _ (.cons _ (Akd _)))))
  exact Oq S 0 0 λ w' S=>⟨(0,0),[],{ C with Ay:=x.1 },none,a',c',pa,pc,ka,kc,rfl,⟨hC.np,hC.nc,hC.rows,.inr hR⟩,Osi,Osi,λ p hp=>.inl hp,DY S⟩
end
def AeX(w0:World)(H:List It)(b:Nat)(ca:Option Addr)(cc:Nat)(ka:Option Addr)(kc:Nat)(C:MF)(v:Value)(w':World):Prop :=
 ∃(d:Nat × Nat) (fs:List H5) (C':MF) (fa:Option Addr) (dF:Option Addr) (dG:Nat),v=AaY d fa fs/\d.1<=1000/\d.2<=A3/\DK C'/\C'.CC=C.CC/\C'.Ay=C.Ay/\fs.length<=1/\(∀ f∈fs,f.2.size<=140737488355328)/\(∀ p∈C'.parts,p∈C.parts\/∃ f∈fs,f.1=p.1)/\ST w0 w' (It.rd fa (A5 fs) :: (D7 b ca cc dF dG ka kc C'++H))
section
variable {w0 w:World}{H:List It}{b cc pc kc:Nat}{ca pa ka:Option Addr}{C:MF}{a a2:Option Addr}{c c2:Nat}{cs:List Bv}{ps:List BH}
theorem SK(S:ST w0 w H){n:Nat}{ac:Option Addr}{cx:Nat}{xs qs:List FG}{aq:Option Addr}{cq:Nat}(hn:H[n]?=some (EO ac cx xs))(hs:Rd w aq (Bw qs))(hl:xs.length+qs.length<=1000000){f:Value->World->Prop}
  (hf:∀ a' c' w',ST w0 w' (H.set n (EO a' c' (xs++qs)))->f (.slice a' (xs++qs).length c') w') :
  De Aix (Builtin.append_ #[28,28] 28 #[.slice ac xs.length cx,.slice aq qs.length cq]) f w:=by
 refine S.app n hn Rq rfl Omg Omg hs (Es qs) (TY qs) Omg λ a' c' w' S'=>?_;rw [<- Fk] at S';have:=hf a' c' w' (by unfold EO;rw [Aiq];exact S');rwa [Aiq] at this
set_option maxHeartbeats 1000000 in
theorem AbF(S:ST w0 w (D7 b ca cc pa pc ka kc C++H))(hC:DK C)(aj:Rd w a (BF cs))(hn:cs.length<=9223372036854775807)(hq:∀ c∈cs,c.1.size<=9223372036854775807)(hr:A9 w a2 ps)(aK:Br cs (rws ps)) :
  Calls Aix 87 #[.pointer (some ⟨b,0,none⟩),.slice a cs.length c,.slice a2 ps.length c2] w (SV (AeX w0 H b ca cc ka kc C)):=by
 apply Ik
 delta A Ab H3 Cb Ci Ct D E F H I J Ks Li Ls N O P Rs S Am T W Z;try dsimp only [Ps]
 have iw:=hC.np;have bM:ps.length<=1024:=by have:=aK.len;simpa [rws] using this
 refine S.An λ b4 w1 _ B1 S=>⟨_,_,_,S.cell 1 rfl rfl,(F7 (aj.grown B1) (S.rd 2 rfl) hn).mono ?_⟩;rintro _ w2 ⟨_,rfl,B2,rfl⟩;have S:=S.grown B2;have C2:=Ac B1 B2;refine⟨_,rfl,As (Aa (λ he=>?_) (λ he=>Oq (K:=AeX w0 H b ca cc ka kc C) S 50 0 λ w' S=>⟨(50,0),[],C,none,pa,pc,rfl,Ode,Ode,hC,rfl,rfl,Osi,Osi,λ p hp=>.inl hp,DY S⟩))⟩;refine⟨_,_,_,S.cell 1 rfl rfl,Aa (λ h=>Oq (K:=AeX w0 H b ca cc ka kc C) S 130 0 λ w' S=>⟨(130,0),[],C,none,pa,pc,rfl,Ode,Ode,hC,rfl,rfl,Osi,Osi,λ p hp=>.inl hp,DY S⟩) (λ aB=>?_)⟩;have aB:C.parts.length<256:=Omg;refine (Ht (aj.grown C2) hn hq (hr.grown C2) Omg aK.ok).mono ?_;rintro _ w7 ⟨_,rfl,hV,B7⟩;have S:=S.grown B7;rcases hV with ⟨aP,_⟩ | ⟨_,bb,rfl,hI⟩
 ·exact absurd aK aP
 have an:=hI.len aK;refine⟨_,_,rfl,(Mt (Bu bb) (by rw [AP];omega)).mono ?_⟩;rintro _ w8 ⟨_,rfl,rfl,B8⟩;have S:=S.grown B8;obtain⟨nm,cB⟩:∃ nm,nm=EZ (Bu bb):=⟨_,rfl⟩;obtain⟨dt,hdt⟩:∃ dt,dt=Bu bb:=⟨_,rfl⟩;rw [<- cB,<- hdt];obtain⟨bC,hps'⟩:∃ bC,bC=C.parts++[(nm,ps.length)]:=⟨_,rfl⟩;have hpl':bC.length=C.parts.length+1:=by rw [hps'];simp
 have br:([]:List FG)++C.parts=C.parts:=rfl;have e1:IntKind.i64.wrap ((C.parts.length:Int)+1)=((C.parts.length+1:Nat):Int):=by rw [wrap_i64 Omg Omg];omega
 have lh:DK { C with parts:=bC }:=⟨by show bC.length<=256;omega,hC.nc,λ p hp=>by
  have hp:p∈bC:=hp;rw [hps'] at hp;rcases Ajn.1 hp with h | h
  ·exact hC.rows p h
  ·rw [Ajo.1 h];exact bM,hC.Ay⟩
 let Y:World->Prop:=λ wx=>∃ dF dG,ST w0 wx (It.cells b4 #[.int .i64 0,.int .i64 0] 40 :: (D7 b ca cc dF dG ka kc { C with parts:=bC }++H));have fin:∀ {wx:World} {a':Option Addr} {c':Nat} {X:It},ST w0 wx (X :: EO a' c' bC :: It.cells b4 #[.int .i64 0,.int .i64 0] 40 :: (D7 b ca cc pa pc ka kc C++H))->DG ⟨b,1,none⟩ (.slice a' bC.length c') (λ w=>([]:List Value)=[]/\Y w) wx:=λ {wx a' c' X} S =>
  S.BD 3 rfl (i:=1) (aC:=#[.slice ca C.Ay.length cc,.slice a' bC.length c',.slice ka C.CC.length kc]) Osi rfl λ w' S=>⟨rfl,a',c',by
   have S:ST w0 w' (EO a' c' bC :: It.cells b4 #[.int .i64 0,.int .i64 0] 40 :: It.cells b #[.slice ca C.Ay.length cc,.slice a' bC.length c',.slice ka C.CC.length kc] 31 :: CD ca cc C.Ay :: Mo ka kc C.CC :: H) :=
    S.sub (.cons _ (.cons_cons _ (.cons_cons _ (.cons_cons _ (.cons_cons _ (.cons _ (Akd _)))))))
   exact ((S.pull 3 rfl).pull 3 rfl).pull 3 rfl⟩
 refine⟨_,rfl,λ st wx=>st=[]/\Y wx,?_,?_⟩
 ·refine S.draw λ w9 _ S=>⟨_,_,_,S.cell 1 rfl rfl,_,_,_,S.cell 1 rfl rfl,?_,?_⟩
  ·rw [e1];refine S.mk0 Rq Omg Omg λ bk bX S=>⟨_,_,_,rfl,S.cell 2 rfl rfl,?_,?_⟩
   ·refine SK S (n:=0) (xs:=[]) rfl (S.rd 4 rfl) (by simp only [AjE];omega) λ a' c' aZ S=>⟨_,_,_,rfl,S.An λ mX bL _ _ S=>?_⟩;refine QU S (n:=1) (ps:=C.parts) rfl (p:=(nm,ps.length)) (S.F0 0 rfl) Omg λ rm ry al S=>⟨_,_,_,rfl,?_⟩;rw [<- hps'] at S ⊢;exact fin S
   ·refine S.An λ mX bL _ _ S=>⟨S.cell 3 rfl rfl,?_⟩;refine SK S (n:=1) (xs:=[]) rfl (S.rd 5 rfl) (by simp only [AjE];omega) λ a' c' aZ S=>⟨_,_,_,rfl,?_⟩;refine QU S (n:=1) (ps:=C.parts) rfl (p:=(nm,ps.length)) (S.F0 0 rfl) Omg λ rm ry al S=>⟨_,_,_,rfl,?_⟩;rw [<- hps'] at S ⊢;exact fin S
  ·refine S.An λ mX bL _ _ S=>⟨S.cell 2 rfl rfl,S.cell 2 rfl rfl,?_⟩;rw [e1];refine S.mk0 Rq Omg Omg λ bk bX S=>⟨_,_,_,rfl,S.cell 3 rfl rfl,?_⟩;refine SK S (n:=0) (xs:=[]) rfl (S.rd 5 rfl) (by simp only [AjE];omega) λ a' c' aZ S=>⟨_,_,_,rfl,?_⟩;refine QU S (n:=0) (ps:=C.parts) rfl (p:=(nm,ps.length)) (S.F0 1 rfl) Omg λ rm ry al S=>⟨_,_,_,rfl,?_⟩;rw [<- hps'] at S ⊢;exact fin (S.pull 1 rfl)
 clear S;rintro du ⟨_,dF,dG,S⟩;refine (ZH (C:={ C with parts:=bC }) (S.drop 1) lh).mono ?_;rintro _ eA ⟨_,rfl,rfl,uD⟩;subst uD;refine⟨_,rfl,S.An λ tp ie _ _ S=>?_⟩;have S:ST w0 ie (It.cells b4 #[.int .i64 0,.int .i64 0] 40 :: It.cells tp #[.string nm,.string dt] 85 :: (D7 b ca cc dF dG ka kc { C with parts:=bC }++H)):=S.pull 1 rfl;have hrn:=Ld (ps:=bC) λ p hp=>lh.rows p hp;refine Oq (K:=AeX w0 H b ca cc ka kc C) S 0 (Bc bC:Int) λ w' S=>⟨(0,Bc bC),[(nm,dt)],{ C with parts:=bC },some ⟨tp,0,none⟩,dF,dG,rfl,Osi,?_,lh,rfl,rfl,Osi,λ f hf=>by
  rw [Ajo.1 hf,hdt];show (Bu bb).size<=_;rw [AP];omega,λ p hp=>?_,S.H7 0 rfl (.refl _ _) (It.rd (some ⟨tp,0,none⟩) (A5 [(nm,dt)])) (S.F0 0 rfl) (λ k hk=>.inl hk)⟩
 ·show Bc bC<=A3;unfold A3;omega
 ·have hp:p∈bC:=hp;rw [hps'] at hp;rcases Ajn.1 hp with h | h
  ·exact .inl h
  ·rw [Ajo.1 h];exact .inr ⟨_,Ajo.2 rfl,rfl⟩
end
theorem Kg(k m:List Fg):Dk (k++m)=Dk k++Dk m:=by simp [Dk]
theorem Adq(k:List Fg):∀ u∈Dk k,u.oneCell'=true:=by
 intro u hu;obtain⟨v,_,hv⟩:=List.mem_flatMap.1 hu;simp only [PX,List.mem_cons,List.not_mem_nil,or_false] at hv;rcases hv with rfl | rfl | rfl | rfl <;> rfl
theorem AbX(k:List Fg)(i:Nat):(Dk k).drop (i*4)=Dk (k.drop i):=by
 have e:Dk k=Dk (k.take i)++Dk (k.drop i):=by rw [<- Kg,Akg]
 by_cases h:i<=k.length
 ·have hl:(Dk (k.take i)).length=i*4:=by rw [Kh,Ajm];omega
  rw [e,<- hl,List.drop_left]
 ·have h1:k.drop i=[]:=List.drop_eq_nil_of_le Omg;rw [h1,List.drop_eq_nil_of_le (by rw [Kh];omega)];rfl
theorem AbY(k:List Fg)(i:Nat):(Dk k).take (i*4)=Dk (k.take i):=by
 have e:Dk k=Dk (k.take i)++Dk (k.drop i):=by rw [<- Kg,Akg]
 by_cases h:i<=k.length
 ·have hl:(Dk (k.take i)).length=i*4:=by rw [Kh,Ajm];omega
  rw [e,<- hl,List.take_left]
 ·rw [AiZ (i:=i) Omg,AiZ (by rw [Kh];omega)]
section
variable {w0 w:World}{H:List It}{b cc pc kc:Nat}{ca pa ka:Option Addr}{C:MF}{a:Option Addr}{c m:Nat}{l:List UInt8}
theorem Abe{k:List Fg}(h:Rd w a (Dk k))(i n c:Nat)(hm:i+n<=c):Rd w (Ch a i c 4) (Dk ((k.drop i).take n)):=by
 have:=h.NQ i (i+n) c 4 hm;rwa [AbX,show i+n-i=n by omega,AbY] at this
theorem Abm(S:ST w0 w H){n:Nat}{ac:Option Addr}{cx nx nq:Nat}{xs qs:List Fg}{aq:Option Addr}{cq:Nat}(hn:H[n]?=some (Mo ac cx xs))(hs:Rd w aq (Dk qs))(hx:xs.length=nx)(hq:qs.length=nq)(hl:nx+nq<=1000000){f:Value->World->Prop}
  (hf:∀ a' c' w',ST w0 w' (H.set n (Mo a' c' (xs++qs)))->f (.slice a' (xs++qs).length c') w') :
  De Aix (Builtin.append_ #[29,29] 29 #[.slice ac nx cx,.slice aq nq cq]) f w:=by
 subst hx;subst hq;refine S.app n hn AeD rfl Omg Omg hs (Kh qs) (Adq qs) Omg λ a' c' w' S'=>?_;rw [<- Kg] at S';have:=hf a' c' w' (by unfold Mo;rw [Aiq];exact S');rwa [Aiq] at this
set_option maxHeartbeats 2000000 in
theorem Wo(S:ST w0 w (D7 b ca cc pa pc ka kc C++H))(hC:DK C)(hm:H[m]?=some (It.rd a (l.map Ag)))(hc:l.length<=c)(hs:l.length<=140737488355328) :
  Calls Aix 42 #[.pointer (some ⟨b,0,none⟩),.slice a l.length c] w (SV (GH w0 H b C)):=by
 apply Hv
 delta A Ab A6 Abz HQ Bz D E F G H I J Ks Li Ls N O P Rs S Am W X Y Z Zb Zi;try dsimp only [Ps]
 have pH:=hC.nc;have hK:∀ v w',GH w0 H b C v w'->GH w0 H b C v w':=λ _ _ h=>h;refine S.An λ b3 w1 _ B1 S=>(AJ (c:=c) (S.get (m+5) hm) Omg 1 Ode).mono ?_;rintro _ w2 ⟨_,rfl,rfl,e2⟩;subst e2;obtain⟨n1,k1,e1,hv1,cu,fB,hx1⟩:=DT _ (rfl:takeN l 1=takeN l 1);rw [hv1];refine⟨_,_,_,rfl,(AJ (c:=c) (S.get (m+5) hm) Omg (k1:Int) Omg).mono ?_⟩;rintro _ w3 ⟨_,rfl,rfl,e3⟩;subst e3;obtain⟨n2,k2,e2,iX,ay,iA,hx2⟩:=DT _ (rfl:takeN l (k1:Int)=takeN l (k1:Int));rw [iX];refine⟨_,_,_,rfl,(Ii (S.get (m+5) hm) hc hs (k2:Int) Omg).mono ?_⟩;rintro _ w4 ⟨_,rfl,hT⟩;obtain⟨cs,sa,sc,aL,e4,rfl,S,bQ,hx⟩:=hT.open S λ r hr=>CV hr;have F:∀ {wx:World},ST w0 wx (CD sa sc cs :: It.cells b3 #[.int .i64 0,.int .i64 0] 40 :: (D7 b ca cc pa pc ka kc C++H))->_:=λ {wx} S=>dno (K:=GH w0 H b C) hK hC (S.drop 1);refine⟨_,_,_,_,_,rfl,Ai (λ _=>F S 220) (λ _=>Ai (λ _=>F S 220) (λ _=>Ai (λ _=>F S 220) (λ h4=>Aa (λ _=>F S 220) (λ g1=>Aa (λ _=>F S 220) (λ g2=>Aa (λ _=>F S 220) (λ g3=>?_))))))⟩
 rcases hx with ⟨_,hsch,hR⟩ | ⟨h5,_⟩;rotate_left
 ·exact absurd h4 h5
 have nF:=(Rv hsch).1.le;have hq:∀ c∈cs,c.1.size<=9223372036854775807:=λ c hc=>by have:=(CX hR hc).2.2.2;omega
 refine (OY (c2:=sc) (S.get (m+6) hm) hc hs (aL:Int) Omg (S.rd 0 rfl) Omg hq).mono ?_;rintro _ cF ⟨_,rfl,sK⟩;cases ho:Be l cs (aL:Int) with
 | none =>
  rw [ho] at sK;obtain⟨e,he,rfl,B⟩:=sK;exact⟨_,_,_,_,_,rfl,Ai (λ _=>F (S.grown B) 220) (λ h=>absurd h he)⟩
 | some x =>
 rw [ho] at sK;obtain⟨ra,rc,ps,rfl,dr,TR⟩:=sK;have aK:=(Lr ho).1;rw [<- dr] at aK;have S1:=S.grown TR.Ar;refine⟨_,_,_,_,_,rfl,Ai (λ h=>absurd rfl h) (λ _=>Ai (λ _=>F S1 220) (λ _=>Ap (λ _=>F S1 220) (λ aQ=>?_)))⟩;have ew1:IntKind.i64.wrap (n1:Int)=(n1:Int):=wrap_i64 Omg Omg;have kg:IntKind.i64.wrap (n2:Int)=(n2:Int):=wrap_i64 Omg Omg;rw [ew1,kg];refine (Aei (S1.drop 2) (n1:Int) hC).mono ?_;rintro _ du ⟨_,rfl,ig,i,t,rfl,hi,gD⟩;have S2:=S1.grown ig;have TR2:=TR.grown ig;have x9:A9 du ra ps:=Abg TR2 (i:=0) rfl λ p hp=>List.mem_cons_of_mem _ (Ah9.2 ⟨p,hp,rfl⟩);refine⟨_,_,rfl,λ st wx=>wx=du/\∃ q,st=[.bool q]/\(q=true->i<C.CC.length),?_,?_⟩
 ·refine Aq (λ ht=>?_) (λ ht=>⟨rfl,false,rfl,λ h=>by cases h⟩);have aD:=gD ht;obtain⟨p,hp,_,c1,_,_⟩:=Th (S2.rd 5 rfl) aD;subst hp;exact⟨_,_,_,S2.cell 2 rfl rfl,⟨Omg,Omg⟩,_,by rw [Ait];exact c1,rfl,_,rfl,λ _=>aD⟩
 rintro _ eA ⟨uD,q,aA,iV⟩;subst uD;cases aA;refine Aq (λ hqt=>?_) (λ _=>?_)
 ·have aD:=iV hqt;obtain⟨p,hp,_,_,c2,c3⟩:=Th (S2.rd 5 rfl) aD;subst hp;have c3':eA.cell? (((p.add (i*4)).add 2).add 1)=some (.int .i64 (C.CC[i].2.2.2:Int)):=by rw [BJ];exact c3
  refine⟨_,_,_,S2.cell 2 rfl rfl,⟨Omg,Omg⟩,_,by rw [Ait];exact c2,_,by rw [Ait];exact c3',Oq (K:=GH w0 H b C) (S2.drop 1) _ _ λ w' S=>⟨C.CC[i].2.2,[],C,none,_,_,_,_,_,_,rfl,hC,Osi,Osi,λ p hp=>.inl hp,DY S⟩⟩
 refine⟨λ st wx=>st=[]/\wx=eA,?_,?_⟩
 ·refine Aq (λ ht=>?_) (λ ht=>⟨rfl,rfl⟩);have aD:=gD ht;obtain⟨p,hp,_,c1,_,_⟩:=Th (S2.rd 5 rfl) aD;subst hp;exact⟨_,_,_,S2.cell 2 rfl rfl,⟨Omg,Omg⟩,_,by rw [Ait];exact c1,Aa (λ _=>F S2 2) (λ _=>⟨rfl,rfl⟩)⟩
 rintro eU ⟨_,yE⟩;subst yE;refine⟨λ st wx=>st=[]/\wx=eU/\(t=false->C.CC.length<64),?_,?_⟩
 ·refine Aq (λ ht=>⟨_,_,_,S2.cell 2 rfl rfl,Aa (λ _=>F S2 130) (λ h=>⟨rfl,rfl,λ _=>Omg⟩)⟩) (λ ht=>⟨rfl,rfl,λ h=>by rw [h] at ht;cases ht⟩)
 rintro j0 ⟨_,e33,fZ⟩;subst e33;have S3:ST w0 j0 (D7 b ca cc pa pc ka kc C++(It.cells b3 #[.int .i64 0,.int .i64 0] 40 :: H)):=(S2.drop 1).perm List.perm_middle.symm;refine (AbF (c:=sc) (c2:=rc) S3 hC (S2.rd 0 rfl) Omg hq x9 aK).mono ?_;clear S S1 S2 S3 TR TR2 F;rintro _ rb ⟨_,rfl,d,fs,C',fa,dF,dG,rfl,ja,gC,lh,ek,ecl,ct,sM,wj,S⟩;obtain⟨d1,d2⟩:=d;rw [<- ek] at hi gD fZ;have hnc':=lh.nc;refine⟨_,_,_,_,_,rfl,S.An λ b70 xi _ _ S=>S.BD 0 rfl (aC:=#[.int .i64 (d1:Int),.int .i64 0]) Osi rfl λ tA S=>S.BD 0 rfl (aC:=#[.int .i64 (d1:Int),.int .i64 (d2:Int)]) Osi rfl λ j6 S=>S.draw λ re _ S=>?_⟩;have hkc:C'.CC.length<=kc:=(S.rw 5 rfl).le;refine⟨_,_,_,S.cell 2 rfl rfl,_,_,_,S.cell 2 rfl rfl,⟨Omg,Omg,Omg⟩,?_⟩;have e1:IntKind.i64.wrap ((C'.CC.length:Int)+1)=((C'.CC.length+1:Nat):Int):=by rw [wrap_i64 Omg Omg];omega
 rw [e1];simp only [Ait,AjT];have cu:((C'.CC.drop 0).take i).length=i:=by rw [AjV,Ajm];omega
 refine S.mk0 AeD Omg Omg λ bk kX S=>⟨_,_,_,rfl,S.cell 3 rfl rfl,?_⟩;refine Abm S (n:=0) (xs:=[]) (nx:=0) (nq:=i) rfl (Abe (S.rd 6 rfl) 0 i kc Omg) rfl cu Omg λ a1 c1 xj S=>⟨_,_,_,rfl,_,S.cell 1 rfl rfl,_,S.cell 1 rfl rfl,S.An λ b81 rh _ _ S=>?_⟩;obtain⟨k1,hk1e⟩:∃ k1,k1=[]++(C'.CC.drop 0).take i:=⟨_,rfl⟩;have wA:k1.length=i:=by rw [hk1e,Ajt,cu]
 rw [<- hk1e] at S ⊢;refine AfH S (n:=1) (k:=k1) rfl (x:=(n1,n2,d1,d2)) (S.F0 0 rfl) Omg λ a2 c2 mJ S=>⟨_,_,_,rfl,?_⟩;obtain⟨k2,ay⟩:∃ k2,k2=k1++[((n1,n2,d1,d2):Fg)]:=⟨_,rfl⟩;have hk2l:k2.length=i+1:=by rw [ay,Aiq,wA];rfl
 rw [<- ay] at S ⊢;refine⟨λ st wx=>wx=mJ/\∃ j:Nat,st=[.int .i64 (j:Int)]/\j<=C'.CC.length/\i+1+(C'.CC.length-j)<=64,?_,?_⟩
 ·refine Aq (λ ht=>?_) (λ ht=>⟨rfl,i,rfl,hi,?_⟩)
  ·have:=gD ht;rw [Ae Omg];exact⟨rfl,i+1,rfl,Omg,Omg⟩
  ·have:=fZ (by simpa using ht);omega
 rintro _ zO ⟨e43,j,aA,hj,qk⟩;subst e43;cases aA;refine⟨_,_,_,S.cell 4 rfl rfl,⟨Omg,Omg,Omg⟩,?_⟩;simp only [Ait];have bp:((C'.CC.drop j).take (C'.CC.length-j)).length=C'.CC.length-j:=by rw [Ajm,AiT];omega
 refine Abm S (n:=1) (xs:=k2) (nx:=k2.length) (nq:=C'.CC.length-j) rfl (Abe (S.rd 7 rfl) j (C'.CC.length-j) kc Omg) rfl bp Omg λ a3 c3 w44 S=>⟨_,_,_,rfl,?_⟩;obtain⟨k3,iQ⟩:∃ k3,k3=k2++(C'.CC.drop j).take (C'.CC.length-j):=⟨_,rfl⟩;have nk:k3.length<=64:=by rw [iQ,Aiq,bp];omega
 rw [<- iQ] at S ⊢
 try simp only [Av]
 refine S.BD 4 rfl (i:=2) (aC:=#[.slice ca C'.Ay.length cc,.slice dF C'.parts.length dG,.slice a3 k3.length c3]) Osi rfl λ zP S=>⟨_,S.cell 2 rfl rfl,_,S.cell 2 rfl rfl,?_⟩;have S:ST w0 zP (Mo a3 c3 k3 :: It.rd fa (A5 fs) :: It.cells b #[.slice ca C'.Ay.length cc,.slice dF C'.parts.length dG,.slice a3 k3.length c3] 31 :: CD ca cc C'.Ay :: EO dF dG C'.parts :: It.cells b3 #[.int .i64 0,.int .i64 0] 40 :: H) :=
  S.sub (.cons _ (.cons_cons _ (.cons _ (.cons_cons _ (.cons_cons _ (.cons_cons _ (.cons_cons _ (.cons _ (.cons_cons _ (Akd _))))))))))
 have S:=((((S.pull 4 rfl).pull 4 rfl).pull 4 rfl).pull 4 rfl).pull 5 rfl;exact Oq (K:=GH w0 H b C) S (d1:Int) (d2:Int) λ w' S=>⟨(d1,d2),fs,{ C' with CC:=k3 },fa,ca,cc,dF,dG,a3,c3,rfl,⟨lh.np,nk,lh.rows,lh.Ay⟩,ct,sM,wj,S⟩
end
end Go.Proofs.YtpnaifmmggnimaaGreatDoor
