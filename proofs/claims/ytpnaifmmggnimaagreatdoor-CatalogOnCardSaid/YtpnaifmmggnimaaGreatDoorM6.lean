/- Texts of this claim, laid one behind the other by a program of mine. -/
import Derived.Test.YtpnaifmmggnimaaGreatDoorM4
import Derived.Test.YtpnaifmmggnimaaGreatDoorM5
import Derived.Test.YtpnaifmmggnimaaGreatDoorM1
import Derived.Test.YtpnaifmmggnimaaGreatDoorM3
namespace Go.Proofs.YtpnaifmmggnimaaGreatDoor
open R
open _root_.Go.Proofs.Tryz renaming prog -> Aix
open _root_.Bool renaming and_false -> AjB
open _root_.Int renaming toNat_natCast -> Ait
open _root_.List renaming flatMap_cons -> AjA, getElem_mem -> Ai7, mem_map -> Ah9
open _root_.Nat renaming lt_or_ge -> Ai6
set_option maxRecDepth 100000
open Go.Dn Go.Proofs
open Go.RowKit (Below)
set_option linter.unusedVariables false
theorem Ox{α:Type}{g:α->List Value}{n:Nat}(hg:∀ x,(g x).length=n):∀(ls:List α) (i j:Nat) (hi:i<ls.length),j<n->(ls.flatMap g)[i*n+j]?=(g ls[i])[j]?
 | [],i,j,hi,_=>by simp at hi
 | v :: ls,0,j,_,hj=>by
  simp only [AjA,Nat.zero_mul,Nat.zero_add,List.getElem_cons_zero];rw [List.getElem?_append_left (by rw [hg];exact hj)]
 | v :: ls,i+1,j,hi,hj=>by
  simp only [AjA,List.getElem_cons_succ];have e:(i+1)*n+j=n+(i*n+j):=by rw [Nat.add_mul];omega
  rw [e,List.getElem?_append_right (by rw [hg];omega),hg,Nat.add_sub_cancel_left];exact Ox hg ls i j (by simpa using hi) hj
theorem AdK{α:Type}{g:α->List Value}{n:Nat}(hg:∀ x,(g x).length=n)(ls:List α):(ls.flatMap g).length=ls.length*n:=by
 induction ls with
 | nil=>simp
 | cons v ls ih=>rw [AjA,List.length_append,ih,hg,List.length_cons,Nat.add_mul];omega
abbrev Bv:=ByteArray × Int × Bool
def UK(c:Bv):List Value:=[.string c.1,.int .i64 c.2.1,.bool c.2.2]
abbrev BF(cs:List Bv):List Value:=cs.flatMap UK
theorem Oi(c:Bv):(UK c).length=3:=rfl
theorem Adw(cs:List Bv):(BF cs).length=cs.length*3:=AdK Oi cs
theorem Fq{w:World}{a:Option Addr}{cs:List Bv}(hl:Rd w a (BF cs)){i:Nat}(hi:i<cs.length):∃ p,a=some p/\w.cell? (p.add (i*3))=some (.string cs[i].1)/\w.cell? ((p.add (i*3)).add 1)=some (.int .i64 cs[i].2.1)/\w.cell? ((p.add (i*3)).add 2)=some (.bool cs[i].2.2):=by
 obtain⟨p,hp,h0⟩:=hl (i*3+0) _ (by rw [Ox Oi cs i 0 hi Omg];rfl);obtain⟨p1,hp1,h1⟩:=hl (i*3+1) _ (by rw [Ox Oi cs i 1 hi Omg];rfl);obtain⟨p2,iD,h2⟩:=hl (i*3+2) _ (by rw [Ox Oi cs i 2 hi Omg];rfl);subst hp;cases hp1;cases iD;exact⟨p,rfl,h0,by rw [BJ];exact h1,by rw [BJ];exact h2⟩
def Fp(c:Bv):Bool:=Fb c.1 && decide (1<=c.2.1/\c.2.1<=3)
def Ao(cs:List Bv):Bool:=decide (1<=cs.length/\cs.length<=16) && cs.all Fp && decide ((cs.map (·.1)).Nodup)
theorem VW{cs:List Bv}{i:Nat}(hi:i<cs.length)(h:Fp cs[i]=false\/cs[i].1∈(cs.take i).map (·.1)):Ao cs=false:=by
 rcases h with h | h
 ·have:cs.all Fp=false:=by
   rw [List.all_eq_false];exact⟨_,Ai7 hi,by simp [h]⟩
  simp [Ao,this]
 ·have:¬ (cs.map (·.1)).Nodup:=by
   intro hn;obtain⟨j,hj,he⟩:=List.getElem_of_mem h;simp only [List.length_take,List.length_map] at hj;have dX:j<i:=Omg;have:=(List.pairwise_iff_getElem.1 hn) j i (by simp;omega) (by simpa using hi) dX;apply this;simp only [List.getElem_take,List.getElem_map] at he ⊢;exact he
  simp [Ao,this]
theorem VV{cs:List Bv}(h:∀ i (hi:i<cs.length),Fp cs[i]=true/\cs[i].1∉(cs.take i).map (·.1)):Ao cs=decide (1<=cs.length/\cs.length<=16):=by
 have h1:cs.all Fp=true:=by
  rw [List.all_eq_true];intro c hc;obtain⟨i,hi,rfl⟩:=List.getElem_of_mem hc;exact (h i hi).1
 have h2:(cs.map (·.1)).Nodup:=by
  refine List.pairwise_iff_getElem.2 λ i j hi hj dQ=>?_;have qj:j<cs.length:=by simpa using hj
  intro he;apply (h j qj).2;refine List.mem_iff_getElem.2 ⟨i,by simp;omega,?_⟩;simp only [List.getElem_take,List.getElem_map] at he ⊢;exact he
 simp [Ao,h1,h2]
section
variable {w:World}{a:Option Addr}{c:Nat}{cs:List Bv}
theorem Zq:Aix.underlying 4=some .bool:=by kernel_rfl
theorem Zr:Aix.underlying 192=some (.map 9 4):=by kernel_rfl
theorem AcW(w:World):(zeroValue 4).run Aix w=.ok (.bool false) w:=by
 have h:(Aix.info? 4).bind (·.zero)=some (.bool false):=by kernel_rfl
 cases hi:Aix.info? 4 with
 | none=>rw [hi] at h;cases h
 | some i =>
  rw [hi] at h;have hz:i.zero=some (.bool false):=h;simp [zeroValue,typeInfo,hi,hz]
abbrev Af8(w:World)(b n:Nat)(g:List UInt8->Bool):Prop:=Wr Aix 9 4 w b n g
theorem Ad5{w:World}{f:Value->World->Prop}(hf:∀ b w',w.heap.size<=b->Below w.heap.size w w'->Af8 w' b 0 (λ _=>false)->f (.map (some b)) w'):De Aix (Instr.makeMap 192 none) f w:=by
 unfold De;rw [show (Instr.makeMap 192 none).run Aix w=.ok (.map (some w.heap.size)) (w.alloc (.map #[] 0)) from rfl];exact hf _ _ (Nat.le_refl _) ((Below.refl _ w).alloc (Nat.le_refl _) _) ⟨_,World.ownsMap_made _ _ _ _,Maps.tidy_empty,λ x=>rfl⟩
def inN(cs:List Bv)(i:Nat)(x:List UInt8):Bool:=decide (x∈((cs.take i).map (·.1)).map bl)
theorem AdR{i:Nat}(hi:i<cs.length):(λ y=>if y=bl cs[i].1 then true else inN cs i y)=inN cs (i+1):=by
 funext y;unfold inN;rw [List.take_succ_eq_append_getElem hi,List.map_append,List.map_append];by_cases h1:y=bl cs[i].1
 ·simp [h1]
 ·simp [h1]
theorem Aa4{i:Nat}(hi:i<cs.length):inN cs i (bl cs[i].1)=true↔cs[i].1∈(cs.take i).map (·.1):=by
 unfold inN;rw [decide_eq_true_eq,Ah9];constructor
 ·rintro⟨s,hs,he⟩;rw [<- PM he];exact hs
 ·intro h;exact⟨_,h,rfl⟩
theorem Ql:maxLen=9223372036854775807:=rfl
theorem DV(hl:Rd w a (BF cs))(hn:cs.length<=9223372036854775807)(hq:∀ c∈cs,c.1.size<=9223372036854775807) :
  Cw 93 #[.slice a cs.length c] w λ r w'=>r=.bool (Ao cs)/\Below w.heap.size w w':=by
 apply Nz
 delta A Ab Cb F G I Lb Li Lt M N Qi Rb Rm Am T W X;try dsimp only [Ps]
 refine Ad5 λ b w1 hb B1 hM1=>?_;refine⟨_,rfl,λ st w2=>∃ i:Nat,st=[.int .i64 (i:Int)]/\i<=cs.length/\(∀ j (hj:j<cs.length),j<i->Fp cs[j]=true/\cs[j].1∉(cs.take j).map (·.1))/\Af8 w2 b i (inN cs i)/\Below w.heap.size w w2,
  λ st _=>match st with | [.int _ t]=>cs.length-t.toNat | _=>0,⟨0,rfl,Omg,λ j _ hj=>Omg,hM1,B1⟩,?_⟩
 rintro t w2 ⟨i,aA,hi,aF,hM,C2⟩;cases aA;refine Aa (λ aB=>⟨⟨Omg,aB⟩,?_⟩) (λ aJ=>?_)
 ·have aD:i<cs.length:=Omg;have ao:=hq _ (Ai7 aD);obtain⟨p,rfl,c0,c1,c2⟩:=Fq (hl.grown C2) aD;refine⟨_,by rw [Ait];exact c0,_,by rw [Ait];exact c1,_,by rw [Ait];exact c2,(SH.start (λ _=>False) w2).Ic λ dN w6 kt B6 S6=>⟨_,S6.cell 0 rfl rfl,(QR _ ao w6).mono ?_⟩⟩;rintro _ w7 ⟨_,rfl,rfl,B7⟩;have S7:=S6.grown B7;have C7:Below w.heap.size w w7:=Ac (Ac C2 B6) B7;have yU:Af8 w7 b i (inN cs i):=(hM.kept (F:=λ _=>False) (Ak.AB B6) Osi).kept (F:=λ _=>False) (Ak.AB B7) Osi;have bad:Fp cs[i]=false\/cs[i].1∈(cs.take i).map (·.1)->Value.bool false=.bool (Ao cs)/\Below w.heap.size w w7:=λ h=>⟨by rw [VW aD h],C7⟩;refine⟨_,rfl,As (Aq (λ h1=>?_) (λ h1=>bad (.inl (by simp [Fp,h1]))))⟩;refine⟨_,S7.cell 0 rfl rfl,yU.get JA Zq Zr (AcW w7) (by rw [Ql];exact ao) ⟨_,rfl,?_⟩⟩;refine Aq (λ h2=>bad (.inr ((Aa4 aD).1 h2))) (λ h2=>⟨_,S7.cell 0 rfl rfl,?_⟩);refine Aa (λ h3=>bad (.inl ?_)) (λ h3=>⟨_,S7.cell 0 rfl rfl,Aa (λ h4=>bad (.inl ?_)) (λ h4=>⟨_,S7.cell 0 rfl rfl,?_⟩)⟩)
  ·have:¬ (1<=cs[i].2.1/\cs[i].2.1<=3):=Omg;simp only [Fp,this,decide_false,AjB]
  ·have:¬ (1<=cs[i].2.1/\cs[i].2.1<=3):=Omg;simp only [Fp,this,decide_false,AjB]
  ·refine yU.put JA Zq Zr (by rw [Ql];omega) (by rw [Ql];exact ao) λ w9 K9 yV=>?_;rw [AdR aD] at yV;rw [Ae Omg];have ok:Fp cs[i]=true:=by
    have:1<=cs[i].2.1/\cs[i].2.1<=3:=Omg;simp only [Fp,h1,this,and_self,decide_true,Bool.and_self]
   refine⟨⟨i+1,rfl,Omg,λ j hj dX=>?_,yV,?_⟩,?_⟩
   ·rcases Ai6 j i with h | h
    ·exact aF j hj h
    ·obtain rfl:j=i:=Omg;exact⟨ok,λ hm=>by rw [(Aa4 aD).2 hm] at h2;cases h2⟩
   ·exact C7.trans (K9.below C7.size λ k hk he=>by subst he;omega)
   ·show cs.length-((i+1:Nat):Int).toNat<cs.length-((i:Nat):Int).toNat;simp only [Ait];omega
 ·have hR:Ao cs=decide (1<=cs.length/\cs.length<=16):=VV λ j hj=>aF j hj Omg;refine Aa (λ h=>⟨?_,C2⟩) (λ h=>⟨?_,C2⟩)
  ·rw [hR];congr 1;rw [decide_eq_decide];omega
  ·rw [hR];congr 1;rw [eq_comm,decide_eq_false_iff_not];omega
theorem UX(hl:Rd w a (BF cs))(hn:cs.length<=9223372036854775807)(s:ByteArray) :
  Cw 131 #[.slice a cs.length c,.string s] w λ r w'=>w'=w/\((r=.int .i64 (-1)/\∀ c∈cs,c.1≠s)\/∃(j:Nat) (hj:j<cs.length),r=.int .i64 (j:Int)/\cs[j].1=s/\∀ c∈cs.take j,c.1≠s):=by
 apply Qz
 delta F I Lt Qi W X;try dsimp only [Ps]
 refine⟨λ st w2=>∃ i:Nat,st=[.int .i64 (i:Int)]/\i<=cs.length/\(∀ c∈cs.take i,c.1≠s)/\w2=w,λ st _=>match st with | [.int _ t]=>cs.length-t.toNat | _=>0,⟨0,rfl,Omg,Osi,rfl⟩,?_⟩;rintro t w2 ⟨i,aA,hi,aF,rfl⟩;cases aA;refine Aa (λ aB=>⟨⟨Omg,aB⟩,?_⟩) (λ aJ=>⟨rfl,.inl ⟨rfl,?_⟩⟩)
 ·have aD:i<cs.length:=Omg;obtain⟨p,rfl,c0,c1,c2⟩:=Fq hl aD;refine⟨_,by rw [Ait];exact c0,?_⟩;rw [AU];refine Aa (λ he=>⟨rfl,.inr ⟨i,aD,rfl,he,aF⟩⟩) (λ he=>?_);rw [Ae Omg];refine⟨⟨i+1,rfl,Omg,λ c hc=>?_,rfl⟩,?_⟩
  ·rw [List.take_succ_eq_append_getElem aD] at hc;rcases List.mem_append.1 hc with hc | hc
   ·exact aF c hc
   ·rw [List.mem_singleton.1 hc];exact he
  ·show cs.length-((i+1:Nat):Int).toNat<cs.length-((i:Nat):Int).toNat;simp only [Ait];omega
 ·rw [List.take_of_length_le Omg] at aF;exact aF
theorem DE(hl:Rd w a (BF cs))(hn:cs.length<=9223372036854775807)(hq:∀ c∈cs,c.1.size<=9223372036854775807) :
  Cw 95 #[.slice a cs.length c] w λ r w'=>r=.bool (Ao cs)/\w'=w:=by
 apply OX
 delta Cb Ci F G I Li Lt Qi S T W X;try dsimp only [Ps]
 refine Aa (λ h=>⟨?_,rfl⟩) (λ h1=>Aa (λ h=>⟨?_,rfl⟩) (λ h2=>?_))
 ·have:¬ (1<=cs.length/\cs.length<=16):=Omg;simp [Ao,this]
 ·have:¬ (1<=cs.length/\cs.length<=16):=Omg;simp [Ao,this]
 refine⟨λ st w2=>∃ i:Nat,st=[.int .i64 (i:Int)]/\i<=cs.length/\(∀ j (hj:j<cs.length),j<i->Fp cs[j]=true/\cs[j].1∉(cs.take j).map (·.1))/\w2=w,
  λ st _=>match st with | [.int _ t]=>cs.length-t.toNat | _=>0,⟨0,rfl,Omg,λ j _ hj=>Omg,rfl⟩,?_⟩
 rintro t w2 ⟨i,aA,hi,aF,rfl⟩;cases aA;refine Aa (λ aB=>⟨⟨Omg,aB⟩,?_⟩) (λ aJ=>⟨?_,rfl⟩)
 ·have aD:i<cs.length:=Omg;have ao:=hq _ (Ai7 aD);obtain⟨p,rfl,c0,c1,c2⟩:=Fq hl aD;have bad:Fp cs[i]=false\/cs[i].1∈(cs.take i).map (·.1)->Value.bool false=.bool (Ao cs)/\w2=w2:=λ h=>⟨by rw [VW aD h],rfl⟩;have hb:(0:Int)<=(i:Int)/\(i:Int)<(cs.length:Int):=⟨Omg,aB⟩;refine⟨_,by rw [Ait];exact c0,(RX _ ao w2).mono ?_⟩;rintro _ w2 ⟨_,rfl,rfl,rfl⟩;refine⟨_,rfl,As (Aq (λ h3=>⟨hb,_,by rw [Ait];exact c0,(UX hl hn _).mono ?_⟩) (λ h3=>bad (.inl (by simp [Fp,h3]))))⟩;rintro _ w2 ⟨r,rfl,rfl,hr⟩;have gV:∃ z:Int,r=.int .i64 z/\(z=i↔cs[i].1∉(cs.take i).map (·.1)):=by
   rcases hr with ⟨rfl,h⟩ | ⟨j,hj,rfl,he,h⟩
   ·exact absurd rfl (h _ (Ai7 aD))
   ·refine⟨_,rfl,?_⟩;have hle:j<=i:=by
     rcases Ai6 i j with dQ | dQ
     ·exact absurd rfl (h cs[i] (List.mem_take_iff_getElem.2 ⟨i,Omg,rfl⟩))
     ·exact dQ
    constructor
    ·intro hz hm;obtain⟨c,hc,he⟩:=Ah9.1 hm;have:j=i:=Omg;subst this;exact h c hc he
    ·intro hm;rcases Ai6 j i with dX | dX
     ·exact absurd (Ah9.2 ⟨cs[j],List.mem_take_iff_getElem.2 ⟨j,Omg,rfl⟩,he⟩) hm
     ·omega
  obtain⟨z,rfl,hz⟩:=gV;refine⟨_,rfl,Ai (λ h=>bad (.inr ?_)) (λ h=>⟨hb,_,by rw [Ait];exact c1,?_⟩)⟩
  ·by_cases hm:cs[i].1∈(cs.take i).map (·.1)
   ·exact hm
   ·exact absurd (hz.2 hm) h
  refine Aa (λ h3=>bad (.inl ?_)) (λ h3=>⟨hb,_,by rw [Ait];exact c1,Aa (λ h4=>bad (.inl ?_)) (λ h4=>?_)⟩)
  ·have:¬ (1<=cs[i].2.1/\cs[i].2.1<=3):=Omg;simp only [Fp,this,decide_false,AjB]
  ·have:¬ (1<=cs[i].2.1/\cs[i].2.1<=3):=Omg;simp only [Fp,this,decide_false,AjB]
  ·rw [Ae Omg];refine⟨⟨i+1,rfl,Omg,λ j hj dX=>?_,rfl⟩,?_⟩
   ·rcases Ai6 j i with h | h
    ·exact aF j hj h
    ·obtain rfl:j=i:=Omg;refine⟨?_,hz.1 Omg⟩;have:1<=cs[j].2.1/\cs[j].2.1<=3:=Omg;simp_all [Fp]
   ·show cs.length-((i+1:Nat):Int).toNat<cs.length-((i:Nat):Int).toNat;simp only [Ait];omega
 ·have hR:Ao cs=decide (1<=cs.length/\cs.length<=16):=VV λ j hj=>aF j hj Omg;rw [hR];congr 1;rw [eq_comm,decide_eq_true_eq];omega
end
end Go.Proofs.YtpnaifmmggnimaaGreatDoor
namespace Go.Proofs.YtpnaifmmggnimaaGreatDoor
open R
open _root_.UInt8 renaming ofNat -> Aiz
set_option maxRecDepth 100000
open Go.Dn Go.Proofs
open Go.RowKit (Below)
set_option linter.unusedVariables false
/-! ### what package-level variables hold -/
/-! ### Number, Signed, Text -/
/-! ### Lay -/
def Cr(v:AD):List UInt8 :=
 if v.1=1 then 1 :: Af (DQ v.2.1) else if v.1=2 then [2,Aiz v.2.1.toNat] else if v.1=3 then 3 :: Bm v.2.2 else [0]
def Ago(b:List UInt8)(v:AD)(r:Value)(w w':World):Prop :=
 (AK v=false/\r=.tuple #[.slice none 0 0,.int .i64 2]/\Below w.heap.size w w')\/(AK v=true/\∃ a c,r=.tuple #[.slice a (b++Cr v).length c,.int .i64 0]/\Bj w w' (b++Cr v) a c)
theorem JB{w:World}{a:Option Addr}{c:Nat}(l:List UInt8)(hl:Rd w a (l.map Ag))(v:AD)(hv:BM v)(hs:l.length+2000<=140737488355328) :
  Cw 99 #[.slice a l.length c,Sk v] w λ r w'=>Ago l v r w w':=by
 apply Sl
 delta A Ab B AM Cb Cs E F H I J Ks Li Lt N O S T Wb;try dsimp only [Ps]
 refine (SH.start (λ _=>False) w).An λ b5 w1 gB B1 S1=>⟨_,S1.cell 0 rfl rfl,_,S1.cell 0 rfl rfl,_,S1.cell 0 rfl rfl,(Ev w1 v).mono ?_⟩;rintro _ w2 ⟨_,rfl,rfl,B2⟩;have S2:=S1.grown B2;refine⟨_,rfl,As (Aq (λ hr=>?_) (λ hr=>.inl ⟨hr,rfl,S2.below⟩))⟩;have hk:=F3 hr;refine⟨_,S2.cell 0 rfl rfl,S2.An λ dv w3 nH B3 S3=>S3.An λ tg w4 nI B4 S4=>?_⟩;obtain⟨kk,fA,hkb⟩:∃ kk:Nat,v.1=kk/\kk<4:=⟨v.1.toNat,Omg,Omg⟩;have qn:Value.int .u8 (IntKind.u8.wrap v.1)=Ag (Aiz kk):=by rw [fA,AG Omg Omg];exact Ck Omg
 refine (Bl [(a,c,l),(some ⟨dv,0,none⟩,1,[Aiz kk])] (by have:=Rd.Al (S4.get 0 rfl);simpa [BZ] using this) (by
  intro p hp;simp only [List.mem_cons,List.not_mem_nil,or_false] at hp;rcases hp with rfl | rfl
  ·exact hl.grown S4.below
  ·have:=Rd.Al (S4.get 1 rfl);rw [qn] at this;simpa using this) Osi (by rw [Tt];simp;omega)).mono ?_
 rintro _ w5 ⟨_,rfl,a5,c5,rfl,h5⟩;rw [Tt] at h5 ⊢;have S5:=S4.grown h5.Ar;have gK:Bj w w5 (l++[Aiz kk]) a5 c5:=h5.before S4.below;refine⟨_,_,_,rfl,_,S5.cell 2 rfl rfl,Ap (λ h=>⟨_,S5.cell 2 rfl rfl,?_⟩) (λ h1=>Ap (λ h=>⟨_,S5.cell 2 rfl rfl,?_⟩) (λ h2=>Ap (λ h=>⟨_,S5.cell 2 rfl rfl,?_⟩) (λ h3=>?_)))⟩
 ·refine (FB _ gK.rd v.2.1 hv.lo hv.hi (by simp;omega)).mono ?_;rintro _ w6 ⟨_,rfl,a6,c6,rfl,h6⟩;have e:(l++[Aiz kk])++Af (DQ v.2.1)=l++Cr v:=by
   have:kk=1:=Omg;subst this;simp [Cr,h]
  rw [e] at h6 ⊢;exact⟨_,_,_,rfl,.inr ⟨hr,a6,c6,rfl,h6.before gK.Ar⟩⟩
 ·have nG:v.2.1=0\/v.2.1=1:=Omg;refine S5.An λ fH w7 jT B7 S7=>?_;refine CH (gK.grown B7).row (by simp;omega) (x:=Aiz v.2.1.toNat) (by rw [AG Omg Omg];rcases nG with h | h <;> rw [h] <;> rfl) (S7.get 0 rfl) λ a8 c8 w8 R8 K8 N8=>⟨_,_,_,rfl,.inr ⟨hr,a8,c8,?_⟩⟩;have e:(l++[Aiz kk])++[Aiz v.2.1.toNat]=l++Cr v:=by
   have:kk=2:=Omg;subst this;simp [Cr,h]
  rw [e] at R8 ⊢;have h7:=gK.grown B7;refine⟨rfl,R8,λ k hk=>?_,h7.Ar.trans (K8.below h7.Ar.size λ k hk he=>by have:=h7.new k he;omega)⟩;rcases N8 k hk with h | h
  ·exact h7.new k h
  ·exact Nat.le_trans h7.Ar.size h
 ·refine (FC _ gK.rd v.2.2 Omg (by simp;omega)).mono ?_;rintro _ w6 ⟨_,rfl,a6,c6,rfl,h6⟩;have e:(l++[Aiz kk])++Bm v.2.2=l++Cr v:=by
   have:kk=3:=Omg;subst this;simp [Cr,h]
  rw [e] at h6 ⊢;exact⟨_,_,_,_,rfl,.inr ⟨hr,a6,c6,rfl,h6.before gK.Ar⟩⟩
 ·have e:l++[Aiz kk]=l++Cr v:=by
   have:kk=0:=Omg;subst this;simp [Cr,h1,h2,h3]
  have h6:=gK;rw [e] at h6;refine .inr ⟨hr,a5,c5,?_,h6⟩;rw [<- e]
/-! ### Show -/
end Go.Proofs.YtpnaifmmggnimaaGreatDoor
namespace Go.Dn
theorem SH.v3{F:Nat->Prop}{w0 w:World}{H:List Xm}(S:SH F w0 w H)(n:Nat){b:Nat}{x y:Int}{s:ByteArray}{t:TypeId}(hn:H[n]?=some (b,#[.int .i64 x,.int .i64 y,.string s],t)){Q:Int->Int->ByteArray->Prop}(h:Q x y s) :
  ∃ a:Int,w.cell? ⟨b,0,none⟩=some (.int .i64 a)/\∃ c:Int,w.cell? ⟨b,1,none⟩=some (.int .i64 c)/\∃ d:ByteArray,w.cell? ⟨b,2,none⟩=some (.string d)/\Q a c d :=
 ⟨x,S.cell n hn rfl,y,S.cell n hn rfl,s,S.cell n hn rfl,h⟩
end Go.Dn
namespace Go.Proofs.YtpnaifmmggnimaaGreatDoor
open Go.Dn Go.Proofs
open Go.RowKit (Below)
set_option linter.unusedVariables false
set_option maxRecDepth 20000
/-! ### orders -/
/-! ### the laws -/
end Go.Proofs.YtpnaifmmggnimaaGreatDoor
namespace Go.Proofs.YtpnaifmmggnimaaGreatDoor
open R
open _root_.BitVec renaming ofInt -> AhZ, ofInt_natCast -> AiC, toNat_ofNat -> AiB
open _root_.List renaming mem_singleton -> Ajo
open _root_.Nat renaming mod_eq_of_lt -> AiA
open _root_.UInt8 renaming ofNat -> Aiz
set_option maxRecDepth 100000
open Go.Dn Go.Proofs
open Go.RowKit (Below)
set_option linter.unusedVariables false
section
variable {w:World}{a:Option Addr}{c:Nat}
theorem Jv(l:List UInt8)(hl:Rd w a (l.map Ag))(v:AD)(hv:BM v)(hs:l.length+2000<=140737488355328) :
  Cw 101 #[.slice a l.length c,Sk v] w λ r w'=>Ago l v r w w':=by
 apply RW
 delta A Ab B AM Cb Cs D E F H I J Ks Li Lt N O Rs S T W Wb Zs;try dsimp only [Ps]
 refine (SH.start (λ _=>True) w).An λ b5 w1 gB B1 S1=>S1.v3 0 rfl ((Fv w1 v).mono ?_);rintro _ w2 ⟨_,rfl,rfl,B2⟩;have S2:=S1.grown B2;have B2':=Ac B1 B2;refine⟨_,rfl,As (Aq (λ hr=>?_) (λ hr=>.inl ⟨hr,rfl,B2'⟩))⟩;have hk:=F3 hr;obtain⟨kk,fA,hkb⟩:∃ kk:Nat,v.1=kk/\kk<4:=⟨v.1.toNat,Omg,Omg⟩;have qn:Value.int .u8 (IntKind.u8.wrap v.1)=Ag (Aiz kk):=by rw [fA,AG Omg Omg];exact Ck Omg
 have pj:IntKind.i64.wrap ((l.length:Int)+1)=((l.length+1:Nat):Int):=by rw [wrap_i64 Omg Omg];omega
 rw [pj];have hb5w:∀ w',Below w2.heap.size w2 w'->b5<w'.heap.size:=λ w' hb=>by
  have:=S2.lt (Ajo.2 rfl);have:=hb.size;omega
 refine⟨λ s ah=>∃(a:Option Addr) (c:Nat),s=[.slice a (l++[Aiz kk]).length c]/\Bj w ah (l++[Aiz kk]) a c/\SH (λ _=>True) w ah [(b5,#[.int .i64 v.1,.int .i64 v.2.1,.string v.2.2],120)],?_,?_⟩
 ·refine S2.EL λ w3 B3 S3=>⟨_,S3.cell 0 rfl rfl,?_⟩;have B3':=Ac B2' B3;have ZW:∀ {w1 w2:World} {ar:Option Addr},SH (λ _=>True) w w1 [(b5,#[.int .i64 v.1,.int .i64 v.2.1,.string v.2.2],120)]->Ak (λ k=>AF ar=some k) w1 w2->(∀ k,AF ar=some k->w3.heap.size<=k)->SH (λ _=>True) w w2 [(b5,#[.int .i64 v.1,.int .i64 v.2.1,.string v.2.2],120)]:=by
   intro w1 w2 ar S K hr;refine S.kept K (λ x hx he=>?_) (λ _ _ _=>trivial);simp only [Ajo] at hx;subst hx;have:=hr _ he;have:=S3.lt (Ajo.2 rfl);simp only at *;omega
  refine⟨G7 tB Omg Omg λ b w4 hb B4 R4=>⟨_,_,_,rfl,(S3.grown B4).cell 0 rfl rfl,?_,?_⟩,?_⟩
  ·have h4:Bj w3 w4 [] (some ⟨b,0,none⟩) (l.length+1):=⟨R4,λ k hk=>by simp [AF] at hk;omega,B4⟩;refine A0 (l:=[]) R4 (hl.grown (Ac B3' B4)) (by simp;omega) λ a5 c5 w5 R5 K5 N5=>?_;have h5:Bj w3 w5 l a5 c5:=h4.Bs (.refl _ _) R5 K5 N5;have S5:=ZW (S3.grown B4) K5 h4.new;refine⟨_,_,_,rfl,S5.cell 0 rfl rfl,S5.An λ dH w6 iL B6 S6=>?_⟩;refine CH (h5.grown B6).row Omg qn (S6.get 0 rfl) λ a7 c7 w7 R7 K7 N7=>⟨_,_,_,rfl,a7,c7,rfl,(h5.Bs B6 R7 K7 N7).before B3',ZW (S5.grown B6) K7 h5.new⟩
  ·have h4:Bj w3 w4 [] (some ⟨b,0,none⟩) (l.length+1):=⟨R4,λ k hk=>by simp [AF] at hk;omega,B4⟩;refine (S3.grown B4).An λ dH w8 iL B8 S8=>?_;refine A0 (l:=[]) (R4.grown B8) (hl.grown (Ac (Ac B3' B4) B8)) (by simp;omega) λ a5 c5 w9 R5 K5 N5=>?_;have h5:Bj w3 w9 l a5 c5:=h4.Bs B8 R5 K5 N5;have S9:=ZW (S8.drop 1) K5 h4.new;have jS:w9.heap[dH]?=some (.cells #[.int .u8 (IntKind.u8.wrap v.1)] 5 (0,0)):=K5.at (S8.get 0 rfl) (λ he=>by simp [AF] at he;have:=h4.row.lt (k:=b) rfl;omega);refine⟨_,_,_,rfl,CH h5.row Omg qn jS λ a7 c7 w7 R7 K7 N7=>⟨_,_,_,rfl,a7,c7,rfl,(h5.Bs (.refl _ _) R7 K7 N7).before B3',ZW S9 K7 h5.new⟩⟩
  ·refine S3.An λ dH aZ iL cH bG=>G7 tB Omg Omg λ b w4 hb B4 R4=>⟨_,_,_,rfl,?_⟩;have h4:Bj aZ w4 [] (some ⟨b,0,none⟩) (l.length+1):=⟨R4,λ k hk=>by simp [AF] at hk;omega,B4⟩;have yQ:Bj w3 w4 [] (some ⟨b,0,none⟩) (l.length+1):=h4.before cH;refine A0 (l:=[]) R4 (hl.grown (Ac (Ac B3' cH) B4)) (by simp;omega) λ a5 c5 w9 R5 K5 N5=>?_;have h5:Bj w3 w9 l a5 c5:=yQ.Bs (.refl _ _) R5 K5 N5;have S9:=ZW ((bG.grown B4).drop 1) K5 yQ.new;have jS:w9.heap[dH]?=some (.cells #[.int .u8 (IntKind.u8.wrap v.1)] 5 (0,0)):=K5.at ((bG.grown B4).get 0 rfl) (λ he=>by simp [AF] at he;have:=bG.lt List.mem_cons_self;simp only at this;omega);refine⟨_,_,_,rfl,CH h5.row Omg qn jS λ a7 c7 w7 R7 K7 N7=>⟨_,_,_,rfl,a7,c7,rfl,(h5.Bs (.refl _ _) R7 K7 N7).before B3',ZW S9 K7 h5.new⟩⟩
 rintro a5 _ c5 w5 ⟨_,_,bR,gK,S5⟩;cases bR;refine⟨_,S5.cell 0 rfl rfl,Ap (λ h=>⟨_,S5.cell 0 rfl rfl,?_⟩) (λ h1=>Ap (λ h=>⟨_,S5.cell 0 rfl rfl,?_⟩) (λ h2=>Ap (λ h=>⟨_,S5.cell 0 rfl rfl,?_⟩) (λ h3=>?_)))⟩
 ·refine (E5 _ gK.rd v.2.1 hv.lo hv.hi (by simp;omega)).mono ?_;rintro _ w6 ⟨_,rfl,a6,c6,rfl,h6⟩;have e:(l++[Aiz kk])++Af (DQ v.2.1)=l++Cr v:=by
   have:kk=1:=Omg;subst this;simp [Cr,h]
  rw [e] at h6 ⊢;exact⟨_,_,_,rfl,.inr ⟨hr,a6,c6,rfl,h6.before gK.Ar⟩⟩
 ·have nG:v.2.1=0\/v.2.1=1:=Omg;refine S5.An λ fH w7 jT B7 S7=>?_;refine CH (gK.grown B7).row (by simp;omega) (x:=Aiz v.2.1.toNat) (by rw [AG Omg Omg];rcases nG with h | h <;> rw [h] <;> rfl) (S7.get 0 rfl) λ a8 c8 w8 R8 K8 N8=>⟨_,_,_,rfl,.inr ⟨hr,a8,c8,?_⟩⟩;have e:(l++[Aiz kk])++[Aiz v.2.1.toNat]=l++Cr v:=by
   have:kk=2:=Omg;subst this;simp [Cr,h]
  have h8:=gK.Bs B7 R8 K8 N8;rw [e] at h8 ⊢;exact⟨rfl,h8⟩
 ·refine (Gg _ gK.rd v.2.2 Omg (by simp;omega)).mono ?_;rintro _ w6 ⟨_,rfl,a6,c6,rfl,h6⟩;have e:(l++[Aiz kk])++Bm v.2.2=l++Cr v:=by
   have:kk=3:=Omg;subst this;simp [Cr,h]
  rw [e] at h6 ⊢;exact⟨_,_,_,_,rfl,.inr ⟨hr,a6,c6,rfl,h6.before gK.Ar⟩⟩
 ·have e:l++[Aiz kk]=l++Cr v:=by
   have:kk=0:=Omg;subst this;simp [Cr,h1,h2,h3]
  have h6:=gK;rw [e] at h6;refine .inr ⟨hr,a5,c5,?_,h6⟩;rw [<- e]
end
def Cq(n:Nat):Int:=if n % 2=1 then -((n / 2:Nat):Int)-1 else ((n / 2:Nat):Int)
theorem Ae4(n:Nat)(h:n<18446744073709551616):(AhZ 64 (n:Int) &&& AhZ 64 1).toNat=n % 2:=by
 rw [BitVec.toNat_and,AiC,AiB,AiA Omg];exact Nat.and_two_pow_sub_one_eq_mod n 1
theorem Ut{n:Nat}(h:n<18446744073709551616) :
  IntKind.i64.wrap (((AhZ 64 (IntKind.i64.wrap (Int.fdiv (n:Int) (2 ^ (min 1 64)))) ^^^ AhZ 64 (IntKind.i64.wrap (0-IntKind.i64.wrap (IntKind.u64.wrap (((AhZ 64 (n:Int) &&& AhZ 64 1).toNat:Int)))))).toNat:Int))=Cq n:=by
 have e1:IntKind.i64.wrap (Int.fdiv (n:Int) (2 ^ (min 1 64)))=((n / 2:Nat):Int):=by
  rw [Int.fdiv_eq_ediv_of_nonneg _ Ode,show (2:Int) ^ (min 1 64)=2 from rfl,wrap_i64 Omg Omg];omega
 rw [e1,Ae4 n h,Aj Omg Omg,wrap_i64 (n:=((n % 2:Nat):Int)) Omg Omg];unfold Cq;by_cases ho:n % 2=1
 ·rw [ho,if_pos rfl,show IntKind.i64.wrap (0-((1:Nat):Int)) = -1 by decide,show AhZ 64 (-1)=BitVec.allOnes 64 by decide,BitVec.xor_allOnes,BitVec.toNat_not,AiC,AiB,AiA Omg,CQ];split <;> omega
 ·have:n % 2=0:=Omg;rw [this,if_neg Omg,show IntKind.i64.wrap (0-((0:Nat):Int))=0 by decide,show AhZ 64 0=0#64 by decide,BitVec.xor_zero,AiC,AiB,AiA Omg,wrap_i64 Omg Omg]
theorem Gn{n:Nat}(h:n<18446744073709551616) : -9223372036854775808<=Cq n/\Cq n<=9223372036854775807:=by unfold Cq;split <;> omega
def Aeq(o:Option (Nat × Nat)):Value :=
 match o with
 | some x=>.tuple #[.int .i64 (Cq x.1),.int .i64 (x.2:Int),.int .i64 0]
 | none=>.tuple #[.int .i64 0,.int .i64 0,.int .i64 20]
section
variable {w:World}{a:Option Addr}{c:Nat}{l:List UInt8}
theorem Ff(hl:Rd w a (l.map Ag))(hc:l.length<=c)(hs:l.length<=9223372036854775807)(at_:Int):Cw 187 #[.slice a l.length c,.int .i64 at_] w λ v w'=>v=Aeq (takeN l at_)/\w'=w:=by
 apply J2
 delta Bz H I S W Wu;try dsimp only [Ps]
 refine (AL hl hc hs at_).mono ?_;rintro _ w ⟨_,rfl,rfl,rfl⟩;cases ho:takeN l at_ with
 | none=>exact⟨_,_,_,rfl,rfl,rfl⟩
 | some x =>
  obtain⟨n,k⟩:=x;refine⟨_,_,_,rfl,?_,rfl⟩;rw [Ut (AA ho).1];rfl
theorem Fw(hl:Rd w a (l.map Ag))(hs:l.length<=9223372036854775807)(at_:Int)(cV:at_<=9223372036854775807):Cw 159 #[.slice a l.length c,.int .i64 at_] w λ v w'=>v=Aeq (takeN l at_)/\w'=w:=by
 apply Jt
 delta Bz F H I S W Wu;try dsimp only [Ps]
 refine (AJ hl hs at_ cV).mono ?_;rintro _ w ⟨_,rfl,rfl,rfl⟩;cases ho:takeN l at_ with
 | none=>exact⟨_,_,_,rfl,CG ⟨rfl,rfl⟩⟩
 | some x =>
  obtain⟨n,k⟩:=x;have hb:=(AA ho).1;refine⟨_,_,_,rfl,AN ?_⟩;have e1:Int.tmod (n:Int) 2=((n % 2:Nat):Int):=by rw [Int.tmod_eq_emod_of_nonneg Omg];omega
  have e2:IntKind.u64.wrap (Int.tdiv (n:Int) 2)=((n / 2:Nat):Int):=by rw [Int.tdiv_eq_ediv_of_nonneg Omg,Aj Omg Omg];omega
  rw [e1,e2,wrap_i64 (n:=((n / 2:Nat):Int)) Omg Omg];refine Ap (λ h=>⟨?_,rfl⟩) (λ h=>⟨?_,rfl⟩)
  ·simp only [Aeq,Cq];rw [if_pos Omg,wrap_i64 (n:=0-((n / 2:Nat):Int)) Omg Omg,wrap_i64 Omg Omg];congr 4;omega
  ·simp only [Aeq,Cq];rw [if_neg Omg]
/-! ### Take -/
end
section
variable {w:World}{a:Option Addr}{c:Nat}{l:List UInt8}
/-! ### Take -/
def Bg(l:List UInt8)(at_:Int):Option (AD × Nat) :=
 if at_<0\/(l.length:Int)<=at_ then none else
 let k:=(l.getD at_.toNat 0).toNat
 if k=0 then some ((0,0,E0),at_.toNat+1)
 else if k=1 then (takeN l (at_+1)).map λ x=>((1,Cq x.1,E0),x.2)
 else if k=2 then (if at_+1<l.length/\(l.getD (at_.toNat+1) 0).toNat<=1 then some ((2,((l.getD (at_.toNat+1) 0).toNat:Int),E0),at_.toNat+2) else none)
 else if k=3 then (BG l (at_+1) 1024).map λ x=>((3,0,Bu x.1),x.2)
 else none
def Ur(o:Option (AD × Nat)):Value :=
 match o with
 | some x=>.tuple #[.agg #[.int .i64 x.1.1,.int .i64 x.1.2.1,.string x.1.2.2],.int .i64 (x.2:Int),.int .i64 0]
 | none=>.tuple #[.agg #[.int .i64 0,.int .i64 0,.string E0],.int .i64 0,.int .i64 20]
theorem PO{l:List UInt8}{at_:Nat}:(∃ n k,takeN l (at_:Int)=some (n,k)/\(n=0\/n=1))↔(at_<l.length/\(l.getD at_ 0).toNat<=1):=by
 have ht:takeN l (at_:Int)=(Cj 0 0 (l.drop at_)).map λ x=>(x.1,at_+x.2):=by unfold takeN;rw [if_neg Omg];rfl
 by_cases h:at_<l.length
 ·have hd:l.drop at_=l[at_] :: l.drop (at_+1):=List.drop_eq_getElem_cons h;have hg:l.getD at_ 0=l[at_]:=by simp [List.getD,h]
  rw [hg];generalize l[at_]=c at hd;have e:Cj 0 0 (c :: l.drop (at_+1))=if c.toNat<128 then some (c.toNat,1) else Cj 1 (c.toNat % 128) (l.drop (at_+1)):=by
   conv=>lhs;unfold Cj
   rw [if_neg Omg];by_cases hc:c.toNat<128
   ·rw [if_pos hc,if_pos hc,if_neg Omg];simp
   ·rw [if_neg hc,if_neg hc];simp
  rw [ht,hd,e];by_cases hc:c.toNat<128
  ·rw [if_pos hc];simp only [Option.map_some,Option.some.injEq,Prod.mk.injEq];constructor
   ·rintro⟨n,k,⟨rfl,_⟩,hn⟩;exact⟨h,Omg⟩
   ·rintro⟨_,hn⟩;exact⟨_,_,⟨rfl,rfl⟩,Omg⟩
  ·rw [if_neg hc];constructor
   ·rintro⟨n,k,hs,hn⟩;obtain⟨⟨x1,x2⟩,hx,he⟩:=Option.map_eq_some_iff.1 hs;simp only [Prod.mk.injEq] at he;obtain⟨_,_,_,_,hb⟩:=Jr _ 1 _ _ _ Omg hx;have:=hb Omg;omega
   ·rintro⟨_,hn⟩;omega
 ·have hd:l.drop at_=[]:=List.drop_eq_nil_of_le Omg;rw [ht,hd];constructor
  ·rintro⟨n,k,hs,_⟩;simp [Cj] at hs
  ·rintro⟨hh,_⟩;omega
theorem AbQ{l:List UInt8}{at_ n k:Nat}(h:takeN l (at_:Int)=some (n,k))(hn:n=0\/n=1):n=(l.getD at_ 0).toNat/\k=at_+1:=by
 have hb:=PO.1 ⟨n,k,h,hn⟩;have ht:takeN l (at_:Int)=(Cj 0 0 (l.drop at_)).map λ x=>(x.1,at_+x.2):=by unfold takeN;rw [if_neg Omg];rfl
 have hd:l.drop at_=l[at_] :: l.drop (at_+1):=List.drop_eq_getElem_cons hb.1;have hg:l.getD at_ 0=l[at_]:=by simp [List.getD,hb.1]
 rw [hg] at hb ⊢;rw [ht,hd] at h;unfold Cj at h;rw [if_neg Omg,if_pos Omg,if_neg Omg] at h;simp at h;omega
end
end Go.Proofs.YtpnaifmmggnimaaGreatDoor
namespace Go.Dn
theorem SH.Sd{F:Nat->Prop}{w0 w:World}{H:List Xm}(S:SH F w0 w H)(n:Nat){b:Nat}{x0 x1 x2:Value}{t:TypeId}(hn:H[n]?=some (b,#[x0,x1,x2],t)){v0 v1:Int}{v2:ByteArray}{Q:Int->Int->ByteArray->World->Prop}
  (hk:∀ w',SH F w0 w' (H.set n (b,#[.int .i64 v0,.int .i64 v1,.string v2],t))->Q v0 v1 v2 w') :
  DG ⟨b,0,none⟩ (.int .i64 v0) (λ w=>DG ⟨b,1,none⟩ (.int .i64 v1) (λ w=>DG ⟨b,2,none⟩ (.string v2) (λ w=>∃ r0:Int,w.cell? ⟨b,0,none⟩=some (.int .i64 r0)/\∃ r1:Int,w.cell? ⟨b,1,none⟩=some (.int .i64 r1)/\∃ r2:ByteArray,w.cell? ⟨b,2,none⟩=some (.string r2)/\Q r0 r1 r2 w) w) w) w:=by
 have aB:=(List.getElem?_eq_some_iff.1 hn).1;exact S.Af2 n hn λ w' _ S'=>S'.v3 n (List.getElem?_set_self aB) (hk w' S')
end Go.Dn
namespace Go.Proofs.YtpnaifmmggnimaaGreatDoor
open R
open _root_.Int renaming toNat_natCast -> Ait
open Go.Dn Go.Proofs
open Go.RowKit (Below)
set_option linter.unusedVariables false
set_option maxRecDepth 20000
section
variable {w:World}{a:Option Addr}{c:Nat}{l:List UInt8}
theorem PQ{i:Nat}(hi:i<l.length):l.getD i 0=l[i]:=by simp [List.getD,hi]
theorem Ig(hl:Rd w a (l.map Ag))(hc:l.length<=c)(hs:l.length<=140737488355328)(at_:Int) :
  Cw 122 #[.slice a l.length c,.int .i64 at_] w λ v w'=>v=Ur (Bg l at_)/\Below w.heap.size w w':=by
 apply Qx
 delta A Ab Ad JD Gb E F H I Li Lt Ly N S Am T W X Zii;try dsimp only [Ps]
 refine (SH.start (λ _=>False) w).An λ b3 w1 dI B1 S1=>?_;refine Aa (λ h=>S1.Sd 0 rfl λ w4 S4=>⟨by simp [Bg,h,Ur],S4.below⟩) (λ h0=>Aa (λ h=>S1.Sd 0 rfl λ w4 S4=>⟨?_,S4.below⟩) (λ h1=>?_))
 ·unfold Bg;rw [if_pos (.inr h)];rfl
 obtain⟨at_,rfl⟩:∃ k:Nat,at_=k:=⟨at_.toNat,Omg⟩;have cV:at_<l.length:=Omg;refine⟨⟨Omg,Omg⟩,?_⟩;obtain⟨p,hp,aE⟩:=byte_at (hl.grown B1) cV;subst hp;have hg:=PQ cV;have iq:=l[at_].toNat_lt;refine⟨_,by rw [Ait];exact aE,S1.Ic λ dv aZ nH cH bG=>?_⟩;have gS:Rd aZ (some p) (l.map Ag):=hl.grown bG.below;rw [wrap_i64 (n:=(l[at_].toNat:Int)) Omg Omg] at bG;have ew:IntKind.i64.wrap ((at_:Int)+1)=((at_+1:Nat):Int):=by rw [wrap_i64 Omg Omg];omega
 rw [ew];have ht:Bg l (at_:Int)=(if l[at_].toNat=0 then some ((0,0,E0),at_+1)
   else if l[at_].toNat=1 then (takeN l ((at_+1:Nat):Int)).map λ x=>((1,Cq x.1,E0),x.2)
   else if l[at_].toNat=2 then (if (at_:Int)+1<l.length/\(l.getD (at_+1) 0).toNat<=1 then some ((2,((l.getD (at_+1) 0).toNat:Int),E0),at_+2) else none)
   else if l[at_].toNat=3 then (BG l ((at_+1:Nat):Int) 1024).map λ x=>((3,0,Bu x.1),x.2)
   else none):=by
  unfold Bg;rw [if_neg Omg,Ait,hg,show (at_:Int)+1=((at_+1:Nat):Int) by omega]
 generalize fA:l[at_].toNat=kk at ht bG iq;refine⟨λ s fG=>∃(nx e:Int) (v:AD),s=[.int .i64 nx,.int .i64 e]/\SH (λ _=>False) w fG [(dv,#[.int .i64 v.1,.int .i64 v.2.1,.string v.2.2],120),(b3,#[.int .i64 0,.int .i64 0,.string E0],120)] /\
   (e≠0->e=20/\Bg l (at_:Int)=none)/\(e=0->∃ k:Nat,nx=k/\Bg l (at_:Int)=some (v,k)),?_,?_⟩
 ·refine⟨_,bG.cell 0 rfl rfl,Ap (λ h=>?_) (λ n0=>Ap (λ h=>?_) (λ n1=>Ap (λ h=>?_) (λ n2=>Ap (λ h=>?_) (λ n3=>?_))))⟩
  ·have:kk=0:=Omg;subst this;exact⟨_,_,(0,0,E0),rfl,bG,λ h=>absurd rfl h,λ _=>⟨at_+1,rfl,by rw [ht];simp⟩⟩
  ·have:kk=1:=Omg;subst this;refine (Fw gS Omg _ Omg).mono ?_;rintro _ aZ ⟨_,rfl,rfl,rfl⟩;cases ho:takeN l ((at_+1:Nat):Int) with
   | none =>
    exact⟨_,_,_,rfl,bG.BD 0 rfl (show 1<3 by decide) λ al eC=>⟨_,_,(1,0,E0),rfl,eC,λ _=>⟨rfl,by rw [ht,ho];simp⟩,λ h=>absurd h Ode⟩⟩
   | some x =>
    obtain⟨n,k⟩:=x;exact⟨_,_,_,rfl,bG.BD 0 rfl (show 1<3 by decide) λ al eC=>⟨_,_,(1,Cq n,E0),rfl,eC,λ h=>absurd rfl h,λ _=>⟨k,rfl,by rw [ht,ho];simp⟩⟩⟩
  ·have:kk=2:=Omg;subst this;have no:¬ ((at_:Int)+1<l.length/\(l.getD (at_+1) 0).toNat<=1)->Bg l (at_:Int)=none:=by
    intro hn;rw [ht];simp only [if_neg (show ¬ (2:Nat)=0 by decide),if_neg (show ¬ (2:Nat)=1 by decide),if_true];rw [if_neg hn]
   refine Aa (λ h=>bG.Sd 1 rfl λ w4 S4=>⟨by rw [no Omg];rfl,S4.below⟩) (λ h=>⟨⟨Omg,Omg⟩,?_⟩);have kr:at_+1<l.length:=Omg;obtain⟨p',hp',hcell2⟩:=byte_at gS kr;cases hp';have eL:=PQ kr;have hcc2:=l[at_+1].toNat_lt;refine⟨_,by rw [Ait];exact hcell2,Aa (λ h=>bG.Sd 1 rfl λ w4 S4=>⟨by rw [no (by rw [eL];omega)];rfl,S4.below⟩) (λ h=>⟨⟨Omg,Omg⟩,_,by rw [Ait];exact hcell2,?_⟩)⟩;rw [wrap_i64 (n:=(l[at_+1].toNat:Int)) Omg Omg,wrap_i64 (n:=((at_+1:Nat):Int)+1) Omg Omg];refine bG.BD 0 rfl (show 1<3 by decide) λ al eC=>⟨_,_,(2,(l[at_+1].toNat:Int),E0),rfl,eC,λ h=>absurd rfl h,λ _=>⟨at_+2,Omg,?_⟩⟩;rw [ht];simp only [if_neg (show ¬ (2:Nat)=0 by decide),if_neg (show ¬ (2:Nat)=1 by decide),if_true];rw [if_pos ⟨Omg,by rw [eL];omega⟩,eL]
  ·have:kk=3:=Omg;subst this;refine (DU gS hc Omg _ Omg 1024).mono ?_;rintro _ aZ ⟨_,rfl,rfl,rfl⟩;cases ho:BG l ((at_+1:Nat):Int) 1024 with
   | none =>
    exact⟨_,_,_,rfl,bG.BD 0 rfl (show 2<3 by decide) λ al eC=>⟨_,_,(3,0,E0),rfl,eC,λ _=>⟨rfl,by rw [ht,ho];simp⟩,λ h=>absurd h Ode⟩⟩
   | some x =>
    obtain⟨s,k⟩:=x;exact⟨_,_,_,rfl,bG.BD 0 rfl (show 2<3 by decide) λ al eC=>⟨_,_,(3,0,Bu s),rfl,eC,λ h=>absurd rfl h,λ _=>⟨k,rfl,by rw [ht,ho];simp⟩⟩⟩
  ·have aP:Bg l (at_:Int)=none:=by rw [ht,if_neg Omg,if_neg Omg,if_neg Omg,if_neg Omg]
   exact bG.Sd 1 rfl λ w4 S4=>⟨by rw [aP];rfl,S4.below⟩
 ·rintro _ _ fG ⟨nx,e,v,bR,gg,g1,g2⟩;cases bR;refine Ai (λ h=>gg.Sd 1 rfl λ w4 S4=>⟨by rw [(g1 h).2,(g1 h).1];rfl,S4.below⟩) (λ h=>gg.v3 0 rfl (gg.Sd 1 rfl λ w4 S4=>⟨?_,S4.below⟩));obtain⟨k,rfl,hk⟩:=g2 h;rw [hk];rfl
end
end Go.Proofs.YtpnaifmmggnimaaGreatDoor
namespace Go.Proofs.YtpnaifmmggnimaaGreatDoor
open R
set_option maxRecDepth 100000
open Go.Dn Go.Proofs
open Go.RowKit (Below)
set_option linter.unusedVariables false
section
variable {w:World}{a:Option Addr}{c:Nat}{l:List UInt8}
theorem Iq(hl:Rd w a (l.map Ag))(hc:l.length<=c)(hs:l.length<=140737488355328)(at_:Int) :
  Cw 147 #[.slice a l.length c,.int .i64 at_] w λ v w'=>v=Ur (Bg l at_)/\Below w.heap.size w w':=by
 apply Q0
 delta A Ab Ad JD Gb Bz Cb E F H I Li Lt Ly N S Am T W X Zii;try dsimp only [Ps]
 refine (SH.start (λ _=>False) w).An λ b3 w1 dI B1 S1=>?_;refine Aa (λ h=>S1.Sd 0 rfl λ w4 S4=>⟨by simp [Bg,h,Ur],S4.below⟩) (λ h0=>Aa (λ h=>S1.Sd 0 rfl λ w4 S4=>⟨?_,S4.below⟩) (λ h1=>?_))
 ·unfold Bg;rw [if_pos (.inr h)];rfl
 obtain⟨at_,rfl⟩:∃ k:Nat,at_=k:=⟨at_.toNat,Omg⟩;have cV:at_<l.length:=Omg;refine⟨⟨Omg,Omg⟩,?_⟩;obtain⟨p,hp,aE⟩:=byte_at (hl.grown B1) cV;subst hp;have hg:=PQ cV;have iq:=l[at_].toNat_lt;refine⟨_,by rw [Int.toNat_natCast];exact aE,S1.Ic λ dv aZ nH cH bG=>?_⟩;have gS:Rd aZ (some p) (l.map Ag):=hl.grown bG.below;rw [wrap_i64 (n:=(l[at_].toNat:Int)) Omg Omg] at bG;rw [wrap_i64 (n:=(at_:Int)+1) Omg Omg];have ht:Bg l (at_:Int)=(if l[at_].toNat=0 then some ((0,0,E0),at_+1)
   else if l[at_].toNat=1 then (takeN l ((at_:Int)+1)).map λ x=>((1,Cq x.1,E0),x.2)
   else if l[at_].toNat=2 then (if (at_:Int)+1<l.length/\(l.getD (at_+1) 0).toNat<=1 then some ((2,((l.getD (at_+1) 0).toNat:Int),E0),at_+2) else none)
   else if l[at_].toNat=3 then (BG l ((at_:Int)+1) 1024).map λ x=>((3,0,Bu x.1),x.2)
   else none):=by
  unfold Bg;rw [if_neg Omg,Int.toNat_natCast,hg]
 generalize fA:l[at_].toNat=kk at ht bG iq;refine⟨λ s fG=>∃(nx e:Int) (v:AD),s=[.int .i64 nx,.int .i64 e]/\SH (λ _=>False) w fG [(dv,#[.int .i64 v.1,.int .i64 v.2.1,.string v.2.2],120),(b3,#[.int .i64 0,.int .i64 0,.string E0],120)] /\
   (e≠0->Bg l (at_:Int)=none)/\(e=0->AK v=false->Bg l (at_:Int)=none)/\(e=0->AK v=true->∃ k:Nat,nx=k/\Bg l (at_:Int)=some (v,k)),?_,?_⟩
 ·refine⟨_,bG.cell 0 rfl rfl,Ap (λ h=>?_) (λ n0=>Ap (λ h=>?_) (λ n1=>Ap (λ h=>?_) (λ n2=>Ap (λ h=>?_) (λ n3=>?_))))⟩
  ·have:kk=0:=Omg;subst this;exact⟨_,_,(0,0,E0),rfl,bG,λ h=>absurd rfl h,λ _ h=>absurd h Ode,λ _ _=>⟨at_+1,Omg,by rw [ht];simp⟩⟩
  ·have:kk=1:=Omg;subst this;refine (Ff gS hc Omg ((at_:Int)+1)).mono ?_;rintro _ aZ ⟨_,rfl,rfl,rfl⟩;cases ho:takeN l ((at_:Int)+1) with
   | none =>
    exact⟨_,_,_,rfl,bG.BD 0 rfl (show 1<3 by decide) λ al eC=>⟨_,_,(1,0,E0),rfl,eC,λ _=>by rw [ht,ho];simp,λ h=>absurd h Ode,λ h=>absurd h Ode⟩⟩
   | some x =>
    obtain⟨n,k⟩:=x;exact⟨_,_,_,rfl,bG.BD 0 rfl (show 1<3 by decide) λ al eC=>⟨_,_,(1,Cq n,E0),rfl,eC,λ h=>absurd rfl h,λ _ h=>absurd h (by simp [AK]),λ _ _=>⟨k,rfl,by rw [ht,ho];simp⟩⟩⟩
  ·have:kk=2:=Omg;subst this;refine (AL gS hc Omg ((at_:Int)+1)).mono ?_;rintro _ aZ ⟨_,rfl,rfl,rfl⟩;have gu:((at_:Int)+1)=((at_+1:Nat):Int):=Omg;have iM:=PO (l:=l) (at_:=at_+1);cases ho:takeN l ((at_:Int)+1) with
   | none =>
    refine⟨_,_,_,rfl,bG.BD 0 rfl (show 1<3 by decide) λ al eC=>⟨_,_,(2,IntKind.i64.wrap 0,E0),rfl,eC,λ _=>?_,λ h=>absurd h Ode,λ h=>absurd h Ode⟩⟩;rw [ht];simp only [if_neg (show ¬ (2:Nat)=0 by decide),if_neg (show ¬ (2:Nat)=1 by decide),if_true];rw [if_neg];rintro⟨q1,q2⟩;obtain⟨n,k,q3,_⟩:=iM.2 ⟨Omg,q2⟩;rw [<- gu,ho] at q3;cases q3
   | some x =>
    obtain⟨n,k⟩:=x;have hn:=(AA ho).1;refine⟨_,_,_,rfl,bG.BD 0 rfl (show 1<3 by decide) λ al eC=>⟨_,_,(2,IntKind.i64.wrap (n:Int),E0),rfl,eC,λ h=>absurd rfl h,λ _ hf=>?_,λ _ hr=>?_⟩⟩
    ·rw [ht];simp only [if_neg (show ¬ (2:Nat)=0 by decide),if_neg (show ¬ (2:Nat)=1 by decide),if_true];rw [if_neg];rintro⟨q1,q2⟩;obtain⟨n',k',q3,q4⟩:=iM.2 ⟨Omg,q2⟩;rw [<- gu,ho] at q3;cases q3;rcases q4 with rfl | rfl
     ·exact absurd hf Ode
     ·exact absurd hf Ode
    ·have yN:n=0\/n=1:=by
      have:=F3 hr;simp only at this;rw [CQ] at this;split at this <;> omega
     obtain⟨q1,q2⟩:=PO.1 ⟨n,k,gu ▸ ho,yN⟩;obtain⟨q3,q4⟩:=AbQ (gu ▸ ho) yN;refine⟨k,rfl,?_⟩;rw [ht];simp only [if_neg (show ¬ (2:Nat)=0 by decide),if_neg (show ¬ (2:Nat)=1 by decide),if_true];rw [if_pos ⟨Omg,q2⟩,<- q3,wrap_i64 Omg Omg,q4]
  ·have:kk=3:=Omg;subst this;refine (Ef gS hc Omg ((at_:Int)+1) 1024).mono ?_;rintro _ aZ ⟨_,rfl,rfl,rfl⟩;cases ho:BG l ((at_:Int)+1) 1024 with
   | none =>
    exact⟨_,_,_,rfl,bG.BD 0 rfl (show 2<3 by decide) λ al eC=>⟨_,_,(3,0,E0),rfl,eC,λ _=>by rw [ht,ho];simp,λ h=>absurd h Ode,λ h=>absurd h Ode⟩⟩
   | some x =>
    obtain⟨s,k⟩:=x;have ao:s.length<=1024:=by
     unfold BG at ho;split at ho
     ·split at ho
      ·cases ho
      ·simp only [Option.some.injEq,Prod.mk.injEq] at ho;rw [<- ho.1,List.length_take];omega
     ·cases ho
    exact⟨_,_,_,rfl,bG.BD 0 rfl (show 2<3 by decide) λ al eC=>⟨_,_,(3,0,Bu s),rfl,eC,λ h=>absurd rfl h,λ _ h=>absurd h (by simp [AK,AP,ao]),λ _ _=>⟨k,rfl,by rw [ht,ho];simp⟩⟩⟩
  ·have aP:Bg l (at_:Int)=none:=by rw [ht,if_neg Omg,if_neg Omg,if_neg Omg,if_neg Omg]
   refine⟨_,_,((kk:Int),0,E0),rfl,bG,λ _=>aP,λ _ _=>aP,λ _ h=>?_⟩;exfalso;have:=F3 h;simp only at this;omega
 ·rintro _ _ fG ⟨nx,e,v,bR,gg,g1,g2,g3⟩;cases bR;refine Ai (λ h=>gg.Sd 1 rfl λ w4 S4=>⟨by rw [g1 h];rfl,S4.below⟩) (λ h=>gg.v3 0 rfl ((Ev fG v).mono ?_));rintro _ gd ⟨_,rfl,rfl,j9⟩;have kZ:=gg.grown j9;refine⟨_,rfl,As (Aq (λ hr=>kZ.v3 0 rfl (kZ.Sd 1 rfl λ w4 S4=>⟨?_,S4.below⟩)) (λ hr=>kZ.Sd 1 rfl λ w4 S4=>⟨by rw [g2 h hr];rfl,S4.below⟩))⟩;obtain⟨k,rfl,hk⟩:=g3 h hr;rw [hk];rfl
end
end Go.Proofs.YtpnaifmmggnimaaGreatDoor
namespace Go.Dn
open _root_.List renaming getElem?_eq_some_iff -> Aic, getElem?_set_self -> Aie, getElem_set_ne -> AjD, mem_cons -> Aia, mem_of_getElem? -> Aib, pairwise_iff_getElem -> AjC, set_set -> Aip
open _root_.Nat renaming le_refl -> Ain, le_trans -> AiI
set_option linter.unusedVariables false
set_option maxRecDepth 100000
open Go.RowKit (Below)
structure It where
 CA:Option Nat
 ok:World->Prop
 st:∀ w w',(∀ k,CA=some k->w'.heap[k]?=w.heap[k]?)->ok w->ok w'
 lt:∀ w,ok w->∀ k,CA=some k->k<w.heap.size
def It.obj(b:Nat)(o:Obj):It where
 CA:=some b
 ok:=λ w=>w.heap[b]?=some o
 st:=λ w w' h h0=>(h b rfl).trans h0
 lt:=λ w h k hk=>by cases hk;exact (Array.getElem?_eq_some_iff.1 h).1
def It.cells(b:Nat)(cs:Array Value)(t:TypeId):It:=It.obj b (.cells cs t (0,0))
def It.row(e:TypeId)(sz:Nat)(a:Option Addr)(n c:Nat)(xs:List Value):It where
 CA:=AF a
 ok:=λ w=>Row w e sz a n c xs
 st:=λ w w' h h0=>by
  refine⟨h0.1,?_⟩;rcases h0.2 with h1 | ⟨g,cur,rfl,hg,r⟩
  ·exact .inl h1
  ·exact .inr ⟨g,cur,rfl,(h g rfl).trans hg,r⟩
 lt:=λ w h k hk=>h.lt hk
def It.rd(a:Option Addr)(xs:List Value):It where
 CA:=match xs with | []=>none | _=>AF a
 ok:=λ w=>Rd w a xs
 st:=λ w w' h h0=>by
  intro j v hv;obtain⟨p,hp,hc⟩:=h0 j v hv;subst hp;refine⟨p,rfl,?_⟩;cases xs with
  | nil=>simp at hv
  | cons x xs =>
   rw [World.cell?_of_block (w:=w) (by rw [Dv];exact h p.block rfl)];exact hc
 lt:=λ w h k hk=>by
  cases xs with
  | nil=>cases hk
  | cons x xs =>
   obtain⟨p,rfl,hc⟩:=h 0 x rfl;have:=World.block_lt_of_cell? _ _ hc;rw [Dv] at this;cases hk;exact this
structure ST(w0 w:World)(H:List It):Prop where
 Ar:Below w0.heap.size w0 w
 ok:∀ x∈H,x.ok w
 nd:H.Pairwise (λ x y=>∀ k,x.CA=some k->y.CA≠some k)
 own:∀ x∈H,∀ k,x.CA=some k->w0.heap.size<=k
section
variable {w0 w:World}{H:List It}
theorem ST.start(w:World):ST w w []:=⟨.refl _ _,Osi,Osi,Osi⟩
theorem ST.get(S:ST w0 w H)(n:Nat){x:It}(hn:H[n]?=some x):x.ok w:=S.ok x (Aib hn)
theorem ST.grown(S:ST w0 w H){w':World}(h:Below w.heap.size w w'):ST w0 w' H where
 Ar:=S.Ar.trans (h.mono S.Ar.size)
 ok:=λ x hx=>x.st w w' (λ k hk=>h.block k (x.lt w (S.ok x hx) k hk)) (S.ok x hx)
 nd:=S.nd
 own:=S.own
theorem ST.add(S:ST w0 w H){w':World}(h:Below w.heap.size w w')(y:It)(hy:y.ok w')(hb:∀ k,y.CA=some k->w.heap.size<=k):ST w0 w' (y :: H) where
 Ar:=(S.grown h).Ar
 ok:=λ x hx=>by
  rcases Aia.1 hx with rfl | hx
  ·exact hy
  ·exact (S.grown h).ok x hx
 nd:=List.pairwise_cons.2 ⟨λ x hx k hk dY=>by have:=x.lt w (S.ok x hx) k dY;have:=hb k hk;omega,S.nd⟩
 own:=λ x hx k hk=>by
  rcases Aia.1 hx with rfl | hx
  ·exact AiI S.Ar.size (hb k hk)
  ·exact S.own x hx k hk
theorem W3{l:List It}(h:l.Pairwise (λ x y=>∀ k,x.CA=some k->y.CA≠some k)){i j:Nat}{x y:It}(hi:l[i]?=some x)(hj:l[j]?=some y)(aQ:i≠j){k:Nat}(hk:x.CA=some k):y.CA≠some k:=by
 obtain⟨h1,rfl⟩:=Aic.1 hi;obtain⟨h2,rfl⟩:=Aic.1 hj;rcases Nat.lt_or_gt_of_ne aQ with aB | aB
 ·exact (AjC.1 h) i j h1 h2 aB k hk
 ·intro he;exact (AjC.1 h) j i h2 h1 aB k he hk
theorem ST.H7(S:ST w0 w H)(n:Nat){x:It}(hn:H[n]?=some x){w':World}(K:Ak (λ k=>x.CA=some k) w w')(y:It)(hy:y.ok w')(hb:∀ k,y.CA=some k->x.CA=some k\/w.heap.size<=k):ST w0 w' (H.set n y) where
 Ar:=S.Ar.trans (K.below S.Ar.size λ k hk h=>by have:=S.own x (Aib hn) k h;omega)
 ok:=by
  intro z hz;obtain⟨i,hi⟩:=List.mem_iff_getElem?.1 hz;by_cases cG:n=i
  ·subst cG;rw [Aie (Aic.1 hn).1] at hi;cases hi;exact hy
  ·rw [List.getElem?_set_ne cG] at hi;have eM:=S.ok z (Aib hi);refine z.st w w' (λ k hk=>K.block k (z.lt w eM k hk) ?_) eM;exact λ h=>W3 S.nd hi hn (Ne.symm cG) hk h
 nd:=by
  refine AjC.2 λ i j hi hj dQ k hk dY=>?_;rw [List.length_set] at hi hj;have lE:=(Aic.1 hn).1;have old:∀ {i j:Nat} (hi:i<H.length) (hj:j<H.length),i≠j->H[i].CA=some k->H[j].CA≠some k:=λ hi hj aQ h=>W3 S.nd (List.getElem?_eq_getElem hi) (List.getElem?_eq_getElem hj) aQ h;have hx:H[n]=x:=(Aic.1 hn).2;have ZW:∀ {j:Nat} (hj:j<H.length),j≠n->H[j].CA=some k->y.CA≠some k:=λ {j} hj aQ h h'=>by
   rcases hb k h' with h2 | h2
   ·rw [<- hx] at h2;exact old lE hj (Ne.symm aQ) h2 h
   ·have:=H[j].lt w (S.ok _ (List.getElem_mem hj)) k h;omega
  by_cases h1:n=i
  ·subst h1;rw [List.getElem_set_self] at hk;rw [AjD Omg] at dY;exact ZW hj Omg dY hk
  ·rw [AjD h1] at hk;by_cases h2:n=j
   ·subst h2;rw [List.getElem_set_self] at dY;exact ZW hi Omg hk dY
   ·rw [AjD h2] at dY;exact old hi hj Omg hk dY
 own:=by
  intro z hz k hk;obtain⟨i,hi⟩:=List.mem_iff_getElem?.1 hz;by_cases cG:n=i
  ·subst cG;rw [Aie (Aic.1 hn).1] at hi;cases hi;rcases hb k hk with h | h
   ·exact S.own x (Aib hn) k h
   ·exact AiI S.Ar.size h
  ·rw [List.getElem?_set_ne cG] at hi;exact S.own z (Aib hi) k hk
theorem ST.sub(S:ST w0 w H){H':List It}(h:H'.Sublist H):ST w0 w H':=⟨S.Ar,λ x hx=>S.ok x (h.subset hx),S.nd.sublist h,λ x hx=>S.own x (h.subset hx)⟩
theorem ST.drop(S:ST w0 w H)(n:Nat):ST w0 w (H.drop n):=S.sub (List.drop_sublist _ _)
theorem ST.perm(S:ST w0 w H){H':List It}(h:H.Perm H'):ST w0 w H' :=
 ⟨S.Ar,λ x hx=>S.ok x (h.mem_iff.2 hx),(h.pairwise_iff (λ h k hk dY=>h k dY hk)).1 S.nd,λ x hx=>S.own x (h.mem_iff.2 hx)⟩
theorem ST.pull(S:ST w0 w H)(n:Nat){x:It}(hn:H[n]?=some x):ST w0 w (x :: H.eraseIdx n) where
 Ar:=S.Ar
 ok:=λ y hy=>by
  rcases Aia.1 hy with rfl | hy
  ·exact S.get n hn
  ·exact S.ok y (List.mem_of_mem_eraseIdx hy)
 nd:=by
  refine List.pairwise_cons.2 ⟨λ y hy k hk dY=>?_,S.nd.sublist (List.eraseIdx_sublist ..)⟩;obtain⟨i,hi,aQ⟩:=List.mem_eraseIdx_iff_getElem?.1 hy;exact W3 S.nd hn aQ (Ne.symm hi) hk dY
 own:=λ y hy=>by
  rcases Aia.1 hy with rfl | hy
  ·exact S.own _ (Aib hn)
  ·exact S.own y (List.mem_of_mem_eraseIdx hy)
theorem ST.join(S:ST w0 w H){w':World}{P:List It}(T:ST w w' P):ST w0 w' (P++H) where
 Ar:=S.Ar.trans (T.Ar.mono S.Ar.size)
 ok:=λ x hx=>by
  rcases List.mem_append.1 hx with h | h
  ·exact T.ok x h
  ·exact (S.grown T.Ar).ok x h
 nd:=List.pairwise_append.2 ⟨T.nd,S.nd,λ x hx y hy k hk dY=>by have:=T.own x hx k hk;have:=y.lt w (S.ok y hy) k dY;omega⟩
 own:=λ x hx k hk=>by
  rcases List.mem_append.1 hx with h | h
  ·exact AiI S.Ar.size (T.own x h k hk)
  ·exact S.own x h k hk
theorem ST.An(S:ST w0 w H){cs:Array Value}{t:TypeId}{k:Nat->World->Prop}(hk:∀ b w',w.heap.size<=b->Below w.heap.size w w'->ST w0 w' (It.cells b cs t :: H)->k b w'):Du cs t k w :=
 hk _ _ (Ain _) ((Below.refl _ w).alloc (Ain _) _) (S.add ((Below.refl _ w).alloc (Ain _) _) _ (heap_alloc_new w _) (λ k hk=>by cases hk;exact Ain _))
theorem ST.draw(S:ST w0 w H){k:World->Prop}(hk:∀ w',Below w.heap.size w w'->ST w0 w' H->k w'):PF k w:=hk _ ((Below.refl _ w).drew) (S.grown ((Below.refl _ w).drew))
theorem ST.cell(S:ST w0 w H)(n:Nat){b:Nat}{cs:Array Value}{t:TypeId}(hn:H[n]?=some (It.cells b cs t)){i:Nat}{v:Value}(hv:cs[i]?=some v):w.cell? ⟨b,i,none⟩=some v:=by
 have:w.heap[b]?=some (.cells cs t (0,0)):=S.get n hn;simp [World.cell?,this,hv]
theorem ST.CA(S:ST w0 w H)(n:Nat){b:Nat}{cs:Array Value}{t:TypeId}(hn:H[n]?=some (It.cells b cs t)):w.heap[b]?=some (.cells cs t (0,0)):=S.get n hn
theorem ST.F0(S:ST w0 w H)(n:Nat){b:Nat}{cs:Array Value}{t:TypeId}(hn:H[n]?=some (It.cells b cs t)):Rd w (some ⟨b,0,none⟩) cs.toList:=Rd.Al (S.CA n hn)
theorem ST.rw(S:ST w0 w H)(n:Nat){e:TypeId}{sz:Nat}{a:Option Addr}{m c:Nat}{xs:List Value}(hn:H[n]?=some (It.row e sz a m c xs)):Row w e sz a m c xs:=S.get n hn
theorem ST.rd(S:ST w0 w H)(n:Nat){e:TypeId}{sz:Nat}{a:Option Addr}{m c:Nat}{xs:List Value}(hn:H[n]?=some (It.row e sz a m c xs)):Rd w a xs:=(S.rw n hn).rd
theorem ST.BD(S:ST w0 w H)(n:Nat){b:Nat}{cs aC:Array Value}{t:TypeId}(hn:H[n]?=some (It.cells b cs t)){i:Nat}{v:Value}{k:World->Prop}(hi:i<cs.size)(hc:cs.setIfInBounds i v=aC)
  (hk:∀ w',ST w0 w' (H.set n (It.cells b aC t))->k w'):DG ⟨b,i,none⟩ v k w:=by
 subst hc;have hb:=S.CA n hn;refine⟨by rw [S.cell n hn (Array.getElem?_eq_getElem hi)];rfl,by simp [World.frozen?,hb],hk _ (S.H7 n hn ((EX w b i v).mono λ k _ h=>by subst h;rfl) _ (Fa hb v) (λ k hk=>.inl hk))⟩
theorem ST.Eb(S:ST w0 w H)(n:Nat){b:Nat}{cs:Array Value}{t:TypeId}(hn:H[n]?=some (It.cells b cs t)){vs:List Value}(hl:vs.length=cs.size)(h1:∀ v∈vs,v.oneCell'=true)
  {k:World->Prop} (hk:∀ w',ST w0 w' (H.set n (It.cells b ⟨vs⟩ t))->k w'):CL vs ⟨b,0,none⟩ 0 k w :=
 MI vs (S.CA n hn) Omg h1 λ w' K hb=>hk w' (S.H7 n hn (K.mono λ k _ h=>by subst h;rfl) _ (by rw [Ul vs cs hl] at hb;exact hb) (λ k hk=>.inl hk))
theorem ST.Ic(S:ST w0 w H){z0 z1 z2 v0 v1 v2:Value}{t:TypeId}{k:Nat->World->Prop}(hk:∀ b w',w.heap.size<=b->ST w0 w' (It.cells b #[v0,v1,v2] t :: H)->k b w') :
  Du #[z0,z1,z2] t (λ b w=>DG ⟨b,0,none⟩ v0 (λ w=>DG ⟨b,1,none⟩ v1 (λ w=>DG ⟨b,2,none⟩ v2 (λ w=>k b w) w) w) w) w :=
 S.An λ b w1 hb _ S1=>S1.BD 0 rfl (aC:=#[v0,z1,z2]) Osi rfl λ w2 S2=>S2.BD 0 rfl (aC:=#[v0,v1,z2]) Osi rfl λ w3 S3=>S3.BD 0 rfl (aC:=#[v0,v1,v2]) Osi rfl λ w4 S4=>hk b w4 hb S4
theorem ST.Y7(S:ST w0 w H)(n:Nat){b:Nat}{x0 x1 x2 x3 x4 x5 x6 v0 v1 v2 v3 v4 v5 v6:Value}{t:TypeId}(hn:H[n]?=some (It.cells b #[x0,x1,x2,x3,x4,x5,x6] t)){k:World->Prop}
  (hk:∀ w',ST w0 w' (H.set n (It.cells b #[v0,v1,v2,v3,v4,v5,v6] t))->k w') :
  DG ⟨b,0,none⟩ v0 (λ w=>DG ⟨b,1,none⟩ v1 (λ w=>DG ⟨b,2,none⟩ v2 (λ w=>DG ⟨b,3,none⟩ v3 (λ w=>DG ⟨b,4,none⟩ v4 (λ w=>DG ⟨b,5,none⟩ v5 (λ w=>DG ⟨b,6,none⟩ v6 k w) w) w) w) w) w) w:=by
 have aB:=(Aic.1 hn).1;refine S.BD n hn (aC:=#[v0,x1,x2,x3,x4,x5,x6]) Osi rfl λ w1 S1=>?_;refine S1.BD n (Aie aB) (aC:=#[v0,v1,x2,x3,x4,x5,x6]) Osi rfl λ w2 S2=>?_;rw [Aip] at S2;refine S2.BD n (Aie aB) (aC:=#[v0,v1,v2,x3,x4,x5,x6]) Osi rfl λ w3 S3=>?_;rw [Aip] at S3;refine S3.BD n (Aie aB) (aC:=#[v0,v1,v2,v3,x4,x5,x6]) Osi rfl λ w4 S4=>?_;rw [Aip] at S4;refine S4.BD n (Aie aB) (aC:=#[v0,v1,v2,v3,v4,x5,x6]) Osi rfl λ w5 S5=>?_;rw [Aip] at S5;refine S5.BD n (Aie aB) (aC:=#[v0,v1,v2,v3,v4,v5,x6]) Osi rfl λ w6 S6=>?_;rw [Aip] at S6;refine S6.BD n (Aie aB) (aC:=#[v0,v1,v2,v3,v4,v5,v6]) Osi rfl λ w7 S7=>?_;rw [Aip] at S7;exact hk w7 S7
theorem ST.nil(S:ST w0 w H)(e:TypeId)(sz:Nat):ST w0 w (It.row e sz none 0 0 [] :: H):=S.add (.refl _ _) _ (Row.nil w e sz) (λ k hk=>by cases hk)
theorem ST.app(S:ST w0 w H)(n:Nat){P:Program}{t ty e:TypeId}{sz bytes:Nat}{z:Value}{a:Option Addr}{m c:Nat}{xs:List Value}(hn:H[n]?=some (It.row e sz a m c xs))(hT:Me P t=some (e,sz,bytes,z))(hz:z.cells.size=sz)(ao:0<sz)(bZ:0<bytes)
  {b:Option Addr} {mm mc:Nat} {news:List Value} (hs:Rd w b news) (hl:news.length=mm*sz) (h1:∀ u∈news,u.oneCell'=true) (df:(m+mm)*bytes<=140737488355328) {f:Value->World->Prop}
  (hf:∀ a' c' w',ST w0 w' (H.set n (It.row e sz a' (m+mm) c' (xs++news)))->f (.slice a' (m+mm) c') w'):De P (Builtin.append_ #[t,t] ty #[.slice a m c,.slice b mm mc]) f w:=by
 obtain⟨a',c',w',aG,aI,hk,ax⟩:=BV (ty:=ty) (mc:=mc) hT hz ao bZ (S.rw n hn) hs hl h1 df;unfold De;rw [aG];exact hf a' c' w' (S.H7 n hn hk _ aI ax)
theorem ST.range(S:ST w0 w H)(rr:Loop):ST w0 ((w.alloc (.deferred (some []))).alloc (.loop rr)) (It.obj (w.heap.size+1) (.loop rr) :: It.obj w.heap.size (.deferred (some [])) :: H):=by
 have B1:Below w.heap.size w (w.alloc (.deferred (some []))):=(Below.refl _ w).alloc (Ain _) _;have S1:=S.add B1 (It.obj w.heap.size (.deferred (some []))) (heap_alloc_new w _) (λ k hk=>by cases hk;exact Ain _);have S2:=S1.add ((Below.refl _ _).alloc (Ain _) (.loop rr)) (It.obj (w.alloc (.deferred (some []))).heap.size (.loop rr)) (heap_alloc_new _ _) (λ k hk=>by cases hk;exact Ain _);rwa [World.size_alloc] at S2
theorem VH(w:World)(l:Nat)(o:Obj):Ak (·=l) w (w.putObj l o):=⟨rfl,rfl,rfl,Osi,λ k _ hn=>World.putObj_heap_other hn⟩
theorem ST.put(S:ST w0 w H)(n:Nat){b:Nat}{o:Obj}(hn:H[n]?=some (It.obj b o))(o':Obj):ST w0 (w.putObj b o') (H.set n (It.obj b o')) :=
 S.H7 n hn ((VH w b o').mono λ k _ h=>by subst h;rfl) _ (World.putObj_heap_same (Array.getElem?_eq_some_iff.1 (S.get n hn)).1) (λ k hk=>.inl hk)
theorem ST.AgZ(S:ST w0 w H)(n:Nat){L:Nat}{rr:Loop}(hn:H[n]?=some (It.obj L (.loop rr))){k:World->Prop}(hk:∀ w',ST w0 w' (H.set n (It.obj L (.loop { rr with state:=.busy })))->k w'):PD rr L k w :=
 ⟨S.get n hn,hk _ (S.put n hn _)⟩
theorem Rd.AfD{w:World}{a:Option Addr}{xs:List Value}(h:Rd w a xs){L:Nat}{rr:Loop}(hL:w.heap[L]?=some (.loop rr))(o:Obj):Rd (w.putObj L o) a xs:=by
 intro j v hv;obtain⟨p,hp,hc⟩:=h j v hv;refine⟨p,hp,(VH w L o).cell hc ?_⟩;intro he;have kO:(p.add j).block=L:=he;simp [World.cell?,kO,hL] at hc
theorem ST.Ag0(S:ST w0 w H)(n:Nat){L:Nat}{rr:Loop}(hn:H[n]?=some (It.obj L (.loop rr))){k:World->Prop}(hk:∀ w',(∀ a xs,Rd w a xs->Rd w' a xs)->ST w0 w' (H.set n (It.obj L (.loop { rr with state:=.busy })))->k w'):PD rr L k w :=
 ⟨S.get n hn,hk _ (λ _ _ h=>h.AfD (S.get n hn) _) (S.put n hn _)⟩
theorem ST.keep{x:It}(S:ST w0 w (x :: H))(n:Nat):ST w0 w (x :: H.drop n):=S.sub ((List.drop_sublist n H).cons_cons x)
theorem Abh{rr:Loop}(h1:rr.state=.ready)(h2:rr.pending=none):({ rr with state:=if (none:Option Code).isNone then .ready else .done,pending:=none }:Loop)=rr:=by
 cases rr;simp_all
theorem ST.AdG(S:ST w0 w H)(n:Nat){L:Nat}{rr:Loop}(h1:rr.state=.ready)(h2:rr.pending=none)(hn:H[n]?=some (It.obj L (.loop { rr with state:=.busy }))){k:Bool->World->Prop}(hk:∀ w',ST w0 w' (H.set n (It.obj L (.loop rr)))->k true w'):FO rr L k none w:=by
 refine⟨S.get n hn,?_⟩;have:=S.put n hn (.loop { rr with state:=if (none:Option Code).isNone then .ready else .done,pending:=none });rw [Abh h1 h2] at this ⊢;exact hk _ this
theorem ST.Ag7(S:ST w0 w H)(n:Nat){L:Nat}{rr:Loop}{j:Code}(hn:H[n]?=some (It.obj L (.loop { rr with state:=.busy }))){k:Bool->World->Prop}(hk:∀ w',ST w0 w' (H.set n (It.obj L (.loop { rr with state:=.done,pending:=some j })))->k false w'):FO rr L k (some j) w :=
 ⟨S.get n hn,hk _ (S.put n hn _)⟩
theorem ST.AdF(S:ST w0 w H)(n:Nat){L:Nat}{rr:Loop}(h1:rr.state=.ready)(h2:rr.pending=none)(hn:H[n]?=some (It.obj L (.loop rr))){k:Option Code->World->Prop}(hk:∀ w',ST w0 w' (H.set n (It.obj L (.loop { rr with state:=.exhausted,pending:=none })))->k none w'):PG rr L k w :=
 ⟨none,by rw [Abh h1 h2];exact S.get n hn,hk _ (S.put n hn _)⟩
theorem ST.Ag6(S:ST w0 w H)(n:Nat){L:Nat}{rr:Loop}{j:Code}(hn:H[n]?=some (It.obj L (.loop { rr with state:=.done,pending:=some j }))){k:Option Code->World->Prop}(hk:∀ w',ST w0 w' (H.set n (It.obj L (.loop { rr with state:=.exhausted,pending:=some j })))->k (some j) w'):PG rr L k w :=
 ⟨some j,S.get n hn,hk _ (S.put n hn _)⟩
theorem N0.mono{P:Program}{l:Nat}{args:Array Value}{k k':Bool->World->Prop}{w:World}(h:N0 P l args k w)(hk:∀ y w',k y w'->k' y w'):N0 P l args k' w:=by
 obtain⟨f,tm,asg,bo,hy,hr⟩:=h;refine⟨f,tm,asg,bo,hy,hr.mono ?_⟩;rintro e w' ⟨t,he,h⟩;exact⟨t,he,hk t w' h⟩
end
end Go.Dn
namespace Go.Proofs.YtpnaifmmggnimaaGreatDoor
open R
open _root_.Array renaming getElem?_eq_some_iff -> Ai5
open _root_.Bool renaming and_eq_true -> Ah1
open _root_.Int renaming natCast_nonneg -> Ajh, toNat_natCast -> Ait
open _root_.List renaming all_eq_true -> Ai1, drop_left -> AjJ, getElem_mem -> Ai7, length_append -> Aiq, length_cons -> Ais, length_map -> AiH, length_nil -> AjE, length_take -> Ajm, mem_cons_of_mem -> Ai3, mem_cons_self -> Ai2, mem_map -> Ah9, take_of_length_le -> AiZ
open _root_.Nat renaming add_assoc -> AjG, lt_of_lt_of_le -> Aid, mod_lt -> AiR, mul_comm -> AiF, mul_le_mul -> Ajf, pow_le_pow_right -> AiL, succ_mul -> AjF
open _root_.Option renaming map_eq_some_iff -> AjI
open _root_.Option.some renaming injEq -> AjH
open _root_.UInt8 renaming ofNat -> Aiz
set_option maxRecDepth 100000
open Go.Dn Go.Proofs
open Go.RowKit (Below)
set_option linter.unusedVariables false
def Gu(c:Bv)(v:AD):Bool:=AK v && (decide (v.1=c.2.1) || (c.2.2 && decide (v.1=0)))
def UN(cs:List Bv)(row:List AD):Bool:=(cs.zip row).all λ p=>Gu p.1 p.2
def CT(cs:List Bv)(row:List AD):Bool:=decide (row.length=cs.length) && UN cs row
theorem X0{cs:List Bv}{row:List AD}{i:Nat}(h1:i<cs.length)(h2:i<row.length)(h:Gu cs[i] row[i]=false):UN cs row=false:=by
 unfold UN;rw [List.all_eq_false];exact⟨(cs[i],row[i]),List.mem_iff_getElem.2 ⟨i,by simp;omega,Osi⟩,by simp [h]⟩
theorem XZ{cs:List Bv}{row:List AD}(h:∀ i (h1:i<cs.length) (h2:i<row.length),Gu cs[i] row[i]=true):UN cs row=true:=by
 unfold UN;rw [Ai1];intro p hp;obtain⟨i,hi,rfl⟩:=List.mem_iff_getElem.1 hp;simp only [List.length_zip] at hi;simp only [List.getElem_zip];exact h i Omg Omg
section
variable {w:World}{a a2:Option Addr}{c c2:Nat}{cs:List Bv}{row:List AD}
def AhC(c:Bv):Value:=.agg #[.string c.1,.int .i64 c.2.1,.bool c.2.2]
theorem YE{L b1 b2:Nat}(hn:cs.length<=9223372036854775807)(hr:row.length=cs.length)(J:Nat->World->Prop)(D:World->Prop)(cm:∀ k w,J k w->Rd w a (BF cs)/\Rd w a2 (AR row)/\w.cell? ⟨b2,0,none⟩=some (.slice a2 row.length c2))
  (cA:∀ k w w',J k w->Below w.heap.size w w'->J k w') (af:∀ k w (h1:k<cs.length) (h2:k<row.length),J k w->N0 Tryz.prog L #[AhC cs[k],Sk row[k]] (λ y w'=>(y=true/\J (k+1) w')\/(y=false/\D w')) w)
  (h0:J 0 w) (hb:w.cell? ⟨b1,0,none⟩=some (.slice a cs.length c)) :
  Cw 167 #[.func (.yield L) #[] #[],.pointer (some ⟨b1,0,none⟩),.pointer (some ⟨b2,0,none⟩)] w λ _ w'=>J cs.length w'\/D w':=by
 apply J0
 delta A Ab D E F G H I Lb Li Ls Lt N Qi Am T W X;try dsimp only [Ps]
 refine⟨_,_,_,hb,λ s w1=>∃ k:Nat,k<=cs.length/\s=[.int .i64 (k:Int)]/\J k w1,λ s _=>match s with
   | [.int _ i]=>cs.length-i.toNat
   | _=>0,⟨0,Omg,rfl,h0⟩,?_⟩
 rintro _ w1 ⟨k,hk,aA,hj⟩;cases aA;refine Aa (λ aB=>⟨⟨Omg,aB⟩,?_⟩) (λ aJ=>?_)
 ·have aO:k<cs.length:=Omg;have pE:k<row.length:=Omg;obtain⟨p,rfl,c0,c1,c2⟩:=Fq (cm _ _ hj).1 aO;refine⟨_,by rw [Ait];exact c0,_,by rw [Ait];exact c1,_,by rw [Ait];exact c2,(ST.start w1).Ic λ b9 w5 sL S5=>S5.draw λ w6 B6 S6=>?_⟩;have sS:=cA _ _ _ hj S6.Ar;obtain⟨_,r2,r3⟩:=cm _ _ sS;obtain⟨q,rfl,d0,d1,d2⟩:=Db r2 pE;refine⟨_,S6.cell 0 rfl rfl,_,S6.cell 0 rfl rfl,_,S6.cell 0 rfl rfl,_,_,_,r3,⟨Omg,Omg⟩,_,by rw [Ait];exact d0,_,by rw [Ait];exact d1,_,by rw [Ait];exact d2,?_⟩;rw [Ae Omg];have cP:cs.length-((k+1:Nat):Int).toNat<cs.length-((k:Nat):Int).toNat:=by
   simp only [Ait];omega
  refine (af k w6 aO pE sS).mono ?_;rintro y w7 (⟨rfl,h⟩ | ⟨rfl,h⟩)
  ·exact AN ⟨⟨k+1,Omg,rfl,h⟩,cP⟩
  ·exact CG (.inr h)
 ·have:k=cs.length:=Omg;subst this;exact .inl hj
theorem Se:Cw 133 #[.slice a cs.length c,.slice a2 row.length c2] w λ v w'=>∃ b1 b2,v=.func (.func 167) #[] #[.pointer (some ⟨b1,0,none⟩),.pointer (some ⟨b2,0,none⟩)] /\
  ST w w' [It.cells b2 #[.slice a2 row.length c2] 69,It.cells b1 #[.slice a cs.length c] 27]:=by
 apply NB
 delta J N P S;try dsimp only [Ps]
 exact (ST.start w).An λ b1 w1 _ _ S1=>S1.An λ b2 w2 _ _ S2=>⟨b1,b2,rfl,S2⟩
theorem Hz(hl:Rd w a (BF cs))(hn:cs.length<=9223372036854775807)(hr:Rd w a2 (AR row)) :
  Cw 98 #[.slice a cs.length c,.slice a2 row.length c2] w λ r w'=>r=.bool (CT cs row)/\Below w.heap.size w w':=by
 apply Pf
 delta A Ab Cb Cf E F G I Lb Li Lt N S Am T;try dsimp only [Ps]
 refine (ST.start w).An λ b3 w1 _ _ S1=>Ai (λ h=>S1.BD 0 rfl (aC:=#[.bool false]) Osi rfl λ w2 S2=>⟨_,S2.cell 0 rfl rfl,?_,S2.Ar⟩) (λ hlen=>?_)
 ·have:¬ row.length=cs.length:=Omg;simp [CT,this]
 have bN:row.length=cs.length:=Omg;have kP:CT cs row=UN cs row:=by simp [CT,bN]
 refine Se.mono ?_;rintro _ w3 ⟨_,rfl,b1,b2,rfl,P3⟩;have S3:=S1.join P3;refine⟨_,_,_,rfl,by kernel_rfl,λ rr aA dZ hy=>?_⟩;have S4:=S3.range rr;obtain⟨L,hL⟩:∃ L,L=w3.heap.size+1:=⟨_,rfl⟩;obtain⟨d,hd⟩:∃ d,d=w3.heap.size:=⟨_,rfl⟩;rw [<- hL] at S4 hy ⊢;rw [<- hd] at S4 ⊢;let St:Obj->World->Prop:=λ o wx=>ST w wx [It.obj L o,It.obj d (.deferred (some [])),It.cells b2 #[.slice a2 row.length c2] 69,It.cells b1 #[.slice a cs.length c] 27,It.cells b3 #[.bool false] 4];let J:Nat->World->Prop:=λ q wx=>(∀ i (h1:i<cs.length) (h2:i<row.length),i<q->Gu cs[i] row[i]=true)/\St (.loop rr) wx;let D:World->Prop:=λ wx=>UN cs row=false/\St (.loop { rr with state:=.done,pending:=some .ret }) wx;have bB:=YE (w:=(w3.alloc (.deferred (some []))).alloc (.loop rr)) (c:=c) (L:=L) (b1:=b1) hn bN J D (λ q wx hj=>⟨hl.grown hj.2.Ar,hr.grown hj.2.Ar,hj.2.cell 2 rfl rfl⟩) (λ q wx wy hj B=>⟨hj.1,hj.2.grown B⟩) (by
  rintro q wx h1 h2 ⟨aF,S⟩;refine hy _ _ _ _ _ _ _ wx (S.get 0 rfl) ?_;refine S.Ic λ jD w8 _ S=>S.Ic λ kH bL _ S=>S.AgZ 2 rfl λ al S=>⟨_,S.cell 0 rfl rfl,_,S.cell 0 rfl rfl,_,S.cell 0 rfl rfl,(Ev al row[q]).mono ?_⟩;rintro _ au ⟨_,rfl,rfl,pP⟩;have S:=S.grown pP;have DN:Gu cs[q] row[q]=true->FO rr L (λ y w'=>(y=true/\J (q+1) w')\/(y=false/\D w')) none au:=λ hf=>S.AdG 2 aA dZ rfl λ w' S=>.inl ⟨rfl,⟨λ i g1 g2 hi=>by
   rcases Nat.lt_or_ge i q with h | h
   ·exact aF i g1 g2 h
   ·obtain rfl:i=q:=Omg;exact hf,S.drop 2⟩⟩
  have bad:Gu cs[q] row[q]=false->DG ⟨b3,0,none⟩ (.bool false) (λ ah=>FO rr L (λ y w'=>(y=true/\J (q+1) w')\/(y=false/\D w')) (some .ret) ah) au:=λ hf=>S.BD 6 rfl (aC:=#[.bool false]) Osi rfl λ ah S=>S.Ag7 2 rfl λ w' S=>.inr ⟨rfl,⟨X0 h1 h2 hf,S.drop 2⟩⟩;refine⟨_,rfl,As (Aq (λ hR=>⟨_,S.cell 0 rfl rfl,_,S.cell 1 rfl rfl,?_⟩) (λ hR=>bad (by simp [Gu,hR])))⟩;refine Ai (λ hk=>⟨_,S.cell 1 rfl rfl,Aq (λ ix=>⟨_,S.cell 0 rfl rfl,As (Ap (λ hz=>DN ?_) (λ hz=>bad ?_))⟩) (λ ix=>bad ?_)⟩) (λ hk=>DN ?_)
  ·simp [Gu,hR,ix,hz]
  ·simp [Gu,hR,hk,hz]
  ·simp [Gu,hk,ix]
  ·simp [Gu,hR,hk]) ⟨λ i _ _ h=>Omg,S4⟩ (S4.cell 3 rfl rfl)
 refine bB.mono ?_;rintro _ fG ⟨_,rfl,h⟩;refine⟨⟨_,rfl⟩,?_⟩;rcases h with ⟨aF,S⟩ | ⟨hf,S⟩
 ·refine S.AdF 0 aA dZ rfl λ gb S=>.inl ⟨rfl,S.BD 4 rfl (aC:=#[.bool true]) Osi rfl λ eT S=>⟨S.get 1 rfl,?_⟩⟩;have S:=S.put 1 rfl (.deferred none);refine⟨_,S.cell 4 rfl rfl,?_,S.Ar⟩;rw [kP,XZ λ i h1 h2=>aF i h1 h2 h1]
 ·refine S.Ag6 0 rfl λ gb S=>.inr ⟨rfl,S.get 1 rfl,?_⟩;have S:=S.put 1 rfl (.deferred none);refine⟨_,S.cell 4 rfl rfl,?_,S.Ar⟩;rw [kP,hf]
theorem Ue(hl:Rd w a (BF cs))(hn:cs.length<=9223372036854775807)(hq:∀ c∈cs,c.1.size<=9223372036854775807)(hr:Rd w a2 (AR row)) :
  Cw 150 #[.slice a cs.length c,.slice a2 row.length c2] w λ r w'=>r=.bool (Ao cs && CT cs row)/\Below w.heap.size w w':=by
 apply Pc
 delta Cb F G S;try dsimp only [Ps]
 refine (DV hl hn hq).mono ?_;rintro _ w1 ⟨_,rfl,rfl,B1⟩;refine⟨_,rfl,Aq (λ h=>(Hz (hl.grown B1) hn (hr.grown B1)).mono ?_) (λ h=>⟨by simp [h],B1⟩)⟩;rintro _ w2 ⟨_,rfl,rfl,B2⟩;exact⟨_,rfl,by simp [h],Ac B1 B2⟩
theorem Ih(hl:Rd w a (BF cs))(hn:cs.length<=9223372036854775807)(hq:∀ c∈cs,c.1.size<=9223372036854775807)(hr:Rd w a2 (AR row)) :
  Cw 100 #[.slice a cs.length c,.slice a2 row.length c2] w λ r w'=>r=.bool (Ao cs && CT cs row)/\Below w.heap.size w w':=by
 apply QA
 delta Cb D E F G I Lb Li Lt Qi S T W X;try dsimp only [Ps]
 refine (DE hl hn hq).mono ?_;rintro _ w1 ⟨_,rfl,rfl,rfl⟩;refine⟨_,rfl,As (Aq (λ hR=>?_) (λ h=>⟨by simp [h],.refl _ _⟩))⟩;refine Ai (λ h=>⟨?_,.refl _ _⟩) (λ hlen=>?_)
 ·have:¬ row.length=cs.length:=Omg;simp [CT,this]
 have bN:row.length=cs.length:=Omg;have kP:(Ao cs && CT cs row)=UN cs row:=by simp [CT,bN,hR]
 rw [kP];refine⟨λ s w2=>∃ k:Nat,k<=cs.length/\s=[.int .i64 (k:Int)]/\(∀ i (h1:i<cs.length) (h2:i<row.length),i<k->Gu cs[i] row[i]=true)/\Below w1.heap.size w1 w2,λ s _=>match s with
   | [.int _ i]=>cs.length-i.toNat
   | _=>0,⟨0,Omg,rfl,λ i _ _ h=>Omg,.refl _ _⟩,?_⟩
 rintro _ w2 ⟨q,hk,aA,aF,B2⟩;cases aA;have cP:cs.length-((q+1:Nat):Int).toNat<cs.length-((q:Nat):Int).toNat\/¬ q<cs.length:=by
  simp only [Ait];omega
 refine Aa (λ aB=>⟨⟨Omg,aB⟩,?_⟩) (λ aJ=>⟨by rw [XZ λ i h1 h2=>aF i h1 h2 Omg],B2⟩);have h2:q<row.length:=Omg;have h1:q<cs.length:=Omg;obtain⟨p,rfl,c0,c1,c2⟩:=Db (hr.grown B2) h2;refine⟨_,by rw [Ait];exact c0,_,by rw [Ait];exact c1,_,by rw [Ait];exact c2,(Fv w2 row[q]).mono ?_⟩;rintro _ w3 ⟨_,rfl,rfl,B3⟩;refine⟨_,rfl,(ST.start w3).draw λ w4 B4 _=>?_⟩;have C4:=Ac (Ac B2 B3) B4;have DN:Gu cs[q] row[q]=true->(∃ k:Nat,k<=cs.length/\[Value.int .i64 (IntKind.i64.wrap ((q:Int)+1))]=[.int .i64 (k:Int)]/\(∀ i (h1:i<cs.length) (h2:i<row.length),i<k->Gu cs[i] row[i]=true)/\Below w1.heap.size w1 w4) /\
   cs.length-(IntKind.i64.wrap ((q:Int)+1)).toNat<cs.length-(q:Int).toNat:=λ hf=>by
  rw [Ae Omg];refine⟨⟨q+1,Omg,rfl,λ i g1 g2 hi=>?_,C4⟩,cP.resolve_right Omg⟩;rcases Nat.lt_or_ge i q with h | h
  ·exact aF i g1 g2 h
  ·obtain rfl:i=q:=Omg;exact hf
 have bad:Gu cs[q] row[q]=false->Value.bool false=.bool (UN cs row)/\Below w1.heap.size w1 w4:=λ hf=>⟨by rw [X0 h1 h2 hf],C4⟩;obtain⟨p1,hp1,d0,d1,d2⟩:=Db (hr.grown C4) h2;cases hp1;obtain⟨p2,rfl,e0,e1,e2⟩:=Fq (hl.grown C4) h1;refine As (Aq (λ hR=>⟨⟨Omg,Omg⟩,⟨Omg,Omg⟩,_,by rw [Ait];exact d0,_,by rw [Ait];exact e1,?_⟩) (λ hR=>bad (by simp [Gu,hR])));refine Ai (λ hk=>⟨⟨Omg,Omg⟩,_,by rw [Ait];exact d0,Ai (λ hz=>bad ?_) (λ hz=>⟨⟨Omg,Omg⟩,_,by rw [Ait];exact e2,As (Aq (λ ix=>DN ?_) (λ ix=>bad ?_))⟩)⟩) (λ hk=>DN ?_)
 ·simp [Gu,hk,hz]
 ·simp [Gu,hR,ix,hz]
 ·simp [Gu,hk,ix]
 ·simp [Gu,hR,hk]
end
def BW(a:Option Addr)(c:Nat)(l:List UInt8):It:=It.row 5 1 a l.length c (l.map Ag)
section
variable {w0 w:World}{H:List It}{a:Option Addr}{c:Nat}{l:List UInt8}
theorem Ba(S:ST w0 w H){w':World}(h:Bj w w' l a c):ST w0 w' (BW a c l :: H):=S.add h.Ar _ h.row h.new
theorem Y5(S:ST w0 w H)(n:Nat)(hn:H[n]?=some (BW a c l)):Bj w0 w l a c:=⟨S.get n hn,λ k hk=>S.own _ (List.mem_of_getElem? hn) k hk,S.Ar⟩
theorem Dd(S:ST w0 w H)(n:Nat)(hn:H[n]?=some (BW a c l)):Rd w a (l.map Ag):=(Y5 S n hn).rd
theorem Aau(S:ST w0 w H)(n:Nat)(hn:H[n]?=some (BW a c l)){m:List UInt8}{b:Option Addr}{mc:Nat}(hs:Rd w b (m.map Ag))(hl:l.length+m.length<=140737488355328){f:Value->World->Prop}
  (hf:∀ a' c' w',ST w0 w' (H.set n (BW a' c' (l++m)))->f (.slice a' (l++m).length c') w') :
  De Tryz.prog (Builtin.append_ #[77,77] 77 #[.slice a l.length c,.slice b m.length mc]) f w :=
 A0 (S.get n hn) hs hl λ a' c' w' hr hk dA=>hf a' c' w' (S.H7 n hn hk _ hr dA)
end
def IC(b:Bool):UInt8:=if b then 1 else 0
def I5(c:Bv):List UInt8:=Bm c.1++[Aiz c.2.1.toNat,IC c.2.2]
def Cx(cs:List Bv):List UInt8:=Af cs.length++cs.flatMap I5
theorem AX{cs:List Bv}(h:Ao cs=true):1<=cs.length/\cs.length<=16:=by
 simp [Ao] at h;exact h.1.1
theorem CX{cs:List Bv}(h:Ao cs=true){c:Bv}(hc:c∈cs):Fb c.1=true/\1<=c.2.1/\c.2.1<=3/\c.1.size<=24:=by
 simp only [Ao,Ah1,Ai1] at h;have:=h.1.2 c hc;simp only [Fp,Ah1,decide_eq_true_eq] at this;have hn:=this.1;simp only [Fb,Ah1,decide_eq_true_eq] at hn;exact⟨this.1,this.2.1,this.2.2,hn.2⟩
theorem Adu{c:Bv}(h:c.1.size<=24):(I5 c).length<=36:=by
 have:=Ah (n:=c.1.size) Omg;have:=AW c.1;simp only [I5,Bm,Aiq,Ais,AjE];omega
theorem P2{cs:List Bv}(h:∀ c∈cs,c.1.size<=24):(cs.flatMap I5).length<=cs.length*36:=by
 induction cs with
 | nil=>simp
 | cons c cs ih =>
  have h1:=Adu (h c Osi);have h2:=ih λ x hx=>h x (by simp [hx]);rw [List.flatMap_cons,Aiq,Ais];omega
theorem Tk{cs:List Bv}{i:Nat}(hi:i<cs.length):(cs.take (i+1)).flatMap I5=(cs.take i).flatMap I5++I5 cs[i]:=by
 rw [List.take_succ_eq_append_getElem hi,List.flatMap_append];simp
theorem Fy{cs:List Bv}(h:Ao cs=true):(Cx cs).length<=600:=by
 have h1:=AX h;have:=Ah (n:=cs.length) Omg;have:=P2 λ c hc=>(CX h hc).2.2.2;simp only [Cx,Aiq];omega
def AgU(l:List UInt8)(cs:List Bv)(w w':World)(v:Value):Prop :=
 (Ao cs=false/\v=.tuple #[.slice none 0 0,.int .i64 50]/\Below w.heap.size w w')\/(Ao cs=true/\∃ a c,v=.tuple #[.slice a (l++Cx cs).length c,.int .i64 0]/\Bj w w' (l++Cx cs) a c)
section
variable {w:World}{a a2:Option Addr}{c c2:Nat}{cs:List Bv}{l:List UInt8}
theorem Uf(b:Bool)(w:World):Cw 94 #[.bool b] w λ v w'=>v=.int .u8 ((IC b).toNat:Int)/\w'=w:=by
 apply Pg
 delta B F;try dsimp only [Ps]
 exact Aq (λ h=>⟨by rw [h];rfl,rfl⟩) (λ h=>⟨by rw [h];rfl,rfl⟩)
theorem AbS(c:UInt8):Value.int .u8 (c.toNat:Int)=Ag c:=rfl
theorem two_bytes{w:World}{b:Nat}{x y:Value}{t:TypeId}{u v:UInt8}(h:w.heap[b]?=some (.cells #[x,y] t (0,0)))(hx:x=Ag u)(hy:y=Ag v):Rd w (some ⟨b,0,none⟩) ([u,v].map Ag):=by
 subst hx hy;exact Rd.Al h
theorem VI{k:Int}(h1:1<=k)(h2:k<=3):Value.int .u8 (IntKind.u8.wrap k)=Ag (Aiz k.toNat):=by
 rw [AG Omg Omg,<- Ck (x:=k.toNat) Omg];congr 1;omega
theorem Ga(hl:Rd w a (l.map Ag))(hs:l.length+1000<=140737488355328)(aj:Rd w a2 (BF cs))(hn:cs.length<=9223372036854775807)(hq:∀ c∈cs,c.1.size<=9223372036854775807) :
  Cw 45 #[.slice a l.length c,.slice a2 cs.length c2] w λ v w'=>AgU l cs w w' v:=by
 apply QS
 delta A Ab B AM Cb Cs Cy D F G H I J Ks Lb Li Lt N O Eg S Am T U W Wb Wu X;try dsimp only [Ps]
 refine (DV aj hn hq).mono ?_;rintro _ w1 ⟨_,rfl,rfl,B1⟩;refine⟨_,rfl,As (Aq (λ hR=>?_) (λ hR=>.inl ⟨hR,rfl,B1⟩))⟩;have hlen:=AX hR;have d1:=Ah (n:=cs.length) Omg;rw [Aj Omg Omg];refine (AE l (hl.grown B1) cs.length Omg Omg).mono ?_;rintro _ w2 ⟨_,rfl,jC,il,rfl,h2⟩;refine⟨_,_,_,rfl,λ s w3=>∃(i:Nat) (o:List UInt8) (oa:Option Addr) (oc:Nat),s=[.slice oa o.length oc,.int .i64 (i:Int)]/\i<=cs.length/\o=l++Af cs.length++(cs.take i).flatMap I5/\ST w w3 [BW oa oc o],λ s _=>match s with
   | [_,.int _ i]=>cs.length-i.toNat
   | _=>0,⟨0,_,jC,il,rfl,Omg,Osi,Ba ((ST.start w).grown B1) h2⟩,?_⟩
 rintro oa _ oc _ w3 ⟨i,o,_,_,aA,hi,ho,S⟩;cases aA;have jv:o.length<=l.length+10+16*36:=by
  have:=P2 (cs:=cs.take i) λ c hc=>(CX hR (List.mem_of_mem_take hc)).2.2.2;rw [Ajm] at this;rw [ho];simp only [Aiq];omega
 refine Aa (λ aB=>⟨⟨Omg,aB⟩,?_⟩) (λ aJ=>.inr ⟨hR,?_⟩)
 ·have aD:i<cs.length:=Omg;obtain⟨hN,cu,ay,ao⟩:=CX hR (Ai7 aD);obtain⟨p,rfl,c0,c1,c2⟩:=Fq (aj.grown S.Ar) aD;have hT:=Ah (n:=cs[i].1.size) Omg;have an:=AW cs[i].1;refine⟨_,by rw [Ait];exact c0,_,by rw [Ait];exact c1,_,by rw [Ait];exact c2,S.Ic λ jD w7 _ S=>⟨_,S.cell 0 rfl rfl,?_⟩⟩;have xJ:Rd w7 oa (o.map Ag):=Dd S 1 rfl;refine (FC o xJ cs[i].1 Omg Omg).mono ?_;rintro _ w8 ⟨_,rfl,a8,c8,rfl,h8⟩;refine⟨_,_,_,_,rfl,(Ba S h8).draw λ w9 _ S=>⟨_,S.cell 1 rfl rfl,_,S.cell 1 rfl rfl,(Uf _ w9).mono ?_⟩⟩;rintro _ w9 ⟨_,rfl,rfl,rfl⟩;refine⟨_,rfl,S.cell 1 rfl rfl,S.An λ ot aZ _ _ S=>?_⟩;refine Aau (m:=[Aiz cs[i].2.1.toNat,IC cs[i].2.2]) S 1 rfl (two_bytes (S.CA 0 rfl) (VI cu ay) (AbS _)) (by simp only [Bm,Aiq,Ais,AjE];omega) λ a12 lY bL S=>⟨_,_,_,rfl,?_⟩;rw [Ae Omg];refine⟨⟨i+1,_,a12,lY,rfl,Omg,?_,S.sub Osi⟩,?_⟩
  ·rw [Tk aD,ho];simp [I5]
  ·show cs.length-((i+1:Nat):Int).toNat<cs.length-((i:Nat):Int).toNat;simp only [Ait];omega
 ·rw [AiZ Omg] at ho;have:o=l++Cx cs:=by rw [ho];simp [Cx]
  subst this;exact⟨oa,oc,rfl,Y5 S 0 rfl⟩
theorem Jw(hl:Rd w a (l.map Ag))(hs:l.length+1000<=140737488355328)(aj:Rd w a2 (BF cs))(hn:cs.length<=9223372036854775807)(hq:∀ c∈cs,c.1.size<=9223372036854775807) :
  Cw 46 #[.slice a l.length c,.slice a2 cs.length c2] w λ v w'=>AgU l cs w w' v:=by
 apply RY
 delta B AM Cb Cs F H I J Ks Lb Li Lt N O Eg S T U W Wb Wu X Zy;try dsimp only [Ps]
 refine (DE aj hn hq).mono ?_;rintro _ w1 ⟨_,rfl,rfl,rfl⟩;refine⟨_,rfl,As (Aq (λ hR=>?_) (λ hR=>.inl ⟨hR,rfl,.refl _ _⟩))⟩;have hlen:=AX hR;have d1:=Ah (n:=cs.length) Omg;rw [Aj Omg Omg];refine (Bf l hl cs.length Omg Omg).mono ?_;rintro _ w2 ⟨_,rfl,jC,il,rfl,h2⟩;refine⟨_,_,_,rfl,λ s w3=>∃(i:Nat) (o:List UInt8) (oa:Option Addr) (oc:Nat),s=[.slice oa o.length oc,.int .i64 (i:Int)]/\i<=cs.length/\o=l++Af cs.length++(cs.take i).flatMap I5/\ST w1 w3 [BW oa oc o],λ s _=>match s with
   | [_,.int _ i]=>cs.length-i.toNat
   | _=>0,⟨0,_,jC,il,rfl,Omg,Osi,Ba (ST.start w1) h2⟩,?_⟩
 rintro oa _ oc _ w3 ⟨i,o,_,_,aA,hi,ho,S⟩;cases aA;have jv:o.length<=l.length+10+16*36:=by
  have:=P2 (cs:=cs.take i) λ c hc=>(CX hR (List.mem_of_mem_take hc)).2.2.2;rw [Ajm] at this;rw [ho];simp only [Aiq];omega
 refine Aa (λ aB=>⟨⟨Omg,aB⟩,?_⟩) (λ aJ=>.inr ⟨hR,?_⟩)
 ·have aD:i<cs.length:=Omg;obtain⟨hN,cu,ay,ao⟩:=CX hR (Ai7 aD);obtain⟨p,rfl,c0,c1,c2⟩:=Fq (aj.grown S.Ar) aD;have hT:=Ah (n:=cs[i].1.size) Omg;have an:=AW cs[i].1;have hb:(0:Int)<=(i:Int)/\(i:Int)<(cs.length:Int):=⟨Omg,aB⟩;refine⟨_,by rw [Ait];exact c0,(Gg o (Dd S 0 rfl) cs[i].1 Omg Omg).mono ?_⟩;rintro _ w4 ⟨_,rfl,a8,c8,rfl,h8⟩;have S:=Ba S h8;obtain⟨p,hp,c0,c1,c2⟩:=Fq (aj.grown S.Ar) aD;cases hp;refine⟨_,_,_,_,rfl,λ s w5=>w5=w4/\s=[Ag (IC cs[i].2.2)],⟨hb,_,by rw [Ait];exact c2,Aq (λ h=>⟨rfl,by rw [h];rfl⟩) (λ h=>⟨rfl,by rw [h];rfl⟩)⟩,?_⟩;rintro nu w5 ⟨rfl,ix⟩;have wY:Value.int .u8 nu=Ag (IC cs[i].2.2):=by simpa using ix
  refine⟨hb,_,by rw [Ait];exact c1,S.An λ ot aZ _ _ S=>?_⟩;refine Aau (m:=[Aiz cs[i].2.1.toNat,IC cs[i].2.2]) S 1 rfl (two_bytes (S.CA 0 rfl) (VI cu ay) wY) (by simp only [Bm,Aiq,Ais,AjE];omega) λ a12 lY bL S=>⟨_,_,_,rfl,?_⟩;rw [Ae Omg];refine⟨⟨i+1,_,a12,lY,rfl,Omg,?_,S.sub Osi⟩,?_⟩
  ·rw [Tk aD,ho];simp [I5]
  ·show cs.length-((i+1:Nat):Int).toNat<cs.length-((i:Nat):Int).toNat;simp only [Ait];omega
 ·rw [AiZ Omg] at ho;have:o=l++Cx cs:=by rw [ho];simp [Cx]
  subst this;exact⟨oa,oc,rfl,Y5 S 0 rfl⟩
end
def Gm(n wd:Int):Prop:=0<=n/\n<=4096/\0<=wd/\wd<=64
instance (n wd:Int):Decidable (Gm n wd):=by unfold Gm;infer_instance
def QY(l:List UInt8)(n wd:Nat):Prop:=l.length=Dl n wd/\AZ (BL l n wd) wd=l
instance (l:List UInt8) (n wd:Nat):Decidable (QY l n wd):=by unfold QY;infer_instance
def UnV(l:List UInt8)(n wd:Int)(w w':World)(r:Value):Prop :=
 ∃(xs:List Nat) (a:Option Addr) (c:Nat) (e:Int),r=.tuple #[.slice a xs.length c,.int .i64 e]/\Rd w' a (xs.map EI)/\Below w.heap.size w w'/\(∀ p,a=some p->w.heap.size<=p.block) /\
  ((Gm n wd/\QY l n.toNat wd.toNat/\xs=BL l n.toNat wd.toNat/\e=0)\/(¬ (Gm n wd/\QY l n.toNat wd.toNat)/\xs=[]/\e=if Gm n wd then 10 else 2))
theorem UnV.bad{l:List UInt8}{n wd:Int}{w w':World}{e:Int}(hb:Below w.heap.size w w')(h:¬ (Gm n wd/\QY l n.toNat wd.toNat))(he:e=if Gm n wd then 10 else 2):UnV l n wd w w' (.tuple #[.slice none 0 0,.int .i64 e]) :=
 ⟨[],none,0,e,rfl,Rd.nil _ _,hb,(λ p hp=>by cases hp),.inr ⟨h,rfl,he⟩⟩
theorem Gd{l:List UInt8}{j:Nat}(h:j<l.length):l.getD j 0=l[j]:=by simp [h]
section
variable {w:World}{a:Option Addr}{c:Nat}{l:List UInt8}
theorem Hs(hl:Rd w a (l.map Ag))(n wd:Int)(hs:l.length<=9223372036854775807) :
  Cw 238 #[.slice a l.length c,.int .i64 n,.int .i64 wd] w λ v w'=>UnV l n wd w w' v:=by
 apply OM
 delta A Ad LV Cf D F H I Li Ls Lu Ly N O Rs S Am U W Wb Wu X Z;try dsimp only [Ps]
 refine (SH.start (λ _=>False) w).An λ b4 w1 kM B1 S1=>S1.An λ b3 w2 dI B2 S2=>⟨_,S2.cell 0 rfl rfl,(Jq w2 n wd).mono ?_⟩;rintro _ w3 ⟨_,rfl,rfl,rfl⟩;by_cases aU:Gm n wd
 case neg =>
  rw [if_neg (by unfold Gm at aU;omega)];refine⟨_,_,rfl,λ _ _=>False,Ai (λ _=>UnV.bad S2.below (λ h=>aU h.1) (by rw [if_neg aU])) (λ h=>absurd h Ode),?_⟩;rintro w5 h;exact h.elim
 obtain⟨h1,h2,h3,h4⟩:=id aU;obtain⟨n,rfl⟩:∃ m:Nat,n=(m:Int):=⟨n.toNat,Omg⟩;obtain⟨wd,rfl⟩:∃ m:Nat,wd=(m:Int):=⟨wd.toNat,Omg⟩;have hn:n<=4096:=Omg;have hw:wd<=64:=Omg;have hm:n*wd<=4096*64:=Ajf hn hw;rw [if_pos ⟨Omg,Omg,Omg,Omg⟩];obtain⟨m,hmd⟩:∃ m,m=Dl n wd:=⟨_,rfl⟩;have o7:m=(n*wd+7) / 8:=hmd;have s9:((n:Int)*(wd:Int))=((n*wd:Nat):Int):=by norm_cast
 have em:((n:Int)*(wd:Int)+7) / 8=(m:Int):=by rw [s9,o7];omega
 rw [em];have ew:IntKind.i64.wrap ((n:Int)*(wd:Int))=((n*wd:Nat):Int):=by rw [s9,wrap_i64 Omg Omg]
 have emod:Int.tmod ((n*wd:Nat):Int) 8=((n*wd % 8:Nat):Int):=by rw [Int.tmod_eq_emod_of_nonneg Omg];omega
 refine⟨_,_,rfl,λ s w5=>s=[]/\QY l n wd/\Below w3.heap.size w3 w5/\SH (λ _=>False) w w5 [(b3,#[.int .i64 (wd:Int)],3),(b4,#[.slice a l.length c],77)],?_,?_⟩
 ·refine Ai (λ h=>absurd rfl h) (λ _=>⟨_,_,_,S2.cell 1 rfl rfl,Ai (λ h=>?_) (λ hlen=>?_)⟩)
  ·exact UnV.bad S2.below (λ hh=>h (by have:=hh.2.1;rw [this];simp [hmd])) (by rw [if_pos aU])
  ·have bN:l.length=m:=Omg;have hT:=AeF (l:=l) (n:=n) (w:=wd) Omg;have hW:=AcS (l:=l) (T:=n*wd) Omg;refine S2.EL λ w4 B4 S4=>?_;have DN:(0<l.length->n*wd % 8≠0->(l.getD (l.length-1) 0).toNat / 2 ^ (n*wd % 8)=0)->QY l n wd:=λ h=>⟨Omg,hT.2 (hW.2 h)⟩;refine Aa (λ iU=>⟨_,S4.cell 0 rfl rfl,?_⟩) (λ hz=>⟨rfl,DN (λ h=>Omg),B4,S4⟩);rw [ew,emod];refine Ai (λ h8=>⟨_,_,_,S4.cell 1 rfl rfl,?_⟩) (λ h8=>⟨rfl,DN (λ _ h=>Omg),B4,S4⟩);rw [wrap_i64 (n:=(m:Int)-1) Omg Omg];refine⟨⟨Omg,Omg⟩,?_⟩;have hj:m-1<l.length:=Omg;obtain⟨p,rfl,hc⟩:=byte_at (hl.grown S4.below) hj;refine⟨_,by rw [show ((m:Int)-1).toNat=m-1 by omega];exact hc,_,S4.cell 0 rfl rfl,?_⟩;rw [ew,emod];refine⟨Omg,?_⟩;rw [Ait,show min (n*wd % 8) 8=n*wd % 8 by omega,fdiv_pow];have hg:(l.getD (l.length-1) 0)=l[m-1]:=by rw [bN];exact Gd hj
   refine Ai (λ h=>UnV.bad S4.below (λ hh=>h ?_) (by rw [if_pos aU])) (λ h=>⟨rfl,DN (λ _ _=>?_),B4,S4⟩)
   ·have:=hW.1 (hT.1 hh.2.2) Omg Omg;rw [hg] at this;rw [this];rfl
   ·rw [hg];omega
 rintro w5 ⟨_,aK,B5,S5⟩;obtain⟨hlen,hpk⟩:=id aK;refine DS tU (l:=(n:Int)) (c:=(n:Int)) Omg Omg Omg Omg λ bo w6 fW B6 nA=>?_;rw [Ait,V1 (Dq l) wd n] at nA;rw [Ait];have S6:=S5.grown B6;refine⟨_,_,_,rfl,S6.An λ dH w7 iL B7 S7=>S7.Y8 0 rfl (show 0<1 by decide) λ w8 K8 S8=>⟨_,S8.cell 1 rfl rfl,(KU w8 (n:Int) (wd:Int)).mono ?_⟩⟩;rintro _ w9 ⟨_,rfl,b1,b2,rfl,P9⟩;have S9:=S8.grown P9.below;have vE:bo<w6.heap.size:=(Ai5.1 nA).1;have gn:=(Ak.AB (F:=λ _=>False) B7).at nA Osi;have kq:=K8.at gn (show ¬ bo=dH by omega);have qA:=(Ak.AB (F:=λ _=>False) P9.below).at kq Osi;have nO:w.heap.size<=bo:=Nat.le_trans S5.below.size fW;have vH:bo<w9.heap.size:=(Ai5.1 qA).1;have nL:=S9.lt (x:=(b3,_,_)) (Ai3 _ (Ai2 ..));have vB:=S9.lt (x:=(b4,_,_)) (Ai3 _ (Ai3 _ (Ai2 ..)));have qK:=S9.lt (x:=(dH,_,_)) (Ai2 ..);have kv:=P9.own (b2,_,_) (Ai2 ..);have nK:=P9.own (b1,_,_) (Ai3 _ (Ai2 ..));have kx:=P9.lt (x:=(b2,_,_)) (Ai2 ..)
 have qM:=P9.lt (x:=(b1,_,_)) (Ai3 _ (Ai2 ..));have hb35:=S5.lt (x:=(b3,_,_)) (Ai2 ..);have vA:=S5.lt (x:=(b4,_,_)) (Ai3 _ (Ai2 ..));refine⟨_,_,_,rfl,by kernel_rfl,λ rr aA dZ hy=>?_⟩;obtain⟨W1,hW1⟩:∃ W1,W1=(w9.alloc (.deferred (some []))).alloc (.loop rr):=⟨_,rfl⟩;rw [<- hW1];have gH:Below w9.heap.size w9 W1:=by rw [hW1];exact (((Below.refl _ w9).alloc (Nat.le_refl _) _).alloc Osi _)
 have sy:W1.heap.size=w9.heap.size+2:=by rw [hW1];simp
 have gm:W1.heap[w9.heap.size+1]?=some (.loop rr):=by
  rw [hW1];have:=World.alloc_heap_new (w9.alloc (.deferred (some []))) (.loop rr);rwa [World.size_alloc] at this
 have kh:W1.heap[w9.heap.size]?=some (.deferred (some [])):=by
  rw [hW1];exact (Below.heap_alloc _ _ _ Osi).trans (World.alloc_heap_new w9 _)
 have eN:=Ak.AB (F:=λ _=>False) gH;have kn:=eN.at qA Osi;obtain⟨L,hLd⟩:∃ L,L=w9.heap.size+1:=⟨_,rfl⟩;rw [<- hLd] at gm hy ⊢;have Bw1:Below w.heap.size w W1:=S9.below.trans (gH.mono S9.below.size);have zN:=S9.below.size;have low:∀ {w':World},Ak (λ k=>k=bo\/k=L) W1 w'->Below w.heap.size w w':=λ K=>Bw1.trans (K.below Bw1.size λ k hk h=>Omg);have vL:∀ {w':World},Ak (λ k=>k=bo\/k=L) W1 w'->w'.cell? ⟨b3,0,none⟩=some (.int .i64 (wd:Int)):=λ K=>K.cell (eN.cell (S9.cell 1 rfl rfl) Osi) (by
  show ¬ (b3=bo\/b3=L);omega)
 have vM:∀ {w':World},Ak (λ k=>k=bo\/k=L) W1 w'->w'.cell? ⟨b4,0,none⟩=some (.slice a l.length c):=λ K=>K.cell (eN.cell (S9.cell 2 rfl rfl) Osi) (by
  show ¬ (b4=bo\/b4=L);omega)
 have jX:∀ {w':World},Ak (λ k=>k=bo\/k=L) W1 w'->w'.cell? ⟨dH,0,none⟩=some (.slice (some ⟨bo,0,none⟩) n n):=λ K=>K.cell (eN.cell (S9.cell 0 rfl rfl) Osi) (by
  show ¬ (dH=bo\/dH=L);omega)
 have vG:bo<w8.heap.size:=(Ai5.1 kq).1;have e18:w8.heap.size<=b1:=by simpa using nK
 have yD:w8.heap.size<=b2:=by simpa using kv
 have cK:∀ {w':World},Ak (λ k=>k=bo\/k=L) W1 w'->w'.cell? ⟨b1,0,none⟩=some (.int .i64 (n:Int))/\w'.cell? ⟨b2,0,none⟩=some (.int .i64 (wd:Int)):=λ K =>
  ⟨K.cell (eN.cell (P9.cell 1 rfl rfl) Osi) (by show ¬ (b1=bo\/b1=L);omega),K.cell (eN.cell (P9.cell 0 rfl rfl) Osi) (by show ¬ (b2=bo\/b2=L);omega)⟩
 have hyp:∀ t,t<n*wd->∀ wx,(Ak (λ k=>k=bo\/k=L) W1 wx/\wx.heap[bo]?=some (.cells (GR (Dq l) wd n t) 92 (0,0))/\wx.heap[L]?=some (.loop rr)) ->
   N0 Tryz.prog L #[.int .i64 ((t / wd:Nat):Int),.int .i64 ((t % wd:Nat):Int)] (λ y w'=>y=true/\(Ak (λ k=>k=bo\/k=L) W1 w'/\w'.heap[bo]?=some (.cells (GR (Dq l) wd n (t+1)) 92 (0,0))/\w'.heap[L]?=some (.loop rr))) wx:=by
  rintro t ht wx ⟨K,hO,hL⟩;have oN:0<wd:=Nat.pos_of_ne_zero (by rintro rfl;simp at ht);have gD:t / wd<n:=(Nat.div_lt_iff_lt_mul oN).2 ht;have cZ:t % wd<wd:=AiR _ oN;have iE:t / 8<l.length:=Omg;refine hy _ _ _ wx hL ⟨hL,?_⟩;obtain⟨aZ,hw11⟩:∃ aZ,aZ=wx.putObj L (.loop { rr with state:=.busy }):=⟨_,rfl⟩;rw [<- hw11];have eZ:L<wx.heap.size:=(Ai5.1 hL).1;have eV:Ak (λ k=>k=L) wx aZ:=by rw [hw11];exact AO _ _ _
  have jL:aZ.heap[L]?=some (.loop { rr with state:=.busy }):=by rw [hw11];exact World.putObj_heap_same eZ
  have K2:Ak (λ k=>k=bo\/k=L) W1 aZ.drew:=(K.trans eV (λ k _ h=>.inr h)).drew;have fR:aZ.drew.heap[bo]?=some (.cells (GR (Dq l) wd n t) 92 (0,0)):=eV.at hO (by show ¬ bo=L;omega);refine⟨_,vL (K.trans eV (λ k _ h=>.inr h)),?_⟩;unfold PF;have et:IntKind.i64.wrap (IntKind.i64.wrap (((t / wd:Nat):Int)*(wd:Int))+((t % wd:Nat):Int))=(t:Int):=by
   have h1:((t / wd:Nat):Int)*(wd:Int)=((t / wd*wd:Nat):Int):=by rw [Int.natCast_mul]
   have h2:=Nat.div_add_mod t wd;rw [AiF] at h2;rw [h1];generalize t / wd*wd=q at h2;generalize t % wd=r' at h2;rw [wrap_i64 (n:=(q:Int)) Omg Omg,wrap_i64 Omg Omg];omega
  have ed:Int.fdiv (t:Int) (2 ^ (min 3 64))=((t / 8:Nat):Int):=fdiv_pow t 3;rw [et,ed];refine⟨_,_,_,jX K2,⟨Ajh _,by exact_mod_cast gD⟩,?_⟩;rw [Ait];have ea:(⟨bo,0,none⟩:Addr).add (t / wd*1)=⟨bo,t / wd,none⟩:=by rw [Ax];simp
  obtain⟨p,rfl,hc⟩:=byte_at (hl.grown (low K2)) iE;show ∃ n:Int,aZ.drew.cell? ((⟨bo,0,none⟩:Addr).add (t / wd*1))=some (.int .u64 n)/\_;rw [ea];have aE:aZ.drew.cell? ⟨bo,t / wd,none⟩=some (.int .u64 (PC (Dq l) wd t (t / wd):Int)):=by
   simp only [World.cell?,fR];simpa using YS gD
  refine⟨_,aE,_,_,_,vM K2,⟨Ajh _,by exact_mod_cast iE⟩,_,by rw [Ait];exact hc,?_⟩;rw [AgY Omg,Ait,Ait,Vk (l[t / 8]).toNat_lt (AiR _ Omg),V5 Omg];have eh:l[t / 8].toNat.testBit (t % 8)=Dq l t:=by unfold Dq;rw [Gd iE]
  rw [eh];have lM:(Dq l t).toNat*2 ^ (t % wd)<18446744073709551616:=by
   have:2 ^ (t % wd)<2 ^ 64:=Nat.pow_lt_pow_right Omg Omg;cases Dq l t
   ·simp
   ·simpa using this
  have xO:PC (Dq l) wd t (t / wd)<18446744073709551616:=Aid (Aaz _ oN _ _) (AiL (n:=2) Omg hw);rw [Agq xO lM,Y6];refine⟨Ajh _,Ajh _,⟨Ajh _,by exact_mod_cast gD⟩,?_⟩;show DG ((⟨bo,0,none⟩:Addr).add (t / wd*1)) _ _ _;rw [ea];refine EH fR (by rw [VZ];exact gD) λ al kY jN=>?_;have jM:al.heap[L]?=some (.loop { rr with state:=.busy }):=kY.at (show aZ.drew.heap[L]?=_ from jL) (by show ¬ L=bo;omega);refine⟨jM,rfl,?_⟩;rw [Il aA dZ];rw [YT _ rfl] at jN;have jm:L<al.heap.size:=(Ai5.1 jM).1;refine⟨(K2.trans kY (λ k _ h=>.inl h)).trans (AO _ _ _) (λ k _ h=>.inr h),?_,World.putObj_heap_same jm⟩;exact (World.putObj_heap_other Omg).trans jN
 refine (VR (l:=L) (b1:=b1) (b2:=b2) hn hw (λ t wx=>Ak (λ k=>k=bo\/k=L) W1 wx/\wx.heap[bo]?=some (.cells (GR (Dq l) wd n t) 92 (0,0))/\wx.heap[L]?=some (.loop rr))
  (λ t wx hj=>cK hj.1) (λ t wx hj=>⟨hj.1.drew,hj.2.1,hj.2.2⟩) hyp ⟨.refl _ _,kn,gm⟩).mono ?_
 rintro _ au ⟨_,rfl,jB,my,dP⟩;have jn:L<au.heap.size:=(Ai5.1 dP).1;refine⟨⟨_,rfl⟩,none,by rw [Il aA dZ];exact dP,rfl,?_⟩;obtain⟨ah,hw15⟩:∃ ah,ah=au.putObj L (.loop { rr with state:=.exhausted,pending:=none }):=⟨_,rfl⟩;rw [<- hw15];have gI:Ak (λ k=>k=bo\/k=L) W1 ah:=by rw [hw15];exact jB.trans (AO _ _ _) (λ k _ h=>.inr h)
 have mz:ah.heap[bo]?=some (.cells (GR (Dq l) wd n (n*wd)) 92 (0,0)):=by rw [hw15];exact (World.putObj_heap_other Omg).trans my
 have gL:ah.heap[w9.heap.size]?=some (.deferred (some [])):=gI.at kh (by show ¬ (w9.heap.size=bo\/w9.heap.size=L);omega);have eB:=low gI;have ug:=(World.putObj_heap_other (w:=ah) (o:=.deferred none) (show bo≠w9.heap.size by omega)).trans mz;refine⟨_,_,_,jX gI,gL,BL l n wd,some ⟨bo,0,none⟩,n,0,by rw [Cd],?_,eB.trans ((AO ah w9.heap.size _).below eB.size λ k hk he=>Omg),(λ p hp=>by cases hp;exact nO),.inl ⟨aU,aK,rfl,rfl⟩⟩;have:=Rd.Al ug;rwa [YR] at this
end
theorem Vn(b:Bool):((b.toNat:Int)=1)↔b=true:=by cases b <;> decide
section
variable {w:World}{a:Option Addr}{c:Nat}{l:List UInt8}
theorem F9(hl:Rd w a (l.map Ag))(n wd:Int)(hs:l.length<=9223372036854775807) :
  Cw 163 #[.slice a l.length c,.int .i64 n,.int .i64 wd] w λ v w'=>UnV l n wd w w' v:=by
 apply M9
 delta Ad LV AM D F H I Lu Ly O Qi Rs Rt S Am U W Wb Wu X;try dsimp only [Ps]
 refine (Rj w n wd).mono ?_;rintro _ w ⟨_,rfl,rfl,rfl⟩;by_cases aU:Gm n wd
 case neg =>
  rw [if_neg (by unfold Gm at aU;omega)];exact⟨_,_,rfl,Ai (λ _=>UnV.bad (.refl _ _) (λ h=>aU h.1) (by rw [if_neg aU])) (λ h=>absurd h Ode)⟩
 obtain⟨h1,h2,h3,h4⟩:=id aU;obtain⟨n,rfl⟩:∃ m:Nat,n=(m:Int):=⟨n.toNat,Omg⟩;obtain⟨wd,rfl⟩:∃ m:Nat,wd=(m:Int):=⟨wd.toNat,Omg⟩;have hn:n<=4096:=Omg;have hw:wd<=64:=Omg;have hm:n*wd<=4096*64:=Ajf hn hw;rw [if_pos ⟨Omg,Omg,Omg,Omg⟩];obtain⟨m,hmd⟩:∃ m,m=Dl n wd:=⟨_,rfl⟩;have o7:m=(n*wd+7) / 8:=hmd;have s9:((n:Int)*(wd:Int))=((n*wd:Nat):Int):=by norm_cast
 have em:((n:Int)*(wd:Int)+7) / 8=(m:Int):=by rw [s9,o7];omega
 rw [em];refine⟨_,_,rfl,Ai (λ h=>absurd rfl h) (λ _=>Ai (λ h=>?_) (λ hlen=>?_))⟩
 ·exact UnV.bad (.refl _ _) (λ hh=>h (by have:=hh.2.1;rw [this];simp [hmd])) (by rw [if_pos aU])
 have bN:l.length=m:=Omg;refine DS tU (l:=(n:Int)) (c:=(n:Int)) Omg Omg Omg Omg λ bo w2 fW B2 ko=>?_;rw [Ait,V1 (Dq l) wd n] at ko;rw [Ait];refine⟨_,_,_,rfl,?_⟩;have low:∀ {w':World},Ak (λ k=>k=bo) w2 w'->Below w.heap.size w w':=λ K=>B2.trans (K.below B2.size λ k hk h=>Omg);refine⟨λ s w3=>∃ i:Nat,i<=n/\s=[.int .i64 (i:Int)]/\Ak (λ k=>k=bo) w2 w3/\w3.heap[bo]?=some (.cells (GR (Dq l) wd n (i*wd)) 92 (0,0)),λ s _=>match s with
   | [.int _ i]=>n-i.toNat
   | _=>0,⟨0,Omg,rfl,.refl _ _,by rw [Nat.zero_mul];exact ko⟩,?_⟩
 rintro _ w3 ⟨i,hi,hs,K3,iK⟩;cases hs;refine Aa (λ aB=>?_) (λ aJ=>?_)
 ·have aD:i<n:=Omg;refine⟨λ s w5=>∃ k:Nat,k<=wd/\s=[.int .i64 (k:Int)]/\Ak (λ k=>k=bo) w2 w5/\w5.heap[bo]?=some (.cells (GR (Dq l) wd n (i*wd+k)) 92 (0,0)),λ s _=>match s with
    | [.int _ k]=>wd-k.toNat
    | _=>0,⟨0,Omg,Osi,K3,iK⟩,?_⟩
  rintro _ w5 ⟨k,hk,hs,K5,fS⟩;cases hs;refine Aa (λ av=>?_) (λ bz=>?_)
  ·have qo:k<wd:=Omg;have pC:i*wd+k<n*wd:=by
    have:(i+1)*wd<=n*wd:=Nat.mul_le_mul_right _ aD;rw [AjF] at this;omega
   have ja:(i*wd+k) / wd=i:=by
    rw [AiF,Nat.mul_add_div Omg,Nat.div_eq_of_lt qo,Nat.add_zero]
   have gC:(i*wd+k) % wd=k:=by
    rw [AiF,Nat.mul_add_mod,Nat.mod_eq_of_lt qo]
   obtain⟨t,ht⟩:∃ t,t=i*wd+k:=⟨_,rfl⟩;rw [<- ht] at fS pC ja gC;have et:IntKind.i64.wrap (IntKind.i64.wrap ((i:Int)*(wd:Int))+(k:Int))=(t:Int):=by
    have h1:(i:Int)*(wd:Int)=((i*wd:Nat):Int):=by rw [Int.natCast_mul]
    rw [h1,ht];generalize i*wd=q at ht;rw [wrap_i64 (n:=(q:Int)) Omg Omg,wrap_i64 Omg Omg];omega
   have ed:IntKind.i64.wrap (Int.tdiv (t:Int) 8)=((t / 8:Nat):Int):=by
    rw [Int.tdiv_eq_ediv_of_nonneg Omg,wrap_i64 Omg Omg];omega
   have er:Int.tmod (t:Int) 8=((t % 8:Nat):Int):=by
    rw [Int.tmod_eq_emod_of_nonneg Omg];omega
   rw [et,ed,er];have iE:t / 8<l.length:=Omg;refine⟨⟨Omg,Omg⟩,?_⟩;obtain⟨p,rfl,hc⟩:=byte_at (hl.grown (low K5)) iE;refine⟨_,by rw [Ait];exact hc,Omg,?_⟩;rw [Ait,Vk (l[t / 8]).toNat_lt (AiR _ Omg),Ae Omg];have eh:l[t / 8].toNat.testBit (t % 8)=Dq l t:=by unfold Dq;rw [Gd iE]
   rw [eh];have qw:∀ wx:World,Ak (λ k=>k=bo) w2 wx->wx.heap[bo]?=some (.cells (GR (Dq l) wd n (t+1)) 92 (0,0)) ->
     ((∃ k':Nat,k'<=wd/\[Value.int .i64 ((k+1:Nat):Int)]=[.int .i64 (k':Int)]/\Ak (λ k=>k=bo) w2 wx/\wx.heap[bo]?=some (.cells (GR (Dq l) wd n (i*wd+k')) 92 (0,0)))/\wd-((k+1:Nat):Int).toNat<wd-((k:Nat):Int).toNat):=by
    intro wx K hO;refine⟨⟨k+1,Omg,rfl,K,by rw [<- AjG,<- ht];exact hO⟩,?_⟩;simp only [Ait];omega
   refine Ap (λ h1=>?_) (λ h1=>?_)
   ·have cK:Dq l t=true:=(Vn _).1 h1;unfold PF;have ea:(⟨bo,0,none⟩:Addr).add (i*1)=⟨bo,i,none⟩:=by rw [Ax];simp
    refine⟨⟨Omg,Omg⟩,?_⟩;rw [Ait,Ait];have aE:w5.drew.cell? ((⟨bo,0,none⟩:Addr).add (i*1))=some (.int .u64 (PC (Dq l) wd t i:Int)):=by
     rw [ea];have:w5.drew.heap[bo]?=some (.cells (GR (Dq l) wd n t) 92 (0,0)):=fS;simp only [World.cell?,this];simpa using YS aD
    refine⟨Omg,_,aE,⟨Omg,Omg⟩,?_⟩;have mg:=V5 (b:=true) (s:=k) Omg;simp only [Bool.toNat_true,Nat.one_mul] at mg;rw [show IntKind.u64.wrap (((1:Nat):Int))=1 from by decide] at mg;rw [mg];have lM:2 ^ k<2 ^ 64:=Nat.pow_lt_pow_right Omg Omg;have xO:PC (Dq l) wd t i<18446744073709551616:=Aid (Aaz _ Omg _ _) (AiL (n:=2) Omg hw);rw [Agq xO lM];have db:=Y6 (Dq l) wd t;rw [cK,ja,gC] at db;simp only [Bool.toNat_true,Nat.one_mul] at db;rw [db];unfold Av;simp only;rw [ea];refine EH (show w5.drew.heap[bo]?=_ from fS) (by rw [VZ];exact aD) λ w7 K7 gn=>?_;have rD:=YT (f:=Dq l) (w:=wd) (m:=n) (t:=t) _ rfl;rw [ja] at rD;rw [rD] at gn;exact qw w7 (K5.drew.trans K7 (λ k _ h=>h)) gn
   ·have bZ:Dq l t=false:=by
     cases h:Dq l t
     ·rfl
     ·exact absurd ((Vn _).2 h) h1
    exact qw w5 K5 (by rw [AcH bZ];exact fS)
  ·have:k=wd:=Omg;subst this;rw [Ae Omg];refine⟨⟨i+1,Omg,rfl,K5,by rw [AjF];exact fS⟩,?_⟩;simp only [Ait];omega
 ·have:i=n:=Omg;subst this;have B3:=low K3;have sY:Rd w3 (some ⟨bo,0,none⟩) ((BL l i wd).map EI):=by
   have:=Rd.Al iK;rwa [YR] at this
  have zA:=Cd l i wd;have bB:=HY (c:=i) sY Omg hw (NN l i wd);rw [zA] at bB;refine bB.mono ?_;rintro _ w7 ⟨_,rfl,a7,c7,rfl,h7⟩;have B7:=Ac B3 h7.Ar;refine⟨_,_,_,_,rfl,Aw Ca rfl h7.rd ⟨_,rfl,Aw Ca rfl (hl.grown B7) ⟨_,rfl,?_⟩⟩⟩;rw [AU];refine As (Aa (λ he=>?_) (λ he=>?_))
  ·refine⟨BL l i wd,some ⟨bo,0,none⟩,i,0,by rw [zA],sY.grown h7.Ar,B7,(λ p hp=>by cases hp;exact fW),.inl ⟨aU,⟨by simpa using (show l.length=Dl i wd by omega),?_⟩,rfl,rfl⟩⟩;have:=congrArg bl he;rwa [Bn,Bn] at this
  ·exact UnV.bad B7 (λ hh=>he (by have:=hh.2.2;simp only [Ait] at this;rw [this])) (by rw [if_pos aU])
end
def AQ(l:List UInt8)(at_:Nat):Nat->Option (List (List UInt8) × Nat)
 | 0=>some ([],at_)
 | k+1=>match BG l (at_:Int) 1024 with
  | none=>none
  | some x=>(AQ l x.2 k).map λ r=>(x.1 :: r.1,r.2)
theorem Lw{l:List UInt8}{at_:Int}{most:Nat}{s:List UInt8}{k:Nat}(h:BG l at_ most=some (s,k)):k<=l.length:=by
 unfold BG at h;split at h
 ·rename_i x hx;have hb:=AA (n:=x.1) (k:=x.2) hx;split at h
  ·cases h
  ·simp only [AjH,Prod.mk.injEq] at h;omega
 ·cases h
theorem GV{l:List UInt8}:∀ {n at_:Nat} {r:List (List UInt8) × Nat},AQ l at_ n=some r->r.1.length=n
 | 0,_,_,h=>by simp only [AQ,AjH] at h;subst h;rfl
 | n+1,at_,r,h=>by
  unfold AQ at h;split at h
  ·cases h
  ·obtain⟨q,hq,rfl⟩:=AjI.1 h;simp [GV hq]
theorem Lq{l:List UInt8}:∀ {n at_:Nat} {r:List (List UInt8) × Nat},AQ l at_ n=some r->at_<=l.length->r.2<=l.length
 | 0,_,_,h,ha=>by simp only [AQ,AjH] at h;subst h;exact ha
 | n+1,at_,r,h,ha=>by
  unfold AQ at h;split at h
  ·cases h
  ·rename_i x hx;obtain⟨q,hq,rfl⟩:=AjI.1 h;exact Lq (r:=q) hq (Lw (s:=x.1) (k:=x.2) hx)
theorem MB{l:List UInt8}{at_ k:Nat}(hx:BG l (at_:Int) 1024=none):AQ l at_ (k+1)=none:=by
 unfold AQ;rw [hx]
theorem MC{l:List UInt8}{at_ k:Nat}{x:List UInt8 × Nat}(hx:BG l (at_:Int) 1024=some x):AQ l at_ (k+1)=(AQ l x.2 k).map λ r=>(x.1 :: r.1,r.2):=by
 conv=>lhs;unfold AQ
 rw [hx]
def Mh(l:List UInt8)(at_ n:Nat)(w':World)(v:Value):Prop :=
 match AQ l at_ n with
 | none=>v=.tuple #[.slice none 0 0,.int .i64 0,.bool false]
 | some r=>∃ a c,v=.tuple #[.slice a r.1.length c,.int .i64 (r.2:Int),.bool true]/\Rd w' a (strs r.1)
section
variable {w0 w:World}{a:Option Addr}{c:Nat}{l:List UInt8}
theorem Mq(at_:Int):Cw 277 #[.slice a l.length c,.int .i64 at_] w λ v w'=>∃ b1 b2,v=.func (.func 286) #[] #[.pointer (some ⟨b1,0,none⟩),.pointer (some ⟨b2,0,none⟩)] /\
  SH (λ _=>False) w w' [(b2,#[.int .i64 at_],3),(b1,#[.slice a l.length c],77)]:=by
 apply P4
 delta I J N P S;try dsimp only [Ps]
 exact (SH.start (λ _=>False) w).An λ b1 w1 _ _ S1=>S1.An λ b2 w2 _ _ S2=>⟨b1,b2,rfl,S2⟩
theorem Rw{b1 b2 at_ n:Nat}(S:SH (λ _=>False) w0 w [(b2,#[.int .i64 (at_:Int)],3),(b1,#[.slice a l.length c],77)])(hl:Rd w0 a (l.map Ag))(hc:l.length<=c)(hs:l.length<=9223372036854775807)(hn:n<=4096) :
  Cw 286 #[.int .u64 (n:Int),.pointer (some ⟨b1,0,none⟩),.pointer (some ⟨b2,0,none⟩)] w λ v w'=>Mh l at_ n w' v/\Below w0.heap.size w0 w':=by
 apply L4
 delta A Gb D F G H I J Ks Li Ls N O Qsu S Am T U Wu;try dsimp only [Ps]
 refine⟨λ st w1=>∃(i:Nat) (ss:List (List UInt8)) (aX:Nat) (oa:Option Addr) (oc:Nat),st=[.slice oa ss.length oc,.int .u64 (i:Int)]/\i=ss.length/\i<=n/\Row w1 9 1 oa ss.length oc (strs ss) /\
   SH (λ _=>False) w0 w1 [(b2,#[.int .i64 (aX:Int)],3),(b1,#[.slice a l.length c],77)]/\(∀ k,AF oa=some k->w0.heap.size<=k/\k≠b1/\k≠b2) /\
   AQ l at_ n=(AQ l aX (n-i)).map λ r=>(ss++r.1,r.2),λ s _=>match s with
   | [_,.int _ i]=>n-i.toNat
   | _=>0,⟨0,[],at_,none,0,rfl,rfl,Omg,Row.nil _ _ _,S,by simp [AF],Osi⟩,?_⟩
 rintro oa _ oc _ w1 ⟨i,ss,aX,_,_,aA,hi,cG,R1,S1,N1,hT⟩;cases aA;refine Aa (λ aB=>?_) (λ aJ=>?_)
 ·refine⟨_,_,_,S1.cell 1 rfl rfl,_,S1.cell 0 rfl rfl,(Ef (hl.grown S1.below) hc hs (aX:Int) 1024).mono ?_⟩;rintro _ w3 ⟨_,rfl,rfl,rfl⟩;have af:n-i=(n-(i+1))+1:=Omg;rw [af] at hT;cases hx:BG l (aX:Int) 1024 with
  | none =>
   refine⟨_,_,_,rfl,Ai (λ _=>⟨?_,S1.below⟩) (λ h=>absurd h Ode)⟩;rw [MB hx] at hT;unfold Mh;rw [hT];rfl
  | some x =>
   rw [MC hx] at hT;refine⟨_,_,_,rfl,Ai (λ h=>absurd rfl h) (λ _=>S1.An λ jD w4 ku B4 S4=>?_)⟩;have aY:Rd w4 (some ⟨jD,0,none⟩) (strs [x.1]):=by
    have:=Rd.Al (S4.get 0 rfl);simpa [strs] using this
   have l1:=S1.lt (x:=(b2,_,_)) (Ai2 ..);have l2:=S1.lt (x:=(b1,_,_)) (Ai3 _ (Ai2 ..));refine Ek (u:=[x.1]) (R1.grown B4) rfl aY (by simp;omega) λ a5 c5 w5 R5 K5 N5=>⟨_,_,_,rfl,?_⟩;have S5:SH (λ _=>False) w0 w5 [(b2,#[.int .i64 (aX:Int)],3),(b1,#[.slice a l.length c],77)]:=(S4.drop 1).kept K5 (by
    intro y hy hr;simp only [List.drop_succ_cons,List.drop_zero,List.mem_cons,List.not_mem_nil,or_false] at hy;rcases hy with rfl | rfl
    ·exact (N1 _ hr).2.2 rfl
    ·exact (N1 _ hr).2.1 rfl) (λ k hk hr=>by have:=(N1 _ hr).1;omega)
   have N5':∀ k,AF a5=some k->w0.heap.size<=k/\k≠b1/\k≠b2:=by
    intro k hk;have:=B4.size;rcases N5 k hk with h | h
    ·exact N1 k h
    ·have:=S4.below.size;exact⟨Omg,Omg,Omg⟩
   refine S5.Y8 0 rfl (show 0<1 by decide) λ w6 K6 S6=>?_;have R6:=R5.keeps K6 λ k hk he=>(N5' k hk).2.2 he;rw [show IntKind.u64.wrap ((i:Int)+1)=((i+1:Nat):Int) by rw [Aj Omg Omg];omega];refine⟨⟨i+1,ss++[x.1],x.2,a5,c5,rfl,by simp [hi],Omg,R6,S6,N5',?_⟩,?_⟩
   ·rw [hT,Option.map_map];congr 1;funext r;simp
   ·simp only [Ait];omega
 ·have vt:i=n:=Omg;refine S1.EL λ w2 B2 S2=>⟨_,S2.cell 0 rfl rfl,?_,S2.below⟩;have:n-i=0:=Omg;rw [this] at hT;unfold Mh;have e:AQ l at_ n=some (ss,aX):=by rw [hT];simp [AQ]
  rw [e];exact⟨oa,oc,rfl,(R1.grown B2).rd⟩
theorem Pb{at_ n:Nat}(hl:Rd w a (l.map Ag))(hc:l.length<=c)(hs:l.length<=9223372036854775807)(hn:n<=4096)(cV:at_<=9223372036854775807) :
  Cw 241 #[.slice a l.length c,.int .i64 (at_:Int),.int .i64 (n:Int)] w λ v w'=>Mh l at_ n w' v/\Below w.heap.size w w':=by
 apply O3
 delta Gb F G H I J Ks N O J8 S T W;try dsimp only [Ps]
 refine⟨λ st w1=>∃(i:Nat) (ss:List (List UInt8)) (aX:Nat) (oa:Option Addr) (oc:Nat),st=[.int .i64 (aX:Int),.slice oa ss.length oc,.int .i64 (i:Int)]/\i=ss.length/\i<=n/\Row w1 9 1 oa ss.length oc (strs ss) /\
   Below w.heap.size w w1/\(∀ k,AF oa=some k->w.heap.size<=k)/\aX<=9223372036854775807 /\
   AQ l at_ n=(AQ l aX (n-i)).map λ r=>(ss++r.1,r.2),λ s _=>match s with
   | [_,_,.int _ i]=>n-i.toNat
   | _=>0,⟨0,[],at_,none,0,rfl,rfl,Omg,Row.nil _ _ _,.refl _ _,by simp [AF],cV,Osi⟩,?_⟩
 rintro _ oa _ oc _ w1 ⟨i,ss,aX,_,_,aA,hi,cG,R1,B1,N1,kr,hT⟩;cases aA;refine Aa (λ aB=>?_) (λ aJ=>?_)
 ·refine (DU (hl.grown B1) hc hs (aX:Int) Omg 1024).mono ?_;rintro _ w3 ⟨_,rfl,rfl,rfl⟩;have af:n-i=(n-(i+1))+1:=Omg;rw [af] at hT;cases hx:BG l (aX:Int) 1024 with
  | none =>
   refine⟨_,_,_,rfl,Ai (λ _=>⟨?_,B1⟩) (λ h=>absurd h Ode)⟩;rw [MB hx] at hT;unfold Mh;rw [hT];rfl
  | some x =>
   rw [MC hx] at hT;refine⟨_,_,_,rfl,Ai (λ h=>absurd rfl h) (λ _=>(SH.start (λ _=>False) w3).An λ jD w4 ku B4 S4=>?_)⟩;have aY:Rd w4 (some ⟨jD,0,none⟩) (strs [x.1]):=by
    have:=Rd.Al (S4.get 0 rfl);simpa [strs] using this
   refine Ek (u:=[x.1]) (R1.grown B4) rfl aY (by simp;omega) λ a5 c5 w5 R5 K5 N5=>⟨_,_,_,rfl,?_⟩;have C4:=Ac B1 B4;have C5:Below w.heap.size w w5:=C4.trans (K5.below C4.size λ k hk he=>by have:=N1 k he;omega);have N5':∀ k,AF a5=some k->w.heap.size<=k:=by
    intro k hk;rcases N5 k hk with h | h
    ·exact N1 k h
    ·have:=C4.size;omega
   have hle:=Lw (s:=x.1) (k:=x.2) hx;rw [Ae Omg];refine⟨⟨i+1,ss++[x.1],x.2,a5,c5,rfl,by simp [hi],Omg,R5,C5,N5',Omg,?_⟩,?_⟩
   ·rw [hT,Option.map_map];congr 1;funext r;simp
   ·simp only [Ait];omega
 ·have vt:i=n:=Omg;refine⟨?_,B1⟩;have:n-i=0:=Omg;rw [this] at hT;unfold Mh;have e:AQ l at_ n=some (ss,aX):=by rw [hT];simp [AQ]
  rw [e];exact⟨oa,oc,rfl,R1.rd⟩
end
theorem Ze{n:Nat}(h:n<18446744073709551616)(pre b:List UInt8):takeN (pre++(Af n++b)) (pre.length:Int)=some (n,pre.length+(Af n).length):=by
 unfold takeN;rw [if_neg Omg,Ait,AjJ];rw [OQ n 0 0 b (by simpa using h) Omg (by intro;rfl)];simp
theorem AeG{s:ByteArray}(hz:s.size<=1024)(pre b:List UInt8):BG (pre++(Bm s++b)) (pre.length:Int) 1024=some (bl s,pre.length+(Bm s).length):=by
 unfold BG Bm;rw [List.append_assoc,Ze Omg];have hl:=AW s;simp only;rw [if_neg (by simp only [Aiq];omega)];congr 1;have e:pre++(Af s.size++(bl s++b))=(pre++Af s.size)++(bl s++b):=Osi;rw [e,<- Aiq,AjJ,<- hl,List.take_left];simp only [Aiq,AjG]
theorem Lo:∀ {ls:List ByteArray} (hz:∀ s∈ls,s.size<=1024) (pre b:List UInt8),AQ (pre++(BU ls++b)) pre.length ls.length=some (ls.map bl,pre.length+(BU ls).length)
 | [],_,pre,b=>by simp [AQ,BU]
 | s :: ls,hz,pre,b=>by
  have e:pre++(BU (s :: ls)++b)=pre++(Bm s++(BU ls++b)):=by simp [BU]
  have e2:pre++(Bm s++(BU ls++b))=(pre++Bm s)++(BU ls++b):=Osi;rw [Ais];unfold AQ;rw [e,AeG (hz s (Ai2 ..))];simp only;rw [e2,<- Aiq,Lo (λ x hx=>hz x (Ai3 _ hx))];simp [BU,AjG]
theorem H0{xs:List Nat}{w:Nat}(hx:∀ x∈xs,x<2 ^ w):BL (AZ xs w) xs.length w=xs:=by
 apply List.ext_getElem
 ·simp [BL]
 ·intro i h1 h2;have e:(BL (AZ xs w) xs.length w)[i]=PC (Dq (AZ xs w)) w (xs.length*w) i:=by simp [BL]
  rw [e];have dM:=hx _ (Ai7 h2);by_cases hw:0<w
  case neg =>
   have:w=0:=Omg;subst this;have h0:xs[i]=0:=by simpa using dM
   simp [PC,h0]
  apply Nat.eq_of_testBit_eq;intro k;rw [SM _ hw];by_cases hk:k<w
  ·have pC:i*w+k<xs.length*w:=by
    have:(i+1)*w<=xs.length*w:=Nat.mul_le_mul_right _ h2;rw [AjF] at this;omega
   have ja:(i*w+k) / w=i:=by
    rw [AiF,Nat.mul_add_div Omg,Nat.div_eq_of_lt hk,Nat.add_zero]
   have gC:(i*w+k) % w=k:=by
    rw [AiF,Nat.mul_add_mod,Nat.mod_eq_of_lt hk]
   have hj:(i*w+k) / 8<Dl xs.length w:=by unfold Dl;omega
   have hb:Dq (AZ xs w) (i*w+k)=Eh xs w (i*w+k):=by
    unfold Dq;have:(AZ xs w).getD ((i*w+k) / 8) 0=Aiz (SL (Eh xs w) (xs.length*w) ((i*w+k) / 8)):=by
     simp [List.getD,TW hj]
    rw [this,TV (AiR _ Omg),show (i*w+k) / 8*8+(i*w+k) % 8=i*w+k by omega];simp [pC]
   rw [hb];unfold Eh;rw [ja,gC];simp [hk,pC,h2]
  ·rw [Nat.testBit_lt_two_pow (Aid dM (AiL Omg (Nat.le_of_not_lt hk)))];simp [hk]
def Zc(many:Nat)(ts:List (List UInt8))(xs:List Nat):Option (List (List UInt8)):=if ∀ p∈xs,p<many then some (xs.map λ p=>ts.getD p []) else none
def BS(l:List UInt8)(n:Nat):Option (List (List UInt8)) :=
 (takeN l 1).bind λ x=>if n<x.1 then none else (AQ l x.2 x.1).bind λ y=>if l.length<=y.2 then none else
  if Gm (n:Int) ((l.getD y.2 0).toNat:Int)/\QY (l.drop (y.2+1)) n (l.getD y.2 0).toNat then Zc x.1 y.1 (BL (l.drop (y.2+1)) n (l.getD y.2 0).toNat) else none
theorem VQ{t:List (List UInt8)}{ls:List ByteArray}(ht:D6 (ls.map bl) t):∀ x∈A4 t ls,x<t.length:=by
 intro x hx;obtain⟨s,hs,rfl⟩:=Ah9.1 hx;exact List.idxOf_lt_length_of_mem ((ht.mem _).2 (Ah9.2 ⟨s,hs,rfl⟩))
theorem YM{t:List (List UInt8)}{ls:List ByteArray}(ht:D6 (ls.map bl) t):t.length<=ls.length:=by
 have:=G8 (Gf ht.up) (λ x hx=>(ht.mem x).1 hx);simpa using this
theorem AfQ{t:List (List UInt8)}{ls:List ByteArray}{w:Nat}(ht:D6 (ls.map bl) t)(hn:ls.length<=4096)(hw:Dt (HL (A4 t ls)) w):w<=13 :=
 hw.le.2 ((Hr _ _).2 λ x hx=>by have:=VQ ht x hx;have:=YM ht;omega)
theorem Zd{ls:List ByteArray}{b:List UInt8}(aK:EM 1 ls)(h:FK ls 1 b):BS b ls.length=some (ls.map bl):=by
 cases h with
 | table t w ht hw =>
 obtain⟨_,_,hn,cj⟩:=aK;have hz:=Ge cj;have fD:=YM ht;have k8:∀ s∈t.map Bu,s.size<=1024:=by
  intro s hs;obtain⟨x,hx,rfl⟩:=Ah9.1 hs;obtain⟨s',bR,rfl⟩:=Ah9.1 ((ht.mem x).1 hx);rw [DP];exact hz s' bR
 have rK:=AfQ ht hn hw;have bM:=(Hr _ _).1 hw.1;obtain⟨xs,bU⟩:∃ xs,xs=A4 t ls:=⟨_,rfl⟩;have dE:xs.length=ls.length:=by rw [bU];simp [A4]
 rw [<- bU] at bM ⊢;have e1:(1 :: Af t.length)++(BU (t.map Bu)++(Aiz w :: AZ xs w))=[1]++(Af t.length++(BU (t.map Bu)++(Aiz w :: AZ xs w))):=Osi;have e2:[1]++(Af t.length++(BU (t.map Bu)++(Aiz w :: AZ xs w)))=([1]++Af t.length)++(BU (t.map Bu)++(Aiz w :: AZ xs w)):=Osi;obtain⟨b,hb⟩:∃ b,b=(1 :: Af t.length)++(BU (t.map Bu)++(Aiz w :: AZ xs w)):=⟨_,rfl⟩;have h1:takeN b 1=some (t.length,1+(Af t.length).length):=by
  rw [hb,e1];exact Ze Omg [1] _
 have h2:AQ b (1+(Af t.length).length) t.length=some (t,1+(Af t.length).length+(BU (t.map Bu)).length):=by
  have h:=Lo k8 ([1]++Af t.length) (Aiz w :: AZ xs w);rw [<- e2,<- e1,<- hb] at h;simp only [Aiq,Ais,AjE,AiH] at h;rw [show 0+1+(Af t.length).length=1+(Af t.length).length by omega] at h;rw [h];have:(t.map Bu).map bl=t:=by
   rw [List.map_map];have:(bl ∘ Bu)=id:=by funext x;exact Bn x
   rw [this,List.map_id]
  rw [this]
 obtain⟨q,hq⟩:∃ q,q=1+(Af t.length).length+(BU (t.map Bu)).length:=⟨_,rfl⟩;have e3:b=((1 :: Af t.length)++BU (t.map Bu))++(Aiz w :: AZ xs w):=by rw [hb];simp
 have iV:q=((1 :: Af t.length)++BU (t.map Bu)).length:=by rw [hq];simp;omega
 have hlen:b.length=q+1+(AZ xs w).length:=by rw [e3,Aiq,<- iV,Ais];omega
 have hg:b.getD q 0=Aiz w:=by
  rw [e3,iV];simp [List.getD]
 have hd:b.drop (q+1)=AZ xs w:=by
  rw [e3,iV,<- List.drop_drop,AjJ];rfl
 have hwN:(Aiz w).toNat=w:=EC Omg;rw [<- hq] at h2;rw [<- hb];simp only [BS,h1,h2,Option.bind_some,hg,hd,hwN];rw [if_neg Omg,if_neg Omg];have mE:BL (AZ xs w) ls.length w=xs:=by rw [<- dE];exact H0 bM
 have bh:Gm (ls.length:Int) (w:Int)/\QY (AZ xs w) ls.length w:=by
  refine⟨⟨Omg,Omg,Omg,Omg⟩,?_,?_⟩
  ·rw [BP,dE]
  ·rw [mE]
 rw [if_pos bh,mE];unfold Zc;rw [if_pos (by rw [bU];exact VQ ht),bU];congr 1;unfold A4;rw [List.map_map];apply List.map_congr_left;intro s hs;have hm:bl s∈t:=(ht.mem _).2 (Ah9.2 ⟨s,hs,rfl⟩);have hi:=List.idxOf_lt_length_of_mem hm;simp only [Function.comp];simp [List.getD,hi,List.getElem_idxOf]
theorem YG{ls:List ByteArray}{b:List UInt8}(aK:EM 0 ls)(h:FK ls 0 b):(AQ b 1 ls.length).map (·.1)=some (ls.map bl):=by
 cases h with
 | plain =>
 have h:=Lo (Ge aK.2.2.2) [0] [];simp only [List.append_nil] at h;have e:[0]++BU ls=0 :: BU ls:=rfl;rw [e] at h;have e1:([0]:List UInt8).length=1:=rfl;rw [e1] at h;rw [h];rfl
structure HR(l:List UInt8)(n:Nat)(ls:List ByteArray):Prop where
 len:ls.length=n
 ok:EM ((l.getD 0 0).toNat:Int) ls
 enc:FK ls ((l.getD 0 0).toNat:Int) l
def GG(l:List UInt8)(n:Nat):Option (List (List UInt8)):=if l.getD 0 0=0 then (AQ l 1 n).map (·.1) else BS l n
theorem HR.reads{l:List UInt8}{n:Nat}{ls:List ByteArray}(h:HR l n ls):GG l n=some (ls.map bl):=by
 obtain⟨rfl,ok,enc⟩:=h;unfold GG;by_cases h0:l.getD 0 0=0
 ·rw [if_pos h0];rw [h0] at ok enc;exact YG ok enc
 ·rw [if_neg h0];have h1:((l.getD 0 0).toNat:Int)=1:=by
   have h2:=ok.1;have h3:=ok.2.1;have:(l.getD 0 0).toNat≠0:=λ h=>h0 (UInt8.toNat_inj.1 h);omega
  rw [h1] at ok enc;exact Zd ok enc
theorem HR.one{l:List UInt8}{n:Nat}{ls ms:List ByteArray}(h:HR l n ls)(h':HR l n ms):ls=ms:=by
 have:=Option.some.inj (h.reads.symm.trans h'.reads);have:=congrArg (List.map Bu) this;rwa [Hp,Hp] at this
theorem AaA{l:List UInt8}{n:Nat}{ms:List (List UInt8)}(h:BS l n=some ms):ms.length=n:=by
 unfold BS at h;obtain⟨x,_,h⟩:=Option.bind_eq_some_iff.1 h;split at h
 ·cases h
 ·obtain⟨y,_,h⟩:=Option.bind_eq_some_iff.1 h;split at h
  ·cases h
  ·split at h
   ·unfold Zc at h;split at h
    ·cases h;simp [BL]
    ·cases h
   ·cases h
theorem VT{l:List UInt8}{n:Nat}{ms:List (List UInt8)}(h:GG l n=some ms):ms.length=n:=by
 unfold GG at h;split at h
 ·obtain⟨r,hr,rfl⟩:=AjI.1 h;exact GV hr
 ·exact AaA h
structure UF(B:Nat)(w:World)(ns:List Int)(na:Option Addr)(nc:Nat)(ss:List ByteArray)(sa:Option Addr)(sc:Nat):Prop where
 rn:Row w 2 1 na ns.length nc (ns.map Ep)
 rs:Row w 9 1 sa ss.length sc (ss.map Value.string)
 nn:∀ x,AF na=some x->B<=x
 sn:∀ x,AF sa=some x->B<=x
 ne:∀ x,AF na=some x->AF sa≠some x
theorem UF.nil(B:Nat)(w:World):UF B w [] none 0 [] none 0:=⟨Row.nil _ _ _,Row.nil _ _ _,by simp [AF],by simp [AF],by simp [AF]⟩
section
variable {B:Nat}{w w':World}{ns:List Int}{na:Option Addr}{nc:Nat}{ss:List ByteArray}{sa:Option Addr}{sc:Nat}
theorem UF.keeps(h:UF B w ns na nc ss sa sc){F:Nat->Prop}(K:Ak F w w')(hF:∀ x,F x->x<B\/w.heap.size<=x):UF B w' ns na nc ss sa sc :=
 ⟨h.rn.keeps K λ x hx hf=>by have:=h.nn x hx;have:=h.rn.lt hx;have:=hF x hf;omega,h.rs.keeps K λ x hx hf=>by have:=h.sn x hx;have:=h.rs.lt hx;have:=hF x hf;omega,h.nn,h.sn,h.ne⟩
theorem UF.grown(h:UF B w ns na nc ss sa sc)(hb:Below w.heap.size w w'):UF B w' ns na nc ss sa sc:=h.keeps (F:=λ _=>False) (Ak.AB hb) Osi
theorem AhV:Me Tryz.prog 103=some (2,1,8,.int .i64 0):=by kernel_rfl
theorem UF.Ae5(h:UF B w ns na nc ss sa sc)(hB:B<=w.heap.size)(hl:ns.length<=1000000){x:Int}{b:Nat}{t:TypeId}(hb:w.heap[b]?=some (.cells #[Ep x] t (0,0))){f:Value->World->Prop}
  (hf:∀ a' c' w',UF B w' (ns++[x]) a' c' ss sa sc->Ak (λ k=>AF na=some k) w w'->f (.slice a' (ns++[x]).length c') w'):De Tryz.prog (Builtin.append_ #[103,103] 103 #[.slice na ns.length nc,.slice (some ⟨b,0,none⟩) 1 1]) f w:=by
 have aY:Rd w (some ⟨b,0,none⟩) ([x].map Ep):=by
  have:=Rd.Al hb;simpa using this
 obtain⟨a5,c5,w2,aG,aI,cw,hnw⟩:=BV (ty:=103) (mc:=1) AhV rfl Omg Omg h.rn aY (m:=1) rfl (by simp [Ep];rfl) Omg;unfold De;rw [aG];have e:ns.length+1=(ns++[x]).length:=Osi;rw [e] at aI ⊢;refine hf a5 c5 w2 ⟨by rw [List.map_append];exact aI,h.rs.keeps cw λ k hk hr=>h.ne k hr hk,λ k hk=>?_,h.sn,λ k hk hs=>?_⟩ cw
 ·rcases hnw k hk with h1 | h1
  ·exact h.nn k h1
  ·omega
 ·rcases hnw k hk with h1 | h1
  ·exact h.ne k h1 hs
  ·have:=h.rs.lt hs;omega
theorem UF.Ae6(h:UF B w ns na nc ss sa sc)(hB:B<=w.heap.size)(hl:ss.length<=1000000){x:ByteArray}{b:Nat}{t:TypeId}(hb:w.heap[b]?=some (.cells #[.string x] t (0,0))){f:Value->World->Prop}
  (hf:∀ a' c' w',UF B w' ns na nc (ss++[x]) a' c'->Ak (λ k=>AF sa=some k) w w'->f (.slice a' (ss++[x]).length c') w'):De Tryz.prog (Builtin.append_ #[50,50] 50 #[.slice sa ss.length sc,.slice (some ⟨b,0,none⟩) 1 1]) f w:=by
 have aY:Rd w (some ⟨b,0,none⟩) ([x].map Value.string):=by
  have:=Rd.Al hb;simpa using this
 obtain⟨a5,c5,w2,aG,aI,cw,hnw⟩:=BV (ty:=50) (mc:=1) tS rfl Omg Omg h.rs aY (m:=1) rfl (by simp;rfl) Omg;unfold De;rw [aG];have e:ss.length+1=(ss++[x]).length:=Osi;rw [e] at aI ⊢;refine hf a5 c5 w2 ⟨h.rn.keeps cw λ k hk hr=>h.ne k hk hr,by rw [List.map_append];exact aI,h.nn,λ k hk=>?_,λ k hk hs=>?_⟩ cw
 ·rcases hnw k hk with h1 | h1
  ·exact h.sn k h1
  ·omega
 ·rcases hnw k hs with h1 | h1
  ·exact h.ne k hk h1
  ·have:=h.rn.lt hk;omega
end
def CK(ls:List AD):List Int:=(AV ls).map (·.2.1)
def BC(ls:List AD):List ByteArray:=(AV ls).map (·.2.2)
theorem IJ(ls:List AD):(CK ls).length<=ls.length:=by unfold CK AV;rw [AiH];exact List.length_filter_le ..
theorem F5(ls:List AD):(BC ls).length<=ls.length:=by unfold BC AV;rw [AiH];exact List.length_filter_le ..
theorem Qn{ls:List AD}{i:Nat}(hi:i<ls.length):(ls[i].1=0->CK (ls.take (i+1))=CK (ls.take i)/\BC (ls.take (i+1))=BC (ls.take i)) /\
  (ls[i].1≠0->CK (ls.take (i+1))=CK (ls.take i)++[ls[i].2.1]/\BC (ls.take (i+1))=BC (ls.take i)++[ls[i].2.2]):=by
 unfold CK BC;rw [CM hi];constructor
 ·intro h;simp [h]
 ·intro h;simp [h]
inductive DR (kind:Int) (ls:List AD):List UInt8->Prop
 | text (h:kind=3) (b0 b1:List UInt8) (h0:FK (BC ls) 0 b0) (h1:FK (BC ls) 1 b1):DR kind ls (if b1.length<b0.length then b1 else b0)
 | num (h:kind≠3):DR kind ls (DA (Ta (CK ls)) (CK ls))
theorem DR.one{kind:Int}{ls:List AD}{b c:List UInt8}(h:DR kind ls b)(h':DR kind ls c):b=c:=by
 cases h with
 | text h b0 b1 h0 h1 =>
  cases h' with
  | text k c0 c1 k0 k1=>rw [h0.one k0,h1.one k1]
  | num k=>exact absurd h k
 | num h =>
  cases h' with
  | text k c0 c1 k0 k1=>exact absurd k h
  | num k=>rfl
structure Bb(kind:Int)(ls:List AD):Prop where
 right:DF kind ls=true
 ok:∀ v∈ls,BM v
theorem Bb.len{kind:Int}{ls:List AD}(h:Bb kind ls):ls.length<=1024:=by
 have:=h.right;simp [DF] at this;omega
theorem Bb.kind{kind:Int}{ls:List AD}(h:Bb kind ls):1<=kind/\kind<=3:=by
 have:=h.right;simp [DF] at this;omega
theorem Bb.all{kind:Int}{ls:List AD}(h:Bb kind ls):∀ v∈ls,okV kind v=true:=by
 have:=h.right;simp only [DF,Ah1,Ai1] at this;exact this.1
theorem Bb.Acu{kind:Int}{ls:List AD}(h:Bb kind ls):∀ x∈CK ls,E9 x:=by
 intro x hx;obtain⟨v,hv,rfl⟩:=Ah9.1 hx;have:=h.ok v (List.mem_filter.1 hv).1;exact⟨this.lo,this.hi⟩
theorem Bb.texts{kind:Int}{ls:List AD}(h:Bb kind ls):JK (BC ls)=false:=by
 unfold JK;rw [List.any_eq_false];intro s hs;obtain⟨v,hv,rfl⟩:=Ah9.1 hs;have:=h.all v (List.mem_filter.1 hv).1;simp only [okV,Ah1] at this;have hr:=this.1;simp only [decide_eq_true_eq];unfold AK at hr;have hE:∀ s:ByteArray,s=E0->s.size=0:=by rintro s rfl;rfl
 split at hr
 ·simp at hr;have:=hE _ hr.2;omega
 ·split at hr
  ·simp at hr;have:=hE _ hr;omega
  ·split at hr
   ·simp at hr;have:=hE _ hr.2;omega
   ·split at hr
    ·simp at hr;omega
    ·cases hr
theorem Bb.enc{kind:Int}{ls:List AD}(h:Bb kind ls)(f:Int)(hf:0<=f/\f<=1):EM f (BC ls):=⟨hf.1,hf.2,by have:=F5 ls;have:=h.len;omega,h.texts⟩
theorem FK.len{f:Int}{ls:List ByteArray}{b:List UInt8}(aK:EM f ls)(h:FK ls f b):b.length<=60000+ls.length*1034:=by
 obtain⟨_,_,hn,cj⟩:=aK;have hz:=Ge cj;cases h with
 | plain =>
  have:=FX hz;simp only [Ais];omega
 | table t w ht hw =>
  have fD:t.length<=ls.length:=by
   have:=G8 (Gf ht.up) (λ x hx=>(ht.mem x).1 hx);simpa using this
  have k8:∀ s∈t.map Bu,s.size<=1024:=by
   intro s hs;obtain⟨x,hx,rfl⟩:=Ah9.1 hs;obtain⟨s',bR,rfl⟩:=Ah9.1 ((ht.mem x).1 hx);rw [DP];exact hz s' bR
  have l1:=FX k8;rw [AiH] at l1;have l2:=Ah (n:=t.length) Omg;have rK:w<=13:=hw.le.2 ((Hr _ _).2 λ x hx=>by
   obtain⟨s,hs,rfl⟩:=Ah9.1 hx;have:=List.idxOf_le_length (l:=t) (a:=bl s);omega)
  have bM:(A4 t ls).length=ls.length:=by simp [A4]
  have l3:(A4 t ls).length*w<=4096*13:=Ajf Omg rK;simp only [Aiq,Ais,BP];unfold Dl;omega
theorem DR.len{kind:Int}{ls:List AD}{b:List UInt8}(hg:Bb kind ls)(h:DR kind ls b):b.length<=2000000:=by
 have l1:=F5 ls;have l2:=IJ ls;have l3:=hg.len;cases h with
 | text h b0 b1 h0 h1 =>
  have k0:=h0.len (hg.enc 0 Omg);have k1:=h1.len (hg.enc 1 Omg);split <;> omega
 | num h =>
  have:=Ach (Ta (CK ls)) Omg hg.Acu;omega
section
variable {w:World}{a:Option Addr}{c:Nat}{ls:List AD}
theorem R9{kind:Int}(hg:Bb kind ls)(hl:Rd w a (AR ls)) :
  Cw 144 #[.int .i64 kind,.slice a ls.length c] w λ v w'=>∃ b a' c',v=.slice a' b.length c'/\DR kind ls b/\Bj w w' b a' c':=by
 have hlen:=hg.len;apply Ns
 delta LV AM F I J Ks Li Lt N O AbO S T W X;try dsimp only [Ps]
 refine⟨λ s w1=>∃(i:Nat) (na:Option Addr) (nc:Nat) (sa:Option Addr) (sc:Nat),s=[.slice na (CK (ls.take i)).length nc,.slice sa (BC (ls.take i)).length sc,.int .i64 (i:Int)]/\i<=ls.length/\UF w.heap.size w1 (CK (ls.take i)) na nc (BC (ls.take i)) sa sc/\Below w.heap.size w w1,λ s _=>match s with
   | [_,_,.int _ i]=>ls.length-i.toNat
   | _=>0,⟨0,none,0,none,0,rfl,Omg,UF.nil _ _,.refl _ _⟩,?_⟩
 rintro na _ nc sa _ sc _ w1 ⟨i,_,_,_,_,aA,hi,hT,B1⟩;cases aA;have cP:ls.length-(IntKind.i64.wrap ((i:Int)+1)).toNat<ls.length-((i:Nat):Int).toNat\/¬ i<ls.length:=by
  by_cases h:i<ls.length
  ·left;rw [Ae Omg];simp only [Ait];omega
  ·exact .inr h
 refine Aa (λ aB=>⟨⟨Omg,aB⟩,?_⟩) (λ aJ=>?_)
 ·have aD:i<ls.length:=Omg;have cP:=cP.resolve_right Omg;obtain⟨p,rfl,c0,c1,c2⟩:=Db (hl.grown B1) aD;obtain⟨t0,t1⟩:=Qn aD;refine⟨_,by rw [Ait];exact c0,Ai (λ aQ=>⟨⟨Omg,aB⟩,_,by rw [Ait];exact c1,(SH.start (λ _=>False) w1).An λ b2 w2 cW B2 S2=>?_⟩) (λ hz=>?_)⟩
  ·obtain⟨e1,e2⟩:=t1 aQ;have C2:=Ac B1 B2;have fB:=IJ (ls.take i);have iA:=F5 (ls.take i);rw [Ajm] at fB iA;refine (hT.grown B2).Ae5 C2.size Omg (S2.get 0 rfl) λ a3 c3 w3 h3 K3=>⟨_,_,_,rfl,⟨Omg,aB⟩,?_⟩;have C3:Below w.heap.size w w3:=C2.trans (K3.below C2.size λ k hk he=>by have:=hT.nn k he;omega);obtain⟨p',hp',_,_,il⟩:=Db (hl.grown C3) aD;cases hp';refine⟨_,by rw [Ait];exact il,(SH.start (λ _=>False) w3).An λ b4 w4 kM B4 S4=>?_⟩;have C4:=Ac C3 B4;refine (h3.grown B4).Ae6 C4.size Omg (S4.get 0 rfl) λ a5 c5 w5 h5 K5=>⟨_,_,_,rfl,?_⟩;refine⟨⟨i+1,a3,c3,a5,c5,?_,Omg,by rw [e1,e2];exact h5,C4.trans (K5.below C4.size λ k hk he=>by have:=hT.sn k he;omega)⟩,cP⟩;rw [e1,e2,Ae Omg]
  ·obtain⟨e1,e2⟩:=t0 hz;refine⟨⟨i+1,na,nc,sa,sc,?_,Omg,by rw [e1,e2];exact hT,B1⟩,cP⟩;rw [e1,e2,Ae Omg]
 ·have bK:ls.take i=ls:=AiZ Omg;rw [bK] at hT ⊢;have iv:(BC ls).length<=9223372036854775807:=by have:=F5 ls;omega
  have qx:(CK ls).length<=4096:=by have:=IJ ls;omega
  refine Ap (λ h3=>?_) (λ h3=>?_)
  ·refine (YI hT.rs.rd iv).mono ?_;rintro _ eU ⟨_,rfl,hB,fx⟩;rcases hB with ⟨aP,_⟩ | ⟨b0,b1,h0,h1,_,rfl⟩
   ·exact absurd (hg.enc 0 Omg) aP
   refine⟨_,_,rfl,?_⟩;have hf:0<=(if b1.length<b0.length then (1:Int) else 0)/\(if b1.length<b0.length then (1:Int) else 0)<=1:=by split <;> omega
   refine (F8 _ (hT.rs.rd.grown fx) iv).mono ?_;rintro _ kW ⟨_,rfl,hE⟩;rcases hE with ⟨aP,_⟩ | ⟨_,b,a,c,hE,rfl,hN⟩
   ·exact absurd (hg.enc _ hf) aP
   refine⟨_,_,_,_,rfl,b,a,c,rfl,?_,hN.before (Ac B1 fx)⟩;have:=DR.text (kind:=kind) (ls:=ls) h3 b0 b1 h0 h1;split at hE
   ·rename_i aB;rw [if_pos aB] at this;rw [hE.one h1];exact this
   ·rename_i aB;rw [if_neg aB] at this;rw [hE.one h0];exact this
  ·refine (QN hT.rn.rd qx hg.Acu).mono ?_;rintro _ eU ⟨_,rfl,rfl,fx⟩;refine⟨_,_,rfl,(Fe _ (hT.rn.rd.grown fx) hg.Acu).mono ?_⟩;rintro _ kW ⟨_,rfl,hE⟩;obtain⟨a,c,rfl,hN⟩:=JE.DN (Od _) qx hE;exact⟨_,_,_,_,rfl,_,a,c,rfl,.num h3,hN.before (Ac B1 fx)⟩
end
end Go.Proofs.YtpnaifmmggnimaaGreatDoor
