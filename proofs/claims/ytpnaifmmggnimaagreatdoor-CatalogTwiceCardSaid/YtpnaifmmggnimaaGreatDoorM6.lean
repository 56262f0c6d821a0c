/-
  Texts of this claim, laid one behind the other by a program of mine (install.py): G.Sch6, G.VLay, G.VTake0, G.VLay2, G.TakeS, G.VTake, G.VTake2, G.VTake3, Dn.St, G.Sch7, G.Sch8, G.Unpack, G.Unpack2, G.Take, G.DecLaw, G.Ch2.
-/
import Derived.Test.YtpnaifmmggnimaaGreatDoorM4
import Derived.Test.YtpnaifmmggnimaaGreatDoorM5
import Derived.Test.YtpnaifmmggnimaaGreatDoorM1
import Derived.Test.YtpnaifmmggnimaaGreatDoorM3
namespace Go.Proofs.YtpnaifmmggnimaaGreatDoor
open _root_.Bool renaming and_false -> Amm
open _root_.Int renaming toNat_natCast -> Ale
open _root_.List renaming flatMap_cons -> Aml, getElem_mem -> AlS, mem_map -> AkU
open _root_.Nat renaming lt_or_ge -> AlR
set_option maxRecDepth 100000
open Go.Dn Go.Proofs
open Go.RowKit (Below)
set_option linter.unusedVariables false
theorem Px{α:Type}{g:α->List Value}{n:Nat}(hg:∀ x,(g x).length=n):∀(ls:List α) (i j:Nat) (hi:i<ls.length),j<n->(ls.flatMap g)[i*n+j]?=(g ls[i])[j]?
 | [],i,j,hi,_=>by simp at hi
 | v :: ls,0,j,_,hj=>by
  simp only [Aml,Nat.zero_mul,Nat.zero_add,List.getElem_cons_zero];rw [List.getElem?_append_left (by rw [hg];exact hj)]
 | v :: ls,i+1,j,hi,hj=>by
  simp only [Aml,List.getElem_cons_succ];have e:(i+1)*n+j=n+(i*n+j):=by rw [Nat.add_mul];omega
  rw [e,List.getElem?_append_right (by rw [hg];omega),hg,Nat.add_sub_cancel_left];exact Px hg ls i j (by simpa using hi) hj
theorem Agl{α:Type}{g:α->List Value}{n:Nat}(hg:∀ x,(g x).length=n)(ls:List α):(ls.flatMap g).length=ls.length*n:=by
 induction ls with
 | nil=>simp
 | cons v ls ih=>rw [Aml,List.length_append,ih,hg,List.length_cons,Nat.add_mul];omega
abbrev BQ:=ByteArray × Int × Bool
def V3(c:BQ):List Value:=[.string c.1,.int .i64 c.2.1,.bool c.2.2]
abbrev BM(cs:List BQ):List Value:=cs.flatMap V3
theorem Pk(c:BQ):(V3 c).length=3:=rfl
theorem Aga(cs:List BQ):(BM cs).length=cs.length*3:=Agl Pk cs
theorem FQ{w:World}{a:Option Addr}{cs:List BQ}(hl:Rd w a (BM cs)){i:Nat}(hi:i<cs.length):∃ p,a=some p/\w.cell? (p.add (i*3))=some (.string cs[i].1)/\w.cell? ((p.add (i*3)).add 1)=some (.int .i64 cs[i].2.1)/\w.cell? ((p.add (i*3)).add 2)=some (.bool cs[i].2.2):=by
 obtain⟨p,hp,h0⟩:=hl (i*3+0) _ (by rw [Px Pk cs i 0 hi (by omega)];rfl);obtain⟨p1,hp1,h1⟩:=hl (i*3+1) _ (by rw [Px Pk cs i 1 hi (by omega)];rfl);obtain⟨p2,gm,h2⟩:=hl (i*3+2) _ (by rw [Px Pk cs i 2 hi (by omega)];rfl);subst hp;cases hp1;cases gm;exact⟨p,rfl,h0,by rw [BH];exact h1,by rw [BH];exact h2⟩
def FP(c:BQ):Bool:=Fw c.1 && decide (1<=c.2.1/\c.2.1<=3)
def Ap(cs:List BQ):Bool:=decide (1<=cs.length/\cs.length<=16) && cs.all FP && decide ((cs.map (·.1)).Nodup)
theorem Xo{cs:List BQ}{i:Nat}(hi:i<cs.length)(h:FP cs[i]=false\/cs[i].1∈(cs.take i).map (·.1)):Ap cs=false:=by
 rcases h with h | h
 ·have:cs.all FP=false:=by
   rw [List.all_eq_false];exact⟨_,AlS hi,by simp [h]⟩
  simp [Ap,this]
 ·have:¬ (cs.map (·.1)).Nodup:=by
   intro hn;obtain⟨j,hj,he⟩:=List.getElem_of_mem h;simp only [List.length_take,List.length_map] at hj;have dU:j<i:=by omega
   have:=(List.pairwise_iff_getElem.1 hn) j i (by simp;omega) (by simpa using hi) dU;apply this;simp only [List.getElem_take,List.getElem_map] at he ⊢;exact he
  simp [Ap,this]
theorem Xn{cs:List BQ}(h:∀ i (hi:i<cs.length),FP cs[i]=true/\cs[i].1∉(cs.take i).map (·.1)):Ap cs=decide (1<=cs.length/\cs.length<=16):=by
 have h1:cs.all FP=true:=by
  rw [List.all_eq_true];intro c hc;obtain⟨i,hi,rfl⟩:=List.getElem_of_mem hc;exact (h i hi).1
 have h2:(cs.map (·.1)).Nodup:=by
  refine List.pairwise_iff_getElem.2 λ i j hi hj dO=>?_;have qF:j<cs.length:=by simpa using hj
  intro he;apply (h j qF).2;refine List.mem_iff_getElem.2 ⟨i,by simp;omega,?_⟩;simp only [List.getElem_take,List.getElem_map] at he ⊢;exact he
 simp [Ap,h1,h2]
section
variable {w:World}{a:Option Addr}{c:Nat}{cs:List BQ}
theorem AbF:Tryz.prog.underlying ty.bool=some .bool:=by kernel_rfl
theorem AbG:Tryz.prog.underlying ty.GX=some (.map ty.string ty.bool):=by kernel_rfl
theorem AfG(w:World):(zeroValue ty.bool).run Tryz.prog w=.ok (.bool false) w:=by
 have h:(Tryz.prog.info? ty.bool).bind (·.zero)=some (.bool false):=by kernel_rfl
 cases hi:Tryz.prog.info? ty.bool with
 | none=>rw [hi] at h;cases h
 | some i =>
  rw [hi] at h;have hz:i.zero=some (.bool false):=h;simp [zeroValue,typeInfo,hi,hz]
abbrev AiP(w:World)(b n:Nat)(g:List UInt8->Bool):Prop:=XP Tryz.prog ty.string ty.bool w b n g
theorem AgN{w:World}{f:Value->World->Prop}(hf:∀ b w',w.heap.size<=b->Below w.heap.size w w'->AiP w' b 0 (λ _=>false)->f (.map (some b)) w'):DB Tryz.prog (Instr.makeMap ty.GX none) f w:=by
 unfold DB;rw [show (Instr.makeMap ty.GX none).run Tryz.prog w=.ok (.map (some w.heap.size)) (w.alloc (.map #[] 0)) from rfl];exact hf _ _ (Nat.le_refl _) ((Below.refl _ w).alloc (Nat.le_refl _) _) ⟨_,World.ownsMap_made _ _ _ _,Maps.tidy_empty,λ x=>rfl⟩
def inN(cs:List BQ)(i:Nat)(x:List UInt8):Bool:=decide (x∈((cs.take i).map (·.1)).map bl)
theorem Agw{i:Nat}(hi:i<cs.length):(λ y=>if y=bl cs[i].1 then true else inN cs i y)=inN cs (i+1):=by
 funext y;unfold inN;rw [List.take_succ_eq_append_getElem hi,List.map_append,List.map_append];by_cases h1:y=bl cs[i].1
 ·simp [h1]
 ·simp [h1]
theorem AdH{i:Nat}(hi:i<cs.length):inN cs i (bl cs[i].1)=true↔cs[i].1∈(cs.take i).map (·.1):=by
 unfold inN;rw [decide_eq_true_eq,AkU];constructor
 ·rintro⟨s,hs,he⟩;rw [<- QP he];exact hs
 ·intro h;exact⟨_,h,rfl⟩
theorem Rk:maxLen=9223372036854775807:=rfl
theorem Ee(hl:Rd w a (BM cs))(hn:cs.length<=9223372036854775807)(hq:∀ c∈cs,c.1.size<=9223372036854775807) :
  Calls Tryz.prog f.YZ #[.slice a cs.length c] w (AG λ r w'=>r=.bool (Ap cs)/\Below w.heap.size w w'):=by
 apply R.OH
 delta R.A R.Ab R.Cb R.F R.G R.I R.Lb R.Li R.Lt R.M R.N R.Qi R.Rb R.Rm R.Am R.T R.W R.X;try dsimp only [R.Ps]
 refine AgN λ b w1 hb B1 hM1=>?_;refine⟨_,rfl,λ st w2=>∃ i:Nat,st=[.int .i64 (i:Int)]/\i<=cs.length/\(∀ j (hj:j<cs.length),j<i->FP cs[j]=true/\cs[j].1∉(cs.take j).map (·.1))/\AiP w2 b i (inN cs i)/\Below w.heap.size w w2,
  λ st _=>match st with | [.int _ t]=>cs.length-t.toNat | _=>0,⟨0,rfl,by omega,λ j _ hj=>by omega,hM1,B1⟩,?_⟩
 rintro t w2 ⟨i,aA,hi,aF,hM,C2⟩;cases aA;refine Aa (λ aB=>⟨⟨by omega,aB⟩,?_⟩) (λ aI=>?_)
 ·have aD:i<cs.length:=by omega
  have aw:=hq _ (AlS aD);obtain⟨p,rfl,c0,c1,c2⟩:=FQ (hl.grown C2) aD;refine⟨_,by rw [Ale];exact c0,_,by rw [Ale];exact c1,_,by rw [Ale];exact c2,(SH.start (λ _=>False) w2).II λ dJ w6 kW B6 S6=>⟨_,S6.cell 0 rfl rfl,(RW _ aw w6).mono ?_⟩⟩;rintro _ w7 ⟨_,rfl,rfl,B7⟩;have S7:=S6.grown B7;have C7:Below w.heap.size w w7:=Ac (Ac C2 B6) B7;have xx:AiP w7 b i (inN cs i):=(hM.kept (F:=λ _=>False) (Ai.AA B6) (by simp)).kept (F:=λ _=>False) (Ai.AA B7) (by simp);have bad:FP cs[i]=false\/cs[i].1∈(cs.take i).map (·.1)->Value.bool false=.bool (Ap cs)/\Below w.heap.size w w7:=λ h=>⟨by rw [Xo aD h],C7⟩;refine⟨_,rfl,As (Aq (λ h1=>?_) (λ h1=>bad (.inl (by simp [FP,h1]))))⟩;refine⟨_,S7.cell 0 rfl rfl,xx.get J7 AbF AbG (AfG w7) (by rw [Rk];exact aw) ⟨_,rfl,?_⟩⟩;refine Aq (λ h2=>bad (.inr ((AdH aD).1 h2))) (λ h2=>⟨_,S7.cell 0 rfl rfl,?_⟩);refine Aa (λ h3=>bad (.inl ?_)) (λ h3=>⟨_,S7.cell 0 rfl rfl,Aa (λ h4=>bad (.inl ?_)) (λ h4=>⟨_,S7.cell 0 rfl rfl,?_⟩)⟩)
  ·have:¬ (1<=cs[i].2.1/\cs[i].2.1<=3):=by omega
   simp only [FP,this,decide_false,Amm]
  ·have:¬ (1<=cs[i].2.1/\cs[i].2.1<=3):=by omega
   simp only [FP,this,decide_false,Amm]
  ·refine xx.put J7 AbF AbG (by rw [Rk];omega) (by rw [Rk];exact aw) λ w9 K9 xy=>?_;rw [Agw aD] at xy;rw [Ae (by omega)];have ok:FP cs[i]=true:=by
    have:1<=cs[i].2.1/\cs[i].2.1<=3:=by omega
    simp only [FP,h1,this,and_self,decide_true,Bool.and_self]
   refine⟨⟨i+1,rfl,by omega,λ j hj dU=>?_,xy,?_⟩,?_⟩
   ·rcases AlR j i with h | h
    ·exact aF j hj h
    ·obtain rfl:j=i:=by omega
     exact⟨ok,λ hm=>by rw [(AdH aD).2 hm] at h2;cases h2⟩
   ·exact C7.trans (K9.below C7.size λ k hk he=>by subst he;omega)
   ·show cs.length-((i+1:Nat):Int).toNat<cs.length-((i:Nat):Int).toNat;simp only [Ale];omega
 ·have hR:Ap cs=decide (1<=cs.length/\cs.length<=16):=Xn λ j hj=>aF j hj (by omega);refine Aa (λ h=>⟨?_,C2⟩) (λ h=>⟨?_,C2⟩)
  ·rw [hR];congr 1;rw [decide_eq_decide];omega
  ·rw [hR];congr 1;rw [eq_comm,decide_eq_false_iff_not];omega
theorem Wg(hl:Rd w a (BM cs))(hn:cs.length<=9223372036854775807)(s:ByteArray) :
  Calls Tryz.prog f.AcP #[.slice a cs.length c,.string s] w (AG λ r w'=>w'=w/\((r=.int .i64 (-1)/\∀ c∈cs,c.1≠s)\/∃(j:Nat) (hj:j<cs.length),r=.int .i64 (j:Int)/\cs[j].1=s/\∀ c∈cs.take j,c.1≠s)):=by
 apply R.RD
 delta R.F R.I R.Lt R.Qi R.W R.X;try dsimp only [R.Ps]
 refine⟨λ st w2=>∃ i:Nat,st=[.int .i64 (i:Int)]/\i<=cs.length/\(∀ c∈cs.take i,c.1≠s)/\w2=w,λ st _=>match st with | [.int _ t]=>cs.length-t.toNat | _=>0,⟨0,rfl,by omega,by simp,rfl⟩,?_⟩;rintro t w2 ⟨i,aA,hi,aF,rfl⟩;cases aA;refine Aa (λ aB=>⟨⟨by omega,aB⟩,?_⟩) (λ aI=>⟨rfl,.inl ⟨rfl,?_⟩⟩)
 ·have aD:i<cs.length:=by omega
  obtain⟨p,rfl,c0,c1,c2⟩:=FQ hl aD;refine⟨_,by rw [Ale];exact c0,?_⟩;rw [A0];refine Aa (λ he=>⟨rfl,.inr ⟨i,aD,rfl,he,aF⟩⟩) (λ he=>?_);rw [Ae (by omega)];refine⟨⟨i+1,rfl,by omega,λ c hc=>?_,rfl⟩,?_⟩
  ·rw [List.take_succ_eq_append_getElem aD] at hc;rcases List.mem_append.1 hc with hc | hc
   ·exact aF c hc
   ·rw [List.mem_singleton.1 hc];exact he
  ·show cs.length-((i+1:Nat):Int).toNat<cs.length-((i:Nat):Int).toNat;simp only [Ale];omega
 ·rw [List.take_of_length_le (by omega)] at aF;exact aF
theorem DV(hl:Rd w a (BM cs))(hn:cs.length<=9223372036854775807)(hq:∀ c∈cs,c.1.size<=9223372036854775807) :
  Calls Tryz.prog f.AaP #[.slice a cs.length c] w (AG λ r w'=>r=.bool (Ap cs)/\w'=w):=by
 apply R.PW
 delta R.Cb R.Ci R.F R.G R.I R.Li R.Lt R.Qi R.S R.T R.W R.X;try dsimp only [R.Ps]
 refine Aa (λ h=>⟨?_,rfl⟩) (λ h1=>Aa (λ h=>⟨?_,rfl⟩) (λ h2=>?_))
 ·have:¬ (1<=cs.length/\cs.length<=16):=by omega
  simp [Ap,this]
 ·have:¬ (1<=cs.length/\cs.length<=16):=by omega
  simp [Ap,this]
 refine⟨λ st w2=>∃ i:Nat,st=[.int .i64 (i:Int)]/\i<=cs.length/\(∀ j (hj:j<cs.length),j<i->FP cs[j]=true/\cs[j].1∉(cs.take j).map (·.1))/\w2=w,
  λ st _=>match st with | [.int _ t]=>cs.length-t.toNat | _=>0,⟨0,rfl,by omega,λ j _ hj=>by omega,rfl⟩,?_⟩
 rintro t w2 ⟨i,aA,hi,aF,rfl⟩;cases aA;refine Aa (λ aB=>⟨⟨by omega,aB⟩,?_⟩) (λ aI=>⟨?_,rfl⟩)
 ·have aD:i<cs.length:=by omega
  have aw:=hq _ (AlS aD);obtain⟨p,rfl,c0,c1,c2⟩:=FQ hl aD;have bad:FP cs[i]=false\/cs[i].1∈(cs.take i).map (·.1)->Value.bool false=.bool (Ap cs)/\w2=w2:=λ h=>⟨by rw [Xo aD h],rfl⟩;have hb:(0:Int)<=(i:Int)/\(i:Int)<(cs.length:Int):=⟨by omega,aB⟩;refine⟨_,by rw [Ale];exact c0,(Tz _ aw w2).mono ?_⟩;rintro _ w2 ⟨_,rfl,rfl,rfl⟩;refine⟨_,rfl,As (Aq (λ h3=>⟨hb,_,by rw [Ale];exact c0,(Wg hl hn _).mono ?_⟩) (λ h3=>bad (.inl (by simp [FP,h3]))))⟩;rintro _ w2 ⟨r,rfl,rfl,hr⟩;have gK:∃ z:Int,r=.int .i64 z/\(z=i↔cs[i].1∉(cs.take i).map (·.1)):=by
   rcases hr with ⟨rfl,h⟩ | ⟨j,hj,rfl,he,h⟩
   ·exact absurd rfl (h _ (AlS aD))
   ·refine⟨_,rfl,?_⟩;have hle:j<=i:=by
     rcases AlR i j with dO | dO
     ·exact absurd rfl (h cs[i] (List.mem_take_iff_getElem.2 ⟨i,by omega,rfl⟩))
     ·exact dO
    constructor
    ·intro hz hm;obtain⟨c,hc,he⟩:=AkU.1 hm;have:j=i:=by omega
     subst this;exact h c hc he
    ·intro hm;rcases AlR j i with dU | dU
     ·exact absurd (AkU.2 ⟨cs[j],List.mem_take_iff_getElem.2 ⟨j,by omega,rfl⟩,he⟩) hm
     ·omega
  obtain⟨z,rfl,hz⟩:=gK;refine⟨_,rfl,Ah (λ h=>bad (.inr ?_)) (λ h=>⟨hb,_,by rw [Ale];exact c1,?_⟩)⟩
  ·by_cases hm:cs[i].1∈(cs.take i).map (·.1)
   ·exact hm
   ·exact absurd (hz.2 hm) h
  refine Aa (λ h3=>bad (.inl ?_)) (λ h3=>⟨hb,_,by rw [Ale];exact c1,Aa (λ h4=>bad (.inl ?_)) (λ h4=>?_)⟩)
  ·have:¬ (1<=cs[i].2.1/\cs[i].2.1<=3):=by omega
   simp only [FP,this,decide_false,Amm]
  ·have:¬ (1<=cs[i].2.1/\cs[i].2.1<=3):=by omega
   simp only [FP,this,decide_false,Amm]
  ·rw [Ae (by omega)];refine⟨⟨i+1,rfl,by omega,λ j hj dU=>?_,rfl⟩,?_⟩
   ·rcases AlR j i with h | h
    ·exact aF j hj h
    ·obtain rfl:j=i:=by omega
     refine⟨?_,hz.1 (by omega)⟩;have:1<=cs[j].2.1/\cs[j].2.1<=3:=by omega
     simp_all [FP]
   ·show cs.length-((i+1:Nat):Int).toNat<cs.length-((i:Nat):Int).toNat;simp only [Ale];omega
 ·have hR:Ap cs=decide (1<=cs.length/\cs.length<=16):=Xn λ j hj=>aF j hj (by omega);rw [hR];congr 1;rw [eq_comm,decide_eq_true_eq];omega
end
end Go.Proofs.YtpnaifmmggnimaaGreatDoor
namespace Go.Proofs.YtpnaifmmggnimaaGreatDoor
open _root_.UInt8 renaming ofNat -> Alj
set_option maxRecDepth 100000
open Go.Dn Go.Proofs
open Go.RowKit (Below)
set_option linter.unusedVariables false
/-! ### what package-level variables hold -/
/-! ### Number, Signed, Text -/
/-! ### Lay -/
def CC(v:AB):List UInt8 :=
 if v.1=1 then 1 :: Af (D8 v.2.1) else if v.1=2 then [2,Alj v.2.1.toNat] else if v.1=3 then 3 :: BA v.2.2 else [0]
def Ai6(b:List UInt8)(v:AB)(r:Value)(w w':World):Prop :=
 (AK v=false/\r=.tuple #[.slice none 0 0,.int .i64 2]/\Below w.heap.size w w')\/(AK v=true/\∃ a c,r=.tuple #[.slice a (b++CC v).length c,.int .i64 0]/\Bm w w' (b++CC v) a c)
theorem J8{w:World}{a:Option Addr}{c:Nat}(l:List UInt8)(hl:Rd w a (l.map Ag))(v:AB)(hv:BL v)(hs:l.length+2000<=140737488355328) :
  Calls Tryz.prog f.AfE #[.slice a l.length c,TQ v] w (AG λ r w'=>Ai6 l v r w w'):=by
 apply R.TS
 delta R.A R.Ab R.B R.AR R.Cb R.Cs R.E R.F R.H R.I R.J R.Ks R.Li R.Lt R.N R.O R.S R.T R.Wb;try dsimp only [R.Ps]
 refine (SH.start (λ _=>False) w).An λ b5 w1 fg B1 S1=>⟨_,S1.cell 0 rfl rfl,_,S1.cell 0 rfl rfl,_,S1.cell 0 rfl rfl,(EK w1 v).mono ?_⟩;rintro _ w2 ⟨_,rfl,rfl,B2⟩;have S2:=S1.grown B2;refine⟨_,rfl,As (Aq (λ hr=>?_) (λ hr=>.inl ⟨hr,rfl,S2.below⟩))⟩;have hk:=Gl hr;refine⟨_,S2.cell 0 rfl rfl,S2.An λ dk w3 mX B3 S3=>S3.An λ tF w4 mY B4 S4=>?_⟩;obtain⟨kk,eQ,hkb⟩:∃ kk:Nat,v.1=kk/\kk<4:=⟨v.1.toNat,by omega,by omega⟩;have qI:Value.int .u8 (IntKind.u8.wrap v.1)=Ag (Alj kk):=by rw [eQ,AE (by omega) (by omega)];exact Cq (by omega)
 refine (Bo [(a,c,l),(some ⟨dk,0,none⟩,1,[Alj kk])] (by have:=Rd.Ak (S4.get 0 rfl);simpa [Cc] using this) (by
  intro p hp;simp only [List.mem_cons,List.not_mem_nil,or_false] at hp;rcases hp with rfl | rfl
  ·exact hl.grown S4.below
  ·have:=Rd.Ak (S4.get 1 rfl);rw [qI] at this;simpa using this) (by simp) (by rw [UF];simp;omega)).mono ?_
 rintro _ w5 ⟨_,rfl,a5,c5,rfl,h5⟩;rw [UF] at h5 ⊢;have S5:=S4.grown h5.Ar;have fy:Bm w w5 (l++[Alj kk]) a5 c5:=h5.before S4.below;refine⟨_,_,_,rfl,_,S5.cell 2 rfl rfl,Ao (λ h=>⟨_,S5.cell 2 rfl rfl,?_⟩) (λ h1=>Ao (λ h=>⟨_,S5.cell 2 rfl rfl,?_⟩) (λ h2=>Ao (λ h=>⟨_,S5.cell 2 rfl rfl,?_⟩) (λ h3=>?_)))⟩
 ·refine (F0 _ fy.rd v.2.1 hv.lo hv.hi (by simp;omega)).mono ?_;rintro _ w6 ⟨_,rfl,a6,c6,rfl,h6⟩;have e:(l++[Alj kk])++Af (D8 v.2.1)=l++CC v:=by
   have:kk=1:=by omega
   subst this;simp [CC,h]
  rw [e] at h6 ⊢;exact⟨_,_,_,rfl,.inr ⟨hr,a6,c6,rfl,h6.before fy.Ar⟩⟩
 ·have mW:v.2.1=0\/v.2.1=1:=by omega
  refine S5.An λ eh w7 jC B7 S7=>?_;refine CO (fy.grown B7).row (by simp;omega) (x:=Alj v.2.1.toNat) (by rw [AE (by omega) (by omega)];rcases mW with h | h <;> rw [h] <;> rfl) (S7.get 0 rfl) λ a8 c8 w8 R8 K8 N8=>⟨_,_,_,rfl,.inr ⟨hr,a8,c8,?_⟩⟩;have e:(l++[Alj kk])++[Alj v.2.1.toNat]=l++CC v:=by
   have:kk=2:=by omega
   subst this;simp [CC,h]
  rw [e] at R8 ⊢;have h7:=fy.grown B7;refine⟨rfl,R8,λ k hk=>?_,h7.Ar.trans (K8.below h7.Ar.size λ k hk he=>by have:=h7.new k he;omega)⟩;rcases N8 k hk with h | h
  ·exact h7.new k h
  ·exact Nat.le_trans h7.Ar.size h
 ·refine (Hr _ fy.rd v.2.2 (by omega) (by simp;omega)).mono ?_;rintro _ w6 ⟨_,rfl,a6,c6,rfl,h6⟩;have e:(l++[Alj kk])++BA v.2.2=l++CC v:=by
   have:kk=3:=by omega
   subst this;simp [CC,h]
  rw [e] at h6 ⊢;exact⟨_,_,_,_,rfl,.inr ⟨hr,a6,c6,rfl,h6.before fy.Ar⟩⟩
 ·have e:l++[Alj kk]=l++CC v:=by
   have:kk=0:=by omega
   subst this;simp [CC,h1,h2,h3]
  have h6:=fy;rw [e] at h6;refine .inr ⟨hr,a5,c5,?_,h6⟩;rw [<- e]
/-! ### Show -/
end Go.Proofs.YtpnaifmmggnimaaGreatDoor
namespace Go.Dn
theorem SH.v3{F:Nat->Prop}{w0 w:World}{H:List Zh}(S:SH F w0 w H)(n:Nat){b:Nat}{x y:Int}{s:ByteArray}{t:TypeId}(hn:H[n]?=some (b,#[.int .i64 x,.int .i64 y,.string s],t)){Q:Int->Int->ByteArray->Prop}(h:Q x y s) :
  ∃ a:Int,w.cell? ⟨b,0,none⟩=some (.int .i64 a)/\∃ c:Int,w.cell? ⟨b,1,none⟩=some (.int .i64 c)/\∃ d:ByteArray,w.cell? ⟨b,2,none⟩=some (.string d)/\Q a c d :=
 ⟨x,S.cell n hn rfl,y,S.cell n hn rfl,s,S.cell n hn rfl,h⟩
end Go.Dn
namespace Go.Proofs.YtpnaifmmggnimaaGreatDoor
open Go.Dn Go.Proofs
open Go.RowKit (Below)
set_option linter.unusedVariables false
set_option maxRecDepth 20000
/-! ### orders -/
/-! ### the laws -/
end Go.Proofs.YtpnaifmmggnimaaGreatDoor
namespace Go.Proofs.YtpnaifmmggnimaaGreatDoor
open _root_.BitVec renaming ofInt -> AkK, ofInt_natCast -> Alm, toNat_ofNat -> All
open _root_.List renaming mem_singleton -> Al9
open _root_.Nat renaming mod_eq_of_lt -> Alk
open _root_.UInt8 renaming ofNat -> Alj
set_option maxRecDepth 100000
open Go.Dn Go.Proofs
open Go.RowKit (Below)
set_option linter.unusedVariables false
section
variable {w:World}{a:Option Addr}{c:Nat}
theorem JY(l:List UInt8)(hl:Rd w a (l.map Ag))(v:AB)(hv:BL v)(hs:l.length+2000<=140737488355328) :
  Calls Tryz.prog f.Afk #[.slice a l.length c,TQ v] w (AG λ r w'=>Ai6 l v r w w'):=by
 apply R.Ty
 delta R.A R.Ab R.B R.AR R.Cb R.Cs R.D R.E R.F R.H R.I R.J R.Ks R.Li R.Lt R.N R.O R.Rs R.S R.T R.W R.Wb R.Zs;try dsimp only [R.Ps]
 refine (SH.start (λ _=>True) w).An λ b5 w1 fg B1 S1=>S1.v3 0 rfl ((FV w1 v).mono ?_);rintro _ w2 ⟨_,rfl,rfl,B2⟩;have S2:=S1.grown B2;have B2':=Ac B1 B2;refine⟨_,rfl,As (Aq (λ hr=>?_) (λ hr=>.inl ⟨hr,rfl,B2'⟩))⟩;have hk:=Gl hr;obtain⟨kk,eQ,hkb⟩:∃ kk:Nat,v.1=kk/\kk<4:=⟨v.1.toNat,by omega,by omega⟩;have qI:Value.int .u8 (IntKind.u8.wrap v.1)=Ag (Alj kk):=by rw [eQ,AE (by omega) (by omega)];exact Cq (by omega)
 have pD:IntKind.i64.wrap ((l.length:Int)+1)=((l.length+1:Nat):Int):=by rw [wrap_i64 (by omega) (by omega)];omega
 rw [pD];have hb5w:∀ w',Below w2.heap.size w2 w'->b5<w'.heap.size:=λ w' hb=>by
  have:=S2.lt (Al9.2 rfl);have:=hb.size;omega
 refine⟨λ s ah=>∃(a:Option Addr) (c:Nat),s=[.slice a (l++[Alj kk]).length c]/\Bm w ah (l++[Alj kk]) a c/\SH (λ _=>True) w ah [(b5,#[.int .i64 v.1,.int .i64 v.2.1,.string v.2.2],ty.AW)],?_,?_⟩
 ·refine S2.E5 λ w3 B3 S3=>⟨_,S3.cell 0 rfl rfl,?_⟩;have B3':=Ac B2' B3;have fw:∀ {w1 w2:World} {ar:Option Addr},SH (λ _=>True) w w1 [(b5,#[.int .i64 v.1,.int .i64 v.2.1,.string v.2.2],ty.AW)]->Ai (λ k=>AD ar=some k) w1 w2->(∀ k,AD ar=some k->w3.heap.size<=k)->SH (λ _=>True) w w2 [(b5,#[.int .i64 v.1,.int .i64 v.2.1,.string v.2.2],ty.AW)]:=by
   intro w1 w2 ar S K hr;refine S.kept K (λ x hx he=>?_) (λ _ _ _=>trivial);simp only [Al9] at hx;subst hx;have:=hr _ he;have:=S3.lt (Al9.2 rfl);simp only at *;omega
  refine⟨Hw tB (by omega) (by omega) λ b w4 hb B4 R4=>⟨_,_,_,rfl,(S3.grown B4).cell 0 rfl rfl,?_,?_⟩,?_⟩
  ·have h4:Bm w3 w4 [] (some ⟨b,0,none⟩) (l.length+1):=⟨R4,λ k hk=>by simp [AD] at hk;omega,B4⟩;refine A8 (l:=[]) R4 (hl.grown (Ac B3' B4)) (by simp;omega) λ a5 c5 w5 R5 K5 N5=>?_;have h5:Bm w3 w5 l a5 c5:=h4.Br (.refl _ _) R5 K5 N5;have S5:=fw (S3.grown B4) K5 h4.new;refine⟨_,_,_,rfl,S5.cell 0 rfl rfl,S5.An λ dE w6 gw B6 S6=>?_⟩;refine CO (h5.grown B6).row (by omega) qI (S6.get 0 rfl) λ a7 c7 w7 R7 K7 N7=>⟨_,_,_,rfl,a7,c7,rfl,(h5.Br B6 R7 K7 N7).before B3',fw (S5.grown B6) K7 h5.new⟩
  ·have h4:Bm w3 w4 [] (some ⟨b,0,none⟩) (l.length+1):=⟨R4,λ k hk=>by simp [AD] at hk;omega,B4⟩;refine (S3.grown B4).An λ dE w8 gw B8 S8=>?_;refine A8 (l:=[]) (R4.grown B8) (hl.grown (Ac (Ac B3' B4) B8)) (by simp;omega) λ a5 c5 w9 R5 K5 N5=>?_;have h5:Bm w3 w9 l a5 c5:=h4.Br B8 R5 K5 N5;have S9:=fw (S8.drop 1) K5 h4.new;have jB:w9.heap[dE]?=some (.cells #[.int .u8 (IntKind.u8.wrap v.1)] 5 (0,0)):=K5.at (S8.get 0 rfl) (λ he=>by simp [AD] at he;have:=h4.row.lt (k:=b) rfl;omega);refine⟨_,_,_,rfl,CO h5.row (by omega) qI jB λ a7 c7 w7 R7 K7 N7=>⟨_,_,_,rfl,a7,c7,rfl,(h5.Br (.refl _ _) R7 K7 N7).before B3',fw S9 K7 h5.new⟩⟩
  ·refine S3.An λ dE aY gw cF bE=>Hw tB (by omega) (by omega) λ b w4 hb B4 R4=>⟨_,_,_,rfl,?_⟩;have h4:Bm aY w4 [] (some ⟨b,0,none⟩) (l.length+1):=⟨R4,λ k hk=>by simp [AD] at hk;omega,B4⟩;have xt:Bm w3 w4 [] (some ⟨b,0,none⟩) (l.length+1):=h4.before cF;refine A8 (l:=[]) R4 (hl.grown (Ac (Ac B3' cF) B4)) (by simp;omega) λ a5 c5 w9 R5 K5 N5=>?_;have h5:Bm w3 w9 l a5 c5:=xt.Br (.refl _ _) R5 K5 N5;have S9:=fw ((bE.grown B4).drop 1) K5 xt.new;have jB:w9.heap[dE]?=some (.cells #[.int .u8 (IntKind.u8.wrap v.1)] 5 (0,0)):=K5.at ((bE.grown B4).get 0 rfl) (λ he=>by simp [AD] at he;have:=bE.lt List.mem_cons_self;simp only at this;omega);refine⟨_,_,_,rfl,CO h5.row (by omega) qI jB λ a7 c7 w7 R7 K7 N7=>⟨_,_,_,rfl,a7,c7,rfl,(h5.Br (.refl _ _) R7 K7 N7).before B3',fw S9 K7 h5.new⟩⟩
 rintro a5 _ c5 w5 ⟨_,_,bS,fy,S5⟩;cases bS;refine⟨_,S5.cell 0 rfl rfl,Ao (λ h=>⟨_,S5.cell 0 rfl rfl,?_⟩) (λ h1=>Ao (λ h=>⟨_,S5.cell 0 rfl rfl,?_⟩) (λ h2=>Ao (λ h=>⟨_,S5.cell 0 rfl rfl,?_⟩) (λ h3=>?_)))⟩
 ·refine (Fl _ fy.rd v.2.1 hv.lo hv.hi (by simp;omega)).mono ?_;rintro _ w6 ⟨_,rfl,a6,c6,rfl,h6⟩;have e:(l++[Alj kk])++Af (D8 v.2.1)=l++CC v:=by
   have:kk=1:=by omega
   subst this;simp [CC,h]
  rw [e] at h6 ⊢;exact⟨_,_,_,rfl,.inr ⟨hr,a6,c6,rfl,h6.before fy.Ar⟩⟩
 ·have mW:v.2.1=0\/v.2.1=1:=by omega
  refine S5.An λ eh w7 jC B7 S7=>?_;refine CO (fy.grown B7).row (by simp;omega) (x:=Alj v.2.1.toNat) (by rw [AE (by omega) (by omega)];rcases mW with h | h <;> rw [h] <;> rfl) (S7.get 0 rfl) λ a8 c8 w8 R8 K8 N8=>⟨_,_,_,rfl,.inr ⟨hr,a8,c8,?_⟩⟩;have e:(l++[Alj kk])++[Alj v.2.1.toNat]=l++CC v:=by
   have:kk=2:=by omega
   subst this;simp [CC,h]
  have h8:=fy.Br B7 R8 K8 N8;rw [e] at h8 ⊢;exact⟨rfl,h8⟩
 ·refine (GF _ fy.rd v.2.2 (by omega) (by simp;omega)).mono ?_;rintro _ w6 ⟨_,rfl,a6,c6,rfl,h6⟩;have e:(l++[Alj kk])++BA v.2.2=l++CC v:=by
   have:kk=3:=by omega
   subst this;simp [CC,h]
  rw [e] at h6 ⊢;exact⟨_,_,_,_,rfl,.inr ⟨hr,a6,c6,rfl,h6.before fy.Ar⟩⟩
 ·have e:l++[Alj kk]=l++CC v:=by
   have:kk=0:=by omega
   subst this;simp [CC,h1,h2,h3]
  have h6:=fy;rw [e] at h6;refine .inr ⟨hr,a5,c5,?_,h6⟩;rw [<- e]
end
def CB(n:Nat):Int:=if n % 2=1 then -((n / 2:Nat):Int)-1 else ((n / 2:Nat):Int)
theorem AhO(n:Nat)(h:n<18446744073709551616):(AkK 64 (n:Int) &&& AkK 64 1).toNat=n % 2:=by
 rw [BitVec.toNat_and,Alm,All,Alk (by omega)];exact Nat.and_two_pow_sub_one_eq_mod n 1
theorem VI{n:Nat}(h:n<18446744073709551616) :
  IntKind.i64.wrap (((AkK 64 (IntKind.i64.wrap (Int.fdiv (n:Int) (2 ^ (min 1 64)))) ^^^ AkK 64 (IntKind.i64.wrap (0-IntKind.i64.wrap (IntKind.u64.wrap (((AkK 64 (n:Int) &&& AkK 64 1).toNat:Int)))))).toNat:Int))=CB n:=by
 have e1:IntKind.i64.wrap (Int.fdiv (n:Int) (2 ^ (min 1 64)))=((n / 2:Nat):Int):=by
  rw [Int.fdiv_eq_ediv_of_nonneg _ (by decide),show (2:Int) ^ (min 1 64)=2 from rfl,wrap_i64 (by omega) (by omega)];omega
 rw [e1,AhO n h,Aj (by omega) (by omega),wrap_i64 (n:=((n % 2:Nat):Int)) (by omega) (by omega)];unfold CB;by_cases ho:n % 2=1
 ·rw [ho,if_pos rfl,show IntKind.i64.wrap (0-((1:Nat):Int)) = -1 by decide,show AkK 64 (-1)=BitVec.allOnes 64 by decide,BitVec.xor_allOnes,BitVec.toNat_not,Alm,All,Alk (by omega),CY];split <;> omega
 ·have:n % 2=0:=by omega
  rw [this,if_neg (by omega),show IntKind.i64.wrap (0-((0:Nat):Int))=0 by decide,show AkK 64 0=0#64 by decide,BitVec.xor_zero,Alm,All,Alk (by omega),wrap_i64 (by omega) (by omega)]
theorem GQ{n:Nat}(h:n<18446744073709551616) : -9223372036854775808<=CB n/\CB n<=9223372036854775807:=by unfold CB;split <;> omega
def Ag9(o:Option (Nat × Nat)):Value :=
 match o with
 | some x=>.tuple #[.int .i64 (CB x.1),.int .i64 (x.2:Int),.int .i64 0]
 | none=>.tuple #[.int .i64 0,.int .i64 0,.int .i64 20]
section
variable {w:World}{a:Option Addr}{c:Nat}{l:List UInt8}
theorem FB(hl:Rd w a (l.map Ag))(hc:l.length<=c)(hs:l.length<=9223372036854775807)(at_:Int):Calls Tryz.prog f.TU #[.slice a l.length c,.int .i64 at_] w (AG λ v w'=>v=Ag9 (takeN l at_)/\w'=w):=by
 apply R.KQ
 delta R.Bu R.H R.I R.S R.W R.Wu;try dsimp only [R.Ps]
 refine (AL hl hc hs at_).mono ?_;rintro _ w ⟨_,rfl,rfl,rfl⟩;cases ho:takeN l at_ with
 | none=>exact⟨_,_,_,rfl,rfl,rfl⟩
 | some x =>
  obtain⟨n,k⟩:=x;refine⟨_,_,_,rfl,?_,rfl⟩;rw [VI (Az ho).1];rfl
theorem FW(hl:Rd w a (l.map Ag))(hs:l.length<=9223372036854775807)(at_:Int)(cU:at_<=9223372036854775807):Calls Tryz.prog f.Ry #[.slice a l.length c,.int .i64 at_] w (AG λ v w'=>v=Ag9 (takeN l at_)/\w'=w):=by
 apply R.JW
 delta R.Bu R.F R.H R.I R.S R.W R.Wu;try dsimp only [R.Ps]
 refine (AJ hl hs at_ cU).mono ?_;rintro _ w ⟨_,rfl,rfl,rfl⟩;cases ho:takeN l at_ with
 | none=>exact⟨_,_,_,rfl,CN ⟨rfl,rfl⟩⟩
 | some x =>
  obtain⟨n,k⟩:=x;have hb:=(Az ho).1;refine⟨_,_,_,rfl,AV ?_⟩;have e1:Int.tmod (n:Int) 2=((n % 2:Nat):Int):=by rw [Int.tmod_eq_emod_of_nonneg (by omega)];omega
  have e2:IntKind.u64.wrap (Int.tdiv (n:Int) 2)=((n / 2:Nat):Int):=by rw [Int.tdiv_eq_ediv_of_nonneg (by omega),Aj (by omega) (by omega)];omega
  rw [e1,e2,wrap_i64 (n:=((n / 2:Nat):Int)) (by omega) (by omega)];refine Ao (λ h=>⟨?_,rfl⟩) (λ h=>⟨?_,rfl⟩)
  ·simp only [Ag9,CB];rw [if_pos (by omega),wrap_i64 (n:=0-((n / 2:Nat):Int)) (by omega) (by omega),wrap_i64 (by omega) (by omega)];congr 4;omega
  ·simp only [Ag9,CB];rw [if_neg (by omega)]
/-! ### Take -/
end
section
variable {w:World}{a:Option Addr}{c:Nat}{l:List UInt8}
/-! ### Take -/
def Bi(l:List UInt8)(at_:Int):Option (AB × Nat) :=
 if at_<0\/(l.length:Int)<=at_ then none else
 let k:=(l.getD at_.toNat 0).toNat
 if k=0 then some ((0,0,E0),at_.toNat+1)
 else if k=1 then (takeN l (at_+1)).map λ x=>((1,CB x.1,E0),x.2)
 else if k=2 then (if at_+1<l.length/\(l.getD (at_.toNat+1) 0).toNat<=1 then some ((2,((l.getD (at_.toNat+1) 0).toNat:Int),E0),at_.toNat+2) else none)
 else if k=3 then (BD l (at_+1) 1024).map λ x=>((3,0,BC x.1),x.2)
 else none
def VG(o:Option (AB × Nat)):Value :=
 match o with
 | some x=>.tuple #[.agg #[.int .i64 x.1.1,.int .i64 x.1.2.1,.string x.1.2.2],.int .i64 (x.2:Int),.int .i64 0]
 | none=>.tuple #[.agg #[.int .i64 0,.int .i64 0,.string E0],.int .i64 0,.int .i64 20]
theorem QR{l:List UInt8}{at_:Nat}:(∃ n k,takeN l (at_:Int)=some (n,k)/\(n=0\/n=1))↔(at_<l.length/\(l.getD at_ 0).toNat<=1):=by
 have ht:takeN l (at_:Int)=(Cn 0 0 (l.drop at_)).map λ x=>(x.1,at_+x.2):=by unfold takeN;rw [if_neg (by omega)];rfl
 by_cases h:at_<l.length
 ·have hd:l.drop at_=l[at_] :: l.drop (at_+1):=List.drop_eq_getElem_cons h;have hg:l.getD at_ 0=l[at_]:=by simp [List.getD,h]
  rw [hg];generalize l[at_]=c at hd;have e:Cn 0 0 (c :: l.drop (at_+1))=if c.toNat<128 then some (c.toNat,1) else Cn 1 (c.toNat % 128) (l.drop (at_+1)):=by
   conv=>lhs;unfold Cn
   rw [if_neg (by omega)];by_cases hc:c.toNat<128
   ·rw [if_pos hc,if_pos hc,if_neg (by omega)];simp
   ·rw [if_neg hc,if_neg hc];simp
  rw [ht,hd,e];by_cases hc:c.toNat<128
  ·rw [if_pos hc];simp only [Option.map_some,Option.some.injEq,Prod.mk.injEq];constructor
   ·rintro⟨n,k,⟨rfl,_⟩,hn⟩;exact⟨h,by omega⟩
   ·rintro⟨_,hn⟩;exact⟨_,_,⟨rfl,rfl⟩,by omega⟩
  ·rw [if_neg hc];constructor
   ·rintro⟨n,k,hs,hn⟩;obtain⟨⟨x1,x2⟩,hx,he⟩:=Option.map_eq_some_iff.1 hs;simp only [Prod.mk.injEq] at he;obtain⟨_,_,_,_,hb⟩:=JU _ 1 _ _ _ (by omega) hx;have:=hb (by omega);omega
   ·rintro⟨_,hn⟩;omega
 ·have hd:l.drop at_=[]:=List.drop_eq_nil_of_le (by omega);rw [ht,hd];constructor
  ·rintro⟨n,k,hs,_⟩;simp [Cn] at hs
  ·rintro⟨hh,_⟩;omega
theorem Aet{l:List UInt8}{at_ n k:Nat}(h:takeN l (at_:Int)=some (n,k))(hn:n=0\/n=1):n=(l.getD at_ 0).toNat/\k=at_+1:=by
 have hb:=QR.1 ⟨n,k,h,hn⟩;have ht:takeN l (at_:Int)=(Cn 0 0 (l.drop at_)).map λ x=>(x.1,at_+x.2):=by unfold takeN;rw [if_neg (by omega)];rfl
 have hd:l.drop at_=l[at_] :: l.drop (at_+1):=List.drop_eq_getElem_cons hb.1;have hg:l.getD at_ 0=l[at_]:=by simp [List.getD,hb.1]
 rw [hg] at hb ⊢;rw [ht,hd] at h;unfold Cn at h;rw [if_neg (by omega),if_pos (by omega),if_neg (by omega)] at h;simp at h;omega
end
end Go.Proofs.YtpnaifmmggnimaaGreatDoor
namespace Go.Dn
theorem SH.TI{F:Nat->Prop}{w0 w:World}{H:List Zh}(S:SH F w0 w H)(n:Nat){b:Nat}{x0 x1 x2:Value}{t:TypeId}(hn:H[n]?=some (b,#[x0,x1,x2],t)){v0 v1:Int}{v2:ByteArray}{Q:Int->Int->ByteArray->World->Prop}
  (hk:∀ w',SH F w0 w' (H.set n (b,#[.int .i64 v0,.int .i64 v1,.string v2],t))->Q v0 v1 v2 w') :
  DY ⟨b,0,none⟩ (.int .i64 v0) (λ w=>DY ⟨b,1,none⟩ (.int .i64 v1) (λ w=>DY ⟨b,2,none⟩ (.string v2) (λ w=>∃ r0:Int,w.cell? ⟨b,0,none⟩=some (.int .i64 r0)/\∃ r1:Int,w.cell? ⟨b,1,none⟩=some (.int .i64 r1)/\∃ r2:ByteArray,w.cell? ⟨b,2,none⟩=some (.string r2)/\Q r0 r1 r2 w) w) w) w:=by
 have aB:=(List.getElem?_eq_some_iff.1 hn).1;exact S.AiI n hn λ w' _ S'=>S'.v3 n (List.getElem?_set_self aB) (hk w' S')
end Go.Dn
namespace Go.Proofs.YtpnaifmmggnimaaGreatDoor
open _root_.Int renaming toNat_natCast -> Ale
open Go.Dn Go.Proofs
open Go.RowKit (Below)
set_option linter.unusedVariables false
set_option maxRecDepth 20000
section
variable {w:World}{a:Option Addr}{c:Nat}{l:List UInt8}
theorem QS{i:Nat}(hi:i<l.length):l.getD i 0=l[i]:=by simp [List.getD,hi]
theorem IK(hl:Rd w a (l.map Ag))(hc:l.length<=c)(hs:l.length<=140737488355328)(at_:Int) :
  Calls Tryz.prog f.AcN #[.slice a l.length c,.int .i64 at_] w (AG λ v w'=>v=VG (Bi l at_)/\Below w.heap.size w w'):=by
 apply R.RB
 delta R.A R.Ab R.Ad R.Ka R.Gv R.E R.F R.H R.I R.Li R.Lt R.Ly R.N R.S R.Am R.T R.W R.X R.Zii;try dsimp only [R.Ps]
 refine (SH.start (λ _=>False) w).An λ b3 w1 dG B1 S1=>?_;refine Aa (λ h=>S1.TI 0 rfl λ w4 S4=>⟨by simp [Bi,h,VG],S4.below⟩) (λ h0=>Aa (λ h=>S1.TI 0 rfl λ w4 S4=>⟨?_,S4.below⟩) (λ h1=>?_))
 ·unfold Bi;rw [if_pos (.inr h)];rfl
 obtain⟨at_,rfl⟩:∃ k:Nat,at_=k:=⟨at_.toNat,by omega⟩;have cU:at_<l.length:=by omega
 refine⟨⟨by omega,by omega⟩,?_⟩;obtain⟨p,hp,aE⟩:=byte_at (hl.grown B1) cU;subst hp;have hg:=QS cU;have iT:=l[at_].toNat_lt;refine⟨_,by rw [Ale];exact aE,S1.II λ dk aY mX cF bE=>?_⟩;have gG:Rd aY (some p) (l.map Ag):=hl.grown bE.below;rw [wrap_i64 (n:=(l[at_].toNat:Int)) (by omega) (by omega)] at bE;have ew:IntKind.i64.wrap ((at_:Int)+1)=((at_+1:Nat):Int):=by rw [wrap_i64 (by omega) (by omega)];omega
 rw [ew];have ht:Bi l (at_:Int)=(if l[at_].toNat=0 then some ((0,0,E0),at_+1)
   else if l[at_].toNat=1 then (takeN l ((at_+1:Nat):Int)).map λ x=>((1,CB x.1,E0),x.2)
   else if l[at_].toNat=2 then (if (at_:Int)+1<l.length/\(l.getD (at_+1) 0).toNat<=1 then some ((2,((l.getD (at_+1) 0).toNat:Int),E0),at_+2) else none)
   else if l[at_].toNat=3 then (BD l ((at_+1:Nat):Int) 1024).map λ x=>((3,0,BC x.1),x.2)
   else none):=by
  unfold Bi;rw [if_neg (by omega),Ale,hg,show (at_:Int)+1=((at_+1:Nat):Int) by omega]
 generalize eQ:l[at_].toNat=kk at ht bE iT;refine⟨λ s eZ=>∃(nx e:Int) (v:AB),s=[.int .i64 nx,.int .i64 e]/\SH (λ _=>False) w eZ [(dk,#[.int .i64 v.1,.int .i64 v.2.1,.string v.2.2],ty.AW),(b3,#[.int .i64 0,.int .i64 0,.string E0],ty.AW)] /\
   (e≠0->e=20/\Bi l (at_:Int)=none)/\(e=0->∃ k:Nat,nx=k/\Bi l (at_:Int)=some (v,k)),?_,?_⟩
 ·refine⟨_,bE.cell 0 rfl rfl,Ao (λ h=>?_) (λ n0=>Ao (λ h=>?_) (λ n1=>Ao (λ h=>?_) (λ n2=>Ao (λ h=>?_) (λ n3=>?_))))⟩
  ·have:kk=0:=by omega
   subst this;exact⟨_,_,(0,0,E0),rfl,bE,λ h=>absurd rfl h,λ _=>⟨at_+1,rfl,by rw [ht];simp⟩⟩
  ·have:kk=1:=by omega
   subst this;refine (FW gG (by omega) _ (by omega)).mono ?_;rintro _ aY ⟨_,rfl,rfl,rfl⟩;cases ho:takeN l ((at_+1:Nat):Int) with
   | none =>
    exact⟨_,_,_,rfl,bE.BP 0 rfl (show 1<3 by decide) λ al dn=>⟨_,_,(1,0,E0),rfl,dn,λ _=>⟨rfl,by rw [ht,ho];simp⟩,λ h=>absurd h (by decide)⟩⟩
   | some x =>
    obtain⟨n,k⟩:=x;exact⟨_,_,_,rfl,bE.BP 0 rfl (show 1<3 by decide) λ al dn=>⟨_,_,(1,CB n,E0),rfl,dn,λ h=>absurd rfl h,λ _=>⟨k,rfl,by rw [ht,ho];simp⟩⟩⟩
  ·have:kk=2:=by omega
   subst this;have no:¬ ((at_:Int)+1<l.length/\(l.getD (at_+1) 0).toNat<=1)->Bi l (at_:Int)=none:=by
    intro hn;rw [ht];simp only [if_neg (show ¬ (2:Nat)=0 by decide),if_neg (show ¬ (2:Nat)=1 by decide),if_true];rw [if_neg hn]
   refine Aa (λ h=>bE.TI 1 rfl λ w4 S4=>⟨by rw [no (by omega)];rfl,S4.below⟩) (λ h=>⟨⟨by omega,by omega⟩,?_⟩);have kV:at_+1<l.length:=by omega
   obtain⟨p',hp',hcell2⟩:=byte_at gG kV;cases hp';have eP:=QS kV;have hcc2:=l[at_+1].toNat_lt;refine⟨_,by rw [Ale];exact hcell2,Aa (λ h=>bE.TI 1 rfl λ w4 S4=>⟨by rw [no (by rw [eP];omega)];rfl,S4.below⟩) (λ h=>⟨⟨by omega,by omega⟩,_,by rw [Ale];exact hcell2,?_⟩)⟩;rw [wrap_i64 (n:=(l[at_+1].toNat:Int)) (by omega) (by omega),wrap_i64 (n:=((at_+1:Nat):Int)+1) (by omega) (by omega)];refine bE.BP 0 rfl (show 1<3 by decide) λ al dn=>⟨_,_,(2,(l[at_+1].toNat:Int),E0),rfl,dn,λ h=>absurd rfl h,λ _=>⟨at_+2,by omega,?_⟩⟩;rw [ht];simp only [if_neg (show ¬ (2:Nat)=0 by decide),if_neg (show ¬ (2:Nat)=1 by decide),if_true];rw [if_pos ⟨by omega,by rw [eP];omega⟩,eP]
  ·have:kk=3:=by omega
   subst this;refine (Ed gG hc (by omega) _ (by omega) 1024).mono ?_;rintro _ aY ⟨_,rfl,rfl,rfl⟩;cases ho:BD l ((at_+1:Nat):Int) 1024 with
   | none =>
    exact⟨_,_,_,rfl,bE.BP 0 rfl (show 2<3 by decide) λ al dn=>⟨_,_,(3,0,E0),rfl,dn,λ _=>⟨rfl,by rw [ht,ho];simp⟩,λ h=>absurd h (by decide)⟩⟩
   | some x =>
    obtain⟨s,k⟩:=x;exact⟨_,_,_,rfl,bE.BP 0 rfl (show 2<3 by decide) λ al dn=>⟨_,_,(3,0,BC s),rfl,dn,λ h=>absurd rfl h,λ _=>⟨k,rfl,by rw [ht,ho];simp⟩⟩⟩
  ·have aP:Bi l (at_:Int)=none:=by rw [ht,if_neg (by omega),if_neg (by omega),if_neg (by omega),if_neg (by omega)]
   exact bE.TI 1 rfl λ w4 S4=>⟨by rw [aP];rfl,S4.below⟩
 ·rintro _ _ eZ ⟨nx,e,v,bS,gS,g1,g2⟩;cases bS;refine Ah (λ h=>gS.TI 1 rfl λ w4 S4=>⟨by rw [(g1 h).2,(g1 h).1];rfl,S4.below⟩) (λ h=>gS.v3 0 rfl (gS.TI 1 rfl λ w4 S4=>⟨?_,S4.below⟩));obtain⟨k,rfl,hk⟩:=g2 h;rw [hk];rfl
end
end Go.Proofs.YtpnaifmmggnimaaGreatDoor
namespace Go.Proofs.YtpnaifmmggnimaaGreatDoor
set_option maxRecDepth 100000
open Go.Dn Go.Proofs
open Go.RowKit (Below)
set_option linter.unusedVariables false
section
variable {w:World}{a:Option Addr}{c:Nat}{l:List UInt8}
theorem IY(hl:Rd w a (l.map Ag))(hc:l.length<=c)(hs:l.length<=140737488355328)(at_:Int) :
  Calls Tryz.prog f.Adk #[.slice a l.length c,.int .i64 at_] w (AG λ v w'=>v=VG (Bi l at_)/\Below w.heap.size w w'):=by
 apply R.Sd
 delta R.A R.Ab R.Ad R.Ka R.Gv R.Bu R.Cb R.E R.F R.H R.I R.Li R.Lt R.Ly R.N R.S R.Am R.T R.W R.X R.Zii;try dsimp only [R.Ps]
 refine (SH.start (λ _=>False) w).An λ b3 w1 dG B1 S1=>?_;refine Aa (λ h=>S1.TI 0 rfl λ w4 S4=>⟨by simp [Bi,h,VG],S4.below⟩) (λ h0=>Aa (λ h=>S1.TI 0 rfl λ w4 S4=>⟨?_,S4.below⟩) (λ h1=>?_))
 ·unfold Bi;rw [if_pos (.inr h)];rfl
 obtain⟨at_,rfl⟩:∃ k:Nat,at_=k:=⟨at_.toNat,by omega⟩;have cU:at_<l.length:=by omega
 refine⟨⟨by omega,by omega⟩,?_⟩;obtain⟨p,hp,aE⟩:=byte_at (hl.grown B1) cU;subst hp;have hg:=QS cU;have iT:=l[at_].toNat_lt;refine⟨_,by rw [Int.toNat_natCast];exact aE,S1.II λ dk aY mX cF bE=>?_⟩;have gG:Rd aY (some p) (l.map Ag):=hl.grown bE.below;rw [wrap_i64 (n:=(l[at_].toNat:Int)) (by omega) (by omega)] at bE;rw [wrap_i64 (n:=(at_:Int)+1) (by omega) (by omega)];have ht:Bi l (at_:Int)=(if l[at_].toNat=0 then some ((0,0,E0),at_+1)
   else if l[at_].toNat=1 then (takeN l ((at_:Int)+1)).map λ x=>((1,CB x.1,E0),x.2)
   else if l[at_].toNat=2 then (if (at_:Int)+1<l.length/\(l.getD (at_+1) 0).toNat<=1 then some ((2,((l.getD (at_+1) 0).toNat:Int),E0),at_+2) else none)
   else if l[at_].toNat=3 then (BD l ((at_:Int)+1) 1024).map λ x=>((3,0,BC x.1),x.2)
   else none):=by
  unfold Bi;rw [if_neg (by omega),Int.toNat_natCast,hg]
 generalize eQ:l[at_].toNat=kk at ht bE iT;refine⟨λ s eZ=>∃(nx e:Int) (v:AB),s=[.int .i64 nx,.int .i64 e]/\SH (λ _=>False) w eZ [(dk,#[.int .i64 v.1,.int .i64 v.2.1,.string v.2.2],ty.AW),(b3,#[.int .i64 0,.int .i64 0,.string E0],ty.AW)] /\
   (e≠0->Bi l (at_:Int)=none)/\(e=0->AK v=false->Bi l (at_:Int)=none)/\(e=0->AK v=true->∃ k:Nat,nx=k/\Bi l (at_:Int)=some (v,k)),?_,?_⟩
 ·refine⟨_,bE.cell 0 rfl rfl,Ao (λ h=>?_) (λ n0=>Ao (λ h=>?_) (λ n1=>Ao (λ h=>?_) (λ n2=>Ao (λ h=>?_) (λ n3=>?_))))⟩
  ·have:kk=0:=by omega
   subst this;exact⟨_,_,(0,0,E0),rfl,bE,λ h=>absurd rfl h,λ _ h=>absurd h (by decide),λ _ _=>⟨at_+1,by omega,by rw [ht];simp⟩⟩
  ·have:kk=1:=by omega
   subst this;refine (FB gG hc (by omega) ((at_:Int)+1)).mono ?_;rintro _ aY ⟨_,rfl,rfl,rfl⟩;cases ho:takeN l ((at_:Int)+1) with
   | none =>
    exact⟨_,_,_,rfl,bE.BP 0 rfl (show 1<3 by decide) λ al dn=>⟨_,_,(1,0,E0),rfl,dn,λ _=>by rw [ht,ho];simp,λ h=>absurd h (by decide),λ h=>absurd h (by decide)⟩⟩
   | some x =>
    obtain⟨n,k⟩:=x;exact⟨_,_,_,rfl,bE.BP 0 rfl (show 1<3 by decide) λ al dn=>⟨_,_,(1,CB n,E0),rfl,dn,λ h=>absurd rfl h,λ _ h=>absurd h (by simp [AK]),λ _ _=>⟨k,rfl,by rw [ht,ho];simp⟩⟩⟩
  ·have:kk=2:=by omega
   subst this;refine (AL gG hc (by omega) ((at_:Int)+1)).mono ?_;rintro _ aY ⟨_,rfl,rfl,rfl⟩;have gf:((at_:Int)+1)=((at_+1:Nat):Int):=by omega
   have jz:=QR (l:=l) (at_:=at_+1);cases ho:takeN l ((at_:Int)+1) with
   | none =>
    refine⟨_,_,_,rfl,bE.BP 0 rfl (show 1<3 by decide) λ al dn=>⟨_,_,(2,IntKind.i64.wrap 0,E0),rfl,dn,λ _=>?_,λ h=>absurd h (by decide),λ h=>absurd h (by decide)⟩⟩;rw [ht];simp only [if_neg (show ¬ (2:Nat)=0 by decide),if_neg (show ¬ (2:Nat)=1 by decide),if_true];rw [if_neg];rintro⟨q1,q2⟩;obtain⟨n,k,q3,_⟩:=jz.2 ⟨by omega,q2⟩;rw [<- gf,ho] at q3;cases q3
   | some x =>
    obtain⟨n,k⟩:=x;have hn:=(Az ho).1;refine⟨_,_,_,rfl,bE.BP 0 rfl (show 1<3 by decide) λ al dn=>⟨_,_,(2,IntKind.i64.wrap (n:Int),E0),rfl,dn,λ h=>absurd rfl h,λ _ hf=>?_,λ _ hr=>?_⟩⟩
    ·rw [ht];simp only [if_neg (show ¬ (2:Nat)=0 by decide),if_neg (show ¬ (2:Nat)=1 by decide),if_true];rw [if_neg];rintro⟨q1,q2⟩;obtain⟨n',k',q3,q4⟩:=jz.2 ⟨by omega,q2⟩;rw [<- gf,ho] at q3;cases q3;rcases q4 with rfl | rfl
     ·exact absurd hf (by decide)
     ·exact absurd hf (by decide)
    ·have xp:n=0\/n=1:=by
      have:=Gl hr;simp only at this;rw [CY] at this;split at this <;> omega
     obtain⟨q1,q2⟩:=QR.1 ⟨n,k,gf ▸ ho,xp⟩;obtain⟨q3,q4⟩:=Aet (gf ▸ ho) xp;refine⟨k,rfl,?_⟩;rw [ht];simp only [if_neg (show ¬ (2:Nat)=0 by decide),if_neg (show ¬ (2:Nat)=1 by decide),if_true];rw [if_pos ⟨by omega,q2⟩,<- q3,wrap_i64 (by omega) (by omega),q4]
  ·have:kk=3:=by omega
   subst this;refine (Ex gG hc (by omega) ((at_:Int)+1) 1024).mono ?_;rintro _ aY ⟨_,rfl,rfl,rfl⟩;cases ho:BD l ((at_:Int)+1) 1024 with
   | none =>
    exact⟨_,_,_,rfl,bE.BP 0 rfl (show 2<3 by decide) λ al dn=>⟨_,_,(3,0,E0),rfl,dn,λ _=>by rw [ht,ho];simp,λ h=>absurd h (by decide),λ h=>absurd h (by decide)⟩⟩
   | some x =>
    obtain⟨s,k⟩:=x;have aw:s.length<=1024:=by
     unfold BD at ho;split at ho
     ·split at ho
      ·cases ho
      ·simp only [Option.some.injEq,Prod.mk.injEq] at ho;rw [<- ho.1,List.length_take];omega
     ·cases ho
    exact⟨_,_,_,rfl,bE.BP 0 rfl (show 2<3 by decide) λ al dn=>⟨_,_,(3,0,BC s),rfl,dn,λ h=>absurd rfl h,λ _ h=>absurd h (by simp [AK,A1,aw]),λ _ _=>⟨k,rfl,by rw [ht,ho];simp⟩⟩⟩
  ·have aP:Bi l (at_:Int)=none:=by rw [ht,if_neg (by omega),if_neg (by omega),if_neg (by omega),if_neg (by omega)]
   refine⟨_,_,((kk:Int),0,E0),rfl,bE,λ _=>aP,λ _ _=>aP,λ _ h=>?_⟩;exfalso;have:=Gl h;simp only at this;omega
 ·rintro _ _ eZ ⟨nx,e,v,bS,gS,g1,g2,g3⟩;cases bS;refine Ah (λ h=>gS.TI 1 rfl λ w4 S4=>⟨by rw [g1 h];rfl,S4.below⟩) (λ h=>gS.v3 0 rfl ((EK eZ v).mono ?_));rintro _ iM ⟨_,rfl,rfl,ig⟩;have kJ:=gS.grown ig;refine⟨_,rfl,As (Aq (λ hr=>kJ.v3 0 rfl (kJ.TI 1 rfl λ w4 S4=>⟨?_,S4.below⟩)) (λ hr=>kJ.TI 1 rfl λ w4 S4=>⟨by rw [g2 h hr];rfl,S4.below⟩))⟩;obtain⟨k,rfl,hk⟩:=g3 h hr;rw [hk];rfl
end
end Go.Proofs.YtpnaifmmggnimaaGreatDoor
namespace Go.Dn
open _root_.List renaming getElem?_eq_some_iff -> AkX, getElem?_set_self -> AkZ, getElem_set_ne -> Amo, mem_cons -> AkV, mem_of_getElem? -> AkW, pairwise_iff_getElem -> Amn, set_set -> Ala
open _root_.Nat renaming le_refl -> Ak8, le_trans -> Als
set_option linter.unusedVariables false
set_option maxRecDepth 100000
open Go.RowKit (Below)
structure It where
 CJ:Option Nat
 ok:World->Prop
 st:∀ w w',(∀ k,CJ=some k->w'.heap[k]?=w.heap[k]?)->ok w->ok w'
 lt:∀ w,ok w->∀ k,CJ=some k->k<w.heap.size
def It.obj(b:Nat)(o:Obj):It where
 CJ:=some b
 ok:=λ w=>w.heap[b]?=some o
 st:=λ w w' h h0=>(h b rfl).trans h0
 lt:=λ w h k hk=>by cases hk;exact (Array.getElem?_eq_some_iff.1 h).1
def It.cells(b:Nat)(cs:Array Value)(t:TypeId):It:=It.obj b (.cells cs t (0,0))
def It.row(e:TypeId)(sz:Nat)(a:Option Addr)(n c:Nat)(xs:List Value):It where
 CJ:=AD a
 ok:=λ w=>Row w e sz a n c xs
 st:=λ w w' h h0=>by
  refine⟨h0.1,?_⟩;rcases h0.2 with h1 | ⟨g,cur,rfl,hg,r⟩
  ·exact .inl h1
  ·exact .inr ⟨g,cur,rfl,(h g rfl).trans hg,r⟩
 lt:=λ w h k hk=>h.lt hk
def It.rd(a:Option Addr)(xs:List Value):It where
 CJ:=match xs with | []=>none | _=>AD a
 ok:=λ w=>Rd w a xs
 st:=λ w w' h h0=>by
  intro j v hv;obtain⟨p,hp,hc⟩:=h0 j v hv;subst hp;refine⟨p,rfl,?_⟩;cases xs with
  | nil=>simp at hv
  | cons x xs =>
   rw [World.cell?_of_block (w:=w) (by rw [DN];exact h p.block rfl)];exact hc
 lt:=λ w h k hk=>by
  cases xs with
  | nil=>cases hk
  | cons x xs =>
   obtain⟨p,rfl,hc⟩:=h 0 x rfl;have:=World.block_lt_of_cell? _ _ hc;rw [DN] at this;cases hk;exact this
structure ST(w0 w:World)(H:List It):Prop where
 Ar:Below w0.heap.size w0 w
 ok:∀ x∈H,x.ok w
 nd:H.Pairwise (λ x y=>∀ k,x.CJ=some k->y.CJ≠some k)
 own:∀ x∈H,∀ k,x.CJ=some k->w0.heap.size<=k
section
variable {w0 w:World}{H:List It}
theorem ST.start(w:World):ST w w []:=⟨.refl _ _,by simp,by simp,by simp⟩
theorem ST.get(S:ST w0 w H)(n:Nat){x:It}(hn:H[n]?=some x):x.ok w:=S.ok x (AkW hn)
theorem ST.grown(S:ST w0 w H){w':World}(h:Below w.heap.size w w'):ST w0 w' H where
 Ar:=S.Ar.trans (h.mono S.Ar.size)
 ok:=λ x hx=>x.st w w' (λ k hk=>h.block k (x.lt w (S.ok x hx) k hk)) (S.ok x hx)
 nd:=S.nd
 own:=S.own
theorem ST.add(S:ST w0 w H){w':World}(h:Below w.heap.size w w')(y:It)(hy:y.ok w')(hb:∀ k,y.CJ=some k->w.heap.size<=k):ST w0 w' (y :: H) where
 Ar:=(S.grown h).Ar
 ok:=λ x hx=>by
  rcases AkV.1 hx with rfl | hx
  ·exact hy
  ·exact (S.grown h).ok x hx
 nd:=List.pairwise_cons.2 ⟨λ x hx k hk dV=>by have:=x.lt w (S.ok x hx) k dV;have:=hb k hk;omega,S.nd⟩
 own:=λ x hx k hk=>by
  rcases AkV.1 hx with rfl | hx
  ·exact Als S.Ar.size (hb k hk)
  ·exact S.own x hx k hk
theorem Yx{l:List It}(h:l.Pairwise (λ x y=>∀ k,x.CJ=some k->y.CJ≠some k)){i j:Nat}{x y:It}(hi:l[i]?=some x)(hj:l[j]?=some y)(aQ:i≠j){k:Nat}(hk:x.CJ=some k):y.CJ≠some k:=by
 obtain⟨h1,rfl⟩:=AkX.1 hi;obtain⟨h2,rfl⟩:=AkX.1 hj;rcases Nat.lt_or_gt_of_ne aQ with aB | aB
 ·exact (Amn.1 h) i j h1 h2 aB k hk
 ·intro he;exact (Amn.1 h) j i h2 h1 aB k he hk
theorem ST.I2(S:ST w0 w H)(n:Nat){x:It}(hn:H[n]?=some x){w':World}(K:Ai (λ k=>x.CJ=some k) w w')(y:It)(hy:y.ok w')(hb:∀ k,y.CJ=some k->x.CJ=some k\/w.heap.size<=k):ST w0 w' (H.set n y) where
 Ar:=S.Ar.trans (K.below S.Ar.size λ k hk h=>by have:=S.own x (AkW hn) k h;omega)
 ok:=by
  intro z hz;obtain⟨i,hi⟩:=List.mem_iff_getElem?.1 hz;by_cases cD:n=i
  ·subst cD;rw [AkZ (AkX.1 hn).1] at hi;cases hi;exact hy
  ·rw [List.getElem?_set_ne cD] at hi;have eA:=S.ok z (AkW hi);refine z.st w w' (λ k hk=>K.block k (z.lt w eA k hk) ?_) eA;exact λ h=>Yx S.nd hi hn (Ne.symm cD) hk h
 nd:=by
  refine Amn.2 λ i j hi hj dO k hk dV=>?_;rw [List.length_set] at hi hj;have nU:=(AkX.1 hn).1;have old:∀ {i j:Nat} (hi:i<H.length) (hj:j<H.length),i≠j->H[i].CJ=some k->H[j].CJ≠some k:=λ hi hj aQ h=>Yx S.nd (List.getElem?_eq_getElem hi) (List.getElem?_eq_getElem hj) aQ h;have hx:H[n]=x:=(AkX.1 hn).2;have fw:∀ {j:Nat} (hj:j<H.length),j≠n->H[j].CJ=some k->y.CJ≠some k:=λ {j} hj aQ h h'=>by
   rcases hb k h' with h2 | h2
   ·rw [<- hx] at h2;exact old nU hj (Ne.symm aQ) h2 h
   ·have:=H[j].lt w (S.ok _ (List.getElem_mem hj)) k h;omega
  by_cases h1:n=i
  ·subst h1;rw [List.getElem_set_self] at hk;rw [Amo (by omega)] at dV;exact fw hj (by omega) dV hk
  ·rw [Amo h1] at hk;by_cases h2:n=j
   ·subst h2;rw [List.getElem_set_self] at dV;exact fw hi (by omega) hk dV
   ·rw [Amo h2] at dV;exact old hi hj (by omega) hk dV
 own:=by
  intro z hz k hk;obtain⟨i,hi⟩:=List.mem_iff_getElem?.1 hz;by_cases cD:n=i
  ·subst cD;rw [AkZ (AkX.1 hn).1] at hi;cases hi;rcases hb k hk with h | h
   ·exact S.own x (AkW hn) k h
   ·exact Als S.Ar.size h
  ·rw [List.getElem?_set_ne cD] at hi;exact S.own z (AkW hi) k hk
theorem ST.sub(S:ST w0 w H){H':List It}(h:H'.Sublist H):ST w0 w H':=⟨S.Ar,λ x hx=>S.ok x (h.subset hx),S.nd.sublist h,λ x hx=>S.own x (h.subset hx)⟩
theorem ST.drop(S:ST w0 w H)(n:Nat):ST w0 w (H.drop n):=S.sub (List.drop_sublist _ _)
theorem ST.perm(S:ST w0 w H){H':List It}(h:H.Perm H'):ST w0 w H' :=
 ⟨S.Ar,λ x hx=>S.ok x (h.mem_iff.2 hx),(h.pairwise_iff (λ h k hk dV=>h k dV hk)).1 S.nd,λ x hx=>S.own x (h.mem_iff.2 hx)⟩
theorem ST.pull(S:ST w0 w H)(n:Nat){x:It}(hn:H[n]?=some x):ST w0 w (x :: H.eraseIdx n) where
 Ar:=S.Ar
 ok:=λ y hy=>by
  rcases AkV.1 hy with rfl | hy
  ·exact S.get n hn
  ·exact S.ok y (List.mem_of_mem_eraseIdx hy)
 nd:=by
  refine List.pairwise_cons.2 ⟨λ y hy k hk dV=>?_,S.nd.sublist (List.eraseIdx_sublist ..)⟩;obtain⟨i,hi,aQ⟩:=List.mem_eraseIdx_iff_getElem?.1 hy;exact Yx S.nd hn aQ (Ne.symm hi) hk dV
 own:=λ y hy=>by
  rcases AkV.1 hy with rfl | hy
  ·exact S.own _ (AkW hn)
  ·exact S.own y (List.mem_of_mem_eraseIdx hy)
theorem ST.join(S:ST w0 w H){w':World}{P:List It}(T:ST w w' P):ST w0 w' (P++H) where
 Ar:=S.Ar.trans (T.Ar.mono S.Ar.size)
 ok:=λ x hx=>by
  rcases List.mem_append.1 hx with h | h
  ·exact T.ok x h
  ·exact (S.grown T.Ar).ok x h
 nd:=List.pairwise_append.2 ⟨T.nd,S.nd,λ x hx y hy k hk dV=>by have:=T.own x hx k hk;have:=y.lt w (S.ok y hy) k dV;omega⟩
 own:=λ x hx k hk=>by
  rcases List.mem_append.1 hx with h | h
  ·exact Als S.Ar.size (T.own x h k hk)
  ·exact S.own x h k hk
theorem ST.An(S:ST w0 w H){cs:Array Value}{t:TypeId}{k:Nat->World->Prop}(hk:∀ b w',w.heap.size<=b->Below w.heap.size w w'->ST w0 w' (It.cells b cs t :: H)->k b w'):DM cs t k w :=
 hk _ _ (Ak8 _) ((Below.refl _ w).alloc (Ak8 _) _) (S.add ((Below.refl _ w).alloc (Ak8 _) _) _ (heap_alloc_new w _) (λ k hk=>by cases hk;exact Ak8 _))
theorem ST.draw(S:ST w0 w H){k:World->Prop}(hk:∀ w',Below w.heap.size w w'->ST w0 w' H->k w'):QI k w:=hk _ ((Below.refl _ w).drew) (S.grown ((Below.refl _ w).drew))
theorem ST.cell(S:ST w0 w H)(n:Nat){b:Nat}{cs:Array Value}{t:TypeId}(hn:H[n]?=some (It.cells b cs t)){i:Nat}{v:Value}(hv:cs[i]?=some v):w.cell? ⟨b,i,none⟩=some v:=by
 have:w.heap[b]?=some (.cells cs t (0,0)):=S.get n hn;simp [World.cell?,this,hv]
theorem ST.CJ(S:ST w0 w H)(n:Nat){b:Nat}{cs:Array Value}{t:TypeId}(hn:H[n]?=some (It.cells b cs t)):w.heap[b]?=some (.cells cs t (0,0)):=S.get n hn
theorem ST.GD(S:ST w0 w H)(n:Nat){b:Nat}{cs:Array Value}{t:TypeId}(hn:H[n]?=some (It.cells b cs t)):Rd w (some ⟨b,0,none⟩) cs.toList:=Rd.Ak (S.CJ n hn)
theorem ST.rw(S:ST w0 w H)(n:Nat){e:TypeId}{sz:Nat}{a:Option Addr}{m c:Nat}{xs:List Value}(hn:H[n]?=some (It.row e sz a m c xs)):Row w e sz a m c xs:=S.get n hn
theorem ST.rd(S:ST w0 w H)(n:Nat){e:TypeId}{sz:Nat}{a:Option Addr}{m c:Nat}{xs:List Value}(hn:H[n]?=some (It.row e sz a m c xs)):Rd w a xs:=(S.rw n hn).rd
theorem ST.BP(S:ST w0 w H)(n:Nat){b:Nat}{cs aC:Array Value}{t:TypeId}(hn:H[n]?=some (It.cells b cs t)){i:Nat}{v:Value}{k:World->Prop}(hi:i<cs.size)(hc:cs.setIfInBounds i v=aC)
  (hk:∀ w',ST w0 w' (H.set n (It.cells b aC t))->k w'):DY ⟨b,i,none⟩ v k w:=by
 subst hc;have hb:=S.CJ n hn;refine⟨by rw [S.cell n hn (Array.getElem?_eq_getElem hi)];rfl,by simp [World.frozen?,hb],hk _ (S.I2 n hn ((Fh w b i v).mono λ k _ h=>by subst h;rfl) _ (Fv hb v) (λ k hk=>.inl hk))⟩
theorem ST.Er(S:ST w0 w H)(n:Nat){b:Nat}{cs:Array Value}{t:TypeId}(hn:H[n]?=some (It.cells b cs t)){vs:List Value}(hl:vs.length=cs.size)(h1:∀ v∈vs,v.oneCell'=true)
  {k:World->Prop} (hk:∀ w',ST w0 w' (H.set n (It.cells b ⟨vs⟩ t))->k w'):CT vs ⟨b,0,none⟩ 0 k w :=
 NI vs (S.CJ n hn) (by omega) h1 λ w' K hb=>hk w' (S.I2 n hn (K.mono λ k _ h=>by subst h;rfl) _ (by rw [Vy vs cs hl] at hb;exact hb) (λ k hk=>.inl hk))
theorem ST.II(S:ST w0 w H){z0 z1 z2 v0 v1 v2:Value}{t:TypeId}{k:Nat->World->Prop}(hk:∀ b w',w.heap.size<=b->ST w0 w' (It.cells b #[v0,v1,v2] t :: H)->k b w') :
  DM #[z0,z1,z2] t (λ b w=>DY ⟨b,0,none⟩ v0 (λ w=>DY ⟨b,1,none⟩ v1 (λ w=>DY ⟨b,2,none⟩ v2 (λ w=>k b w) w) w) w) w :=
 S.An λ b w1 hb _ S1=>S1.BP 0 rfl (aC:=#[v0,z1,z2]) (by simp) rfl λ w2 S2=>S2.BP 0 rfl (aC:=#[v0,v1,z2]) (by simp) rfl λ w3 S3=>S3.BP 0 rfl (aC:=#[v0,v1,v2]) (by simp) rfl λ w4 S4=>hk b w4 hb S4
theorem ST.Abs(S:ST w0 w H)(n:Nat){b:Nat}{x0 x1 x2 x3 x4 x5 x6 v0 v1 v2 v3 v4 v5 v6:Value}{t:TypeId}(hn:H[n]?=some (It.cells b #[x0,x1,x2,x3,x4,x5,x6] t)){k:World->Prop}
  (hk:∀ w',ST w0 w' (H.set n (It.cells b #[v0,v1,v2,v3,v4,v5,v6] t))->k w') :
  DY ⟨b,0,none⟩ v0 (λ w=>DY ⟨b,1,none⟩ v1 (λ w=>DY ⟨b,2,none⟩ v2 (λ w=>DY ⟨b,3,none⟩ v3 (λ w=>DY ⟨b,4,none⟩ v4 (λ w=>DY ⟨b,5,none⟩ v5 (λ w=>DY ⟨b,6,none⟩ v6 k w) w) w) w) w) w) w:=by
 have aB:=(AkX.1 hn).1;refine S.BP n hn (aC:=#[v0,x1,x2,x3,x4,x5,x6]) (by simp) rfl λ w1 S1=>?_;refine S1.BP n (AkZ aB) (aC:=#[v0,v1,x2,x3,x4,x5,x6]) (by simp) rfl λ w2 S2=>?_;rw [Ala] at S2;refine S2.BP n (AkZ aB) (aC:=#[v0,v1,v2,x3,x4,x5,x6]) (by simp) rfl λ w3 S3=>?_;rw [Ala] at S3;refine S3.BP n (AkZ aB) (aC:=#[v0,v1,v2,v3,x4,x5,x6]) (by simp) rfl λ w4 S4=>?_;rw [Ala] at S4;refine S4.BP n (AkZ aB) (aC:=#[v0,v1,v2,v3,v4,x5,x6]) (by simp) rfl λ w5 S5=>?_;rw [Ala] at S5;refine S5.BP n (AkZ aB) (aC:=#[v0,v1,v2,v3,v4,v5,x6]) (by simp) rfl λ w6 S6=>?_;rw [Ala] at S6;refine S6.BP n (AkZ aB) (aC:=#[v0,v1,v2,v3,v4,v5,v6]) (by simp) rfl λ w7 S7=>?_;rw [Ala] at S7;exact hk w7 S7
theorem ST.nil(S:ST w0 w H)(e:TypeId)(sz:Nat):ST w0 w (It.row e sz none 0 0 [] :: H):=S.add (.refl _ _) _ (Row.nil w e sz) (λ k hk=>by cases hk)
theorem ST.app(S:ST w0 w H)(n:Nat){P:Program}{t ty e:TypeId}{sz bytes:Nat}{z:Value}{a:Option Addr}{m c:Nat}{xs:List Value}(hn:H[n]?=some (It.row e sz a m c xs))(hT:M9 P t=some (e,sz,bytes,z))(hz:z.cells.size=sz)(aw:0<sz)(bg:0<bytes)
  {b:Option Addr} {mm mc:Nat} {news:List Value} (hs:Rd w b news) (hl:news.length=mm*sz) (h1:∀ u∈news,u.oneCell'=true) (db:(m+mm)*bytes<=140737488355328) {f:Value->World->Prop}
  (hf:∀ a' c' w',ST w0 w' (H.set n (It.row e sz a' (m+mm) c' (xs++news)))->f (.slice a' (m+mm) c') w'):DB P (Builtin.append_ #[t,t] ty #[.slice a m c,.slice b mm mc]) f w:=by
 obtain⟨a',c',w',aH,aJ,hk,bG⟩:=BZ (ty:=ty) (mc:=mc) hT hz aw bg (S.rw n hn) hs hl h1 db;unfold DB;rw [aH];exact hf a' c' w' (S.I2 n hn hk _ aJ bG)
theorem ST.range(S:ST w0 w H)(rr:Loop):ST w0 ((w.alloc (.deferred (some []))).alloc (.loop rr)) (It.obj (w.heap.size+1) (.loop rr) :: It.obj w.heap.size (.deferred (some [])) :: H):=by
 have B1:Below w.heap.size w (w.alloc (.deferred (some []))):=(Below.refl _ w).alloc (Ak8 _) _;have S1:=S.add B1 (It.obj w.heap.size (.deferred (some []))) (heap_alloc_new w _) (λ k hk=>by cases hk;exact Ak8 _);have S2:=S1.add ((Below.refl _ _).alloc (Ak8 _) (.loop rr)) (It.obj (w.alloc (.deferred (some []))).heap.size (.loop rr)) (heap_alloc_new _ _) (λ k hk=>by cases hk;exact Ak8 _);rwa [World.size_alloc] at S2
theorem W9(w:World)(l:Nat)(o:Obj):Ai (·=l) w (w.putObj l o):=⟨rfl,rfl,rfl,by simp,λ k _ hn=>World.putObj_heap_other hn⟩
theorem ST.put(S:ST w0 w H)(n:Nat){b:Nat}{o:Obj}(hn:H[n]?=some (It.obj b o))(o':Obj):ST w0 (w.putObj b o') (H.set n (It.obj b o')) :=
 S.I2 n hn ((W9 w b o').mono λ k _ h=>by subst h;rfl) _ (World.putObj_heap_same (Array.getElem?_eq_some_iff.1 (S.get n hn)).1) (λ k hk=>.inl hk)
theorem ST.AjN(S:ST w0 w H)(n:Nat){L:Nat}{rr:Loop}(hn:H[n]?=some (It.obj L (.loop rr))){k:World->Prop}(hk:∀ w',ST w0 w' (H.set n (It.obj L (.loop { rr with state:=.busy })))->k w'):QG rr L k w :=
 ⟨S.get n hn,hk _ (S.put n hn _)⟩
theorem Rd.Ain{w:World}{a:Option Addr}{xs:List Value}(h:Rd w a xs){L:Nat}{rr:Loop}(hL:w.heap[L]?=some (.loop rr))(o:Obj):Rd (w.putObj L o) a xs:=by
 intro j v hv;obtain⟨p,hp,hc⟩:=h j v hv;refine⟨p,hp,(W9 w L o).cell hc ?_⟩;intro he;have k6:(p.add j).block=L:=he;simp [World.cell?,k6,hL] at hc
theorem ST.AjO(S:ST w0 w H)(n:Nat){L:Nat}{rr:Loop}(hn:H[n]?=some (It.obj L (.loop rr))){k:World->Prop}(hk:∀ w',(∀ a xs,Rd w a xs->Rd w' a xs)->ST w0 w' (H.set n (It.obj L (.loop { rr with state:=.busy })))->k w'):QG rr L k w :=
 ⟨S.get n hn,hk _ (λ _ _ h=>h.Ain (S.get n hn) _) (S.put n hn _)⟩
theorem ST.keep{x:It}(S:ST w0 w (x :: H))(n:Nat):ST w0 w (x :: H.drop n):=S.sub ((List.drop_sublist n H).cons_cons x)
theorem AdU{rr:Loop}(h1:rr.state=.ready)(h2:rr.pending=none):({ rr with state:=if (none:Option Code).isNone then .ready else .done,pending:=none }:Loop)=rr:=by
 cases rr;simp_all
theorem ST.Agh(S:ST w0 w H)(n:Nat){L:Nat}{rr:Loop}(h1:rr.state=.ready)(h2:rr.pending=none)(hn:H[n]?=some (It.obj L (.loop { rr with state:=.busy }))){k:Bool->World->Prop}(hk:∀ w',ST w0 w' (H.set n (It.obj L (.loop rr)))->k true w'):Gb rr L k none w:=by
 refine⟨S.get n hn,?_⟩;have:=S.put n hn (.loop { rr with state:=if (none:Option Code).isNone then .ready else .done,pending:=none });rw [AdU h1 h2] at this ⊢;exact hk _ this
theorem ST.AjU(S:ST w0 w H)(n:Nat){L:Nat}{rr:Loop}{j:Code}(hn:H[n]?=some (It.obj L (.loop { rr with state:=.busy }))){k:Bool->World->Prop}(hk:∀ w',ST w0 w' (H.set n (It.obj L (.loop { rr with state:=.done,pending:=some j })))->k false w'):Gb rr L k (some j) w :=
 ⟨S.get n hn,hk _ (S.put n hn _)⟩
theorem ST.Agg(S:ST w0 w H)(n:Nat){L:Nat}{rr:Loop}(h1:rr.state=.ready)(h2:rr.pending=none)(hn:H[n]?=some (It.obj L (.loop rr))){k:Option Code->World->Prop}(hk:∀ w',ST w0 w' (H.set n (It.obj L (.loop { rr with state:=.exhausted,pending:=none })))->k none w'):QJ rr L k w :=
 ⟨none,by rw [AdU h1 h2];exact S.get n hn,hk _ (S.put n hn _)⟩
theorem ST.AjT(S:ST w0 w H)(n:Nat){L:Nat}{rr:Loop}{j:Code}(hn:H[n]?=some (It.obj L (.loop { rr with state:=.done,pending:=some j }))){k:Option Code->World->Prop}(hk:∀ w',ST w0 w' (H.set n (It.obj L (.loop { rr with state:=.exhausted,pending:=some j })))->k (some j) w'):QJ rr L k w :=
 ⟨some j,S.get n hn,hk _ (S.put n hn _)⟩
theorem O8.mono{P:Program}{l:Nat}{args:Array Value}{k k':Bool->World->Prop}{w:World}(h:O8 P l args k w)(hk:∀ y w',k y w'->k' y w'):O8 P l args k' w:=by
 obtain⟨f,tm,asg,bo,hy,hr⟩:=h;refine⟨f,tm,asg,bo,hy,hr.mono ?_⟩;rintro e w' ⟨t,he,h⟩;exact⟨t,he,hk t w' h⟩
end
end Go.Dn
namespace Go.Proofs.YtpnaifmmggnimaaGreatDoor
open _root_.Array renaming getElem?_eq_some_iff -> AlQ
open _root_.Bool renaming and_eq_true -> AkM
open _root_.Int renaming natCast_nonneg -> Al2, toNat_natCast -> Ale
open _root_.List renaming all_eq_true -> AlM, drop_left -> Amu, getElem_mem -> AlS, length_append -> Alb, length_cons -> Ald, length_map -> Alr, length_nil -> Amp, length_take -> Al7, mem_cons_of_mem -> AlO, mem_cons_self -> AlN, mem_map -> AkU, take_of_length_le -> AlK
open _root_.Nat renaming add_assoc -> Amr, lt_of_lt_of_le -> AkY, mod_lt -> AlC, mul_comm -> Alp, mul_le_mul -> Al0, pow_le_pow_right -> Alw, succ_mul -> Amq
open _root_.Option renaming map_eq_some_iff -> Amt
open _root_.Option.some renaming injEq -> Ams
open _root_.UInt8 renaming ofNat -> Alj
set_option maxRecDepth 100000
open Go.Dn Go.Proofs
open Go.RowKit (Below)
set_option linter.unusedVariables false
def GW(c:BQ)(v:AB):Bool:=AK v && (decide (v.1=c.2.1) || (c.2.2 && decide (v.1=0)))
def V6(cs:List BQ)(row:List AB):Bool:=(cs.zip row).all λ p=>GW p.1 p.2
def C8(cs:List BQ)(row:List AB):Bool:=decide (row.length=cs.length) && V6 cs row
theorem Z5{cs:List BQ}{row:List AB}{i:Nat}(h1:i<cs.length)(h2:i<row.length)(h:GW cs[i] row[i]=false):V6 cs row=false:=by
 unfold V6;rw [List.all_eq_false];exact⟨(cs[i],row[i]),List.mem_iff_getElem.2 ⟨i,by simp;omega,by simp⟩,by simp [h]⟩
theorem Z4{cs:List BQ}{row:List AB}(h:∀ i (h1:i<cs.length) (h2:i<row.length),GW cs[i] row[i]=true):V6 cs row=true:=by
 unfold V6;rw [AlM];intro p hp;obtain⟨i,hi,rfl⟩:=List.mem_iff_getElem.1 hp;simp only [List.length_zip] at hi;simp only [List.getElem_zip];exact h i (by omega) (by omega)
section
variable {w:World}{a a2:Option Addr}{c c2:Nat}{cs:List BQ}{row:List AB}
def Akp(c:BQ):Value:=.agg #[.string c.1,.int .i64 c.2.1,.bool c.2.2]
theorem AaE{L b1 b2:Nat}(hn:cs.length<=9223372036854775807)(hr:row.length=cs.length)(J:Nat->World->Prop)(D:World->Prop)(cw:∀ k w,J k w->Rd w a (BM cs)/\Rd w a2 (AP row)/\w.cell? ⟨b2,0,none⟩=some (.slice a2 row.length c2))
  (bu:∀ k w w',J k w->Below w.heap.size w w'->J k w') (ae:∀ k w (h1:k<cs.length) (h2:k<row.length),J k w->O8 Tryz.prog L #[Akp cs[k],TQ row[k]] (λ y w'=>(y=true/\J (k+1) w')\/(y=false/\D w')) w)
  (h0:J 0 w) (hb:w.cell? ⟨b1,0,none⟩=some (.slice a cs.length c)) :
  Calls Tryz.prog f.Ko #[.func (.yield L) #[] #[],.pointer (some ⟨b1,0,none⟩),.pointer (some ⟨b2,0,none⟩)] w (AG λ _ w'=>J cs.length w'\/D w'):=by
 apply R.KI
 delta R.A R.Ab R.D R.E R.F R.G R.H R.I R.Lb R.Li R.Ls R.Lt R.N R.Qi R.Am R.T R.W R.X;try dsimp only [R.Ps]
 refine⟨_,_,_,hb,λ s w1=>∃ k:Nat,k<=cs.length/\s=[.int .i64 (k:Int)]/\J k w1,λ s _=>match s with
   | [.int _ i]=>cs.length-i.toNat
   | _=>0,⟨0,by omega,rfl,h0⟩,?_⟩
 rintro _ w1 ⟨k,hk,aA,hj⟩;cases aA;refine Aa (λ aB=>⟨⟨by omega,aB⟩,?_⟩) (λ aI=>?_)
 ·have aO:k<cs.length:=by omega
  have oe:k<row.length:=by omega
  obtain⟨p,rfl,c0,c1,c2⟩:=FQ (cw _ _ hj).1 aO;refine⟨_,by rw [Ale];exact c0,_,by rw [Ale];exact c1,_,by rw [Ale];exact c2,(ST.start w1).II λ b9 w5 rZ S5=>S5.draw λ w6 B6 S6=>?_⟩;have rj:=bu _ _ _ hj S6.Ar;obtain⟨_,r2,r3⟩:=cw _ _ rj;obtain⟨q,rfl,d0,d1,d2⟩:=Di r2 oe;refine⟨_,S6.cell 0 rfl rfl,_,S6.cell 0 rfl rfl,_,S6.cell 0 rfl rfl,_,_,_,r3,⟨by omega,by omega⟩,_,by rw [Ale];exact d0,_,by rw [Ale];exact d1,_,by rw [Ale];exact d2,?_⟩;rw [Ae (by omega)];have cM:cs.length-((k+1:Nat):Int).toNat<cs.length-((k:Nat):Int).toNat:=by
   simp only [Ale];omega
  refine (ae k w6 aO oe rj).mono ?_;rintro y w7 (⟨rfl,h⟩ | ⟨rfl,h⟩)
  ·exact AV ⟨⟨k+1,by omega,rfl,h⟩,cM⟩
  ·exact CN (.inr h)
 ·have:k=cs.length:=by omega
  subst this;exact .inl hj
theorem TK:Calls Tryz.prog f.Y1 #[.slice a cs.length c,.slice a2 row.length c2] w (AG λ v w'=>∃ b1 b2,v=.func (.func f.Ko) #[] #[.pointer (some ⟨b1,0,none⟩),.pointer (some ⟨b2,0,none⟩)] /\
  ST w w' [It.cells b2 #[.slice a2 row.length c2] ty.CG,It.cells b1 #[.slice a cs.length c] ty.AX]):=by
 apply R.OJ
 delta R.J R.N R.P R.S;try dsimp only [R.Ps]
 exact (ST.start w).An λ b1 w1 _ _ S1=>S1.An λ b2 w2 _ _ S2=>⟨b1,b2,rfl,S2⟩
theorem HX(hl:Rd w a (BM cs))(hn:cs.length<=9223372036854775807)(hr:Rd w a2 (AP row)) :
  Calls Tryz.prog f.Abk #[.slice a cs.length c,.slice a2 row.length c2] w (AG λ r w'=>r=.bool (C8 cs row)/\Below w.heap.size w w'):=by
 apply R.Qg
 delta R.A R.Ab R.Cb R.Cf R.E R.F R.G R.I R.Lb R.Li R.Lt R.N R.S R.Am R.T;try dsimp only [R.Ps]
 refine (ST.start w).An λ b3 w1 _ _ S1=>Ah (λ h=>S1.BP 0 rfl (aC:=#[.bool false]) (by simp) rfl λ w2 S2=>⟨_,S2.cell 0 rfl rfl,?_,S2.Ar⟩) (λ hlen=>?_)
 ·have:¬ row.length=cs.length:=by omega
  simp [C8,this]
 have bJ:row.length=cs.length:=by omega
 have k7:C8 cs row=V6 cs row:=by simp [C8,bJ]
 refine TK.mono ?_;rintro _ w3 ⟨_,rfl,b1,b2,rfl,P3⟩;have S3:=S1.join P3;refine⟨_,_,_,rfl,by kernel_rfl,λ rr aA dW hy=>?_⟩;have S4:=S3.range rr;obtain⟨L,hL⟩:∃ L,L=w3.heap.size+1:=⟨_,rfl⟩;obtain⟨d,hd⟩:∃ d,d=w3.heap.size:=⟨_,rfl⟩;rw [<- hL] at S4 hy ⊢;rw [<- hd] at S4 ⊢;let St:Obj->World->Prop:=λ o wx=>ST w wx [It.obj L o,It.obj d (.deferred (some [])),It.cells b2 #[.slice a2 row.length c2] ty.CG,It.cells b1 #[.slice a cs.length c] ty.AX,It.cells b3 #[.bool false] ty.bool];let J:Nat->World->Prop:=λ q wx=>(∀ i (h1:i<cs.length) (h2:i<row.length),i<q->GW cs[i] row[i]=true)/\St (.loop rr) wx;let D:World->Prop:=λ wx=>V6 cs row=false/\St (.loop { rr with state:=.done,pending:=some .ret }) wx;have ay:=AaE (w:=(w3.alloc (.deferred (some []))).alloc (.loop rr)) (c:=c) (L:=L) (b1:=b1) hn bJ J D (λ q wx hj=>⟨hl.grown hj.2.Ar,hr.grown hj.2.Ar,hj.2.cell 2 rfl rfl⟩) (λ q wx wy hj B=>⟨hj.1,hj.2.grown B⟩) (by
  rintro q wx h1 h2 ⟨aF,S⟩;refine hy _ _ _ _ _ _ _ wx (S.get 0 rfl) ?_;refine S.II λ iq w8 _ S=>S.II λ jt bK _ S=>S.AjN 2 rfl λ al S=>⟨_,S.cell 0 rfl rfl,_,S.cell 0 rfl rfl,_,S.cell 0 rfl rfl,(EK al row[q]).mono ?_⟩;rintro _ an ⟨_,rfl,rfl,oz⟩;have S:=S.grown oz;have D7:GW cs[q] row[q]=true->Gb rr L (λ y w'=>(y=true/\J (q+1) w')\/(y=false/\D w')) none an:=λ hf=>S.Agh 2 aA dW rfl λ w' S=>.inl ⟨rfl,⟨λ i g1 g2 hi=>by
   rcases Nat.lt_or_ge i q with h | h
   ·exact aF i g1 g2 h
   ·obtain rfl:i=q:=by omega
    exact hf,S.drop 2⟩⟩
  have bad:GW cs[q] row[q]=false->DY ⟨b3,0,none⟩ (.bool false) (λ ah=>Gb rr L (λ y w'=>(y=true/\J (q+1) w')\/(y=false/\D w')) (some .ret) ah) an:=λ hf=>S.BP 6 rfl (aC:=#[.bool false]) (by simp) rfl λ ah S=>S.AjU 2 rfl λ w' S=>.inr ⟨rfl,⟨Z5 h1 h2 hf,S.drop 2⟩⟩;refine⟨_,rfl,As (Aq (λ hR=>⟨_,S.cell 0 rfl rfl,_,S.cell 1 rfl rfl,?_⟩) (λ hR=>bad (by simp [GW,hR])))⟩;refine Ah (λ hk=>⟨_,S.cell 1 rfl rfl,Aq (λ iY=>⟨_,S.cell 0 rfl rfl,As (Ao (λ hz=>D7 ?_) (λ hz=>bad ?_))⟩) (λ iY=>bad ?_)⟩) (λ hk=>D7 ?_)
  ·simp [GW,hR,iY,hz]
  ·simp [GW,hR,hk,hz]
  ·simp [GW,hk,iY]
  ·simp [GW,hR,hk]) ⟨λ i _ _ h=>by omega,S4⟩ (S4.cell 3 rfl rfl)
 refine ay.mono ?_;rintro _ eZ ⟨_,rfl,h⟩;refine⟨⟨_,rfl⟩,?_⟩;rcases h with ⟨aF,S⟩ | ⟨hf,S⟩
 ·refine S.Agg 0 aA dW rfl λ fB S=>.inl ⟨rfl,S.BP 4 rfl (aC:=#[.bool true]) (by simp) rfl λ fC S=>⟨S.get 1 rfl,?_⟩⟩;have S:=S.put 1 rfl (.deferred none);refine⟨_,S.cell 4 rfl rfl,?_,S.Ar⟩;rw [k7,Z4 λ i h1 h2=>aF i h1 h2 h1]
 ·refine S.AjT 0 rfl λ fB S=>.inr ⟨rfl,S.get 1 rfl,?_⟩;have S:=S.put 1 rfl (.deferred none);refine⟨_,S.cell 4 rfl rfl,?_,S.Ar⟩;rw [k7,hf]
theorem Vp(hl:Rd w a (BM cs))(hn:cs.length<=9223372036854775807)(hq:∀ c∈cs,c.1.size<=9223372036854775807)(hr:Rd w a2 (AP row)) :
  Calls Tryz.prog f.Abi #[.slice a cs.length c,.slice a2 row.length c2] w (AG λ r w'=>r=.bool (Ap cs && C8 cs row)/\Below w.heap.size w w'):=by
 apply R.Qd
 delta R.Cb R.F R.G R.S;try dsimp only [R.Ps]
 refine (Ee hl hn hq).mono ?_;rintro _ w1 ⟨_,rfl,rfl,B1⟩;refine⟨_,rfl,Aq (λ h=>(HX (hl.grown B1) hn (hr.grown B1)).mono ?_) (λ h=>⟨by simp [h],B1⟩)⟩;rintro _ w2 ⟨_,rfl,rfl,B2⟩;exact⟨_,rfl,by simp [h],Ac B1 B2⟩
theorem IL(hl:Rd w a (BM cs))(hn:cs.length<=9223372036854775807)(hq:∀ c∈cs,c.1.size<=9223372036854775807)(hr:Rd w a2 (AP row)) :
  Calls Tryz.prog f.AcQ #[.slice a cs.length c,.slice a2 row.length c2] w (AG λ r w'=>r=.bool (Ap cs && C8 cs row)/\Below w.heap.size w w'):=by
 apply R.RE
 delta R.Cb R.D R.E R.F R.G R.I R.Lb R.Li R.Lt R.Qi R.S R.T R.W R.X;try dsimp only [R.Ps]
 refine (DV hl hn hq).mono ?_;rintro _ w1 ⟨_,rfl,rfl,rfl⟩;refine⟨_,rfl,As (Aq (λ hR=>?_) (λ h=>⟨by simp [h],.refl _ _⟩))⟩;refine Ah (λ h=>⟨?_,.refl _ _⟩) (λ hlen=>?_)
 ·have:¬ row.length=cs.length:=by omega
  simp [C8,this]
 have bJ:row.length=cs.length:=by omega
 have k7:(Ap cs && C8 cs row)=V6 cs row:=by simp [C8,bJ,hR]
 rw [k7];refine⟨λ s w2=>∃ k:Nat,k<=cs.length/\s=[.int .i64 (k:Int)]/\(∀ i (h1:i<cs.length) (h2:i<row.length),i<k->GW cs[i] row[i]=true)/\Below w1.heap.size w1 w2,λ s _=>match s with
   | [.int _ i]=>cs.length-i.toNat
   | _=>0,⟨0,by omega,rfl,λ i _ _ h=>by omega,.refl _ _⟩,?_⟩
 rintro _ w2 ⟨q,hk,aA,aF,B2⟩;cases aA;have cM:cs.length-((q+1:Nat):Int).toNat<cs.length-((q:Nat):Int).toNat\/¬ q<cs.length:=by
  simp only [Ale];omega
 refine Aa (λ aB=>⟨⟨by omega,aB⟩,?_⟩) (λ aI=>⟨by rw [Z4 λ i h1 h2=>aF i h1 h2 (by omega)],B2⟩);have h2:q<row.length:=by omega
 have h1:q<cs.length:=by omega
 obtain⟨p,rfl,c0,c1,c2⟩:=Di (hr.grown B2) h2;refine⟨_,by rw [Ale];exact c0,_,by rw [Ale];exact c1,_,by rw [Ale];exact c2,(FV w2 row[q]).mono ?_⟩;rintro _ w3 ⟨_,rfl,rfl,B3⟩;refine⟨_,rfl,(ST.start w3).draw λ w4 B4 _=>?_⟩;have C4:=Ac (Ac B2 B3) B4;have D7:GW cs[q] row[q]=true->(∃ k:Nat,k<=cs.length/\[Value.int .i64 (IntKind.i64.wrap ((q:Int)+1))]=[.int .i64 (k:Int)]/\(∀ i (h1:i<cs.length) (h2:i<row.length),i<k->GW cs[i] row[i]=true)/\Below w1.heap.size w1 w4) /\
   cs.length-(IntKind.i64.wrap ((q:Int)+1)).toNat<cs.length-(q:Int).toNat:=λ hf=>by
  rw [Ae (by omega)];refine⟨⟨q+1,by omega,rfl,λ i g1 g2 hi=>?_,C4⟩,cM.resolve_right (by omega)⟩;rcases Nat.lt_or_ge i q with h | h
  ·exact aF i g1 g2 h
  ·obtain rfl:i=q:=by omega
   exact hf
 have bad:GW cs[q] row[q]=false->Value.bool false=.bool (V6 cs row)/\Below w1.heap.size w1 w4:=λ hf=>⟨by rw [Z5 h1 h2 hf],C4⟩;obtain⟨p1,hp1,d0,d1,d2⟩:=Di (hr.grown C4) h2;cases hp1;obtain⟨p2,rfl,e0,e1,e2⟩:=FQ (hl.grown C4) h1;refine As (Aq (λ hR=>⟨⟨by omega,by omega⟩,⟨by omega,by omega⟩,_,by rw [Ale];exact d0,_,by rw [Ale];exact e1,?_⟩) (λ hR=>bad (by simp [GW,hR])));refine Ah (λ hk=>⟨⟨by omega,by omega⟩,_,by rw [Ale];exact d0,Ah (λ hz=>bad ?_) (λ hz=>⟨⟨by omega,by omega⟩,_,by rw [Ale];exact e2,As (Aq (λ iY=>D7 ?_) (λ iY=>bad ?_))⟩)⟩) (λ hk=>D7 ?_)
 ·simp [GW,hk,hz]
 ·simp [GW,hR,iY,hz]
 ·simp [GW,hk,iY]
 ·simp [GW,hR,hk]
end
def CP(a:Option Addr)(c:Nat)(l:List UInt8):It:=It.row ty.uint8 1 a l.length c (l.map Ag)
section
variable {w0 w:World}{H:List It}{a:Option Addr}{c:Nat}{l:List UInt8}
theorem BJ(S:ST w0 w H){w':World}(h:Bm w w' l a c):ST w0 w' (CP a c l :: H):=S.add h.Ar _ h.row h.new
theorem Abq(S:ST w0 w H)(n:Nat)(hn:H[n]?=some (CP a c l)):Bm w0 w l a c:=⟨S.get n hn,λ k hk=>S.own _ (List.mem_of_getElem? hn) k hk,S.Ar⟩
theorem Ew(S:ST w0 w H)(n:Nat)(hn:H[n]?=some (CP a c l)):Rd w a (l.map Ag):=(Abq S n hn).rd
theorem Ac7(S:ST w0 w H)(n:Nat)(hn:H[n]?=some (CP a c l)){m:List UInt8}{b:Option Addr}{mc:Nat}(hs:Rd w b (m.map Ag))(hl:l.length+m.length<=140737488355328){f:Value->World->Prop}
  (hf:∀ a' c' w',ST w0 w' (H.set n (CP a' c' (l++m)))->f (.slice a' (l++m).length c') w') :
  DB Tryz.prog (Builtin.append_ #[ty.AH,ty.AH] ty.AH #[.slice a l.length c,.slice b m.length mc]) f w :=
 A8 (S.get n hn) hs hl λ a' c' w' hr hk cm=>hf a' c' w' (S.I2 n hn hk _ hr cm)
end
def Ja(b:Bool):UInt8:=if b then 1 else 0
def Jx(c:BQ):List UInt8:=BA c.1++[Alj c.2.1.toNat,Ja c.2.2]
def CF(cs:List BQ):List UInt8:=Af cs.length++cs.flatMap Jx
theorem A6{cs:List BQ}(h:Ap cs=true):1<=cs.length/\cs.length<=16:=by
 simp [Ap] at h;exact h.1.1
theorem Dr{cs:List BQ}(h:Ap cs=true){c:BQ}(hc:c∈cs):Fw c.1=true/\1<=c.2.1/\c.2.1<=3/\c.1.size<=24:=by
 simp only [Ap,AkM,AlM] at h;have:=h.1.2 c hc;simp only [FP,AkM,decide_eq_true_eq] at this;have hn:=this.1;simp only [Fw,AkM,decide_eq_true_eq] at hn;exact⟨this.1,this.2.1,this.2.2,hn.2⟩
theorem Af8{c:BQ}(h:c.1.size<=24):(Jx c).length<=36:=by
 have:=Al (n:=c.1.size) (by omega);have:=Bb c.1;simp only [Jx,BA,Alb,Ald,Amp];omega
theorem Q2{cs:List BQ}(h:∀ c∈cs,c.1.size<=24):(cs.flatMap Jx).length<=cs.length*36:=by
 induction cs with
 | nil=>simp
 | cons c cs ih =>
  have h1:=Af8 (h c (by simp));have h2:=ih λ x hx=>h x (by simp [hx]);rw [List.flatMap_cons,Alb,Ald];omega
theorem Ux{cs:List BQ}{i:Nat}(hi:i<cs.length):(cs.take (i+1)).flatMap Jx=(cs.take i).flatMap Jx++Jx cs[i]:=by
 rw [List.take_succ_eq_append_getElem hi,List.flatMap_append];simp
theorem GJ{cs:List BQ}(h:Ap cs=true):(CF cs).length<=600:=by
 have h1:=A6 h;have:=Al (n:=cs.length) (by omega);have:=Q2 λ c hc=>(Dr h hc).2.2.2;simp only [CF,Alb];omega
def AjI(l:List UInt8)(cs:List BQ)(w w':World)(v:Value):Prop :=
 (Ap cs=false/\v=.tuple #[.slice none 0 0,.int .i64 50]/\Below w.heap.size w w')\/(Ap cs=true/\∃ a c,v=.tuple #[.slice a (l++CF cs).length c,.int .i64 0]/\Bm w w' (l++CF cs) a c)
section
variable {w:World}{a a2:Option Addr}{c c2:Nat}{cs:List BQ}{l:List UInt8}
theorem Vr(b:Bool)(w:World):Calls Tryz.prog f.Abl #[.bool b] w (AG λ v w'=>v=.int .u8 ((Ja b).toNat:Int)/\w'=w):=by
 apply R.Qh
 delta R.B R.F;try dsimp only [R.Ps]
 exact Aq (λ h=>⟨by rw [h];rfl,rfl⟩) (λ h=>⟨by rw [h];rfl,rfl⟩)
theorem Aev(c:UInt8):Value.int .u8 (c.toNat:Int)=Ag c:=rfl
theorem two_bytes{w:World}{b:Nat}{x y:Value}{t:TypeId}{u v:UInt8}(h:w.heap[b]?=some (.cells #[x,y] t (0,0)))(hx:x=Ag u)(hy:y=Ag v):Rd w (some ⟨b,0,none⟩) ([u,v].map Ag):=by
 subst hx hy;exact Rd.Ak h
theorem Xa{k:Int}(h1:1<=k)(h2:k<=3):Value.int .u8 (IntKind.u8.wrap k)=Ag (Alj k.toNat):=by
 rw [AE (by omega) (by omega),<- Cq (x:=k.toNat) (by omega)];congr 1;omega
theorem IV(hl:Rd w a (l.map Ag))(hs:l.length+1000<=140737488355328)(aj:Rd w a2 (BM cs))(hn:cs.length<=9223372036854775807)(hq:∀ c∈cs,c.1.size<=9223372036854775807) :
  Calls Tryz.prog f.Ac4 #[.slice a l.length c,.slice a2 cs.length c2] w (AG λ v w'=>AjI l cs w w' v):=by
 apply R.RX
 delta R.A R.Ab R.B R.AR R.Cb R.Cs R.Cy R.D R.F R.G R.H R.I R.J R.Ks R.Lb R.Li R.Lt R.N R.O R.EM R.S R.Am R.T R.U R.W R.Wb R.Wu R.X;try dsimp only [R.Ps]
 refine (Ee aj hn hq).mono ?_;rintro _ w1 ⟨_,rfl,rfl,B1⟩;refine⟨_,rfl,As (Aq (λ hR=>?_) (λ hR=>.inl ⟨hR,rfl,B1⟩))⟩;have hlen:=A6 hR;have d1:=Al (n:=cs.length) (by omega);rw [Aj (by omega) (by omega)];refine (Bg l (hl.grown B1) cs.length (by omega) (by omega)).mono ?_;rintro _ w2 ⟨_,rfl,im,iQ,rfl,h2⟩;refine⟨_,_,_,rfl,λ s w3=>∃(i:Nat) (o:List UInt8) (oa:Option Addr) (oc:Nat),s=[.slice oa o.length oc,.int .i64 (i:Int)]/\i<=cs.length/\o=l++Af cs.length++(cs.take i).flatMap Jx/\ST w w3 [CP oa oc o],λ s _=>match s with
   | [_,.int _ i]=>cs.length-i.toNat
   | _=>0,⟨0,_,im,iQ,rfl,by omega,by simp,BJ ((ST.start w).grown B1) h2⟩,?_⟩
 rintro oa _ oc _ w3 ⟨i,o,_,_,aA,hi,ho,S⟩;cases aA;have jc:o.length<=l.length+10+16*36:=by
  have:=Q2 (cs:=cs.take i) λ c hc=>(Dr hR (List.mem_of_mem_take hc)).2.2.2;rw [Al7] at this;rw [ho];simp only [Alb];omega
 refine Aa (λ aB=>⟨⟨by omega,aB⟩,?_⟩) (λ aI=>.inr ⟨hR,?_⟩)
 ·have aD:i<cs.length:=by omega
  obtain⟨hN,cg,bA,aw⟩:=Dr hR (AlS aD);obtain⟨p,rfl,c0,c1,c2⟩:=FQ (aj.grown S.Ar) aD;have hT:=Al (n:=cs[i].1.size) (by omega);have au:=Bb cs[i].1;refine⟨_,by rw [Ale];exact c0,_,by rw [Ale];exact c1,_,by rw [Ale];exact c2,S.II λ iq w7 _ S=>⟨_,S.cell 0 rfl rfl,?_⟩⟩;have wZ:Rd w7 oa (o.map Ag):=Ew S 1 rfl;refine (Hr o wZ cs[i].1 (by omega) (by omega)).mono ?_;rintro _ w8 ⟨_,rfl,a8,c8,rfl,h8⟩;refine⟨_,_,_,_,rfl,(BJ S h8).draw λ w9 _ S=>⟨_,S.cell 1 rfl rfl,_,S.cell 1 rfl rfl,(Vr _ w9).mono ?_⟩⟩;rintro _ w9 ⟨_,rfl,rfl,rfl⟩;refine⟨_,rfl,S.cell 1 rfl rfl,S.An λ p8 aY _ _ S=>?_⟩;refine Ac7 (m:=[Alj cs[i].2.1.toNat,Ja cs[i].2.2]) S 1 rfl (two_bytes (S.CJ 0 rfl) (Xa cg bA) (Aev _)) (by simp only [BA,Alb,Ald,Amp];omega) λ a12 oM bK S=>⟨_,_,_,rfl,?_⟩;rw [Ae (by omega)];refine⟨⟨i+1,_,a12,oM,rfl,by omega,?_,S.sub (by simp)⟩,?_⟩
  ·rw [Ux aD,ho];simp [Jx]
  ·show cs.length-((i+1:Nat):Int).toNat<cs.length-((i:Nat):Int).toNat;simp only [Ale];omega
 ·rw [AlK (by omega)] at ho;have:o=l++CF cs:=by rw [ho];simp [CF]
  subst this;exact⟨oa,oc,rfl,Abq S 0 rfl⟩
theorem JZ(hl:Rd w a (l.map Ag))(hs:l.length+1000<=140737488355328)(aj:Rd w a2 (BM cs))(hn:cs.length<=9223372036854775807)(hq:∀ c∈cs,c.1.size<=9223372036854775807) :
  Calls Tryz.prog f.Afl #[.slice a l.length c,.slice a2 cs.length c2] w (AG λ v w'=>AjI l cs w w' v):=by
 apply R.TA
 delta R.B R.AR R.Cb R.Cs R.F R.H R.I R.J R.Ks R.Lb R.Li R.Lt R.N R.O R.EM R.S R.T R.U R.W R.Wb R.Wu R.X R.Zy;try dsimp only [R.Ps]
 refine (DV aj hn hq).mono ?_;rintro _ w1 ⟨_,rfl,rfl,rfl⟩;refine⟨_,rfl,As (Aq (λ hR=>?_) (λ hR=>.inl ⟨hR,rfl,.refl _ _⟩))⟩;have hlen:=A6 hR;have d1:=Al (n:=cs.length) (by omega);rw [Aj (by omega) (by omega)];refine (Bh l hl cs.length (by omega) (by omega)).mono ?_;rintro _ w2 ⟨_,rfl,im,iQ,rfl,h2⟩;refine⟨_,_,_,rfl,λ s w3=>∃(i:Nat) (o:List UInt8) (oa:Option Addr) (oc:Nat),s=[.slice oa o.length oc,.int .i64 (i:Int)]/\i<=cs.length/\o=l++Af cs.length++(cs.take i).flatMap Jx/\ST w1 w3 [CP oa oc o],λ s _=>match s with
   | [_,.int _ i]=>cs.length-i.toNat
   | _=>0,⟨0,_,im,iQ,rfl,by omega,by simp,BJ (ST.start w1) h2⟩,?_⟩
 rintro oa _ oc _ w3 ⟨i,o,_,_,aA,hi,ho,S⟩;cases aA;have jc:o.length<=l.length+10+16*36:=by
  have:=Q2 (cs:=cs.take i) λ c hc=>(Dr hR (List.mem_of_mem_take hc)).2.2.2;rw [Al7] at this;rw [ho];simp only [Alb];omega
 refine Aa (λ aB=>⟨⟨by omega,aB⟩,?_⟩) (λ aI=>.inr ⟨hR,?_⟩)
 ·have aD:i<cs.length:=by omega
  obtain⟨hN,cg,bA,aw⟩:=Dr hR (AlS aD);obtain⟨p,rfl,c0,c1,c2⟩:=FQ (aj.grown S.Ar) aD;have hT:=Al (n:=cs[i].1.size) (by omega);have au:=Bb cs[i].1;have hb:(0:Int)<=(i:Int)/\(i:Int)<(cs.length:Int):=⟨by omega,aB⟩;refine⟨_,by rw [Ale];exact c0,(GF o (Ew S 0 rfl) cs[i].1 (by omega) (by omega)).mono ?_⟩;rintro _ w4 ⟨_,rfl,a8,c8,rfl,h8⟩;have S:=BJ S h8;obtain⟨p,hp,c0,c1,c2⟩:=FQ (aj.grown S.Ar) aD;cases hp;refine⟨_,_,_,_,rfl,λ s w5=>w5=w4/\s=[Ag (Ja cs[i].2.2)],⟨hb,_,by rw [Ale];exact c2,Aq (λ h=>⟨rfl,by rw [h];rfl⟩) (λ h=>⟨rfl,by rw [h];rfl⟩)⟩,?_⟩;rintro nu w5 ⟨rfl,iY⟩;have vq:Value.int .u8 nu=Ag (Ja cs[i].2.2):=by simpa using iY
  refine⟨hb,_,by rw [Ale];exact c1,S.An λ p8 aY _ _ S=>?_⟩;refine Ac7 (m:=[Alj cs[i].2.1.toNat,Ja cs[i].2.2]) S 1 rfl (two_bytes (S.CJ 0 rfl) (Xa cg bA) vq) (by simp only [BA,Alb,Ald,Amp];omega) λ a12 oM bK S=>⟨_,_,_,rfl,?_⟩;rw [Ae (by omega)];refine⟨⟨i+1,_,a12,oM,rfl,by omega,?_,S.sub (by simp)⟩,?_⟩
  ·rw [Ux aD,ho];simp [Jx]
  ·show cs.length-((i+1:Nat):Int).toNat<cs.length-((i:Nat):Int).toNat;simp only [Ale];omega
 ·rw [AlK (by omega)] at ho;have:o=l++CF cs:=by rw [ho];simp [CF]
  subst this;exact⟨oa,oc,rfl,Abq S 0 rfl⟩
end
def GP(n wd:Int):Prop:=0<=n/\n<=4096/\0<=wd/\wd<=64
instance (n wd:Int):Decidable (GP n wd):=by unfold GP;infer_instance
def Sb(l:List UInt8)(n wd:Nat):Prop:=l.length=DA n wd/\A5 (BK l n wd) wd=l
instance (l:List UInt8) (n wd:Nat):Decidable (Sb l n wd):=by unfold Sb;infer_instance
def UnV(l:List UInt8)(n wd:Int)(w w':World)(r:Value):Prop :=
 ∃(xs:List Nat) (a:Option Addr) (c:Nat) (e:Int),r=.tuple #[.slice a xs.length c,.int .i64 e]/\Rd w' a (xs.map E1)/\Below w.heap.size w w'/\(∀ p,a=some p->w.heap.size<=p.block) /\
  ((GP n wd/\Sb l n.toNat wd.toNat/\xs=BK l n.toNat wd.toNat/\e=0)\/(¬ (GP n wd/\Sb l n.toNat wd.toNat)/\xs=[]/\e=if GP n wd then 10 else 2))
theorem UnV.bad{l:List UInt8}{n wd:Int}{w w':World}{e:Int}(hb:Below w.heap.size w w')(h:¬ (GP n wd/\Sb l n.toNat wd.toNat))(he:e=if GP n wd then 10 else 2):UnV l n wd w w' (.tuple #[.slice none 0 0,.int .i64 e]) :=
 ⟨[],none,0,e,rfl,Rd.nil _ _,hb,(λ p hp=>by cases hp),.inr ⟨h,rfl,he⟩⟩
theorem Gy{l:List UInt8}{j:Nat}(h:j<l.length):l.getD j 0=l[j]:=by simp [h]
section
variable {w:World}{a:Option Addr}{c:Nat}{l:List UInt8}
theorem HR(hl:Rd w a (l.map Ag))(n wd:Int)(hs:l.length<=9223372036854775807) :
  Calls Tryz.prog f.AaC #[.slice a l.length c,.int .i64 n,.int .i64 wd] w (AG λ v w'=>UnV l n wd w w' v):=by
 apply R.PK
 delta R.A R.Ad R.MG R.Cf R.D R.F R.H R.I R.Li R.Ls R.Lu R.Ly R.N R.O R.Rs R.S R.Am R.U R.W R.Wb R.Wu R.X R.Z;try dsimp only [R.Ps]
 refine (SH.start (λ _=>False) w).An λ b4 w1 jy B1 S1=>S1.An λ b3 w2 dG B2 S2=>⟨_,S2.cell 0 rfl rfl,(JS w2 n wd).mono ?_⟩;rintro _ w3 ⟨_,rfl,rfl,rfl⟩;by_cases aU:GP n wd
 case neg =>
  rw [if_neg (by unfold GP at aU;omega)];refine⟨_,_,rfl,λ _ _=>False,Ah (λ _=>UnV.bad S2.below (λ h=>aU h.1) (by rw [if_neg aU])) (λ h=>absurd h (by decide)),?_⟩;rintro w5 h;exact h.elim
 obtain⟨h1,h2,h3,h4⟩:=id aU;obtain⟨n,rfl⟩:∃ m:Nat,n=(m:Int):=⟨n.toNat,by omega⟩;obtain⟨wd,rfl⟩:∃ m:Nat,wd=(m:Int):=⟨wd.toNat,by omega⟩;have hn:n<=4096:=by omega
 have hw:wd<=64:=by omega
 have hm:n*wd<=4096*64:=Al0 hn hw;rw [if_pos ⟨by omega,by omega,by omega,by omega⟩];obtain⟨m,hmd⟩:∃ m,m=DA n wd:=⟨_,rfl⟩;have nR:m=(n*wd+7) / 8:=hmd;have rR:((n:Int)*(wd:Int))=((n*wd:Nat):Int):=by norm_cast
 have em:((n:Int)*(wd:Int)+7) / 8=(m:Int):=by rw [rR,nR];omega
 rw [em];have ew:IntKind.i64.wrap ((n:Int)*(wd:Int))=((n*wd:Nat):Int):=by rw [rR,wrap_i64 (by omega) (by omega)]
 have emod:Int.tmod ((n*wd:Nat):Int) 8=((n*wd % 8:Nat):Int):=by rw [Int.tmod_eq_emod_of_nonneg (by omega)];omega
 refine⟨_,_,rfl,λ s w5=>s=[]/\Sb l n wd/\Below w3.heap.size w3 w5/\SH (λ _=>False) w w5 [(b3,#[.int .i64 (wd:Int)],ty.int),(b4,#[.slice a l.length c],ty.AH)],?_,?_⟩
 ·refine Ah (λ h=>absurd rfl h) (λ _=>⟨_,_,_,S2.cell 1 rfl rfl,Ah (λ h=>?_) (λ hlen=>?_)⟩)
  ·exact UnV.bad S2.below (λ hh=>h (by have:=hh.2.1;rw [this];simp [hmd])) (by rw [if_pos aU])
  ·have bJ:l.length=m:=by omega
   have hT:=Ahl (l:=l) (n:=n) (w:=wd) (by omega);have hW:=AfB (l:=l) (T:=n*wd) (by omega);refine S2.E5 λ w4 B4 S4=>?_;have D7:(0<l.length->n*wd % 8≠0->(l.getD (l.length-1) 0).toNat / 2 ^ (n*wd % 8)=0)->Sb l n wd:=λ h=>⟨by omega,hT.2 (hW.2 h)⟩;refine Aa (λ iE=>⟨_,S4.cell 0 rfl rfl,?_⟩) (λ hz=>⟨rfl,D7 (λ h=>by omega),B4,S4⟩);rw [ew,emod];refine Ah (λ h8=>⟨_,_,_,S4.cell 1 rfl rfl,?_⟩) (λ h8=>⟨rfl,D7 (λ _ h=>by omega),B4,S4⟩);rw [wrap_i64 (n:=(m:Int)-1) (by omega) (by omega)];refine⟨⟨by omega,by omega⟩,?_⟩;have hj:m-1<l.length:=by omega
   obtain⟨p,rfl,hc⟩:=byte_at (hl.grown S4.below) hj;refine⟨_,by rw [show ((m:Int)-1).toNat=m-1 by omega];exact hc,_,S4.cell 0 rfl rfl,?_⟩;rw [ew,emod];refine⟨by omega,?_⟩;rw [Ale,show min (n*wd % 8) 8=n*wd % 8 by omega,fdiv_pow];have hg:(l.getD (l.length-1) 0)=l[m-1]:=by rw [bJ];exact Gy hj
   refine Ah (λ h=>UnV.bad S4.below (λ hh=>h ?_) (by rw [if_pos aU])) (λ h=>⟨rfl,D7 (λ _ _=>?_),B4,S4⟩)
   ·have:=hW.1 (hT.1 hh.2.2) (by omega) (by omega);rw [hg] at this;rw [this];rfl
   ·rw [hg];omega
 rintro w5 ⟨_,aK,B5,S5⟩;obtain⟨hlen,hpk⟩:=id aK;refine Ea tU (l:=(n:Int)) (c:=(n:Int)) (by omega) (by omega) (by omega) (by omega) λ bo w6 fO B6 mQ=>?_;rw [Ale,Xs (DH l) wd n] at mQ;rw [Ale];have S6:=S5.grown B6;refine⟨_,_,_,rfl,S6.An λ dE w7 gw B7 S7=>S7.Abt 0 rfl (show 0<1 by decide) λ w8 K8 S8=>⟨_,S8.cell 1 rfl rfl,(LX w8 (n:Int) (wd:Int)).mono ?_⟩⟩;rintro _ w9 ⟨_,rfl,b1,b2,rfl,P9⟩;have S9:=S8.grown P9.below;have ua:bo<w6.heap.size:=(AlQ.1 mQ).1;have gY:=(Ai.AA (F:=λ _=>False) B7).at mQ (by simp);have kU:=K8.at gY (show ¬ bo=dE by omega);have pQ:=(Ai.AA (F:=λ _=>False) P9.below).at kU (by simp);have mh:w.heap.size<=bo:=Nat.le_trans S5.below.size fO;have uc:bo<w9.heap.size:=(AlQ.1 pQ).1;have mf:=S9.lt (x:=(b3,_,_)) (AlO _ (AlN ..));have uX:=S9.lt (x:=(b4,_,_)) (AlO _ (AlO _ (AlN ..)));have pZ:=S9.lt (x:=(dE,_,_)) (AlN ..);have kY:=P9.own (b2,_,_) (AlN ..);have me:=P9.own (b1,_,_) (AlO _ (AlN ..))
 have kZ:=P9.lt (x:=(b2,_,_)) (AlN ..);have pj:=P9.lt (x:=(b1,_,_)) (AlO _ (AlN ..));have hb35:=S5.lt (x:=(b3,_,_)) (AlN ..);have uW:=S5.lt (x:=(b4,_,_)) (AlO _ (AlN ..));refine⟨_,_,_,rfl,by kernel_rfl,λ rr aA dW hy=>?_⟩;obtain⟨W1,hW1⟩:∃ W1,W1=(w9.alloc (.deferred (some []))).alloc (.loop rr):=⟨_,rfl⟩;rw [<- hW1];have fq:Below w9.heap.size w9 W1:=by rw [hW1];exact (((Below.refl _ w9).alloc (Nat.le_refl _) _).alloc (by simp) _)
 have sL:W1.heap.size=w9.heap.size+2:=by rw [hW1];simp
 have gX:W1.heap[w9.heap.size+1]?=some (.loop rr):=by
  rw [hW1];have:=World.alloc_heap_new (w9.alloc (.deferred (some []))) (.loop rr);rwa [World.size_alloc] at this
 have kP:W1.heap[w9.heap.size]?=some (.deferred (some [])):=by
  rw [hW1];exact (Below.heap_alloc _ _ _ (by simp)).trans (World.alloc_heap_new w9 _)
 have eB:=Ai.AA (F:=λ _=>False) fq;have kS:=eB.at pQ (by simp);obtain⟨L,hLd⟩:∃ L,L=w9.heap.size+1:=⟨_,rfl⟩;rw [<- hLd] at gX hy ⊢;have Bw1:Below w.heap.size w W1:=S9.below.trans (fq.mono S9.below.size);have ym:=S9.below.size;have low:∀ {w':World},Ai (λ k=>k=bo\/k=L) W1 w'->Below w.heap.size w w':=λ K=>Bw1.trans (K.below Bw1.size λ k hk h=>by omega);have ug:∀ {w':World},Ai (λ k=>k=bo\/k=L) W1 w'->w'.cell? ⟨b3,0,none⟩=some (.int .i64 (wd:Int)):=λ K=>K.cell (eB.cell (S9.cell 1 rfl rfl) (by simp)) (by
  show ¬ (b3=bo\/b3=L);omega)
 have uh:∀ {w':World},Ai (λ k=>k=bo\/k=L) W1 w'->w'.cell? ⟨b4,0,none⟩=some (.slice a l.length c):=λ K=>K.cell (eB.cell (S9.cell 2 rfl rfl) (by simp)) (by
  show ¬ (b4=bo\/b4=L);omega)
 have jG:∀ {w':World},Ai (λ k=>k=bo\/k=L) W1 w'->w'.cell? ⟨dE,0,none⟩=some (.slice (some ⟨bo,0,none⟩) n n):=λ K=>K.cell (eB.cell (S9.cell 0 rfl rfl) (by simp)) (by
  show ¬ (dE=bo\/dE=L);omega)
 have ub:bo<w8.heap.size:=(AlQ.1 kU).1;have e18:w8.heap.size<=b1:=by simpa using me
 have xi:w8.heap.size<=b2:=by simpa using kY
 have cI:∀ {w':World},Ai (λ k=>k=bo\/k=L) W1 w'->w'.cell? ⟨b1,0,none⟩=some (.int .i64 (n:Int))/\w'.cell? ⟨b2,0,none⟩=some (.int .i64 (wd:Int)):=λ K =>
  ⟨K.cell (eB.cell (P9.cell 1 rfl rfl) (by simp)) (by show ¬ (b1=bo\/b1=L);omega),K.cell (eB.cell (P9.cell 0 rfl rfl) (by simp)) (by show ¬ (b2=bo\/b2=L);omega)⟩
 have hyp:∀ t,t<n*wd->∀ wx,(Ai (λ k=>k=bo\/k=L) W1 wx/\wx.heap[bo]?=some (.cells (Hm (DH l) wd n t) ty.uint64 (0,0))/\wx.heap[L]?=some (.loop rr)) ->
   O8 Tryz.prog L #[.int .i64 ((t / wd:Nat):Int),.int .i64 ((t % wd:Nat):Int)] (λ y w'=>y=true/\(Ai (λ k=>k=bo\/k=L) W1 w'/\w'.heap[bo]?=some (.cells (Hm (DH l) wd n (t+1)) ty.uint64 (0,0))/\w'.heap[L]?=some (.loop rr))) wx:=by
  rintro t ht wx ⟨K,hO,hL⟩;have nk:0<wd:=Nat.pos_of_ne_zero (by rintro rfl;simp at ht);have fo:t / wd<n:=(Nat.div_lt_iff_lt_mul nk).2 ht;have dA:t % wd<wd:=AlC _ nk;have gn:t / 8<l.length:=by omega
  refine hy _ _ _ wx hL ⟨hL,?_⟩;obtain⟨aY,hw11⟩:∃ aY,aY=wx.putObj L (.loop { rr with state:=.busy }):=⟨_,rfl⟩;rw [<- hw11];have eM:L<wx.heap.size:=(AlQ.1 hL).1;have eL:Ai (λ k=>k=L) wx aY:=by rw [hw11];exact AN _ _ _
  have iy:aY.heap[L]?=some (.loop { rr with state:=.busy }):=by rw [hw11];exact World.putObj_heap_same eM
  have K2:Ai (λ k=>k=bo\/k=L) W1 aY.drew:=(K.trans eL (λ k _ h=>.inr h)).drew;have fI:aY.drew.heap[bo]?=some (.cells (Hm (DH l) wd n t) ty.uint64 (0,0)):=eL.at hO (by show ¬ bo=L;omega);refine⟨_,ug (K.trans eL (λ k _ h=>.inr h)),?_⟩;unfold QI;have et:IntKind.i64.wrap (IntKind.i64.wrap (((t / wd:Nat):Int)*(wd:Int))+((t % wd:Nat):Int))=(t:Int):=by
   have h1:((t / wd:Nat):Int)*(wd:Int)=((t / wd*wd:Nat):Int):=by rw [Int.natCast_mul]
   have h2:=Nat.div_add_mod t wd;rw [Alp] at h2;rw [h1];generalize t / wd*wd=q at h2;generalize t % wd=r' at h2;rw [wrap_i64 (n:=(q:Int)) (by omega) (by omega),wrap_i64 (by omega) (by omega)];omega
  have ed:Int.fdiv (t:Int) (2 ^ (min 3 64))=((t / 8:Nat):Int):=fdiv_pow t 3;rw [et,ed];refine⟨_,_,_,jG K2,⟨Al2 _,by exact_mod_cast fo⟩,?_⟩;rw [Ale];have ea:(⟨bo,0,none⟩:Addr).add (t / wd*1)=⟨bo,t / wd,none⟩:=by rw [Ay];simp
  obtain⟨p,rfl,hc⟩:=byte_at (hl.grown (low K2)) gn;show ∃ n:Int,aY.drew.cell? ((⟨bo,0,none⟩:Addr).add (t / wd*1))=some (.int .u64 n)/\_;rw [ea];have aE:aY.drew.cell? ⟨bo,t / wd,none⟩=some (.int .u64 (QF (DH l) wd t (t / wd):Int)):=by
   simp only [World.cell?,fI];simpa using Aa9 fo
  refine⟨_,aE,_,_,_,uh K2,⟨Al2 _,by exact_mod_cast gn⟩,_,by rw [Ale];exact hc,?_⟩;rw [AjM (by omega),Ale,Ale,WN (l[t / 8]).toNat_lt (AlC _ (by omega)),Xv (by omega)];have eN:l[t / 8].toNat.testBit (t % 8)=DH l t:=by unfold DH;rw [Gy gn]
  rw [eN];have ky:(DH l t).toNat*2 ^ (t % wd)<18446744073709551616:=by
   have:2 ^ (t % wd)<2 ^ 64:=Nat.pow_lt_pow_right (by omega) (by omega);cases DH l t
   ·simp
   ·simpa using this
  have wh:QF (DH l) wd t (t / wd)<18446744073709551616:=AkY (Adc _ nk _ _) (Alw (n:=2) (by omega) hw);rw [Aja wh ky,Abr];refine⟨Al2 _,Al2 _,⟨Al2 _,by exact_mod_cast fo⟩,?_⟩;show DY ((⟨bo,0,none⟩:Addr).add (t / wd*1)) _ _ _;rw [ea];refine EZ fI (by rw [Xr];exact fo) λ al kI j0=>?_;have iz:al.heap[L]?=some (.loop { rr with state:=.busy }):=kI.at (show aY.drew.heap[L]?=_ from iy) (by show ¬ L=bo;omega);refine⟨iz,rfl,?_⟩;rw [IU aA dW];rw [Aba _ rfl] at j0;have jV:L<al.heap.size:=(AlQ.1 iz).1;refine⟨(K2.trans kI (λ k _ h=>.inl h)).trans (AN _ _ _) (λ k _ h=>.inr h),?_,World.putObj_heap_same jV⟩;exact (World.putObj_heap_other (by omega)).trans j0
 refine (Xj (l:=L) (b1:=b1) (b2:=b2) hn hw (λ t wx=>Ai (λ k=>k=bo\/k=L) W1 wx/\wx.heap[bo]?=some (.cells (Hm (DH l) wd n t) ty.uint64 (0,0))/\wx.heap[L]?=some (.loop rr))
  (λ t wx hj=>cI hj.1) (λ t wx hj=>⟨hj.1.drew,hj.2.1,hj.2.2⟩) hyp ⟨.refl _ _,kS,gX⟩).mono ?_
 rintro _ an ⟨_,rfl,il,mN,dN⟩;have jW:L<an.heap.size:=(AlQ.1 dN).1;refine⟨⟨_,rfl⟩,none,by rw [IU aA dW];exact dN,rfl,?_⟩;obtain⟨ah,hw15⟩:∃ ah,ah=an.putObj L (.loop { rr with state:=.exhausted,pending:=none }):=⟨_,rfl⟩;rw [<- hw15];have fu:Ai (λ k=>k=bo\/k=L) W1 ah:=by rw [hw15];exact il.trans (AN _ _ _) (λ k _ h=>.inr h)
 have mP:ah.heap[bo]?=some (.cells (Hm (DH l) wd n (n*wd)) ty.uint64 (0,0)):=by rw [hw15];exact (World.putObj_heap_other (by omega)).trans mN
 have gA:ah.heap[w9.heap.size]?=some (.deferred (some [])):=fu.at kP (by show ¬ (w9.heap.size=bo\/w9.heap.size=L);omega);have dm:=low fu;have uF:=(World.putObj_heap_other (w:=ah) (o:=.deferred none) (show bo≠w9.heap.size by omega)).trans mP;refine⟨_,_,_,jG fu,gA,BK l n wd,some ⟨bo,0,none⟩,n,0,by rw [Ch],?_,dm.trans ((AN ah w9.heap.size _).below dm.size λ k hk he=>by omega),(λ p hp=>by cases hp;exact mh),.inl ⟨aU,aK,rfl,rfl⟩⟩;have:=Rd.Ak uF;rwa [Aa8] at this
end
theorem WR(b:Bool):((b.toNat:Int)=1)↔b=true:=by cases b <;> decide
section
variable {w:World}{a:Option Addr}{c:Nat}{l:List UInt8}
theorem Gu(hl:Rd w a (l.map Ag))(n wd:Int)(hs:l.length<=9223372036854775807) :
  Calls Tryz.prog f.YA #[.slice a l.length c,.int .i64 n,.int .i64 wd] w (AG λ v w'=>UnV l n wd w w' v):=by
 apply R.Od
 delta R.Ad R.MG R.AR R.D R.F R.H R.I R.Lu R.Ly R.O R.Qi R.Rs R.Rt R.S R.Am R.U R.W R.Wb R.Wu R.X;try dsimp only [R.Ps]
 refine (SF w n wd).mono ?_;rintro _ w ⟨_,rfl,rfl,rfl⟩;by_cases aU:GP n wd
 case neg =>
  rw [if_neg (by unfold GP at aU;omega)];exact⟨_,_,rfl,Ah (λ _=>UnV.bad (.refl _ _) (λ h=>aU h.1) (by rw [if_neg aU])) (λ h=>absurd h (by decide))⟩
 obtain⟨h1,h2,h3,h4⟩:=id aU;obtain⟨n,rfl⟩:∃ m:Nat,n=(m:Int):=⟨n.toNat,by omega⟩;obtain⟨wd,rfl⟩:∃ m:Nat,wd=(m:Int):=⟨wd.toNat,by omega⟩;have hn:n<=4096:=by omega
 have hw:wd<=64:=by omega
 have hm:n*wd<=4096*64:=Al0 hn hw;rw [if_pos ⟨by omega,by omega,by omega,by omega⟩];obtain⟨m,hmd⟩:∃ m,m=DA n wd:=⟨_,rfl⟩;have nR:m=(n*wd+7) / 8:=hmd;have rR:((n:Int)*(wd:Int))=((n*wd:Nat):Int):=by norm_cast
 have em:((n:Int)*(wd:Int)+7) / 8=(m:Int):=by rw [rR,nR];omega
 rw [em];refine⟨_,_,rfl,Ah (λ h=>absurd rfl h) (λ _=>Ah (λ h=>?_) (λ hlen=>?_))⟩
 ·exact UnV.bad (.refl _ _) (λ hh=>h (by have:=hh.2.1;rw [this];simp [hmd])) (by rw [if_pos aU])
 have bJ:l.length=m:=by omega
 refine Ea tU (l:=(n:Int)) (c:=(n:Int)) (by omega) (by omega) (by omega) (by omega) λ bo w2 fO B2 kT=>?_;rw [Ale,Xs (DH l) wd n] at kT;rw [Ale];refine⟨_,_,_,rfl,?_⟩;have low:∀ {w':World},Ai (λ k=>k=bo) w2 w'->Below w.heap.size w w':=λ K=>B2.trans (K.below B2.size λ k hk h=>by omega);refine⟨λ s w3=>∃ i:Nat,i<=n/\s=[.int .i64 (i:Int)]/\Ai (λ k=>k=bo) w2 w3/\w3.heap[bo]?=some (.cells (Hm (DH l) wd n (i*wd)) ty.uint64 (0,0)),λ s _=>match s with
   | [.int _ i]=>n-i.toNat
   | _=>0,⟨0,by omega,rfl,.refl _ _,by rw [Nat.zero_mul];exact kT⟩,?_⟩
 rintro _ w3 ⟨i,hi,hs,K3,gv⟩;cases hs;refine Aa (λ aB=>?_) (λ aI=>?_)
 ·have aD:i<n:=by omega
  refine⟨λ s w5=>∃ k:Nat,k<=wd/\s=[.int .i64 (k:Int)]/\Ai (λ k=>k=bo) w2 w5/\w5.heap[bo]?=some (.cells (Hm (DH l) wd n (i*wd+k)) ty.uint64 (0,0)),λ s _=>match s with
    | [.int _ k]=>wd-k.toNat
    | _=>0,⟨0,by omega,by simp,K3,gv⟩,?_⟩
  rintro _ w5 ⟨k,hk,hs,K5,fJ⟩;cases hs;refine Aa (λ ao=>?_) (λ br=>?_)
  ·have qJ:k<wd:=by omega
   have ob:i*wd+k<n*wd:=by
    have:(i+1)*wd<=n*wd:=Nat.mul_le_mul_right _ aD;rw [Amq] at this;omega
   have jL:(i*wd+k) / wd=i:=by
    rw [Alp,Nat.mul_add_div (by omega),Nat.div_eq_of_lt qJ,Nat.add_zero]
   have fh:(i*wd+k) % wd=k:=by
    rw [Alp,Nat.mul_add_mod,Nat.mod_eq_of_lt qJ]
   obtain⟨t,ht⟩:∃ t,t=i*wd+k:=⟨_,rfl⟩;rw [<- ht] at fJ ob jL fh;have et:IntKind.i64.wrap (IntKind.i64.wrap ((i:Int)*(wd:Int))+(k:Int))=(t:Int):=by
    have h1:(i:Int)*(wd:Int)=((i*wd:Nat):Int):=by rw [Int.natCast_mul]
    rw [h1,ht];generalize i*wd=q at ht;rw [wrap_i64 (n:=(q:Int)) (by omega) (by omega),wrap_i64 (by omega) (by omega)];omega
   have ed:IntKind.i64.wrap (Int.tdiv (t:Int) 8)=((t / 8:Nat):Int):=by
    rw [Int.tdiv_eq_ediv_of_nonneg (by omega),wrap_i64 (by omega) (by omega)];omega
   have er:Int.tmod (t:Int) 8=((t % 8:Nat):Int):=by
    rw [Int.tmod_eq_emod_of_nonneg (by omega)];omega
   rw [et,ed,er];have gn:t / 8<l.length:=by omega
   refine⟨⟨by omega,by omega⟩,?_⟩;obtain⟨p,rfl,hc⟩:=byte_at (hl.grown (low K5)) gn;refine⟨_,by rw [Ale];exact hc,by omega,?_⟩;rw [Ale,WN (l[t / 8]).toNat_lt (AlC _ (by omega)),Ae (by omega)];have eN:l[t / 8].toNat.testBit (t % 8)=DH l t:=by unfold DH;rw [Gy gn]
   rw [eN];have qO:∀ wx:World,Ai (λ k=>k=bo) w2 wx->wx.heap[bo]?=some (.cells (Hm (DH l) wd n (t+1)) ty.uint64 (0,0)) ->
     ((∃ k':Nat,k'<=wd/\[Value.int .i64 ((k+1:Nat):Int)]=[.int .i64 (k':Int)]/\Ai (λ k=>k=bo) w2 wx/\wx.heap[bo]?=some (.cells (Hm (DH l) wd n (i*wd+k')) ty.uint64 (0,0)))/\wd-((k+1:Nat):Int).toNat<wd-((k:Nat):Int).toNat):=by
    intro wx K hO;refine⟨⟨k+1,by omega,rfl,K,by rw [<- Amr,<- ht];exact hO⟩,?_⟩;simp only [Ale];omega
   refine Ao (λ h1=>?_) (λ h1=>?_)
   ·have cI:DH l t=true:=(WR _).1 h1;unfold QI;have ea:(⟨bo,0,none⟩:Addr).add (i*1)=⟨bo,i,none⟩:=by rw [Ay];simp
    refine⟨⟨by omega,by omega⟩,?_⟩;rw [Ale,Ale];have aE:w5.drew.cell? ((⟨bo,0,none⟩:Addr).add (i*1))=some (.int .u64 (QF (DH l) wd t i:Int)):=by
     rw [ea];have:w5.drew.heap[bo]?=some (.cells (Hm (DH l) wd n t) ty.uint64 (0,0)):=fJ;simp only [World.cell?,this];simpa using Aa9 aD
    refine⟨by omega,_,aE,⟨by omega,by omega⟩,?_⟩;have mG:=Xv (b:=true) (s:=k) (by omega);simp only [Bool.toNat_true,Nat.one_mul] at mG;rw [show IntKind.u64.wrap (((1:Nat):Int))=1 from by decide] at mG;rw [mG];have ky:2 ^ k<2 ^ 64:=Nat.pow_lt_pow_right (by omega) (by omega);have wh:QF (DH l) wd t i<18446744073709551616:=AkY (Adc _ (by omega) _ _) (Alw (n:=2) (by omega) hw);rw [Aja wh ky];have dY:=Abr (DH l) wd t;rw [cI,jL,fh] at dY;simp only [Bool.toNat_true,Nat.one_mul] at dY;rw [dY];unfold Av;simp only;rw [ea];refine EZ (show w5.drew.heap[bo]?=_ from fJ) (by rw [Xr];exact aD) λ w7 K7 gY=>?_;have qb:=Aba (f:=DH l) (w:=wd) (m:=n) (t:=t) _ rfl;rw [jL] at qb;rw [qb] at gY;exact qO w7 (K5.drew.trans K7 (λ k _ h=>h)) gY
   ·have bg:DH l t=false:=by
     cases h:DH l t
     ·rfl
     ·exact absurd ((WR _).2 h) h1
    exact qO w5 K5 (by rw [Afs bg];exact fJ)
  ·have:k=wd:=by omega
   subst this;rw [Ae (by omega)];refine⟨⟨i+1,by omega,rfl,K5,by rw [Amq];exact fJ⟩,?_⟩;simp only [Ale];omega
 ·have:i=n:=by omega
  subst this;have B3:=low K3;have rv:Rd w3 (some ⟨bo,0,none⟩) ((BK l i wd).map E1):=by
   have:=Rd.Ak gv;rwa [Aa8] at this
  have yb:=Ch l i wd;have ay:=Is (c:=i) rv (by omega) hw (OV l i wd);rw [yb] at ay;refine ay.mono ?_;rintro _ w7 ⟨_,rfl,a7,c7,rfl,h7⟩;have B7:=Ac B3 h7.Ar;refine⟨_,_,_,_,rfl,Ax CA rfl h7.rd ⟨_,rfl,Ax CA rfl (hl.grown B7) ⟨_,rfl,?_⟩⟩⟩;rw [A0];refine As (Aa (λ he=>?_) (λ he=>?_))
  ·refine⟨BK l i wd,some ⟨bo,0,none⟩,i,0,by rw [yb],rv.grown h7.Ar,B7,(λ p hp=>by cases hp;exact fO),.inl ⟨aU,⟨by simpa using (show l.length=DA i wd by omega),?_⟩,rfl,rfl⟩⟩;have:=congrArg bl he;rwa [BN,BN] at this
  ·exact UnV.bad B7 (λ hh=>he (by have:=hh.2.2;simp only [Ale] at this;rw [this])) (by rw [if_pos aU])
end
def AO(l:List UInt8)(at_:Nat):Nat->Option (List (List UInt8) × Nat)
 | 0=>some ([],at_)
 | k+1=>match BD l (at_:Int) 1024 with
  | none=>none
  | some x=>(AO l x.2 k).map λ r=>(x.1 :: r.1,r.2)
theorem Mo{l:List UInt8}{at_:Int}{most:Nat}{s:List UInt8}{k:Nat}(h:BD l at_ most=some (s,k)):k<=l.length:=by
 unfold BD at h;split at h
 ·rename_i x hx;have hb:=Az (n:=x.1) (k:=x.2) hx;split at h
  ·cases h
  ·simp only [Ams,Prod.mk.injEq] at h;omega
 ·cases h
theorem Hp{l:List UInt8}:∀ {n at_:Nat} {r:List (List UInt8) × Nat},AO l at_ n=some r->r.1.length=n
 | 0,_,_,h=>by simp only [AO,Ams] at h;subst h;rfl
 | n+1,at_,r,h=>by
  unfold AO at h;split at h
  ·cases h
  ·obtain⟨q,hq,rfl⟩:=Amt.1 h;simp [Hp hq]
theorem Mm{l:List UInt8}:∀ {n at_:Nat} {r:List (List UInt8) × Nat},AO l at_ n=some r->at_<=l.length->r.2<=l.length
 | 0,_,_,h,ha=>by simp only [AO,Ams] at h;subst h;exact ha
 | n+1,at_,r,h,ha=>by
  unfold AO at h;split at h
  ·cases h
  ·rename_i x hx;obtain⟨q,hq,rfl⟩:=Amt.1 h;exact Mm (r:=q) hq (Mo (s:=x.1) (k:=x.2) hx)
theorem NC{l:List UInt8}{at_ k:Nat}(hx:BD l (at_:Int) 1024=none):AO l at_ (k+1)=none:=by
 unfold AO;rw [hx]
theorem ND{l:List UInt8}{at_ k:Nat}{x:List UInt8 × Nat}(hx:BD l (at_:Int) 1024=some x):AO l at_ (k+1)=(AO l x.2 k).map λ r=>(x.1 :: r.1,r.2):=by
 conv=>lhs;unfold AO
 rw [hx]
def Nf(l:List UInt8)(at_ n:Nat)(w':World)(v:Value):Prop :=
 match AO l at_ n with
 | none=>v=.tuple #[.slice none 0 0,.int .i64 0,.bool false]
 | some r=>∃ a c,v=.tuple #[.slice a r.1.length c,.int .i64 (r.2:Int),.bool true]/\Rd w' a (strs r.1)
section
variable {w0 w:World}{a:Option Addr}{c:Nat}{l:List UInt8}
theorem Nr(at_:Int):Calls Tryz.prog f.Acb #[.slice a l.length c,.int .i64 at_] w (AG λ v w'=>∃ b1 b2,v=.func (.func f.ID) #[] #[.pointer (some ⟨b1,0,none⟩),.pointer (some ⟨b2,0,none⟩)] /\
  SH (λ _=>False) w w' [(b2,#[.int .i64 at_],ty.int),(b1,#[.slice a l.length c],ty.AH)]):=by
 apply R.Q3
 delta R.I R.J R.N R.P R.S;try dsimp only [R.Ps]
 exact (SH.start (λ _=>False) w).An λ b1 w1 _ _ S1=>S1.An λ b2 w2 _ _ S2=>⟨b1,b2,rfl,S2⟩
theorem SQ{b1 b2 at_ n:Nat}(S:SH (λ _=>False) w0 w [(b2,#[.int .i64 (at_:Int)],ty.int),(b1,#[.slice a l.length c],ty.AH)])(hl:Rd w0 a (l.map Ag))(hc:l.length<=c)(hs:l.length<=9223372036854775807)(hn:n<=4096) :
  Calls Tryz.prog f.ID #[.int .u64 (n:Int),.pointer (some ⟨b1,0,none⟩),.pointer (some ⟨b2,0,none⟩)] w (AG λ v w'=>Nf l at_ n w' v/\Below w0.heap.size w0 w'):=by
 apply R.MQ
 delta R.A R.Gv R.D R.F R.G R.H R.I R.J R.Ks R.Li R.Ls R.N R.O R.Qsu R.S R.Am R.T R.U R.Wu;try dsimp only [R.Ps]
 refine⟨λ st w1=>∃(i:Nat) (ss:List (List UInt8)) (aZ:Nat) (oa:Option Addr) (oc:Nat),st=[.slice oa ss.length oc,.int .u64 (i:Int)]/\i=ss.length/\i<=n/\Row w1 ty.string 1 oa ss.length oc (strs ss) /\
   SH (λ _=>False) w0 w1 [(b2,#[.int .i64 (aZ:Int)],ty.int),(b1,#[.slice a l.length c],ty.AH)]/\(∀ k,AD oa=some k->w0.heap.size<=k/\k≠b1/\k≠b2) /\
   AO l at_ n=(AO l aZ (n-i)).map λ r=>(ss++r.1,r.2),λ s _=>match s with
   | [_,.int _ i]=>n-i.toNat
   | _=>0,⟨0,[],at_,none,0,rfl,rfl,by omega,Row.nil _ _ _,S,by simp [AD],by simp⟩,?_⟩
 rintro oa _ oc _ w1 ⟨i,ss,aZ,_,_,aA,hi,cD,R1,S1,N1,hT⟩;cases aA;refine Aa (λ aB=>?_) (λ aI=>?_)
 ·refine⟨_,_,_,S1.cell 1 rfl rfl,_,S1.cell 0 rfl rfl,(Ex (hl.grown S1.below) hc hs (aZ:Int) 1024).mono ?_⟩;rintro _ w3 ⟨_,rfl,rfl,rfl⟩;have ae:n-i=(n-(i+1))+1:=by omega
  rw [ae] at hT;cases hx:BD l (aZ:Int) 1024 with
  | none =>
   refine⟨_,_,_,rfl,Ah (λ _=>⟨?_,S1.below⟩) (λ h=>absurd h (by decide))⟩;rw [NC hx] at hT;unfold Nf;rw [hT];rfl
  | some x =>
   rw [ND hx] at hT;refine⟨_,_,_,rfl,Ah (λ h=>absurd rfl h) (λ _=>S1.An λ iq w4 kX B4 S4=>?_)⟩;have aW:Rd w4 (some ⟨iq,0,none⟩) (strs [x.1]):=by
    have:=Rd.Ak (S4.get 0 rfl);simpa [strs] using this
   have l1:=S1.lt (x:=(b2,_,_)) (AlN ..);have l2:=S1.lt (x:=(b1,_,_)) (AlO _ (AlN ..));refine Ez (u:=[x.1]) (R1.grown B4) rfl aW (by simp;omega) λ a5 c5 w5 R5 K5 N5=>⟨_,_,_,rfl,?_⟩;have S5:SH (λ _=>False) w0 w5 [(b2,#[.int .i64 (aZ:Int)],ty.int),(b1,#[.slice a l.length c],ty.AH)]:=(S4.drop 1).kept K5 (by
    intro y hy hr;simp only [List.drop_succ_cons,List.drop_zero,List.mem_cons,List.not_mem_nil,or_false] at hy;rcases hy with rfl | rfl
    ·exact (N1 _ hr).2.2 rfl
    ·exact (N1 _ hr).2.1 rfl) (λ k hk hr=>by have:=(N1 _ hr).1;omega)
   have N5':∀ k,AD a5=some k->w0.heap.size<=k/\k≠b1/\k≠b2:=by
    intro k hk;have:=B4.size;rcases N5 k hk with h | h
    ·exact N1 k h
    ·have:=S4.below.size;exact⟨by omega,by omega,by omega⟩
   refine S5.Abt 0 rfl (show 0<1 by decide) λ w6 K6 S6=>?_;have R6:=R5.keeps K6 λ k hk he=>(N5' k hk).2.2 he;rw [show IntKind.u64.wrap ((i:Int)+1)=((i+1:Nat):Int) by rw [Aj (by omega) (by omega)];omega];refine⟨⟨i+1,ss++[x.1],x.2,a5,c5,rfl,by simp [hi],by omega,R6,S6,N5',?_⟩,?_⟩
   ·rw [hT,Option.map_map];congr 1;funext r;simp
   ·simp only [Ale];omega
 ·have vS:i=n:=by omega
  refine S1.E5 λ w2 B2 S2=>⟨_,S2.cell 0 rfl rfl,?_,S2.below⟩;have:n-i=0:=by omega
  rw [this] at hT;unfold Nf;have e:AO l at_ n=some (ss,aZ):=by rw [hT];simp [AO]
  rw [e];exact⟨oa,oc,rfl,(R1.grown B2).rd⟩
theorem Qc{at_ n:Nat}(hl:Rd w a (l.map Ag))(hc:l.length<=c)(hs:l.length<=9223372036854775807)(hn:n<=4096)(cU:at_<=9223372036854775807) :
  Calls Tryz.prog f.AaU #[.slice a l.length c,.int .i64 (at_:Int),.int .i64 (n:Int)] w (AG λ v w'=>Nf l at_ n w' v/\Below w.heap.size w w'):=by
 apply R.P2
 delta R.Gv R.F R.G R.H R.I R.J R.Ks R.N R.O R.KV R.S R.T R.W;try dsimp only [R.Ps]
 refine⟨λ st w1=>∃(i:Nat) (ss:List (List UInt8)) (aZ:Nat) (oa:Option Addr) (oc:Nat),st=[.int .i64 (aZ:Int),.slice oa ss.length oc,.int .i64 (i:Int)]/\i=ss.length/\i<=n/\Row w1 ty.string 1 oa ss.length oc (strs ss) /\
   Below w.heap.size w w1/\(∀ k,AD oa=some k->w.heap.size<=k)/\aZ<=9223372036854775807 /\
   AO l at_ n=(AO l aZ (n-i)).map λ r=>(ss++r.1,r.2),λ s _=>match s with
   | [_,_,.int _ i]=>n-i.toNat
   | _=>0,⟨0,[],at_,none,0,rfl,rfl,by omega,Row.nil _ _ _,.refl _ _,by simp [AD],cU,by simp⟩,?_⟩
 rintro _ oa _ oc _ w1 ⟨i,ss,aZ,_,_,aA,hi,cD,R1,B1,N1,kV,hT⟩;cases aA;refine Aa (λ aB=>?_) (λ aI=>?_)
 ·refine (Ed (hl.grown B1) hc hs (aZ:Int) (by omega) 1024).mono ?_;rintro _ w3 ⟨_,rfl,rfl,rfl⟩;have ae:n-i=(n-(i+1))+1:=by omega
  rw [ae] at hT;cases hx:BD l (aZ:Int) 1024 with
  | none =>
   refine⟨_,_,_,rfl,Ah (λ _=>⟨?_,B1⟩) (λ h=>absurd h (by decide))⟩;rw [NC hx] at hT;unfold Nf;rw [hT];rfl
  | some x =>
   rw [ND hx] at hT;refine⟨_,_,_,rfl,Ah (λ h=>absurd rfl h) (λ _=>(SH.start (λ _=>False) w3).An λ iq w4 kX B4 S4=>?_)⟩;have aW:Rd w4 (some ⟨iq,0,none⟩) (strs [x.1]):=by
    have:=Rd.Ak (S4.get 0 rfl);simpa [strs] using this
   refine Ez (u:=[x.1]) (R1.grown B4) rfl aW (by simp;omega) λ a5 c5 w5 R5 K5 N5=>⟨_,_,_,rfl,?_⟩;have C4:=Ac B1 B4;have C5:Below w.heap.size w w5:=C4.trans (K5.below C4.size λ k hk he=>by have:=N1 k he;omega);have N5':∀ k,AD a5=some k->w.heap.size<=k:=by
    intro k hk;rcases N5 k hk with h | h
    ·exact N1 k h
    ·have:=C4.size;omega
   have hle:=Mo (s:=x.1) (k:=x.2) hx;rw [Ae (by omega)];refine⟨⟨i+1,ss++[x.1],x.2,a5,c5,rfl,by simp [hi],by omega,R5,C5,N5',by omega,?_⟩,?_⟩
   ·rw [hT,Option.map_map];congr 1;funext r;simp
   ·simp only [Ale];omega
 ·have vS:i=n:=by omega
  refine⟨?_,B1⟩;have:n-i=0:=by omega
  rw [this] at hT;unfold Nf;have e:AO l at_ n=some (ss,aZ):=by rw [hT];simp [AO]
  rw [e];exact⟨oa,oc,rfl,R1.rd⟩
end
theorem Aby{n:Nat}(h:n<18446744073709551616)(pre b:List UInt8):takeN (pre++(Af n++b)) (pre.length:Int)=some (n,pre.length+(Af n).length):=by
 unfold takeN;rw [if_neg (by omega),Ale,Amu];rw [PO n 0 0 b (by simpa using h) (by omega) (by intro;rfl)];simp
theorem Ahm{s:ByteArray}(hz:s.size<=1024)(pre b:List UInt8):BD (pre++(BA s++b)) (pre.length:Int) 1024=some (bl s,pre.length+(BA s).length):=by
 unfold BD BA;rw [List.append_assoc,Aby (by omega)];have hl:=Bb s;simp only;rw [if_neg (by simp only [Alb];omega)];congr 1;have e:pre++(Af s.size++(bl s++b))=(pre++Af s.size)++(bl s++b):=by simp
 rw [e,<- Alb,Amu,<- hl,List.take_left];simp only [Alb,Amr]
theorem Ml:∀ {ls:List ByteArray} (hz:∀ s∈ls,s.size<=1024) (pre b:List UInt8),AO (pre++(BW ls++b)) pre.length ls.length=some (ls.map bl,pre.length+(BW ls).length)
 | [],_,pre,b=>by simp [AO,BW]
 | s :: ls,hz,pre,b=>by
  have e:pre++(BW (s :: ls)++b)=pre++(BA s++(BW ls++b)):=by simp [BW]
  have e2:pre++(BA s++(BW ls++b))=(pre++BA s)++(BW ls++b):=by simp
  rw [Ald];unfold AO;rw [e,Ahm (hz s (AlN ..))];simp only;rw [e2,<- Alb,Ml (λ x hx=>hz x (AlO _ hx))];simp [BW,Amr]
theorem Iv{xs:List Nat}{w:Nat}(hx:∀ x∈xs,x<2 ^ w):BK (A5 xs w) xs.length w=xs:=by
 apply List.ext_getElem
 ·simp [BK]
 ·intro i h1 h2;have e:(BK (A5 xs w) xs.length w)[i]=QF (DH (A5 xs w)) w (xs.length*w) i:=by simp [BK]
  rw [e];have dI:=hx _ (AlS h2);by_cases hw:0<w
  case neg =>
   have:w=0:=by omega
   subst this;have h0:xs[i]=0:=by simpa using dI
   simp [QF,h0]
  apply Nat.eq_of_testBit_eq;intro k;rw [Uc _ hw];by_cases hk:k<w
  ·have ob:i*w+k<xs.length*w:=by
    have:(i+1)*w<=xs.length*w:=Nat.mul_le_mul_right _ h2;rw [Amq] at this;omega
   have jL:(i*w+k) / w=i:=by
    rw [Alp,Nat.mul_add_div (by omega),Nat.div_eq_of_lt hk,Nat.add_zero]
   have fh:(i*w+k) % w=k:=by
    rw [Alp,Nat.mul_add_mod,Nat.mod_eq_of_lt hk]
   have hj:(i*w+k) / 8<DA xs.length w:=by unfold DA;omega
   have hb:DH (A5 xs w) (i*w+k)=Ey xs w (i*w+k):=by
    unfold DH;have:(A5 xs w).getD ((i*w+k) / 8) 0=Alj (Ub (Ey xs w) (xs.length*w) ((i*w+k) / 8)):=by
     simp [List.getD,U7 hj]
    rw [this,U6 (AlC _ (by omega)),show (i*w+k) / 8*8+(i*w+k) % 8=i*w+k by omega];simp [ob]
   rw [hb];unfold Ey;rw [jL,fh];simp [hk,ob,h2]
  ·rw [Nat.testBit_lt_two_pow (AkY dI (Alw (by omega) (Nat.le_of_not_lt hk)))];simp [hk]
def Abw(many:Nat)(ts:List (List UInt8))(xs:List Nat):Option (List (List UInt8)):=if ∀ p∈xs,p<many then some (xs.map λ p=>ts.getD p []) else none
def BU(l:List UInt8)(n:Nat):Option (List (List UInt8)) :=
 (takeN l 1).bind λ x=>if n<x.1 then none else (AO l x.2 x.1).bind λ y=>if l.length<=y.2 then none else
  if GP (n:Int) ((l.getD y.2 0).toNat:Int)/\Sb (l.drop (y.2+1)) n (l.getD y.2 0).toNat then Abw x.1 y.1 (BK (l.drop (y.2+1)) n (l.getD y.2 0).toNat) else none
theorem Xi{t:List (List UInt8)}{ls:List ByteArray}(ht:Em (ls.map bl) t):∀ x∈A9 t ls,x<t.length:=by
 intro x hx;obtain⟨s,hs,rfl⟩:=AkU.1 hx;exact List.idxOf_lt_length_of_mem ((ht.mem _).2 (AkU.2 ⟨s,hs,rfl⟩))
theorem Aa4{t:List (List UInt8)}{ls:List ByteArray}(ht:Em (ls.map bl) t):t.length<=ls.length:=by
 have:=Hx (GA ht.up) (λ x hx=>(ht.mem x).1 hx);simpa using this
theorem Aiz{t:List (List UInt8)}{ls:List ByteArray}{w:Nat}(ht:Em (ls.map bl) t)(hn:ls.length<=4096)(hw:DL (Ic (A9 t ls)) w):w<=13 :=
 hw.le.2 ((HQ _ _).2 λ x hx=>by have:=Xi ht x hx;have:=Aa4 ht;omega)
theorem Abx{ls:List ByteArray}{b:List UInt8}(aK:E6 1 ls)(h:F7 ls 1 b):BU b ls.length=some (ls.map bl):=by
 cases h with
 | table t w ht hw =>
 obtain⟨_,_,hn,cX⟩:=aK;have hz:=Gz cX;have eU:=Aa4 ht;have jj:∀ s∈t.map BC,s.size<=1024:=by
  intro s hs;obtain⟨x,hx,rfl⟩:=AkU.1 hs;obtain⟨s',bS,rfl⟩:=AkU.1 ((ht.mem x).1 hx);rw [EJ];exact hz s' bS
 have qj:=Aiz ht hn hw;have bM:=(HQ _ _).1 hw.1;obtain⟨xs,bP⟩:∃ xs,xs=A9 t ls:=⟨_,rfl⟩;have dB:xs.length=ls.length:=by rw [bP];simp [A9]
 rw [<- bP] at bM ⊢;have e1:(1 :: Af t.length)++(BW (t.map BC)++(Alj w :: A5 xs w))=[1]++(Af t.length++(BW (t.map BC)++(Alj w :: A5 xs w))):=by simp
 have e2:[1]++(Af t.length++(BW (t.map BC)++(Alj w :: A5 xs w)))=([1]++Af t.length)++(BW (t.map BC)++(Alj w :: A5 xs w)):=by simp
 obtain⟨b,hb⟩:∃ b,b=(1 :: Af t.length)++(BW (t.map BC)++(Alj w :: A5 xs w)):=⟨_,rfl⟩;have h1:takeN b 1=some (t.length,1+(Af t.length).length):=by
  rw [hb,e1];exact Aby (by omega) [1] _
 have h2:AO b (1+(Af t.length).length) t.length=some (t,1+(Af t.length).length+(BW (t.map BC)).length):=by
  have h:=Ml jj ([1]++Af t.length) (Alj w :: A5 xs w);rw [<- e2,<- e1,<- hb] at h;simp only [Alb,Ald,Amp,Alr] at h;rw [show 0+1+(Af t.length).length=1+(Af t.length).length by omega] at h;rw [h];have:(t.map BC).map bl=t:=by
   rw [List.map_map];have:(bl ∘ BC)=id:=by funext x;exact BN x
   rw [this,List.map_id]
  rw [this]
 obtain⟨q,hq⟩:∃ q,q=1+(Af t.length).length+(BW (t.map BC)).length:=⟨_,rfl⟩;have e3:b=((1 :: Af t.length)++BW (t.map BC))++(Alj w :: A5 xs w):=by rw [hb];simp
 have iF:q=((1 :: Af t.length)++BW (t.map BC)).length:=by rw [hq];simp;omega
 have hlen:b.length=q+1+(A5 xs w).length:=by rw [e3,Alb,<- iF,Ald];omega
 have hg:b.getD q 0=Alj w:=by
  rw [e3,iF];simp [List.getD]
 have hd:b.drop (q+1)=A5 xs w:=by
  rw [e3,iF,<- List.drop_drop,Amu];rfl
 have hwN:(Alj w).toNat=w:=ES (by omega);rw [<- hq] at h2;rw [<- hb];simp only [BU,h1,h2,Option.bind_some,hg,hd,hwN];rw [if_neg (by omega),if_neg (by omega)];have lh:BK (A5 xs w) ls.length w=xs:=by rw [<- dB];exact Iv bM
 have bY:GP (ls.length:Int) (w:Int)/\Sb (A5 xs w) ls.length w:=by
  refine⟨⟨by omega,by omega,by omega,by omega⟩,?_,?_⟩
  ·rw [BR,dB]
  ·rw [lh]
 rw [if_pos bY,lh];unfold Abw;rw [if_pos (by rw [bP];exact Xi ht),bP];congr 1;unfold A9;rw [List.map_map];apply List.map_congr_left;intro s hs;have hm:bl s∈t:=(ht.mem _).2 (AkU.2 ⟨s,hs,rfl⟩);have hi:=List.idxOf_lt_length_of_mem hm;simp only [Function.comp];simp [List.getD,hi,List.getElem_idxOf]
theorem AaG{ls:List ByteArray}{b:List UInt8}(aK:E6 0 ls)(h:F7 ls 0 b):(AO b 1 ls.length).map (·.1)=some (ls.map bl):=by
 cases h with
 | plain =>
 have h:=Ml (Gz aK.2.2.2) [0] [];simp only [List.append_nil] at h;have e:[0]++BW ls=0 :: BW ls:=rfl;rw [e] at h;have e1:([0]:List UInt8).length=1:=rfl;rw [e1] at h;rw [h];rfl
structure Il(l:List UInt8)(n:Nat)(ls:List ByteArray):Prop where
 len:ls.length=n
 ok:E6 ((l.getD 0 0).toNat:Int) ls
 enc:F7 ls ((l.getD 0 0).toNat:Int) l
def Hc(l:List UInt8)(n:Nat):Option (List (List UInt8)):=if l.getD 0 0=0 then (AO l 1 n).map (·.1) else BU l n
theorem Il.reads{l:List UInt8}{n:Nat}{ls:List ByteArray}(h:Il l n ls):Hc l n=some (ls.map bl):=by
 obtain⟨rfl,ok,enc⟩:=h;unfold Hc;by_cases h0:l.getD 0 0=0
 ·rw [if_pos h0];rw [h0] at ok enc;exact AaG ok enc
 ·rw [if_neg h0];have h1:((l.getD 0 0).toNat:Int)=1:=by
   have h2:=ok.1;have h3:=ok.2.1;have:(l.getD 0 0).toNat≠0:=λ h=>h0 (UInt8.toNat_inj.1 h);omega
  rw [h1] at ok enc;exact Abx ok enc
theorem Il.one{l:List UInt8}{n:Nat}{ls ms:List ByteArray}(h:Il l n ls)(h':Il l n ms):ls=ms:=by
 have:=Option.some.inj (h.reads.symm.trans h'.reads);have:=congrArg (List.map BC) this;rwa [HO,HO] at this
theorem Ade{l:List UInt8}{n:Nat}{ms:List (List UInt8)}(h:BU l n=some ms):ms.length=n:=by
 unfold BU at h;obtain⟨x,_,h⟩:=Option.bind_eq_some_iff.1 h;split at h
 ·cases h
 ·obtain⟨y,_,h⟩:=Option.bind_eq_some_iff.1 h;split at h
  ·cases h
  ·split at h
   ·unfold Abw at h;split at h
    ·cases h;simp [BK]
    ·cases h
   ·cases h
theorem Xl{l:List UInt8}{n:Nat}{ms:List (List UInt8)}(h:Hc l n=some ms):ms.length=n:=by
 unfold Hc at h;split at h
 ·obtain⟨r,hr,rfl⟩:=Amt.1 h;exact Hp hr
 ·exact Ade h
structure VU(B:Nat)(w:World)(ns:List Int)(na:Option Addr)(nc:Nat)(ss:List ByteArray)(sa:Option Addr)(sc:Nat):Prop where
 rn:Row w ty.int64 1 na ns.length nc (ns.map EE)
 rs:Row w ty.string 1 sa ss.length sc (ss.map Value.string)
 nn:∀ x,AD na=some x->B<=x
 sn:∀ x,AD sa=some x->B<=x
 ne:∀ x,AD na=some x->AD sa≠some x
theorem VU.nil(B:Nat)(w:World):VU B w [] none 0 [] none 0:=⟨Row.nil _ _ _,Row.nil _ _ _,by simp [AD],by simp [AD],by simp [AD]⟩
section
variable {B:Nat}{w w':World}{ns:List Int}{na:Option Addr}{nc:Nat}{ss:List ByteArray}{sa:Option Addr}{sc:Nat}
theorem VU.keeps(h:VU B w ns na nc ss sa sc){F:Nat->Prop}(K:Ai F w w')(hF:∀ x,F x->x<B\/w.heap.size<=x):VU B w' ns na nc ss sa sc :=
 ⟨h.rn.keeps K λ x hx hf=>by have:=h.nn x hx;have:=h.rn.lt hx;have:=hF x hf;omega,h.rs.keeps K λ x hx hf=>by have:=h.sn x hx;have:=h.rs.lt hx;have:=hF x hf;omega,h.nn,h.sn,h.ne⟩
theorem VU.grown(h:VU B w ns na nc ss sa sc)(hb:Below w.heap.size w w'):VU B w' ns na nc ss sa sc:=h.keeps (F:=λ _=>False) (Ai.AA hb) (by simp)
theorem AkG:M9 Tryz.prog ty.Bk=some (ty.int64,1,8,.int .i64 0):=by kernel_rfl
theorem VU.AhP(h:VU B w ns na nc ss sa sc)(hB:B<=w.heap.size)(hl:ns.length<=1000000){x:Int}{b:Nat}{t:TypeId}(hb:w.heap[b]?=some (.cells #[EE x] t (0,0))){f:Value->World->Prop}
  (hf:∀ a' c' w',VU B w' (ns++[x]) a' c' ss sa sc->Ai (λ k=>AD na=some k) w w'->f (.slice a' (ns++[x]).length c') w'):DB Tryz.prog (Builtin.append_ #[ty.Bk,ty.Bk] ty.Bk #[.slice na ns.length nc,.slice (some ⟨b,0,none⟩) 1 1]) f w:=by
 have aW:Rd w (some ⟨b,0,none⟩) ([x].map EE):=by
  have:=Rd.Ak hb;simpa using this
 obtain⟨a5,c5,w2,aH,aJ,cj,hnw⟩:=BZ (ty:=ty.Bk) (mc:=1) AkG rfl (by omega) (by omega) h.rn aW (m:=1) rfl (by simp [EE];rfl) (by omega);unfold DB;rw [aH];have e:ns.length+1=(ns++[x]).length:=by simp
 rw [e] at aJ ⊢;refine hf a5 c5 w2 ⟨by rw [List.map_append];exact aJ,h.rs.keeps cj λ k hk hr=>h.ne k hr hk,λ k hk=>?_,h.sn,λ k hk hs=>?_⟩ cj
 ·rcases hnw k hk with h1 | h1
  ·exact h.nn k h1
  ·omega
 ·rcases hnw k hk with h1 | h1
  ·exact h.ne k h1 hs
  ·have:=h.rs.lt hs;omega
theorem VU.AhQ(h:VU B w ns na nc ss sa sc)(hB:B<=w.heap.size)(hl:ss.length<=1000000){x:ByteArray}{b:Nat}{t:TypeId}(hb:w.heap[b]?=some (.cells #[.string x] t (0,0))){f:Value->World->Prop}
  (hf:∀ a' c' w',VU B w' ns na nc (ss++[x]) a' c'->Ai (λ k=>AD sa=some k) w w'->f (.slice a' (ss++[x]).length c') w'):DB Tryz.prog (Builtin.append_ #[ty.Co,ty.Co] ty.Co #[.slice sa ss.length sc,.slice (some ⟨b,0,none⟩) 1 1]) f w:=by
 have aW:Rd w (some ⟨b,0,none⟩) ([x].map Value.string):=by
  have:=Rd.Ak hb;simpa using this
 obtain⟨a5,c5,w2,aH,aJ,cj,hnw⟩:=BZ (ty:=ty.Co) (mc:=1) tS rfl (by omega) (by omega) h.rs aW (m:=1) rfl (by simp;rfl) (by omega);unfold DB;rw [aH];have e:ss.length+1=(ss++[x]).length:=by simp
 rw [e] at aJ ⊢;refine hf a5 c5 w2 ⟨h.rn.keeps cj λ k hk hr=>h.ne k hk hr,by rw [List.map_append];exact aJ,h.nn,λ k hk=>?_,λ k hk hs=>?_⟩ cj
 ·rcases hnw k hk with h1 | h1
  ·exact h.sn k h1
  ·omega
 ·rcases hnw k hs with h1 | h1
  ·exact h.ne k hk h1
  ·have:=h.rn.lt hk;omega
end
def CS(ls:List AB):List Int:=(AQ ls).map (·.2.1)
def BB(ls:List AB):List ByteArray:=(AQ ls).map (·.2.2)
theorem Jg(ls:List AB):(CS ls).length<=ls.length:=by unfold CS AQ;rw [Alr];exact List.length_filter_le ..
theorem Gp(ls:List AB):(BB ls).length<=ls.length:=by unfold BB AQ;rw [Alr];exact List.length_filter_le ..
theorem Rn{ls:List AB}{i:Nat}(hi:i<ls.length):(ls[i].1=0->CS (ls.take (i+1))=CS (ls.take i)/\BB (ls.take (i+1))=BB (ls.take i)) /\
  (ls[i].1≠0->CS (ls.take (i+1))=CS (ls.take i)++[ls[i].2.1]/\BB (ls.take (i+1))=BB (ls.take i)++[ls[i].2.2]):=by
 unfold CS BB;rw [CU hi];constructor
 ·intro h;simp [h]
 ·intro h;simp [h]
inductive D9 (kind:Int) (ls:List AB):List UInt8->Prop
 | text (h:kind=3) (b0 b1:List UInt8) (h0:F7 (BB ls) 0 b0) (h1:F7 (BB ls) 1 b1):D9 kind ls (if b1.length<b0.length then b1 else b0)
 | num (h:kind≠3):D9 kind ls (DR (Ul (CS ls)) (CS ls))
theorem D9.one{kind:Int}{ls:List AB}{b c:List UInt8}(h:D9 kind ls b)(h':D9 kind ls c):b=c:=by
 cases h with
 | text h b0 b1 h0 h1 =>
  cases h' with
  | text k c0 c1 k0 k1=>rw [h0.one k0,h1.one k1]
  | num k=>exact absurd h k
 | num h =>
  cases h' with
  | text k c0 c1 k0 k1=>exact absurd k h
  | num k=>rfl
structure Be(kind:Int)(ls:List AB):Prop where
 right:DW kind ls=true
 ok:∀ v∈ls,BL v
theorem Be.len{kind:Int}{ls:List AB}(h:Be kind ls):ls.length<=1024:=by
 have:=h.right;simp [DW] at this;omega
theorem Be.kind{kind:Int}{ls:List AB}(h:Be kind ls):1<=kind/\kind<=3:=by
 have:=h.right;simp [DW] at this;omega
theorem Be.all{kind:Int}{ls:List AB}(h:Be kind ls):∀ v∈ls,okV kind v=true:=by
 have:=h.right;simp only [DW,AkM,AlM] at this;exact this.1
theorem Be.Ae8{kind:Int}{ls:List AB}(h:Be kind ls):∀ x∈CS ls,Fs x:=by
 intro x hx;obtain⟨v,hv,rfl⟩:=AkU.1 hx;have:=h.ok v (List.mem_filter.1 hv).1;exact⟨this.lo,this.hi⟩
theorem Be.texts{kind:Int}{ls:List AB}(h:Be kind ls):Kk (BB ls)=false:=by
 unfold Kk;rw [List.any_eq_false];intro s hs;obtain⟨v,hv,rfl⟩:=AkU.1 hs;have:=h.all v (List.mem_filter.1 hv).1;simp only [okV,AkM] at this;have hr:=this.1;simp only [decide_eq_true_eq];unfold AK at hr;have hE:∀ s:ByteArray,s=E0->s.size=0:=by rintro s rfl;rfl
 split at hr
 ·simp at hr;have:=hE _ hr.2;omega
 ·split at hr
  ·simp at hr;have:=hE _ hr;omega
  ·split at hr
   ·simp at hr;have:=hE _ hr.2;omega
   ·split at hr
    ·simp at hr;omega
    ·cases hr
theorem Be.enc{kind:Int}{ls:List AB}(h:Be kind ls)(f:Int)(hf:0<=f/\f<=1):E6 f (BB ls):=⟨hf.1,hf.2,by have:=Gp ls;have:=h.len;omega,h.texts⟩
theorem F7.len{f:Int}{ls:List ByteArray}{b:List UInt8}(aK:E6 f ls)(h:F7 ls f b):b.length<=60000+ls.length*1034:=by
 obtain⟨_,_,hn,cX⟩:=aK;have hz:=Gz cX;cases h with
 | plain =>
  have:=Gi hz;simp only [Ald];omega
 | table t w ht hw =>
  have eU:t.length<=ls.length:=by
   have:=Hx (GA ht.up) (λ x hx=>(ht.mem x).1 hx);simpa using this
  have jj:∀ s∈t.map BC,s.size<=1024:=by
   intro s hs;obtain⟨x,hx,rfl⟩:=AkU.1 hs;obtain⟨s',bS,rfl⟩:=AkU.1 ((ht.mem x).1 hx);rw [EJ];exact hz s' bS
  have l1:=Gi jj;rw [Alr] at l1;have l2:=Al (n:=t.length) (by omega);have qj:w<=13:=hw.le.2 ((HQ _ _).2 λ x hx=>by
   obtain⟨s,hs,rfl⟩:=AkU.1 hx;have:=List.idxOf_le_length (l:=t) (a:=bl s);omega)
  have bM:(A9 t ls).length=ls.length:=by simp [A9]
  have l3:(A9 t ls).length*w<=4096*13:=Al0 (by omega) qj;simp only [Alb,Ald,BR];unfold DA;omega
theorem D9.len{kind:Int}{ls:List AB}{b:List UInt8}(hg:Be kind ls)(h:D9 kind ls b):b.length<=2000000:=by
 have l1:=Gp ls;have l2:=Jg ls;have l3:=hg.len;cases h with
 | text h b0 b1 h0 h1 =>
  have k0:=h0.len (hg.enc 0 (by omega));have k1:=h1.len (hg.enc 1 (by omega));split <;> omega
 | num h =>
  have:=AeU (Ul (CS ls)) (by omega) hg.Ae8;omega
section
variable {w:World}{a:Option Addr}{c:Nat}{ls:List AB}
theorem TD{kind:Int}(hg:Be kind ls)(hl:Rd w a (AP ls)) :
  Calls Tryz.prog f.YS #[.int .i64 kind,.slice a ls.length c] w (AG λ v w'=>∃ b a' c',v=.slice a' b.length c'/\D9 kind ls b/\Bm w w' b a' c'):=by
 have hlen:=hg.len;apply R.Ox
 delta R.MG R.AR R.F R.I R.J R.Ks R.Li R.Lt R.N R.O R.Zz R.S R.T R.W R.X;try dsimp only [R.Ps]
 refine⟨λ s w1=>∃(i:Nat) (na:Option Addr) (nc:Nat) (sa:Option Addr) (sc:Nat),s=[.slice na (CS (ls.take i)).length nc,.slice sa (BB (ls.take i)).length sc,.int .i64 (i:Int)]/\i<=ls.length/\VU w.heap.size w1 (CS (ls.take i)) na nc (BB (ls.take i)) sa sc/\Below w.heap.size w w1,λ s _=>match s with
   | [_,_,.int _ i]=>ls.length-i.toNat
   | _=>0,⟨0,none,0,none,0,rfl,by omega,VU.nil _ _,.refl _ _⟩,?_⟩
 rintro na _ nc sa _ sc _ w1 ⟨i,_,_,_,_,aA,hi,hT,B1⟩;cases aA;have cM:ls.length-(IntKind.i64.wrap ((i:Int)+1)).toNat<ls.length-((i:Nat):Int).toNat\/¬ i<ls.length:=by
  by_cases h:i<ls.length
  ·left;rw [Ae (by omega)];simp only [Ale];omega
  ·exact .inr h
 refine Aa (λ aB=>⟨⟨by omega,aB⟩,?_⟩) (λ aI=>?_)
 ·have aD:i<ls.length:=by omega
  have cM:=cM.resolve_right (by omega);obtain⟨p,rfl,c0,c1,c2⟩:=Di (hl.grown B1) aD;obtain⟨t0,t1⟩:=Rn aD;refine⟨_,by rw [Ale];exact c0,Ah (λ aQ=>⟨⟨by omega,aB⟩,_,by rw [Ale];exact c1,(SH.start (λ _=>False) w1).An λ b2 w2 dF B2 S2=>?_⟩) (λ hz=>?_)⟩
  ·obtain⟨e1,e2⟩:=t1 aQ;have C2:=Ac B1 B2;have eR:=Jg (ls.take i);have gI:=Gp (ls.take i);rw [Al7] at eR gI;refine (hT.grown B2).AhP C2.size (by omega) (S2.get 0 rfl) λ a3 c3 w3 h3 K3=>⟨_,_,_,rfl,⟨by omega,aB⟩,?_⟩;have C3:Below w.heap.size w w3:=C2.trans (K3.below C2.size λ k hk he=>by have:=hT.nn k he;omega);obtain⟨p',hp',_,_,iQ⟩:=Di (hl.grown C3) aD;cases hp';refine⟨_,by rw [Ale];exact iQ,(SH.start (λ _=>False) w3).An λ b4 w4 jy B4 S4=>?_⟩;have C4:=Ac C3 B4;refine (h3.grown B4).AhQ C4.size (by omega) (S4.get 0 rfl) λ a5 c5 w5 h5 K5=>⟨_,_,_,rfl,?_⟩;refine⟨⟨i+1,a3,c3,a5,c5,?_,by omega,by rw [e1,e2];exact h5,C4.trans (K5.below C4.size λ k hk he=>by have:=hT.sn k he;omega)⟩,cM⟩;rw [e1,e2,Ae (by omega)]
  ·obtain⟨e1,e2⟩:=t0 hz;refine⟨⟨i+1,na,nc,sa,sc,?_,by omega,by rw [e1,e2];exact hT,B1⟩,cM⟩;rw [e1,e2,Ae (by omega)]
 ·have bF:ls.take i=ls:=AlK (by omega);rw [bF] at hT ⊢;have iX:(BB ls).length<=9223372036854775807:=by have:=Gp ls;omega
  have qP:(CS ls).length<=4096:=by have:=Jg ls;omega
  refine Ao (λ h3=>?_) (λ h3=>?_)
  ·refine (Aa0 hT.rs.rd iX).mono ?_;rintro _ eK ⟨_,rfl,hB,f'⟩;rcases hB with ⟨aP,_⟩ | ⟨b0,b1,h0,h1,_,rfl⟩
   ·exact absurd (hg.enc 0 (by omega)) aP
   refine⟨_,_,rfl,?_⟩;have hf:0<=(if b1.length<b0.length then (1:Int) else 0)/\(if b1.length<b0.length then (1:Int) else 0)<=1:=by split <;> omega
   refine (Gt _ (hT.rs.rd.grown f') iX).mono ?_;rintro _ kG ⟨_,rfl,hE⟩;rcases hE with ⟨aP,_⟩ | ⟨_,b,a,c,hE,rfl,hN⟩
   ·exact absurd (hg.enc _ hf) aP
   refine⟨_,_,_,_,rfl,b,a,c,rfl,?_,hN.before (Ac B1 f')⟩;have:=D9.text (kind:=kind) (ls:=ls) h3 b0 b1 h0 h1;split at hE
   ·rename_i aB;rw [if_pos aB] at this;rw [hE.one h1];exact this
   ·rename_i aB;rw [if_neg aB] at this;rw [hE.one h0];exact this
  ·refine (RS hT.rn.rd qP hg.Ae8).mono ?_;rintro _ eK ⟨_,rfl,rfl,f'⟩;refine⟨_,_,rfl,(Fy _ (hT.rn.rd.grown f') hg.Ae8).mono ?_⟩;rintro _ kG ⟨_,rfl,hE⟩;obtain⟨a,c,rfl,hN⟩:=Kc.D7 (Pd _) qP hE;exact⟨_,_,_,_,rfl,_,a,c,rfl,.num h3,hN.before (Ac B1 f')⟩
end
end Go.Proofs.YtpnaifmmggnimaaGreatDoor
