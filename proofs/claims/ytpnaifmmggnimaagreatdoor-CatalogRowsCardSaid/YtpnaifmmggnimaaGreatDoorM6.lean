/-
  Texts of this claim, laid one behind the other by a program of mine (install.py): G.Sch6, G.VLay, G.VTake0, G.VLay2, G.TakeS, G.VTake, G.VTake2, G.VTake3, Dn.St, G.Sch7, G.Sch8, G.Unpack, G.Unpack2, G.Take, G.DecLaw, G.Ch2.
-/
import Derived.Test.YtpnaifmmggnimaaGreatDoorM4
import Derived.Test.YtpnaifmmggnimaaGreatDoorM5
import Derived.Test.YtpnaifmmggnimaaGreatDoorM1
import Derived.Test.YtpnaifmmggnimaaGreatDoorM3
namespace Go.Proofs.YtpnaifmmggnimaaGreatDoor
open _root_.Bool renaming and_false -> Amc
open _root_.Int renaming toNat_natCast -> Ak4
open _root_.List renaming flatMap_cons -> Amb, getElem_mem -> AlI, mem_map -> AkK
open _root_.Nat renaming lt_or_ge -> AlH
set_option maxRecDepth 100000
open Go.Dn Go.Proofs
open Go.RowKit (Below)
set_option linter.unusedVariables false
theorem PA{α:Type}{g:α->List Value}{n:Nat}(hg:∀ x,(g x).length=n):∀(ls:List α) (i j:Nat) (hi:i<ls.length),j<n->(ls.flatMap g)[i*n+j]?=(g ls[i])[j]?
 | [],i,j,hi,_=>by simp at hi
 | v :: ls,0,j,_,hj=>by
  simp only [Amb,Nat.zero_mul,Nat.zero_add,List.getElem_cons_zero];rw [List.getElem?_append_left (by rw [hg];exact hj)]
 | v :: ls,i+1,j,hi,hj=>by
  simp only [Amb,List.getElem_cons_succ];have e:(i+1)*n+j=n+(i*n+j):=by rw [Nat.add_mul];omega
  rw [e,List.getElem?_append_right (by rw [hg];omega),hg,Nat.add_sub_cancel_left];exact PA hg ls i j (by simpa using hi) hj
theorem Agb{α:Type}{g:α->List Value}{n:Nat}(hg:∀ x,(g x).length=n)(ls:List α):(ls.flatMap g).length=ls.length*n:=by
 induction ls with
 | nil=>simp
 | cons v ls ih=>rw [Amb,List.length_append,ih,hg,List.length_cons,Nat.add_mul];omega
abbrev BQ:=ByteArray × Int × Bool
def Wh(c:BQ):List Value:=[.string c.1,.int .i64 c.2.1,.bool c.2.2]
abbrev BM(cs:List BQ):List Value:=cs.flatMap Wh
theorem PN(c:BQ):(Wh c).length=3:=rfl
theorem AfO(cs:List BQ):(BM cs).length=cs.length*3:=Agb PN cs
theorem FZ{w:World}{a:Option Addr}{cs:List BQ}(hl:Rd w a (BM cs)){i:Nat}(hi:i<cs.length):∃ p,a=some p/\w.cell? (p.add (i*3))=some (.string cs[i].1)/\w.cell? ((p.add (i*3)).add 1)=some (.int .i64 cs[i].2.1)/\w.cell? ((p.add (i*3)).add 2)=some (.bool cs[i].2.2):=by
 obtain⟨p,hp,h0⟩:=hl (i*3+0) _ (by rw [PA PN cs i 0 hi (by omega)];rfl);obtain⟨p1,hp1,h1⟩:=hl (i*3+1) _ (by rw [PA PN cs i 1 hi (by omega)];rfl);obtain⟨p2,gU,h2⟩:=hl (i*3+2) _ (by rw [PA PN cs i 2 hi (by omega)];rfl);subst hp;cases hp1;cases gU;exact⟨p,rfl,h0,by rw [BK];exact h1,by rw [BK];exact h2⟩
def FU(c:BQ):Bool:=Fv c.1 && decide (1<=c.2.1/\c.2.1<=3)
def Aq(cs:List BQ):Bool:=decide (1<=cs.length/\cs.length<=16) && cs.all FU && decide ((cs.map (·.1)).Nodup)
theorem Xu{cs:List BQ}{i:Nat}(hi:i<cs.length)(h:FU cs[i]=false\/cs[i].1∈(cs.take i).map (·.1)):Aq cs=false:=by
 rcases h with h | h
 ·have:cs.all FU=false:=by
   rw [List.all_eq_false];exact⟨_,AlI hi,by simp [h]⟩
  simp [Aq,this]
 ·have:¬ (cs.map (·.1)).Nodup:=by
   intro hn;obtain⟨j,hj,he⟩:=List.getElem_of_mem h;simp only [List.length_take,List.length_map] at hj;have dU:j<i:=by omega
   have:=(List.pairwise_iff_getElem.1 hn) j i (by simp;omega) (by simpa using hi) dU;apply this;simp only [List.getElem_take,List.getElem_map] at he ⊢;exact he
  simp [Aq,this]
theorem Xp{cs:List BQ}(h:∀ i (hi:i<cs.length),FU cs[i]=true/\cs[i].1∉(cs.take i).map (·.1)):Aq cs=decide (1<=cs.length/\cs.length<=16):=by
 have h1:cs.all FU=true:=by
  rw [List.all_eq_true];intro c hc;obtain⟨i,hi,rfl⟩:=List.getElem_of_mem hc;exact (h i hi).1
 have h2:(cs.map (·.1)).Nodup:=by
  refine List.pairwise_iff_getElem.2 λ i j hi hj dM=>?_;have pK:j<cs.length:=by simpa using hj
  intro he;apply (h j pK).2;refine List.mem_iff_getElem.2 ⟨i,by simp;omega,?_⟩;simp only [List.getElem_take,List.getElem_map] at he ⊢;exact he
 simp [Aq,h1,h2]
section
variable {w:World}{a:Option Addr}{c:Nat}{cs:List BQ}
theorem AaN:Tryz.prog.underlying ty.bool=some .bool:=by kernel_rfl
theorem Abw:Tryz.prog.underlying ty.GX=some (.map ty.string ty.bool):=by kernel_rfl
theorem Afl(w:World):(zeroValue ty.bool).run Tryz.prog w=.ok (.bool false) w:=by
 have h:(Tryz.prog.info? ty.bool).bind (·.zero)=some (.bool false):=by kernel_rfl
 cases hi:Tryz.prog.info? ty.bool with
 | none=>rw [hi] at h;cases h
 | some i =>
  rw [hi] at h;have hz:i.zero=some (.bool false):=h;simp [zeroValue,typeInfo,hi,hz]
abbrev Ai1(w:World)(b n:Nat)(g:List UInt8->Bool):Prop:=XF Tryz.prog ty.string ty.bool w b n g
theorem Ahj{w:World}{f:Value->World->Prop}(hf:∀ b w',w.heap.size<=b->Below w.heap.size w w'->Ai1 w' b 0 (λ _=>false)->f (.map (some b)) w'):DE Tryz.prog (Instr.makeMap ty.GX none) f w:=by
 unfold DE;rw [show (Instr.makeMap ty.GX none).run Tryz.prog w=.ok (.map (some w.heap.size)) (w.alloc (.map #[] 0)) from rfl];exact hf _ _ (Nat.le_refl _) ((Below.refl _ w).alloc (Nat.le_refl _) _) ⟨_,World.ownsMap_made _ _ _ _,Maps.tidy_empty,λ x=>rfl⟩
def inN(cs:List BQ)(i:Nat)(x:List UInt8):Bool:=decide (x∈((cs.take i).map (·.1)).map bl)
theorem Af8{i:Nat}(hi:i<cs.length):(λ y=>if y=bl cs[i].1 then true else inN cs i y)=inN cs (i+1):=by
 funext y;unfold inN;rw [List.take_succ_eq_append_getElem hi,List.map_append,List.map_append];by_cases h1:y=bl cs[i].1
 ·simp [h1]
 ·simp [h1]
theorem AdF{i:Nat}(hi:i<cs.length):inN cs i (bl cs[i].1)=true↔cs[i].1∈(cs.take i).map (·.1):=by
 unfold inN;rw [decide_eq_true_eq,AkK];constructor
 ·rintro⟨s,hs,he⟩;rw [<- Rn he];exact hs
 ·intro h;exact⟨_,h,rfl⟩
theorem RB:maxLen=9223372036854775807:=rfl
theorem D8(hl:Rd w a (BM cs))(hn:cs.length<=9223372036854775807)(hq:∀ c∈cs,c.1.size<=9223372036854775807) :
  Calls Tryz.prog f.YD #[.slice a cs.length c] w (AG λ r w'=>r=.bool (Aq cs)/\Below w.heap.size w w'):=by
 apply R.OU
 delta R.A R.Ab R.Cb R.F R.G R.I R.Lb R.Li R.Lt R.M R.N R.Qi R.Rb R.Rm R.Am R.T R.W R.X;try dsimp only [R.Ps]
 refine Ahj λ b w1 hb B1 hM1=>?_;refine⟨_,rfl,λ st w2=>∃ i:Nat,st=[.int .i64 (i:Int)]/\i<=cs.length/\(∀ j (hj:j<cs.length),j<i->FU cs[j]=true/\cs[j].1∉(cs.take j).map (·.1))/\Ai1 w2 b i (inN cs i)/\Below w.heap.size w w2,
  λ st _=>match st with | [.int _ t]=>cs.length-t.toNat | _=>0,⟨0,rfl,by omega,λ j _ hj=>by omega,hM1,B1⟩,?_⟩
 rintro t w2 ⟨i,aA,hi,aF,hM,C2⟩;cases aA;refine Aa (λ aB=>⟨⟨by omega,aB⟩,?_⟩) (λ aJ=>?_)
 ·have aD:i<cs.length:=by omega
  have aw:=hq _ (AlI aD);obtain⟨p,rfl,c0,c1,c2⟩:=FZ (hl.grown C2) aD;refine⟨_,by rw [Ak4];exact c0,_,by rw [Ak4];exact c1,_,by rw [Ak4];exact c2,(SH.start (λ _=>False) w2).Iz λ dO w6 kW B6 S6=>⟨_,S6.cell 0 rfl rfl,(Q5 _ aw w6).mono ?_⟩⟩;rintro _ w7 ⟨_,rfl,rfl,B7⟩;have S7:=S6.grown B7;have C7:Below w.heap.size w w7:=Ac (Ac C2 B6) B7;have xt:Ai1 w7 b i (inN cs i):=(hM.kept (F:=λ _=>False) (Ai.AA B6) (by simp)).kept (F:=λ _=>False) (Ai.AA B7) (by simp);have bad:FU cs[i]=false\/cs[i].1∈(cs.take i).map (·.1)->Value.bool false=.bool (Aq cs)/\Below w.heap.size w w7:=λ h=>⟨by rw [Xu aD h],C7⟩;refine⟨_,rfl,Au (Ap (λ h1=>?_) (λ h1=>bad (.inl (by simp [FU,h1]))))⟩;refine⟨_,S7.cell 0 rfl rfl,xt.get Jt AaN Abw (Afl w7) (by rw [RB];exact aw) ⟨_,rfl,?_⟩⟩;refine Ap (λ h2=>bad (.inr ((AdF aD).1 h2))) (λ h2=>⟨_,S7.cell 0 rfl rfl,?_⟩);refine Aa (λ h3=>bad (.inl ?_)) (λ h3=>⟨_,S7.cell 0 rfl rfl,Aa (λ h4=>bad (.inl ?_)) (λ h4=>⟨_,S7.cell 0 rfl rfl,?_⟩)⟩)
  ·have:¬ (1<=cs[i].2.1/\cs[i].2.1<=3):=by omega
   simp only [FU,this,decide_false,Amc]
  ·have:¬ (1<=cs[i].2.1/\cs[i].2.1<=3):=by omega
   simp only [FU,this,decide_false,Amc]
  ·refine xt.put Jt AaN Abw (by rw [RB];omega) (by rw [RB];exact aw) λ w9 K9 xN=>?_;rw [Af8 aD] at xN;rw [Ae (by omega)];have ok:FU cs[i]=true:=by
    have:1<=cs[i].2.1/\cs[i].2.1<=3:=by omega
    simp only [FU,h1,this,and_self,decide_true,Bool.and_self]
   refine⟨⟨i+1,rfl,by omega,λ j hj dU=>?_,xN,?_⟩,?_⟩
   ·rcases AlH j i with h | h
    ·exact aF j hj h
    ·obtain rfl:j=i:=by omega
     exact⟨ok,λ hm=>by rw [(AdF aD).2 hm] at h2;cases h2⟩
   ·exact C7.trans (K9.below C7.size λ k hk he=>by subst he;omega)
   ·show cs.length-((i+1:Nat):Int).toNat<cs.length-((i:Nat):Int).toNat;simp only [Ak4];omega
 ·have hR:Aq cs=decide (1<=cs.length/\cs.length<=16):=Xp λ j hj=>aF j hj (by omega);refine Aa (λ h=>⟨?_,C2⟩) (λ h=>⟨?_,C2⟩)
  ·rw [hR];congr 1;rw [decide_eq_decide];omega
  ·rw [hR];congr 1;rw [eq_comm,decide_eq_false_iff_not];omega
theorem VT(hl:Rd w a (BM cs))(hn:cs.length<=9223372036854775807)(s:ByteArray) :
  Calls Tryz.prog f.AcY #[.slice a cs.length c,.string s] w (AG λ r w'=>w'=w/\((r=.int .i64 (-1)/\∀ c∈cs,c.1≠s)\/∃(j:Nat) (hj:j<cs.length),r=.int .i64 (j:Int)/\cs[j].1=s/\∀ c∈cs.take j,c.1≠s)):=by
 apply R.RM
 delta R.F R.I R.Lt R.Qi R.W R.X;try dsimp only [R.Ps]
 refine⟨λ st w2=>∃ i:Nat,st=[.int .i64 (i:Int)]/\i<=cs.length/\(∀ c∈cs.take i,c.1≠s)/\w2=w,λ st _=>match st with | [.int _ t]=>cs.length-t.toNat | _=>0,⟨0,rfl,by omega,by simp,rfl⟩,?_⟩;rintro t w2 ⟨i,aA,hi,aF,rfl⟩;cases aA;refine Aa (λ aB=>⟨⟨by omega,aB⟩,?_⟩) (λ aJ=>⟨rfl,.inl ⟨rfl,?_⟩⟩)
 ·have aD:i<cs.length:=by omega
  obtain⟨p,rfl,c0,c1,c2⟩:=FZ hl aD;refine⟨_,by rw [Ak4];exact c0,?_⟩;rw [AZ];refine Aa (λ he=>⟨rfl,.inr ⟨i,aD,rfl,he,aF⟩⟩) (λ he=>?_);rw [Ae (by omega)];refine⟨⟨i+1,rfl,by omega,λ c hc=>?_,rfl⟩,?_⟩
  ·rw [List.take_succ_eq_append_getElem aD] at hc;rcases List.mem_append.1 hc with hc | hc
   ·exact aF c hc
   ·rw [List.mem_singleton.1 hc];exact he
  ·show cs.length-((i+1:Nat):Int).toNat<cs.length-((i:Nat):Int).toNat;simp only [Ak4];omega
 ·rw [List.take_of_length_le (by omega)] at aF;exact aF
theorem DL(hl:Rd w a (BM cs))(hn:cs.length<=9223372036854775807)(hq:∀ c∈cs,c.1.size<=9223372036854775807) :
  Calls Tryz.prog f.Abb #[.slice a cs.length c] w (AG λ r w'=>r=.bool (Aq cs)/\w'=w):=by
 apply R.Qd
 delta R.Cb R.Ci R.F R.G R.I R.Li R.Lt R.Qi R.S R.T R.W R.X;try dsimp only [R.Ps]
 refine Aa (λ h=>⟨?_,rfl⟩) (λ h1=>Aa (λ h=>⟨?_,rfl⟩) (λ h2=>?_))
 ·have:¬ (1<=cs.length/\cs.length<=16):=by omega
  simp [Aq,this]
 ·have:¬ (1<=cs.length/\cs.length<=16):=by omega
  simp [Aq,this]
 refine⟨λ st w2=>∃ i:Nat,st=[.int .i64 (i:Int)]/\i<=cs.length/\(∀ j (hj:j<cs.length),j<i->FU cs[j]=true/\cs[j].1∉(cs.take j).map (·.1))/\w2=w,
  λ st _=>match st with | [.int _ t]=>cs.length-t.toNat | _=>0,⟨0,rfl,by omega,λ j _ hj=>by omega,rfl⟩,?_⟩
 rintro t w2 ⟨i,aA,hi,aF,rfl⟩;cases aA;refine Aa (λ aB=>⟨⟨by omega,aB⟩,?_⟩) (λ aJ=>⟨?_,rfl⟩)
 ·have aD:i<cs.length:=by omega
  have aw:=hq _ (AlI aD);obtain⟨p,rfl,c0,c1,c2⟩:=FZ hl aD;have bad:FU cs[i]=false\/cs[i].1∈(cs.take i).map (·.1)->Value.bool false=.bool (Aq cs)/\w2=w2:=λ h=>⟨by rw [Xu aD h],rfl⟩;have hb:(0:Int)<=(i:Int)/\(i:Int)<(cs.length:Int):=⟨by omega,aB⟩;refine⟨_,by rw [Ak4];exact c0,(Tg _ aw w2).mono ?_⟩;rintro _ w2 ⟨_,rfl,rfl,rfl⟩;refine⟨_,rfl,Au (Ap (λ h3=>⟨hb,_,by rw [Ak4];exact c0,(VT hl hn _).mono ?_⟩) (λ h3=>bad (.inl (by simp [FU,h3]))))⟩;rintro _ w2 ⟨r,rfl,rfl,hr⟩;have fx:∃ z:Int,r=.int .i64 z/\(z=i↔cs[i].1∉(cs.take i).map (·.1)):=by
   rcases hr with ⟨rfl,h⟩ | ⟨j,hj,rfl,he,h⟩
   ·exact absurd rfl (h _ (AlI aD))
   ·refine⟨_,rfl,?_⟩;have hle:j<=i:=by
     rcases AlH i j with dM | dM
     ·exact absurd rfl (h cs[i] (List.mem_take_iff_getElem.2 ⟨i,by omega,rfl⟩))
     ·exact dM
    constructor
    ·intro hz hm;obtain⟨c,hc,he⟩:=AkK.1 hm;have:j=i:=by omega
     subst this;exact h c hc he
    ·intro hm;rcases AlH j i with dU | dU
     ·exact absurd (AkK.2 ⟨cs[j],List.mem_take_iff_getElem.2 ⟨j,by omega,rfl⟩,he⟩) hm
     ·omega
  obtain⟨z,rfl,hz⟩:=fx;refine⟨_,rfl,Ah (λ h=>bad (.inr ?_)) (λ h=>⟨hb,_,by rw [Ak4];exact c1,?_⟩)⟩
  ·by_cases hm:cs[i].1∈(cs.take i).map (·.1)
   ·exact hm
   ·exact absurd (hz.2 hm) h
  refine Aa (λ h3=>bad (.inl ?_)) (λ h3=>⟨hb,_,by rw [Ak4];exact c1,Aa (λ h4=>bad (.inl ?_)) (λ h4=>?_)⟩)
  ·have:¬ (1<=cs[i].2.1/\cs[i].2.1<=3):=by omega
   simp only [FU,this,decide_false,Amc]
  ·have:¬ (1<=cs[i].2.1/\cs[i].2.1<=3):=by omega
   simp only [FU,this,decide_false,Amc]
  ·rw [Ae (by omega)];refine⟨⟨i+1,rfl,by omega,λ j hj dU=>?_,rfl⟩,?_⟩
   ·rcases AlH j i with h | h
    ·exact aF j hj h
    ·obtain rfl:j=i:=by omega
     refine⟨?_,hz.1 (by omega)⟩;have:1<=cs[j].2.1/\cs[j].2.1<=3:=by omega
     simp_all [FU]
   ·show cs.length-((i+1:Nat):Int).toNat<cs.length-((i:Nat):Int).toNat;simp only [Ak4];omega
 ·have hR:Aq cs=decide (1<=cs.length/\cs.length<=16):=Xp λ j hj=>aF j hj (by omega);rw [hR];congr 1;rw [eq_comm,decide_eq_true_eq];omega
end
end Go.Proofs.YtpnaifmmggnimaaGreatDoor
namespace Go.Proofs.YtpnaifmmggnimaaGreatDoor
open _root_.UInt8 renaming ofNat -> Ak9
set_option maxRecDepth 100000
open Go.Dn Go.Proofs
open Go.RowKit (Below)
set_option linter.unusedVariables false
/-! ### what package-level variables hold -/
/-! ### Number, Signed, Text -/
/-! ### Lay -/
def CD(v:AB):List UInt8 :=
 if v.1=1 then 1 :: Af (D4 v.2.1) else if v.1=2 then [2,Ak9 v.2.1.toNat] else if v.1=3 then 3 :: Bu v.2.2 else [0]
def AiH(b:List UInt8)(v:AB)(r:Value)(w w':World):Prop :=
 (AK v=false/\r=.tuple #[.slice none 0 0,.int .i64 2]/\Below w.heap.size w w')\/(AK v=true/\∃ a c,r=.tuple #[.slice a (b++CD v).length c,.int .i64 0]/\Bn w w' (b++CD v) a c)
theorem Jp{w:World}{a:Option Addr}{c:Nat}(l:List UInt8)(hl:Rd w a (l.map Ag))(v:AB)(hv:BN v)(hs:l.length+2000<=140737488355328) :
  Calls Tryz.prog f.Ad5 #[.slice a l.length c,Th v] w (AG λ r w'=>AiH l v r w w'):=by
 apply R.SU
 delta R.A R.Ab R.B R.AR R.Cb R.Cs R.E R.F R.H R.I R.J R.Ks R.Li R.Lt R.N R.O R.S R.T R.Wb;try dsimp only [R.Ps]
 refine (SH.start (λ _=>False) w).An λ b5 w1 fX B1 S1=>⟨_,S1.cell 0 rfl rfl,_,S1.cell 0 rfl rfl,_,S1.cell 0 rfl rfl,(Ex w1 v).mono ?_⟩;rintro _ w2 ⟨_,rfl,rfl,B2⟩;have S2:=S1.grown B2;refine⟨_,rfl,Au (Ap (λ hr=>?_) (λ hr=>.inl ⟨hr,rfl,S2.below⟩))⟩;have hk:=Gf hr;refine⟨_,S2.cell 0 rfl rfl,S2.An λ df w3 o8 B3 S3=>S3.An λ tu w4 mg B4 S4=>?_⟩;obtain⟨kk,eQ,hkb⟩:∃ kk:Nat,v.1=kk/\kk<4:=⟨v.1.toNat,by omega,by omega⟩;have q8:Value.int .u8 (IntKind.u8.wrap v.1)=Ag (Ak9 kk):=by rw [eQ,AE (by omega) (by omega)];exact CA (by omega)
 refine (Bp [(a,c,l),(some ⟨df,0,none⟩,1,[Ak9 kk])] (by have:=Rd.Ak (S4.get 0 rfl);simpa [BZ] using this) (by
  intro p hp;simp only [List.mem_cons,List.not_mem_nil,or_false] at hp;rcases hp with rfl | rfl
  ·exact hl.grown S4.below
  ·have:=Rd.Ak (S4.get 1 rfl);rw [q8] at this;simpa using this) (by simp) (by rw [Vp];simp;omega)).mono ?_
 rintro _ w5 ⟨_,rfl,a5,c5,rfl,h5⟩;rw [Vp] at h5 ⊢;have S5:=S4.grown h5.Ar;have fg:Bn w w5 (l++[Ak9 kk]) a5 c5:=h5.before S4.below;refine⟨_,_,_,rfl,_,S5.cell 2 rfl rfl,Ao (λ h=>⟨_,S5.cell 2 rfl rfl,?_⟩) (λ h1=>Ao (λ h=>⟨_,S5.cell 2 rfl rfl,?_⟩) (λ h2=>Ao (λ h=>⟨_,S5.cell 2 rfl rfl,?_⟩) (λ h3=>?_)))⟩
 ·refine (F0 _ fg.rd v.2.1 hv.lo hv.hi (by simp;omega)).mono ?_;rintro _ w6 ⟨_,rfl,a6,c6,rfl,h6⟩;have e:(l++[Ak9 kk])++Af (D4 v.2.1)=l++CD v:=by
   have:kk=1:=by omega
   subst this;simp [CD,h]
  rw [e] at h6 ⊢;exact⟨_,_,_,rfl,.inr ⟨hr,a6,c6,rfl,h6.before fg.Ar⟩⟩
 ·have lu:v.2.1=0\/v.2.1=1:=by omega
  refine S5.An λ eh w7 jQ B7 S7=>?_;refine CN (fg.grown B7).row (by simp;omega) (x:=Ak9 v.2.1.toNat) (by rw [AE (by omega) (by omega)];rcases lu with h | h <;> rw [h] <;> rfl) (S7.get 0 rfl) λ a8 c8 w8 R8 K8 N8=>⟨_,_,_,rfl,.inr ⟨hr,a8,c8,?_⟩⟩;have e:(l++[Ak9 kk])++[Ak9 v.2.1.toNat]=l++CD v:=by
   have:kk=2:=by omega
   subst this;simp [CD,h]
  rw [e] at R8 ⊢;have h7:=fg.grown B7;refine⟨rfl,R8,λ k hk=>?_,h7.Ar.trans (K8.below h7.Ar.size λ k hk he=>by have:=h7.new k he;omega)⟩;rcases N8 k hk with h | h
  ·exact h7.new k h
  ·exact Nat.le_trans h7.Ar.size h
 ·refine (Hg _ fg.rd v.2.2 (by omega) (by simp;omega)).mono ?_;rintro _ w6 ⟨_,rfl,a6,c6,rfl,h6⟩;have e:(l++[Ak9 kk])++Bu v.2.2=l++CD v:=by
   have:kk=3:=by omega
   subst this;simp [CD,h]
  rw [e] at h6 ⊢;exact⟨_,_,_,_,rfl,.inr ⟨hr,a6,c6,rfl,h6.before fg.Ar⟩⟩
 ·have e:l++[Ak9 kk]=l++CD v:=by
   have:kk=0:=by omega
   subst this;simp [CD,h1,h2,h3]
  have h6:=fg;rw [e] at h6;refine .inr ⟨hr,a5,c5,?_,h6⟩;rw [<- e]
/-! ### Show -/
end Go.Proofs.YtpnaifmmggnimaaGreatDoor
namespace Go.Dn
theorem SH.v3{F:Nat->Prop}{w0 w:World}{H:List Y9}(S:SH F w0 w H)(n:Nat){b:Nat}{x y:Int}{s:ByteArray}{t:TypeId}(hn:H[n]?=some (b,#[.int .i64 x,.int .i64 y,.string s],t)){Q:Int->Int->ByteArray->Prop}(h:Q x y s) :
  ∃ a:Int,w.cell? ⟨b,0,none⟩=some (.int .i64 a)/\∃ c:Int,w.cell? ⟨b,1,none⟩=some (.int .i64 c)/\∃ d:ByteArray,w.cell? ⟨b,2,none⟩=some (.string d)/\Q a c d :=
 ⟨x,S.cell n hn rfl,y,S.cell n hn rfl,s,S.cell n hn rfl,h⟩
end Go.Dn
namespace Go.Proofs.YtpnaifmmggnimaaGreatDoor
open Go.Dn Go.Proofs
open Go.RowKit (Below)
set_option linter.unusedVariables false
set_option maxRecDepth 20000
/-! ### orders -/
/-! ### the laws -/
end Go.Proofs.YtpnaifmmggnimaaGreatDoor
namespace Go.Proofs.YtpnaifmmggnimaaGreatDoor
open _root_.BitVec renaming ofInt -> AkA, ofInt_natCast -> Alc, toNat_ofNat -> Alb
open _root_.List renaming mem_singleton -> AlZ
open _root_.Nat renaming mod_eq_of_lt -> Ala
open _root_.UInt8 renaming ofNat -> Ak9
set_option maxRecDepth 100000
open Go.Dn Go.Proofs
open Go.RowKit (Below)
set_option linter.unusedVariables false
section
variable {w:World}{a:Option Addr}{c:Nat}
theorem J6(l:List UInt8)(hl:Rd w a (l.map Ag))(v:AB)(hv:BN v)(hs:l.length+2000<=140737488355328) :
  Calls Tryz.prog f.Aez #[.slice a l.length c,Th v] w (AG λ r w'=>AiH l v r w w'):=by
 apply R.Te
 delta R.A R.Ab R.B R.AR R.Cb R.Cs R.D R.E R.F R.H R.I R.J R.Ks R.Li R.Lt R.N R.O R.Rs R.S R.T R.W R.Wb R.Zs;try dsimp only [R.Ps]
 refine (SH.start (λ _=>True) w).An λ b5 w1 fX B1 S1=>S1.v3 0 rfl ((FX w1 v).mono ?_);rintro _ w2 ⟨_,rfl,rfl,B2⟩;have S2:=S1.grown B2;have B2':=Ac B1 B2;refine⟨_,rfl,Au (Ap (λ hr=>?_) (λ hr=>.inl ⟨hr,rfl,B2'⟩))⟩;have hk:=Gf hr;obtain⟨kk,eQ,hkb⟩:∃ kk:Nat,v.1=kk/\kk<4:=⟨v.1.toNat,by omega,by omega⟩;have q8:Value.int .u8 (IntKind.u8.wrap v.1)=Ag (Ak9 kk):=by rw [eQ,AE (by omega) (by omega)];exact CA (by omega)
 have pr:IntKind.i64.wrap ((l.length:Int)+1)=((l.length+1:Nat):Int):=by rw [wrap_i64 (by omega) (by omega)];omega
 rw [pr];have zx:∀ w',Below w2.heap.size w2 w'->b5<w'.heap.size:=λ w' hb=>by
  have:=S2.lt (AlZ.2 rfl);have:=hb.size;omega
 refine⟨λ s ah=>∃(a:Option Addr) (c:Nat),s=[.slice a (l++[Ak9 kk]).length c]/\Bn w ah (l++[Ak9 kk]) a c/\SH (λ _=>True) w ah [(b5,#[.int .i64 v.1,.int .i64 v.2.1,.string v.2.2],ty.AW)],?_,?_⟩
 ·refine S2.E9 λ w3 B3 S3=>⟨_,S3.cell 0 rfl rfl,?_⟩;have B3':=Ac B2' B3;have fq:∀ {w1 w2:World} {ar:Option Addr},SH (λ _=>True) w w1 [(b5,#[.int .i64 v.1,.int .i64 v.2.1,.string v.2.2],ty.AW)]->Ai (λ k=>AD ar=some k) w1 w2->(∀ k,AD ar=some k->w3.heap.size<=k)->SH (λ _=>True) w w2 [(b5,#[.int .i64 v.1,.int .i64 v.2.1,.string v.2.2],ty.AW)]:=by
   intro w1 w2 ar S K hr;refine S.kept K (λ x hx he=>?_) (λ _ _ _=>trivial);simp only [AlZ] at hx;subst hx;have:=hr _ he;have:=S3.lt (AlZ.2 rfl);simp only at *;omega
  refine⟨Hx tB (by omega) (by omega) λ b w4 hb B4 R4=>⟨_,_,_,rfl,(S3.grown B4).cell 0 rfl rfl,?_,?_⟩,?_⟩
  ·have h4:Bn w3 w4 [] (some ⟨b,0,none⟩) (l.length+1):=⟨R4,λ k hk=>by simp [AD] at hk;omega,B4⟩;refine A8 (l:=[]) R4 (hl.grown (Ac B3' B4)) (by simp;omega) λ a5 c5 w5 R5 K5 N5=>?_;have h5:Bn w3 w5 l a5 c5:=h4.Br (.refl _ _) R5 K5 N5;have S5:=fq (S3.grown B4) K5 h4.new;refine⟨_,_,_,rfl,S5.cell 0 rfl rfl,S5.An λ dD w6 gv B6 S6=>?_⟩;refine CN (h5.grown B6).row (by omega) q8 (S6.get 0 rfl) λ a7 c7 w7 R7 K7 N7=>⟨_,_,_,rfl,a7,c7,rfl,(h5.Br B6 R7 K7 N7).before B3',fq (S5.grown B6) K7 h5.new⟩
  ·have h4:Bn w3 w4 [] (some ⟨b,0,none⟩) (l.length+1):=⟨R4,λ k hk=>by simp [AD] at hk;omega,B4⟩;refine (S3.grown B4).An λ dD w8 gv B8 S8=>?_;refine A8 (l:=[]) (R4.grown B8) (hl.grown (Ac (Ac B3' B4) B8)) (by simp;omega) λ a5 c5 w9 R5 K5 N5=>?_;have h5:Bn w3 w9 l a5 c5:=h4.Br B8 R5 K5 N5;have S9:=fq (S8.drop 1) K5 h4.new;have jZ:w9.heap[dD]?=some (.cells #[.int .u8 (IntKind.u8.wrap v.1)] 5 (0,0)):=K5.at (S8.get 0 rfl) (λ he=>by simp [AD] at he;have:=h4.row.lt (k:=b) rfl;omega);refine⟨_,_,_,rfl,CN h5.row (by omega) q8 jZ λ a7 c7 w7 R7 K7 N7=>⟨_,_,_,rfl,a7,c7,rfl,(h5.Br (.refl _ _) R7 K7 N7).before B3',fq S9 K7 h5.new⟩⟩
  ·refine S3.An λ dD aX gv cF bF=>Hx tB (by omega) (by omega) λ b w4 hb B4 R4=>⟨_,_,_,rfl,?_⟩;have h4:Bn aX w4 [] (some ⟨b,0,none⟩) (l.length+1):=⟨R4,λ k hk=>by simp [AD] at hk;omega,B4⟩;have xi:Bn w3 w4 [] (some ⟨b,0,none⟩) (l.length+1):=h4.before cF;refine A8 (l:=[]) R4 (hl.grown (Ac (Ac B3' cF) B4)) (by simp;omega) λ a5 c5 w9 R5 K5 N5=>?_;have h5:Bn w3 w9 l a5 c5:=xi.Br (.refl _ _) R5 K5 N5;have S9:=fq ((bF.grown B4).drop 1) K5 xi.new;have jZ:w9.heap[dD]?=some (.cells #[.int .u8 (IntKind.u8.wrap v.1)] 5 (0,0)):=K5.at ((bF.grown B4).get 0 rfl) (λ he=>by simp [AD] at he;have:=bF.lt List.mem_cons_self;simp only at this;omega);refine⟨_,_,_,rfl,CN h5.row (by omega) q8 jZ λ a7 c7 w7 R7 K7 N7=>⟨_,_,_,rfl,a7,c7,rfl,(h5.Br (.refl _ _) R7 K7 N7).before B3',fq S9 K7 h5.new⟩⟩
 rintro a5 _ c5 w5 ⟨_,_,bU,fg,S5⟩;cases bU;refine⟨_,S5.cell 0 rfl rfl,Ao (λ h=>⟨_,S5.cell 0 rfl rfl,?_⟩) (λ h1=>Ao (λ h=>⟨_,S5.cell 0 rfl rfl,?_⟩) (λ h2=>Ao (λ h=>⟨_,S5.cell 0 rfl rfl,?_⟩) (λ h3=>?_)))⟩
 ·refine (Fb _ fg.rd v.2.1 hv.lo hv.hi (by simp;omega)).mono ?_;rintro _ w6 ⟨_,rfl,a6,c6,rfl,h6⟩;have e:(l++[Ak9 kk])++Af (D4 v.2.1)=l++CD v:=by
   have:kk=1:=by omega
   subst this;simp [CD,h]
  rw [e] at h6 ⊢;exact⟨_,_,_,rfl,.inr ⟨hr,a6,c6,rfl,h6.before fg.Ar⟩⟩
 ·have lu:v.2.1=0\/v.2.1=1:=by omega
  refine S5.An λ eh w7 jQ B7 S7=>?_;refine CN (fg.grown B7).row (by simp;omega) (x:=Ak9 v.2.1.toNat) (by rw [AE (by omega) (by omega)];rcases lu with h | h <;> rw [h] <;> rfl) (S7.get 0 rfl) λ a8 c8 w8 R8 K8 N8=>⟨_,_,_,rfl,.inr ⟨hr,a8,c8,?_⟩⟩;have e:(l++[Ak9 kk])++[Ak9 v.2.1.toNat]=l++CD v:=by
   have:kk=2:=by omega
   subst this;simp [CD,h]
  have h8:=fg.Br B7 R8 K8 N8;rw [e] at h8 ⊢;exact⟨rfl,h8⟩
 ·refine (GA _ fg.rd v.2.2 (by omega) (by simp;omega)).mono ?_;rintro _ w6 ⟨_,rfl,a6,c6,rfl,h6⟩;have e:(l++[Ak9 kk])++Bu v.2.2=l++CD v:=by
   have:kk=3:=by omega
   subst this;simp [CD,h]
  rw [e] at h6 ⊢;exact⟨_,_,_,_,rfl,.inr ⟨hr,a6,c6,rfl,h6.before fg.Ar⟩⟩
 ·have e:l++[Ak9 kk]=l++CD v:=by
   have:kk=0:=by omega
   subst this;simp [CD,h1,h2,h3]
  have h6:=fg;rw [e] at h6;refine .inr ⟨hr,a5,c5,?_,h6⟩;rw [<- e]
end
def CC(n:Nat):Int:=if n % 2=1 then -((n / 2:Nat):Int)-1 else ((n / 2:Nat):Int)
theorem AhI(n:Nat)(h:n<18446744073709551616):(AkA 64 (n:Int) &&& AkA 64 1).toNat=n % 2:=by
 rw [BitVec.toNat_and,Alc,Alb,Ala (by omega)];exact Nat.and_two_pow_sub_one_eq_mod n 1
theorem Un{n:Nat}(h:n<18446744073709551616) :
  IntKind.i64.wrap (((AkA 64 (IntKind.i64.wrap (Int.fdiv (n:Int) (2 ^ (min 1 64)))) ^^^ AkA 64 (IntKind.i64.wrap (0-IntKind.i64.wrap (IntKind.u64.wrap (((AkA 64 (n:Int) &&& AkA 64 1).toNat:Int)))))).toNat:Int))=CC n:=by
 have e1:IntKind.i64.wrap (Int.fdiv (n:Int) (2 ^ (min 1 64)))=((n / 2:Nat):Int):=by
  rw [Int.fdiv_eq_ediv_of_nonneg _ (by decide),show (2:Int) ^ (min 1 64)=2 from rfl,wrap_i64 (by omega) (by omega)];omega
 rw [e1,AhI n h,Aj (by omega) (by omega),wrap_i64 (n:=((n % 2:Nat):Int)) (by omega) (by omega)];unfold CC;by_cases ho:n % 2=1
 ·rw [ho,if_pos rfl,show IntKind.i64.wrap (0-((1:Nat):Int)) = -1 by decide,show AkA 64 (-1)=BitVec.allOnes 64 by decide,BitVec.xor_allOnes,BitVec.toNat_not,Alc,Alb,Ala (by omega),CX];split <;> omega
 ·have:n % 2=0:=by omega
  rw [this,if_neg (by omega),show IntKind.i64.wrap (0-((0:Nat):Int))=0 by decide,show AkA 64 0=0#64 by decide,BitVec.xor_zero,Alc,Alb,Ala (by omega),wrap_i64 (by omega) (by omega)]
theorem GJ{n:Nat}(h:n<18446744073709551616) : -9223372036854775808<=CC n/\CC n<=9223372036854775807:=by unfold CC;split <;> omega
def Ahf(o:Option (Nat × Nat)):Value :=
 match o with
 | some x=>.tuple #[.int .i64 (CC x.1),.int .i64 (x.2:Int),.int .i64 0]
 | none=>.tuple #[.int .i64 0,.int .i64 0,.int .i64 20]
section
variable {w:World}{a:Option Addr}{c:Nat}{l:List UInt8}
theorem Fw(hl:Rd w a (l.map Ag))(hc:l.length<=c)(hs:l.length<=9223372036854775807)(at_:Int):Calls Tryz.prog f.Tu #[.slice a l.length c,.int .i64 at_] w (AG λ v w'=>v=Ahf (takeN l at_)/\w'=w):=by
 apply R.KL
 delta R.Bz R.H R.I R.S R.W R.Wu;try dsimp only [R.Ps]
 refine (AL hl hc hs at_).mono ?_;rintro _ w ⟨_,rfl,rfl,rfl⟩;cases ho:takeN l at_ with
 | none=>exact⟨_,_,_,rfl,rfl,rfl⟩
 | some x =>
  obtain⟨n,k⟩:=x;refine⟨_,_,_,rfl,?_,rfl⟩;rw [Un (Az ho).1];rfl
theorem FV(hl:Rd w a (l.map Ag))(hs:l.length<=9223372036854775807)(at_:Int)(cU:at_<=9223372036854775807):Calls Tryz.prog f.RU #[.slice a l.length c,.int .i64 at_] w (AG λ v w'=>v=Ahf (takeN l at_)/\w'=w):=by
 apply R.Jx
 delta R.Bz R.F R.H R.I R.S R.W R.Wu;try dsimp only [R.Ps]
 refine (AJ hl hs at_ cU).mono ?_;rintro _ w ⟨_,rfl,rfl,rfl⟩;cases ho:takeN l at_ with
 | none=>exact⟨_,_,_,rfl,CQ ⟨rfl,rfl⟩⟩
 | some x =>
  obtain⟨n,k⟩:=x;have hb:=(Az ho).1;refine⟨_,_,_,rfl,AV ?_⟩;have e1:Int.tmod (n:Int) 2=((n % 2:Nat):Int):=by rw [Int.tmod_eq_emod_of_nonneg (by omega)];omega
  have e2:IntKind.u64.wrap (Int.tdiv (n:Int) 2)=((n / 2:Nat):Int):=by rw [Int.tdiv_eq_ediv_of_nonneg (by omega),Aj (by omega) (by omega)];omega
  rw [e1,e2,wrap_i64 (n:=((n / 2:Nat):Int)) (by omega) (by omega)];refine Ao (λ h=>⟨?_,rfl⟩) (λ h=>⟨?_,rfl⟩)
  ·simp only [Ahf,CC];rw [if_pos (by omega),wrap_i64 (n:=0-((n / 2:Nat):Int)) (by omega) (by omega),wrap_i64 (by omega) (by omega)];congr 4;omega
  ·simp only [Ahf,CC];rw [if_neg (by omega)]
/-! ### Take -/
end
section
variable {w:World}{a:Option Addr}{c:Nat}{l:List UInt8}
/-! ### Take -/
def Bj(l:List UInt8)(at_:Int):Option (AB × Nat) :=
 if at_<0\/(l.length:Int)<=at_ then none else
 let k:=(l.getD at_.toNat 0).toNat
 if k=0 then some ((0,0,E0),at_.toNat+1)
 else if k=1 then (takeN l (at_+1)).map λ x=>((1,CC x.1,E0),x.2)
 else if k=2 then (if at_+1<l.length/\(l.getD (at_.toNat+1) 0).toNat<=1 then some ((2,((l.getD (at_.toNat+1) 0).toNat:Int),E0),at_.toNat+2) else none)
 else if k=3 then (BD l (at_+1) 1024).map λ x=>((3,0,BC x.1),x.2)
 else none
def Ur(o:Option (AB × Nat)):Value :=
 match o with
 | some x=>.tuple #[.agg #[.int .i64 x.1.1,.int .i64 x.1.2.1,.string x.1.2.2],.int .i64 (x.2:Int),.int .i64 0]
 | none=>.tuple #[.agg #[.int .i64 0,.int .i64 0,.string E0],.int .i64 0,.int .i64 20]
theorem Rc{l:List UInt8}{at_:Nat}:(∃ n k,takeN l (at_:Int)=some (n,k)/\(n=0\/n=1))↔(at_<l.length/\(l.getD at_ 0).toNat<=1):=by
 have ht:takeN l (at_:Int)=(Cm 0 0 (l.drop at_)).map λ x=>(x.1,at_+x.2):=by unfold takeN;rw [if_neg (by omega)];rfl
 by_cases h:at_<l.length
 ·have hd:l.drop at_=l[at_] :: l.drop (at_+1):=List.drop_eq_getElem_cons h;have hg:l.getD at_ 0=l[at_]:=by simp [List.getD,h]
  rw [hg];generalize l[at_]=c at hd;have e:Cm 0 0 (c :: l.drop (at_+1))=if c.toNat<128 then some (c.toNat,1) else Cm 1 (c.toNat % 128) (l.drop (at_+1)):=by
   conv=>lhs;unfold Cm
   rw [if_neg (by omega)];by_cases hc:c.toNat<128
   ·rw [if_pos hc,if_pos hc,if_neg (by omega)];simp
   ·rw [if_neg hc,if_neg hc];simp
  rw [ht,hd,e];by_cases hc:c.toNat<128
  ·rw [if_pos hc];simp only [Option.map_some,Option.some.injEq,Prod.mk.injEq];constructor
   ·rintro⟨n,k,⟨rfl,_⟩,hn⟩;exact⟨h,by omega⟩
   ·rintro⟨_,hn⟩;exact⟨_,_,⟨rfl,rfl⟩,by omega⟩
  ·rw [if_neg hc];constructor
   ·rintro⟨n,k,hs,hn⟩;obtain⟨⟨x1,x2⟩,hx,he⟩:=Option.map_eq_some_iff.1 hs;simp only [Prod.mk.injEq] at he;obtain⟨_,_,_,_,hb⟩:=JI _ 1 _ _ _ (by omega) hx;have:=hb (by omega);omega
   ·rintro⟨_,hn⟩;omega
 ·have hd:l.drop at_=[]:=List.drop_eq_nil_of_le (by omega);rw [ht,hd];constructor
  ·rintro⟨n,k,hs,_⟩;simp [Cm] at hs
  ·rintro⟨hh,_⟩;omega
theorem AeS{l:List UInt8}{at_ n k:Nat}(h:takeN l (at_:Int)=some (n,k))(hn:n=0\/n=1):n=(l.getD at_ 0).toNat/\k=at_+1:=by
 have hb:=Rc.1 ⟨n,k,h,hn⟩;have ht:takeN l (at_:Int)=(Cm 0 0 (l.drop at_)).map λ x=>(x.1,at_+x.2):=by unfold takeN;rw [if_neg (by omega)];rfl
 have hd:l.drop at_=l[at_] :: l.drop (at_+1):=List.drop_eq_getElem_cons hb.1;have hg:l.getD at_ 0=l[at_]:=by simp [List.getD,hb.1]
 rw [hg] at hb ⊢;rw [ht,hd] at h;unfold Cm at h;rw [if_neg (by omega),if_pos (by omega),if_neg (by omega)] at h;simp at h;omega
end
end Go.Proofs.YtpnaifmmggnimaaGreatDoor
namespace Go.Dn
theorem SH.Tp{F:Nat->Prop}{w0 w:World}{H:List Y9}(S:SH F w0 w H)(n:Nat){b:Nat}{x0 x1 x2:Value}{t:TypeId}(hn:H[n]?=some (b,#[x0,x1,x2],t)){v0 v1:Int}{v2:ByteArray}{Q:Int->Int->ByteArray->World->Prop}
  (hk:∀ w',SH F w0 w' (H.set n (b,#[.int .i64 v0,.int .i64 v1,.string v2],t))->Q v0 v1 v2 w') :
  DV ⟨b,0,none⟩ (.int .i64 v0) (λ w=>DV ⟨b,1,none⟩ (.int .i64 v1) (λ w=>DV ⟨b,2,none⟩ (.string v2) (λ w=>∃ r0:Int,w.cell? ⟨b,0,none⟩=some (.int .i64 r0)/\∃ r1:Int,w.cell? ⟨b,1,none⟩=some (.int .i64 r1)/\∃ r2:ByteArray,w.cell? ⟨b,2,none⟩=some (.string r2)/\Q r0 r1 r2 w) w) w) w:=by
 have aB:=(List.getElem?_eq_some_iff.1 hn).1;exact S.AiB n hn λ w' _ S'=>S'.v3 n (List.getElem?_set_self aB) (hk w' S')
end Go.Dn
namespace Go.Proofs.YtpnaifmmggnimaaGreatDoor
open _root_.Int renaming toNat_natCast -> Ak4
open Go.Dn Go.Proofs
open Go.RowKit (Below)
set_option linter.unusedVariables false
set_option maxRecDepth 20000
section
variable {w:World}{a:Option Addr}{c:Nat}{l:List UInt8}
theorem Rq{i:Nat}(hi:i<l.length):l.getD i 0=l[i]:=by simp [List.getD,hi]
theorem ID(hl:Rd w a (l.map Ag))(hc:l.length<=c)(hs:l.length<=140737488355328)(at_:Int) :
  Calls Tryz.prog f.Ac0 #[.slice a l.length c,.int .i64 at_] w (AG λ v w'=>v=Ur (Bj l at_)/\Below w.heap.size w w'):=by
 apply R.RD
 delta R.A R.Ab R.Ad R.Kn R.Gz R.E R.F R.H R.I R.Li R.Lt R.Ly R.N R.S R.Am R.T R.W R.X R.Zii;try dsimp only [R.Ps]
 refine (SH.start (λ _=>False) w).An λ b3 w1 dE B1 S1=>?_;refine Aa (λ h=>S1.Tp 0 rfl λ w4 S4=>⟨by simp [Bj,h,Ur],S4.below⟩) (λ h0=>Aa (λ h=>S1.Tp 0 rfl λ w4 S4=>⟨?_,S4.below⟩) (λ h1=>?_))
 ·unfold Bj;rw [if_pos (.inr h)];rfl
 obtain⟨at_,rfl⟩:∃ k:Nat,at_=k:=⟨at_.toNat,by omega⟩;have cU:at_<l.length:=by omega
 refine⟨⟨by omega,by omega⟩,?_⟩;obtain⟨p,hp,aE⟩:=byte_at (hl.grown B1) cU;subst hp;have hg:=Rq cU;have iW:=l[at_].toNat_lt;refine⟨_,by rw [Ak4];exact aE,S1.Iz λ df aX o8 cF bF=>?_⟩;have fy:Rd aX (some p) (l.map Ag):=hl.grown bF.below;rw [wrap_i64 (n:=(l[at_].toNat:Int)) (by omega) (by omega)] at bF;have ew:IntKind.i64.wrap ((at_:Int)+1)=((at_+1:Nat):Int):=by rw [wrap_i64 (by omega) (by omega)];omega
 rw [ew];have ht:Bj l (at_:Int)=(if l[at_].toNat=0 then some ((0,0,E0),at_+1)
   else if l[at_].toNat=1 then (takeN l ((at_+1:Nat):Int)).map λ x=>((1,CC x.1,E0),x.2)
   else if l[at_].toNat=2 then (if (at_:Int)+1<l.length/\(l.getD (at_+1) 0).toNat<=1 then some ((2,((l.getD (at_+1) 0).toNat:Int),E0),at_+2) else none)
   else if l[at_].toNat=3 then (BD l ((at_+1:Nat):Int) 1024).map λ x=>((3,0,BC x.1),x.2)
   else none):=by
  unfold Bj;rw [if_neg (by omega),Ak4,hg,show (at_:Int)+1=((at_+1:Nat):Int) by omega]
 generalize eQ:l[at_].toNat=kk at ht bF iW;refine⟨λ s eK=>∃(nx e:Int) (v:AB),s=[.int .i64 nx,.int .i64 e]/\SH (λ _=>False) w eK [(df,#[.int .i64 v.1,.int .i64 v.2.1,.string v.2.2],ty.AW),(b3,#[.int .i64 0,.int .i64 0,.string E0],ty.AW)] /\
   (e≠0->e=20/\Bj l (at_:Int)=none)/\(e=0->∃ k:Nat,nx=k/\Bj l (at_:Int)=some (v,k)),?_,?_⟩
 ·refine⟨_,bF.cell 0 rfl rfl,Ao (λ h=>?_) (λ n0=>Ao (λ h=>?_) (λ n1=>Ao (λ h=>?_) (λ n2=>Ao (λ h=>?_) (λ n3=>?_))))⟩
  ·have:kk=0:=by omega
   subst this;exact⟨_,_,(0,0,E0),rfl,bF,λ h=>absurd rfl h,λ _=>⟨at_+1,rfl,by rw [ht];simp⟩⟩
  ·have:kk=1:=by omega
   subst this;refine (FV fy (by omega) _ (by omega)).mono ?_;rintro _ aX ⟨_,rfl,rfl,rfl⟩;cases ho:takeN l ((at_+1:Nat):Int) with
   | none =>
    exact⟨_,_,_,rfl,bF.BR 0 rfl (show 1<3 by decide) λ aj dv=>⟨_,_,(1,0,E0),rfl,dv,λ _=>⟨rfl,by rw [ht,ho];simp⟩,λ h=>absurd h (by decide)⟩⟩
   | some x =>
    obtain⟨n,k⟩:=x;exact⟨_,_,_,rfl,bF.BR 0 rfl (show 1<3 by decide) λ aj dv=>⟨_,_,(1,CC n,E0),rfl,dv,λ h=>absurd rfl h,λ _=>⟨k,rfl,by rw [ht,ho];simp⟩⟩⟩
  ·have:kk=2:=by omega
   subst this;have no:¬ ((at_:Int)+1<l.length/\(l.getD (at_+1) 0).toNat<=1)->Bj l (at_:Int)=none:=by
    intro hn;rw [ht];simp only [if_neg (show ¬ (2:Nat)=0 by decide),if_neg (show ¬ (2:Nat)=1 by decide),if_true];rw [if_neg hn]
   refine Aa (λ h=>bF.Tp 1 rfl λ w4 S4=>⟨by rw [no (by omega)];rfl,S4.below⟩) (λ h=>⟨⟨by omega,by omega⟩,?_⟩);have kO:at_+1<l.length:=by omega
   obtain⟨p',hp',hcell2⟩:=byte_at fy kO;cases hp';have eL:=Rq kO;have hcc2:=l[at_+1].toNat_lt;refine⟨_,by rw [Ak4];exact hcell2,Aa (λ h=>bF.Tp 1 rfl λ w4 S4=>⟨by rw [no (by rw [eL];omega)];rfl,S4.below⟩) (λ h=>⟨⟨by omega,by omega⟩,_,by rw [Ak4];exact hcell2,?_⟩)⟩;rw [wrap_i64 (n:=(l[at_+1].toNat:Int)) (by omega) (by omega),wrap_i64 (n:=((at_+1:Nat):Int)+1) (by omega) (by omega)];refine bF.BR 0 rfl (show 1<3 by decide) λ aj dv=>⟨_,_,(2,(l[at_+1].toNat:Int),E0),rfl,dv,λ h=>absurd rfl h,λ _=>⟨at_+2,by omega,?_⟩⟩;rw [ht];simp only [if_neg (show ¬ (2:Nat)=0 by decide),if_neg (show ¬ (2:Nat)=1 by decide),if_true];rw [if_pos ⟨by omega,by rw [eL];omega⟩,eL]
  ·have:kk=3:=by omega
   subst this;refine (Ec fy hc (by omega) _ (by omega) 1024).mono ?_;rintro _ aX ⟨_,rfl,rfl,rfl⟩;cases ho:BD l ((at_+1:Nat):Int) 1024 with
   | none =>
    exact⟨_,_,_,rfl,bF.BR 0 rfl (show 2<3 by decide) λ aj dv=>⟨_,_,(3,0,E0),rfl,dv,λ _=>⟨rfl,by rw [ht,ho];simp⟩,λ h=>absurd h (by decide)⟩⟩
   | some x =>
    obtain⟨s,k⟩:=x;exact⟨_,_,_,rfl,bF.BR 0 rfl (show 2<3 by decide) λ aj dv=>⟨_,_,(3,0,BC s),rfl,dv,λ h=>absurd rfl h,λ _=>⟨k,rfl,by rw [ht,ho];simp⟩⟩⟩
  ·have aP:Bj l (at_:Int)=none:=by rw [ht,if_neg (by omega),if_neg (by omega),if_neg (by omega),if_neg (by omega)]
   exact bF.Tp 1 rfl λ w4 S4=>⟨by rw [aP];rfl,S4.below⟩
 ·rintro _ _ eK ⟨nx,e,v,bU,gj,g1,g2⟩;cases bU;refine Ah (λ h=>gj.Tp 1 rfl λ w4 S4=>⟨by rw [(g1 h).2,(g1 h).1];rfl,S4.below⟩) (λ h=>gj.v3 0 rfl (gj.Tp 1 rfl λ w4 S4=>⟨?_,S4.below⟩));obtain⟨k,rfl,hk⟩:=g2 h;rw [hk];rfl
end
end Go.Proofs.YtpnaifmmggnimaaGreatDoor
namespace Go.Proofs.YtpnaifmmggnimaaGreatDoor
set_option maxRecDepth 100000
open Go.Dn Go.Proofs
open Go.RowKit (Below)
set_option linter.unusedVariables false
section
variable {w:World}{a:Option Addr}{c:Nat}{l:List UInt8}
theorem IB(hl:Rd w a (l.map Ag))(hc:l.length<=c)(hs:l.length<=140737488355328)(at_:Int) :
  Calls Tryz.prog f.Acm #[.slice a l.length c,.int .i64 at_] w (AG λ v w'=>v=Ur (Bj l at_)/\Below w.heap.size w w'):=by
 apply R.Rp
 delta R.A R.Ab R.Ad R.Kn R.Gz R.Bz R.Cb R.E R.F R.H R.I R.Li R.Lt R.Ly R.N R.S R.Am R.T R.W R.X R.Zii;try dsimp only [R.Ps]
 refine (SH.start (λ _=>False) w).An λ b3 w1 dE B1 S1=>?_;refine Aa (λ h=>S1.Tp 0 rfl λ w4 S4=>⟨by simp [Bj,h,Ur],S4.below⟩) (λ h0=>Aa (λ h=>S1.Tp 0 rfl λ w4 S4=>⟨?_,S4.below⟩) (λ h1=>?_))
 ·unfold Bj;rw [if_pos (.inr h)];rfl
 obtain⟨at_,rfl⟩:∃ k:Nat,at_=k:=⟨at_.toNat,by omega⟩;have cU:at_<l.length:=by omega
 refine⟨⟨by omega,by omega⟩,?_⟩;obtain⟨p,hp,aE⟩:=byte_at (hl.grown B1) cU;subst hp;have hg:=Rq cU;have iW:=l[at_].toNat_lt;refine⟨_,by rw [Int.toNat_natCast];exact aE,S1.Iz λ df aX o8 cF bF=>?_⟩;have fy:Rd aX (some p) (l.map Ag):=hl.grown bF.below;rw [wrap_i64 (n:=(l[at_].toNat:Int)) (by omega) (by omega)] at bF;rw [wrap_i64 (n:=(at_:Int)+1) (by omega) (by omega)];have ht:Bj l (at_:Int)=(if l[at_].toNat=0 then some ((0,0,E0),at_+1)
   else if l[at_].toNat=1 then (takeN l ((at_:Int)+1)).map λ x=>((1,CC x.1,E0),x.2)
   else if l[at_].toNat=2 then (if (at_:Int)+1<l.length/\(l.getD (at_+1) 0).toNat<=1 then some ((2,((l.getD (at_+1) 0).toNat:Int),E0),at_+2) else none)
   else if l[at_].toNat=3 then (BD l ((at_:Int)+1) 1024).map λ x=>((3,0,BC x.1),x.2)
   else none):=by
  unfold Bj;rw [if_neg (by omega),Int.toNat_natCast,hg]
 generalize eQ:l[at_].toNat=kk at ht bF iW;refine⟨λ s eK=>∃(nx e:Int) (v:AB),s=[.int .i64 nx,.int .i64 e]/\SH (λ _=>False) w eK [(df,#[.int .i64 v.1,.int .i64 v.2.1,.string v.2.2],ty.AW),(b3,#[.int .i64 0,.int .i64 0,.string E0],ty.AW)] /\
   (e≠0->Bj l (at_:Int)=none)/\(e=0->AK v=false->Bj l (at_:Int)=none)/\(e=0->AK v=true->∃ k:Nat,nx=k/\Bj l (at_:Int)=some (v,k)),?_,?_⟩
 ·refine⟨_,bF.cell 0 rfl rfl,Ao (λ h=>?_) (λ n0=>Ao (λ h=>?_) (λ n1=>Ao (λ h=>?_) (λ n2=>Ao (λ h=>?_) (λ n3=>?_))))⟩
  ·have:kk=0:=by omega
   subst this;exact⟨_,_,(0,0,E0),rfl,bF,λ h=>absurd rfl h,λ _ h=>absurd h (by decide),λ _ _=>⟨at_+1,by omega,by rw [ht];simp⟩⟩
  ·have:kk=1:=by omega
   subst this;refine (Fw fy hc (by omega) ((at_:Int)+1)).mono ?_;rintro _ aX ⟨_,rfl,rfl,rfl⟩;cases ho:takeN l ((at_:Int)+1) with
   | none =>
    exact⟨_,_,_,rfl,bF.BR 0 rfl (show 1<3 by decide) λ aj dv=>⟨_,_,(1,0,E0),rfl,dv,λ _=>by rw [ht,ho];simp,λ h=>absurd h (by decide),λ h=>absurd h (by decide)⟩⟩
   | some x =>
    obtain⟨n,k⟩:=x;exact⟨_,_,_,rfl,bF.BR 0 rfl (show 1<3 by decide) λ aj dv=>⟨_,_,(1,CC n,E0),rfl,dv,λ h=>absurd rfl h,λ _ h=>absurd h (by simp [AK]),λ _ _=>⟨k,rfl,by rw [ht,ho];simp⟩⟩⟩
  ·have:kk=2:=by omega
   subst this;refine (AL fy hc (by omega) ((at_:Int)+1)).mono ?_;rintro _ aX ⟨_,rfl,rfl,rfl⟩;have gN:((at_:Int)+1)=((at_+1:Nat):Int):=by omega
   have kF:=Rc (l:=l) (at_:=at_+1);cases ho:takeN l ((at_:Int)+1) with
   | none =>
    refine⟨_,_,_,rfl,bF.BR 0 rfl (show 1<3 by decide) λ aj dv=>⟨_,_,(2,IntKind.i64.wrap 0,E0),rfl,dv,λ _=>?_,λ h=>absurd h (by decide),λ h=>absurd h (by decide)⟩⟩;rw [ht];simp only [if_neg (show ¬ (2:Nat)=0 by decide),if_neg (show ¬ (2:Nat)=1 by decide),if_true];rw [if_neg];rintro⟨q1,q2⟩;obtain⟨n,k,q3,_⟩:=kF.2 ⟨by omega,q2⟩;rw [<- gN,ho] at q3;cases q3
   | some x =>
    obtain⟨n,k⟩:=x;have hn:=(Az ho).1;refine⟨_,_,_,rfl,bF.BR 0 rfl (show 1<3 by decide) λ aj dv=>⟨_,_,(2,IntKind.i64.wrap (n:Int),E0),rfl,dv,λ h=>absurd rfl h,λ _ hf=>?_,λ _ hr=>?_⟩⟩
    ·rw [ht];simp only [if_neg (show ¬ (2:Nat)=0 by decide),if_neg (show ¬ (2:Nat)=1 by decide),if_true];rw [if_neg];rintro⟨q1,q2⟩;obtain⟨n',k',q3,q4⟩:=kF.2 ⟨by omega,q2⟩;rw [<- gN,ho] at q3;cases q3;rcases q4 with rfl | rfl
     ·exact absurd hf (by decide)
     ·exact absurd hf (by decide)
    ·have x':n=0\/n=1:=by
      have:=Gf hr;simp only at this;rw [CX] at this;split at this <;> omega
     obtain⟨q1,q2⟩:=Rc.1 ⟨n,k,gN ▸ ho,x'⟩;obtain⟨q3,q4⟩:=AeS (gN ▸ ho) x';refine⟨k,rfl,?_⟩;rw [ht];simp only [if_neg (show ¬ (2:Nat)=0 by decide),if_neg (show ¬ (2:Nat)=1 by decide),if_true];rw [if_pos ⟨by omega,q2⟩,<- q3,wrap_i64 (by omega) (by omega),q4]
  ·have:kk=3:=by omega
   subst this;refine (Es fy hc (by omega) ((at_:Int)+1) 1024).mono ?_;rintro _ aX ⟨_,rfl,rfl,rfl⟩;cases ho:BD l ((at_:Int)+1) 1024 with
   | none =>
    exact⟨_,_,_,rfl,bF.BR 0 rfl (show 2<3 by decide) λ aj dv=>⟨_,_,(3,0,E0),rfl,dv,λ _=>by rw [ht,ho];simp,λ h=>absurd h (by decide),λ h=>absurd h (by decide)⟩⟩
   | some x =>
    obtain⟨s,k⟩:=x;have aw:s.length<=1024:=by
     unfold BD at ho;split at ho
     ·split at ho
      ·cases ho
      ·simp only [Option.some.injEq,Prod.mk.injEq] at ho;rw [<- ho.1,List.length_take];omega
     ·cases ho
    exact⟨_,_,_,rfl,bF.BR 0 rfl (show 2<3 by decide) λ aj dv=>⟨_,_,(3,0,BC s),rfl,dv,λ h=>absurd rfl h,λ _ h=>absurd h (by simp [AK,AY,aw]),λ _ _=>⟨k,rfl,by rw [ht,ho];simp⟩⟩⟩
  ·have aP:Bj l (at_:Int)=none:=by rw [ht,if_neg (by omega),if_neg (by omega),if_neg (by omega),if_neg (by omega)]
   refine⟨_,_,((kk:Int),0,E0),rfl,bF,λ _=>aP,λ _ _=>aP,λ _ h=>?_⟩;exfalso;have:=Gf h;simp only at this;omega
 ·rintro _ _ eK ⟨nx,e,v,bU,gj,g1,g2,g3⟩;cases bU;refine Ah (λ h=>gj.Tp 1 rfl λ w4 S4=>⟨by rw [g1 h];rfl,S4.below⟩) (λ h=>gj.v3 0 rfl ((Ex eK v).mono ?_));rintro _ iM ⟨_,rfl,rfl,kU⟩;have kZ:=gj.grown kU;refine⟨_,rfl,Au (Ap (λ hr=>kZ.v3 0 rfl (kZ.Tp 1 rfl λ w4 S4=>⟨?_,S4.below⟩)) (λ hr=>kZ.Tp 1 rfl λ w4 S4=>⟨by rw [g2 h hr];rfl,S4.below⟩))⟩;obtain⟨k,rfl,hk⟩:=g3 h hr;rw [hk];rfl
end
end Go.Proofs.YtpnaifmmggnimaaGreatDoor
namespace Go.Dn
open _root_.List renaming getElem?_eq_some_iff -> AkN, getElem?_set_self -> AkP, getElem_set_ne -> Ame, mem_cons -> AkL, mem_of_getElem? -> AkM, pairwise_iff_getElem -> Amd, set_set -> Ak0
open _root_.Nat renaming le_refl -> AkY, le_trans -> Ali
set_option linter.unusedVariables false
set_option maxRecDepth 100000
open Go.RowKit (Below)
structure It where
 CJ:Option Nat
 ok:World->Prop
 st:∀ w w',(∀ k,CJ=some k->w'.heap[k]?=w.heap[k]?)->ok w->ok w'
 lt:∀ w,ok w->∀ k,CJ=some k->k<w.heap.size
def It.obj(b:Nat)(o:Obj):It where
 CJ:=some b
 ok:=λ w=>w.heap[b]?=some o
 st:=λ w w' h h0=>(h b rfl).trans h0
 lt:=λ w h k hk=>by cases hk;exact (Array.getElem?_eq_some_iff.1 h).1
def It.cells(b:Nat)(cs:Array Value)(t:TypeId):It:=It.obj b (.cells cs t (0,0))
def It.row(e:TypeId)(sz:Nat)(a:Option Addr)(n c:Nat)(xs:List Value):It where
 CJ:=AD a
 ok:=λ w=>Row w e sz a n c xs
 st:=λ w w' h h0=>by
  refine⟨h0.1,?_⟩;rcases h0.2 with h1 | ⟨g,cur,rfl,hg,r⟩
  ·exact .inl h1
  ·exact .inr ⟨g,cur,rfl,(h g rfl).trans hg,r⟩
 lt:=λ w h k hk=>h.lt hk
def It.rd(a:Option Addr)(xs:List Value):It where
 CJ:=match xs with | []=>none | _=>AD a
 ok:=λ w=>Rd w a xs
 st:=λ w w' h h0=>by
  intro j v hv;obtain⟨p,hp,hc⟩:=h0 j v hv;subst hp;refine⟨p,rfl,?_⟩;cases xs with
  | nil=>simp at hv
  | cons x xs =>
   rw [World.cell?_of_block (w:=w) (by rw [DI];exact h p.block rfl)];exact hc
 lt:=λ w h k hk=>by
  cases xs with
  | nil=>cases hk
  | cons x xs =>
   obtain⟨p,rfl,hc⟩:=h 0 x rfl;have:=World.block_lt_of_cell? _ _ hc;rw [DI] at this;cases hk;exact this
structure ST(w0 w:World)(H:List It):Prop where
 Ar:Below w0.heap.size w0 w
 ok:∀ x∈H,x.ok w
 nd:H.Pairwise (λ x y=>∀ k,x.CJ=some k->y.CJ≠some k)
 own:∀ x∈H,∀ k,x.CJ=some k->w0.heap.size<=k
section
variable {w0 w:World}{H:List It}
theorem ST.start(w:World):ST w w []:=⟨.refl _ _,by simp,by simp,by simp⟩
theorem ST.get(S:ST w0 w H)(n:Nat){x:It}(hn:H[n]?=some x):x.ok w:=S.ok x (AkM hn)
theorem ST.grown(S:ST w0 w H){w':World}(h:Below w.heap.size w w'):ST w0 w' H where
 Ar:=S.Ar.trans (h.mono S.Ar.size)
 ok:=λ x hx=>x.st w w' (λ k hk=>h.block k (x.lt w (S.ok x hx) k hk)) (S.ok x hx)
 nd:=S.nd
 own:=S.own
theorem ST.add(S:ST w0 w H){w':World}(h:Below w.heap.size w w')(y:It)(hy:y.ok w')(hb:∀ k,y.CJ=some k->w.heap.size<=k):ST w0 w' (y :: H) where
 Ar:=(S.grown h).Ar
 ok:=λ x hx=>by
  rcases AkL.1 hx with rfl | hx
  ·exact hy
  ·exact (S.grown h).ok x hx
 nd:=List.pairwise_cons.2 ⟨λ x hx k hk dV=>by have:=x.lt w (S.ok x hx) k dV;have:=hb k hk;omega,S.nd⟩
 own:=λ x hx k hk=>by
  rcases AkL.1 hx with rfl | hx
  ·exact Ali S.Ar.size (hb k hk)
  ·exact S.own x hx k hk
theorem Ye{l:List It}(h:l.Pairwise (λ x y=>∀ k,x.CJ=some k->y.CJ≠some k)){i j:Nat}{x y:It}(hi:l[i]?=some x)(hj:l[j]?=some y)(aQ:i≠j){k:Nat}(hk:x.CJ=some k):y.CJ≠some k:=by
 obtain⟨h1,rfl⟩:=AkN.1 hi;obtain⟨h2,rfl⟩:=AkN.1 hj;rcases Nat.lt_or_gt_of_ne aQ with aB | aB
 ·exact (Amd.1 h) i j h1 h2 aB k hk
 ·intro he;exact (Amd.1 h) j i h2 h1 aB k he hk
theorem ST.IX(S:ST w0 w H)(n:Nat){x:It}(hn:H[n]?=some x){w':World}(K:Ai (λ k=>x.CJ=some k) w w')(y:It)(hy:y.ok w')(hb:∀ k,y.CJ=some k->x.CJ=some k\/w.heap.size<=k):ST w0 w' (H.set n y) where
 Ar:=S.Ar.trans (K.below S.Ar.size λ k hk h=>by have:=S.own x (AkM hn) k h;omega)
 ok:=by
  intro z hz;obtain⟨i,hi⟩:=List.mem_iff_getElem?.1 hz;by_cases cD:n=i
  ·subst cD;rw [AkP (AkN.1 hn).1] at hi;cases hi;exact hy
  ·rw [List.getElem?_set_ne cD] at hi;have dn:=S.ok z (AkM hi);refine z.st w w' (λ k hk=>K.block k (z.lt w dn k hk) ?_) dn;exact λ h=>Ye S.nd hi hn (Ne.symm cD) hk h
 nd:=by
  refine Amd.2 λ i j hi hj dM k hk dV=>?_;rw [List.length_set] at hi hj;have nK:=(AkN.1 hn).1;have old:∀ {i j:Nat} (hi:i<H.length) (hj:j<H.length),i≠j->H[i].CJ=some k->H[j].CJ≠some k:=λ hi hj aQ h=>Ye S.nd (List.getElem?_eq_getElem hi) (List.getElem?_eq_getElem hj) aQ h;have hx:H[n]=x:=(AkN.1 hn).2;have fq:∀ {j:Nat} (hj:j<H.length),j≠n->H[j].CJ=some k->y.CJ≠some k:=λ {j} hj aQ h h'=>by
   rcases hb k h' with h2 | h2
   ·rw [<- hx] at h2;exact old nK hj (Ne.symm aQ) h2 h
   ·have:=H[j].lt w (S.ok _ (List.getElem_mem hj)) k h;omega
  by_cases h1:n=i
  ·subst h1;rw [List.getElem_set_self] at hk;rw [Ame (by omega)] at dV;exact fq hj (by omega) dV hk
  ·rw [Ame h1] at hk;by_cases h2:n=j
   ·subst h2;rw [List.getElem_set_self] at dV;exact fq hi (by omega) hk dV
   ·rw [Ame h2] at dV;exact old hi hj (by omega) hk dV
 own:=by
  intro z hz k hk;obtain⟨i,hi⟩:=List.mem_iff_getElem?.1 hz;by_cases cD:n=i
  ·subst cD;rw [AkP (AkN.1 hn).1] at hi;cases hi;rcases hb k hk with h | h
   ·exact S.own x (AkM hn) k h
   ·exact Ali S.Ar.size h
  ·rw [List.getElem?_set_ne cD] at hi;exact S.own z (AkM hi) k hk
theorem ST.sub(S:ST w0 w H){H':List It}(h:H'.Sublist H):ST w0 w H':=⟨S.Ar,λ x hx=>S.ok x (h.subset hx),S.nd.sublist h,λ x hx=>S.own x (h.subset hx)⟩
theorem ST.drop(S:ST w0 w H)(n:Nat):ST w0 w (H.drop n):=S.sub (List.drop_sublist _ _)
theorem ST.perm(S:ST w0 w H){H':List It}(h:H.Perm H'):ST w0 w H' :=
 ⟨S.Ar,λ x hx=>S.ok x (h.mem_iff.2 hx),(h.pairwise_iff (λ h k hk dV=>h k dV hk)).1 S.nd,λ x hx=>S.own x (h.mem_iff.2 hx)⟩
theorem ST.pull(S:ST w0 w H)(n:Nat){x:It}(hn:H[n]?=some x):ST w0 w (x :: H.eraseIdx n) where
 Ar:=S.Ar
 ok:=λ y hy=>by
  rcases AkL.1 hy with rfl | hy
  ·exact S.get n hn
  ·exact S.ok y (List.mem_of_mem_eraseIdx hy)
 nd:=by
  refine List.pairwise_cons.2 ⟨λ y hy k hk dV=>?_,S.nd.sublist (List.eraseIdx_sublist ..)⟩;obtain⟨i,hi,aQ⟩:=List.mem_eraseIdx_iff_getElem?.1 hy;exact Ye S.nd hn aQ (Ne.symm hi) hk dV
 own:=λ y hy=>by
  rcases AkL.1 hy with rfl | hy
  ·exact S.own _ (AkM hn)
  ·exact S.own y (List.mem_of_mem_eraseIdx hy)
theorem ST.join(S:ST w0 w H){w':World}{P:List It}(T:ST w w' P):ST w0 w' (P++H) where
 Ar:=S.Ar.trans (T.Ar.mono S.Ar.size)
 ok:=λ x hx=>by
  rcases List.mem_append.1 hx with h | h
  ·exact T.ok x h
  ·exact (S.grown T.Ar).ok x h
 nd:=List.pairwise_append.2 ⟨T.nd,S.nd,λ x hx y hy k hk dV=>by have:=T.own x hx k hk;have:=y.lt w (S.ok y hy) k dV;omega⟩
 own:=λ x hx k hk=>by
  rcases List.mem_append.1 hx with h | h
  ·exact Ali S.Ar.size (T.own x h k hk)
  ·exact S.own x h k hk
theorem ST.An(S:ST w0 w H){cs:Array Value}{t:TypeId}{k:Nat->World->Prop}(hk:∀ b w',w.heap.size<=b->Below w.heap.size w w'->ST w0 w' (It.cells b cs t :: H)->k b w'):DT cs t k w :=
 hk _ _ (AkY _) ((Below.refl _ w).alloc (AkY _) _) (S.add ((Below.refl _ w).alloc (AkY _) _) _ (heap_alloc_new w _) (λ k hk=>by cases hk;exact AkY _))
theorem ST.draw(S:ST w0 w H){k:World->Prop}(hk:∀ w',Below w.heap.size w w'->ST w0 w' H->k w'):RR k w:=hk _ ((Below.refl _ w).drew) (S.grown ((Below.refl _ w).drew))
theorem ST.cell(S:ST w0 w H)(n:Nat){b:Nat}{cs:Array Value}{t:TypeId}(hn:H[n]?=some (It.cells b cs t)){i:Nat}{v:Value}(hv:cs[i]?=some v):w.cell? ⟨b,i,none⟩=some v:=by
 have:w.heap[b]?=some (.cells cs t (0,0)):=S.get n hn;simp [World.cell?,this,hv]
theorem ST.CJ(S:ST w0 w H)(n:Nat){b:Nat}{cs:Array Value}{t:TypeId}(hn:H[n]?=some (It.cells b cs t)):w.heap[b]?=some (.cells cs t (0,0)):=S.get n hn
theorem ST.Gw(S:ST w0 w H)(n:Nat){b:Nat}{cs:Array Value}{t:TypeId}(hn:H[n]?=some (It.cells b cs t)):Rd w (some ⟨b,0,none⟩) cs.toList:=Rd.Ak (S.CJ n hn)
theorem ST.rw(S:ST w0 w H)(n:Nat){e:TypeId}{sz:Nat}{a:Option Addr}{m c:Nat}{xs:List Value}(hn:H[n]?=some (It.row e sz a m c xs)):Row w e sz a m c xs:=S.get n hn
theorem ST.rd(S:ST w0 w H)(n:Nat){e:TypeId}{sz:Nat}{a:Option Addr}{m c:Nat}{xs:List Value}(hn:H[n]?=some (It.row e sz a m c xs)):Rd w a xs:=(S.rw n hn).rd
theorem ST.BR(S:ST w0 w H)(n:Nat){b:Nat}{cs aC:Array Value}{t:TypeId}(hn:H[n]?=some (It.cells b cs t)){i:Nat}{v:Value}{k:World->Prop}(hi:i<cs.size)(hc:cs.setIfInBounds i v=aC)
  (hk:∀ w',ST w0 w' (H.set n (It.cells b aC t))->k w'):DV ⟨b,i,none⟩ v k w:=by
 subst hc;have hb:=S.CJ n hn;refine⟨by rw [S.cell n hn (Array.getElem?_eq_getElem hi)];rfl,by simp [World.frozen?,hb],hk _ (S.IX n hn ((Fm w b i v).mono λ k _ h=>by subst h;rfl) _ (Fu hb v) (λ k hk=>.inl hk))⟩
theorem ST.En(S:ST w0 w H)(n:Nat){b:Nat}{cs:Array Value}{t:TypeId}(hn:H[n]?=some (It.cells b cs t)){vs:List Value}(hl:vs.length=cs.size)(h1:∀ v∈vs,v.oneCell'=true)
  {k:World->Prop} (hk:∀ w',ST w0 w' (H.set n (It.cells b ⟨vs⟩ t))->k w'):CU vs ⟨b,0,none⟩ 0 k w :=
 Oo vs (S.CJ n hn) (by omega) h1 λ w' K hb=>hk w' (S.IX n hn (K.mono λ k _ h=>by subst h;rfl) _ (by rw [T9 vs cs hl] at hb;exact hb) (λ k hk=>.inl hk))
theorem ST.Iz(S:ST w0 w H){z0 z1 z2 v0 v1 v2:Value}{t:TypeId}{k:Nat->World->Prop}(hk:∀ b w',w.heap.size<=b->ST w0 w' (It.cells b #[v0,v1,v2] t :: H)->k b w') :
  DT #[z0,z1,z2] t (λ b w=>DV ⟨b,0,none⟩ v0 (λ w=>DV ⟨b,1,none⟩ v1 (λ w=>DV ⟨b,2,none⟩ v2 (λ w=>k b w) w) w) w) w :=
 S.An λ b w1 hb _ S1=>S1.BR 0 rfl (aC:=#[v0,z1,z2]) (by simp) rfl λ w2 S2=>S2.BR 0 rfl (aC:=#[v0,v1,z2]) (by simp) rfl λ w3 S3=>S3.BR 0 rfl (aC:=#[v0,v1,v2]) (by simp) rfl λ w4 S4=>hk b w4 hb S4
theorem ST.Zl(S:ST w0 w H)(n:Nat){b:Nat}{x0 x1 x2 x3 x4 x5 x6 v0 v1 v2 v3 v4 v5 v6:Value}{t:TypeId}(hn:H[n]?=some (It.cells b #[x0,x1,x2,x3,x4,x5,x6] t)){k:World->Prop}
  (hk:∀ w',ST w0 w' (H.set n (It.cells b #[v0,v1,v2,v3,v4,v5,v6] t))->k w') :
  DV ⟨b,0,none⟩ v0 (λ w=>DV ⟨b,1,none⟩ v1 (λ w=>DV ⟨b,2,none⟩ v2 (λ w=>DV ⟨b,3,none⟩ v3 (λ w=>DV ⟨b,4,none⟩ v4 (λ w=>DV ⟨b,5,none⟩ v5 (λ w=>DV ⟨b,6,none⟩ v6 k w) w) w) w) w) w) w:=by
 have aB:=(AkN.1 hn).1;refine S.BR n hn (aC:=#[v0,x1,x2,x3,x4,x5,x6]) (by simp) rfl λ w1 S1=>?_;refine S1.BR n (AkP aB) (aC:=#[v0,v1,x2,x3,x4,x5,x6]) (by simp) rfl λ w2 S2=>?_;rw [Ak0] at S2;refine S2.BR n (AkP aB) (aC:=#[v0,v1,v2,x3,x4,x5,x6]) (by simp) rfl λ w3 S3=>?_;rw [Ak0] at S3;refine S3.BR n (AkP aB) (aC:=#[v0,v1,v2,v3,x4,x5,x6]) (by simp) rfl λ w4 S4=>?_;rw [Ak0] at S4;refine S4.BR n (AkP aB) (aC:=#[v0,v1,v2,v3,v4,x5,x6]) (by simp) rfl λ w5 S5=>?_;rw [Ak0] at S5;refine S5.BR n (AkP aB) (aC:=#[v0,v1,v2,v3,v4,v5,x6]) (by simp) rfl λ w6 S6=>?_;rw [Ak0] at S6;refine S6.BR n (AkP aB) (aC:=#[v0,v1,v2,v3,v4,v5,v6]) (by simp) rfl λ w7 S7=>?_;rw [Ak0] at S7;exact hk w7 S7
theorem ST.nil(S:ST w0 w H)(e:TypeId)(sz:Nat):ST w0 w (It.row e sz none 0 0 [] :: H):=S.add (.refl _ _) _ (Row.nil w e sz) (λ k hk=>by cases hk)
theorem ST.app(S:ST w0 w H)(n:Nat){P:Program}{t ty e:TypeId}{sz bytes:Nat}{z:Value}{a:Option Addr}{m c:Nat}{xs:List Value}(hn:H[n]?=some (It.row e sz a m c xs))(hT:MN P t=some (e,sz,bytes,z))(hz:z.cells.size=sz)(aw:0<sz)(bh:0<bytes)
  {b:Option Addr} {mm mc:Nat} {news:List Value} (hs:Rd w b news) (hl:news.length=mm*sz) (h1:∀ u∈news,u.oneCell'=true) (dX:(m+mm)*bytes<=140737488355328) {f:Value->World->Prop}
  (hf:∀ a' c' w',ST w0 w' (H.set n (It.row e sz a' (m+mm) c' (xs++news)))->f (.slice a' (m+mm) c') w'):DE P (Builtin.append_ #[t,t] ty #[.slice a m c,.slice b mm mc]) f w:=by
 obtain⟨a',c',w',aH,aI,hk,bE⟩:=BX (ty:=ty) (mc:=mc) hT hz aw bh (S.rw n hn) hs hl h1 dX;unfold DE;rw [aH];exact hf a' c' w' (S.IX n hn hk _ aI bE)
theorem ST.range(S:ST w0 w H)(rr:Loop):ST w0 ((w.alloc (.deferred (some []))).alloc (.loop rr)) (It.obj (w.heap.size+1) (.loop rr) :: It.obj w.heap.size (.deferred (some [])) :: H):=by
 have B1:Below w.heap.size w (w.alloc (.deferred (some []))):=(Below.refl _ w).alloc (AkY _) _;have S1:=S.add B1 (It.obj w.heap.size (.deferred (some []))) (heap_alloc_new w _) (λ k hk=>by cases hk;exact AkY _);have S2:=S1.add ((Below.refl _ _).alloc (AkY _) (.loop rr)) (It.obj (w.alloc (.deferred (some []))).heap.size (.loop rr)) (heap_alloc_new _ _) (λ k hk=>by cases hk;exact AkY _);rwa [World.size_alloc] at S2
theorem Xa(w:World)(l:Nat)(o:Obj):Ai (·=l) w (w.putObj l o):=⟨rfl,rfl,rfl,by simp,λ k _ hn=>World.putObj_heap_other hn⟩
theorem ST.put(S:ST w0 w H)(n:Nat){b:Nat}{o:Obj}(hn:H[n]?=some (It.obj b o))(o':Obj):ST w0 (w.putObj b o') (H.set n (It.obj b o')) :=
 S.IX n hn ((Xa w b o').mono λ k _ h=>by subst h;rfl) _ (World.putObj_heap_same (Array.getElem?_eq_some_iff.1 (S.get n hn)).1) (λ k hk=>.inl hk)
theorem ST.AjU(S:ST w0 w H)(n:Nat){L:Nat}{rr:Loop}(hn:H[n]?=some (It.obj L (.loop rr))){k:World->Prop}(hk:∀ w',ST w0 w' (H.set n (It.obj L (.loop { rr with state:=.busy })))->k w'):QW rr L k w :=
 ⟨S.get n hn,hk _ (S.put n hn _)⟩
theorem Rd.AhX{w:World}{a:Option Addr}{xs:List Value}(h:Rd w a xs){L:Nat}{rr:Loop}(hL:w.heap[L]?=some (.loop rr))(o:Obj):Rd (w.putObj L o) a xs:=by
 intro j v hv;obtain⟨p,hp,hc⟩:=h j v hv;refine⟨p,hp,(Xa w L o).cell hc ?_⟩;intro he;have jj:(p.add j).block=L:=he;simp [World.cell?,jj,hL] at hc
theorem ST.AjV(S:ST w0 w H)(n:Nat){L:Nat}{rr:Loop}(hn:H[n]?=some (It.obj L (.loop rr))){k:World->Prop}(hk:∀ w',(∀ a xs,Rd w a xs->Rd w' a xs)->ST w0 w' (H.set n (It.obj L (.loop { rr with state:=.busy })))->k w'):QW rr L k w :=
 ⟨S.get n hn,hk _ (λ _ _ h=>h.AhX (S.get n hn) _) (S.put n hn _)⟩
theorem ST.keep{x:It}(S:ST w0 w (x :: H))(n:Nat):ST w0 w (x :: H.drop n):=S.sub ((List.drop_sublist n H).cons_cons x)
theorem AdZ{rr:Loop}(h1:rr.state=.ready)(h2:rr.pending=none):({ rr with state:=if (none:Option Code).isNone then .ready else .done,pending:=none }:Loop)=rr:=by
 cases rr;simp_all
theorem ST.Ahr(S:ST w0 w H)(n:Nat){L:Nat}{rr:Loop}(h1:rr.state=.ready)(h2:rr.pending=none)(hn:H[n]?=some (It.obj L (.loop { rr with state:=.busy }))){k:Bool->World->Prop}(hk:∀ w',ST w0 w' (H.set n (It.obj L (.loop rr)))->k true w'):Gk rr L k none w:=by
 refine⟨S.get n hn,?_⟩;have:=S.put n hn (.loop { rr with state:=if (none:Option Code).isNone then .ready else .done,pending:=none });rw [AdZ h1 h2] at this ⊢;exact hk _ this
theorem ST.AjR(S:ST w0 w H)(n:Nat){L:Nat}{rr:Loop}{j:Code}(hn:H[n]?=some (It.obj L (.loop { rr with state:=.busy }))){k:Bool->World->Prop}(hk:∀ w',ST w0 w' (H.set n (It.obj L (.loop { rr with state:=.done,pending:=some j })))->k false w'):Gk rr L k (some j) w :=
 ⟨S.get n hn,hk _ (S.put n hn _)⟩
theorem ST.AfL(S:ST w0 w H)(n:Nat){L:Nat}{rr:Loop}(h1:rr.state=.ready)(h2:rr.pending=none)(hn:H[n]?=some (It.obj L (.loop rr))){k:Option Code->World->Prop}(hk:∀ w',ST w0 w' (H.set n (It.obj L (.loop { rr with state:=.exhausted,pending:=none })))->k none w'):RP rr L k w :=
 ⟨none,by rw [AdZ h1 h2];exact S.get n hn,hk _ (S.put n hn _)⟩
theorem ST.Ajx(S:ST w0 w H)(n:Nat){L:Nat}{rr:Loop}{j:Code}(hn:H[n]?=some (It.obj L (.loop { rr with state:=.done,pending:=some j }))){k:Option Code->World->Prop}(hk:∀ w',ST w0 w' (H.set n (It.obj L (.loop { rr with state:=.exhausted,pending:=some j })))->k (some j) w'):RP rr L k w :=
 ⟨some j,S.get n hn,hk _ (S.put n hn _)⟩
theorem PQ.mono{P:Program}{l:Nat}{args:Array Value}{k k':Bool->World->Prop}{w:World}(h:PQ P l args k w)(hk:∀ y w',k y w'->k' y w'):PQ P l args k' w:=by
 obtain⟨f,tm,asg,bo,hy,hr⟩:=h;refine⟨f,tm,asg,bo,hy,hr.mono ?_⟩;rintro e w' ⟨t,he,h⟩;exact⟨t,he,hk t w' h⟩
end
end Go.Dn
namespace Go.Proofs.YtpnaifmmggnimaaGreatDoor
open _root_.Array renaming getElem?_eq_some_iff -> AlG
open _root_.Bool renaming and_eq_true -> AkC
open _root_.Int renaming natCast_nonneg -> AlS, toNat_natCast -> Ak4
open _root_.List renaming all_eq_true -> AlC, drop_left -> Amk, getElem_mem -> AlI, length_append -> Ak1, length_cons -> Ak3, length_map -> Alh, length_nil -> Amf, length_take -> AlX, mem_cons_of_mem -> AlE, mem_cons_self -> AlD, mem_map -> AkK, take_of_length_le -> AlA
open _root_.Nat renaming add_assoc -> Amh, lt_of_lt_of_le -> AkO, mod_lt -> Alr, mul_comm -> Alf, mul_le_mul -> AlQ, pow_le_pow_right -> All, succ_mul -> Amg
open _root_.Option renaming map_eq_some_iff -> Amj
open _root_.Option.some renaming injEq -> Ami
open _root_.UInt8 renaming ofNat -> Ak9
set_option maxRecDepth 100000
open Go.Dn Go.Proofs
open Go.RowKit (Below)
set_option linter.unusedVariables false
def GR(c:BQ)(v:AB):Bool:=AK v && (decide (v.1=c.2.1) || (c.2.2 && decide (v.1=0)))
def Wt(cs:List BQ)(row:List AB):Bool:=(cs.zip row).all λ p=>GR p.1 p.2
def C0(cs:List BQ)(row:List AB):Bool:=decide (row.length=cs.length) && Wt cs row
theorem Aah{cs:List BQ}{row:List AB}{i:Nat}(h1:i<cs.length)(h2:i<row.length)(h:GR cs[i] row[i]=false):Wt cs row=false:=by
 unfold Wt;rw [List.all_eq_false];exact⟨(cs[i],row[i]),List.mem_iff_getElem.2 ⟨i,by simp;omega,by simp⟩,by simp [h]⟩
theorem Zc{cs:List BQ}{row:List AB}(h:∀ i (h1:i<cs.length) (h2:i<row.length),GR cs[i] row[i]=true):Wt cs row=true:=by
 unfold Wt;rw [AlC];intro p hp;obtain⟨i,hi,rfl⟩:=List.mem_iff_getElem.1 hp;simp only [List.length_zip] at hi;simp only [List.getElem_zip];exact h i (by omega) (by omega)
section
variable {w:World}{a a2:Option Addr}{c c2:Nat}{cs:List BQ}{row:List AB}
def Aky(c:BQ):Value:=.agg #[.string c.1,.int .i64 c.2.1,.bool c.2.2]
theorem ZX{L b1 b2:Nat}(hn:cs.length<=9223372036854775807)(hr:row.length=cs.length)(J:Nat->World->Prop)(D:World->Prop)(cr:∀ k w,J k w->Rd w a (BM cs)/\Rd w a2 (AO row)/\w.cell? ⟨b2,0,none⟩=some (.slice a2 row.length c2))
  (bp:∀ k w w',J k w->Below w.heap.size w w'->J k w') (ae:∀ k w (h1:k<cs.length) (h2:k<row.length),J k w->PQ Tryz.prog L #[Aky cs[k],Th row[k]] (λ y w'=>(y=true/\J (k+1) w')\/(y=false/\D w')) w)
  (h0:J 0 w) (hb:w.cell? ⟨b1,0,none⟩=some (.slice a cs.length c)) :
  Calls Tryz.prog f.Kl #[.func (.yield L) #[] #[],.pointer (some ⟨b1,0,none⟩),.pointer (some ⟨b2,0,none⟩)] w (AG λ _ w'=>J cs.length w'\/D w'):=by
 apply R.KH
 delta R.A R.Ab R.D R.E R.F R.G R.H R.I R.Lb R.Li R.Ls R.Lt R.N R.Qi R.Am R.T R.W R.X;try dsimp only [R.Ps]
 refine⟨_,_,_,hb,λ s w1=>∃ k:Nat,k<=cs.length/\s=[.int .i64 (k:Int)]/\J k w1,λ s _=>match s with
   | [.int _ i]=>cs.length-i.toNat
   | _=>0,⟨0,by omega,rfl,h0⟩,?_⟩
 rintro _ w1 ⟨k,hk,aA,hj⟩;cases aA;refine Aa (λ aB=>⟨⟨by omega,aB⟩,?_⟩) (λ aJ=>?_)
 ·have aO:k<cs.length:=by omega
  have oD:k<row.length:=by omega
  obtain⟨p,rfl,c0,c1,c2⟩:=FZ (cr _ _ hj).1 aO;refine⟨_,by rw [Ak4];exact c0,_,by rw [Ak4];exact c1,_,by rw [Ak4];exact c2,(ST.start w1).Iz λ b9 w5 rk S5=>S5.draw λ w6 B6 S6=>?_⟩;have rX:=bp _ _ _ hj S6.Ar;obtain⟨_,r2,r3⟩:=cr _ _ rX;obtain⟨q,rfl,d0,d1,d2⟩:=De r2 oD;refine⟨_,S6.cell 0 rfl rfl,_,S6.cell 0 rfl rfl,_,S6.cell 0 rfl rfl,_,_,_,r3,⟨by omega,by omega⟩,_,by rw [Ak4];exact d0,_,by rw [Ak4];exact d1,_,by rw [Ak4];exact d2,?_⟩;rw [Ae (by omega)];have cL:cs.length-((k+1:Nat):Int).toNat<cs.length-((k:Nat):Int).toNat:=by
   simp only [Ak4];omega
  refine (ae k w6 aO oD rX).mono ?_;rintro y w7 (⟨rfl,h⟩ | ⟨rfl,h⟩)
  ·exact AV ⟨⟨k+1,by omega,rfl,h⟩,cL⟩
  ·exact CQ (.inr h)
 ·have:k=cs.length:=by omega
  subst this;exact .inl hj
theorem Ta:Calls Tryz.prog f.XN #[.slice a cs.length c,.slice a2 row.length c2] w (AG λ v w'=>∃ b1 b2,v=.func (.func f.Kl) #[] #[.pointer (some ⟨b1,0,none⟩),.pointer (some ⟨b2,0,none⟩)] /\
  ST w w' [It.cells b2 #[.slice a2 row.length c2] ty.CH,It.cells b1 #[.slice a cs.length c] ty.AX]):=by
 apply R.Oc
 delta R.J R.N R.P R.S;try dsimp only [R.Ps]
 exact (ST.start w).An λ b1 w1 _ _ S1=>S1.An λ b2 w2 _ _ S2=>⟨b1,b2,rfl,S2⟩
theorem HU(hl:Rd w a (BM cs))(hn:cs.length<=9223372036854775807)(hr:Rd w a2 (AO row)) :
  Calls Tryz.prog f.ZH #[.slice a cs.length c,.slice a2 row.length c2] w (AG λ r w'=>r=.bool (C0 cs row)/\Below w.heap.size w w'):=by
 apply R.Ql
 delta R.A R.Ab R.Cb R.Cf R.E R.F R.G R.I R.Lb R.Li R.Lt R.N R.S R.Am R.T;try dsimp only [R.Ps]
 refine (ST.start w).An λ b3 w1 _ _ S1=>Ah (λ h=>S1.BR 0 rfl (aC:=#[.bool false]) (by simp) rfl λ w2 S2=>⟨_,S2.cell 0 rfl rfl,?_,S2.Ar⟩) (λ hlen=>?_)
 ·have:¬ row.length=cs.length:=by omega
  simp [C0,this]
 have bP:row.length=cs.length:=by omega
 have jm:C0 cs row=Wt cs row:=by simp [C0,bP]
 refine Ta.mono ?_;rintro _ w3 ⟨_,rfl,b1,b2,rfl,P3⟩;have S3:=S1.join P3;refine⟨_,_,_,rfl,by kernel_rfl,λ rr aA dR hy=>?_⟩;have S4:=S3.range rr;obtain⟨L,hL⟩:∃ L,L=w3.heap.size+1:=⟨_,rfl⟩;obtain⟨d,hd⟩:∃ d,d=w3.heap.size:=⟨_,rfl⟩;rw [<- hL] at S4 hy ⊢;rw [<- hd] at S4 ⊢;let St:Obj->World->Prop:=λ o wx=>ST w wx [It.obj L o,It.obj d (.deferred (some [])),It.cells b2 #[.slice a2 row.length c2] ty.CH,It.cells b1 #[.slice a cs.length c] ty.AX,It.cells b3 #[.bool false] ty.bool];let J:Nat->World->Prop:=λ q wx=>(∀ i (h1:i<cs.length) (h2:i<row.length),i<q->GR cs[i] row[i]=true)/\St (.loop rr) wx;let D:World->Prop:=λ wx=>Wt cs row=false/\St (.loop { rr with state:=.done,pending:=some .ret }) wx;have bA:=ZX (w:=(w3.alloc (.deferred (some []))).alloc (.loop rr)) (c:=c) (L:=L) (b1:=b1) hn bP J D (λ q wx hj=>⟨hl.grown hj.2.Ar,hr.grown hj.2.Ar,hj.2.cell 2 rfl rfl⟩) (λ q wx wy hj B=>⟨hj.1,hj.2.grown B⟩) (by
  rintro q wx h1 h2 ⟨aF,S⟩;refine hy _ _ _ _ _ _ _ wx (S.get 0 rfl) ?_;refine S.Iz λ iv w8 _ S=>S.Iz λ kC bJ _ S=>S.AjU 2 rfl λ aj S=>⟨_,S.cell 0 rfl rfl,_,S.cell 0 rfl rfl,_,S.cell 0 rfl rfl,(Ex aj row[q]).mono ?_⟩;rintro _ an ⟨_,rfl,rfl,pB⟩;have S:=S.grown pB;have D1:GR cs[q] row[q]=true->Gk rr L (λ y w'=>(y=true/\J (q+1) w')\/(y=false/\D w')) none an:=λ hf=>S.Ahr 2 aA dR rfl λ w' S=>.inl ⟨rfl,⟨λ i g1 g2 hi=>by
   rcases Nat.lt_or_ge i q with h | h
   ·exact aF i g1 g2 h
   ·obtain rfl:i=q:=by omega
    exact hf,S.drop 2⟩⟩
  have bad:GR cs[q] row[q]=false->DV ⟨b3,0,none⟩ (.bool false) (λ ah=>Gk rr L (λ y w'=>(y=true/\J (q+1) w')\/(y=false/\D w')) (some .ret) ah) an:=λ hf=>S.BR 6 rfl (aC:=#[.bool false]) (by simp) rfl λ ah S=>S.AjR 2 rfl λ w' S=>.inr ⟨rfl,⟨Aah h1 h2 hf,S.drop 2⟩⟩;refine⟨_,rfl,Au (Ap (λ hR=>⟨_,S.cell 0 rfl rfl,_,S.cell 1 rfl rfl,?_⟩) (λ hR=>bad (by simp [GR,hR])))⟩;refine Ah (λ hk=>⟨_,S.cell 1 rfl rfl,Ap (λ iT=>⟨_,S.cell 0 rfl rfl,Au (Ao (λ hz=>D1 ?_) (λ hz=>bad ?_))⟩) (λ iT=>bad ?_)⟩) (λ hk=>D1 ?_)
  ·simp [GR,hR,iT,hz]
  ·simp [GR,hR,hk,hz]
  ·simp [GR,hk,iT]
  ·simp [GR,hR,hk]) ⟨λ i _ _ h=>by omega,S4⟩ (S4.cell 3 rfl rfl)
 refine bA.mono ?_;rintro _ eK ⟨_,rfl,h⟩;refine⟨⟨_,rfl⟩,?_⟩;rcases h with ⟨aF,S⟩ | ⟨hf,S⟩
 ·refine S.AfL 0 aA dR rfl λ ff S=>.inl ⟨rfl,S.BR 4 rfl (aC:=#[.bool true]) (by simp) rfl λ eo S=>⟨S.get 1 rfl,?_⟩⟩;have S:=S.put 1 rfl (.deferred none);refine⟨_,S.cell 4 rfl rfl,?_,S.Ar⟩;rw [jm,Zc λ i h1 h2=>aF i h1 h2 h1]
 ·refine S.Ajx 0 rfl λ ff S=>.inr ⟨rfl,S.get 1 rfl,?_⟩;have S:=S.put 1 rfl (.deferred none);refine⟨_,S.cell 4 rfl rfl,?_,S.Ar⟩;rw [jm,hf]
theorem U4(hl:Rd w a (BM cs))(hn:cs.length<=9223372036854775807)(hq:∀ c∈cs,c.1.size<=9223372036854775807)(hr:Rd w a2 (AO row)) :
  Calls Tryz.prog f.AbD #[.slice a cs.length c,.slice a2 row.length c2] w (AG λ r w'=>r=.bool (Aq cs && C0 cs row)/\Below w.heap.size w w'):=by
 apply R.Qu
 delta R.Cb R.F R.G R.S;try dsimp only [R.Ps]
 refine (D8 hl hn hq).mono ?_;rintro _ w1 ⟨_,rfl,rfl,B1⟩;refine⟨_,rfl,Ap (λ h=>(HU (hl.grown B1) hn (hr.grown B1)).mono ?_) (λ h=>⟨by simp [h],B1⟩)⟩;rintro _ w2 ⟨_,rfl,rfl,B2⟩;exact⟨_,rfl,by simp [h],Ac B1 B2⟩
theorem IH(hl:Rd w a (BM cs))(hn:cs.length<=9223372036854775807)(hq:∀ c∈cs,c.1.size<=9223372036854775807)(hr:Rd w a2 (AO row)) :
  Calls Tryz.prog f.AcE #[.slice a cs.length c,.slice a2 row.length c2] w (AG λ r w'=>r=.bool (Aq cs && C0 cs row)/\Below w.heap.size w w'):=by
 apply R.RT
 delta R.Cb R.D R.E R.F R.G R.I R.Lb R.Li R.Lt R.Qi R.S R.T R.W R.X;try dsimp only [R.Ps]
 refine (DL hl hn hq).mono ?_;rintro _ w1 ⟨_,rfl,rfl,rfl⟩;refine⟨_,rfl,Au (Ap (λ hR=>?_) (λ h=>⟨by simp [h],.refl _ _⟩))⟩;refine Ah (λ h=>⟨?_,.refl _ _⟩) (λ hlen=>?_)
 ·have:¬ row.length=cs.length:=by omega
  simp [C0,this]
 have bP:row.length=cs.length:=by omega
 have jm:(Aq cs && C0 cs row)=Wt cs row:=by simp [C0,bP,hR]
 rw [jm];refine⟨λ s w2=>∃ k:Nat,k<=cs.length/\s=[.int .i64 (k:Int)]/\(∀ i (h1:i<cs.length) (h2:i<row.length),i<k->GR cs[i] row[i]=true)/\Below w1.heap.size w1 w2,λ s _=>match s with
   | [.int _ i]=>cs.length-i.toNat
   | _=>0,⟨0,by omega,rfl,λ i _ _ h=>by omega,.refl _ _⟩,?_⟩
 rintro _ w2 ⟨q,hk,aA,aF,B2⟩;cases aA;have cL:cs.length-((q+1:Nat):Int).toNat<cs.length-((q:Nat):Int).toNat\/¬ q<cs.length:=by
  simp only [Ak4];omega
 refine Aa (λ aB=>⟨⟨by omega,aB⟩,?_⟩) (λ aJ=>⟨by rw [Zc λ i h1 h2=>aF i h1 h2 (by omega)],B2⟩);have h2:q<row.length:=by omega
 have h1:q<cs.length:=by omega
 obtain⟨p,rfl,c0,c1,c2⟩:=De (hr.grown B2) h2;refine⟨_,by rw [Ak4];exact c0,_,by rw [Ak4];exact c1,_,by rw [Ak4];exact c2,(FX w2 row[q]).mono ?_⟩;rintro _ w3 ⟨_,rfl,rfl,B3⟩;refine⟨_,rfl,(ST.start w3).draw λ w4 B4 _=>?_⟩;have C4:=Ac (Ac B2 B3) B4;have D1:GR cs[q] row[q]=true->(∃ k:Nat,k<=cs.length/\[Value.int .i64 (IntKind.i64.wrap ((q:Int)+1))]=[.int .i64 (k:Int)]/\(∀ i (h1:i<cs.length) (h2:i<row.length),i<k->GR cs[i] row[i]=true)/\Below w1.heap.size w1 w4) /\
   cs.length-(IntKind.i64.wrap ((q:Int)+1)).toNat<cs.length-(q:Int).toNat:=λ hf=>by
  rw [Ae (by omega)];refine⟨⟨q+1,by omega,rfl,λ i g1 g2 hi=>?_,C4⟩,cL.resolve_right (by omega)⟩;rcases Nat.lt_or_ge i q with h | h
  ·exact aF i g1 g2 h
  ·obtain rfl:i=q:=by omega
   exact hf
 have bad:GR cs[q] row[q]=false->Value.bool false=.bool (Wt cs row)/\Below w1.heap.size w1 w4:=λ hf=>⟨by rw [Aah h1 h2 hf],C4⟩;obtain⟨p1,hp1,d0,d1,d2⟩:=De (hr.grown C4) h2;cases hp1;obtain⟨p2,rfl,e0,e1,e2⟩:=FZ (hl.grown C4) h1;refine Au (Ap (λ hR=>⟨⟨by omega,by omega⟩,⟨by omega,by omega⟩,_,by rw [Ak4];exact d0,_,by rw [Ak4];exact e1,?_⟩) (λ hR=>bad (by simp [GR,hR])));refine Ah (λ hk=>⟨⟨by omega,by omega⟩,_,by rw [Ak4];exact d0,Ah (λ hz=>bad ?_) (λ hz=>⟨⟨by omega,by omega⟩,_,by rw [Ak4];exact e2,Au (Ap (λ iT=>D1 ?_) (λ iT=>bad ?_))⟩)⟩) (λ hk=>D1 ?_)
 ·simp [GR,hk,hz]
 ·simp [GR,hR,iT,hz]
 ·simp [GR,hk,iT]
 ·simp [GR,hR,hk]
end
def CP(a:Option Addr)(c:Nat)(l:List UInt8):It:=It.row ty.uint8 1 a l.length c (l.map Ag)
section
variable {w0 w:World}{H:List It}{a:Option Addr}{c:Nat}{l:List UInt8}
theorem BL(S:ST w0 w H){w':World}(h:Bn w w' l a c):ST w0 w' (CP a c l :: H):=S.add h.Ar _ h.row h.new
theorem Aal(S:ST w0 w H)(n:Nat)(hn:H[n]?=some (CP a c l)):Bn w0 w l a c:=⟨S.get n hn,λ k hk=>S.own _ (List.mem_of_getElem? hn) k hk,S.Ar⟩
theorem Er(S:ST w0 w H)(n:Nat)(hn:H[n]?=some (CP a c l)):Rd w a (l.map Ag):=(Aal S n hn).rd
theorem AbM(S:ST w0 w H)(n:Nat)(hn:H[n]?=some (CP a c l)){m:List UInt8}{b:Option Addr}{mc:Nat}(hs:Rd w b (m.map Ag))(hl:l.length+m.length<=140737488355328){f:Value->World->Prop}
  (hf:∀ a' c' w',ST w0 w' (H.set n (CP a' c' (l++m)))->f (.slice a' (l++m).length c') w') :
  DE Tryz.prog (Builtin.append_ #[ty.AH,ty.AH] ty.AH #[.slice a l.length c,.slice b m.length mc]) f w :=
 A8 (S.get n hn) hs hl λ a' c' w' hr hk cg=>hf a' c' w' (S.IX n hn hk _ hr cg)
end
def Ja(b:Bool):UInt8:=if b then 1 else 0
def J2(c:BQ):List UInt8:=Bu c.1++[Ak9 c.2.1.toNat,Ja c.2.2]
def CG(cs:List BQ):List UInt8:=Af cs.length++cs.flatMap J2
theorem A6{cs:List BQ}(h:Aq cs=true):1<=cs.length/\cs.length<=16:=by
 simp [Aq] at h;exact h.1.1
theorem Dq{cs:List BQ}(h:Aq cs=true){c:BQ}(hc:c∈cs):Fv c.1=true/\1<=c.2.1/\c.2.1<=3/\c.1.size<=24:=by
 simp only [Aq,AkC,AlC] at h;have:=h.1.2 c hc;simp only [FU,AkC,decide_eq_true_eq] at this;have hn:=this.1;simp only [Fv,AkC,decide_eq_true_eq] at hn;exact⟨this.1,this.2.1,this.2.2,hn.2⟩
theorem Ahe{c:BQ}(h:c.1.size<=24):(J2 c).length<=36:=by
 have:=Al (n:=c.1.size) (by omega);have:=A9 c.1;simp only [J2,Bu,Ak1,Ak3,Amf];omega
theorem RE{cs:List BQ}(h:∀ c∈cs,c.1.size<=24):(cs.flatMap J2).length<=cs.length*36:=by
 induction cs with
 | nil=>simp
 | cons c cs ih =>
  have h1:=Ahe (h c (by simp));have h2:=ih λ x hx=>h x (by simp [hx]);rw [List.flatMap_cons,Ak1,Ak3];omega
theorem Vu{cs:List BQ}{i:Nat}(hi:i<cs.length):(cs.take (i+1)).flatMap J2=(cs.take i).flatMap J2++J2 cs[i]:=by
 rw [List.take_succ_eq_append_getElem hi,List.flatMap_append];simp
theorem GH{cs:List BQ}(h:Aq cs=true):(CG cs).length<=600:=by
 have h1:=A6 h;have:=Al (n:=cs.length) (by omega);have:=RE λ c hc=>(Dq h hc).2.2.2;simp only [CG,Ak1];omega
def Aj0(l:List UInt8)(cs:List BQ)(w w':World)(v:Value):Prop :=
 (Aq cs=false/\v=.tuple #[.slice none 0 0,.int .i64 50]/\Below w.heap.size w w')\/(Aq cs=true/\∃ a c,v=.tuple #[.slice a (l++CG cs).length c,.int .i64 0]/\Bn w w' (l++CG cs) a c)
section
variable {w:World}{a a2:Option Addr}{c c2:Nat}{cs:List BQ}{l:List UInt8}
theorem UU(b:Bool)(w:World):Calls Tryz.prog f.Z3 #[.bool b] w (AG λ v w'=>v=.int .u8 ((Ja b).toNat:Int)/\w'=w):=by
 apply R.Pn
 delta R.B R.F;try dsimp only [R.Ps]
 exact Ap (λ h=>⟨by rw [h];rfl,rfl⟩) (λ h=>⟨by rw [h];rfl,rfl⟩)
theorem Aeu(c:UInt8):Value.int .u8 (c.toNat:Int)=Ag c:=rfl
theorem two_bytes{w:World}{b:Nat}{x y:Value}{t:TypeId}{u v:UInt8}(h:w.heap[b]?=some (.cells #[x,y] t (0,0)))(hx:x=Ag u)(hy:y=Ag v):Rd w (some ⟨b,0,none⟩) ([u,v].map Ag):=by
 subst hx hy;exact Rd.Ak h
theorem W0{k:Int}(h1:1<=k)(h2:k<=3):Value.int .u8 (IntKind.u8.wrap k)=Ag (Ak9 k.toNat):=by
 rw [AE (by omega) (by omega),<- CA (x:=k.toNat) (by omega)];congr 1;omega
theorem IK(hl:Rd w a (l.map Ag))(hs:l.length+1000<=140737488355328)(al:Rd w a2 (BM cs))(hn:cs.length<=9223372036854775807)(hq:∀ c∈cs,c.1.size<=9223372036854775807) :
  Calls Tryz.prog f.Acr #[.slice a l.length c,.slice a2 cs.length c2] w (AG λ v w'=>Aj0 l cs w w' v):=by
 apply R.Q8
 delta R.A R.Ab R.B R.AR R.Cb R.Cs R.Cy R.D R.F R.G R.H R.I R.J R.Ks R.Lb R.Li R.Lt R.N R.O R.ER R.S R.Am R.T R.U R.W R.Wb R.Wu R.X;try dsimp only [R.Ps]
 refine (D8 al hn hq).mono ?_;rintro _ w1 ⟨_,rfl,rfl,B1⟩;refine⟨_,rfl,Au (Ap (λ hR=>?_) (λ hR=>.inl ⟨hR,rfl,B1⟩))⟩;have hlen:=A6 hR;have d1:=Al (n:=cs.length) (by omega);rw [Aj (by omega) (by omega)];refine (Bf l (hl.grown B1) cs.length (by omega) (by omega)).mono ?_;rintro _ w2 ⟨_,rfl,ib,iL,rfl,h2⟩;refine⟨_,_,_,rfl,λ s w3=>∃(i:Nat) (o:List UInt8) (oa:Option Addr) (oc:Nat),s=[.slice oa o.length oc,.int .i64 (i:Int)]/\i<=cs.length/\o=l++Af cs.length++(cs.take i).flatMap J2/\ST w w3 [CP oa oc o],λ s _=>match s with
   | [_,.int _ i]=>cs.length-i.toNat
   | _=>0,⟨0,_,ib,iL,rfl,by omega,by simp,BL ((ST.start w).grown B1) h2⟩,?_⟩
 rintro oa _ oc _ w3 ⟨i,o,_,_,aA,hi,ho,S⟩;cases aA;have iq:o.length<=l.length+10+16*36:=by
  have:=RE (cs:=cs.take i) λ c hc=>(Dq hR (List.mem_of_mem_take hc)).2.2.2;rw [AlX] at this;rw [ho];simp only [Ak1];omega
 refine Aa (λ aB=>⟨⟨by omega,aB⟩,?_⟩) (λ aJ=>.inr ⟨hR,?_⟩)
 ·have aD:i<cs.length:=by omega
  obtain⟨hN,cm,ax,aw⟩:=Dq hR (AlI aD);obtain⟨p,rfl,c0,c1,c2⟩:=FZ (al.grown S.Ar) aD;have hT:=Al (n:=cs[i].1.size) (by omega);have au:=A9 cs[i].1;refine⟨_,by rw [Ak4];exact c0,_,by rw [Ak4];exact c1,_,by rw [Ak4];exact c2,S.Iz λ iv w7 _ S=>⟨_,S.cell 0 rfl rfl,?_⟩⟩;have vL:Rd w7 oa (o.map Ag):=Er S 1 rfl;refine (Hg o vL cs[i].1 (by omega) (by omega)).mono ?_;rintro _ w8 ⟨_,rfl,a8,c8,rfl,h8⟩;refine⟨_,_,_,_,rfl,(BL S h8).draw λ w9 _ S=>⟨_,S.cell 1 rfl rfl,_,S.cell 1 rfl rfl,(UU _ w9).mono ?_⟩⟩;rintro _ w9 ⟨_,rfl,rfl,rfl⟩;refine⟨_,rfl,S.cell 1 rfl rfl,S.An λ pT aX _ _ S=>?_⟩;refine AbM (m:=[Ak9 cs[i].2.1.toNat,Ja cs[i].2.2]) S 1 rfl (two_bytes (S.CJ 0 rfl) (W0 cm ax) (Aeu _)) (by simp only [Bu,Ak1,Ak3,Amf];omega) λ a12 oI bJ S=>⟨_,_,_,rfl,?_⟩;rw [Ae (by omega)];refine⟨⟨i+1,_,a12,oI,rfl,by omega,?_,S.sub (by simp)⟩,?_⟩
  ·rw [Vu aD,ho];simp [J2]
  ·show cs.length-((i+1:Nat):Int).toNat<cs.length-((i:Nat):Int).toNat;simp only [Ak4];omega
 ·rw [AlA (by omega)] at ho;have:o=l++CG cs:=by rw [ho];simp [CG]
  subst this;exact⟨oa,oc,rfl,Aal S 0 rfl⟩
theorem JX(hl:Rd w a (l.map Ag))(hs:l.length+1000<=140737488355328)(al:Rd w a2 (BM cs))(hn:cs.length<=9223372036854775807)(hq:∀ c∈cs,c.1.size<=9223372036854775807) :
  Calls Tryz.prog f.AeP #[.slice a l.length c,.slice a2 cs.length c2] w (AG λ v w'=>Aj0 l cs w w' v):=by
 apply R.TF
 delta R.B R.AR R.Cb R.Cs R.F R.H R.I R.J R.Ks R.Lb R.Li R.Lt R.N R.O R.ER R.S R.T R.U R.W R.Wb R.Wu R.X R.Zy;try dsimp only [R.Ps]
 refine (DL al hn hq).mono ?_;rintro _ w1 ⟨_,rfl,rfl,rfl⟩;refine⟨_,rfl,Au (Ap (λ hR=>?_) (λ hR=>.inl ⟨hR,rfl,.refl _ _⟩))⟩;have hlen:=A6 hR;have d1:=Al (n:=cs.length) (by omega);rw [Aj (by omega) (by omega)];refine (Bi l hl cs.length (by omega) (by omega)).mono ?_;rintro _ w2 ⟨_,rfl,ib,iL,rfl,h2⟩;refine⟨_,_,_,rfl,λ s w3=>∃(i:Nat) (o:List UInt8) (oa:Option Addr) (oc:Nat),s=[.slice oa o.length oc,.int .i64 (i:Int)]/\i<=cs.length/\o=l++Af cs.length++(cs.take i).flatMap J2/\ST w1 w3 [CP oa oc o],λ s _=>match s with
   | [_,.int _ i]=>cs.length-i.toNat
   | _=>0,⟨0,_,ib,iL,rfl,by omega,by simp,BL (ST.start w1) h2⟩,?_⟩
 rintro oa _ oc _ w3 ⟨i,o,_,_,aA,hi,ho,S⟩;cases aA;have iq:o.length<=l.length+10+16*36:=by
  have:=RE (cs:=cs.take i) λ c hc=>(Dq hR (List.mem_of_mem_take hc)).2.2.2;rw [AlX] at this;rw [ho];simp only [Ak1];omega
 refine Aa (λ aB=>⟨⟨by omega,aB⟩,?_⟩) (λ aJ=>.inr ⟨hR,?_⟩)
 ·have aD:i<cs.length:=by omega
  obtain⟨hN,cm,ax,aw⟩:=Dq hR (AlI aD);obtain⟨p,rfl,c0,c1,c2⟩:=FZ (al.grown S.Ar) aD;have hT:=Al (n:=cs[i].1.size) (by omega);have au:=A9 cs[i].1;have hb:(0:Int)<=(i:Int)/\(i:Int)<(cs.length:Int):=⟨by omega,aB⟩;refine⟨_,by rw [Ak4];exact c0,(GA o (Er S 0 rfl) cs[i].1 (by omega) (by omega)).mono ?_⟩;rintro _ w4 ⟨_,rfl,a8,c8,rfl,h8⟩;have S:=BL S h8;obtain⟨p,hp,c0,c1,c2⟩:=FZ (al.grown S.Ar) aD;cases hp;refine⟨_,_,_,_,rfl,λ s w5=>w5=w4/\s=[Ag (Ja cs[i].2.2)],⟨hb,_,by rw [Ak4];exact c2,Ap (λ h=>⟨rfl,by rw [h];rfl⟩) (λ h=>⟨rfl,by rw [h];rfl⟩)⟩,?_⟩;rintro nu w5 ⟨rfl,iT⟩;have vO:Value.int .u8 nu=Ag (Ja cs[i].2.2):=by simpa using iT
  refine⟨hb,_,by rw [Ak4];exact c1,S.An λ pT aX _ _ S=>?_⟩;refine AbM (m:=[Ak9 cs[i].2.1.toNat,Ja cs[i].2.2]) S 1 rfl (two_bytes (S.CJ 0 rfl) (W0 cm ax) vO) (by simp only [Bu,Ak1,Ak3,Amf];omega) λ a12 oI bJ S=>⟨_,_,_,rfl,?_⟩;rw [Ae (by omega)];refine⟨⟨i+1,_,a12,oI,rfl,by omega,?_,S.sub (by simp)⟩,?_⟩
  ·rw [Vu aD,ho];simp [J2]
  ·show cs.length-((i+1:Nat):Int).toNat<cs.length-((i:Nat):Int).toNat;simp only [Ak4];omega
 ·rw [AlA (by omega)] at ho;have:o=l++CG cs:=by rw [ho];simp [CG]
  subst this;exact⟨oa,oc,rfl,Aal S 0 rfl⟩
end
def GQ(n wd:Int):Prop:=0<=n/\n<=4096/\0<=wd/\wd<=64
instance (n wd:Int):Decidable (GQ n wd):=by unfold GQ;infer_instance
def RJ(l:List UInt8)(n wd:Nat):Prop:=l.length=Dv n wd/\A5 (BI l n wd) wd=l
instance (l:List UInt8) (n wd:Nat):Decidable (RJ l n wd):=by unfold RJ;infer_instance
def UnV(l:List UInt8)(n wd:Int)(w w':World)(r:Value):Prop :=
 ∃(xs:List Nat) (a:Option Addr) (c:Nat) (e:Int),r=.tuple #[.slice a xs.length c,.int .i64 e]/\Rd w' a (xs.map ES)/\Below w.heap.size w w'/\(∀ p,a=some p->w.heap.size<=p.block) /\
  ((GQ n wd/\RJ l n.toNat wd.toNat/\xs=BI l n.toNat wd.toNat/\e=0)\/(¬ (GQ n wd/\RJ l n.toNat wd.toNat)/\xs=[]/\e=if GQ n wd then 10 else 2))
theorem UnV.bad{l:List UInt8}{n wd:Int}{w w':World}{e:Int}(hb:Below w.heap.size w w')(h:¬ (GQ n wd/\RJ l n.toNat wd.toNat))(he:e=if GQ n wd then 10 else 2):UnV l n wd w w' (.tuple #[.slice none 0 0,.int .i64 e]) :=
 ⟨[],none,0,e,rfl,Rd.nil _ _,hb,(λ p hp=>by cases hp),.inr ⟨h,rfl,he⟩⟩
theorem GM{l:List UInt8}{j:Nat}(h:j<l.length):l.getD j 0=l[j]:=by simp [h]
section
variable {w:World}{a:Option Addr}{c:Nat}{l:List UInt8}
theorem HS(hl:Rd w a (l.map Ag))(n wd:Int)(hs:l.length<=9223372036854775807) :
  Calls Tryz.prog f.Z6 #[.slice a l.length c,.int .i64 n,.int .i64 wd] w (AG λ v w'=>UnV l n wd w w' v):=by
 apply R.Py
 delta R.A R.Ad R.MV R.Cf R.D R.F R.H R.I R.Li R.Ls R.Lu R.Ly R.N R.O R.Rs R.S R.Am R.U R.W R.Wb R.Wu R.X R.Z;try dsimp only [R.Ps]
 refine (SH.start (λ _=>False) w).An λ b4 w1 jx B1 S1=>S1.An λ b3 w2 dE B2 S2=>⟨_,S2.cell 0 rfl rfl,(JK w2 n wd).mono ?_⟩;rintro _ w3 ⟨_,rfl,rfl,rfl⟩;by_cases aU:GQ n wd
 case neg =>
  rw [if_neg (by unfold GQ at aU;omega)];refine⟨_,_,rfl,λ _ _=>False,Ah (λ _=>UnV.bad S2.below (λ h=>aU h.1) (by rw [if_neg aU])) (λ h=>absurd h (by decide)),?_⟩;rintro w5 h;exact h.elim
 obtain⟨h1,h2,h3,h4⟩:=id aU;obtain⟨n,rfl⟩:∃ m:Nat,n=(m:Int):=⟨n.toNat,by omega⟩;obtain⟨wd,rfl⟩:∃ m:Nat,wd=(m:Int):=⟨wd.toNat,by omega⟩;have hn:n<=4096:=by omega
 have hw:wd<=64:=by omega
 have hm:n*wd<=4096*64:=AlQ hn hw;rw [if_pos ⟨by omega,by omega,by omega,by omega⟩];obtain⟨m,hmd⟩:∃ m,m=Dv n wd:=⟨_,rfl⟩;have ni:m=(n*wd+7) / 8:=hmd;have rJ:((n:Int)*(wd:Int))=((n*wd:Nat):Int):=by norm_cast
 have em:((n:Int)*(wd:Int)+7) / 8=(m:Int):=by rw [rJ,ni];omega
 rw [em];have ew:IntKind.i64.wrap ((n:Int)*(wd:Int))=((n*wd:Nat):Int):=by rw [rJ,wrap_i64 (by omega) (by omega)]
 have emod:Int.tmod ((n*wd:Nat):Int) 8=((n*wd % 8:Nat):Int):=by rw [Int.tmod_eq_emod_of_nonneg (by omega)];omega
 refine⟨_,_,rfl,λ s w5=>s=[]/\RJ l n wd/\Below w3.heap.size w3 w5/\SH (λ _=>False) w w5 [(b3,#[.int .i64 (wd:Int)],ty.int),(b4,#[.slice a l.length c],ty.AH)],?_,?_⟩
 ·refine Ah (λ h=>absurd rfl h) (λ _=>⟨_,_,_,S2.cell 1 rfl rfl,Ah (λ h=>?_) (λ hlen=>?_)⟩)
  ·exact UnV.bad S2.below (λ hh=>h (by have:=hh.2.1;rw [this];simp [hmd])) (by rw [if_pos aU])
  ·have bP:l.length=m:=by omega
   have hT:=Ahd (l:=l) (n:=n) (w:=wd) (by omega);have hW:=AfB (l:=l) (T:=n*wd) (by omega);refine S2.E9 λ w4 B4 S4=>?_;have D1:(0<l.length->n*wd % 8≠0->(l.getD (l.length-1) 0).toNat / 2 ^ (n*wd % 8)=0)->RJ l n wd:=λ h=>⟨by omega,hT.2 (hW.2 h)⟩;refine Aa (λ iH=>⟨_,S4.cell 0 rfl rfl,?_⟩) (λ hz=>⟨rfl,D1 (λ h=>by omega),B4,S4⟩);rw [ew,emod];refine Ah (λ h8=>⟨_,_,_,S4.cell 1 rfl rfl,?_⟩) (λ h8=>⟨rfl,D1 (λ _ h=>by omega),B4,S4⟩);rw [wrap_i64 (n:=(m:Int)-1) (by omega) (by omega)];refine⟨⟨by omega,by omega⟩,?_⟩;have hj:m-1<l.length:=by omega
   obtain⟨p,rfl,hc⟩:=byte_at (hl.grown S4.below) hj;refine⟨_,by rw [show ((m:Int)-1).toNat=m-1 by omega];exact hc,_,S4.cell 0 rfl rfl,?_⟩;rw [ew,emod];refine⟨by omega,?_⟩;rw [Ak4,show min (n*wd % 8) 8=n*wd % 8 by omega,fdiv_pow];have hg:(l.getD (l.length-1) 0)=l[m-1]:=by rw [bP];exact GM hj
   refine Ah (λ h=>UnV.bad S4.below (λ hh=>h ?_) (by rw [if_pos aU])) (λ h=>⟨rfl,D1 (λ _ _=>?_),B4,S4⟩)
   ·have:=hW.1 (hT.1 hh.2.2) (by omega) (by omega);rw [hg] at this;rw [this];rfl
   ·rw [hg];omega
 rintro w5 ⟨_,aK,B5,S5⟩;obtain⟨hlen,hpk⟩:=id aK;refine Ea tU (l:=(n:Int)) (c:=(n:Int)) (by omega) (by omega) (by omega) (by omega) λ bo w6 fN B6 nN=>?_;rw [Ak4,Xq (DG l) wd n] at nN;rw [Ak4];have S6:=S5.grown B6;refine⟨_,_,_,rfl,S6.An λ dD w7 gv B7 S7=>S7.ZR 0 rfl (show 0<1 by decide) λ w8 K8 S8=>⟨_,S8.cell 1 rfl rfl,(LI w8 (n:Int) (wd:Int)).mono ?_⟩⟩;rintro _ w9 ⟨_,rfl,b1,b2,rfl,P9⟩;have S9:=S8.grown P9.below;have vg:bo<w6.heap.size:=(AlG.1 nN).1;have gg:=(Ai.AA (F:=λ _=>False) B7).at nN (by simp);have kL:=K8.at gg (show ¬ bo=dD by omega);have ph:=(Ai.AA (F:=λ _=>False) P9.below).at kL (by simp);have mh:w.heap.size<=bo:=Nat.le_trans S5.below.size fN;have uX:bo<w9.heap.size:=(AlG.1 ph).1;have mG:=S9.lt (x:=(b3,_,_)) (AlE _ (AlD ..));have tW:=S9.lt (x:=(b4,_,_)) (AlE _ (AlE _ (AlD ..)));have q9:=S9.lt (x:=(dD,_,_)) (AlD ..);have kx:=P9.own (b2,_,_) (AlD ..);have nQ:=P9.own (b1,_,_) (AlE _ (AlD ..))
 have kY:=P9.lt (x:=(b2,_,_)) (AlD ..);have pk:=P9.lt (x:=(b1,_,_)) (AlE _ (AlD ..));have yy:=S5.lt (x:=(b3,_,_)) (AlD ..);have uG:=S5.lt (x:=(b4,_,_)) (AlE _ (AlD ..));refine⟨_,_,_,rfl,by kernel_rfl,λ rr aA dR hy=>?_⟩;obtain⟨W1,hW1⟩:∃ W1,W1=(w9.alloc (.deferred (some []))).alloc (.loop rr):=⟨_,rfl⟩;rw [<- hW1];have gK:Below w9.heap.size w9 W1:=by rw [hW1];exact (((Below.refl _ w9).alloc (Nat.le_refl _) _).alloc (by simp) _)
 have rR:W1.heap.size=w9.heap.size+2:=by rw [hW1];simp
 have gf:W1.heap[w9.heap.size+1]?=some (.loop rr):=by
  rw [hW1];have:=World.alloc_heap_new (w9.alloc (.deferred (some []))) (.loop rr);rwa [World.size_alloc] at this
 have ku:W1.heap[w9.heap.size]?=some (.deferred (some [])):=by
  rw [hW1];exact (Below.heap_alloc _ _ _ (by simp)).trans (World.alloc_heap_new w9 _)
 have dz:=Ai.AA (F:=λ _=>False) gK;have kH:=dz.at ph (by simp);obtain⟨L,hLd⟩:∃ L,L=w9.heap.size+1:=⟨_,rfl⟩;rw [<- hLd] at gf hy ⊢;have Bw1:Below w.heap.size w W1:=S9.below.trans (gK.mono S9.below.size);have xB:=S9.below.size;have low:∀ {w':World},Ai (λ k=>k=bo\/k=L) W1 w'->Below w.heap.size w w':=λ K=>Bw1.trans (K.below Bw1.size λ k hk h=>by omega);have uK:∀ {w':World},Ai (λ k=>k=bo\/k=L) W1 w'->w'.cell? ⟨b3,0,none⟩=some (.int .i64 (wd:Int)):=λ K=>K.cell (dz.cell (S9.cell 1 rfl rfl) (by simp)) (by
  show ¬ (b3=bo\/b3=L);omega)
 have sG:∀ {w':World},Ai (λ k=>k=bo\/k=L) W1 w'->w'.cell? ⟨b4,0,none⟩=some (.slice a l.length c):=λ K=>K.cell (dz.cell (S9.cell 2 rfl rfl) (by simp)) (by
  show ¬ (b4=bo\/b4=L);omega)
 have ic:∀ {w':World},Ai (λ k=>k=bo\/k=L) W1 w'->w'.cell? ⟨dD,0,none⟩=some (.slice (some ⟨bo,0,none⟩) n n):=λ K=>K.cell (dz.cell (S9.cell 0 rfl rfl) (by simp)) (by
  show ¬ (dD=bo\/dD=L);omega)
 have vz:bo<w8.heap.size:=(AlG.1 kL).1;have e18:w8.heap.size<=b1:=by simpa using nQ
 have y6:w8.heap.size<=b2:=by simpa using kx
 have cJ:∀ {w':World},Ai (λ k=>k=bo\/k=L) W1 w'->w'.cell? ⟨b1,0,none⟩=some (.int .i64 (n:Int))/\w'.cell? ⟨b2,0,none⟩=some (.int .i64 (wd:Int)):=λ K =>
  ⟨K.cell (dz.cell (P9.cell 1 rfl rfl) (by simp)) (by show ¬ (b1=bo\/b1=L);omega),K.cell (dz.cell (P9.cell 0 rfl rfl) (by simp)) (by show ¬ (b2=bo\/b2=L);omega)⟩
 have hyp:∀ t,t<n*wd->∀ wx,(Ai (λ k=>k=bo\/k=L) W1 wx/\wx.heap[bo]?=some (.cells (Ht (DG l) wd n t) ty.uint64 (0,0))/\wx.heap[L]?=some (.loop rr)) ->
   PQ Tryz.prog L #[.int .i64 ((t / wd:Nat):Int),.int .i64 ((t % wd:Nat):Int)] (λ y w'=>y=true/\(Ai (λ k=>k=bo\/k=L) W1 w'/\w'.heap[bo]?=some (.cells (Ht (DG l) wd n (t+1)) ty.uint64 (0,0))/\w'.heap[L]?=some (.loop rr))) wx:=by
  rintro t ht wx ⟨K,hO,hL⟩;have nb:0<wd:=Nat.pos_of_ne_zero (by rintro rfl;simp at ht);have fY:t / wd<n:=(Nat.div_lt_iff_lt_mul nb).2 ht;have dA:t % wd<wd:=Alr _ nb;have gR:t / 8<l.length:=by omega
  refine hy _ _ _ wx hL ⟨hL,?_⟩;obtain⟨aX,hw11⟩:∃ aX,aX=wx.putObj L (.loop { rr with state:=.busy }):=⟨_,rfl⟩;rw [<- hw11];have eT:L<wx.heap.size:=(AlG.1 hL).1;have eO:Ai (λ k=>k=L) wx aX:=by rw [hw11];exact AP _ _ _
  have ik:aX.heap[L]?=some (.loop { rr with state:=.busy }):=by rw [hw11];exact World.putObj_heap_same eT
  have K2:Ai (λ k=>k=bo\/k=L) W1 aX.drew:=(K.trans eO (λ k _ h=>.inr h)).drew;have fP:aX.drew.heap[bo]?=some (.cells (Ht (DG l) wd n t) ty.uint64 (0,0)):=eO.at hO (by show ¬ bo=L;omega);refine⟨_,uK (K.trans eO (λ k _ h=>.inr h)),?_⟩;unfold RR;have et:IntKind.i64.wrap (IntKind.i64.wrap (((t / wd:Nat):Int)*(wd:Int))+((t % wd:Nat):Int))=(t:Int):=by
   have h1:((t / wd:Nat):Int)*(wd:Int)=((t / wd*wd:Nat):Int):=by rw [Int.natCast_mul]
   have h2:=Nat.div_add_mod t wd;rw [Alf] at h2;rw [h1];generalize t / wd*wd=q at h2;generalize t % wd=r' at h2;rw [wrap_i64 (n:=(q:Int)) (by omega) (by omega),wrap_i64 (by omega) (by omega)];omega
  have ed:Int.fdiv (t:Int) (2 ^ (min 3 64))=((t / 8:Nat):Int):=fdiv_pow t 3;rw [et,ed];refine⟨_,_,_,ic K2,⟨AlS _,by exact_mod_cast fY⟩,?_⟩;rw [Ak4];have ea:(⟨bo,0,none⟩:Addr).add (t / wd*1)=⟨bo,t / wd,none⟩:=by rw [Ax];simp
  obtain⟨p,rfl,hc⟩:=byte_at (hl.grown (low K2)) gR;show ∃ n:Int,aX.drew.cell? ((⟨bo,0,none⟩:Addr).add (t / wd*1))=some (.int .u64 n)/\_;rw [ea];have aE:aX.drew.cell? ⟨bo,t / wd,none⟩=some (.int .u64 (QC (DG l) wd t (t / wd):Int)):=by
   simp only [World.cell?,fP];simpa using ZJ fY
  refine⟨_,aE,_,_,_,sG K2,⟨AlS _,by exact_mod_cast gR⟩,_,by rw [Ak4];exact hc,?_⟩;rw [Ajr (by omega),Ak4,Ak4,W8 (l[t / 8]).toNat_lt (Alr _ (by omega)),Xw (by omega)];have eS:l[t / 8].toNat.testBit (t % 8)=DG l t:=by unfold DG;rw [GM gR]
  rw [eS];have kT:(DG l t).toNat*2 ^ (t % wd)<18446744073709551616:=by
   have:2 ^ (t % wd)<2 ^ 64:=Nat.pow_lt_pow_right (by omega) (by omega);cases DG l t
   ·simp
   ·simpa using this
  have ti:QC (DG l) wd t (t / wd)<18446744073709551616:=AkO (AcZ _ nb _ _) (All (n:=2) (by omega) hw);rw [AiD ti kT,Zo];refine⟨AlS _,AlS _,⟨AlS _,by exact_mod_cast fY⟩,?_⟩;show DV ((⟨bo,0,none⟩:Addr).add (t / wd*1)) _ _ _;rw [ea];refine EO fP (by rw [WA];exact fY) λ aj kj j0=>?_;have ji:aj.heap[L]?=some (.loop { rr with state:=.busy }):=kj.at (show aX.drew.heap[L]?=_ from ik) (by show ¬ L=bo;omega);refine⟨ji,rfl,?_⟩;rw [IU aA dR];rw [Aa2 _ rfl] at j0;have jI:L<aj.heap.size:=(AlG.1 ji).1;refine⟨(K2.trans kj (λ k _ h=>.inl h)).trans (AP _ _ _) (λ k _ h=>.inr h),?_,World.putObj_heap_same jI⟩;exact (World.putObj_heap_other (by omega)).trans j0
 refine (Xo (l:=L) (b1:=b1) (b2:=b2) hn hw (λ t wx=>Ai (λ k=>k=bo\/k=L) W1 wx/\wx.heap[bo]?=some (.cells (Ht (DG l) wd n t) ty.uint64 (0,0))/\wx.heap[L]?=some (.loop rr))
  (λ t wx hj=>cJ hj.1) (λ t wx hj=>⟨hj.1.drew,hj.2.1,hj.2.2⟩) hyp ⟨.refl _ _,kH,gf⟩).mono ?_
 rintro _ an ⟨_,rfl,jD,nj,dJ⟩;have ia:L<an.heap.size:=(AlG.1 dJ).1;refine⟨⟨_,rfl⟩,none,by rw [IU aA dR];exact dJ,rfl,?_⟩;obtain⟨ah,hw15⟩:∃ ah,ah=an.putObj L (.loop { rr with state:=.exhausted,pending:=none }):=⟨_,rfl⟩;rw [<- hw15];have gL:Ai (λ k=>k=bo\/k=L) W1 ah:=by rw [hw15];exact jD.trans (AP _ _ _) (λ k _ h=>.inr h)
 have nk:ah.heap[bo]?=some (.cells (Ht (DG l) wd n (n*wd)) ty.uint64 (0,0)):=by rw [hw15];exact (World.putObj_heap_other (by omega)).trans nj
 have gI:ah.heap[w9.heap.size]?=some (.deferred (some [])):=gL.at ku (by show ¬ (w9.heap.size=bo\/w9.heap.size=L);omega);have dq:=low gL;have vf:=(World.putObj_heap_other (w:=ah) (o:=.deferred none) (show bo≠w9.heap.size by omega)).trans nk;refine⟨_,_,_,ic gL,gI,BI l n wd,some ⟨bo,0,none⟩,n,0,by rw [Ce],?_,dq.trans ((AP ah w9.heap.size _).below dq.size λ k hk he=>by omega),(λ p hp=>by cases hp;exact mh),.inl ⟨aU,aK,rfl,rfl⟩⟩;have:=Rd.Ak vf;rwa [Abv] at this
end
theorem WB(b:Bool):((b.toNat:Int)=1)↔b=true:=by cases b <;> decide
section
variable {w:World}{a:Option Addr}{c:Nat}{l:List UInt8}
theorem Gu(hl:Rd w a (l.map Ag))(n wd:Int)(hs:l.length<=9223372036854775807) :
  Calls Tryz.prog f.XK #[.slice a l.length c,.int .i64 n,.int .i64 wd] w (AG λ v w'=>UnV l n wd w w' v):=by
 apply R.N9
 delta R.Ad R.MV R.AR R.D R.F R.H R.I R.Lu R.Ly R.O R.Qi R.Rs R.Rt R.S R.Am R.U R.W R.Wb R.Wu R.X;try dsimp only [R.Ps]
 refine (Sn w n wd).mono ?_;rintro _ w ⟨_,rfl,rfl,rfl⟩;by_cases aU:GQ n wd
 case neg =>
  rw [if_neg (by unfold GQ at aU;omega)];exact⟨_,_,rfl,Ah (λ _=>UnV.bad (.refl _ _) (λ h=>aU h.1) (by rw [if_neg aU])) (λ h=>absurd h (by decide))⟩
 obtain⟨h1,h2,h3,h4⟩:=id aU;obtain⟨n,rfl⟩:∃ m:Nat,n=(m:Int):=⟨n.toNat,by omega⟩;obtain⟨wd,rfl⟩:∃ m:Nat,wd=(m:Int):=⟨wd.toNat,by omega⟩;have hn:n<=4096:=by omega
 have hw:wd<=64:=by omega
 have hm:n*wd<=4096*64:=AlQ hn hw;rw [if_pos ⟨by omega,by omega,by omega,by omega⟩];obtain⟨m,hmd⟩:∃ m,m=Dv n wd:=⟨_,rfl⟩;have ni:m=(n*wd+7) / 8:=hmd;have rJ:((n:Int)*(wd:Int))=((n*wd:Nat):Int):=by norm_cast
 have em:((n:Int)*(wd:Int)+7) / 8=(m:Int):=by rw [rJ,ni];omega
 rw [em];refine⟨_,_,rfl,Ah (λ h=>absurd rfl h) (λ _=>Ah (λ h=>?_) (λ hlen=>?_))⟩
 ·exact UnV.bad (.refl _ _) (λ hh=>h (by have:=hh.2.1;rw [this];simp [hmd])) (by rw [if_pos aU])
 have bP:l.length=m:=by omega
 refine Ea tU (l:=(n:Int)) (c:=(n:Int)) (by omega) (by omega) (by omega) (by omega) λ bo w2 fN B2 kr=>?_;rw [Ak4,Xq (DG l) wd n] at kr;rw [Ak4];refine⟨_,_,_,rfl,?_⟩;have low:∀ {w':World},Ai (λ k=>k=bo) w2 w'->Below w.heap.size w w':=λ K=>B2.trans (K.below B2.size λ k hk h=>by omega);refine⟨λ s w3=>∃ i:Nat,i<=n/\s=[.int .i64 (i:Int)]/\Ai (λ k=>k=bo) w2 w3/\w3.heap[bo]?=some (.cells (Ht (DG l) wd n (i*wd)) ty.uint64 (0,0)),λ s _=>match s with
   | [.int _ i]=>n-i.toNat
   | _=>0,⟨0,by omega,rfl,.refl _ _,by rw [Nat.zero_mul];exact kr⟩,?_⟩
 rintro _ w3 ⟨i,hi,hs,K3,gm⟩;cases hs;refine Aa (λ aB=>?_) (λ aJ=>?_)
 ·have aD:i<n:=by omega
  refine⟨λ s w5=>∃ k:Nat,k<=wd/\s=[.int .i64 (k:Int)]/\Ai (λ k=>k=bo) w2 w5/\w5.heap[bo]?=some (.cells (Ht (DG l) wd n (i*wd+k)) ty.uint64 (0,0)),λ s _=>match s with
    | [.int _ k]=>wd-k.toNat
    | _=>0,⟨0,by omega,by simp,K3,gm⟩,?_⟩
  rintro _ w5 ⟨k,hk,hs,K5,fD⟩;cases hs;refine Aa (λ ao=>?_) (λ cB=>?_)
  ·have qe:k<wd:=by omega
   have oY:i*wd+k<n*wd:=by
    have:(i+1)*wd<=n*wd:=Nat.mul_le_mul_right _ aD;rw [Amg] at this;omega
   have gw:(i*wd+k) / wd=i:=by
    rw [Alf,Nat.mul_add_div (by omega),Nat.div_eq_of_lt qe,Nat.add_zero]
   have fZ:(i*wd+k) % wd=k:=by
    rw [Alf,Nat.mul_add_mod,Nat.mod_eq_of_lt qe]
   obtain⟨t,ht⟩:∃ t,t=i*wd+k:=⟨_,rfl⟩;rw [<- ht] at fD oY gw fZ;have et:IntKind.i64.wrap (IntKind.i64.wrap ((i:Int)*(wd:Int))+(k:Int))=(t:Int):=by
    have h1:(i:Int)*(wd:Int)=((i*wd:Nat):Int):=by rw [Int.natCast_mul]
    rw [h1,ht];generalize i*wd=q at ht;rw [wrap_i64 (n:=(q:Int)) (by omega) (by omega),wrap_i64 (by omega) (by omega)];omega
   have ed:IntKind.i64.wrap (Int.tdiv (t:Int) 8)=((t / 8:Nat):Int):=by
    rw [Int.tdiv_eq_ediv_of_nonneg (by omega),wrap_i64 (by omega) (by omega)];omega
   have er:Int.tmod (t:Int) 8=((t % 8:Nat):Int):=by
    rw [Int.tmod_eq_emod_of_nonneg (by omega)];omega
   rw [et,ed,er];have gR:t / 8<l.length:=by omega
   refine⟨⟨by omega,by omega⟩,?_⟩;obtain⟨p,rfl,hc⟩:=byte_at (hl.grown (low K5)) gR;refine⟨_,by rw [Ak4];exact hc,by omega,?_⟩;rw [Ak4,W8 (l[t / 8]).toNat_lt (Alr _ (by omega)),Ae (by omega)];have eS:l[t / 8].toNat.testBit (t % 8)=DG l t:=by unfold DG;rw [GM gR]
   rw [eS];have qi:∀ wx:World,Ai (λ k=>k=bo) w2 wx->wx.heap[bo]?=some (.cells (Ht (DG l) wd n (t+1)) ty.uint64 (0,0)) ->
     ((∃ k':Nat,k'<=wd/\[Value.int .i64 ((k+1:Nat):Int)]=[.int .i64 (k':Int)]/\Ai (λ k=>k=bo) w2 wx/\wx.heap[bo]?=some (.cells (Ht (DG l) wd n (i*wd+k')) ty.uint64 (0,0)))/\wd-((k+1:Nat):Int).toNat<wd-((k:Nat):Int).toNat):=by
    intro wx K hO;refine⟨⟨k+1,by omega,rfl,K,by rw [<- Amh,<- ht];exact hO⟩,?_⟩;simp only [Ak4];omega
   refine Ao (λ h1=>?_) (λ h1=>?_)
   ·have cJ:DG l t=true:=(WB _).1 h1;unfold RR;have ea:(⟨bo,0,none⟩:Addr).add (i*1)=⟨bo,i,none⟩:=by rw [Ax];simp
    refine⟨⟨by omega,by omega⟩,?_⟩;rw [Ak4,Ak4];have aE:w5.drew.cell? ((⟨bo,0,none⟩:Addr).add (i*1))=some (.int .u64 (QC (DG l) wd t i:Int)):=by
     rw [ea];have:w5.drew.heap[bo]?=some (.cells (Ht (DG l) wd n t) ty.uint64 (0,0)):=fD;simp only [World.cell?,this];simpa using ZJ aD
    refine⟨by omega,_,aE,⟨by omega,by omega⟩,?_⟩;have nF:=Xw (b:=true) (s:=k) (by omega);simp only [Bool.toNat_true,Nat.one_mul] at nF;rw [show IntKind.u64.wrap (((1:Nat):Int))=1 from by decide] at nF;rw [nF];have kT:2 ^ k<2 ^ 64:=Nat.pow_lt_pow_right (by omega) (by omega);have ti:QC (DG l) wd t i<18446744073709551616:=AkO (AcZ _ (by omega) _ _) (All (n:=2) (by omega) hw);rw [AiD ti kT];have dd:=Zo (DG l) wd t;rw [cJ,gw,fZ] at dd;simp only [Bool.toNat_true,Nat.one_mul] at dd;rw [dd];unfold Av;simp only;rw [ea];refine EO (show w5.drew.heap[bo]?=_ from fD) (by rw [WA];exact aD) λ w7 K7 gg=>?_;have qN:=Aa2 (f:=DG l) (w:=wd) (m:=n) (t:=t) _ rfl;rw [gw] at qN;rw [qN] at gg;exact qi w7 (K5.drew.trans K7 (λ k _ h=>h)) gg
   ·have bh:DG l t=false:=by
     cases h:DG l t
     ·rfl
     ·exact absurd ((WB _).2 h) h1
    exact qi w5 K5 (by rw [Ae9 bh];exact fD)
  ·have:k=wd:=by omega
   subst this;rw [Ae (by omega)];refine⟨⟨i+1,by omega,rfl,K5,by rw [Amg];exact fD⟩,?_⟩;simp only [Ak4];omega
 ·have:i=n:=by omega
  subst this;have B3:=low K3;have qv:Rd w3 (some ⟨bo,0,none⟩) ((BI l i wd).map ES):=by
   have:=Rd.Ak gm;rwa [Abv] at this
  have yO:=Ce l i wd;have bA:=Ii (c:=i) qv (by omega) hw (NH l i wd);rw [yO] at bA;refine bA.mono ?_;rintro _ w7 ⟨_,rfl,a7,c7,rfl,h7⟩;have B7:=Ac B3 h7.Ar;refine⟨_,_,_,_,rfl,Aw CB rfl h7.rd ⟨_,rfl,Aw CB rfl (hl.grown B7) ⟨_,rfl,?_⟩⟩⟩;rw [AZ];refine Au (Aa (λ he=>?_) (λ he=>?_))
  ·refine⟨BI l i wd,some ⟨bo,0,none⟩,i,0,by rw [yO],qv.grown h7.Ar,B7,(λ p hp=>by cases hp;exact fN),.inl ⟨aU,⟨by simpa using (show l.length=Dv i wd by omega),?_⟩,rfl,rfl⟩⟩;have:=congrArg bl he;rwa [BP,BP] at this
  ·exact UnV.bad B7 (λ hh=>he (by have:=hh.2.2;simp only [Ak4] at this;rw [this])) (by rw [if_pos aU])
end
def AN(l:List UInt8)(at_:Nat):Nat->Option (List (List UInt8) × Nat)
 | 0=>some ([],at_)
 | k+1=>match BD l (at_:Int) 1024 with
  | none=>none
  | some x=>(AN l x.2 k).map λ r=>(x.1 :: r.1,r.2)
theorem Md{l:List UInt8}{at_:Int}{most:Nat}{s:List UInt8}{k:Nat}(h:BD l at_ most=some (s,k)):k<=l.length:=by
 unfold BD at h;split at h
 ·rename_i x hx;have hb:=Az (n:=x.1) (k:=x.2) hx;split at h
  ·cases h
  ·simp only [Ami,Prod.mk.injEq] at h;omega
 ·cases h
theorem Hf{l:List UInt8}:∀ {n at_:Nat} {r:List (List UInt8) × Nat},AN l at_ n=some r->r.1.length=n
 | 0,_,_,h=>by simp only [AN,Ami] at h;subst h;rfl
 | n+1,at_,r,h=>by
  unfold AN at h;split at h
  ·cases h
  ·obtain⟨q,hq,rfl⟩:=Amj.1 h;simp [Hf hq]
theorem Lg{l:List UInt8}:∀ {n at_:Nat} {r:List (List UInt8) × Nat},AN l at_ n=some r->at_<=l.length->r.2<=l.length
 | 0,_,_,h,ha=>by simp only [AN,Ami] at h;subst h;exact ha
 | n+1,at_,r,h,ha=>by
  unfold AN at h;split at h
  ·cases h
  ·rename_i x hx;obtain⟨q,hq,rfl⟩:=Amj.1 h;exact Lg (r:=q) hq (Md (s:=x.1) (k:=x.2) hx)
theorem Ny{l:List UInt8}{at_ k:Nat}(hx:BD l (at_:Int) 1024=none):AN l at_ (k+1)=none:=by
 unfold AN;rw [hx]
theorem Nz{l:List UInt8}{at_ k:Nat}{x:List UInt8 × Nat}(hx:BD l (at_:Int) 1024=some x):AN l at_ (k+1)=(AN l x.2 k).map λ r=>(x.1 :: r.1,r.2):=by
 conv=>lhs;unfold AN
 rw [hx]
def Nf(l:List UInt8)(at_ n:Nat)(w':World)(v:Value):Prop :=
 match AN l at_ n with
 | none=>v=.tuple #[.slice none 0 0,.int .i64 0,.bool false]
 | some r=>∃ a c,v=.tuple #[.slice a r.1.length c,.int .i64 (r.2:Int),.bool true]/\Rd w' a (strs r.1)
section
variable {w0 w:World}{a:Option Addr}{c:Nat}{l:List UInt8}
theorem Nt(at_:Int):Calls Tryz.prog f.Acy #[.slice a l.length c,.int .i64 at_] w (AG λ v w'=>∃ b1 b2,v=.func (.func f.IW) #[] #[.pointer (some ⟨b1,0,none⟩),.pointer (some ⟨b2,0,none⟩)] /\
  SH (λ _=>False) w w' [(b2,#[.int .i64 at_],ty.int),(b1,#[.slice a l.length c],ty.AH)]):=by
 apply R.QO
 delta R.I R.J R.N R.P R.S;try dsimp only [R.Ps]
 exact (SH.start (λ _=>False) w).An λ b1 w1 _ _ S1=>S1.An λ b2 w2 _ _ S2=>⟨b1,b2,rfl,S2⟩
theorem Sl{b1 b2 at_ n:Nat}(S:SH (λ _=>False) w0 w [(b2,#[.int .i64 (at_:Int)],ty.int),(b1,#[.slice a l.length c],ty.AH)])(hl:Rd w0 a (l.map Ag))(hc:l.length<=c)(hs:l.length<=9223372036854775807)(hn:n<=4096) :
  Calls Tryz.prog f.IW #[.int .u64 (n:Int),.pointer (some ⟨b1,0,none⟩),.pointer (some ⟨b2,0,none⟩)] w (AG λ v w'=>Nf l at_ n w' v/\Below w0.heap.size w0 w'):=by
 apply R.MI
 delta R.A R.Gz R.D R.F R.G R.H R.I R.J R.Ks R.Li R.Ls R.N R.O R.Qsu R.S R.Am R.T R.U R.Wu;try dsimp only [R.Ps]
 refine⟨λ st w1=>∃(i:Nat) (ss:List (List UInt8)) (aZ:Nat) (oa:Option Addr) (oc:Nat),st=[.slice oa ss.length oc,.int .u64 (i:Int)]/\i=ss.length/\i<=n/\Row w1 ty.string 1 oa ss.length oc (strs ss) /\
   SH (λ _=>False) w0 w1 [(b2,#[.int .i64 (aZ:Int)],ty.int),(b1,#[.slice a l.length c],ty.AH)]/\(∀ k,AD oa=some k->w0.heap.size<=k/\k≠b1/\k≠b2) /\
   AN l at_ n=(AN l aZ (n-i)).map λ r=>(ss++r.1,r.2),λ s _=>match s with
   | [_,.int _ i]=>n-i.toNat
   | _=>0,⟨0,[],at_,none,0,rfl,rfl,by omega,Row.nil _ _ _,S,by simp [AD],by simp⟩,?_⟩
 rintro oa _ oc _ w1 ⟨i,ss,aZ,_,_,aA,hi,cD,R1,S1,N1,hT⟩;cases aA;refine Aa (λ aB=>?_) (λ aJ=>?_)
 ·refine⟨_,_,_,S1.cell 1 rfl rfl,_,S1.cell 0 rfl rfl,(Es (hl.grown S1.below) hc hs (aZ:Int) 1024).mono ?_⟩;rintro _ w3 ⟨_,rfl,rfl,rfl⟩;have ae:n-i=(n-(i+1))+1:=by omega
  rw [ae] at hT;cases hx:BD l (aZ:Int) 1024 with
  | none =>
   refine⟨_,_,_,rfl,Ah (λ _=>⟨?_,S1.below⟩) (λ h=>absurd h (by decide))⟩;rw [Ny hx] at hT;unfold Nf;rw [hT];rfl
  | some x =>
   rw [Nz hx] at hT;refine⟨_,_,_,rfl,Ah (λ h=>absurd rfl h) (λ _=>S1.An λ iv w4 kK B4 S4=>?_)⟩;have aW:Rd w4 (some ⟨iv,0,none⟩) (strs [x.1]):=by
    have:=Rd.Ak (S4.get 0 rfl);simpa [strs] using this
   have l1:=S1.lt (x:=(b2,_,_)) (AlD ..);have l2:=S1.lt (x:=(b1,_,_)) (AlE _ (AlD ..));refine EF (u:=[x.1]) (R1.grown B4) rfl aW (by simp;omega) λ a5 c5 w5 R5 K5 N5=>⟨_,_,_,rfl,?_⟩;have S5:SH (λ _=>False) w0 w5 [(b2,#[.int .i64 (aZ:Int)],ty.int),(b1,#[.slice a l.length c],ty.AH)]:=(S4.drop 1).kept K5 (by
    intro y hy hr;simp only [List.drop_succ_cons,List.drop_zero,List.mem_cons,List.not_mem_nil,or_false] at hy;rcases hy with rfl | rfl
    ·exact (N1 _ hr).2.2 rfl
    ·exact (N1 _ hr).2.1 rfl) (λ k hk hr=>by have:=(N1 _ hr).1;omega)
   have N5':∀ k,AD a5=some k->w0.heap.size<=k/\k≠b1/\k≠b2:=by
    intro k hk;have:=B4.size;rcases N5 k hk with h | h
    ·exact N1 k h
    ·have:=S4.below.size;exact⟨by omega,by omega,by omega⟩
   refine S5.ZR 0 rfl (show 0<1 by decide) λ w6 K6 S6=>?_;have R6:=R5.keeps K6 λ k hk he=>(N5' k hk).2.2 he;rw [show IntKind.u64.wrap ((i:Int)+1)=((i+1:Nat):Int) by rw [Aj (by omega) (by omega)];omega];refine⟨⟨i+1,ss++[x.1],x.2,a5,c5,rfl,by simp [hi],by omega,R6,S6,N5',?_⟩,?_⟩
   ·rw [hT,Option.map_map];congr 1;funext r;simp
   ·simp only [Ak4];omega
 ·have vt:i=n:=by omega
  refine S1.E9 λ w2 B2 S2=>⟨_,S2.cell 0 rfl rfl,?_,S2.below⟩;have:n-i=0:=by omega
  rw [this] at hT;unfold Nf;have e:AN l at_ n=some (ss,aZ):=by rw [hT];simp [AN]
  rw [e];exact⟨oa,oc,rfl,(R1.grown B2).rd⟩
theorem Qk{at_ n:Nat}(hl:Rd w a (l.map Ag))(hc:l.length<=c)(hs:l.length<=9223372036854775807)(hn:n<=4096)(cU:at_<=9223372036854775807) :
  Calls Tryz.prog f.ZA #[.slice a l.length c,.int .i64 (at_:Int),.int .i64 (n:Int)] w (AG λ v w'=>Nf l at_ n w' v/\Below w.heap.size w w'):=by
 apply R.O0
 delta R.Gz R.F R.G R.H R.I R.J R.Ks R.N R.O R.Ll R.S R.T R.W;try dsimp only [R.Ps]
 refine⟨λ st w1=>∃(i:Nat) (ss:List (List UInt8)) (aZ:Nat) (oa:Option Addr) (oc:Nat),st=[.int .i64 (aZ:Int),.slice oa ss.length oc,.int .i64 (i:Int)]/\i=ss.length/\i<=n/\Row w1 ty.string 1 oa ss.length oc (strs ss) /\
   Below w.heap.size w w1/\(∀ k,AD oa=some k->w.heap.size<=k)/\aZ<=9223372036854775807 /\
   AN l at_ n=(AN l aZ (n-i)).map λ r=>(ss++r.1,r.2),λ s _=>match s with
   | [_,_,.int _ i]=>n-i.toNat
   | _=>0,⟨0,[],at_,none,0,rfl,rfl,by omega,Row.nil _ _ _,.refl _ _,by simp [AD],cU,by simp⟩,?_⟩
 rintro _ oa _ oc _ w1 ⟨i,ss,aZ,_,_,aA,hi,cD,R1,B1,N1,kO,hT⟩;cases aA;refine Aa (λ aB=>?_) (λ aJ=>?_)
 ·refine (Ec (hl.grown B1) hc hs (aZ:Int) (by omega) 1024).mono ?_;rintro _ w3 ⟨_,rfl,rfl,rfl⟩;have ae:n-i=(n-(i+1))+1:=by omega
  rw [ae] at hT;cases hx:BD l (aZ:Int) 1024 with
  | none =>
   refine⟨_,_,_,rfl,Ah (λ _=>⟨?_,B1⟩) (λ h=>absurd h (by decide))⟩;rw [Ny hx] at hT;unfold Nf;rw [hT];rfl
  | some x =>
   rw [Nz hx] at hT;refine⟨_,_,_,rfl,Ah (λ h=>absurd rfl h) (λ _=>(SH.start (λ _=>False) w3).An λ iv w4 kK B4 S4=>?_)⟩;have aW:Rd w4 (some ⟨iv,0,none⟩) (strs [x.1]):=by
    have:=Rd.Ak (S4.get 0 rfl);simpa [strs] using this
   refine EF (u:=[x.1]) (R1.grown B4) rfl aW (by simp;omega) λ a5 c5 w5 R5 K5 N5=>⟨_,_,_,rfl,?_⟩;have C4:=Ac B1 B4;have C5:Below w.heap.size w w5:=C4.trans (K5.below C4.size λ k hk he=>by have:=N1 k he;omega);have N5':∀ k,AD a5=some k->w.heap.size<=k:=by
    intro k hk;rcases N5 k hk with h | h
    ·exact N1 k h
    ·have:=C4.size;omega
   have hle:=Md (s:=x.1) (k:=x.2) hx;rw [Ae (by omega)];refine⟨⟨i+1,ss++[x.1],x.2,a5,c5,rfl,by simp [hi],by omega,R5,C5,N5',by omega,?_⟩,?_⟩
   ·rw [hT,Option.map_map];congr 1;funext r;simp
   ·simp only [Ak4];omega
 ·have vt:i=n:=by omega
  refine⟨?_,B1⟩;have:n-i=0:=by omega
  rw [this] at hT;unfold Nf;have e:AN l at_ n=some (ss,aZ):=by rw [hT];simp [AN]
  rw [e];exact⟨oa,oc,rfl,R1.rd⟩
end
theorem ZZ{n:Nat}(h:n<18446744073709551616)(pre b:List UInt8):takeN (pre++(Af n++b)) (pre.length:Int)=some (n,pre.length+(Af n).length):=by
 unfold takeN;rw [if_neg (by omega),Ak4,Amk];rw [P1 n 0 0 b (by simpa using h) (by omega) (by intro;rfl)];simp
theorem AgP{s:ByteArray}(hz:s.size<=1024)(pre b:List UInt8):BD (pre++(Bu s++b)) (pre.length:Int) 1024=some (bl s,pre.length+(Bu s).length):=by
 unfold BD Bu;rw [List.append_assoc,ZZ (by omega)];have hl:=A9 s;simp only;rw [if_neg (by simp only [Ak1];omega)];congr 1;have e:pre++(Af s.size++(bl s++b))=(pre++Af s.size)++(bl s++b):=by simp
 rw [e,<- Ak1,Amk,<- hl,List.take_left];simp only [Ak1,Amh]
theorem Lq:∀ {ls:List ByteArray} (hz:∀ s∈ls,s.size<=1024) (pre b:List UInt8),AN (pre++(BW ls++b)) pre.length ls.length=some (ls.map bl,pre.length+(BW ls).length)
 | [],_,pre,b=>by simp [AN,BW]
 | s :: ls,hz,pre,b=>by
  have e:pre++(BW (s :: ls)++b)=pre++(Bu s++(BW ls++b)):=by simp [BW]
  have e2:pre++(Bu s++(BW ls++b))=(pre++Bu s)++(BW ls++b):=by simp
  rw [Ak3];unfold AN;rw [e,AgP (hz s (AlD ..))];simp only;rw [e2,<- Ak1,Lq (λ x hx=>hz x (AlE _ hx))];simp [BW,Amh]
theorem Iu{xs:List Nat}{w:Nat}(hx:∀ x∈xs,x<2 ^ w):BI (A5 xs w) xs.length w=xs:=by
 apply List.ext_getElem
 ·simp [BI]
 ·intro i h1 h2;have e:(BI (A5 xs w) xs.length w)[i]=QC (DG (A5 xs w)) w (xs.length*w) i:=by simp [BI]
  rw [e];have dF:=hx _ (AlI h2);by_cases hw:0<w
  case neg =>
   have:w=0:=by omega
   subst this;have h0:xs[i]=0:=by simpa using dF
   simp [QC,h0]
  apply Nat.eq_of_testBit_eq;intro k;rw [T7 _ hw];by_cases hk:k<w
  ·have oY:i*w+k<xs.length*w:=by
    have:(i+1)*w<=xs.length*w:=Nat.mul_le_mul_right _ h2;rw [Amg] at this;omega
   have gw:(i*w+k) / w=i:=by
    rw [Alf,Nat.mul_add_div (by omega),Nat.div_eq_of_lt hk,Nat.add_zero]
   have fZ:(i*w+k) % w=k:=by
    rw [Alf,Nat.mul_add_mod,Nat.mod_eq_of_lt hk]
   have hj:(i*w+k) / 8<Dv xs.length w:=by unfold Dv;omega
   have hb:DG (A5 xs w) (i*w+k)=Ew xs w (i*w+k):=by
    unfold DG;have:(A5 xs w).getD ((i*w+k) / 8) 0=Ak9 (T3 (Ew xs w) (xs.length*w) ((i*w+k) / 8)):=by
     simp [List.getD,UK hj]
    rw [this,VA (Alr _ (by omega)),show (i*w+k) / 8*8+(i*w+k) % 8=i*w+k by omega];simp [oY]
   rw [hb];unfold Ew;rw [gw,fZ];simp [hk,oY,h2]
  ·rw [Nat.testBit_lt_two_pow (AkO dF (All (by omega) (Nat.le_of_not_lt hk)))];simp [hk]
def Zr(many:Nat)(ts:List (List UInt8))(xs:List Nat):Option (List (List UInt8)):=if ∀ p∈xs,p<many then some (xs.map λ p=>ts.getD p []) else none
def BT(l:List UInt8)(n:Nat):Option (List (List UInt8)) :=
 (takeN l 1).bind λ x=>if n<x.1 then none else (AN l x.2 x.1).bind λ y=>if l.length<=y.2 then none else
  if GQ (n:Int) ((l.getD y.2 0).toNat:Int)/\RJ (l.drop (y.2+1)) n (l.getD y.2 0).toNat then Zr x.1 y.1 (BI (l.drop (y.2+1)) n (l.getD y.2 0).toNat) else none
theorem XA{t:List (List UInt8)}{ls:List ByteArray}(ht:Ep (ls.map bl) t):∀ x∈A7 t ls,x<t.length:=by
 intro x hx;obtain⟨s,hs,rfl⟩:=AkK.1 hx;exact List.idxOf_lt_length_of_mem ((ht.mem _).2 (AkK.2 ⟨s,hs,rfl⟩))
theorem Ze{t:List (List UInt8)}{ls:List ByteArray}(ht:Ep (ls.map bl) t):t.length<=ls.length:=by
 have:=Hv (GP ht.up) (λ x hx=>(ht.mem x).1 hx);simpa using this
theorem Aim{t:List (List UInt8)}{ls:List ByteArray}{w:Nat}(ht:Ep (ls.map bl) t)(hn:ls.length<=4096)(hw:DR (Ie (A7 t ls)) w):w<=13 :=
 hw.le.2 ((H0 _ _).2 λ x hx=>by have:=XA ht x hx;have:=Ze ht;omega)
theorem Aa4{ls:List ByteArray}{b:List UInt8}(aK:E4 1 ls)(h:F8 ls 1 b):BT b ls.length=some (ls.map bl):=by
 cases h with
 | table t w ht hw =>
 obtain⟨_,_,hn,cd⟩:=aK;have hz:=GN cd;have eR:=Ze ht;have jX:∀ s∈t.map BC,s.size<=1024:=by
  intro s hs;obtain⟨x,hx,rfl⟩:=AkK.1 hs;obtain⟨s',bU,rfl⟩:=AkK.1 ((ht.mem x).1 hx);rw [EI];exact hz s' bU
 have qf:=Aim ht hn hw;have bL:=(H0 _ _).1 hw.1;obtain⟨xs,bN⟩:∃ xs,xs=A7 t ls:=⟨_,rfl⟩;have ct:xs.length=ls.length:=by rw [bN];simp [A7]
 rw [<- bN] at bL ⊢;have e1:(1 :: Af t.length)++(BW (t.map BC)++(Ak9 w :: A5 xs w))=[1]++(Af t.length++(BW (t.map BC)++(Ak9 w :: A5 xs w))):=by simp
 have e2:[1]++(Af t.length++(BW (t.map BC)++(Ak9 w :: A5 xs w)))=([1]++Af t.length)++(BW (t.map BC)++(Ak9 w :: A5 xs w)):=by simp
 obtain⟨b,hb⟩:∃ b,b=(1 :: Af t.length)++(BW (t.map BC)++(Ak9 w :: A5 xs w)):=⟨_,rfl⟩;have h1:takeN b 1=some (t.length,1+(Af t.length).length):=by
  rw [hb,e1];exact ZZ (by omega) [1] _
 have h2:AN b (1+(Af t.length).length) t.length=some (t,1+(Af t.length).length+(BW (t.map BC)).length):=by
  have h:=Lq jX ([1]++Af t.length) (Ak9 w :: A5 xs w);rw [<- e2,<- e1,<- hb] at h;simp only [Ak1,Ak3,Amf,Alh] at h;rw [show 0+1+(Af t.length).length=1+(Af t.length).length by omega] at h;rw [h];have:(t.map BC).map bl=t:=by
   rw [List.map_map];have:(bl ∘ BC)=id:=by funext x;exact BP x
   rw [this,List.map_id]
  rw [this]
 obtain⟨q,hq⟩:∃ q,q=1+(Af t.length).length+(BW (t.map BC)).length:=⟨_,rfl⟩;have e3:b=((1 :: Af t.length)++BW (t.map BC))++(Ak9 w :: A5 xs w):=by rw [hb];simp
 have iB:q=((1 :: Af t.length)++BW (t.map BC)).length:=by rw [hq];simp;omega
 have hlen:b.length=q+1+(A5 xs w).length:=by rw [e3,Ak1,<- iB,Ak3];omega
 have hg:b.getD q 0=Ak9 w:=by
  rw [e3,iB];simp [List.getD]
 have hd:b.drop (q+1)=A5 xs w:=by
  rw [e3,iB,<- List.drop_drop,Amk];rfl
 have hwN:(Ak9 w).toNat=w:=EY (by omega);rw [<- hq] at h2;rw [<- hb];simp only [BT,h1,h2,Option.bind_some,hg,hd,hwN];rw [if_neg (by omega),if_neg (by omega)];have lY:BI (A5 xs w) ls.length w=xs:=by rw [<- ct];exact Iu bL
 have bV:GQ (ls.length:Int) (w:Int)/\RJ (A5 xs w) ls.length w:=by
  refine⟨⟨by omega,by omega,by omega,by omega⟩,?_,?_⟩
  ·rw [BS,ct]
  ·rw [lY]
 rw [if_pos bV,lY];unfold Zr;rw [if_pos (by rw [bN];exact XA ht),bN];congr 1;unfold A7;rw [List.map_map];apply List.map_congr_left;intro s hs;have hm:bl s∈t:=(ht.mem _).2 (AkK.2 ⟨s,hs,rfl⟩);have hi:=List.idxOf_lt_length_of_mem hm;simp only [Function.comp];simp [List.getD,hi,List.getElem_idxOf]
theorem Abk{ls:List ByteArray}{b:List UInt8}(aK:E4 0 ls)(h:F8 ls 0 b):(AN b 1 ls.length).map (·.1)=some (ls.map bl):=by
 cases h with
 | plain =>
 have h:=Lq (GN aK.2.2.2) [0] [];simp only [List.append_nil] at h;have e:[0]++BW ls=0 :: BW ls:=rfl;rw [e] at h;have e1:([0]:List UInt8).length=1:=rfl;rw [e1] at h;rw [h];rfl
structure Iv(l:List UInt8)(n:Nat)(ls:List ByteArray):Prop where
 len:ls.length=n
 ok:E4 ((l.getD 0 0).toNat:Int) ls
 enc:F8 ls ((l.getD 0 0).toNat:Int) l
def Ha(l:List UInt8)(n:Nat):Option (List (List UInt8)):=if l.getD 0 0=0 then (AN l 1 n).map (·.1) else BT l n
theorem Iv.reads{l:List UInt8}{n:Nat}{ls:List ByteArray}(h:Iv l n ls):Ha l n=some (ls.map bl):=by
 obtain⟨rfl,ok,enc⟩:=h;unfold Ha;by_cases h0:l.getD 0 0=0
 ·rw [if_pos h0];rw [h0] at ok enc;exact Abk ok enc
 ·rw [if_neg h0];have h1:((l.getD 0 0).toNat:Int)=1:=by
   have h2:=ok.1;have h3:=ok.2.1;have:(l.getD 0 0).toNat≠0:=λ h=>h0 (UInt8.toNat_inj.1 h);omega
  rw [h1] at ok enc;exact Aa4 ok enc
theorem Iv.one{l:List UInt8}{n:Nat}{ls ms:List ByteArray}(h:Iv l n ls)(h':Iv l n ms):ls=ms:=by
 have:=Option.some.inj (h.reads.symm.trans h'.reads);have:=congrArg (List.map BC) this;rwa [HN,HN] at this
theorem AcF{l:List UInt8}{n:Nat}{ms:List (List UInt8)}(h:BT l n=some ms):ms.length=n:=by
 unfold BT at h;obtain⟨x,_,h⟩:=Option.bind_eq_some_iff.1 h;split at h
 ·cases h
 ·obtain⟨y,_,h⟩:=Option.bind_eq_some_iff.1 h;split at h
  ·cases h
  ·split at h
   ·unfold Zr at h;split at h
    ·cases h;simp [BI]
    ·cases h
   ·cases h
theorem W7{l:List UInt8}{n:Nat}{ms:List (List UInt8)}(h:Ha l n=some ms):ms.length=n:=by
 unfold Ha at h;split at h
 ·obtain⟨r,hr,rfl⟩:=Amj.1 h;exact Hf hr
 ·exact AcF h
structure Wq(B:Nat)(w:World)(ns:List Int)(na:Option Addr)(nc:Nat)(ss:List ByteArray)(sa:Option Addr)(sc:Nat):Prop where
 rn:Row w ty.int64 1 na ns.length nc (ns.map EG)
 rs:Row w ty.string 1 sa ss.length sc (ss.map Value.string)
 nn:∀ x,AD na=some x->B<=x
 sn:∀ x,AD sa=some x->B<=x
 ne:∀ x,AD na=some x->AD sa≠some x
theorem Wq.nil(B:Nat)(w:World):Wq B w [] none 0 [] none 0:=⟨Row.nil _ _ _,Row.nil _ _ _,by simp [AD],by simp [AD],by simp [AD]⟩
section
variable {B:Nat}{w w':World}{ns:List Int}{na:Option Addr}{nc:Nat}{ss:List ByteArray}{sa:Option Addr}{sc:Nat}
theorem Wq.keeps(h:Wq B w ns na nc ss sa sc){F:Nat->Prop}(K:Ai F w w')(hF:∀ x,F x->x<B\/w.heap.size<=x):Wq B w' ns na nc ss sa sc :=
 ⟨h.rn.keeps K λ x hx hf=>by have:=h.nn x hx;have:=h.rn.lt hx;have:=hF x hf;omega,h.rs.keeps K λ x hx hf=>by have:=h.sn x hx;have:=h.rs.lt hx;have:=hF x hf;omega,h.nn,h.sn,h.ne⟩
theorem Wq.grown(h:Wq B w ns na nc ss sa sc)(hb:Below w.heap.size w w'):Wq B w' ns na nc ss sa sc:=h.keeps (F:=λ _=>False) (Ai.AA hb) (by simp)
theorem Aki:MN Tryz.prog ty.Bl=some (ty.int64,1,8,.int .i64 0):=by kernel_rfl
theorem Wq.Ah0(h:Wq B w ns na nc ss sa sc)(hB:B<=w.heap.size)(hl:ns.length<=1000000){x:Int}{b:Nat}{t:TypeId}(hb:w.heap[b]?=some (.cells #[EG x] t (0,0))){f:Value->World->Prop}
  (hf:∀ a' c' w',Wq B w' (ns++[x]) a' c' ss sa sc->Ai (λ k=>AD na=some k) w w'->f (.slice a' (ns++[x]).length c') w'):DE Tryz.prog (Builtin.append_ #[ty.Bl,ty.Bl] ty.Bl #[.slice na ns.length nc,.slice (some ⟨b,0,none⟩) 1 1]) f w:=by
 have aW:Rd w (some ⟨b,0,none⟩) ([x].map EG):=by
  have:=Rd.Ak hb;simpa using this
 obtain⟨a5,c5,w2,aH,aI,cl,hnw⟩:=BX (ty:=ty.Bl) (mc:=1) Aki rfl (by omega) (by omega) h.rn aW (m:=1) rfl (by simp [EG];rfl) (by omega);unfold DE;rw [aH];have e:ns.length+1=(ns++[x]).length:=by simp
 rw [e] at aI ⊢;refine hf a5 c5 w2 ⟨by rw [List.map_append];exact aI,h.rs.keeps cl λ k hk hr=>h.ne k hr hk,λ k hk=>?_,h.sn,λ k hk hs=>?_⟩ cl
 ·rcases hnw k hk with h1 | h1
  ·exact h.nn k h1
  ·omega
 ·rcases hnw k hk with h1 | h1
  ·exact h.ne k h1 hs
  ·have:=h.rs.lt hs;omega
theorem Wq.AhO(h:Wq B w ns na nc ss sa sc)(hB:B<=w.heap.size)(hl:ss.length<=1000000){x:ByteArray}{b:Nat}{t:TypeId}(hb:w.heap[b]?=some (.cells #[.string x] t (0,0))){f:Value->World->Prop}
  (hf:∀ a' c' w',Wq B w' ns na nc (ss++[x]) a' c'->Ai (λ k=>AD sa=some k) w w'->f (.slice a' (ss++[x]).length c') w'):DE Tryz.prog (Builtin.append_ #[ty.Cx,ty.Cx] ty.Cx #[.slice sa ss.length sc,.slice (some ⟨b,0,none⟩) 1 1]) f w:=by
 have aW:Rd w (some ⟨b,0,none⟩) ([x].map Value.string):=by
  have:=Rd.Ak hb;simpa using this
 obtain⟨a5,c5,w2,aH,aI,cl,hnw⟩:=BX (ty:=ty.Cx) (mc:=1) tS rfl (by omega) (by omega) h.rs aW (m:=1) rfl (by simp;rfl) (by omega);unfold DE;rw [aH];have e:ss.length+1=(ss++[x]).length:=by simp
 rw [e] at aI ⊢;refine hf a5 c5 w2 ⟨h.rn.keeps cl λ k hk hr=>h.ne k hk hr,by rw [List.map_append];exact aI,h.nn,λ k hk=>?_,λ k hk hs=>?_⟩ cl
 ·rcases hnw k hk with h1 | h1
  ·exact h.sn k h1
  ·omega
 ·rcases hnw k hs with h1 | h1
  ·exact h.ne k hk h1
  ·have:=h.rn.lt hk;omega
end
def CS(ls:List AB):List Int:=(AQ ls).map (·.2.1)
def BA(ls:List AB):List ByteArray:=(AQ ls).map (·.2.2)
theorem Jk(ls:List AB):(CS ls).length<=ls.length:=by unfold CS AQ;rw [Alh];exact List.length_filter_le ..
theorem Gj(ls:List AB):(BA ls).length<=ls.length:=by unfold BA AQ;rw [Alh];exact List.length_filter_le ..
theorem QU{ls:List AB}{i:Nat}(hi:i<ls.length):(ls[i].1=0->CS (ls.take (i+1))=CS (ls.take i)/\BA (ls.take (i+1))=BA (ls.take i)) /\
  (ls[i].1≠0->CS (ls.take (i+1))=CS (ls.take i)++[ls[i].2.1]/\BA (ls.take (i+1))=BA (ls.take i)++[ls[i].2.2]):=by
 unfold CS BA;rw [CT hi];constructor
 ·intro h;simp [h]
 ·intro h;simp [h]
inductive D7 (kind:Int) (ls:List AB):List UInt8->Prop
 | text (h:kind=3) (b0 b1:List UInt8) (h0:F8 (BA ls) 0 b0) (h1:F8 (BA ls) 1 b1):D7 kind ls (if b1.length<b0.length then b1 else b0)
 | num (h:kind≠3):D7 kind ls (DS (Vr (CS ls)) (CS ls))
theorem D7.one{kind:Int}{ls:List AB}{b c:List UInt8}(h:D7 kind ls b)(h':D7 kind ls c):b=c:=by
 cases h with
 | text h b0 b1 h0 h1 =>
  cases h' with
  | text k c0 c1 k0 k1=>rw [h0.one k0,h1.one k1]
  | num k=>exact absurd h k
 | num h =>
  cases h' with
  | text k c0 c1 k0 k1=>exact absurd k h
  | num k=>rfl
structure Bc(kind:Int)(ls:List AB):Prop where
 right:DP kind ls=true
 ok:∀ v∈ls,BN v
theorem Bc.len{kind:Int}{ls:List AB}(h:Bc kind ls):ls.length<=1024:=by
 have:=h.right;simp [DP] at this;omega
theorem Bc.kind{kind:Int}{ls:List AB}(h:Bc kind ls):1<=kind/\kind<=3:=by
 have:=h.right;simp [DP] at this;omega
theorem Bc.all{kind:Int}{ls:List AB}(h:Bc kind ls):∀ v∈ls,okV kind v=true:=by
 have:=h.right;simp only [DP,AkC,AlC] at this;exact this.1
theorem Bc.AeF{kind:Int}{ls:List AB}(h:Bc kind ls):∀ x∈CS ls,Fs x:=by
 intro x hx;obtain⟨v,hv,rfl⟩:=AkK.1 hx;have:=h.ok v (List.mem_filter.1 hv).1;exact⟨this.lo,this.hi⟩
theorem Bc.texts{kind:Int}{ls:List AB}(h:Bc kind ls):J7 (BA ls)=false:=by
 unfold J7;rw [List.any_eq_false];intro s hs;obtain⟨v,hv,rfl⟩:=AkK.1 hs;have:=h.all v (List.mem_filter.1 hv).1;simp only [okV,AkC] at this;have hr:=this.1;simp only [decide_eq_true_eq];unfold AK at hr;have hE:∀ s:ByteArray,s=E0->s.size=0:=by rintro s rfl;rfl
 split at hr
 ·simp at hr;have:=hE _ hr.2;omega
 ·split at hr
  ·simp at hr;have:=hE _ hr;omega
  ·split at hr
   ·simp at hr;have:=hE _ hr.2;omega
   ·split at hr
    ·simp at hr;omega
    ·cases hr
theorem Bc.enc{kind:Int}{ls:List AB}(h:Bc kind ls)(f:Int)(hf:0<=f/\f<=1):E4 f (BA ls):=⟨hf.1,hf.2,by have:=Gj ls;have:=h.len;omega,h.texts⟩
theorem F8.len{f:Int}{ls:List ByteArray}{b:List UInt8}(aK:E4 f ls)(h:F8 ls f b):b.length<=60000+ls.length*1034:=by
 obtain⟨_,_,hn,cd⟩:=aK;have hz:=GN cd;cases h with
 | plain =>
  have:=Gi hz;simp only [Ak3];omega
 | table t w ht hw =>
  have eR:t.length<=ls.length:=by
   have:=Hv (GP ht.up) (λ x hx=>(ht.mem x).1 hx);simpa using this
  have jX:∀ s∈t.map BC,s.size<=1024:=by
   intro s hs;obtain⟨x,hx,rfl⟩:=AkK.1 hs;obtain⟨s',bU,rfl⟩:=AkK.1 ((ht.mem x).1 hx);rw [EI];exact hz s' bU
  have l1:=Gi jX;rw [Alh] at l1;have l2:=Al (n:=t.length) (by omega);have qf:w<=13:=hw.le.2 ((H0 _ _).2 λ x hx=>by
   obtain⟨s,hs,rfl⟩:=AkK.1 hx;have:=List.idxOf_le_length (l:=t) (a:=bl s);omega)
  have bL:(A7 t ls).length=ls.length:=by simp [A7]
  have l3:(A7 t ls).length*w<=4096*13:=AlQ (by omega) qf;simp only [Ak1,Ak3,BS];unfold Dv;omega
theorem D7.len{kind:Int}{ls:List AB}{b:List UInt8}(hg:Bc kind ls)(h:D7 kind ls b):b.length<=2000000:=by
 have l1:=Gj ls;have l2:=Jk ls;have l3:=hg.len;cases h with
 | text h b0 b1 h0 h1 =>
  have k0:=h0.len (hg.enc 0 (by omega));have k1:=h1.len (hg.enc 1 (by omega));split <;> omega
 | num h =>
  have:=AeH (Vr (CS ls)) (by omega) hg.AeF;omega
section
variable {w:World}{a:Option Addr}{c:Nat}{ls:List AB}
theorem Tz{kind:Int}(hg:Bc kind ls)(hl:Rd w a (AO ls)) :
  Calls Tryz.prog f.XH #[.int .i64 kind,.slice a ls.length c] w (AG λ v w'=>∃ b a' c',v=.slice a' b.length c'/\D7 kind ls b/\Bn w w' b a' c'):=by
 have hlen:=hg.len;apply R.NM
 delta R.MV R.AR R.F R.I R.J R.Ks R.Li R.Lt R.N R.O R.Ad4 R.S R.T R.W R.X;try dsimp only [R.Ps]
 refine⟨λ s w1=>∃(i:Nat) (na:Option Addr) (nc:Nat) (sa:Option Addr) (sc:Nat),s=[.slice na (CS (ls.take i)).length nc,.slice sa (BA (ls.take i)).length sc,.int .i64 (i:Int)]/\i<=ls.length/\Wq w.heap.size w1 (CS (ls.take i)) na nc (BA (ls.take i)) sa sc/\Below w.heap.size w w1,λ s _=>match s with
   | [_,_,.int _ i]=>ls.length-i.toNat
   | _=>0,⟨0,none,0,none,0,rfl,by omega,Wq.nil _ _,.refl _ _⟩,?_⟩
 rintro na _ nc sa _ sc _ w1 ⟨i,_,_,_,_,aA,hi,hT,B1⟩;cases aA;have cL:ls.length-(IntKind.i64.wrap ((i:Int)+1)).toNat<ls.length-((i:Nat):Int).toNat\/¬ i<ls.length:=by
  by_cases h:i<ls.length
  ·left;rw [Ae (by omega)];simp only [Ak4];omega
  ·exact .inr h
 refine Aa (λ aB=>⟨⟨by omega,aB⟩,?_⟩) (λ aJ=>?_)
 ·have aD:i<ls.length:=by omega
  have cL:=cL.resolve_right (by omega);obtain⟨p,rfl,c0,c1,c2⟩:=De (hl.grown B1) aD;obtain⟨t0,t1⟩:=QU aD;refine⟨_,by rw [Ak4];exact c0,Ah (λ aQ=>⟨⟨by omega,aB⟩,_,by rw [Ak4];exact c1,(SH.start (λ _=>False) w1).An λ b2 w2 dC B2 S2=>?_⟩) (λ hz=>?_)⟩
  ·obtain⟨e1,e2⟩:=t1 aQ;have C2:=Ac B1 B2;have eN:=Jk (ls.take i);have gi:=Gj (ls.take i);rw [AlX] at eN gi;refine (hT.grown B2).Ah0 C2.size (by omega) (S2.get 0 rfl) λ a3 c3 w3 h3 K3=>⟨_,_,_,rfl,⟨by omega,aB⟩,?_⟩;have C3:Below w.heap.size w w3:=C2.trans (K3.below C2.size λ k hk he=>by have:=hT.nn k he;omega);obtain⟨p',hp',_,_,iL⟩:=De (hl.grown C3) aD;cases hp';refine⟨_,by rw [Ak4];exact iL,(SH.start (λ _=>False) w3).An λ b4 w4 jx B4 S4=>?_⟩;have C4:=Ac C3 B4;refine (h3.grown B4).AhO C4.size (by omega) (S4.get 0 rfl) λ a5 c5 w5 h5 K5=>⟨_,_,_,rfl,?_⟩;refine⟨⟨i+1,a3,c3,a5,c5,?_,by omega,by rw [e1,e2];exact h5,C4.trans (K5.below C4.size λ k hk he=>by have:=hT.sn k he;omega)⟩,cL⟩;rw [e1,e2,Ae (by omega)]
  ·obtain⟨e1,e2⟩:=t0 hz;refine⟨⟨i+1,na,nc,sa,sc,?_,by omega,by rw [e1,e2];exact hT,B1⟩,cL⟩;rw [e1,e2,Ae (by omega)]
 ·have bG:ls.take i=ls:=AlA (by omega);rw [bG] at hT ⊢;have iK:(BA ls).length<=9223372036854775807:=by have:=Gj ls;omega
  have pL:(CS ls).length<=4096:=by have:=Jk ls;omega
  refine Ao (λ h3=>?_) (λ h3=>?_)
  ·refine (Abx hT.rs.rd iK).mono ?_;rintro _ eA ⟨_,rfl,hB,fW⟩;rcases hB with ⟨aP,_⟩ | ⟨b0,b1,h0,h1,_,rfl⟩
   ·exact absurd (hg.enc 0 (by omega)) aP
   refine⟨_,_,rfl,?_⟩;have hf:0<=(if b1.length<b0.length then (1:Int) else 0)/\(if b1.length<b0.length then (1:Int) else 0)<=1:=by split <;> omega
   refine (Gr _ (hT.rs.rd.grown fW) iK).mono ?_;rintro _ kB ⟨_,rfl,hE⟩;rcases hE with ⟨aP,_⟩ | ⟨_,b,a,c,hE,rfl,hN⟩
   ·exact absurd (hg.enc _ hf) aP
   refine⟨_,_,_,_,rfl,b,a,c,rfl,?_,hN.before (Ac B1 fW)⟩;have:=D7.text (kind:=kind) (ls:=ls) h3 b0 b1 h0 h1;split at hE
   ·rename_i aB;rw [if_pos aB] at this;rw [hE.one h1];exact this
   ·rename_i aB;rw [if_neg aB] at this;rw [hE.one h0];exact this
  ·refine (QJ hT.rn.rd pL hg.AeF).mono ?_;rintro _ eA ⟨_,rfl,rfl,fW⟩;refine⟨_,_,rfl,(FA _ (hT.rn.rd.grown fW) hg.AeF).mono ?_⟩;rintro _ kB ⟨_,rfl,hE⟩;obtain⟨a,c,rfl,hN⟩:=J8.D1 (PM _) pL hE;exact⟨_,_,_,_,rfl,_,a,c,rfl,.num h3,hN.before (Ac B1 fW)⟩
end
end Go.Proofs.YtpnaifmmggnimaaGreatDoor
