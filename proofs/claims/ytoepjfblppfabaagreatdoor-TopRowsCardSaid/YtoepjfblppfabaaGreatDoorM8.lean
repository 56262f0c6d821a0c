/-
  Texts of this claim, laid one behind the other by a program of mine (install.py): Y.Parts, Y.Qtx, Y.Rtx, Y.Alk, Y.Ld, Y.Tr1, Y.VTake0, Y.VLay2, Y.TakeS, Y.VTake, Y.VTake2, Y.VTake3, Y.Sch7, Y.Sch8, Y.Tr2, Y.Tr3, Y.Pl1, Y.Unpack, Y.Unpack2, Y.Take, Y.DecLaw, Y.Ch2, Y.Ch3, Y.Sum2, Y.Ch4, Y.Ch5, Y.TakeS2, Y.Table.
-/
import Derived.Test.YtoepjfblppfabaaGreatDoorM7
import Derived.Lib.Join
import Derived.Test.YtoepjfblppfabaaGreatDoorM4
import Derived.Test.YtoepjfblppfabaaGreatDoorM6
namespace Go.Proofs.YtoepjfblppfabaaGreatDoor
set_option maxRecDepth 100000
open Go.Dn Go.Proofs
open Go.RowKit (Below)
set_option linter.unusedVariables false
theorem Aki(x:ByteArray):x++E0=x:=ByteArray.append_empty
theorem Y6(x:ByteArray)(l:List ByteArray):GP (x :: l)=x++CA (Lib.joinTail [44,32] (l.map bl)):=by
 induction l generalizing x with
 | nil=>exact (Aki x).symm
 | cons y l ih =>
  show x++⟨#[44,32]⟩++GP (y :: l)=_;rw [ih y];have e:CA (Lib.joinTail [44,32] ((y :: l).map bl))=⟨#[44,32]⟩++(y++CA (Lib.joinTail [44,32] (l.map bl))):=by
   rw [show (ByteArray.mk #[44,32])=CA [44,32] from rfl]
   conv=>rhs;rw [<- DH y]
   rw [NA,NA];simp [Lib.joinTail]
  rw [e,ByteArray.append_assoc]
theorem QO(l:List ByteArray):GP l=CA (Lib.join (l.map bl) [44,32]):=by
 cases l with
 | nil=>rfl
 | cons x l =>
  rw [Y6,List.map_cons,Lib.join_cons]
  conv=>lhs;rw [<- DH x]
  rw [NA]
theorem HE{B:Nat}:∀(l:List ByteArray),(∀ x∈l,x.size<=B)->(GP l).size<=l.length*(B+2)
 | [],_=>by show 0<=_;exact Nat.zero_le _
 | [x],h=>by have:=h x (by simp);show x.size<=_;simp;omega
 | x :: y :: l,h=>by
  have h1:=h x (by simp);have h2:=HE (y :: l) λ z hz=>h z (by simp [hz]);show (x++⟨#[44,32]⟩++GP (y :: l)).size<=_;have e:(ByteArray.mk #[44,32]).size=2:=rfl;rw [ByteArray.size_append,ByteArray.size_append,e,List.length_cons,Nat.add_mul];omega
section
variable {w0 w:World}{H:List It}{a:Option Addr}{c:Nat}
theorem AiL(S:ST w0 w H)(n:Nat){xs:List ByteArray}(hn:H[n]?=some (IG a c xs))(h1:xs≠[])(hl:xs.length<=100)(hs:∀ x∈xs,x.size<=1000000):Calls Tryz.prog f.strings_Join #[.slice a xs.length c,.string ⟨#[44,32]⟩] w (AB λ v w'=>v=.string (GP xs)/\Below w.heap.size w w'):=by
 have hR:Row w ty.string 1 a xs.length c (xs.map Value.string):=S.get n hn;rcases hR.2 with ⟨_,h,_⟩ | ⟨g,cur,rfl,hg,cj,_,_,_⟩
 ·exact absurd (List.eq_nil_of_length_eq_zero h) h1
 ·have hj:(Lib.join (xs.map bl) [44,32]).length<=140737488355328:=by
   have h2:=HE xs hs;rw [QO,E7] at h2;have h3:xs.length*(1000000+2)<=100*(1000000+2):=Nat.mul_le_mul_right _ hl;omega
  refine (Tryz.strings_Join g 0 c xs ⟨#[44,32]⟩ w (λ j x hx=>?_) (Array.getElem?_eq_some_iff.1 hg).1 (by omega) cj hj).mono ?_
  ·obtain⟨p,hp,hc⟩:=hR.rd j (.string x) (by rw [List.getElem?_map,hx];rfl);cases hp;rw [Am] at hc;exact hc
  ·rintro _ w' ⟨rfl,B⟩;exact⟨_,rfl,by rw [QO];rfl,B⟩
end
section
variable {w:World}{i:Pq}{a:Option Addr}{cap:Nat}
end
section
variable {w:World}{q:Qu}{ai aw ag ao:Option Addr}{ci cw cg co:Nat}
end
section
variable {w:World}{i:Pq}{a:Option Addr}{cap:Nat}
end
section
variable {w:World}{q:Qu}{ai aw ag ao:Option Addr}{ci cw cg co:Nat}
end
theorem Bb{b:Bool}{A B:Prop}(hb:b=true)(h:A):VD b A B:=by subst hb;exact h
theorem Ap{b:Bool}{A B:Prop}(hb:b=false)(h:B):VD b A B:=by subst hb;exact h
section
variable {w:World}{q:Qu}{ai aw ag ao bi bw bg bo:Option Addr}{ci cw cg co di dw dg d_o:Nat}
end
/-! ### lists of columns -/
section
variable {w:World}{a b:Option Addr}{c d:Nat}
end
theorem Aih(a b:Int):(a != b)=decide (a≠b):=by rw [Bool.eq_iff_iff];simp
section
variable {w0 w:World}{H:List It}
theorem ldX{p:Addr}{x:Ex}{a:Option Addr}{cap:Nat}(h:∀ j v,(M5 x a cap)[j]?=some v->w.cell? (p.add j)=some v){Q:Int->ByteArray->Int->Int->ByteArray->Option Addr->Nat->Nat->Prop}(hq:Q x.op x.nm x.v.1 x.v.2.1 x.v.2.2 a x.ks.length cap) :
  ∃ t0:Int,w.cell? p=some (.int .i64 t0)/\∃ t1:ByteArray,w.cell? (p.add 1)=some (.string t1)/\∃ t2:Int,w.cell? (p.add 2)=some (.int .i64 t2)/\∃ t3:Int,w.cell? (p.add 3)=some (.int .i64 t3)/\∃ t4:ByteArray,w.cell? (p.add 4)=some (.string t4) /\
   ∃(t5:Option Addr) (l c:Nat),w.cell? (p.add 5)=some (.slice t5 l c)/\Q t0 t1 t2 t3 t4 t5 l c :=
 ⟨_,h 0 _ rfl,_,h 1 _ rfl,_,h 2 _ rfl,_,h 3 _ rfl,_,h 4 _ rfl,_,_,_,h 5 _ rfl,hq⟩
theorem ldI{p:Addr}{i:Pq}{a:Option Addr}{cap:Nat}(h:∀ j v,(Ab1 i a cap)[j]?=some v->w.cell? (p.add j)=some v){Q:ByteArray->Int->Int->ByteArray->Int->Int->ByteArray->Option Addr->Nat->Nat->Prop}(hq:Q i.1 i.2.1 i.2.2.op i.2.2.nm i.2.2.v.1 i.2.2.v.2.1 i.2.2.v.2.2 a i.2.2.ks.length cap) :
  ∃ t0:ByteArray,w.cell? p=some (.string t0)/\∃ t1:Int,w.cell? (p.add 1)=some (.int .i64 t1)/\∃ t2:Int,w.cell? (p.add 2)=some (.int .i64 t2)/\∃ t3:ByteArray,w.cell? (p.add 3)=some (.string t3)/\∃ t4:Int,w.cell? (p.add 4)=some (.int .i64 t4)/\∃ t5:Int,w.cell? (p.add 5)=some (.int .i64 t5)/\∃ t6:ByteArray,w.cell? (p.add 6)=some (.string t6) /\
   ∃(t7:Option Addr) (l c:Nat),w.cell? (p.add 7)=some (.slice t7 l c)/\Q t0 t1 t2 t3 t4 t5 t6 t7 l c :=
 ⟨_,h 0 _ rfl,_,h 1 _ rfl,_,h 2 _ rfl,_,h 3 _ rfl,_,h 4 _ rfl,_,h 5 _ rfl,_,h 6 _ rfl,_,_,_,h 7 _ rfl,hq⟩
theorem stX(S:ST w0 w H)(n:Nat){b:Nat}{x:Ex}{a:Option Addr}{cap:Nat}(hn:H[n]?=some (exI b (M5 x a cap))){Q:Int->ByteArray->Int->Int->ByteArray->Option Addr->Nat->Nat->Prop}(hq:Q x.op x.nm x.v.1 x.v.2.1 x.v.2.2 a x.ks.length cap) :
  ∃ t0:Int,w.cell? ⟨b,0,none⟩=some (.int .i64 t0)/\∃ t1:ByteArray,w.cell? ⟨b,1,none⟩=some (.string t1)/\∃ t2:Int,w.cell? ⟨b,2,none⟩=some (.int .i64 t2)/\∃ t3:Int,w.cell? ⟨b,3,none⟩=some (.int .i64 t3)/\∃ t4:ByteArray,w.cell? ⟨b,4,none⟩=some (.string t4) /\
   ∃(t5:Option Addr) (l c:Nat),w.cell? ⟨b,5,none⟩=some (.slice t5 l c)/\Q t0 t1 t2 t3 t4 t5 l c :=
 ⟨_,S.cell n hn rfl,_,S.cell n hn rfl,_,S.cell n hn rfl,_,S.cell n hn rfl,_,S.cell n hn rfl,_,_,_,S.cell n hn rfl,hq⟩
theorem Ald(S:ST w0 w H)(n:Nat){b:Nat}{i:Pq}{a:Option Addr}{cap:Nat}(hn:H[n]?=some (itI b i a cap)){Q:Int->ByteArray->Int->Int->ByteArray->Option Addr->Nat->Nat->Prop}(hq:Q i.2.2.op i.2.2.nm i.2.2.v.1 i.2.2.v.2.1 i.2.2.v.2.2 a i.2.2.ks.length cap) :
  ∃ t0:Int,w.cell? ⟨b,2,none⟩=some (.int .i64 t0)/\∃ t1:ByteArray,w.cell? ⟨b,3,none⟩=some (.string t1)/\∃ t2:Int,w.cell? ⟨b,4,none⟩=some (.int .i64 t2)/\∃ t3:Int,w.cell? ⟨b,5,none⟩=some (.int .i64 t3)/\∃ t4:ByteArray,w.cell? ⟨b,6,none⟩=some (.string t4) /\
   ∃(t5:Option Addr) (l c:Nat),w.cell? ⟨b,7,none⟩=some (.slice t5 l c)/\Q t0 t1 t2 t3 t4 t5 l c :=
 ⟨_,S.cell n hn rfl,_,S.cell n hn rfl,_,S.cell n hn rfl,_,S.cell n hn rfl,_,S.cell n hn rfl,_,_,_,S.cell n hn rfl,hq⟩
end
def lf(s:ByteArray):Ex:=.mk 1 s V0 []
abbrev NM(s:ByteArray):List Value:=M5 (lf s) none 0
section
variable {w0 w:World}{H:List It}{Q:List It->Prop}{L bd bx:Nat}{s:ByteArray}
theorem AgV(S:ST w0 w (Age bd 1 :: exI bx (NM s) :: H))
  (hy:∀ b w',ST w0 w' (It.cells b (AkX L) 382 :: Age bd 1 :: exI bx (NM s) :: H)->GJ Tryz.prog L #[.int .i64 1,.agg ⟨NM s⟩] (λ y w2=>y=true/\∃ H',Q H'/\ST w0 w2 (It.cells b (AkX L) 382 :: Age bd 1 :: exI bx (NM s) :: H')) w') :
  Calls Tryz.prog f.ME #[.func (.yield L) #[] #[],.pointer (some ⟨bd,0,none⟩),.pointer (some ⟨bx,0,none⟩)] w (AB λ _ w'=>∃ H',Q H'/\ST w0 w' H'):=by
 apply R.Me
 delta R.A R.Ab R.Cf R.E R.F R.G R.H R.I R.Lf R.Li R.Ls R.Lt R.N R.O R.S R.Ah R.T R.W R.X R.Z;try dsimp only [R.Ps]
 refine S.Aj λ b3 w1 _ _ S1=>⟨λ _ w4=>∃ H',Q H'/\ST w0 w4 (It.cells b3 (AkX L) 382 :: Age bd 1 :: exI bx (NM s) :: H'),.inr ⟨L,S1.cell 0 rfl rfl,_,S1.cell 1 rfl rfl,stX S1 2 rfl ((hy b3 w1 S1).mono ?_)⟩,?_⟩
 ·rintro y w3 ⟨rfl,H',hQ,S3⟩;exact A5 (Bo ⟨_,S3.cell 1 rfl rfl,Aa (λ kj=>by simp at kj) (λ kj=>⟨H',hQ,S3⟩)⟩)
 rintro w4 ⟨H',hQ,S4⟩;refine⟨_,_,_,S4.cell 2 rfl rfl,λ st ms w5=>st=[.int .i64 0]/\ms=[]/\w5=w4,λ _ _=>0,⟨rfl,rfl,rfl⟩,?_⟩;rintro t ms w5 ⟨aA,rfl,rfl⟩;cases aA;exact Ap rfl (ST.shut (ms:=[]) (H:=H') (S4.drop 3) λ w' S6=>⟨H',hQ,S6⟩)
theorem Sr(E:Env w)(s:ByteArray):Calls Tryz.prog f.Zy #[.agg ⟨NM s⟩] w (AB λ r w'=>r=.bool true/\Below w.heap.size w w'):=by
 apply R.Ol
 delta R.A R.Ab R.Cb R.Cf R.D R.E R.F R.G R.I R.Lb R.Li R.Ls R.Lt R.N R.O R.S R.Ah R.T R.W R.X;try dsimp only [R.Ps]
 simp only [AK];refine (ST.start w).Aj λ b7 w1 _ _ S1=>S1.Aj λ b8 w2 _ _ S2=>S2.Aj λ b9 w3 _ _ S3=>S3.Cr 0 rfl (aC:=#[.int .i64 0]) (by simp) rfl λ w4 S4=>stX S4 2 rfl ((MF (x:=lf s) (a:=none) (cap:=0) 1).mono ?_);rintro _ w5 ⟨_,rfl,bd,bx,rfl,P5⟩;have S5:=S4.join P5;refine⟨_,_,_,rfl,by kernel_rfl,λ rr aA bJ hy=>?_⟩;have S6:=S5.range rr;obtain⟨L,hL⟩:∃ L,L=w5.heap.size+1:=⟨_,rfl⟩;obtain⟨m,hm⟩:∃ m,m=w5.heap.size:=⟨_,rfl⟩;rw [<- hL] at S6 hy ⊢;rw [<- hm] at S6 ⊢;refine (AgV (s:=s) (Q:=λ H'=>H'=[It.obj L (.loop rr),It.obj m (.deferred (some [])),It.cells b9 #[.int .i64 1] ty.int,It.cells b8 #[.bool false] ty.bool,exI b7 (NM s)]) ((S6.pull 3 rfl).pull 3 rfl) (λ b w6 S=>?_)).mono ?_
 ·refine hy _ _ _ _ _ _ _ _ _ _ w6 (S.get 3 rfl) ?_;refine S.AkJ λ vp bN _ S=>S.Abm 4 rfl λ bF S=>⟨_,S.cell 6 rfl rfl,S.Cr 6 rfl (aC:=#[.int .i64 1]) (by simp) rfl λ ay S=>S.draw λ dY _ S=>Ap rfl ⟨_,S.cell 6 rfl rfl,Ap rfl ⟨_,S.cell 0 rfl rfl,Ap rfl ⟨_,S.cell 0 rfl rfl,Ap rfl ⟨_,_,_,S.cell 0 rfl rfl,_,S.cell 0 rfl rfl,⟨(by decide:(0:Int)<=1),(by decide:(1:Int)<17)⟩,0,?_,Ap rfl ⟨_,S.cell 0 rfl rfl,Ap rfl ⟨_,S.cell 0 rfl rfl,Bb rfl ⟨_,S.cell 0 rfl rfl,_,S.cell 0 rfl rfl,_,S.cell 0 rfl rfl,Ap rfl ⟨_,S.cell 0 rfl rfl,_,S.cell 0 rfl rfl,_,S.cell 0 rfl rfl,(Cz dY V0).mono ?_⟩⟩⟩⟩⟩⟩⟩⟩⟩
  ·obtain⟨p,hp,hc⟩:=(E.grown S.An).shp 3 (.int .i64 0) rfl;cases hp;exact hc
  rintro _ gF ⟨_,rfl,rfl,ow⟩;exact⟨_,rfl,Ap rfl ((S.grown ow).QV 4 aA bJ rfl λ gG S=>⟨rfl,_,rfl,S.drop 1⟩)⟩
 ·rintro _ ub ⟨_,rfl,_,rfl,pC⟩;refine⟨⟨_,rfl⟩,pC.QU 0 aA bJ rfl λ nt S=>.inl ⟨rfl,S.Cr 3 rfl (aC:=#[.bool true]) (by simp) rfl λ si S=>⟨S.get 1 rfl,?_⟩⟩⟩;have S:=S.put 1 rfl (.deferred none);exact⟨_,S.cell 3 rfl rfl,rfl,S.An⟩
theorem Al5(E:Env w)(s:ByteArray):Calls Tryz.prog f.Aex #[.agg ⟨NM s⟩,.agg ⟨NM s⟩] w (AB λ r w'=>r=.bool true/\Below w.heap.size w w'):=by
 apply R.RI
 delta R.A R.Ab R.Cb R.E R.F R.G R.I R.Li R.Ls R.Lt R.N R.S R.T;try dsimp only [R.Ps]
 refine (ST.start w).Aj λ b1 w1 _ _ S1=>S1.Aj λ b2 w2 _ _ S2=>stX S2 1 rfl (S2.call (Sr (E.grown S2.An) s) λ w3 _ S3=>⟨_,rfl,Bo (stX S3 0 rfl (S3.call (Sr (E.grown S3.An) s) λ w4 _ S4=>⟨_,rfl,Bo (stX S4 1 rfl (stX S4 0 rfl (S4.call (v:=.bool true) ?_ λ w5 _ S5=>⟨_,rfl,rfl,S5.An⟩)))⟩))⟩);apply R.RO
 delta R.A R.Ab R.Cb R.F R.G R.I R.Li R.Ls R.Lt R.N R.S R.T;try dsimp only [R.Ps]
 refine (ST.start w4).Aj λ b1 w1 _ _ S1=>S1.Aj λ b2 w2 _ _ S2=>⟨_,S2.cell 1 rfl rfl,_,S2.cell 0 rfl rfl,Bb rfl ⟨_,S2.cell 1 rfl rfl,_,S2.cell 0 rfl rfl,Bb (by rw [AK];exact decide_eq_true rfl) ⟨_,S2.cell 1 rfl rfl,_,S2.cell 1 rfl rfl,_,S2.cell 1 rfl rfl,_,S2.cell 0 rfl rfl,_,S2.cell 0 rfl rfl,_,S2.cell 0 rfl rfl,Bb rfl ⟨_,_,_,S2.cell 1 rfl rfl,_,_,_,S2.cell 0 rfl rfl,S2.call (v:=.bool true) ?_ λ w5 _ S5=>⟨_,rfl,rfl,S5.An⟩⟩⟩⟩⟩;apply R.BI
 delta R.A R.Ab R.E R.F R.G R.I R.Li R.Ls R.Lt R.N R.O R.Qi R.S R.Ah R.T R.W R.X;try dsimp only [R.Ps]
 refine Ap rfl ⟨λ st w5=>st=[.int .i64 0]/\w5=w2,λ _ _=>0,⟨rfl,rfl⟩,?_⟩;rintro t w5 ⟨aA,rfl⟩;cases aA;exact Ap rfl ⟨rfl,.refl _ _⟩
theorem AjQ(E:Env w)(s:ByteArray):Calls Tryz.prog f.Aez #[.agg ⟨NM s⟩] w (AB λ v w'=>∃ a c,v=.slice a 1 c/\ST w w' [IG a c [s]]):=by
 apply R.RM
 delta R.A R.Ab R.Cb R.Cf R.Cn R.Cs R.E R.F R.I R.J R.Ks R.Li R.Ls R.Lt R.N R.O R.S R.Ah R.T;try dsimp only [R.Ps]
 refine (ST.start w).Aj λ b7 w1 _ _ S1=>stX S1 0 rfl (S1.call (Sr (E.grown S1.An) s) λ w2 _ S2=>⟨_,rfl,Ap rfl (S2.Aj λ eR w3 _ _ S3=>stX S3 1 rfl ((MF (x:=lf s) (a:=none) (cap:=0) 1).mono ?_))⟩);rintro _ w4 ⟨_,rfl,bd,bx,rfl,P4⟩;have S4:=(S3.nil ty.string 1).join P4;refine⟨_,_,_,rfl,by kernel_rfl,λ rr aA bJ hy=>?_⟩;have S6:=S4.range rr;obtain⟨L,hL⟩:∃ L,L=w4.heap.size+1:=⟨_,rfl⟩;obtain⟨m,hm⟩:∃ m,m=w4.heap.size:=⟨_,rfl⟩;rw [<- hL] at S6 hy ⊢;rw [<- hm] at S6 ⊢;refine (AgV (s:=s) (Q:=λ H'=>∃ sa sc,H'=[It.obj L (.loop rr),It.obj m (.deferred (some [])),IG sa sc [s],It.cells eR #[.slice sa 1 sc] ty.BC,exI b7 (NM s)]) ((S6.pull 3 rfl).pull 3 rfl) (λ b w6 S=>?_)).mono ?_
 ·refine hy _ _ _ _ _ _ _ _ _ _ w6 (S.get 3 rfl) ?_;refine S.AkJ λ vt dN _ S=>S.Abm 4 rfl λ bN S=>⟨_,S.cell 0 rfl rfl,Bb rfl ⟨_,_,_,S.cell 7 rfl rfl,_,S.cell 0 rfl rfl,S.Aj λ pN bF _ _ S=>?_⟩⟩;exact AdJ (a:=none) (c:=0) (xs:=[]) S 7 rfl (ys:=[s]) (mm:=1) rfl (S.rdc 0 rfl) (by simp) λ a' c' ay S=>⟨_,_,_,rfl,S.Cr 8 rfl (aC:=#[.slice a' 1 c']) (by simp) rfl λ dY S=>S.QV 5 aA bJ rfl λ w' S=>⟨rfl,_,⟨a',c',rfl⟩,S.drop 2⟩⟩
 rintro _ gF ⟨_,rfl,_,⟨sa,sc,rfl⟩,pC⟩;refine⟨⟨_,rfl⟩,pC.QU 0 aA bJ rfl λ gG S=>⟨rfl,_,_,_,S.cell 3 rfl rfl,(Ahx S 2 rfl (by simp)).mono ?_⟩⟩;rintro _ jD ⟨_,rfl,rfl,ys,sV,lH,S⟩;obtain⟨y,rfl⟩:=List.length_eq_one_iff.1 sV;have sR:y=s:=by
  have:bl y=bl s:=by simpa using lH
  rw [<- DH y,<- DH s,this]
 subst sR;refine⟨rfl,_,_,_,S.cell 3 rfl rfl,?_⟩;refine S.HC (v:=.slice sa 1 sc) ?_ ⟨_,_,_,rfl,S.get 1 rfl,sa,sc,rfl,((S.put 1 rfl (.deferred none)).pull 2 rfl).one⟩;apply R.Ew
 delta R.Ad R.D R.F R.I R.Lt R.Qi R.U0 R.Rn R.S R.Ah R.T R.W R.X R.Y;try dsimp only [R.Ps]
 exact Bb rfl ⟨rfl,rfl⟩
theorem AjP{a1:Option Addr}{c1:Nat}{cs:List A0}(E:Env w)(hl:Rd w a1 (A9 cs))(hR:Ao cs=true)(hn:cs.length<=9223372036854775807)(hq:∀ c∈cs,c.1.size<=9223372036854775807){i:Nat}(hi:i<cs.length)(hf:JN cs cs[i].1=some i) :
  Calls Tryz.prog f.Aey #[.slice a1 cs.length c1,.agg ⟨NM cs[i].1⟩] w (AB λ r w'=>r=.tuple #[.int .i64 cs[i].2.1,.int .i64 0]/\Below w.heap.size w w'):=by
 apply R.RJ
 delta R.A R.Ab R.J9 R.Cb R.E R.F R.H R.I R.Li R.Ls R.Lt R.N R.S R.T;try dsimp only [R.Ps]
 refine (ST.start w).Aj λ b1 w1 _ _ S1=>S1.call (DA (hl.grown S1.An) hn hq) λ w2 _ S2=>⟨_,rfl,Ap (by rw [hR];rfl) (stX S2 0 rfl (S2.call (Sr (E.grown S2.An) _) λ w3 _ S3=>⟨_,rfl,Ap rfl (stX S3 0 rfl (S3.call (v:=.tuple #[.int .i64 cs[i].2.1,.int .i64 0]) ?_ λ w4 _ S4=>⟨_,_,rfl,rfl,S4.An⟩))⟩))⟩;have gm:=hl.grown S3.An;have E3:=E.grown S3.An;apply R.RN
 delta R.A R.Ab R.J9 R.Cb R.Ci R.D R.E R.F R.G R.H R.I R.Li R.Ls R.Lt R.N R.O R.Qi R.S R.Ah R.T R.W R.X R.Zb;try dsimp only [R.Ps]
 have sh:∀ {w'},Below w3.heap.size w3 w'->∀ j,j<3->w'.cell? ⟨4,3+j,none⟩=some (.int .i64 0):=λ B j hj=>by
  obtain⟨p,hp,hc⟩:=(E3.grown B).shp (3+j) (.int .i64 0) (by rcases (by omega:j=0\/j=1\/j=2) with rfl | rfl | rfl <;> rfl);cases hp;rwa [Am,Nat.zero_add] at hc
 refine (ST.start w3).Aj λ b5 w5 _ B5 S5=>⟨_,S5.cell 0 rfl rfl,⟨(by decide:(0:Int)<=1),(by decide:(1:Int)<17)⟩,_,sh S5.An 0 (by omega),_,sh S5.An 1 (by omega),_,sh S5.An 2 (by omega),S5.Aj λ b6 w6 _ _ S6=>S6.Ale 0 rfl λ w7 S7=>S7.Aj λ b8 w8 _ _ S8=>⟨_,_,_,S8.cell 2 rfl rfl,λ st w9=>st=[.int .i64 0]/\w9=w8,λ _ _=>0,⟨rfl,rfl⟩,?_⟩⟩;rintro t w9 ⟨aA,rfl⟩;cases aA;refine Ap rfl ⟨_,_,_,S8.cell 2 rfl rfl,λ st w'=>st=[.int .i64 0]/\w'=w9,λ _ _=>0,⟨rfl,rfl⟩,?_⟩;rintro t cX ⟨aA,rfl⟩;cases aA;refine Ap rfl ⟨_,S8.cell 2 rfl rfl,Bb rfl ⟨_,S8.cell 2 rfl rfl,S8.call (G8 (gm.grown S8.An) hn _) λ cX _ cP=>⟨_,rfl,?_⟩⟩⟩;rw [show (lf cs[i].1).nm=cs[i].1 from rfl,hf];refine Aa (λ h=>by simp [Vb] at h;omega) (λ _=>⟨⟨by simp [Vb],by simp [Vb];omega⟩,?_⟩);obtain⟨p,rfl,c0,cc1,c2⟩:=I3 (gm.grown cP.An) hi;exact⟨_,by simpa [Vb] using cc1,rfl,cP.An⟩
end
end Go.Proofs.YtoepjfblppfabaaGreatDoor
namespace Go.Proofs.YtoepjfblppfabaaGreatDoor
set_option maxRecDepth 100000
open Go.Dn Go.Proofs
open Go.RowKit (Below)
set_option linter.unusedVariables false
/-! ### orders -/
/-! ### the laws -/
end Go.Proofs.YtoepjfblppfabaaGreatDoor
namespace Go.Proofs.YtoepjfblppfabaaGreatDoor
open _root_.BitVec renaming ofInt -> Am6, ofInt_natCast -> AnK, toNat_ofNat -> AnL
open _root_.Nat renaming mod_eq_of_lt -> AnH
set_option maxRecDepth 100000
open Go.Dn Go.Proofs
open Go.RowKit (Below)
set_option linter.unusedVariables false
section
variable {w:World}{a:Option Addr}{c:Nat}
end
def EK(n:Nat):Int:=if n % 2=1 then -((n / 2:Nat):Int)-1 else ((n / 2:Nat):Int)
theorem Aif(n:Nat)(h:n<18446744073709551616):(Am6 64 (n:Int) &&& Am6 64 1).toNat=n % 2:=by
 rw [BitVec.toNat_and,AnK,AnL,AnH (by omega)];exact Nat.and_two_pow_sub_one_eq_mod n 1
theorem UM{n:Nat}(h:n<18446744073709551616) :
  IntKind.i64.wrap (((Am6 64 (IntKind.i64.wrap (Int.fdiv (n:Int) (2 ^ (min 1 64)))) ^^^ Am6 64 (IntKind.i64.wrap (0-IntKind.i64.wrap (IntKind.u64.wrap (((Am6 64 (n:Int) &&& Am6 64 1).toNat:Int)))))).toNat:Int))=EK n:=by
 have e1:IntKind.i64.wrap (Int.fdiv (n:Int) (2 ^ (min 1 64)))=((n / 2:Nat):Int):=by
  rw [Int.fdiv_eq_ediv_of_nonneg _ (by decide),show (2:Int) ^ (min 1 64)=2 from rfl,wrap_i64 (by omega) (by omega)];omega
 rw [e1,Aif n h,Ar (by omega) (by omega),wrap_i64 (n:=((n % 2:Nat):Int)) (by omega) (by omega)];unfold EK;by_cases ho:n % 2=1
 ·rw [ho,if_pos rfl,show IntKind.i64.wrap (0-((1:Nat):Int)) = -1 by decide,show Am6 64 (-1)=BitVec.allOnes 64 by decide,BitVec.xor_allOnes,BitVec.toNat_not,AnK,AnL,AnH (by omega),Co];split <;> omega
 ·have:n % 2=0:=by omega
  rw [this,if_neg (by omega),show IntKind.i64.wrap (0-((0:Nat):Int))=0 by decide,show Am6 64 0=0#64 by decide,BitVec.xor_zero,AnK,AnL,AnH (by omega),wrap_i64 (by omega) (by omega)]
theorem Rl{n:Nat}(h:n<18446744073709551616) : -9223372036854775808<=EK n/\EK n<=9223372036854775807:=by unfold EK;split <;> omega
def Aml(o:Option (Nat × Nat)):Value :=
 match o with
 | some x=>.tuple #[.int .i64 (EK x.1),.int .i64 (x.2:Int),.int .i64 0]
 | none=>.tuple #[.int .i64 0,.int .i64 0,.int .i64 20]
section
variable {w:World}{a:Option Addr}{c:Nat}{l:List UInt8}
theorem EB(hl:Rd w a (l.map Af))(hc:l.length<=c)(hs:l.length<=9223372036854775807)(at_:Int):Calls Tryz.prog f.Sm #[.slice a l.length c,.int .i64 at_] w (AB λ v w'=>v=Aml (takeN l at_)/\w'=w):=by
 apply R.J8
 delta R.EN R.H R.I R.S R.W R.Wu;try dsimp only [R.Ps]
 refine (AF hl hc hs at_).mono ?_;rintro _ w ⟨_,rfl,rfl,rfl⟩;cases ho:takeN l at_ with
 | none=>exact⟨_,_,_,rfl,rfl,rfl⟩
 | some x =>
  obtain⟨n,k⟩:=x;refine⟨_,_,_,rfl,?_,rfl⟩;rw [UM (AZ ho).1];rfl
/-! ### Take -/
end
section
variable {w:World}{a:Option Addr}{c:Nat}{l:List UInt8}
/-! ### Take -/
def DC(l:List UInt8)(at_:Int):Option (Ax × Nat) :=
 if at_<0\/(l.length:Int)<=at_ then none else
 let k:=(l.getD at_.toNat 0).toNat
 if k=0 then some ((0,0,E0),at_.toNat+1)
 else if k=1 then (takeN l (at_+1)).map λ x=>((1,EK x.1,E0),x.2)
 else if k=2 then (if at_+1<l.length/\(l.getD (at_.toNat+1) 0).toNat<=1 then some ((2,((l.getD (at_.toNat+1) 0).toNat:Int),E0),at_.toNat+2) else none)
 else if k=3 then (DX l (at_+1) 1024).map λ x=>((3,0,CA x.1),x.2)
 else none
def AcJ(o:Option (Ax × Nat)):Value :=
 match o with
 | some x=>.tuple #[.agg #[.int .i64 x.1.1,.int .i64 x.1.2.1,.string x.1.2.2],.int .i64 (x.2:Int),.int .i64 0]
 | none=>.tuple #[.agg #[.int .i64 0,.int .i64 0,.string E0],.int .i64 0,.int .i64 20]
theorem PD{l:List UInt8}{at_:Nat}:(∃ n k,takeN l (at_:Int)=some (n,k)/\(n=0\/n=1))↔(at_<l.length/\(l.getD at_ 0).toNat<=1):=by
 have ht:takeN l (at_:Int)=(Dy 0 0 (l.drop at_)).map λ x=>(x.1,at_+x.2):=by unfold takeN;rw [if_neg (by omega)];rfl
 by_cases h:at_<l.length
 ·have hd:l.drop at_=l[at_] :: l.drop (at_+1):=List.drop_eq_getElem_cons h;have hg:l.getD at_ 0=l[at_]:=by simp [List.getD,h]
  rw [hg];generalize l[at_]=c at hd;have e:Dy 0 0 (c :: l.drop (at_+1))=if c.toNat<128 then some (c.toNat,1) else Dy 1 (c.toNat % 128) (l.drop (at_+1)):=by
   conv=>lhs;unfold Dy
   rw [if_neg (by omega)];by_cases hc:c.toNat<128
   ·rw [if_pos hc,if_pos hc,if_neg (by omega)];simp
   ·rw [if_neg hc,if_neg hc];simp
  rw [ht,hd,e];by_cases hc:c.toNat<128
  ·rw [if_pos hc];simp only [Option.map_some,Option.some.injEq,Prod.mk.injEq];constructor
   ·rintro⟨n,k,⟨rfl,_⟩,hn⟩;exact⟨h,by omega⟩
   ·rintro⟨_,hn⟩;exact⟨_,_,⟨rfl,rfl⟩,by omega⟩
  ·rw [if_neg hc];constructor
   ·rintro⟨n,k,hs,hn⟩;obtain⟨⟨x1,x2⟩,hx,he⟩:=Option.map_eq_some_iff.1 hs;simp only [Prod.mk.injEq] at he;obtain⟨_,_,_,_,hb⟩:=Ju _ 1 _ _ _ (by omega) hx;have:=hb (by omega);omega
   ·rintro⟨_,hn⟩;omega
 ·have hd:l.drop at_=[]:=List.drop_eq_nil_of_le (by omega);rw [ht,hd];constructor
  ·rintro⟨n,k,hs,_⟩;simp [Dy] at hs
  ·rintro⟨hh,_⟩;omega
theorem Ad5{l:List UInt8}{at_ n k:Nat}(h:takeN l (at_:Int)=some (n,k))(hn:n=0\/n=1):n=(l.getD at_ 0).toNat/\k=at_+1:=by
 have hb:=PD.1 ⟨n,k,h,hn⟩;have ht:takeN l (at_:Int)=(Dy 0 0 (l.drop at_)).map λ x=>(x.1,at_+x.2):=by unfold takeN;rw [if_neg (by omega)];rfl
 have hd:l.drop at_=l[at_] :: l.drop (at_+1):=List.drop_eq_getElem_cons hb.1;have hg:l.getD at_ 0=l[at_]:=by simp [List.getD,hb.1]
 rw [hg] at hb ⊢;rw [ht,hd] at h;unfold Dy at h;rw [if_neg (by omega),if_pos (by omega),if_neg (by omega)] at h;simp at h;omega
end
end Go.Proofs.YtoepjfblppfabaaGreatDoor
namespace Go.Dn
theorem SH.Ahh{F:Nat->Prop}{w0 w:World}{H:List Yy}(S:SH F w0 w H)(n:Nat){b:Nat}{x0 x1 x2:Value}{t:TypeId}(hn:H[n]?=some (b,#[x0,x1,x2],t)){v0 v1:Int}{v2:ByteArray}{Q:Int->Int->ByteArray->World->Prop}
  (hk:∀ w',SH F w0 w' (H.set n (b,#[.int .i64 v0,.int .i64 v1,.string v2],t))->Q v0 v1 v2 w') :
  Cd ⟨b,0,none⟩ (.int .i64 v0) (λ w=>Cd ⟨b,1,none⟩ (.int .i64 v1) (λ w=>Cd ⟨b,2,none⟩ (.string v2) (λ w=>∃ r0:Int,w.cell? ⟨b,0,none⟩=some (.int .i64 r0)/\∃ r1:Int,w.cell? ⟨b,1,none⟩=some (.int .i64 r1)/\∃ r2:ByteArray,w.cell? ⟨b,2,none⟩=some (.string r2)/\Q r0 r1 r2 w) w) w) w:=by
 have aB:=(List.getElem?_eq_some_iff.1 hn).1;exact S.Aj0 n hn λ w' _ S'=>S'.v3 n (List.getElem?_set_self aB) (hk w' S')
end Go.Dn
namespace Go.Proofs.YtoepjfblppfabaaGreatDoor
open Go.Dn Go.Proofs
open Go.RowKit (Below)
set_option linter.unusedVariables false
set_option maxRecDepth 20000
section
variable {w:World}{a:Option Addr}{c:Nat}{l:List UInt8}
theorem Ad8{i:Nat}(hi:i<l.length):l.getD i 0=l[i]:=by simp [List.getD,hi]
end
end Go.Proofs.YtoepjfblppfabaaGreatDoor
namespace Go.Proofs.YtoepjfblppfabaaGreatDoor
open _root_.Array renaming getElem?_eq_some_iff -> AnV
open _root_.Bool renaming and_eq_true -> Ana
open _root_.ByteArray renaming size_append -> AoH
open _root_.Int renaming fdiv -> AoK, natCast_nonneg -> AoI, toNat_natCast -> AnF
open _root_.List renaming all_eq_true -> An9, drop_left -> AoL, getElem_mem -> Aot, length_append -> Anp, length_cons -> AnQ, length_map -> AnS, length_nil -> AoJ, length_take -> Anw, map_append -> Aov, mem_cons_of_mem -> AnU, mem_cons_self -> AnT, mem_map -> Ang, mem_singleton -> Aox, take_of_length_le -> Aoy, take_succ_eq_append_getElem -> Aou
open _root_.Nat renaming le_trans -> AnJ, mod_lt -> AnX, mul_comm -> AnN, mul_le_mul_right -> Anv, mul_one -> AnI
open _root_.Option renaming bind_some -> AoG, map_eq_some_iff -> Aok
open _root_.Option.some renaming injEq -> An8
open _root_.UInt8 renaming ofNat -> AnG
set_option maxRecDepth 100000
open Go.Dn Go.Proofs
open Go.RowKit (Below)
set_option linter.unusedVariables false
section
variable {w:World}{a:Option Addr}{c:Nat}{l:List UInt8}
theorem MS(hl:Rd w a (l.map Af))(hc:l.length<=c)(hs:l.length<=140737488355328)(at_:Int) :
  Calls Tryz.prog f.AcO #[.slice a l.length c,.int .i64 at_] w (AB λ v w'=>v=AcJ (DC l at_)/\Below w.heap.size w w'):=by
 apply R.QD
 delta R.A R.Ab R.Ad R.VA R.VB R.EN R.Cb R.E R.F R.H R.I R.Li R.Lt R.Ly R.N R.S R.Ah R.T R.W R.X R.Zii;try dsimp only [R.Ps]
 refine (SH.start (λ _=>False) w).Aj λ b3 w1 cf B1 S1=>?_;refine Aa (λ h=>S1.Ahh 0 rfl λ w4 S4=>⟨by simp [DC,h,AcJ],S4.below⟩) (λ h0=>Aa (λ h=>S1.Ahh 0 rfl λ w4 S4=>⟨?_,S4.below⟩) (λ h1=>?_))
 ·unfold DC;rw [if_pos (.inr h)];rfl
 obtain⟨at_,rfl⟩:∃ k:Nat,at_=k:=⟨at_.toNat,by omega⟩;have eF:at_<l.length:=by omega
 refine⟨⟨by omega,by omega⟩,?_⟩;obtain⟨p,hp,aJ⟩:=byte_at (hl.grown B1) eF;subst hp;have hg:=Ad8 eF;have fP:=l[at_].toNat_lt;refine⟨_,by rw [AnF];exact aJ,S1.KQ λ eQ aW mG dO cF=>?_⟩;have kG:Rd aW (some p) (l.map Af):=hl.grown cF.below;rw [wrap_i64 (n:=(l[at_].toNat:Int)) (by omega) (by omega)] at cF;rw [wrap_i64 (n:=(at_:Int)+1) (by omega) (by omega)];have ht:DC l (at_:Int)=(if l[at_].toNat=0 then some ((0,0,E0),at_+1)
   else if l[at_].toNat=1 then (takeN l ((at_:Int)+1)).map λ x=>((1,EK x.1,E0),x.2)
   else if l[at_].toNat=2 then (if (at_:Int)+1<l.length/\(l.getD (at_+1) 0).toNat<=1 then some ((2,((l.getD (at_+1) 0).toNat:Int),E0),at_+2) else none)
   else if l[at_].toNat=3 then (DX l ((at_:Int)+1) 1024).map λ x=>((3,0,CA x.1),x.2)
   else none):=by
  unfold DC;rw [if_neg (by omega),AnF,hg]
 generalize gO:l[at_].toNat=kk at ht cF fP;refine⟨λ s gG=>∃(nx e:Int) (v:Ax),s=[.int .i64 nx,.int .i64 e]/\SH (λ _=>False) w gG [(eQ,#[.int .i64 v.1,.int .i64 v.2.1,.string v.2.2],ty.AD),(b3,#[.int .i64 0,.int .i64 0,.string E0],ty.AD)] /\
   (e≠0->DC l (at_:Int)=none)/\(e=0->AL v=false->DC l (at_:Int)=none)/\(e=0->AL v=true->∃ k:Nat,nx=k/\DC l (at_:Int)=some (v,k)),?_,?_⟩
 ·refine⟨_,cF.cell 0 rfl rfl,Az (λ h=>?_) (λ n0=>Az (λ h=>?_) (λ n1=>Az (λ h=>?_) (λ n2=>Az (λ h=>?_) (λ n3=>?_))))⟩
  ·have:kk=0:=by omega
   subst this;exact⟨_,_,(0,0,E0),rfl,cF,λ h=>absurd rfl h,λ _ h=>absurd h (by decide),λ _ _=>⟨at_+1,by omega,by rw [ht];simp⟩⟩
  ·have:kk=1:=by omega
   subst this;refine (EB kG hc (by omega) ((at_:Int)+1)).mono ?_;rintro _ aW ⟨_,rfl,rfl,rfl⟩;cases ho:takeN l ((at_:Int)+1) with
   | none =>
    exact⟨_,_,_,rfl,cF.Cr 0 rfl (show 1<3 by decide) λ bN dG=>⟨_,_,(1,0,E0),rfl,dG,λ _=>by rw [ht,ho];simp,λ h=>absurd h (by decide),λ h=>absurd h (by decide)⟩⟩
   | some x =>
    obtain⟨n,k⟩:=x;exact⟨_,_,_,rfl,cF.Cr 0 rfl (show 1<3 by decide) λ bN dG=>⟨_,_,(1,EK n,E0),rfl,dG,λ h=>absurd rfl h,λ _ h=>absurd h (by simp [AL]),λ _ _=>⟨k,rfl,by rw [ht,ho];simp⟩⟩⟩
  ·have:kk=2:=by omega
   subst this;refine (AF kG hc (by omega) ((at_:Int)+1)).mono ?_;rintro _ aW ⟨_,rfl,rfl,rfl⟩;have fO:((at_:Int)+1)=((at_+1:Nat):Int):=by omega
   have ko:=PD (l:=l) (at_:=at_+1);cases ho:takeN l ((at_:Int)+1) with
   | none =>
    refine⟨_,_,_,rfl,cF.Cr 0 rfl (show 1<3 by decide) λ bN dG=>⟨_,_,(2,IntKind.i64.wrap 0,E0),rfl,dG,λ _=>?_,λ h=>absurd h (by decide),λ h=>absurd h (by decide)⟩⟩;rw [ht];simp only [if_neg (show ¬ (2:Nat)=0 by decide),if_neg (show ¬ (2:Nat)=1 by decide),if_true];rw [if_neg];rintro⟨q1,q2⟩;obtain⟨n,k,q3,_⟩:=ko.2 ⟨by omega,q2⟩;rw [<- fO,ho] at q3;cases q3
   | some x =>
    obtain⟨n,k⟩:=x;have hn:=(AZ ho).1;refine⟨_,_,_,rfl,cF.Cr 0 rfl (show 1<3 by decide) λ bN dG=>⟨_,_,(2,IntKind.i64.wrap (n:Int),E0),rfl,dG,λ h=>absurd rfl h,λ _ hf=>?_,λ _ hr=>?_⟩⟩
    ·rw [ht];simp only [if_neg (show ¬ (2:Nat)=0 by decide),if_neg (show ¬ (2:Nat)=1 by decide),if_true];rw [if_neg];rintro⟨q1,q2⟩;obtain⟨n',k',q3,q4⟩:=ko.2 ⟨by omega,q2⟩;rw [<- fO,ho] at q3;cases q3;rcases q4 with rfl | rfl
     ·exact absurd hf (by decide)
     ·exact absurd hf (by decide)
    ·have tZ:n=0\/n=1:=by
      have:=G7 hr;simp only at this;rw [Co] at this;split at this <;> omega
     obtain⟨q1,q2⟩:=PD.1 ⟨n,k,fO ▸ ho,tZ⟩;obtain⟨q3,q4⟩:=Ad5 (fO ▸ ho) tZ;refine⟨k,rfl,?_⟩;rw [ht];simp only [if_neg (show ¬ (2:Nat)=0 by decide),if_neg (show ¬ (2:Nat)=1 by decide),if_true];rw [if_pos ⟨by omega,q2⟩,<- q3,wrap_i64 (by omega) (by omega),q4]
  ·have:kk=3:=by omega
   subst this;refine (Fg kG hc (by omega) ((at_:Int)+1) 1024).mono ?_;rintro _ aW ⟨_,rfl,rfl,rfl⟩;cases ho:DX l ((at_:Int)+1) 1024 with
   | none =>
    exact⟨_,_,_,rfl,cF.Cr 0 rfl (show 2<3 by decide) λ bN dG=>⟨_,_,(3,0,E0),rfl,dG,λ _=>by rw [ht,ho];simp,λ h=>absurd h (by decide),λ h=>absurd h (by decide)⟩⟩
   | some x =>
    obtain⟨s,k⟩:=x;have av:s.length<=1024:=by
     unfold DX at ho;split at ho
     ·split at ho
      ·cases ho
      ·simp only [An8,Prod.mk.injEq] at ho;rw [<- ho.1,Anw];omega
     ·cases ho
    exact⟨_,_,_,rfl,cF.Cr 0 rfl (show 2<3 by decide) λ bN dG=>⟨_,_,(3,0,CA s),rfl,dG,λ h=>absurd rfl h,λ _ h=>absurd h (by simp [AL,E7,av]),λ _ _=>⟨k,rfl,by rw [ht,ho];simp⟩⟩⟩
  ·have bC:DC l (at_:Int)=none:=by rw [ht,if_neg (by omega),if_neg (by omega),if_neg (by omega),if_neg (by omega)]
   refine⟨_,_,((kk:Int),0,E0),rfl,cF,λ _=>bC,λ _ _=>bC,λ _ h=>?_⟩;exfalso;have:=G7 h;simp only at this;omega
 ·rintro _ _ gG ⟨nx,e,v,de,jH,g1,g2,g3⟩;cases de;refine Au (λ h=>jH.Ahh 1 rfl λ w4 S4=>⟨by rw [g1 h];rfl,S4.below⟩) (λ h=>jH.v3 0 rfl ((Cz gG v).mono ?_));rintro _ kZ ⟨_,rfl,rfl,lK⟩;have gI:=jH.grown lK;refine⟨_,rfl,A5 (AU (λ hr=>gI.v3 0 rfl (gI.Ahh 1 rfl λ w4 S4=>⟨?_,S4.below⟩)) (λ hr=>gI.Ahh 1 rfl λ w4 S4=>⟨by rw [g2 h hr];rfl,S4.below⟩))⟩;obtain⟨k,rfl,hk⟩:=g3 h hr;rw [hk];rfl
end
def Om(c:A0)(v:Ax):Bool:=AL v && (decide (v.1=c.2.1) || (c.2.2 && decide (v.1=0)))
def ZC(cs:List A0)(row:List Ax):Bool:=(cs.zip row).all λ p=>Om p.1 p.2
def Ek(cs:List A0)(row:List Ax):Bool:=decide (row.length=cs.length) && ZC cs row
theorem Agt{cs:List A0}{row:List Ax}{i:Nat}(h1:i<cs.length)(h2:i<row.length)(h:Om cs[i] row[i]=false):ZC cs row=false:=by
 unfold ZC;rw [List.all_eq_false];exact⟨(cs[i],row[i]),List.mem_iff_getElem.2 ⟨i,by simp;omega,by simp⟩,by simp [h]⟩
theorem Ags{cs:List A0}{row:List Ax}(h:∀ i (h1:i<cs.length) (h2:i<row.length),Om cs[i] row[i]=true):ZC cs row=true:=by
 unfold ZC;rw [An9];intro p hp;obtain⟨i,hi,rfl⟩:=List.mem_iff_getElem.1 hp;simp only [List.length_zip] at hi;simp only [List.getElem_zip];exact h i (by omega) (by omega)
section
variable {w:World}{a a2:Option Addr}{c c2:Nat}{cs:List A0}{row:List Ax}
def AmG(c:A0):Value:=.agg #[.string c.1,.int .i64 c.2.1,.bool c.2.2]
theorem Aak{L b1 b2:Nat}(hn:cs.length<=9223372036854775807)(hr:row.length=cs.length)(J:Nat->World->Prop)(D:World->Prop)(aU:∀ k w,J k w->Rd w a (A9 cs)/\Rd w a2 (AW row)/\w.cell? ⟨b2,0,none⟩=some (.slice a2 row.length c2))
  (bu:∀ k w w',J k w->Below w.heap.size w w'->J k w') (bD:∀ k w (h1:k<cs.length) (h2:k<row.length),J k w->GJ Tryz.prog L #[AmG cs[k],Aft row[k]] (λ y w'=>(y=true/\J (k+1) w')\/(y=false/\D w')) w)
  (h0:J 0 w) (hb:w.cell? ⟨b1,0,none⟩=some (.slice a cs.length c)) :
  Calls Tryz.prog f.JQ #[.func (.yield L) #[] #[],.pointer (some ⟨b1,0,none⟩),.pointer (some ⟨b2,0,none⟩)] w (AB λ _ w'=>J cs.length w'\/D w'):=by
 apply R.J1
 delta R.A R.Ab R.D R.E R.F R.G R.H R.I R.Lb R.Li R.Ls R.Lt R.N R.Qi R.Ah R.T R.W R.X;try dsimp only [R.Ps]
 refine⟨_,_,_,hb,λ s w1=>∃ k:Nat,k<=cs.length/\s=[.int .i64 (k:Int)]/\J k w1,λ s _=>match s with
   | [.int _ i]=>cs.length-i.toNat
   | _=>0,⟨0,by omega,rfl,h0⟩,?_⟩
 rintro _ w1 ⟨k,hk,aA,hj⟩;cases aA;refine Aa (λ aB=>⟨⟨by omega,aB⟩,?_⟩) (λ aL=>?_)
 ·have aq:k<cs.length:=by omega
  have ky:k<row.length:=by omega
  obtain⟨p,rfl,c0,c1,c2⟩:=I3 (aU _ _ hj).1 aq;refine⟨_,by rw [AnF];exact c0,_,by rw [AnF];exact c1,_,by rw [AnF];exact c2,(ST.start w1).KQ λ b9 w5 tq S5=>S5.draw λ w6 B6 S6=>?_⟩;have oR:=bu _ _ _ hj S6.An;obtain⟨_,r2,r3⟩:=aU _ _ oR;obtain⟨q,rfl,d0,d1,d2⟩:=FG r2 ky;refine⟨_,S6.cell 0 rfl rfl,_,S6.cell 0 rfl rfl,_,S6.cell 0 rfl rfl,_,_,_,r3,⟨by omega,by omega⟩,_,by rw [AnF];exact d0,_,by rw [AnF];exact d1,_,by rw [AnF];exact d2,?_⟩;rw [Ai (by omega)];have gQ:cs.length-((k+1:Nat):Int).toNat<cs.length-((k:Nat):Int).toNat:=by
   simp only [AnF];omega
  refine (bD k w6 aq ky oR).mono ?_;rintro y w7 (⟨rfl,h⟩ | ⟨rfl,h⟩)
  ·exact Aw ⟨⟨k+1,by omega,rfl,h⟩,gQ⟩
  ·exact Bo (.inr h)
 ·have:k=cs.length:=by omega
  subst this;exact .inl hj
theorem Sa:Calls Tryz.prog f.XZ #[.slice a cs.length c,.slice a2 row.length c2] w (AB λ v w'=>∃ b1 b2,v=.func (.func f.JQ) #[] #[.pointer (some ⟨b1,0,none⟩),.pointer (some ⟨b2,0,none⟩)] /\
  ST w w' [It.cells b2 #[.slice a2 row.length c2] ty.AM,It.cells b1 #[.slice a cs.length c] ty.Ck]):=by
 apply R.Nv
 delta R.J R.N R.P R.S;try dsimp only [R.Ps]
 exact (ST.start w).Aj λ b1 w1 _ _ S1=>S1.Aj λ b2 w2 _ _ S2=>⟨b1,b2,rfl,S2⟩
theorem Uw(hl:Rd w a (A9 cs))(hn:cs.length<=9223372036854775807)(hr:Rd w a2 (AW row)) :
  Calls Tryz.prog f.AaF #[.slice a cs.length c,.slice a2 row.length c2] w (AB λ r w'=>r=.bool (Ek cs row)/\Below w.heap.size w w'):=by
 apply R.O5
 delta R.A R.Ab R.Cb R.Cf R.E R.F R.G R.I R.Lb R.Li R.Lt R.N R.S R.Ah R.T;try dsimp only [R.Ps]
 refine (ST.start w).Aj λ b3 w1 _ _ S1=>Au (λ h=>S1.Cr 0 rfl (aC:=#[.bool false]) (by simp) rfl λ w2 S2=>⟨_,S2.cell 0 rfl rfl,?_,S2.An⟩) (λ hlen=>?_)
 ·have:¬ row.length=cs.length:=by omega
  simp [Ek,this]
 have cO:row.length=cs.length:=by omega
 have oN:Ek cs row=ZC cs row:=by simp [Ek,cO]
 refine Sa.mono ?_;rintro _ w3 ⟨_,rfl,b1,b2,rfl,P3⟩;have S3:=S1.join P3;refine⟨_,_,_,rfl,by kernel_rfl,λ rr aA bJ hy=>?_⟩;have S4:=S3.range rr;obtain⟨L,hL⟩:∃ L,L=w3.heap.size+1:=⟨_,rfl⟩;obtain⟨d,hd⟩:∃ d,d=w3.heap.size:=⟨_,rfl⟩;rw [<- hL] at S4 hy ⊢;rw [<- hd] at S4 ⊢;let St:Obj->World->Prop:=λ o wx=>ST w wx [It.obj L o,It.obj d (.deferred (some [])),It.cells b2 #[.slice a2 row.length c2] ty.AM,It.cells b1 #[.slice a cs.length c] ty.Ck,It.cells b3 #[.bool false] ty.bool];let J:Nat->World->Prop:=λ q wx=>(∀ i (h1:i<cs.length) (h2:i<row.length),i<q->Om cs[i] row[i]=true)/\St (.loop rr) wx;let D:World->Prop:=λ wx=>ZC cs row=false/\St (.loop { rr with state:=.done,pending:=some .ret }) wx;have aj:=Aak (w:=(w3.alloc (.deferred (some []))).alloc (.loop rr)) (c:=c) (L:=L) (b1:=b1) hn cO J D (λ q wx hj=>⟨hl.grown hj.2.An,hr.grown hj.2.An,hj.2.cell 2 rfl rfl⟩) (λ q wx wy hj B=>⟨hj.1,hj.2.grown B⟩) (by
  rintro q wx h1 h2 ⟨aE,S⟩;refine hy _ _ _ _ _ _ _ wx (S.get 0 rfl) ?_;refine S.KQ λ je w8 _ S=>S.KQ λ jI dN _ S=>S.Abm 2 rfl λ bN S=>⟨_,S.cell 0 rfl rfl,_,S.cell 0 rfl rfl,_,S.cell 0 rfl rfl,(Cz bN row[q]).mono ?_⟩;rintro _ bF ⟨_,rfl,rfl,ov⟩;have S:=S.grown ov;have F9:Om cs[q] row[q]=true->Bv rr L (λ y w'=>(y=true/\J (q+1) w')\/(y=false/\D w')) none bF:=λ hf=>S.QV 2 aA bJ rfl λ w' S=>.inl ⟨rfl,⟨λ i g1 g2 hi=>by
   rcases Nat.lt_or_ge i q with h | h
   ·exact aE i g1 g2 h
   ·obtain rfl:i=q:=by omega
    exact hf,S.drop 2⟩⟩
  have bad:Om cs[q] row[q]=false->Cd ⟨b3,0,none⟩ (.bool false) (λ ay=>Bv rr L (λ y w'=>(y=true/\J (q+1) w')\/(y=false/\D w')) (some .ret) ay) bF:=λ hf=>S.Cr 6 rfl (aC:=#[.bool false]) (by simp) rfl λ ay S=>S.AlY 2 rfl λ w' S=>.inr ⟨rfl,⟨Agt h1 h2 hf,S.drop 2⟩⟩;refine⟨_,rfl,A5 (AU (λ hR=>⟨_,S.cell 0 rfl rfl,_,S.cell 1 rfl rfl,?_⟩) (λ hR=>bad (by simp [Om,hR])))⟩;refine Au (λ hk=>⟨_,S.cell 1 rfl rfl,AU (λ rT=>⟨_,S.cell 0 rfl rfl,A5 (Az (λ hz=>F9 ?_) (λ hz=>bad ?_))⟩) (λ rT=>bad ?_)⟩) (λ hk=>F9 ?_)
  ·simp [Om,hR,rT,hz]
  ·simp [Om,hR,hk,hz]
  ·simp [Om,hk,rT]
  ·simp [Om,hR,hk]) ⟨λ i _ _ h=>by omega,S4⟩ (S4.cell 3 rfl rfl)
 refine aj.mono ?_;rintro _ gG ⟨_,rfl,h⟩;refine⟨⟨_,rfl⟩,?_⟩;rcases h with ⟨aE,S⟩ | ⟨hf,S⟩
 ·refine S.QU 0 aA bJ rfl λ jD S=>.inl ⟨rfl,S.Cr 4 rfl (aC:=#[.bool true]) (by simp) rfl λ iP S=>⟨S.get 1 rfl,?_⟩⟩;have S:=S.put 1 rfl (.deferred none);refine⟨_,S.cell 4 rfl rfl,?_,S.An⟩;rw [oN,Ags λ i h1 h2=>aE i h1 h2 h1]
 ·refine S.AlX 0 rfl λ jD S=>.inr ⟨rfl,S.get 1 rfl,?_⟩;have S:=S.put 1 rfl (.deferred none);refine⟨_,S.cell 4 rfl rfl,?_,S.An⟩;rw [oN,hf]
theorem Lw(hl:Rd w a (A9 cs))(hn:cs.length<=9223372036854775807)(hq:∀ c∈cs,c.1.size<=9223372036854775807)(hr:Rd w a2 (AW row)) :
  Calls Tryz.prog f.AaD #[.slice a cs.length c,.slice a2 row.length c2] w (AB λ r w'=>r=.bool (Ao cs && Ek cs row)/\Below w.heap.size w w'):=by
 apply R.O0
 delta R.Cb R.F R.G R.S;try dsimp only [R.Ps]
 refine (DA hl hn hq).mono ?_;rintro _ w1 ⟨_,rfl,rfl,B1⟩;refine⟨_,rfl,AU (λ h=>(Uw (hl.grown B1) hn (hr.grown B1)).mono ?_) (λ h=>⟨by simp [h],B1⟩)⟩;rintro _ w2 ⟨_,rfl,rfl,B2⟩;exact⟨_,rfl,by simp [h],Ac B1 B2⟩
end
def Fx(a:Option Addr)(c:Nat)(l:List UInt8):It:=It.row ty.uint8 1 a l.length c (l.map Af)
section
variable {w0 w:World}{H:List It}{a:Option Addr}{c:Nat}{l:List UInt8}
theorem Hg(S:ST w0 w H){w':World}(h:Dh w w' l a c):ST w0 w' (Fx a c l :: H):=S.add h.An _ h.row h.new
theorem AjX(S:ST w0 w H)(n:Nat)(hn:H[n]?=some (Fx a c l)):Dh w0 w l a c:=⟨S.get n hn,λ k hk=>S.own _ (List.mem_of_getElem? hn) k hk,S.An⟩
theorem MN(S:ST w0 w H)(n:Nat)(hn:H[n]?=some (Fx a c l)):Rd w a (l.map Af):=(AjX S n hn).rd
theorem Ahz(S:ST w0 w H)(n:Nat)(hn:H[n]?=some (Fx a c l)){m:List UInt8}{b:Option Addr}{mc:Nat}(hs:Rd w b (m.map Af))(hl:l.length+m.length<=140737488355328){f:Value->World->Prop}
  (hf:∀ a' c' w',ST w0 w' (H.set n (Fx a' c' (l++m)))->f (.slice a' (l++m).length c') w') :
  CD Tryz.prog (Builtin.append_ #[ty.AA,ty.AA] ty.AA #[.slice a l.length c,.slice b m.length mc]) f w :=
 ES (S.get n hn) hs hl λ a' c' w' hr hk iK=>hf a' c' w' (S.IM n hn hk _ hr iK)
end
def On(b:Bool):UInt8:=if b then 1 else 0
def M1(c:A0):List UInt8:=CQ c.1++[AnG c.2.1.toNat,On c.2.2]
def Fh(cs:List A0):List UInt8:=Ag cs.length++cs.flatMap M1
theorem Be{cs:List A0}(h:Ao cs=true):1<=cs.length/\cs.length<=16:=by
 simp [Ao] at h;exact h.1.1
theorem EH{cs:List A0}(h:Ao cs=true){c:A0}(hc:c∈cs):HH c.1=true/\1<=c.2.1/\c.2.1<=3/\c.1.size<=24:=by
 simp only [Ao,Ana,An9] at h;have:=h.1.2 c hc;simp only [Io,Ana,decide_eq_true_eq] at this;have hn:=this.1;simp only [HH,Ana,decide_eq_true_eq] at hn;exact⟨this.1,this.2.1,this.2.2,hn.2⟩
theorem Aga{c:A0}(h:c.1.size<=24):(M1 c).length<=36:=by
 have:=Aq (n:=c.1.size) (by omega);have:=CG c.1;simp only [M1,CQ,Anp,AnQ,AoJ];omega
theorem VS{cs:List A0}(h:∀ c∈cs,c.1.size<=24):(cs.flatMap M1).length<=cs.length*36:=by
 induction cs with
 | nil=>simp
 | cons c cs ih =>
  have h1:=Aga (h c (by simp));have h2:=ih λ x hx=>h x (by simp [hx]);rw [List.flatMap_cons,Anp,AnQ];omega
theorem Abw{cs:List A0}{i:Nat}(hi:i<cs.length):(cs.take (i+1)).flatMap M1=(cs.take i).flatMap M1++M1 cs[i]:=by
 rw [Aou hi,List.flatMap_append];simp
theorem AaB{cs:List A0}(h:Ao cs=true):(Fh cs).length<=600:=by
 have h1:=Be h;have:=Aq (n:=cs.length) (by omega);have:=VS λ c hc=>(EH h hc).2.2.2;simp only [Fh,Anp];omega
def AmA(l:List UInt8)(cs:List A0)(w w':World)(v:Value):Prop :=
 (Ao cs=false/\v=.tuple #[.slice none 0 0,.int .i64 50]/\Below w.heap.size w w')\/(Ao cs=true/\∃ a c,v=.tuple #[.slice a (l++Fh cs).length c,.int .i64 0]/\Dh w w' (l++Fh cs) a c)
section
variable {w:World}{a a2:Option Addr}{c c2:Nat}{cs:List A0}{l:List UInt8}
theorem Ux(b:Bool)(w:World):Calls Tryz.prog f.AaG #[.bool b] w (AB λ v w'=>v=.int .u8 ((On b).toNat:Int)/\w'=w):=by
 apply R.O6
 delta R.B R.F;try dsimp only [R.Ps]
 exact AU (λ h=>⟨by rw [h];rfl,rfl⟩) (λ h=>⟨by rw [h];rfl,rfl⟩)
theorem Ad7(c:UInt8):Value.int .u8 (c.toNat:Int)=Af c:=rfl
theorem two_bytes{w:World}{b:Nat}{x y:Value}{t:TypeId}{u v:UInt8}(h:w.heap[b]?=some (.cells #[x,y] t (0,0)))(hx:x=Af u)(hy:y=Af v):Rd w (some ⟨b,0,none⟩) ([u,v].map Af):=by
 subst hx hy;exact Rd.Ak h
theorem AeP{k:Int}(h1:1<=k)(h2:k<=3):Value.int .u8 (IntKind.u8.wrap k)=Af (AnG k.toNat):=by
 rw [Bh (by omega) (by omega),<- DO (x:=k.toNat) (by omega)];congr 1;omega
theorem Vo(hl:Rd w a (l.map Af))(hs:l.length+1000<=140737488355328)(bG:Rd w a2 (A9 cs))(hn:cs.length<=9223372036854775807)(hq:∀ c∈cs,c.1.size<=9223372036854775807) :
  Calls Tryz.prog f.Acz #[.slice a l.length c,.slice a2 cs.length c2] w (AB λ v w'=>AmA l cs w w' v):=by
 apply R.Qx
 delta R.A R.Ab R.B R.BL R.Cb R.Cs R.Cy R.D R.F R.G R.H R.I R.J R.Ks R.Lb R.Li R.Lt R.N R.O R.Hz R.S R.Ah R.T R.U R.W R.Wb R.Wu R.X;try dsimp only [R.Ps]
 refine (DA bG hn hq).mono ?_;rintro _ w1 ⟨_,rfl,rfl,B1⟩;refine⟨_,rfl,A5 (AU (λ hR=>?_) (λ hR=>.inl ⟨hR,rfl,B1⟩))⟩;have hlen:=Be hR;have d1:=Aq (n:=cs.length) (by omega);rw [Ar (by omega) (by omega)];refine (Bt l (hl.grown B1) cs.length (by omega) (by omega)).mono ?_;rintro _ w2 ⟨_,rfl,lR,oB,rfl,h2⟩;refine⟨_,_,_,rfl,λ s w3=>∃(i:Nat) (o:List UInt8) (oa:Option Addr) (oc:Nat),s=[.slice oa o.length oc,.int .i64 (i:Int)]/\i<=cs.length/\o=l++Ag cs.length++(cs.take i).flatMap M1/\ST w w3 [Fx oa oc o],λ s _=>match s with
   | [_,.int _ i]=>cs.length-i.toNat
   | _=>0,⟨0,_,lR,oB,rfl,by omega,by simp,Hg ((ST.start w).grown B1) h2⟩,?_⟩
 rintro oa _ oc _ w3 ⟨i,o,_,_,aA,hi,ho,S⟩;cases aA;have l9:o.length<=l.length+10+16*36:=by
  have:=VS (cs:=cs.take i) λ c hc=>(EH hR (List.mem_of_mem_take hc)).2.2.2;rw [Anw] at this;rw [ho];simp only [Anp];omega
 refine Aa (λ aB=>⟨⟨by omega,aB⟩,?_⟩) (λ aL=>.inr ⟨hR,?_⟩)
 ·have aF:i<cs.length:=by omega
  obtain⟨hN,dd,bH,av⟩:=EH hR (Aot aF);obtain⟨p,rfl,c0,c1,c2⟩:=I3 (bG.grown S.An) aF;have hT:=Aq (n:=cs[i].1.size) (by omega);have cI:=CG cs[i].1;refine⟨_,by rw [AnF];exact c0,_,by rw [AnF];exact c1,_,by rw [AnF];exact c2,S.KQ λ je w7 _ S=>⟨_,S.cell 0 rfl rfl,?_⟩⟩;have s9:Rd w7 oa (o.map Af):=MN S 1 rfl;refine (JH o s9 cs[i].1 (by omega) (by omega)).mono ?_;rintro _ w8 ⟨_,rfl,a8,c8,rfl,h8⟩;refine⟨_,_,_,_,rfl,(Hg S h8).draw λ w9 _ S=>⟨_,S.cell 1 rfl rfl,_,S.cell 1 rfl rfl,(Ux _ w9).mono ?_⟩⟩;rintro _ w9 ⟨_,rfl,rfl,rfl⟩;refine⟨_,rfl,S.cell 1 rfl rfl,S.Aj λ zM aW _ _ S=>?_⟩;refine Ahz (m:=[AnG cs[i].2.1.toNat,On cs[i].2.2]) S 1 rfl (two_bytes (S.CK 0 rfl) (AeP dd bH) (Ad7 _)) (by simp only [CQ,Anp,AnQ,AoJ];omega) λ a12 pS dN S=>⟨_,_,_,rfl,?_⟩;rw [Ai (by omega)];refine⟨⟨i+1,_,a12,pS,rfl,by omega,?_,S.sub (by simp)⟩,?_⟩
  ·rw [Abw aF,ho];simp [M1]
  ·show cs.length-((i+1:Nat):Int).toNat<cs.length-((i:Nat):Int).toNat;simp only [AnF];omega
 ·rw [Aoy (by omega)] at ho;have:o=l++Fh cs:=by rw [ho];simp [Fh]
  subst this;exact⟨oa,oc,rfl,AjX S 0 rfl⟩
end
def Ql(c:A0):Pq:=(c.1,0,lf c.1)
abbrev Ae1(c:A0):List Value:=Ab1 (Ql c) none 0
def JZ(cs:List A0):List Value:=cs.flatMap Ae1
abbrev Hm:Value:=.slice none 0 0
abbrev Yq(ai:Option Addr)(n ci:Nat):Array Value:=#[.slice ai n ci,Hm,Hm,Hm,.int .i64 (-1)]
abbrev Aab(cs:List A0):Prop:=∀ c∈cs,Jn c.1=true/\c.1.size<=24
theorem Qn{w:World}{a:Option Addr}{cs:List A0}(h:Rd w a (JZ cs)){i:Nat}(hi:i<cs.length):∃ p,a=some p/\∀ j v,(Ae1 cs[i])[j]?=some v->w.cell? ((p.add (i*8)).add j)=some v:=by
 have get:∀ j v,(Ae1 cs[i])[j]?=some v->(JZ cs)[i*8+j]?=some v:=λ j v hj=>by
  rw [JZ,Is (n:=8) (λ _=>rfl) cs i j hi (by
   have:=(List.getElem?_eq_some_iff.1 hj).1;exact this),hj]
 obtain⟨p,rfl,_⟩:=h _ _ (get 0 _ rfl);refine⟨p,rfl,λ j v hj=>?_⟩;obtain⟨q,hq,hc⟩:=h _ _ (get j v hj);cases hq;rw [Cm];exact hc
section
variable {w0 w:World}{H:List It}
theorem stI(S:ST w0 w H)(n:Nat){b:Nat}{c:A0}(hn:H[n]?=some (itI b (Ql c) none 0)){Q:ByteArray->Int->Int->ByteArray->Int->Int->ByteArray->Option Addr->Nat->Nat->Prop}(hq:Q c.1 0 1 c.1 0 0 E0 none 0 0) :
  ∃ t0:ByteArray,w.cell? ⟨b,0,none⟩=some (.string t0)/\∃ t1:Int,w.cell? ⟨b,1,none⟩=some (.int .i64 t1)/\∃ t2:Int,w.cell? ⟨b,2,none⟩=some (.int .i64 t2)/\∃ t3:ByteArray,w.cell? ⟨b,3,none⟩=some (.string t3)/\∃ t4:Int,w.cell? ⟨b,4,none⟩=some (.int .i64 t4)/\∃ t5:Int,w.cell? ⟨b,5,none⟩=some (.int .i64 t5) /\
   ∃ t6:ByteArray,w.cell? ⟨b,6,none⟩=some (.string t6)/\∃(t7:Option Addr) (l c:Nat),w.cell? ⟨b,7,none⟩=some (.slice t7 l c)/\Q t0 t1 t2 t3 t4 t5 t6 t7 l c :=
 ⟨_,S.cell n hn rfl,_,S.cell n hn rfl,_,S.cell n hn rfl,_,S.cell n hn rfl,_,S.cell n hn rfl,_,S.cell n hn rfl,_,S.cell n hn rfl,_,_,_,S.cell n hn rfl,hq⟩
theorem AaM(S:ST w0 w H)(n:Nat){b:Nat}{ai:Option Addr}{l ci:Nat}(hn:H[n]?=some (It.cells b (Yq ai l ci) ty.CF)){Q:Option Addr->Nat->Nat->Option Addr->Nat->Nat->Option Addr->Nat->Nat->Option Addr->Nat->Nat->Int->Prop}(hq:Q ai l ci none 0 0 none 0 0 none 0 0 (-1)) :
  ∃(a0:Option Addr) (l0 c0:Nat),w.cell? ⟨b,0,none⟩=some (.slice a0 l0 c0)/\∃(a1:Option Addr) (l1 c1:Nat),w.cell? ⟨b,1,none⟩=some (.slice a1 l1 c1)/\∃(a2:Option Addr) (l2 c2:Nat),w.cell? ⟨b,2,none⟩=some (.slice a2 l2 c2)/\∃(a3:Option Addr) (l3 c3:Nat),w.cell? ⟨b,3,none⟩=some (.slice a3 l3 c3) /\
   ∃ n4:Int,w.cell? ⟨b,4,none⟩=some (.int .i64 n4)/\Q a0 l0 c0 a1 l1 c1 a2 l2 c2 a3 l3 c3 n4 :=
 ⟨_,_,_,S.cell n hn rfl,_,_,_,S.cell n hn rfl,_,_,_,S.cell n hn rfl,_,_,_,S.cell n hn rfl,_,S.cell n hn rfl,hq⟩
theorem AkO(E:Env w)(s:ByteArray)(hk:Jn s=true)(hs:s.size<=24):Calls Tryz.prog f.Aat #[.agg ⟨NM s⟩] w (AB λ r w'=>r=.bool true/\Below w.heap.size w w'):=by
 apply R.OT
 delta R.A R.Ab R.Cb R.Cs R.E R.F R.G R.I R.Li R.Ls R.Lt R.N R.S R.T;try dsimp only [R.Ps]
 refine (ST.start w).Aj λ b1 w1 _ _ S1=>stX S1 0 rfl (stX S1 0 rfl (S1.call (Al5 (E.grown S1.An) s) λ w2 _ S2=>⟨_,rfl,Bo (stX S2 0 rfl ((AjQ (E.grown S2.An) s).mono ?_))⟩));rintro _ w3 ⟨_,rfl,a,c,rfl,P3⟩;have S3:=S2.join P3;refine⟨_,_,_,rfl,S3.call (v:=.bool false) ?_ λ w4 _ S4=>⟨_,rfl,rfl,S4.An⟩⟩;apply R.BK
 delta R.Ci R.G R.S;try dsimp only [R.Ps]
 refine (ST.start w3).call (v:=.int .i64 (-1)) ?_ λ w4 _ S4=>⟨_,rfl,rfl,S4.An⟩;apply R.Cj
 delta R.Ad R.F R.G R.I R.Lt R.Qi R.T R.W R.X;try dsimp only [R.Ps]
 have aU:Rd w3 a [.string s]:=S3.rd 0 rfl;refine FO 1 (λ _ w'=>Below w3.heap.size w3 w') (by omega) (.refl _ _) λ I M i w4 hi B4 next=>?_;refine Aa (λ aB=>⟨⟨by omega,aB⟩,?_⟩) (λ _=>⟨rfl,B4⟩);obtain rfl:i=0:=by omega
 obtain⟨p,rfl,hc⟩:=(aU.grown B4) 0 _ rfl;refine⟨s,hc,?_⟩;rw [show enters Tryz.prog f.Lk=true by kernel_rfl];have key:Calls Tryz.prog f.Lk #[.string s] w4 (AB λ r w'=>r=.bool false/\Below w4.heap.size w4 w'):=by
  apply R.Ll
  delta R.Cb R.G R.T;try dsimp only [R.Ps]
  exact (ST.start w4).call (JO s ((E.grown S3.An).grown B4) (by omega)) λ w5 _ S5=>⟨_,rfl,by rw [hk];rfl,S5.An⟩
 exact (ST.start w4).call key λ w5 B5 _=>⟨_,rfl,Aw (next _ (by omega) (Ac B4 B5))⟩
theorem AkP(s:ByteArray):Calls Tryz.prog f.Aau #[.agg ⟨NM s⟩,.int .i64 1] w (AB λ r w'=>r=.string s/\Below w.heap.size w w'):=by
 apply R.OU
 delta R.A R.Ab R.Aly R.WL R.Ct R.D R.E R.F R.I R.Li R.Ls R.Lt R.N R.O R.S R.Ah R.T R.W R.X R.Zi R.Zit;try dsimp only [R.Ps]
 refine (ST.start w).Aj λ b1 w1 _ _ S1=>⟨λ st w'=>st=[.int .i64 9,.string s]/\w'=w1,⟨_,S1.cell 0 rfl rfl,Bb rfl ⟨_,S1.cell 0 rfl rfl,rfl,rfl⟩⟩,?_⟩;rintro t u w2 ⟨aA,rfl⟩;cases aA;exact Ap rfl ⟨rfl,S1.An⟩
abbrev asT:ByteArray:=⟨#[32,97,115,32]⟩
def OP(c:A0):ByteArray:=(c.1++asT)++c.1
theorem Qm{c:A0}(h:c.1.size<=24):(OP c).size<=52:=by
 have e:asT.size=4:=rfl;rw [OP,AoH,AoH,e];omega
theorem Ab9(c:A0)(hc:c.1.size<=24):Calls Tryz.prog f.Gd #[.agg ⟨Ae1 c⟩] w (AB λ r w'=>r=.string (OP c)/\Below w.heap.size w w'):=by
 apply R.J0
 delta R.A R.Ab R.Ct R.D R.E R.F R.I R.Li R.Ls R.Lt R.N R.S R.T R.X;try dsimp only [R.Ps]
 have e:asT.size=4:=rfl;refine (ST.start w).Aj λ b1 w1 _ _ S1=>⟨_,S1.cell 0 rfl rfl,Bb rfl (Ald S1 0 rfl (S1.call (AkP c.1) λ w2 _ S2=>⟨_,rfl,by rw [e];omega,_,S2.cell 0 rfl rfl,?_,rfl,S2.An⟩))⟩;show (c.1++asT).size+c.1.size<=_;rw [AoH,e];omega
theorem AkL(E:Env w){a:Option Addr}{n:Nat}{cs:List A0}(hl:Rd w a (JZ cs))(h1:1<=cs.length)(hn:cs.length<=16)(hk:Aab cs) :
  Calls Tryz.prog f.Lj #[.string ⟨#[115,101,108,101,99,116,32]⟩,.slice a cs.length n,.func (.func f.Gd) #[] #[]] w (AB λ r w'=>r=.string (⟨#[115,101,108,101,99,116,32]⟩++GP (cs.map OP))/\Below w.heap.size w w'):=by
 apply R.G5
 delta R.A R.Ab R.Ct R.E R.F R.I R.J R.Ks R.Li R.Ls R.Lt R.N R.O R.Hz R.S R.Ah R.T R.W R.X;try dsimp only [R.Ps]
 have hz:=HE (B:=52) (cs.map OP) (λ x hx=>by obtain⟨y,hy,rfl⟩:=Ang.1 hx;exact Qm (hk y hy).2);rw [AnS] at hz;have h3:cs.length*(52+2)<=16*(52+2):=Anv _ hn;refine PS cs.length (λ i oa ol oc w1=>ol=i/\ST w w1 [IG oa oc ((cs.take i).map OP)]) (by omega) ⟨rfl,(ST.start w).nil ty.string 1⟩ λ I M oa ol oc i w1 hi ⟨dt,S1⟩ next=>?_;subst dt;refine Aa (λ aB=>⟨⟨by omega,aB⟩,?_⟩) (λ aL=>?_)
 ·have aF:ol<cs.length:=by omega
  obtain⟨p,rfl,hc⟩:=Qn (hl.grown S1.An) aF;have hlen:((cs.take ol).map OP).length=ol:=by simp;omega
  refine ldI (i:=Ql cs[ol]) hc (S1.Ab8 λ b2 w2 _ S2=>stI S2 0 rfl ?_);rw [show enters Tryz.prog f.Gd=true by kernel_rfl];refine S2.call (Ab9 cs[ol] (hk _ (Aot aF)).2) λ w3 _ S3=>⟨_,rfl,S3.Aj λ b4 w4 _ _ S4=>?_⟩;have fD:(cs.take (ol+1)).map OP=(cs.take ol).map OP++[OP cs[ol]]:=by rw [Aou aF,Aov];rfl
  have:=AdJ S4 2 rfl (ys:=[OP cs[ol]]) (mm:=1) (mc:=1) rfl (S4.rdc 0 rfl) (by omega) (f:=λ v w'=>∃ a b c,v=.slice a b c/\(I [.slice a b c,.int .i64 (IntKind.i64.wrap ((ol:Int)+1))] w'/\M [.slice a b c,.int .i64 (IntKind.i64.wrap ((ol:Int)+1))] w'<M [.slice oa ol oc,.int .i64 (ol:Int)] w1)) λ a' c' w5 S5=>⟨_,_,_,rfl,next _ _ _ _ aF ⟨by rw [Anp,hlen];rfl,by rw [fD];exact S5.drop 2⟩⟩;rw [hlen] at this;exact this
 ·obtain rfl:ol=cs.length:=by omega
  rw [List.take_length] at S1;refine Az (λ h=>by omega) (λ h=>?_);have hj:=AiL S1 0 rfl (λ e=>by rw [List.map_eq_nil_iff.1 e] at h1;simp at h1) (by simp;omega) (λ x hx=>by obtain⟨y,hy,rfl⟩:=Ang.1 hx;have:=Qm (hk y hy).2;omega);rw [AnS] at hj;exact S1.call hj λ w3 _ S3=>⟨_,rfl,by rw [show (ByteArray.size ⟨#[115,101,108,101,99,116,32]⟩)=7 from rfl];exact AnJ (m:=1000) (by omega) (by decide),rfl,S3.An⟩
theorem Adu(s:ByteArray)(fv:FuncId)(ca:Array Value):Calls Tryz.prog f.Lh #[.string s,Hm,.func (.func fv) #[] ca] w (AB λ r w'=>r=.string E0/\w'=w):=by
 apply R.G4
 delta R.A R.Ab R.Ct R.E R.F R.I R.J R.Ks R.Li R.Ls R.Lt R.N R.O R.Hz R.S R.Ah R.T R.W R.X;try dsimp only [R.Ps]
 refine⟨λ st w'=>st=[Hm,.int .i64 0]/\w'=w,λ _ _=>0,⟨rfl,rfl⟩,?_⟩;rintro a l c i w1 ⟨aA,rfl⟩;cases aA;exact Ap rfl (Bb rfl ⟨rfl,rfl⟩)
theorem Ai0(s:ByteArray)(fv:FuncId)(ca:Array Value):Calls Tryz.prog f.Mj #[.string s,Hm,.func (.func fv) #[] ca] w (AB λ r w'=>r=.string E0/\w'=w):=by
 apply R.Hn
 delta R.A R.Ab R.Ct R.E R.F R.G R.I R.J R.Ks R.Lb R.Li R.N R.O R.Hz R.S R.Ah R.T R.W R.X;try dsimp only [R.Ps]
 refine⟨λ st w'=>st=[Hm,.int .i64 0]/\w'=w,λ _ _=>0,⟨rfl,rfl⟩,?_⟩;rintro a l c i w1 ⟨aA,rfl⟩;cases aA;exact Ap rfl (Bb rfl ⟨rfl,rfl⟩)
end
section
variable {w:World}{ai:Option Addr}{ci:Nat}{cs:List A0}
theorem AiM{a:Option Addr}(hr:Rd w a [Hm,Hm]):Calls Tryz.prog f.Fj #[.slice a 2 2] w (AB λ r w'=>∃ a c,r=.slice a 0 c/\Below w.heap.size w w'):=by
 obtain⟨p,rfl,h0⟩:=hr 0 _ rfl;obtain⟨_,hp,h1⟩:=hr 1 _ rfl;cases hp;apply R.D7
 delta R.Ad R.Cs R.F R.I R.Ks R.Ls R.O R.U0 R.Hz R.S R.W R.X;try dsimp only [R.Ps]
 have at_:∀ {w'},Below w.heap.size w w'->∀ i:Nat,i<2->w'.cell? (p.add (((i:Int).toNat)*1))=some Hm:=λ B i hi=>by
  rw [AnF,AnI];rcases (by omega:i=0\/i=1) with rfl | rfl
  ·exact (Ae.Al (F:=λ _=>False) B).cell h0 (by simp)
  ·exact (Ae.Al (F:=λ _=>False) B).cell h1 (by simp)
 refine⟨λ st w'=>∃ i:Nat,i<=2/\st=[.int .i64 0,.int .i64 (i:Int)]/\w'=w,λ st _=>match st with | [_,.int _ i]=>2-i.toNat | _=>0,⟨0,by omega,rfl,rfl⟩,?_⟩;rintro z i w1 ⟨i,hi,aA,rfl⟩;cases aA;refine Aa (λ aB=>⟨⟨by omega,aB⟩,_,_,_,at_ (.refl _ _) i (by omega),Ap rfl ?_⟩) (λ aL=>?_)
 ·rw [Ai (k:=i) (by omega)];exact⟨⟨i+1,by omega,rfl,rfl⟩,by show 2-((i+1:Nat):Int).toNat<2-((i:Nat):Int).toNat;simp only [AnF];omega⟩
 have key:Calls Tryz.prog f.F0 #[Hm,.int .i64 0] w1 (AB λ r w'=>r=Hm/\w'=w1):=by
  apply R.Ep
  delta R.F R.I R.Rs R.S R.W R.Y;try dsimp only [R.Ps]
  exact Ap rfl (Ap rfl ⟨rfl,rfl⟩)
 refine (ST.start w1).HC key ⟨_,_,_,rfl,?_⟩;refine⟨λ st w'=>∃(i:Nat) (a:Option Addr) (c:Nat),i<=2/\st=[.slice a 0 c,.int .i64 (i:Int)]/\ST w1 w' [It.row ty.GM 6 a 0 c []],λ st _=>match st with | [_,.int _ i]=>2-i.toNat | _=>0,⟨0,none,0,by omega,rfl,(ST.start w1).nil _ _⟩,?_⟩;rintro a l c i w2 ⟨i,a,c,hi,aA,S2⟩;cases aA;refine Aa (λ aB=>⟨⟨by omega,aB⟩,_,_,_,at_ S2.An i (by omega),S2.app 0 rfl (show Ia Tryz.prog ty.IU=some (ty.GM,6,80,.agg #[.int .i64 0,.string ⟨#[]⟩,.int .i64 0,.int .i64 0,.string ⟨#[]⟩,.slice none 0 0]) by kernel_rfl) rfl (by omega) (by omega) (Rd.nil _ _) (mm:=0) rfl (by simp) (by omega) λ a' c' w3 S3=>?_⟩) (λ aL=>⟨_,_,rfl,S2.An⟩);rw [Ai (k:=i) (by omega)];exact⟨_,_,_,rfl,⟨i+1,a',c',by omega,rfl,S3⟩,by show 2-((i+1:Nat):Int).toNat<2-((i:Nat):Int).toNat;simp only [AnF];omega⟩
theorem Al9(E:Env w)(hl:Rd w ai (JZ cs))(h1:1<=cs.length)(hn:cs.length<=16)(hk:Aab cs):Calls Tryz.prog f.Acr #[.agg (Yq ai cs.length ci)] w (AB λ r w'=>r=.bool true/\Below w.heap.size w w'):=by
 apply R.Qq
 delta R.A R.Ab R.Cb R.Cs R.E R.F R.G R.I R.J R.Li R.Ls R.Lt R.N R.O R.P R.Qi R.S R.Ah R.T R.W R.X R.Zb;try dsimp only [R.Ps]
 refine (ST.start w).Aj λ b1 w1 _ _ S1=>⟨_,_,_,S1.cell 0 rfl rfl,Aa (λ h=>by omega) (λ _=>⟨_,_,_,S1.cell 0 rfl rfl,Aa (λ h=>by omega) (λ _=>⟨_,_,_,S1.cell 0 rfl rfl,Ap rfl ⟨_,_,_,S1.cell 0 rfl rfl,Ap rfl ⟨_,_,_,S1.cell 0 rfl rfl,Ap rfl ⟨_,S1.cell 0 rfl rfl,Ap rfl ⟨_,S1.cell 0 rfl rfl,Ap rfl ⟨_,_,_,S1.cell 0 rfl rfl,?_⟩⟩⟩⟩⟩⟩)⟩)⟩;refine FO cs.length (λ _ w'=>ST w w' [It.cells b1 (Yq ai cs.length ci) ty.CF]) (by omega) S1 λ I M i w2 hi S2 next=>Aa (λ aB=>⟨⟨by omega,aB⟩,?_⟩) (λ aL=>?_)
 ·have aF:i<cs.length:=by omega
  have hc:=hk _ (Aot aF);obtain⟨p,rfl,hp⟩:=Qn (hl.grown S2.An) aF;refine ldI (i:=Ql cs[i]) hp (S2.Ab8 λ b3 w3 _ S3=>⟨λ st w'=>st=[.bool false]/\w'=w3,⟨_,S3.cell 0 rfl rfl,Ap rfl ⟨rfl,rfl⟩⟩,?_⟩);rintro t w4 ⟨aA,rfl⟩;cases aA;refine⟨_,S3.cell 0 rfl rfl,S3.call (JO _ (E.grown S3.An) (by have:=hc.2;show ByteArray.size cs[i].1<=_;omega)) λ w5 _ S5=>⟨_,rfl,Ap (by rw [show Jn (Ql cs[i]).1=true from hc.1];rfl) ⟨_,S5.cell 0 rfl rfl,Ap rfl ⟨_,S5.cell 0 rfl rfl,Ap rfl ⟨_,S5.cell 0 rfl rfl,Ap rfl ⟨_,S5.cell 0 rfl rfl,Bb rfl (Ald S5 0 rfl (S5.call (AkO (E.grown S5.An) cs[i].1 hc.1 hc.2) λ w6 _ S6=>⟨_,rfl,Ap rfl (next _ aF (S6.drop 1))⟩))⟩⟩⟩⟩⟩⟩
 ·refine⟨_,_,_,S2.cell 0 rfl rfl,_,_,_,S2.cell 0 rfl rfl,S2.Aj λ b3 w3 _ _ S3=>(AiM (S3.rdc 0 rfl)).mono ?_⟩;rintro _ w4 ⟨_,rfl,a,c,rfl,B4⟩;have S4:=S3.grown B4;refine⟨_,_,_,rfl,λ st w'=>st=[.int .i64 0]/\w'=w4,λ _ _=>0,⟨rfl,rfl⟩,?_⟩;rintro t w5 ⟨aA,rfl⟩;cases aA;refine Ap rfl ⟨_,_,_,S4.cell 1 rfl rfl,S4.HC (v:=.bool false) ?_ ⟨_,rfl,rfl,S4.An⟩⟩;apply R.Bw
  delta R.Ci R.G R.S;try dsimp only [R.Ps]
  refine (ST.start w5).HC (v:=.int .i64 (-1)) ?_ ⟨_,rfl,rfl,rfl⟩;apply R.BR
  delta R.E R.F R.G R.I R.Lb R.Li R.Qi R.W R.X;try dsimp only [R.Ps]
  refine⟨λ st w'=>st=[.int .i64 0]/\w'=w5,λ _ _=>0,⟨rfl,rfl⟩,?_⟩;rintro t w6 ⟨aA,rfl⟩;cases aA;exact Ap rfl ⟨rfl,rfl⟩
def lqT(cs:List A0):ByteArray:=(((⟨#[115,101,108,101,99,116,32]⟩++GP (cs.map OP))++E0)++E0)++E0
theorem AjO(E:Env w)(hl:Rd w ai (JZ cs))(h1:1<=cs.length)(hn:cs.length<=16)(hk:Aab cs):Calls Tryz.prog f.Acq #[.agg (Yq ai cs.length ci)] w (AB λ r w'=>r=.tuple #[.string (lqT cs),.int .i64 0]/\Below w.heap.size w w'):=by
 apply R.Qp
 delta R.A R.Ab R.Cb R.Ct R.D R.E R.F R.H R.I R.J R.Li R.Ls R.N R.P R.S R.T R.Zt;try dsimp only [R.Ps]
 have hz:=HE (B:=52) (cs.map OP) (λ x hx=>by obtain⟨y,hy,rfl⟩:=Ang.1 hx;exact Qm (hk y hy).2);rw [AnS] at hz;have h3:cs.length*(52+2)<=16*(52+2):=Anv _ hn;obtain⟨t,ht⟩:∃ t,t=(⟨#[115,101,108,101,99,116,32]⟩:ByteArray)++GP (cs.map OP):=⟨_,rfl⟩;have uN:t.size<=900:=by
  rw [ht,AoH];show 7+_<=_;omega
 have e0:E0.size=0:=rfl;have es:∀ x:ByteArray,(x++E0).size=x.size:=λ x=>by rw [AoH];rfl
 refine (ST.start w).Aj λ b1 w1 _ _ S1=>AaM S1 0 rfl (S1.call (Al9 (E.grown S1.An) (hl.grown S1.An) h1 hn hk) λ w2 _ S2=>⟨_,rfl,Ap rfl (S2.draw λ w3 _ S3=>⟨_,_,_,S3.cell 0 rfl rfl,_,_,_,S3.cell 0 rfl rfl,_,_,_,S3.cell 0 rfl rfl,S3.call (AkL (E.grown S3.An) (hl.grown S3.An) h1 hn hk) λ w4 _ S4=>⟨_,rfl,S4.cell 0 rfl rfl,S4.cell 0 rfl rfl,?_⟩⟩)⟩);rw [<- ht];refine S4.HC (Adu _ _ _) ⟨_,rfl,S4.cell 0 rfl rfl,by rw [e0];omega,S4.HC (Adu _ _ _) ⟨_,rfl,by rw [es,e0];omega,_,_,_,S4.cell 0 rfl rfl,S4.HC (Ai0 _ _ _) ⟨_,rfl,by rw [es,es,e0];omega,λ st w'=>st=[.string (((t++E0)++E0)++E0)]/\w'=w4,⟨_,S4.cell 0 rfl rfl,Ap rfl ⟨rfl,rfl⟩⟩,?_⟩⟩⟩;rintro u w5 ⟨aA,rfl⟩;cases aA;refine Aa (λ h=>?_) (λ _=>⟨by rw [ht];rfl,S4.An⟩);rw [es,es,es] at h;omega
theorem AkN(E:Env w)(hl:Rd w ai (JZ cs))(h1:1<=cs.length)(hn:cs.length<=16)(hk:Aab cs):Calls Tryz.prog f.Acp #[.agg (Yq ai cs.length ci),.agg (Yq ai cs.length ci)] w (AB λ r w'=>r=.bool true/\Below w.heap.size w w'):=by
 apply R.Qo
 delta R.A R.Ab R.WL R.E R.F R.G R.I R.Li R.Ls R.N R.S;try dsimp only [R.Ps]
 refine (ST.start w).Aj λ b1 w1 _ _ S1=>S1.Aj λ b2 w2 _ _ S2=>AaM S2 1 rfl (S2.call (AjO (E.grown S2.An) (hl.grown S2.An) h1 hn hk) λ w3 _ S3=>⟨_,_,rfl,AaM S3 0 rfl (S3.call (AjO (E.grown S3.An) (hl.grown S3.An) h1 hn hk) λ w4 _ S4=>⟨_,_,rfl,Bb rfl (Bb rfl ⟨?_,S4.An⟩)⟩)⟩);rw [AK,decide_eq_true rfl]
end
section
variable {w:World}{q:Qu}{ai aw ag ao:Option Addr}{ci cw cg co:Nat}
end
def IH(n wd:Int):Prop:=0<=n/\n<=4096/\0<=wd/\wd<=64
instance (n wd:Int):Decidable (IH n wd):=by unfold IH;infer_instance
def UL(l:List UInt8)(n wd:Nat):Prop:=l.length=EI n wd/\Ba (BB l n wd) wd=l
instance (l:List UInt8) (n wd:Nat):Decidable (UL l n wd):=by unfold UL;infer_instance
def UnV(l:List UInt8)(n wd:Int)(w w':World)(r:Value):Prop :=
 ∃(xs:List Nat) (a:Option Addr) (c:Nat) (e:Int),r=.tuple #[.slice a xs.length c,.int .i64 e]/\Rd w' a (xs.map Hr)/\Below w.heap.size w w'/\(∀ p,a=some p->w.heap.size<=p.block) /\
  ((IH n wd/\UL l n.toNat wd.toNat/\xs=BB l n.toNat wd.toNat/\e=0)\/(¬ (IH n wd/\UL l n.toNat wd.toNat)/\xs=[]/\e=if IH n wd then 10 else 2))
theorem UnV.bad{l:List UInt8}{n wd:Int}{w w':World}{e:Int}(hb:Below w.heap.size w w')(h:¬ (IH n wd/\UL l n.toNat wd.toNat))(he:e=if IH n wd then 10 else 2):UnV l n wd w w' (.tuple #[.slice none 0 0,.int .i64 e]) :=
 ⟨[],none,0,e,rfl,Rd.nil _ _,hb,(λ p hp=>by cases hp),.inr ⟨h,rfl,he⟩⟩
theorem Kv{l:List UInt8}{j:Nat}(h:j<l.length):l.getD j 0=l[j]:=by simp [h]
section
variable {w:World}{a:Option Addr}{c:Nat}{l:List UInt8}
theorem G0(hl:Rd w a (l.map Af))(n wd:Int)(hs:l.length<=9223372036854775807) :
  Calls Tryz.prog f.Aai #[.slice a l.length c,.int .i64 n,.int .i64 wd] w (AB λ v w'=>UnV l n wd w w' v):=by
 apply R.OL
 delta R.A R.Ad R.J9 R.Cf R.D R.F R.H R.I R.Li R.Ls R.Lu R.Ly R.N R.O R.Rs R.S R.Ah R.U R.W R.Wb R.Wu R.X R.Z;try dsimp only [R.Ps]
 refine (SH.start (λ _=>False) w).Aj λ b4 w1 jM B1 S1=>S1.Aj λ b3 w2 cf B2 S2=>⟨_,S2.cell 0 rfl rfl,(Js w2 n wd).mono ?_⟩;rintro _ w3 ⟨_,rfl,rfl,rfl⟩;by_cases ax:IH n wd
 case neg =>
  rw [if_neg (by unfold IH at ax;omega)];refine⟨_,_,rfl,λ _ _=>False,Au (λ _=>UnV.bad S2.below (λ h=>ax h.1) (by rw [if_neg ax])) (λ h=>absurd h (by decide)),?_⟩;rintro w5 h;exact h.elim
 obtain⟨h1,h2,h3,h4⟩:=id ax;obtain⟨n,rfl⟩:∃ m:Nat,n=(m:Int):=⟨n.toNat,by omega⟩;obtain⟨wd,rfl⟩:∃ m:Nat,wd=(m:Int):=⟨wd.toNat,by omega⟩;have hn:n<=4096:=by omega
 have hw:wd<=64:=by omega
 have hm:n*wd<=4096*64:=Nat.mul_le_mul hn hw;rw [if_pos ⟨by omega,by omega,by omega,by omega⟩];obtain⟨m,hmd⟩:∃ m,m=EI n wd:=⟨_,rfl⟩;have rO:m=(n*wd+7) / 8:=hmd;have tW:((n:Int)*(wd:Int))=((n*wd:Nat):Int):=by norm_cast
 have em:((n:Int)*(wd:Int)+7) / 8=(m:Int):=by rw [tW,rO];omega
 rw [em];have ew:IntKind.i64.wrap ((n:Int)*(wd:Int))=((n*wd:Nat):Int):=by rw [tW,wrap_i64 (by omega) (by omega)]
 have emod:Int.tmod ((n*wd:Nat):Int) 8=((n*wd % 8:Nat):Int):=by rw [Int.tmod_eq_emod_of_nonneg (by omega)];omega
 refine⟨_,_,rfl,λ s w5=>s=[]/\UL l n wd/\Below w3.heap.size w3 w5/\SH (λ _=>False) w w5 [(b3,#[.int .i64 (wd:Int)],ty.int),(b4,#[.slice a l.length c],ty.AA)],?_,?_⟩
 ·refine Au (λ h=>absurd rfl h) (λ _=>⟨_,_,_,S2.cell 1 rfl rfl,Au (λ h=>?_) (λ hlen=>?_)⟩)
  ·exact UnV.bad S2.below (λ hh=>h (by have:=hh.2.1;rw [this];simp [hmd])) (by rw [if_pos ax])
  ·have cO:l.length=m:=by omega
   have hT:=AhL (l:=l) (n:=n) (w:=wd) (by omega);have hW:=Afo (l:=l) (T:=n*wd) (by omega);refine S2.MC λ w4 B4 S4=>?_;have F9:(0<l.length->n*wd % 8≠0->(l.getD (l.length-1) 0).toNat / 2 ^ (n*wd % 8)=0)->UL l n wd:=λ h=>⟨by omega,hT.2 (hW.2 h)⟩;refine Aa (λ fA=>⟨_,S4.cell 0 rfl rfl,?_⟩) (λ hz=>⟨rfl,F9 (λ h=>by omega),B4,S4⟩);rw [ew,emod];refine Au (λ h8=>⟨_,_,_,S4.cell 1 rfl rfl,?_⟩) (λ h8=>⟨rfl,F9 (λ _ h=>by omega),B4,S4⟩);rw [wrap_i64 (n:=(m:Int)-1) (by omega) (by omega)];refine⟨⟨by omega,by omega⟩,?_⟩;have hj:m-1<l.length:=by omega
   obtain⟨p,rfl,hc⟩:=byte_at (hl.grown S4.below) hj;refine⟨_,by rw [show ((m:Int)-1).toNat=m-1 by omega];exact hc,_,S4.cell 0 rfl rfl,?_⟩;rw [ew,emod];refine⟨by omega,?_⟩;rw [AnF,show min (n*wd % 8) 8=n*wd % 8 by omega,fdiv_pow];have hg:(l.getD (l.length-1) 0)=l[m-1]:=by rw [cO];exact Kv hj
   refine Au (λ h=>UnV.bad S4.below (λ hh=>h ?_) (by rw [if_pos ax])) (λ h=>⟨rfl,F9 (λ _ _=>?_),B4,S4⟩)
   ·have:=hW.1 (hT.1 hh.2.2) (by omega) (by omega);rw [hg] at this;rw [this];rfl
   ·rw [hg];omega
 rintro w5 ⟨_,ar,B5,S5⟩;obtain⟨hlen,hpk⟩:=id ar;refine FW tU (l:=(n:Int)) (c:=(n:Int)) (by omega) (by omega) (by omega) (by omega) λ bo w6 iH B6 jl=>?_;rw [AnF,Afh (Fu l) wd n] at jl;rw [AnF];have S6:=S5.grown B6;refine⟨_,_,_,rfl,S6.Aj λ eR w7 mH B7 S7=>S7.AaO 0 rfl (show 0<1 by decide) λ w8 K8 S8=>⟨_,S8.cell 1 rfl rfl,(KZ w8 (n:Int) (wd:Int)).mono ?_⟩⟩;rintro _ w9 ⟨_,rfl,b1,b2,rfl,P9⟩;have S9:=S8.grown P9.below;have qg:bo<w6.heap.size:=(AnV.1 jl).1;have qH:=(Ae.Al (F:=λ _=>False) B7).at jl (by simp);have lr:=K8.at qH (show ¬ bo=eR by omega);have lu:=(Ae.Al (F:=λ _=>False) P9.below).at lr (by simp);have jw:w.heap.size<=bo:=AnJ S5.below.size iH;have qi:bo<w9.heap.size:=(AnV.1 lu).1;have qV:=S9.lt (x:=(b3,_,_)) (AnU _ (AnT ..));have qZ:=S9.lt (x:=(b4,_,_)) (AnU _ (AnU _ (AnT ..)));have mI:=S9.lt (x:=(eR,_,_)) (AnT ..);have ig:=P9.own (b2,_,_) (AnT ..);have js:=P9.own (b1,_,_) (AnU _ (AnT ..))
 have qU:=P9.lt (x:=(b2,_,_)) (AnT ..);have mJ:=P9.lt (x:=(b1,_,_)) (AnU _ (AnT ..));have xT:=S5.lt (x:=(b3,_,_)) (AnT ..);have qY:=S5.lt (x:=(b4,_,_)) (AnU _ (AnT ..));refine⟨_,_,_,rfl,by kernel_rfl,λ rr aA bJ hy=>?_⟩;obtain⟨W1,hW1⟩:∃ W1,W1=(w9.alloc (.deferred (some []))).alloc (.loop rr):=⟨_,rfl⟩;rw [<- hW1];have eM:Below w9.heap.size w9 W1:=by rw [hW1];exact (((Below.refl _ w9).alloc (Nat.le_refl _) _).alloc (by simp) _)
 have oh:W1.heap.size=w9.heap.size+2:=by rw [hW1];simp
 have fM:W1.heap[w9.heap.size+1]?=some (.loop rr):=by
  rw [hW1];have:=World.alloc_heap_new (w9.alloc (.deferred (some []))) (.loop rr);rwa [World.size_alloc] at this
 have i':W1.heap[w9.heap.size]?=some (.deferred (some [])):=by
  rw [hW1];exact (Below.heap_alloc _ _ _ (by simp)).trans (World.alloc_heap_new w9 _)
 have dP:=Ae.Al (F:=λ _=>False) eM;have ib:=dP.at lu (by simp);obtain⟨L,hLd⟩:∃ L,L=w9.heap.size+1:=⟨_,rfl⟩;rw [<- hLd] at fM hy ⊢;have Bw1:Below w.heap.size w W1:=S9.below.trans (eM.mono S9.below.size);have uY:=S9.below.size;have low:∀ {w':World},Ae (λ k=>k=bo\/k=L) W1 w'->Below w.heap.size w w':=λ K=>Bw1.trans (K.below Bw1.size λ k hk h=>by omega);have mU:∀ {w':World},Ae (λ k=>k=bo\/k=L) W1 w'->w'.cell? ⟨b3,0,none⟩=some (.int .i64 (wd:Int)):=λ K=>K.cell (dP.cell (S9.cell 1 rfl rfl) (by simp)) (by
  show ¬ (b3=bo\/b3=L);omega)
 have qj:∀ {w':World},Ae (λ k=>k=bo\/k=L) W1 w'->w'.cell? ⟨b4,0,none⟩=some (.slice a l.length c):=λ K=>K.cell (dP.cell (S9.cell 2 rfl rfl) (by simp)) (by
  show ¬ (b4=bo\/b4=L);omega)
 have gg:∀ {w':World},Ae (λ k=>k=bo\/k=L) W1 w'->w'.cell? ⟨eR,0,none⟩=some (.slice (some ⟨bo,0,none⟩) n n):=λ K=>K.cell (dP.cell (S9.cell 0 rfl rfl) (by simp)) (by
  show ¬ (eR=bo\/eR=L);omega)
 have qh:bo<w8.heap.size:=(AnV.1 lr).1;have wP:w8.heap.size<=b1:=by simpa using js
 have tQ:w8.heap.size<=b2:=by simpa using ig
 have dC:∀ {w':World},Ae (λ k=>k=bo\/k=L) W1 w'->w'.cell? ⟨b1,0,none⟩=some (.int .i64 (n:Int))/\w'.cell? ⟨b2,0,none⟩=some (.int .i64 (wd:Int)):=λ K =>
  ⟨K.cell (dP.cell (P9.cell 1 rfl rfl) (by simp)) (by show ¬ (b1=bo\/b1=L);omega),K.cell (dP.cell (P9.cell 0 rfl rfl) (by simp)) (by show ¬ (b2=bo\/b2=L);omega)⟩
 have hyp:∀ t,t<n*wd->∀ wx,(Ae (λ k=>k=bo\/k=L) W1 wx/\wx.heap[bo]?=some (.cells (Ml (Fu l) wd n t) ty.uint64 (0,0))/\wx.heap[L]?=some (.loop rr)) ->
   GJ Tryz.prog L #[.int .i64 ((t / wd:Nat):Int),.int .i64 ((t % wd:Nat):Int)] (λ y w'=>y=true/\(Ae (λ k=>k=bo\/k=L) W1 w'/\w'.heap[bo]?=some (.cells (Ml (Fu l) wd n (t+1)) ty.uint64 (0,0))/\w'.heap[L]?=some (.loop rr))) wx:=by
  rintro t ht wx ⟨K,hO,hL⟩;have kU:0<wd:=Nat.pos_of_ne_zero (by rintro rfl;simp at ht);have iz:t / wd<n:=(Nat.div_lt_iff_lt_mul kU).2 ht;have fD:t % wd<wd:=AnX _ kU;have jb:t / 8<l.length:=by omega
  refine hy _ _ _ wx hL ⟨hL,?_⟩;obtain⟨aW,hw11⟩:∃ aW,aW=wx.putObj L (.loop { rr with state:=.busy }):=⟨_,rfl⟩;rw [<- hw11];have dZ:L<wx.heap.size:=(AnV.1 hL).1;have dm:Ae (λ k=>k=L) wx aW:=by rw [hw11];exact Ay _ _ _
  have gU:aW.heap[L]?=some (.loop { rr with state:=.busy }):=by rw [hw11];exact World.putObj_heap_same dZ
  have K2:Ae (λ k=>k=bo\/k=L) W1 aW.drew:=(K.trans dm (λ k _ h=>.inr h)).drew;have gW:aW.drew.heap[bo]?=some (.cells (Ml (Fu l) wd n t) ty.uint64 (0,0)):=dm.at hO (by show ¬ bo=L;omega);refine⟨_,mU (K.trans dm (λ k _ h=>.inr h)),?_⟩;unfold WM;have et:IntKind.i64.wrap (IntKind.i64.wrap (((t / wd:Nat):Int)*(wd:Int))+((t % wd:Nat):Int))=(t:Int):=by
   have h1:((t / wd:Nat):Int)*(wd:Int)=((t / wd*wd:Nat):Int):=by rw [Int.natCast_mul]
   have h2:=Nat.div_add_mod t wd;rw [AnN] at h2;rw [h1];generalize t / wd*wd=q at h2;generalize t % wd=r' at h2;rw [wrap_i64 (n:=(q:Int)) (by omega) (by omega),wrap_i64 (by omega) (by omega)];omega
  have ed:AoK (t:Int) (2 ^ (min 3 64))=((t / 8:Nat):Int):=fdiv_pow t 3;rw [et,ed];refine⟨_,_,_,gg K2,⟨AoI _,by exact_mod_cast iz⟩,?_⟩;rw [AnF];have ea:(⟨bo,0,none⟩:Addr).add (t / wd*1)=⟨bo,t / wd,none⟩:=by rw [Am];simp
  obtain⟨p,rfl,hc⟩:=byte_at (hl.grown (low K2)) jb;show ∃ n:Int,aW.drew.cell? ((⟨bo,0,none⟩:Addr).add (t / wd*1))=some (.int .u64 n)/\_;rw [ea];have aJ:aW.drew.cell? ⟨bo,t / wd,none⟩=some (.int .u64 (Si (Fu l) wd t (t / wd):Int)):=by
   simp only [World.cell?,gW];simpa using Ahp iz
  refine⟨_,aJ,_,_,_,qj K2,⟨AoI _,by exact_mod_cast jb⟩,_,by rw [AnF];exact hc,?_⟩;rw [AlP (by omega),AnF,AnF,Ad2 (l[t / 8]).toNat_lt (AnX _ (by omega)),Afj (by omega)];have jv:l[t / 8].toNat.testBit (t % 8)=Fu l t:=by unfold Fu;rw [Kv jb]
  rw [jv];have ja:(Fu l t).toNat*2 ^ (t % wd)<18446744073709551616:=by
   have:2 ^ (t % wd)<2 ^ 64:=Nat.pow_lt_pow_right (by omega) (by omega);cases Fu l t
   ·simp
   ·simpa using this
  have yV:Si (Fu l) wd t (t / wd)<18446744073709551616:=Nat.lt_of_lt_of_le (AhC _ kU _ _) (Nat.pow_le_pow_right (n:=2) (by omega) hw);rw [Ami yV ja,AhD];refine⟨AoI _,AoI _,⟨AoI _,by exact_mod_cast iz⟩,?_⟩;show Cd ((⟨bo,0,none⟩:Addr).add (t / wd*1)) _ _ _;rw [ea];refine Fb gW (by rw [Afg];exact iz) λ bN iR gX=>?_;have gV:bN.heap[L]?=some (.loop { rr with state:=.busy }):=iR.at (show aW.drew.heap[L]?=_ from gU) (by show ¬ L=bo;omega);refine⟨gV,rfl,?_⟩;rw [H6 aA bJ];rw [Ahq _ rfl] at gX;have gn:L<bN.heap.size:=(AnV.1 gV).1;refine⟨(K2.trans iR (λ k _ h=>.inl h)).trans (Ay _ _ _) (λ k _ h=>.inr h),?_,World.putObj_heap_same gn⟩;exact (World.putObj_heap_other (by omega)).trans gX
 refine (Wr (l:=L) (b1:=b1) (b2:=b2) hn hw (λ t wx=>Ae (λ k=>k=bo\/k=L) W1 wx/\wx.heap[bo]?=some (.cells (Ml (Fu l) wd n t) ty.uint64 (0,0))/\wx.heap[L]?=some (.loop rr))
  (λ t wx hj=>dC hj.1) (λ t wx hj=>⟨hj.1.drew,hj.2.1,hj.2.2⟩) hyp ⟨.refl _ _,ib,fM⟩).mono ?_
 rintro _ bF ⟨_,rfl,gS,ji,cQ⟩;have gq:L<bF.heap.size:=(AnV.1 cQ).1;refine⟨⟨_,rfl⟩,none,by rw [H6 aA bJ];exact cQ,rfl,?_⟩;obtain⟨ay,hw15⟩:∃ ay,ay=bF.putObj L (.loop { rr with state:=.exhausted,pending:=none }):=⟨_,rfl⟩;rw [<- hw15];have eN:Ae (λ k=>k=bo\/k=L) W1 ay:=by rw [hw15];exact gS.trans (Ay _ _ _) (λ k _ h=>.inr h)
 have jk:ay.heap[bo]?=some (.cells (Ml (Fu l) wd n (n*wd)) ty.uint64 (0,0)):=by rw [hw15];exact (World.putObj_heap_other (by omega)).trans ji
 have eT:ay.heap[w9.heap.size]?=some (.deferred (some [])):=eN.at i' (by show ¬ (w9.heap.size=bo\/w9.heap.size=L);omega);have eL:=low eN;have qF:=(World.putObj_heap_other (w:=ay) (o:=.deferred none) (show bo≠w9.heap.size by omega)).trans jk;refine⟨_,_,_,gg eN,eT,BB l n wd,some ⟨bo,0,none⟩,n,0,by rw [Dp],?_,eL.trans ((Ay ay w9.heap.size _).below eL.size λ k hk he=>by omega),(λ p hp=>by cases hp;exact jw),.inl ⟨ax,ar,rfl,rfl⟩⟩;have:=Rd.Ak qF;rwa [Aho] at this
end
section
variable {w:World}{a:Option Addr}{c:Nat}{l:List UInt8}
end
def AQ(l:List UInt8)(at_:Nat):Nat->Option (List (List UInt8) × Nat)
 | 0=>some ([],at_)
 | k+1=>match DX l (at_:Int) 1024 with
  | none=>none
  | some x=>(AQ l x.2 k).map λ r=>(x.1 :: r.1,r.2)
theorem UJ{l:List UInt8}{at_:Int}{most:Nat}{s:List UInt8}{k:Nat}(h:DX l at_ most=some (s,k)):k<=l.length:=by
 unfold DX at h;split at h
 ·rename_i x hx;have hb:=AZ (n:=x.1) (k:=x.2) hx;split at h
  ·cases h
  ·simp only [An8,Prod.mk.injEq] at h;omega
 ·cases h
theorem JD{l:List UInt8}:∀ {n at_:Nat} {r:List (List UInt8) × Nat},AQ l at_ n=some r->r.1.length=n
 | 0,_,_,h=>by simp only [AQ,An8] at h;subst h;rfl
 | n+1,at_,r,h=>by
  unfold AQ at h;split at h
  ·cases h
  ·obtain⟨q,hq,rfl⟩:=Aok.1 h;simp [JD hq]
theorem Rh{l:List UInt8}:∀ {n at_:Nat} {r:List (List UInt8) × Nat},AQ l at_ n=some r->at_<=l.length->r.2<=l.length
 | 0,_,_,h,ha=>by simp only [AQ,An8] at h;subst h;exact ha
 | n+1,at_,r,h,ha=>by
  unfold AQ at h;split at h
  ·cases h
  ·rename_i x hx;obtain⟨q,hq,rfl⟩:=Aok.1 h;exact Rh (r:=q) hq (UJ (s:=x.1) (k:=x.2) hx)
theorem Vs{l:List UInt8}{at_ k:Nat}(hx:DX l (at_:Int) 1024=none):AQ l at_ (k+1)=none:=by
 unfold AQ;rw [hx]
theorem Vt{l:List UInt8}{at_ k:Nat}{x:List UInt8 × Nat}(hx:DX l (at_:Int) 1024=some x):AQ l at_ (k+1)=(AQ l x.2 k).map λ r=>(x.1 :: r.1,r.2):=by
 conv=>lhs;unfold AQ
 rw [hx]
def YI(l:List UInt8)(at_ n:Nat)(w':World)(v:Value):Prop :=
 match AQ l at_ n with
 | none=>v=.tuple #[.slice none 0 0,.int .i64 0,.bool false]
 | some r=>∃ a c,v=.tuple #[.slice a r.1.length c,.int .i64 (r.2:Int),.bool true]/\Rd w' a (strs r.1)
section
variable {w0 w:World}{a:Option Addr}{c:Nat}{l:List UInt8}
theorem MB(at_:Int):Calls Tryz.prog f.AbB #[.slice a l.length c,.int .i64 at_] w (AB λ v w'=>∃ b1 b2,v=.func (.func f.HU) #[] #[.pointer (some ⟨b1,0,none⟩),.pointer (some ⟨b2,0,none⟩)] /\
  SH (λ _=>False) w w' [(b2,#[.int .i64 at_],ty.int),(b1,#[.slice a l.length c],ty.AA)]):=by
 apply R.PK
 delta R.I R.J R.N R.P R.S;try dsimp only [R.Ps]
 exact (SH.start (λ _=>False) w).Aj λ b1 w1 _ _ S1=>S1.Aj λ b2 w2 _ _ S2=>⟨b1,b2,rfl,S2⟩
theorem Rj{b1 b2 at_ n:Nat}(S:SH (λ _=>False) w0 w [(b2,#[.int .i64 (at_:Int)],ty.int),(b1,#[.slice a l.length c],ty.AA)])(hl:Rd w0 a (l.map Af))(hc:l.length<=c)(hs:l.length<=9223372036854775807)(hn:n<=4096) :
  Calls Tryz.prog f.HU #[.int .u64 (n:Int),.pointer (some ⟨b1,0,none⟩),.pointer (some ⟨b2,0,none⟩)] w (AB λ v w'=>YI l at_ n w' v/\Below w0.heap.size w0 w'):=by
 apply R.Md
 delta R.A R.VB R.D R.F R.G R.H R.I R.J R.Ks R.Li R.Ls R.N R.O R.Qsu R.S R.Ah R.T R.U R.Wu;try dsimp only [R.Ps]
 refine⟨λ st w1=>∃(i:Nat) (ss:List (List UInt8)) (at2:Nat) (oa:Option Addr) (oc:Nat),st=[.slice oa ss.length oc,.int .u64 (i:Int)]/\i=ss.length/\i<=n/\Row w1 ty.string 1 oa ss.length oc (strs ss) /\
   SH (λ _=>False) w0 w1 [(b2,#[.int .i64 (at2:Int)],ty.int),(b1,#[.slice a l.length c],ty.AA)]/\(∀ k,AG oa=some k->w0.heap.size<=k/\k≠b1/\k≠b2) /\
   AQ l at_ n=(AQ l at2 (n-i)).map λ r=>(ss++r.1,r.2),λ s _=>match s with
   | [_,.int _ i]=>n-i.toNat
   | _=>0,⟨0,[],at_,none,0,rfl,rfl,by omega,Row.nil _ _ _,S,by simp [AG],by simp⟩,?_⟩
 rintro oa _ oc _ w1 ⟨i,ss,at2,_,_,aA,hi,cB,R1,S1,N1,hT⟩;cases aA;refine Aa (λ aB=>?_) (λ aL=>?_)
 ·refine⟨_,_,_,S1.cell 1 rfl rfl,_,S1.cell 0 rfl rfl,(Fg (hl.grown S1.below) hc hs (at2:Int) 1024).mono ?_⟩;rintro _ w3 ⟨_,rfl,rfl,rfl⟩;have bD:n-i=(n-(i+1))+1:=by omega
  rw [bD] at hT;cases hx:DX l (at2:Int) 1024 with
  | none =>
   refine⟨_,_,_,rfl,Au (λ _=>⟨?_,S1.below⟩) (λ h=>absurd h (by decide))⟩;rw [Vs hx] at hT;unfold YI;rw [hT];rfl
  | some x =>
   rw [Vt hx] at hT;refine⟨_,_,_,rfl,Au (λ h=>absurd rfl h) (λ _=>S1.Aj λ je w4 jr B4 S4=>?_)⟩;have aZ:Rd w4 (some ⟨je,0,none⟩) (strs [x.1]):=by
    have:=Rd.Ak (S4.get 0 rfl);simpa [strs] using this
   have l1:=S1.lt (x:=(b2,_,_)) (AnT ..);have l2:=S1.lt (x:=(b1,_,_)) (AnU _ (AnT ..));refine QM (u:=[x.1]) (R1.grown B4) rfl aZ (by simp;omega) λ a5 c5 w5 R5 K5 N5=>⟨_,_,_,rfl,?_⟩;have S5:SH (λ _=>False) w0 w5 [(b2,#[.int .i64 (at2:Int)],ty.int),(b1,#[.slice a l.length c],ty.AA)]:=(S4.drop 1).kept K5 (by
    intro y hy hr;simp only [List.drop_succ_cons,List.drop_zero,List.mem_cons,List.not_mem_nil,or_false] at hy;rcases hy with rfl | rfl
    ·exact (N1 _ hr).2.2 rfl
    ·exact (N1 _ hr).2.1 rfl) (λ k hk hr=>by have:=(N1 _ hr).1;omega)
   have N5':∀ k,AG a5=some k->w0.heap.size<=k/\k≠b1/\k≠b2:=by
    intro k hk;have:=B4.size;rcases N5 k hk with h | h
    ·exact N1 k h
    ·have:=S4.below.size;exact⟨by omega,by omega,by omega⟩
   refine S5.AaO 0 rfl (show 0<1 by decide) λ w6 K6 S6=>?_;have R6:=R5.keeps K6 λ k hk he=>(N5' k hk).2.2 he;rw [show IntKind.u64.wrap ((i:Int)+1)=((i+1:Nat):Int) by rw [Ar (by omega) (by omega)];omega];refine⟨⟨i+1,ss++[x.1],x.2,a5,c5,rfl,by simp [hi],by omega,R6,S6,N5',?_⟩,?_⟩
   ·rw [hT,Option.map_map];congr 1;funext r;simp
   ·simp only [AnF];omega
 ·have xo:i=n:=by omega
  refine S1.MC λ w2 B2 S2=>⟨_,S2.cell 0 rfl rfl,?_,S2.below⟩;have:n-i=0:=by omega
  rw [this] at hT;unfold YI;have e:AQ l at_ n=some (ss,at2):=by rw [hT];simp [AQ]
  rw [e];exact⟨oa,oc,rfl,(R1.grown B2).rd⟩
end
theorem AaU{n:Nat}(h:n<18446744073709551616)(pre b:List UInt8):takeN (pre++(Ag n++b)) (pre.length:Int)=some (n,pre.length+(Ag n).length):=by
 unfold takeN;rw [if_neg (by omega),AnF,AoL];rw [OV n 0 0 b (by simpa using h) (by omega) (by intro;rfl)];simp
theorem AhM{s:ByteArray}(hz:s.size<=1024)(pre b:List UInt8):DX (pre++(CQ s++b)) (pre.length:Int) 1024=some (bl s,pre.length+(CQ s).length):=by
 unfold DX CQ;rw [List.append_assoc,AaU (by omega)];have hl:=CG s;simp only;rw [if_neg (by simp only [Anp];omega)];congr 1;have e:pre++(Ag s.size++(bl s++b))=(pre++Ag s.size)++(bl s++b):=by simp
 rw [e,<- Anp,AoL,<- hl,List.take_left];simp only [Anp,Nat.add_assoc]
theorem LK:∀ {ls:List ByteArray} (hz:∀ s∈ls,s.size<=1024) (pre b:List UInt8),AQ (pre++(BD ls++b)) pre.length ls.length=some (ls.map bl,pre.length+(BD ls).length)
 | [],_,pre,b=>by simp [AQ,BD]
 | s :: ls,hz,pre,b=>by
  have e:pre++(BD (s :: ls)++b)=pre++(CQ s++(BD ls++b)):=by simp [BD]
  have e2:pre++(CQ s++(BD ls++b))=(pre++CQ s)++(BD ls++b):=by simp
  rw [AnQ];unfold AQ;rw [e,AhM (hz s (AnT ..))];simp only;rw [e2,<- Anp,LK (λ x hx=>hz x (AnU _ hx))];simp [BD,Nat.add_assoc]
theorem LL{xs:List Nat}{w:Nat}(hx:∀ x∈xs,x<2 ^ w):BB (Ba xs w) xs.length w=xs:=by
 apply List.ext_getElem
 ·simp [BB]
 ·intro i h1 h2;have e:(BB (Ba xs w) xs.length w)[i]=Si (Fu (Ba xs w)) w (xs.length*w) i:=by simp [BB]
  rw [e];have gD:=hx _ (Aot h2);by_cases hw:0<w
  case neg =>
   have:w=0:=by omega
   subst this;have h0:xs[i]=0:=by simpa using gD
   simp [Si,h0]
  apply Nat.eq_of_testBit_eq;intro k;rw [SD _ hw];by_cases hk:k<w
  ·have u7:i*w+k<xs.length*w:=by
    have:(i+1)*w<=xs.length*w:=Anv _ h2;rw [Nat.succ_mul] at this;omega
   have il:(i*w+k) / w=i:=by
    rw [AnN,Nat.mul_add_div (by omega),Nat.div_eq_of_lt hk,Nat.add_zero]
   have eZ:(i*w+k) % w=k:=by
    rw [AnN,Nat.mul_add_mod,Nat.mod_eq_of_lt hk]
   have hj:(i*w+k) / 8<EI xs.length w:=by unfold EI;omega
   have hb:Fu (Ba xs w) (i*w+k)=GN xs w (i*w+k):=by
    unfold Fu;have:(Ba xs w).getD ((i*w+k) / 8) 0=AnG (UX (GN xs w) (xs.length*w) ((i*w+k) / 8)):=by
     simp [List.getD,Um hj]
    rw [this,Ul (AnX _ (by omega)),show (i*w+k) / 8*8+(i*w+k) % 8=i*w+k by omega];simp [u7]
   rw [hb];unfold GN;rw [il,eZ];simp [hk,u7,h2]
  ·rw [Nat.testBit_lt_two_pow (Nat.lt_of_lt_of_le gD (Nat.pow_le_pow_right (by omega) (Nat.le_of_not_lt hk)))];simp [hk]
def AhK(many:Nat)(ts:List (List UInt8))(xs:List Nat):Option (List (List UInt8)):=if ∀ p∈xs,p<many then some (xs.map λ p=>ts.getD p []) else none
def DI(l:List UInt8)(n:Nat):Option (List (List UInt8)) :=
 (takeN l 1).bind λ x=>if n<x.1 then none else (AQ l x.2 x.1).bind λ y=>if l.length<=y.2 then none else
  if IH (n:Int) ((l.getD y.2 0).toNat:Int)/\UL (l.drop (y.2+1)) n (l.getD y.2 0).toNat then AhK x.1 y.1 (BB (l.drop (y.2+1)) n (l.getD y.2 0).toNat) else none
theorem Wq{t:List (List UInt8)}{ls:List ByteArray}(ht:HS (ls.map bl) t):∀ x∈BA t ls,x<t.length:=by
 intro x hx;obtain⟨s,hs,rfl⟩:=Ang.1 hx;exact List.idxOf_lt_length_of_mem ((ht.mem _).2 (Ang.2 ⟨s,hs,rfl⟩))
theorem Aax{t:List (List UInt8)}{ls:List ByteArray}(ht:HS (ls.map bl) t):t.length<=ls.length:=by
 have:=LZ (KT ht.up) (λ x hx=>(ht.mem x).1 hx);simpa using this
theorem Ajy{t:List (List UInt8)}{ls:List ByteArray}{w:Nat}(ht:HS (ls.map bl) t)(hn:ls.length<=4096)(hw:Ea (Mf (BA t ls)) w):w<=13 :=
 hw.le.2 ((Jo _ _).2 λ x hx=>by have:=Wq ht x hx;have:=Aax ht;omega)
theorem AaT{ls:List ByteArray}{b:List UInt8}(ar:ED 1 ls)(h:Fl ls 1 b):DI b ls.length=some (ls.map bl):=by
 cases h with
 | table t w ht hw =>
 obtain⟨_,_,hn,dU⟩:=ar;have hz:=HI dU;have fE:=Aax ht;have kR:∀ s∈t.map CA,s.size<=1024:=by
  intro s hs;obtain⟨x,hx,rfl⟩:=Ang.1 hs;obtain⟨s',de,rfl⟩:=Ang.1 ((ht.mem x).1 hx);rw [DH];exact hz s' de
 have nY:=Ajy ht hn hw;have bS:=(Jo _ _).1 hw.1;obtain⟨xs,bV⟩:∃ xs,xs=BA t ls:=⟨_,rfl⟩;have dM:xs.length=ls.length:=by rw [bV];simp [BA]
 rw [<- bV] at bS ⊢;have e1:(1 :: Ag t.length)++(BD (t.map CA)++(AnG w :: Ba xs w))=[1]++(Ag t.length++(BD (t.map CA)++(AnG w :: Ba xs w))):=by simp
 have e2:[1]++(Ag t.length++(BD (t.map CA)++(AnG w :: Ba xs w)))=([1]++Ag t.length)++(BD (t.map CA)++(AnG w :: Ba xs w)):=by simp
 obtain⟨b,hb⟩:∃ b,b=(1 :: Ag t.length)++(BD (t.map CA)++(AnG w :: Ba xs w)):=⟨_,rfl⟩;have h1:takeN b 1=some (t.length,1+(Ag t.length).length):=by
  rw [hb,e1];exact AaU (by omega) [1] _
 have h2:AQ b (1+(Ag t.length).length) t.length=some (t,1+(Ag t.length).length+(BD (t.map CA)).length):=by
  have h:=LK kR ([1]++Ag t.length) (AnG w :: Ba xs w);rw [<- e2,<- e1,<- hb] at h;simp only [Anp,AnQ,AoJ,AnS] at h;rw [show 0+1+(Ag t.length).length=1+(Ag t.length).length by omega] at h;rw [h];have:(t.map CA).map bl=t:=by
   rw [List.map_map];have:(bl ∘ CA)=id:=by funext x;exact Dq x
   rw [this,List.map_id]
  rw [this]
 obtain⟨q,hq⟩:∃ q,q=1+(Ag t.length).length+(BD (t.map CA)).length:=⟨_,rfl⟩;have e3:b=((1 :: Ag t.length)++BD (t.map CA))++(AnG w :: Ba xs w):=by rw [hb];simp
 have nN:q=((1 :: Ag t.length)++BD (t.map CA)).length:=by rw [hq];simp;omega
 have hlen:b.length=q+1+(Ba xs w).length:=by rw [e3,Anp,<- nN,AnQ];omega
 have hg:b.getD q 0=AnG w:=by
  rw [e3,nN];simp [List.getD]
 have hd:b.drop (q+1)=Ba xs w:=by
  rw [e3,nN,<- List.drop_drop,AoL];rfl
 have yZ:(AnG w).toNat=w:=D4 (by omega);rw [<- hq] at h2;rw [<- hb];simp only [DI,h1,h2,AoG,hg,hd,yZ];rw [if_neg (by omega),if_neg (by omega)];have iB:BB (Ba xs w) ls.length w=xs:=by rw [<- dM];exact LL bS
 have dR:IH (ls.length:Int) (w:Int)/\UL (Ba xs w) ls.length w:=by
  refine⟨⟨by omega,by omega,by omega,by omega⟩,?_,?_⟩
  ·rw [CH,dM]
  ·rw [iB]
 rw [if_pos dR,iB];unfold AhK;rw [if_pos (by rw [bV];exact Wq ht),bV];congr 1;unfold BA;rw [List.map_map];apply List.map_congr_left;intro s hs;have hm:bl s∈t:=(ht.mem _).2 (Ang.2 ⟨s,hs,rfl⟩);have hi:=List.idxOf_lt_length_of_mem hm;simp only [Function.comp];simp [List.getD,hi,List.getElem_idxOf]
theorem Aam{ls:List ByteArray}{b:List UInt8}(ar:ED 0 ls)(h:Fl ls 0 b):(AQ b 1 ls.length).map (·.1)=some (ls.map bl):=by
 cases h with
 | plain =>
 have h:=LK (HI ar.2.2.2) [0] [];simp only [List.append_nil] at h;have e:[0]++BD ls=0 :: BD ls:=rfl;rw [e] at h;have e1:([0]:List UInt8).length=1:=rfl;rw [e1] at h;rw [h];rfl
structure Hv(l:List UInt8)(n:Nat)(ls:List ByteArray):Prop where
 len:ls.length=n
 ok:ED ((l.getD 0 0).toNat:Int) ls
 enc:Fl ls ((l.getD 0 0).toNat:Int) l
def Lm(l:List UInt8)(n:Nat):Option (List (List UInt8)):=if l.getD 0 0=0 then (AQ l 1 n).map (·.1) else DI l n
theorem Hv.reads{l:List UInt8}{n:Nat}{ls:List ByteArray}(h:Hv l n ls):Lm l n=some (ls.map bl):=by
 obtain⟨rfl,ok,enc⟩:=h;unfold Lm;by_cases h0:l.getD 0 0=0
 ·rw [if_pos h0];rw [h0] at ok enc;exact Aam ok enc
 ·rw [if_neg h0];have h1:((l.getD 0 0).toNat:Int)=1:=by
   have h2:=ok.1;have h3:=ok.2.1;have:(l.getD 0 0).toNat≠0:=λ h=>h0 (UInt8.toNat_inj.1 h);omega
  rw [h1] at ok enc;exact AaT ok enc
theorem Hv.one{l:List UInt8}{n:Nat}{ls ms:List ByteArray}(h:Hv l n ls)(h':Hv l n ms):ls=ms:=by
 have:=Option.some.inj (h.reads.symm.trans h'.reads);have:=congrArg (List.map CA) this;rwa [Ni,Ni] at this
theorem AcH{l:List UInt8}{n:Nat}{ms:List (List UInt8)}(h:DI l n=some ms):ms.length=n:=by
 unfold DI at h;obtain⟨x,_,h⟩:=Option.bind_eq_some_iff.1 h;split at h
 ·cases h
 ·obtain⟨y,_,h⟩:=Option.bind_eq_some_iff.1 h;split at h
  ·cases h
  ·split at h
   ·unfold AhK at h;split at h
    ·cases h;simp [BB]
    ·cases h
   ·cases h
theorem Ae4{l:List UInt8}{n:Nat}{ms:List (List UInt8)}(h:Lm l n=some ms):ms.length=n:=by
 unfold Lm at h;split at h
 ·obtain⟨r,hr,rfl⟩:=Aok.1 h;exact JD hr
 ·exact AcH h
structure WU(B:Nat)(w:World)(ns:List Int)(na:Option Addr)(nc:Nat)(ss:List ByteArray)(sa:Option Addr)(sc:Nat):Prop where
 rn:Row w ty.int64 1 na ns.length nc (ns.map DK)
 rs:Row w ty.string 1 sa ss.length sc (ss.map Value.string)
 nn:∀ x,AG na=some x->B<=x
 sn:∀ x,AG sa=some x->B<=x
 ne:∀ x,AG na=some x->AG sa≠some x
theorem WU.nil(B:Nat)(w:World):WU B w [] none 0 [] none 0:=⟨Row.nil _ _ _,Row.nil _ _ _,by simp [AG],by simp [AG],by simp [AG]⟩
section
variable {B:Nat}{w w':World}{ns:List Int}{na:Option Addr}{nc:Nat}{ss:List ByteArray}{sa:Option Addr}{sc:Nat}
theorem WU.keeps(h:WU B w ns na nc ss sa sc){F:Nat->Prop}(K:Ae F w w')(hF:∀ x,F x->x<B\/w.heap.size<=x):WU B w' ns na nc ss sa sc :=
 ⟨h.rn.keeps K λ x hx hf=>by have:=h.nn x hx;have:=h.rn.lt hx;have:=hF x hf;omega,h.rs.keeps K λ x hx hf=>by have:=h.sn x hx;have:=h.rs.lt hx;have:=hF x hf;omega,h.nn,h.sn,h.ne⟩
theorem WU.grown(h:WU B w ns na nc ss sa sc)(hb:Below w.heap.size w w'):WU B w' ns na nc ss sa sc:=h.keeps (F:=λ _=>False) (Ae.Al hb) (by simp)
theorem Am3:Ia Tryz.prog ty.AY=some (ty.int64,1,8,.int .i64 0):=by kernel_rfl
theorem WU.Akf(h:WU B w ns na nc ss sa sc)(hB:B<=w.heap.size)(hl:ns.length<=1000000){x:Int}{b:Nat}{t:TypeId}(hb:w.heap[b]?=some (.cells #[DK x] t (0,0))){f:Value->World->Prop}
  (hf:∀ a' c' w',WU B w' (ns++[x]) a' c' ss sa sc->Ae (λ k=>AG na=some k) w w'->f (.slice a' (ns++[x]).length c') w'):CD Tryz.prog (Builtin.append_ #[ty.AY,ty.AY] ty.AY #[.slice na ns.length nc,.slice (some ⟨b,0,none⟩) 1 1]) f w:=by
 have aZ:Rd w (some ⟨b,0,none⟩) ([x].map DK):=by
  have:=Rd.Ak hb;simpa using this
 obtain⟨a5,c5,w2,aD,aG,dF,hnw⟩:=Bq (ty:=ty.AY) (mc:=1) Am3 rfl (by omega) (by omega) h.rn aZ (m:=1) rfl (by simp [DK];rfl) (by omega);unfold CD;rw [aD];have e:ns.length+1=(ns++[x]).length:=by simp
 rw [e] at aG ⊢;refine hf a5 c5 w2 ⟨by rw [Aov];exact aG,h.rs.keeps dF λ k hk hr=>h.ne k hr hk,λ k hk=>?_,h.sn,λ k hk hs=>?_⟩ dF
 ·rcases hnw k hk with h1 | h1
  ·exact h.nn k h1
  ·omega
 ·rcases hnw k hk with h1 | h1
  ·exact h.ne k h1 hs
  ·have:=h.rs.lt hs;omega
theorem WU.Akg(h:WU B w ns na nc ss sa sc)(hB:B<=w.heap.size)(hl:ss.length<=1000000){x:ByteArray}{b:Nat}{t:TypeId}(hb:w.heap[b]?=some (.cells #[.string x] t (0,0))){f:Value->World->Prop}
  (hf:∀ a' c' w',WU B w' ns na nc (ss++[x]) a' c'->Ae (λ k=>AG sa=some k) w w'->f (.slice a' (ss++[x]).length c') w'):CD Tryz.prog (Builtin.append_ #[ty.BC,ty.BC] ty.BC #[.slice sa ss.length sc,.slice (some ⟨b,0,none⟩) 1 1]) f w:=by
 have aZ:Rd w (some ⟨b,0,none⟩) ([x].map Value.string):=by
  have:=Rd.Ak hb;simpa using this
 obtain⟨a5,c5,w2,aD,aG,dF,hnw⟩:=Bq (ty:=ty.BC) (mc:=1) tS rfl (by omega) (by omega) h.rs aZ (m:=1) rfl (by simp;rfl) (by omega);unfold CD;rw [aD];have e:ss.length+1=(ss++[x]).length:=by simp
 rw [e] at aG ⊢;refine hf a5 c5 w2 ⟨h.rn.keeps dF λ k hk hr=>h.ne k hk hr,by rw [Aov];exact aG,h.nn,λ k hk=>?_,λ k hk hs=>?_⟩ dF
 ·rcases hnw k hk with h1 | h1
  ·exact h.sn k h1
  ·omega
 ·rcases hnw k hs with h1 | h1
  ·exact h.ne k hk h1
  ·have:=h.rn.lt hk;omega
end
def CW(ls:List Ax):List Int:=(AP ls).map (·.2.1)
def Bs(ls:List Ax):List ByteArray:=(AP ls).map (·.2.2)
theorem Qd(ls:List Ax):(CW ls).length<=ls.length:=by unfold CW AP;rw [AnS];exact List.length_filter_le ..
theorem JE(ls:List Ax):(Bs ls).length<=ls.length:=by unfold Bs AP;rw [AnS];exact List.length_filter_le ..
theorem Wj{ls:List Ax}{i:Nat}(hi:i<ls.length):(ls[i].1=0->CW (ls.take (i+1))=CW (ls.take i)/\Bs (ls.take (i+1))=Bs (ls.take i)) /\
  (ls[i].1≠0->CW (ls.take (i+1))=CW (ls.take i)++[ls[i].2.1]/\Bs (ls.take (i+1))=Bs (ls.take i)++[ls[i].2.2]):=by
 unfold CW Bs;rw [Ds hi];constructor
 ·intro h;simp [h]
 ·intro h;simp [h]
inductive Gp (kind:Int) (ls:List Ax):List UInt8->Prop
 | text (h:kind=3) (b0 b1:List UInt8) (h0:Fl (Bs ls) 0 b0) (h1:Fl (Bs ls) 1 b1):Gp kind ls (if b1.length<b0.length then b1 else b0)
 | num (h:kind≠3):Gp kind ls (DR (VK (CW ls)) (CW ls))
theorem Gp.one{kind:Int}{ls:List Ax}{b c:List UInt8}(h:Gp kind ls b)(h':Gp kind ls c):b=c:=by
 cases h with
 | text h b0 b1 h0 h1 =>
  cases h' with
  | text k c0 c1 k0 k1=>rw [h0.one k0,h1.one k1]
  | num k=>exact absurd h k
 | num h =>
  cases h' with
  | text k c0 c1 k0 k1=>exact absurd k h
  | num k=>rfl
structure Bi(kind:Int)(ls:List Ax):Prop where
 right:DU kind ls=true
 ok:∀ v∈ls,Eb v
theorem Bi.len{kind:Int}{ls:List Ax}(h:Bi kind ls):ls.length<=1024:=by
 have:=h.right;simp [DU] at this;omega
theorem Bi.kind{kind:Int}{ls:List Ax}(h:Bi kind ls):1<=kind/\kind<=3:=by
 have:=h.right;simp [DU] at this;omega
theorem Bi.all{kind:Int}{ls:List Ax}(h:Bi kind ls):∀ v∈ls,okV kind v=true:=by
 have:=h.right;simp only [DU,Ana,An9] at this;exact this.1
theorem Bi.Ai6{kind:Int}{ls:List Ax}(h:Bi kind ls):∀ x∈CW ls,Hw x:=by
 intro x hx;obtain⟨v,hv,rfl⟩:=Ang.1 hx;have:=h.ok v (List.mem_filter.1 hv).1;exact⟨this.lo,this.hi⟩
theorem Bi.texts{kind:Int}{ls:List Ax}(h:Bi kind ls):Q7 (Bs ls)=false:=by
 unfold Q7;rw [List.any_eq_false];intro s hs;obtain⟨v,hv,rfl⟩:=Ang.1 hs;have:=h.all v (List.mem_filter.1 hv).1;simp only [okV,Ana] at this;have hr:=this.1;simp only [decide_eq_true_eq];unfold AL at hr;have hE:∀ s:ByteArray,s=E0->s.size=0:=by rintro s rfl;rfl
 split at hr
 ·simp at hr;have:=hE _ hr.2;omega
 ·split at hr
  ·simp at hr;have:=hE _ hr;omega
  ·split at hr
   ·simp at hr;have:=hE _ hr.2;omega
   ·split at hr
    ·simp at hr;omega
    ·cases hr
theorem Bi.enc{kind:Int}{ls:List Ax}(h:Bi kind ls)(f:Int)(hf:0<=f/\f<=1):ED f (Bs ls):=⟨hf.1,hf.2,by have:=JE ls;have:=h.len;omega,h.texts⟩
theorem Fl.len{f:Int}{ls:List ByteArray}{b:List UInt8}(ar:ED f ls)(h:Fl ls f b):b.length<=60000+ls.length*1034:=by
 obtain⟨_,_,hn,dU⟩:=ar;have hz:=HI dU;cases h with
 | plain =>
  have:=Iw hz;simp only [AnQ];omega
 | table t w ht hw =>
  have fE:t.length<=ls.length:=by
   have:=LZ (KT ht.up) (λ x hx=>(ht.mem x).1 hx);simpa using this
  have kR:∀ s∈t.map CA,s.size<=1024:=by
   intro s hs;obtain⟨x,hx,rfl⟩:=Ang.1 hs;obtain⟨s',de,rfl⟩:=Ang.1 ((ht.mem x).1 hx);rw [DH];exact hz s' de
  have l1:=Iw kR;rw [AnS] at l1;have l2:=Aq (n:=t.length) (by omega);have nY:w<=13:=hw.le.2 ((Jo _ _).2 λ x hx=>by
   obtain⟨s,hs,rfl⟩:=Ang.1 hx;have:=List.idxOf_le_length (l:=t) (a:=bl s);omega)
  have bS:(BA t ls).length=ls.length:=by simp [BA]
  have l3:(BA t ls).length*w<=4096*13:=Nat.mul_le_mul (by omega) nY;simp only [Anp,AnQ,CH];unfold EI;omega
theorem Gp.len{kind:Int}{ls:List Ax}{b:List UInt8}(hg:Bi kind ls)(h:Gp kind ls b):b.length<=2000000:=by
 have l1:=JE ls;have l2:=Qd ls;have l3:=hg.len;cases h with
 | text h b0 b1 h0 h1 =>
  have k0:=h0.len (hg.enc 0 (by omega));have k1:=h1.len (hg.enc 1 (by omega));split <;> omega
 | num h =>
  have:=AeI (VK (CW ls)) (by omega) hg.Ai6;omega
section
variable {w:World}{a:Option Addr}{c:Nat}{ls:List Ax}
end
section
variable {w:World}{a:Option Addr}{c:Nat}{ls:List Ax}
theorem PG{kind:Int}(hg:Bi kind ls)(hl:Rd w a (AW ls)) :
  Calls Tryz.prog f.U4 #[.int .i64 kind,.slice a ls.length c] w (AB λ v w'=>∃ b a' c',v=.slice a' b.length c'/\Gp kind ls b/\Dh w w' b a' c'):=by
 have hlen:=hg.len;apply R.Ma
 delta R.A R.Ab R.J9 R.BL R.Cf R.D R.E R.F R.I R.J R.Ks R.Li R.Ls R.Lt R.N R.O R.S R.Ah R.T;try dsimp only [R.Ps]
 refine (SH.start (λ _=>False) w).Aj λ b3 w1 cf B1 S1=>S1.Aj λ b4 w2 jM B2 S2=>Mx.mono ?_;rintro _ w9 ⟨_,rfl,bI,rfl,P9⟩;refine⟨_,_,_,rfl,by kernel_rfl,λ rr aA bJ hy=>?_⟩;obtain⟨W1,hW1⟩:∃ W1,W1=(w9.alloc (.deferred (some []))).alloc (.loop rr):=⟨_,rfl⟩;rw [<- hW1];have eM:Below w9.heap.size w9 W1:=by rw [hW1];exact (((Below.refl _ w9).alloc (Nat.le_refl _) _).alloc (by simp) _)
 have oh:W1.heap.size=w9.heap.size+2:=by rw [hW1];simp
 have fM:W1.heap[w9.heap.size+1]?=some (.loop rr):=by
  rw [hW1];have:=World.alloc_heap_new (w9.alloc (.deferred (some []))) (.loop rr);rwa [World.size_alloc] at this
 have i':W1.heap[w9.heap.size]?=some (.deferred (some [])):=by
  rw [hW1];exact (Below.heap_alloc _ _ _ (by simp)).trans (World.alloc_heap_new w9 _)
 have dP:=Ae.Al (F:=λ _=>False) eM;obtain⟨L,hLd⟩:∃ L,L=w9.heap.size+1:=⟨_,rfl⟩;rw [<- hLd] at fM hy ⊢;have S9:=S2.grown P9.below;have zf:=S9.lt (x:=(b3,_,_)) (AnU _ (AnT ..));have zg:=S9.lt (x:=(b4,_,_)) (AnT ..);have gb:b4≠b3:=S9.ne 0 1 rfl rfl (by decide);have Bw9:Below w.heap.size w w9:=S9.below;have Bw1:Below w.heap.size w W1:=Bw9.trans (eM.mono Bw9.size);have uY:=Bw9.size;have qW:w.heap.size<=b3:=cf;have mP:w.heap.size<=b4:=by have:=B1.size;omega
 let F:Nat->Prop:=λ x=>x=b3\/x=b4\/x=L;let J:Nat->World->Prop:=λ q wx=>Ae F W1 wx/\wx.heap[L]?=some (.loop rr)/\∃ na nc sa sc,wx.heap[b3]?=some (.cells #[.slice na (CW (ls.take q)).length nc] ty.AY (0,0)) /\
  wx.heap[b4]?=some (.cells #[.slice sa (Bs (ls.take q)).length sc] ty.BC (0,0))/\WU W1.heap.size wx (CW (ls.take q)) na nc (Bs (ls.take q)) sa sc
 have low:∀ {w':World},Ae F W1 w'->Below w.heap.size w w':=λ K=>Bw1.trans (K.below Bw1.size λ k hk h=>by
  rcases h with h | h | h <;> omega)
 have hI:W1.cell? ⟨bI,0,none⟩=some (.slice a ls.length c):=cell0 (dP.at (P9.get 0 rfl) (by simp));have aj:=TJ (w:=W1) (L:=L) (b:=bI) (by omega) J (λ q wx hj=>hl.grown (low hj.1)) (λ q wx wy hj B=>by
   obtain⟨j1,j2,na,nc,sa,sc,j3,j4,j5⟩:=hj;have K:=Ae.Al (F:=λ _=>False) B;exact⟨j1.trans K (λ x _ h=>h.elim),K.at j2 (by simp),na,nc,sa,sc,K.at j3 (by simp),K.at j4 (by simp),j5.grown B⟩) (λ q wx hq hz hj=>by
   obtain⟨j1,j2,na,nc,sa,sc,j3,j4,j5⟩:=hj;obtain⟨e1,e2⟩:=(Wj hq).1 hz;exact⟨j1,j2,na,nc,sa,sc,by rw [e1];exact j3,by rw [e2];exact j4,by rw [e1,e2];exact j5⟩) (by
  rintro q wx hq aQ ⟨K,hL,na,nc,sa,sc,g3,g4,hT⟩;obtain⟨e1,e2⟩:=(Wj hq).2 aQ;have nE:=Qd (ls.take q);have kL:=JE (ls.take q);rw [Anw] at nE kL;refine hy _ _ _ _ wx hL ?_;refine (SH.start (λ _=>False) wx).KQ λ iU w8 xM B8 S8=>?_;have K8:=Ae.Al (F:=λ _=>False) B8;have te:=K8.at hL (by simp);refine⟨te,?_⟩;obtain⟨wB,hwB⟩:∃ wB,wB=w8.putObj L (.loop { rr with state:=.busy }):=⟨_,rfl⟩;rw [<- hwB];have dZ:L<w8.heap.size:=(AnV.1 te).1;have KB:Ae (λ k=>k=L) w8 wB:=by rw [hwB];exact Ay _ _ _
  have qD:wB.heap[L]?=some (.loop { rr with state:=.busy }):=by rw [hwB];exact World.putObj_heap_same dZ
  unfold WM;obtain⟨wD,hwD⟩:∃ wD,wD=wB.drew:=⟨_,rfl⟩;rw [<- hwD];have KD:Ae (λ _=>False) wB wD:=by rw [hwD];exact (Ae.refl _ _).drew
  have sx:=K.size;have s8:=B8.size;have d3:wD.heap[b3]?=some (.cells #[.slice na (CW (ls.take q)).length nc] ty.AY (0,0)):=KD.at (KB.at (K8.at g3 (by simp)) (by show ¬ b3=L;omega)) (by simp);have d4:wD.heap[b4]?=some (.cells #[.slice sa (Bs (ls.take q)).length sc] ty.BC (0,0)):=KD.at (KB.at (K8.at g4 (by simp)) (by show ¬ b4=L;omega)) (by simp);have dL:wD.heap[L]?=some (.loop { rr with state:=.busy }):=KD.at qD (by simp);have d11:wD.heap[iU]?=some (.cells #[.int .i64 ls[q].1,.int .i64 ls[q].2.1,.string ls[q].2.2] ty.AD (0,0)):=KD.at (KB.at (S8.get 0 rfl) (by show ¬ iU=L;omega)) (by simp);have dT:WU W1.heap.size wD (CW (ls.take q)) na nc (Bs (ls.take q)) sa sc:=((hT.grown B8).keeps KB (λ x hx=>.inl (by omega))).keeps KD (by simp);have dK:Ae F W1 wD:=((K.trans K8 (λ x _ h=>h.elim)).trans KB (λ x _ h=>.inr (.inr h))).trans KD (λ x _ h=>h.elim);have l3:b3<W1.heap.size:=by omega
  have l4:b4<W1.heap.size:=by omega
  have lL:L<W1.heap.size:=by omega
  have l11:W1.heap.size<=iU:=by omega
  have fin:∀(wy:World) (oY:Option Addr) (oZ:Nat) (oe:Option Addr) (og:Nat),Ae F W1 wy->wy.heap[L]?=some (.loop { rr with state:=.busy })->wy.heap[b3]?=some (.cells #[.slice na (CW (ls.take q)).length nc] ty.AY (0,0)) ->
    wy.heap[b4]?=some (.cells #[.slice sa (Bs (ls.take q)).length sc] ty.BC (0,0))->WU W1.heap.size wy (CW (ls.take q)++[ls[q].2.1]) oY oZ (Bs (ls.take q)++[ls[q].2.2]) oe og ->
    Cd ⟨b3,0,none⟩ (.slice oY (CW (ls.take q)++[ls[q].2.1]).length oZ) (λ ay=>Cd ⟨b4,0,none⟩ (.slice oe (Bs (ls.take q)++[ls[q].2.2]).length og) (λ dY=>Bv rr L (λ y w'=>y=true/\(Ae F W1 w'/\w'.heap[L]?=some (.loop rr)/\∃ na nc sa sc,w'.heap[b3]?=some (.cells #[.slice na (CW (ls.take (q+1))).length nc] ty.AY (0,0)) /\
  w'.heap[b4]?=some (.cells #[.slice sa (Bs (ls.take (q+1))).length sc] ty.BC (0,0))/\WU W1.heap.size w' (CW (ls.take (q+1))) na nc (Bs (ls.take (q+1))) sa sc)) none dY) ay) wy:=by
   intro wy oY oZ oe og yK yL y3 y4 yT;refine Fb y3 (by simp) λ wz Kz z3=>Fb (Kz.at y4 gb) (by simp) λ wq Kq q4=>?_;have qL:wq.heap[L]?=some (.loop { rr with state:=.busy }):=Kq.at (Kz.at yL (by show ¬ L=b3;omega)) (by show ¬ L=b4;omega);refine⟨qL,rfl,?_⟩;rw [H6 aA bJ];have lq:L<wq.heap.size:=(AnV.1 qL).1;have KP:=Ay wq L (.loop rr);have q3:=Kq.at z3 (show ¬ b3=b4 from λ h=>gb h.symm);refine⟨((yK.trans Kz (λ x _ h=>.inl h)).trans Kq (λ x _ h=>.inr (.inl h))).trans KP (λ x _ h=>.inr (.inr h)),World.putObj_heap_same lq,oY,oZ,oe,og,?_,?_,?_⟩
   ·rw [e1];exact KP.at q3 (by show ¬ b3=L;omega)
   ·rw [e2];exact KP.at q4 (by show ¬ b4=L;omega)
   ·rw [e1,e2];exact ((yT.keeps Kz (λ x hx=>.inl (by omega))).keeps Kq (λ x hx=>.inl (by omega))).keeps KP (λ x hx=>.inl (by omega))
  have c9:∀ {x:Nat},x<W1.heap.size->¬ AG na=some x:=λ hx h=>by have:=hT.nn _ h;omega
  have cW:∀ {x:Nat},x<W1.heap.size->¬ AG sa=some x:=λ hx h=>by have:=hT.sn _ h;omega
  have sB:w8.heap.size<=wB.heap.size:=KB.size;have sD:wB.heap.size<=wD.heap.size:=KD.size;have pQ:wD.cell? ⟨iU,1,none⟩=some (.int .i64 ls[q].2.1):=by simp [World.cell?,d11]
  have pR:wD.cell? ⟨iU,2,none⟩=some (.string ls[q].2.2):=by simp [World.cell?,d11]
  refine⟨_,_,_,cell0 d3,_,pQ,_,_,_,cell0 d4,_,pR,?_,?_⟩
  ·refine (SH.start (λ _=>False) wD).Aj λ eR wE mH BE SE=>?_;have KE:=Ae.Al (F:=λ _=>False) BE;have f3:=KE.at d3 (by simp);have f4:=KE.at d4 (by simp);have fL:=KE.at dL (by simp);have f11:=KE.at d11 (by simp);have fT:=dT.grown BE;have fK:Ae F W1 wE:=dK.trans KE (λ x _ h=>h.elim);have sE:=BE.size;refine⟨by simp [World.cell?,f11],cell0 f4,cell0 f3,?_,?_⟩
   ·refine fT.Akf (by omega) (by omega) (SE.get 0 rfl) λ aN cN wN hN KN=>⟨_,_,_,rfl,?_⟩;have n11:¬ AG na=some iU:=λ h=>by have:=hT.rn.lt h;omega
    have m11:=KN.at f11 n11;have m3:=KN.at f3 (c9 l3);have m4:=KN.at f4 (c9 l4);have mL:=KN.at fL (c9 lL);have mK:Ae F W1 wN:=fK.trans KN (λ x hx h=>absurd h (c9 hx));have sN:=KN.size;refine⟨by simp [World.cell?,m11],cell0 m4,(SH.start (λ _=>False) wN).Aj λ zL wO mJ BO SO=>⟨cell0 ((Ae.Al (F:=λ _=>False) BO).at m4 (by simp)),?_⟩⟩;have KO:=Ae.Al (F:=λ _=>False) BO;have sO:=BO.size;refine (hN.grown BO).Akg (by omega) (by omega) (SO.get 0 rfl) λ aS cS wS hS KS=>⟨_,_,_,rfl,?_⟩;refine fin wS aN cN aS cS ((mK.trans KO (λ x _ h=>h.elim)).trans KS (λ x hx h=>absurd h (cW hx))) (KS.at (KO.at mL (by simp)) (cW lL)) (KS.at (KO.at m3 (by simp)) (cW l3)) (KS.at (KO.at m4 (by simp)) (cW l4)) hS
   ·refine (SH.start (λ _=>False) wE).Aj λ vo wO xO BO SO=>?_;have KO:=Ae.Al (F:=λ _=>False) BO;have sO:=BO.size;have o3:=KO.at f3 (by simp);have o4:=KO.at f4 (by simp);have oL:=KO.at fL (by simp);have yp:wO.heap[eR]?=some (.cells #[.int .i64 ls[q].2.1] ty.int64 (0,0)):=KO.at (SE.get 0 rfl) (by simp);have oK:Ae F W1 wO:=fK.trans KO (λ x _ h=>h.elim);refine⟨cell0 o4,cell0 o3,(fT.grown BO).Akf (by omega) (by omega) yp λ aN cN wN hN KN=>⟨_,_,_,rfl,cell0 (KN.at o4 (c9 l4)),?_⟩⟩;have n22:¬ AG na=some vo:=λ h=>by have:=hT.rn.lt h;omega
    have sN:=KN.size;refine hN.Akg (by omega) (by omega) (KN.at (SO.get 0 rfl) n22) λ aS cS wS hS KS=>⟨_,_,_,rfl,?_⟩;exact fin wS aN cN aS cS ((oK.trans KN (λ x hx h=>absurd h (c9 hx))).trans KS (λ x hx h=>absurd h (cW hx))) (KS.at (KN.at oL (c9 lL)) (cW lL)) (KS.at (KN.at o3 (c9 l3)) (cW l3)) (KS.at (KN.at o4 (c9 l4)) (cW l4)) hS
  ·refine (SH.start (λ _=>False) wD).Aj λ lU wE xP BE SE=>?_;have KE:=Ae.Al (F:=λ _=>False) BE;have f3:=KE.at d3 (by simp);have f4:=KE.at d4 (by simp);have fL:=KE.at dL (by simp);have f11:=KE.at d11 (by simp);have fT:=dT.grown BE;have fK:Ae F W1 wE:=dK.trans KE (λ x _ h=>h.elim);have sE:=BE.size;refine⟨cell0 f4,by simp [World.cell?,f11],cell0 f3,(SH.start (λ _=>False) wE).Aj λ zN wO ig BO SO=>?_⟩;have KO:=Ae.Al (F:=λ _=>False) BO;have sO:=BO.size;have o3:=KO.at f3 (by simp);have o4:=KO.at f4 (by simp);have oL:=KO.at fL (by simp);have yq:wO.heap[lU]?=some (.cells #[.string ls[q].2.2] ty.string (0,0)):=KO.at (SE.get 0 rfl) (by simp);have oK:Ae F W1 wO:=fK.trans KO (λ x _ h=>h.elim);refine⟨cell0 o4,cell0 o3,(fT.grown BO).Akf (by omega) (by omega) (SO.get 0 rfl) λ aN cN wN hN KN=>⟨_,_,_,rfl,cell0 (KN.at o4 (c9 l4)),?_⟩⟩;have n27:¬ AG na=some lU:=λ h=>by have:=hT.rn.lt h;omega
   have sN:=KN.size;refine hN.Akg (by omega) (by omega) (KN.at yq n27) λ aS cS wS hS KS=>⟨_,_,_,rfl,?_⟩;exact fin wS aN cN aS cS ((oK.trans KN (λ x hx h=>absurd h (c9 hx))).trans KS (λ x hx h=>absurd h (cW hx))) (KS.at (KN.at oL (c9 lL)) (cW lL)) (KS.at (KN.at o3 (c9 l3)) (cW l3)) (KS.at (KN.at o4 (c9 l4)) (cW l4)) hS)
  ⟨.refl _ _,fM,none,0,none,0,dP.at (S9.get 1 rfl) (by simp),dP.at (S9.get 0 rfl) (by simp),WU.nil _ _⟩ hI
 refine aj.mono ?_;rintro _ bF ⟨_,rfl,gS,cQ,na,nc,sa,sc,g3,g4,hT⟩;rw [List.take_length] at g3 g4 hT;refine⟨⟨_,rfl⟩,none,by rw [H6 aA bJ];exact cQ,rfl,?_⟩;obtain⟨ay,hw15⟩:∃ ay,ay=bF.putObj L (.loop { rr with state:=.exhausted,pending:=none }):=⟨_,rfl⟩;rw [<- hw15];have eN:Ae (λ k=>k=L) bF ay:=by rw [hw15];exact Ay _ _ _
 have KF:=gS.trans eN (λ x _ h=>.inr (.inr h));have lY:=eN.at g3 (show ¬ b3=L by omega);have tY:=eN.at g4 (show ¬ b4=L by omega);have eE:=hT.keeps eN (λ x hx=>.inl (by omega));have eT:ay.heap[w9.heap.size]?=some (.deferred (some [])):=KF.at i' (by show ¬ (w9.heap.size=b3\/w9.heap.size=b4\/w9.heap.size=L);omega);have eL:=low KF;have nF:(Bs ls).length<=9223372036854775807:=by have:=JE ls;omega
 have uD:(CW ls).length<=4096:=by have:=Qd ls;omega
 have s15:=KF.size;have lX:∀ {wz:World} {b:List UInt8} {az:Option Addr} {cz:Nat},Dh ay wz b az cz->wz.heap[w9.heap.size]?=some (.deferred (some []))/\Dh w (wz.putObj w9.heap.size (.deferred none)) b az cz:=by
  intro wz b az cz hN;have KP:=Ay wz w9.heap.size (.deferred none);have hB:=Ac eL hN.An;refine⟨(Ae.Al (F:=λ _=>False) hN.An).at eT (by simp),hN.row.keeps KP λ x hx he=>by have:=hN.new x hx;omega,λ k hk=>by have:=hN.new k hk;omega,hB.trans (KP.below hB.size λ k hk he=>by omega)⟩
 refine Az (λ h3=>⟨_,_,_,cell0 tY,?_⟩) (λ h3=>⟨_,_,_,cell0 lY,?_⟩)
 ·refine (W8 eE.rs.rd nF).mono ?_;rintro _ jE ⟨_,rfl,hB,jF⟩;rcases hB with ⟨bC,_⟩ | ⟨b0,b1,h0,h1,_,rfl⟩
  ·exact absurd (hg.enc 0 (by omega)) bC
  refine⟨_,_,rfl,_,_,_,cell0 ((Ae.Al (F:=λ _=>False) jF).at tY (by simp)),?_⟩;have hf:0<=(if b1.length<b0.length then (1:Int) else 0)/\(if b1.length<b0.length then (1:Int) else 0)<=1:=by split <;> omega
  refine (EV _ (eE.rs.rd.grown jF) nF).mono ?_;rintro _ nu ⟨_,rfl,hE⟩;rcases hE with ⟨bC,_⟩ | ⟨_,b,az,cz,hE,rfl,hN⟩
  ·exact absurd (hg.enc _ hf) bC
  obtain⟨q1,q2⟩:=lX (hN.before jF);refine⟨_,_,_,_,rfl,q1,b,az,cz,rfl,?_,q2⟩;have:=Gp.text (kind:=kind) (ls:=ls) h3 b0 b1 h0 h1;split at hE
  ·rename_i aB;rw [if_pos aB] at this;rw [hE.one h1];exact this
  ·rename_i aB;rw [if_neg aB] at this;rw [hE.one h0];exact this
 ·refine (Xx eE.rn.rd eE.rn.le uD hg.Ai6).mono ?_;rintro _ jE ⟨_,rfl,rfl,jF⟩;refine⟨_,_,rfl,_,_,_,cell0 ((Ae.Al (F:=λ _=>False) jF).at lY (by simp)),(GX _ (eE.rn.rd.grown jF) eE.rn.le hg.Ai6).mono ?_⟩;rintro _ nu ⟨_,rfl,hE⟩;obtain⟨az,cz,rfl,hN⟩:=QH.F9 (Ti _) uD hE;obtain⟨q1,q2⟩:=lX (hN.before jF);exact⟨_,_,_,_,rfl,q1,_,az,cz,rfl,.num h3,q2⟩
end
theorem X0(x:BitVec 32)(w:World)(b:Nat)(t:TypeId)(hb:w.heap[b]?=some (.cells #[.int .u8 (IntKind.u8.wrap (x.toNat:Int)),.int .u8 (IntKind.u8.wrap ((AoK (x.toNat:Int) (2 ^ (min 8 32))))),.int .u8 (IntKind.u8.wrap ((AoK (x.toNat:Int) (2 ^ (min 16 32))))),.int .u8 (IntKind.u8.wrap ((AoK (x.toNat:Int) (2 ^ (min 24 32)))))] t (0,0))) :
  Rd w (some ⟨b,0,none⟩) ((Ye x).map Af):=by
 have:=Rd.Ak hb;rw [AaX,NH,NH,NH] at this;exact this
def Fo(kind:Int)(ls:List Ax):List UInt8:=[AnG kind.toNat]++Ag ls.length++Ag (Av ls)
def Em(ls:List Ax):List UInt8:=if 0<Av ls/\Av ls<ls.length then Ba (Ce ls) 1 else []
structure L8(kind:Int)(ls:List Ax)(b:List UInt8):Prop where
 ex:∃ o,(Av ls<ls.length->Gp kind ls o)/\(¬ Av ls<ls.length->o=[])/\b=(Fo kind ls++Em ls++o)++Ye (crc (Fo kind ls++Em ls++o))
theorem L8.one{kind:Int}{ls:List Ax}{b c:List UInt8}(h:L8 kind ls b)(h':L8 kind ls c):b=c:=by
 obtain⟨o,h1,h2,rfl⟩:=h.ex;obtain⟨o',k1,k2,rfl⟩:=h'.ex;have:o=o':=by
  by_cases hn:Av ls<ls.length
  ·exact (h1 hn).one (k1 hn)
  ·rw [h2 hn,k2 hn]
 rw [this]
def ChV(kind:Int)(ls:List Ax)(w w':World)(r:Value):Prop :=
 (DU kind ls=false/\r=.tuple #[.slice none 0 0,.int .i64 2]/\Below w.heap.size w w')\/(DU kind ls=true/\∃ b a c,L8 kind ls b/\r=.tuple #[.slice a b.length c,.int .i64 0]/\Dh w w' b a c)
theorem V4{kind:Int}{ls:List Ax}(hg:Bi kind ls):(Fo kind ls).length<=21:=by
 have h1:=Aq (n:=ls.length) (by have:=hg.len;omega);have h2:=Aq (n:=Av ls) (by have:=hg.len;have:=EG ls;omega);simp only [Fo,Anp,AnQ,AoJ];omega
theorem Qa{kind:Int}{ls:List Ax}(hg:Bi kind ls):(Em ls).length<=200:=by
 have:=hg.len;unfold Em;split
 ·rw [CH];unfold EI;have:(Ce ls).length=ls.length:=by simp [Ce]
  rw [this];omega
 ·simp
theorem Ac1(ls:List Ax):∀ x∈Ce ls,x<2 ^ 1:=by
 intro x hx;obtain⟨v,_,rfl⟩:=Ang.1 hx;split <;> omega
section
variable {w:World}{a:Option Addr}{c:Nat}{ls:List Ax}
theorem JK(kind:Int)(hl:Rd w a (AW ls))(hn:ls.length<=9223372036854775807)(hv:∀ v∈ls,Eb v) :
  Calls Tryz.prog f.W2 #[.int .i64 kind,.slice a ls.length c] w (AB λ v w'=>ChV kind ls w w' v):=by
 apply R.MY
 delta R.A R.Ab R.B R.BL R.Cb R.Cs R.Cv R.F R.G R.H R.I R.J R.Ks R.Li R.Lt R.N R.O R.AlJ R.S R.Ah R.T R.U R.W R.Wb R.Wu R.X R.Zb R.Zs;try dsimp only [R.Ps]
 refine (Tm kind hl hn).mono ?_;rintro _ w1 ⟨_,rfl,rfl,B1⟩;refine⟨_,rfl,A5 (AU (λ hr=>?_) (λ hr=>.inl ⟨hr,rfl,B1⟩))⟩;have hg:Bi kind ls:=⟨hr,hv⟩;have hlen:=hg.len;have hk:=hg.kind;have er:=EG ls;refine⟨λ s w2=>∃(i:Nat) (ba:Option Addr) (bc:Nat),s=[.slice ba (Ce (ls.take i)).length bc,.int .i64 (Av (ls.take i):Int),.int .i64 (i:Int)]/\i<=ls.length/\PA w1 w2 (Ce (ls.take i)) ba bc,λ s _=>match s with
   | [_,_,.int _ i]=>ls.length-i.toNat
   | _=>0,⟨0,none,0,rfl,by omega,PA.nil w1⟩,?_⟩
 rintro ba _ bc _ _ w2 ⟨i,_,_,aA,hi,h2⟩;cases aA;have C2:=Ac B1 h2.An;refine Aa (λ aB=>⟨⟨by omega,aB⟩,?_⟩) (λ aL=>?_)
 ·have aF:i<ls.length:=by omega
  obtain⟨p,rfl,c0,c1,c2⟩:=FG (hl.grown C2) aF;have cI:(Ce (ls.take i)).length<=1024:=by simp [Ce];omega
  have iq:=EG (ls.take i);rw [Anw] at iq;have gQ:ls.length-((i+1:Nat):Int).toNat<ls.length-((i:Nat):Int).toNat:=by
   simp only [AnF];omega
  refine⟨_,by rw [AnF];exact c0,_,by rw [AnF];exact c1,_,by rw [AnF];exact c2,(SH.start (λ _=>False) w2).KQ λ vm w6 qS B6 S6=>⟨_,S6.cell 0 rfl rfl,?_⟩⟩;rw [Ai (by omega),Ai (by omega)];refine Az (λ hz=>?_) (λ hz=>?_)
  ·refine S6.Aj λ jI w7 qT B7 S7=>IX ((h2.grown B6).grown B7) (by omega) (x:=1) rfl (S7.get 0 rfl) λ a8 c8 w8 h8=>⟨_,_,_,rfl,⟨i+1,a8,c8,?_,by omega,?_⟩,gQ⟩
   ·rw [Q8 aF,IZ aF,if_pos hz]
   ·rw [IZ aF,if_pos hz];exact h8
  ·refine S6.Aj λ jI w7 qT B7 S7=>IX ((h2.grown B6).grown B7) (by omega) (x:=0) rfl (S7.get 0 rfl) λ a8 c8 w8 h8=>⟨_,_,_,rfl,⟨i+1,a8,c8,?_,by omega,?_⟩,gQ⟩
   ·rw [Q8 aF,IZ aF,if_neg hz];rfl
   ·rw [IZ aF,if_neg hz];exact h8
 have cL:ls.take i=ls:=Aoy (by omega);rw [cL] at h2 ⊢;have cI:(Ce ls).length=ls.length:=by simp [Ce]
 rw [Bh (by omega) (by omega)];refine (SH.start (λ _=>False) w2).Aj λ gK aW mM dO cF=>?_;have o5:=Ac C2 dO;have qE:Rd aW (some ⟨gK,0,none⟩) ([AnG kind.toNat].map Af):=by
  have:=Rd.Ak (cF.get 0 rfl);have e:Value.int .u8 kind=Af (AnG kind.toNat):=by
   have:=DO (x:=kind.toNat) (by omega);rw [<- this];congr 1;omega
  simpa [e] using this
 rw [Ar (by omega) (by omega)];refine (Bt (c:=1) [AnG kind.toNat] qE ls.length (by omega) (by simp)).mono ?_;rintro _ dN ⟨_,rfl,a12,pS,rfl,iY⟩;have d1:=Aq (n:=ls.length) (by omega);rw [Ar (by omega) (by omega)];refine⟨_,_,_,rfl,(Bt _ iY.rd (Av ls) (by omega) (by simp;omega)).mono ?_⟩;rintro _ bN ⟨_,rfl,lQ,oA,rfl,jK⟩;have uo:=Ac o5 iY.An;have iZ:=jK.before uo;have jQ:[AnG kind.toNat]++Ag ls.length++Ag (Av ls)=Fo kind ls:=rfl;rw [jQ] at iZ ⊢;have oO:=V4 hg;have jV:=Qa hg;refine⟨_,_,_,rfl,λ s gF=>∃(b:List UInt8) (ab:Option Addr) (cb:Nat),s=[.slice ab b.length cb]/\b=Fo kind ls++Em ls/\Dh w gF b ab cb,?_,?_⟩
 ·refine⟨λ s bF=>∃ t:Bool,s=[.bool t]/\bF=bN/\(t=true↔0<Av ls/\Av ls<ls.length),?_,?_⟩
  ·refine Aa (λ h=>⟨_,rfl,rfl,by simp;omega⟩) (λ h=>⟨_,rfl,rfl,by simp;omega⟩)
  rintro _ bF ⟨t,aA,rfl,ht⟩;cases aA;refine AU (λ h=>?_) (λ h=>?_)
  ·have dR:=ht.1 h;have aU:Rd bF ba ((Ce ls).map Hr):=((h2.row.rd.grown dO).grown iY.An).grown jK.An;refine (Jr (wd:=1) aU (by omega) (by omega) (Ac1 ls)).mono ?_;rintro _ ay ⟨_,rfl,zK,zT,rfl,iF⟩;have bS:(Ba (Ce ls) 1).length<=200:=by
    have:=Qa hg;unfold Em at this;rwa [if_pos dR] at this
   refine⟨_,_,_,_,rfl,ES (iZ.grown iF.An).row iF.rd (by omega) λ pM pT dY vP so vC=>⟨_,_,_,rfl,_,pM,pT,rfl,?_,iZ.Tf iF.An vP so vC⟩⟩;unfold Em;rw [if_pos dR]
  ·have dR:¬ (0<Av ls/\Av ls<ls.length):=λ hh=>by rw [ht.2 hh] at h;cases h
   refine⟨_,lQ,oA,rfl,?_,iZ⟩;unfold Em;rw [if_neg dR,List.append_nil]
 rintro ab _ cb gF ⟨b,_,_,aA,hb,ki⟩;cases aA;have mR:b.length<=221:=by rw [hb,Anp];omega
 refine⟨λ s iP=>∃(o b2:List UInt8) (ab:Option Addr) (cb:Nat),s=[.slice ab b2.length cb]/\b2=b++o/\o.length<=2000000/\(Av ls<ls.length->Gp kind ls o)/\(¬ Av ls<ls.length->o=[])/\Dh w iP b2 ab cb,?_,?_⟩
 ·refine Aa (λ h=>?_) (λ h=>⟨[],b,ab,cb,rfl,by simp,by simp,λ hh=>absurd hh (by omega),λ _=>rfl,ki⟩);refine (PG hg (hl.grown ki.An)).mono ?_;rintro _ gG ⟨_,rfl,o,tC,tM,rfl,hO,iG⟩;have dt:=hO.len hg;refine⟨_,_,_,rfl,ES (ki.grown iG.An).row iG.rd (by omega) λ vj wH jD vQ uv vD=>⟨_,_,_,rfl,o,_,vj,wH,rfl,rfl,dt,λ _=>hO,λ hh=>absurd (by omega) hh,ki.Tf iG.An vQ uv vD⟩⟩
 rintro tD _ tO iP ⟨o,b2,_,_,aA,d',dt,nJ,lA,jg⟩;cases aA;have xQ:b2.length<=2000221:=by rw [d',Anp];omega
 refine (SH.start (λ _=>False) iP).Aj λ vv iQ xV nw eC=>?_;have hS:=Aa7 (w:=iQ) (a:=some ⟨vv,0,none⟩) (c:=1) [(tD,tO,b2)] (by
  have:=Rd.Ak (eC.get 0 rfl);simpa [BQ] using this) (by
  intro p hp;rw [Aox.1 hp];exact jg.rd.grown nw) (by simp) (by
  intro p hp;rw [Aox.1 hp];simp only;omega)
 refine hS.mono ?_;rintro _ kZ ⟨_,rfl,rfl,rfl⟩;have ef:([(tD,tO,b2)]:List Hx).flatMap (·.2.2)=b2:=by simp
 rw [ef];refine⟨_,rfl,(SH.start (λ _=>False) kZ).Aj λ pO ka xW ny fp=>?_⟩;have hR:=X0 (crc b2) ka pO _ (fp.get 0 rfl);have wi:=(jg.grown nw).grown ny;refine ES (m:=Ye (crc b2)) wi.row hR (by simp [Ye];omega) λ a24 pU nq vR uw vE=>⟨_,_,_,rfl,.inr ⟨hr,_,a24,pU,⟨o,nJ,lA,?_⟩,rfl,jg.Tf (Ac nw ny) vR uw vE⟩⟩;rw [d',hb]
end
theorem Aa1{v:Ax}(h1 : -10<=v.2.1)(h2:v.2.1<=10):Eb v:=⟨by omega,by omega⟩
theorem ChV.open{kind:Int}{ls:List Ax}{w w':World}{r:Value}(h:ChV kind ls w w' r):∃(bs:List UInt8) (a:Option Addr) (c:Nat) (e:Int),r=.tuple #[.slice a bs.length c,.int .i64 e]/\Rd w' a (bs.map Af)/\Below w.heap.size w w'/\((DU kind ls=true/\L8 kind ls bs/\e=0)\/(DU kind ls=false/\bs=[]/\e=2)):=by
 rcases h with ⟨h1,rfl,hb⟩ | ⟨h1,b,a,c,h2,rfl,h3⟩
 ·exact⟨[],none,0,2,rfl,Rd.nil _ _,hb,.inr ⟨h1,rfl,rfl⟩⟩
 ·exact⟨b,a,c,0,rfl,h3.rd,h3.An,.inl ⟨h1,h2,rfl⟩⟩
theorem L7{n:Int}:EK (Fk n)=n:=by unfold EK Fk;split <;> split <;> omega
theorem Oi:enters Tryz.prog f.HU=true:=by kernel_rfl
theorem Ag5{x:Nat × Nat}:Vh (some x)=.tuple #[.int .u64 (x.1:Int),.int .i64 (x.2:Int),.int .i64 0]:=rfl
theorem Afn{many:Nat}{ts:List (List UInt8)}{xs:List Nat}{i:Nat}(hi:i<xs.length):(xs.take (i+1)).map (λ p=>ts.getD p [])=(xs.take i).map (λ p=>ts.getD p [])++[ts.getD xs[i] []]:=by
 rw [Aou hi,Aov];rfl
theorem W9{w:World}{a:Option Addr}{c q:Nat}{l:List UInt8}(hl:Rd w a (l.map Af))(hc:l.length<=c):Rd w (Cc a q c 1) ((l.drop q).map Af):=by
 have h:=hl.Yr q l.length c 1 hc;rw [AnI,AnI,<- List.map_drop] at h;have e:((l.drop q).map Af).take (l.length-q)=(l.drop q).map Af:=Aoy (by simp);rwa [e] at h
section
variable {w:World}{a:Option Addr}{c:Nat}{l:List UInt8}
theorem Xt(hl:Rd w a (l.map Af))(hc:l.length<=c)(hs:l.length<=9223372036854775807){n:Nat}(hn:n<=4096) :
  Calls Tryz.prog f.Tu #[.slice a l.length c,.int .i64 (n:Int)] w (AB λ v w'=>∃(ms:List (List UInt8)) (a':Option Addr) (c':Nat) (ok:Bool),v=.tuple #[.slice a' ms.length c',.bool ok]/\Rd w' a' (strs ms)/\Below w.heap.size w w' /\
   ((ok=false/\DI l n=none)\/(ok=true/\DI l n=some ms))):=by
 apply R.Kn
 delta R.Ad R.BL R.EN R.Cf R.D R.F R.G R.H R.I R.J R.Ks R.Lt R.Lu R.Ly R.N R.O R.Hz R.S R.T R.U R.W R.Wu R.X R.Y;try dsimp only [R.Ps]
 have bad:∀ {w':World},Below w.heap.size w w'->DI l n=none->∃(ms:List (List UInt8)) (a':Option Addr) (c':Nat) (ok:Bool),(Value.tuple #[.slice none 0 0,.bool false])=.tuple #[.slice a' ms.length c',.bool ok]/\Rd w' a' (strs ms)/\Below w.heap.size w w' /\
   ((ok=false/\DI l n=none)\/(ok=true/\DI l n=some ms)):=λ hb ht=>⟨[],none,0,false,rfl,Rd.nil _ _,hb,.inl ⟨rfl,ht⟩⟩
 refine (AF hl hc hs 1).mono ?_;rintro _ w ⟨_,rfl,rfl,rfl⟩;cases hx:takeN l 1 with
 | none=>exact⟨_,_,_,rfl,Au (λ _=>bad (.refl _ _) (by simp [DI,hx])) (λ h=>absurd h (by decide))⟩
 | some x =>
 have zy:=AZ (n:=x.1) (k:=x.2) hx;rw [Ag5];rw [Ar (n:=(n:Int)) (by omega) (by omega)];refine⟨_,_,_,rfl,Au (λ h=>absurd rfl h) (λ _=>Aa (λ h=>bad (.refl _ _) ?_) (λ nC=>?_))⟩
 ·simp only [DI,hx,AoG];rw [if_pos (by omega)]
 have hm:¬ n<x.1:=by omega
 refine (MB (x.2:Int)).mono ?_;rintro _ w2 ⟨_,rfl,b1,b2,rfl,S2⟩;refine⟨_,_,_,rfl,?_⟩;rw [Oi];refine (Rj (n:=x.1) S2 hl hc hs (by omega)).mono ?_;rintro _ w3 ⟨_,rfl,hM,B3⟩;unfold YI at hM;cases hy:AQ l x.2 x.1 with
 | none =>
  rw [hy] at hM;subst hM;refine⟨_,_,_,_,_,rfl,Bo (bad B3 ?_)⟩;simp only [DI,hx,hy,AoG,Option.bind_none];rw [if_neg hm]
 | some y =>
 rw [hy] at hM;obtain⟨ta,tc,rfl,lx⟩:=hM;have uS:=JD hy;have yf:=Rh hy (by omega);refine⟨_,_,_,_,_,rfl,Aw (Aa (λ h=>bad B3 ?_) (λ aB=>?_))⟩
 ·simp only [DI,hx,hy,AoG];rw [if_neg hm,if_pos (by omega)]
 have hj:y.2<l.length:=by omega
 refine (SH.start (λ _=>False) w3).MC λ w4 B4 _=>?_;have C4:=Ac B3 B4;rw [wrap_i64 (n:=(y.2:Int)+1) (by omega) (by omega),show ((y.2:Int)+1).toNat=y.2+1 by omega];refine⟨⟨by omega,by omega,by omega⟩,⟨by omega,by omega⟩,?_⟩;have me:=W9 (q:=y.2+1) (hl.grown C4) hc;obtain⟨p,rfl,aJ⟩:=byte_at (hl.grown C4) hj;refine⟨_,by rw [AnF];exact aJ,?_⟩;have xd:=(l[y.2]).toNat_lt;rw [wrap_i64 (n:=(l[y.2].toNat:Int)) (by omega) (by omega),<- List.length_drop (i:=y.2+1) (l:=l)];refine (G0 me (n:Int) (l[y.2].toNat:Int) (by rw [List.length_drop];omega)).mono ?_;rintro _ w5 ⟨_,rfl,xs,xa,xc,e,rfl,mB,B5,sQ,aM⟩;have C5:=Ac C4 B5;rw [AnF,AnF] at aM;have hg:l.getD y.2 0=l[y.2]:=Kv hj;refine⟨_,_,_,_,rfl,?_⟩;have yd:xs.length<=4096:=by
  rcases aM with ⟨_,_,rfl,_⟩ | ⟨_,rfl,_⟩
  ·rw [Dp];exact hn
  ·simp
 refine⟨λ s w6=>∃(i:Nat) (oa:Option Addr) (oc:Nat),s=[.slice oa i oc,.int .i64 (i:Int)]/\i<=xs.length/\(∀ p∈xs.take i,p<x.1)/\Row w6 ty.string 1 oa i oc (strs ((xs.take i).map λ p=>y.1.getD p []))/\(∀ k,AG oa=some k->w5.heap.size<=k)/\Below w5.heap.size w5 w6,λ s _=>match s with
   | [_,.int _ i]=>xs.length-i.toNat
   | _=>0,⟨0,none,0,rfl,by omega,by simp,Row.nil _ _ _,by simp [AG],.refl _ _⟩,?_⟩
 rintro oa i oc _ w6 ⟨_,_,_,aA,hi,aE,R6,N6,B6⟩;cases aA;have C6:=Ac C5 B6;refine Aa (λ dr=>⟨⟨by omega,dr⟩,?_⟩) (λ aL=>?_)
 ·have gA:i<xs.length:=by omega
  obtain⟨p2,rfl,hcx⟩:=Ug (mB.grown B6) gA;refine⟨_,by rw [AnF];exact hcx,Aa (λ ju=>?_) (λ cV=>?_)⟩
  ·rcases aM with ⟨h1,h2,rfl,rfl⟩ | ⟨_,rfl,_⟩
   ·refine bad C6 ?_;simp only [DI,hx,hy,AoG,hg];rw [if_neg hm,if_neg (by omega),if_pos ⟨h1,h2⟩];unfold AhK;rw [if_neg (λ h=>by have:=h _ (Aot gA);omega)]
   ·simp at gA
  ·have re:xs[i]<x.1:=by omega
   have uH:xs[i]<y.1.length:=by omega
   refine⟨⟨by omega,by omega⟩,?_⟩;have bm:xs[i]<(y.1.map CA).length:=by simpa using uH
   obtain⟨p3,rfl,eY⟩:=NC (ls:=y.1.map CA) (((lx.grown B4).grown B5).grown B6) bm;refine⟨_,by rw [AnF];exact eY,(SH.start (λ _=>False) w6).Aj λ b7 w7 tp B7 S7=>?_⟩;have xk:y.1.getD xs[i] []=y.1[xs[i]]:=by simp [uH]
   have aZ:Rd w7 (some ⟨b7,0,none⟩) (strs [y.1.getD xs[i] []]):=by
    have:=Rd.Ak (S7.get 0 rfl);rw [xk];simpa [strs] using this
   have el:i=((xs.take i).map λ p=>y.1.getD p []).length:=by simp;omega
   have R7:=R6.grown B7;obtain⟨u,hu⟩:∃ u,u=(xs.take i).map λ p=>y.1.getD p []:=⟨_,rfl⟩;rw [<- hu] at R7 el;have bD:(xs.take (i+1)).map (λ p=>y.1.getD p [])=u++[y.1.getD xs[i] []]:=by rw [hu];exact Afn (many:=0) gA
   have mF:=@QM w7 oa oc u [y.1.getD xs[i] []] (by rw [<- el];exact R7) (some ⟨b7,0,none⟩) 1 1 rfl aZ (by rw [<- el];simp;omega);rw [<- el] at mF;refine mF λ a8 c8 w8 R8 K8 N8=>⟨_,_,_,rfl,?_⟩;have wU:(u++[y.1.getD xs[i] []]).length=i+1:=by rw [Anp,<- el];rfl
   rw [wU] at R8 ⊢;rw [Ai (by omega)];have oy:Below w5.heap.size w5 w7:=B6.trans (B7.mono B6.size);refine⟨⟨i+1,a8,c8,rfl,by omega,?_,by rw [bD];exact R8,λ k hk=>?_,oy.trans (K8.below oy.size λ k hk he=>by have:=N6 k he;omega)⟩,?_⟩
   ·intro q hq;rw [Aou gA] at hq;rcases List.mem_append.1 hq with h | h
    ·exact aE q h
    ·rw [Aox.1 h];exact re
   ·rcases N8 k hk with h | h
    ·exact N6 k h
    ·exact AnJ oy.size h
   ·simp only [AnF];omega
 ·have cL:xs.take i=xs:=Aoy (by omega);have aF:i=xs.length:=by omega
  rw [cL] at aE R6;have el:(xs.map λ p=>y.1.getD p []).length=i:=by simp [aF]
  refine⟨xs.map λ p=>y.1.getD p [],oa,oc,e==0,by rw [el],R6.rd,C6,?_⟩;rcases aM with ⟨h1,h2,rfl,rfl⟩ | ⟨bC,rfl,he⟩
  ·refine .inr ⟨rfl,?_⟩;simp only [DI,hx,hy,AoG,hg];rw [if_neg hm,if_neg (by omega),if_pos ⟨h1,h2⟩];unfold AhK;rw [if_pos aE]
  ·refine .inl ⟨?_,?_⟩
   ·rw [he];split <;> rfl
   ·simp only [DI,hx,hy,AoG,hg];rw [if_neg hm,if_neg (by omega),if_neg bC]
end
end Go.Proofs.YtoepjfblppfabaaGreatDoor
