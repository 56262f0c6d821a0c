/-
  Texts of this claim, laid one behind the other by a program of mine (install.py): Y.Seg10, Y.Seg11, Y.Seg12, Y.Seg13, Y.Seg14, Y.Tr7, Y.Tr8, Y.Tr9, Y.Tr10, Y.Tr11, Y.Tr13, Y.Ew1, Y.Tr14, Y.Tr12, Y.Tr15, Y.Ct3e, Y.Tr16, Y.ShR, Y.Sh1, Y.Sh2, Y.Sh3, Y.Sh4, Y.Sh5, Y.Sh6, Y.Sh7.
-/
import Derived.Test.YtoepjfblppfabaaGreatDoorM10
import Derived.Test.YtoepjfblppfabaaGreatDoorM9
import Derived.Test.YtoepjfblppfabaaGreatDoorM8
import Derived.Test.YtoepjfblppfabaaGreatDoorM7
import Derived.Test.YtoepjfblppfabaaGreatDoorM4
import Derived.Test.YtoepjfblppfabaaGreatDoorM6
import Derived.Tactics
import Derived.Tactics2
import Derived.Defers
import Derived.Recover
import Derived.Laws.Pointers
namespace Go.Proofs.YtoepjfblppfabaaGreatDoor
open _root_.Int renaming toNat_natCast -> AnF
open _root_.List renaming all_eq_true -> An9, append_nil -> AoS, drop_zero -> Ao0, ext_getElem -> AoY, getD -> AoX, getElem?_eq_getElem -> AnB, getElem?_map -> Aom, getElem_map -> Ao3, getElem_mem -> Aot, getElem_range -> Ao4, length -> AoO, length_append -> Anp, length_map -> AnS, map_append -> Aov, map_set -> Ao7, mem_cons -> Anh, mem_map -> Ang, nil_append -> Ao5, nil_sublist -> Ao6, not_mem_nil -> AoB, range -> AnY, replicate -> AnP, take_length -> Aoz, take_of_length_le -> Aoy, take_succ_eq_append_getElem -> Aou
open _root_.Nat renaming mul_one -> AnI, sub_zero -> AoV, zero_add -> Anu, zero_mul -> AoC
open _root_.Option.some renaming inj -> Aoj
set_option maxRecDepth 100000
open Go.Dn Go.Proofs
open Go.RowKit (Below)
set_option linter.unusedVariables false
def VV(l:List UInt8):Prop:=40<=l.length/\l.drop (l.length-32)=RF (l.take (l.length-32))
theorem HB.pre{cs:List A0}{rows:List (List Ax)}{l:List UInt8}(hs:DN cs rows)(h:HB cs rows l):∃ xs,Hy cs rows xs (l.take (l.length-32))/\VV l:=by
 obtain⟨xs,h1,h2,rfl⟩:=h.ex;have h8:8<=(Mi cs rows xs).length:=(Hy.split ⟨hs,h2,h1,rfl⟩).1;obtain⟨dg,hdg⟩:∃ dg,dg=RF (Mi cs rows xs):=⟨_,rfl⟩;have fQ:dg.length=32:=by rw [hdg];exact Of _
 have e:(MJ (Mi cs rows xs)).length-32=(Mi cs rows xs).length:=by
  unfold MJ;rw [<- hdg,Anp,fQ];omega
 have e2:(MJ (Mi cs rows xs)).take ((MJ (Mi cs rows xs)).length-32)=Mi cs rows xs:=by
  rw [e];unfold MJ;rw [<- hdg,List.take_left]
 refine⟨xs,⟨hs,h2,h1,e2⟩,?_,?_⟩
 ·unfold MJ;rw [<- hdg,Anp,fQ];omega
 ·rw [e2,e];unfold MJ;rw [<- hdg,List.drop_left,hdg]
theorem Rf{cs:List A0}{rows:List (List Ax)}(h:∀ r∈rows,r.length=cs.length):rowsOf ((AnY cs.length).map (Bk rows)) rows.length=rows:=by
 refine AoY (by simp [rowsOf]) λ i h1 h2=>?_;simp only [rowsOf,Ao3,Ao4,rowAt,List.map_map];have hl:=h _ (Aot h2);refine AoY (by simp [hl]) λ j g1 g2=>?_;simp [Bk,AoX,h2,g2]
def AfP(l:List UInt8)(w w':World)(v:Value):Prop :=
 Below w.heap.size w w'/\((∃ g p cs aH n,v=.tuple #[.pointer (some g),.int .i64 0]/\w'.cell? g=some (.pointer (some p))/\Fs w' p cs aH n/\DN cs (rowsOf (rws aH) n)/\HB cs (rowsOf (rws aH) n) l /\
   ∀ aC rows',DN aC rows'->HB aC rows' l->aC=cs/\rows'=rowsOf (rws aH) n/\n=rows'.length/\rws aH=(AnY aC.length).map (Bk rows')) \/
  (v=.tuple #[.pointer none,.int .i64 91]/\¬ VV l)\/(v=.tuple #[.pointer none,.int .i64 90]/\VV l/\∀ aC rows',DN aC rows'->¬ HB aC rows' l))
theorem Fs.grown{w w':World}{p:Addr}{cs:List A0}{aH:List AV}{n:Nat}(h:Fs w p cs aH n)(B:Below w.heap.size w w'):Fs w' p cs aH n:=by
 have K:=Ae.Al (F:=λ _=>False) B;obtain⟨a0,c0,h1,h2⟩:=h.To;obtain⟨a1,c1,h3,h4⟩:=h.Vv;obtain⟨a2,c2,h5,h6⟩:=h.Amx;exact⟨⟨a0,c0,K.cell h1 (by simp),h2.grown B⟩,⟨a1,c1,K.cell h3 (by simp),h4.grown B⟩,⟨a2,c2,K.cell h5 (by simp),h6.grown B⟩,K.cell h.many (by simp),h.right,h.len,h.small,h.each⟩
section
variable {w:World}
theorem Sb(T:PB w)(s:ByteArray)(hs:s.size<=140737488355328):Calls Tryz.prog f.Jv #[.string s] w (AB λ v w'=>AfP (bl s) w w' v):=by
 apply R.Nw
 delta R.A R.B R.Alz R.WL R.Cs R.D R.F R.H R.I R.J R.Ls R.N R.P R.Rs R.Rt R.S R.T R.W R.Y;try dsimp only [R.Ps]
 have cI:=CG s;obtain⟨l,hl⟩:∃ l,l=bl s:=⟨_,rfl⟩;rw [<- hl] at cI;have bC:s.size<40->¬ VV l:=λ h hd=>by have:=hd.1;omega
 rw [<- hl];refine Aa (λ h=>⟨.refl _ _,.inr (.inl ⟨rfl,bC (by omega)⟩)⟩) (λ kj=>?_);have po:40<=l.length:=by omega
 refine F5 NF s w λ b0 c0 cells e0 w1 dB B1 qw bG yP fD=>?_;have gC:Rd w1 (some ⟨b0,0,none⟩) (l.map Af):=by
  have:=(Rd.Ak qw).take s.size;rw [fD,<- hl] at this;exact this
 have eW:IntKind.i64.wrap ((s.size:Int)-32)=((l.length-32:Nat):Int):=by rw [wrap_i64 (by omega) (by omega)];omega
 refine⟨_,_,_,rfl,?_⟩;rw [eW];simp only [AnF,AoV];obtain⟨l1,hl1⟩:∃ l1,l1=l.take (l.length-32):=⟨_,rfl⟩;have my:l1.length=l.length-32:=by rw [hl1,List.length_take];omega
 obtain⟨a1,ha1⟩:∃ a1,a1=Cc (some ⟨b0,0,none⟩) 0 c0 1:=⟨_,rfl⟩;have rh:Rd w1 a1 (l1.map Af):=by
  have h:=gC.Yr 0 (l.length-32) c0 1 (by omega);simp only [AnI,Ao0,AoV] at h;rw [<- List.map_take,<- hl1,<- ha1] at h;exact h
 rw [<- ha1,<- my];have S:=AdI (ST.start w) B1 (a:=some ⟨b0,0,none⟩) (xs:=l.map Af) ⟨gC,λ k hk=>by cases hk;exact Nat.le_of_eq dB.symm⟩;refine⟨⟨by omega,by omega,by omega⟩,S.Aj λ b4 w2 _ B2 S=>?_⟩;have iw:Rd w2 (some ⟨b4,0,none⟩) ([(a1,c0,l1)].map BQ):=S.rdc 0 rfl;have e2:BJ [(a1,c0,l1)]=l1:=by simp [BJ]
 refine (Kx (c:=1) (T.grown S.An) [(a1,c0,l1)] iw (by
   intro p hp;simp only [Anh,AoB,or_false] at hp;subst hp;exact rh.grown B2) (by simp) (by rw [e2];omega)).mono ?_
 rw [e2];rintro _ w3 ⟨_,rfl,rfl,B3⟩;have S:=S.grown B3;have fQ:(RF l1).length=32:=Of _;obtain⟨dg,hdg⟩:∃ dg,dg=RF l1:=⟨_,rfl⟩;rw [<- hdg] at fQ ⊢;have mZ:(dg.map Af).length=32:=by rw [AnS];exact fQ
 refine YA dg fQ ⟨rfl,S.Aj λ b7 w4 _ B4 S=>FH mZ (S.Hh 0 rfl mZ (Ik _) λ w5 S=>S.draw λ w6 _ S=>⟨⟨by omega,by omega,by omega⟩,⟨by omega,by omega,by omega⟩,?_⟩)⟩;have uJ:Rd w6 (Cc (some ⟨b7,0,none⟩) 0 32 1) (dg.map Af):=by
  have h:=(S.rdc 0 rfl).Yr 0 32 32 1 (by omega);have e:(List.take ((32-0)*1) (List.drop (0*1) (dg.map Af)))=dg.map Af:=by
   rw [AoC,Ao0];exact Aoy (by rw [AnS];omega)
  have h':Rd w6 (Cc (some ⟨b7,0,none⟩) 0 32 1) (List.take ((32-0)*1) (List.drop (0*1) (dg.map Af))):=h;rwa [e] at h'
 refine CI NF fQ.symm uJ ⟨_,rfl,?_⟩;have qt:s.extract l1.length s.size=CA (l.drop (l.length-32)):=by
  rw [extract_eq,<- hl,my];congr 1;exact Aoy (by rw [List.length_drop];omega)
 rw [qt,AK];have m':VV l↔CA dg=CA (l.drop (l.length-32)):=by
  unfold VV;rw [<- hl1,<- hdg];constructor
  ·intro h;rw [h.2]
  ·intro h;have:=congrArg bl h;rw [Dq,Dq] at this;exact⟨po,this.symm⟩
 refine A5 (Aa (λ hd=>⟨⟨by omega,by omega,by omega⟩,?_⟩) (λ hd=>⟨S.An,.inr (.inl ⟨rfl,λ h=>hd (m'.1 h)⟩)⟩));have hD:=m'.2 hd;have ru:Rd w6 (some ⟨b0,0,none⟩) (l.map Af):=S.ok (It.rd (some ⟨b0,0,none⟩) (l.map Af)) (List.mem_of_mem_drop (i:=2) (by simp));have rq:Rd w6 a1 (l1.map Af):=by
  have h:=ru.Yr 0 (l.length-32) c0 1 (by omega);simp only [AnI,Ao0,AoV] at h;rw [<- List.map_take,<- hl1,<- ha1] at h;exact h
 refine (Sc rq (by omega) (by omega) (by omega)).mono ?_;rintro _ w8 ⟨_,rfl,B8,hC⟩;have S:=S.grown B8;have no:(∀ aC rows' iD,¬ Hy aC rows' iD l1)->∀ aC rows',DN aC rows'->¬ HB aC rows' l:=λ h aC rows' de hI=>by
  obtain⟨xs,hP,_⟩:=hI.pre de;rw [<- hl1] at hP;exact h _ _ _ hP
 rcases hC with ⟨p,cs,aH,n,rfl,hA,hu⟩ | ⟨rfl,hno2⟩
 ·have dz:∀ aC rows',DN aC rows'->HB aC rows' l->aC=cs/\rows'=rowsOf (rws aH) n/\n=rows'.length/\rws aH=(AnY aC.length).map (Bk rows'):=λ aC rows' de hI=>by
   obtain⟨xs,hP,_⟩:=hI.pre de;rw [<- hl1] at hP;obtain⟨h1,h2,h3⟩:=hu aC rows' xs hP;refine⟨h1.symm,?_,h2,h3⟩;rw [h3,h2,Rf λ r hr=>de.XT hr]
  refine⟨_,_,rfl,A5 (Bo (S.draw λ w9 B9 S=>?_))⟩;have oF:=hA.grown B9;obtain⟨ca,cc,eV,cR⟩:=oF.To;obtain⟨va,vc,hv1,j9⟩:=oF.Vv;have bR:=Be hA.right;have cV:=hA.small;refine⟨_,_,_,eV,(Akc oF.many hv1 j9 (by omega) (by have:=hA.len;omega) (λ q hq=>(hA.each q hq).1)).mono ?_⟩;rintro _ cX ⟨_,rfl,bo,ps,rfl,bS,dv,qK,eB⟩;have pt:=oF.grown eB;have S:=S.grown eB;have ur:=Ae.Al (F:=λ _=>False) eB;refine⟨_,_,_,rfl,ur.cell eV (by simp),?_⟩;have hW:=ID (c:=cc) (c2:=n) (T.grown S.An) (cR.grown eB) (by omega) (λ c hc=>by have:=(EH hA.right hc).2.2.2;omega) qK (by omega) (by
   intro r hr v hv;rw [dv] at hr;obtain⟨i,hi,rfl⟩:=Ang.1 hr;obtain⟨oD,ik,rfl⟩:=Ang.1 hv;obtain⟨q,hq,rfl⟩:=Ang.1 ik;obtain⟨eJ,k,hg⟩:=hA.each q hq;have aF:i<q.2.2.length:=by have:=List.mem_range.1 hi;omega
   have e:q.2.2.getD i Z0=q.2.2[i]:=by simp [AoX,aF]
   rw [e];exact hg.ok _ (Aot aF))
  rw [bS] at hW;refine hW.mono ?_;rintro _ aW ⟨_,rfl,hV,dO⟩;have S:=S.grown dO;have pw:=pt.grown dO;rw [dv] at hV;rcases hV with ⟨hnok,rfl,hE⟩ | ⟨ar,b,rfl,hI⟩
  ·refine⟨_,_,rfl,Au (λ _=>⟨S.An,.inr (.inr ⟨rfl,hD,λ aC rows' de hI=>?_⟩)⟩) (λ h=>absurd h hE)⟩;obtain⟨rfl,rfl,_⟩:=dz aC rows' de hI;exact hnok de
  ·refine⟨_,_,rfl,Au (λ h=>absurd rfl h) (λ _=>?_)⟩;rw [AK];refine A5 (Aa (λ he=>?_) (λ he=>⟨S.An,.inr (.inr ⟨rfl,hD,λ aC rows' de td=>?_⟩)⟩))
   ·have mR:b=l:=by have:=congrArg bl he;rwa [Dq,<- hl] at this
    subst mR;refine S.Aj λ lS dN _ nv S=>⟨S.An,.inl ⟨⟨lS,0,none⟩,p,cs,aH,n,rfl,S.cell 0 rfl rfl,pw.grown nv,ar,hI,dz⟩⟩
   ·obtain⟨rfl,rfl,_⟩:=dz aC rows' de td;exact he (by rw [hI.one td,hl,DH])
 ·exact⟨_,_,rfl,A5 (Aw ⟨S.An,.inr (.inr ⟨rfl,hD,no hno2⟩)⟩)⟩
end
section
variable {w:World}{g p:Addr}{cs:List A0}{aH:List AV}{n:Nat}
theorem AjK(hg:w.cell? g=some (.pointer (some p))):Calls Tryz.prog f.Nx #[.pointer (some g)] w (AB λ v w'=>v=.pointer (some p)/\w'=w):=by
 apply R.H7
 delta R.F R.Lp R.P;try dsimp only [R.Ps]
 exact Aw ⟨_,hg,rfl,rfl⟩
theorem Aed(h:Fs w p cs aH n)(i:Int):Calls Tryz.prog f.Jy #[.pointer (some p),.int .i64 i] w (AB λ v w'=>v=.int .i64 (if 0<=i/\i<cs.length then 0 else 2)/\w'=w):=by
 apply R.Gg
 delta R.F R.I R.Ls;try dsimp only [R.Ps]
 obtain⟨a,c,h1,_⟩:=h.To;refine Aw (Aa (λ hi=>⟨?_,rfl⟩) (λ hi=>⟨_,_,_,h1,Aa (λ hj=>⟨?_,rfl⟩) (λ hj=>⟨?_,rfl⟩)⟩))
 ·rw [if_neg (by omega)]
 ·rw [if_neg (by omega)]
 ·rw [if_pos (by omega)]
theorem Aib(hg:w.cell? g=some (.pointer (some p)))(h:Fs w p cs aH n):Calls Tryz.prog f.LA #[.pointer (some g)] w (AB λ v w'=>v=.int .i64 (n:Int)/\w'=w):=by
 apply R.Ha
 delta R.Ci R.Cp R.I R.P;try dsimp only [R.Ps]
 refine (AjK hg).mono ?_;rintro _ w1 ⟨_,rfl,rfl,rfl⟩;have h':Calls Tryz.prog f.LC #[.pointer (some p)] w1 (AB λ v w'=>v=.int .i64 (n:Int)/\w'=w1):=by
  apply R.Hc
  delta R.F R.I R.Li;try dsimp only [R.Ps]
  exact Aw ⟨_,h.many,rfl,rfl⟩
 refine⟨_,rfl,h'.mono ?_⟩;rintro _ w2 ⟨_,rfl,rfl,rfl⟩;exact⟨_,rfl,rfl,rfl⟩
end
theorem HB.len{cs:List A0}{rows:List (List Ax)}{b:List UInt8}(hs:DN cs rows)(h:HB cs rows b):b.length<=40000000:=by
 obtain⟨xs,h1,h2,rfl⟩:=h.ex;have:=h2.Ahe hs;have hd:=Of (Mi cs rows xs);unfold MJ;rw [Anp,hd];omega
theorem AfP.F9{cs:List A0}{rows:List (List Ax)}{l:List UInt8}{w w':World}{v:Value}(hs:DN cs rows)(hI:HB cs rows l)(h:AfP l w w' v):∃ g p aH,v=.tuple #[.pointer (some g),.int .i64 0]/\w'.cell? g=some (.pointer (some p))/\Fs w' p cs aH rows.length/\rws aH=(AnY cs.length).map (Bk rows)/\Below w.heap.size w w':=by
 obtain⟨B,⟨g,p,cs2,aH,n,rfl,hg,hA,_,_,hu⟩ | ⟨_,bC⟩ | ⟨_,_,bC⟩⟩:=h
 ·obtain⟨rfl,rfl,h3,h4⟩:=hu cs rows hs hI;refine⟨g,p,aH,rfl,hg,?_,h4,B⟩;rw [<- h3];exact hA
 ·obtain⟨_,_,hd⟩:=hI.pre hs;exact absurd hd bC
 ·exact absurd hI (bC cs rows hs)
section
variable {w:World}{g p:Addr}{cs:List A0}{aH:List AV}{n:Nat}
theorem XS{α:Type}{f:α->List Value}{k:Nat}(hf:∀ x,(f x).length=k+1){xs:List α}(h:Rd w none (xs.flatMap f)):xs=[]:=by
 cases xs with
 | nil=>rfl
 | cons x xs =>
  have hx:=hf x;cases tx:f x with
  | nil=>rw [tx] at hx;simp at hx
  | cons v vs =>
   obtain⟨p,hp,_⟩:=h 0 v (by simp [tx]);cases hp
theorem Qv{b:Nat}{t:TypeId}{sz:Nat}(h:w.heap[b]?=some (.cells #[] t (0,0))):Row w t sz (some ⟨b,0,none⟩) 0 0 [] :=
 ⟨by simp,.inr ⟨b,#[],rfl,h,by omega,by omega,by simp,by simp⟩⟩
theorem Aa3(vs:List Ax):∀ u∈AW vs,u.oneCell'=true:=by
 intro u hu;obtain⟨v,_,hv⟩:=List.mem_flatMap.1 hu;simp only [Hs,Anh,AoB,or_false] at hv;rcases hv with rfl | rfl | rfl <;> rfl
theorem Agc(vs:List A0):∀ u∈A9 vs,u.oneCell'=true:=by
 intro u hu;obtain⟨v,_,hv⟩:=List.mem_flatMap.1 hu;simp only [I1,Anh,AoB,or_false] at hv;rcases hv with rfl | rfl | rfl <;> rfl
theorem AdW{a:Option Addr}{c:Nat}{vs:List Ax}(h:Rd w a (AW vs))(hl:vs.length<=100000):Calls Tryz.prog f.E8 #[.slice a vs.length c] w (AB λ v w'=>∃ a' c',v=.slice a' vs.length c'/\ST w w' [Fe a' c' vs]):=by
 apply R.DV
 delta R.F R.J R.Ks R.N R.O R.S;try dsimp only [R.Ps]
 cases a with
 | none =>
  have:=XS (k:=2) (λ _=>rfl) h;subst this;exact Bo ⟨none,0,rfl,(ST.start w).nil _ _⟩
 | some q =>
  refine Aw ((ST.start w).Aj λ b2 w1 _ B1 S=>?_);have S:=S.IM 0 rfl (.refl _ _) (It.row ty.AD 3 (some ⟨b2,0,none⟩) 0 0 []) (Qv (S.CK 0 rfl)) (λ k hk=>.inl hk);refine S.app 0 rfl AdN rfl (by omega) (by omega) (h.grown B1) (mm:=vs.length) (II vs) (Aa3 vs) (by omega) λ a' c' w' S=>⟨_,_,_,rfl,a',c',by rw [Anu],?_⟩;simp only [Anu,Ao5] at S;exact S
theorem AdU{a:Option Addr}{c:Nat}{vs:List A0}(h:Rd w a (A9 vs))(hl:vs.length<=100000):Calls Tryz.prog f.Cx #[.slice a vs.length c] w (AB λ v w'=>∃ a' c',v=.slice a' vs.length c'/\ST w w' [Bg a' c' vs]):=by
 apply R.BG
 delta R.F R.J R.Ks R.N R.O R.S;try dsimp only [R.Ps]
 cases a with
 | none =>
  have:=XS (k:=2) (λ _=>rfl) h;subst this;exact Bo ⟨none,0,rfl,(ST.start w).nil _ _⟩
 | some q =>
  refine Aw ((ST.start w).Aj λ b2 w1 _ B1 S=>?_);have S:=S.IM 0 rfl (.refl _ _) (It.row ty.BX 3 (some ⟨b2,0,none⟩) 0 0 []) (Qv (S.CK 0 rfl)) (λ k hk=>.inl hk);refine S.app 0 rfl AaS rfl (by omega) (by omega) (h.grown B1) (mm:=vs.length) (Y5 vs) (Agc vs) (by omega) λ a' c' w' S=>⟨_,_,_,rfl,a',c',by rw [Anu],?_⟩;simp only [Anu,Ao5] at S;exact S
theorem Ah4(hg:w.cell? g=some (.pointer (some p)))(h:Fs w p cs aH n):Calls Tryz.prog f.Lx #[.pointer (some g)] w (AB λ v w'=>∃ a' c',v=.slice a' cs.length c'/\ST w w' [Bg a' c' cs]):=by
 apply R.G9
 delta R.Cs R.F R.Lp R.Ls R.O R.S;try dsimp only [R.Ps]
 obtain⟨a,c,h1,h2⟩:=h.To;have:=(Be h.right).2;refine Aw ⟨_,hg,_,_,_,h1,(AdU h2 (by omega)).mono ?_⟩;rintro _ w1 ⟨_,rfl,a',c',rfl,S⟩;exact⟨_,_,_,rfl,a',c',rfl,S⟩
theorem AdX(hg:w.cell? g=some (.pointer (some p)))(h:Fs w p cs aH n){i:Nat}(hi:i<aH.length):Calls Tryz.prog f.Jw #[.pointer (some g),.int .i64 (i:Int)] w (AB λ v w'=>∃ a' c',v=.tuple #[.slice a' aH[i].2.2.length c',.int .i64 0]/\ST w w' [Fe a' c' aH[i].2.2]):=by
 apply R.Ge
 delta R.Ad R.Ci R.Cp R.Cs R.F R.H R.I R.Lp R.Ls R.O R.P R.S R.X;try dsimp only [R.Ps]
 refine (AjK hg).mono ?_;rintro _ w1 ⟨_,rfl,rfl,rfl⟩;refine⟨_,rfl,(Aed h (i:Int)).mono ?_⟩;rintro _ w2 ⟨_,rfl,rfl,rfl⟩;have hlen:=h.len;rw [if_pos (by omega)];obtain⟨va,vc,hv1,j9⟩:=h.Vv;obtain⟨q,rfl,hq,hr⟩:=j9.at hi;have eJ:=(h.each _ (Aot hi)).1;have cV:=h.small;refine⟨_,rfl,Au (λ h=>absurd rfl h) (λ _=>⟨_,hg,_,_,_,hv1,⟨by omega,by omega⟩,_,_,_,by rw [AnF];exact hq,(AdW hr (by omega)).mono ?_⟩)⟩;rintro _ w3 ⟨_,rfl,a',c',rfl,S⟩;exact⟨_,_,_,rfl,a',c',rfl,S⟩
end
theorem Ain(u v:A0):((u.1==v.1) && ((u.2.1==v.2.1) && ((u.2.2==v.2.2) && true)))=decide (u=v):=by
 obtain⟨a,b,s⟩:=u;obtain⟨c,d,t⟩:=v;rw [Bool.eq_iff_iff];simp [NY]
section
variable {w:World}{a a2:Option Addr}{c c2:Nat}
theorem Qr{ls ms:List Ax}(hl:Rd w a (AW ls))(hm:Rd w a2 (AW ms))(hn:ls.length<=9223372036854775807) :
  Calls Tryz.prog f.Vl #[.slice a ls.length c,.slice a2 ms.length c2] w (AB λ v w'=>Below w.heap.size w w'/\v=.bool (decide (ls=ms))):=by
 apply R.Mk
 delta R.D R.F R.G R.I R.Li R.Lt R.Qi R.W R.X;try dsimp only [R.Ps]
 refine Au (λ h=>⟨.refl _ _,?_⟩) (λ hlen=>?_)
 ·congr 1;rw [eq_comm,decide_eq_false_iff_not];rintro rfl;exact h rfl
 have cO:ls.length=ms.length:=by omega
 refine⟨λ s w1=>∃ i:Nat,i<=ls.length/\s=[.int .i64 (i:Int)]/\Below w.heap.size w w1/\ls.take i=ms.take i,λ s _=>match s with
   | [.int _ i]=>ls.length-i.toNat
   | _=>0,⟨0,by omega,rfl,.refl _ _,rfl⟩,?_⟩
 rintro _ w1 ⟨i,hi,hs,B1,hT⟩;cases hs;refine Aa (λ aB=>?_) (λ aL=>⟨B1,?_⟩)
 ·have h1:i<ls.length:=by omega
  have h2:i<ms.length:=by omega
  refine (SH.start (λ _=>False) w1).MC λ w2 B2 _=>⟨⟨by omega,aB⟩,?_⟩;have C2:=Ac B1 B2;obtain⟨p1,rfl,c0,c1,c2⟩:=FG (hl.grown C2) h1;obtain⟨p2,rfl,d0,d1,d2⟩:=FG (hm.grown C2) h2;refine⟨⟨by omega,by omega⟩,_,by rw [AnF];exact c0,_,by rw [AnF];exact c1,_,by rw [AnF];exact c2,_,by rw [AnF];exact d0,_,by rw [AnF];exact d1,_,by rw [AnF];exact d2,?_⟩;rw [Ajx];refine A5 (Aa (λ he=>?_) (λ he=>⟨C2,?_⟩))
  ·rw [Ai (by omega)];refine⟨⟨i+1,by omega,rfl,C2,?_⟩,?_⟩
   ·rw [Aou h1,Aou h2,hT,he]
   ·simp only [AnF];omega
  ·congr 1;rw [eq_comm,decide_eq_false_iff_not];rintro rfl;exact he rfl
 ·congr 1;rw [eq_comm,decide_eq_true_eq];rw [Aoy (by omega),Aoy (by omega)] at hT;exact hT
theorem OW{ps qs:List AV}(hp:Bc w a ps)(hq:Bc w a2 qs)(hn:ps.length<=9223372036854775807)(hz:∀ p∈ps,p.2.2.length<=9223372036854775807) :
  Calls Tryz.prog f.Ur #[.slice a ps.length c,.slice a2 qs.length c2] w (AB λ v w'=>Below w.heap.size w w'/\v=.bool (decide (rws ps=rws qs))):=by
 apply R.Ln
 delta R.Ad R.Cb R.D R.F R.G R.I R.Ls R.Qi R.S R.W R.X;try dsimp only [R.Ps]
 refine Au (λ h=>⟨.refl _ _,?_⟩) (λ hlen=>?_)
 ·congr 1;rw [eq_comm,decide_eq_false_iff_not];intro he;have:=congrArg AoO he;simp only [rws,AnS] at this;omega
 have cO:ps.length=qs.length:=by omega
 refine⟨λ s w1=>∃ i:Nat,i<=ps.length/\s=[.int .i64 (i:Int)]/\Below w.heap.size w w1/\(rws ps).take i=(rws qs).take i,λ s _=>match s with
   | [.int _ i]=>ps.length-i.toNat
   | _=>0,⟨0,by omega,rfl,.refl _ _,rfl⟩,?_⟩
 rintro _ w1 ⟨i,hi,hs,B1,hT⟩;cases hs;refine Aa (λ aB=>?_) (λ aL=>⟨B1,?_⟩)
 ·have h1:i<ps.length:=by omega
  have h2:i<qs.length:=by omega
  refine (SH.start (λ _=>False) w1).MC λ w2 B2 _=>⟨⟨by omega,aB⟩,?_⟩;have C2:=Ac B1 B2;obtain⟨p1,rfl,c0,c1⟩:=(hp.grown C2).at h1;obtain⟨p2,rfl,d0,d1⟩:=(hq.grown C2).at h2;refine⟨⟨by omega,by omega⟩,_,_,_,by rw [AnF];exact c0,_,_,_,by rw [AnF];exact d0,?_⟩;refine (Qr c1 d1 (hz _ (Aot h1))).mono ?_;rintro _ w3 ⟨_,rfl,B3,rfl⟩;have C3:=Ac C2 B3;refine⟨_,rfl,A5 (Aa (λ he=>?_) (λ he=>⟨C3,?_⟩))⟩
  ·rw [Ai (by omega)];refine⟨⟨i+1,by omega,rfl,C3,?_⟩,?_⟩
   ·rw [Aou (by simpa using h1),Aou (by simpa using h2),hT,Ao3,Ao3,he]
   ·simp only [AnF];omega
  ·congr 1;rw [eq_comm,decide_eq_false_iff_not];intro hE;apply he;have e1:(rws ps)[i]?=(rws qs)[i]?:=by rw [hE]
   rw [Aom,Aom,AnB h1,AnB h2] at e1;exact Aoj e1
 ·congr 1;rw [eq_comm,decide_eq_true_eq];rw [Aoy (by simp;omega),Aoy (by simp;omega)] at hT;exact hT
end
abbrev vZ:Value:=.agg #[.int .i64 0,.int .i64 0,.string ⟨#[]⟩]
theorem AdO:Ia Tryz.prog ty.BM=some (ty.AD,3,32,vZ):=by kernel_rfl
def HM(n:Nat)(f:Nat->Ax):List Ax:=(AnY n).map f
theorem QC(n:Nat)(f:Nat->Ax):(HM n f).length=n:=by simp [HM]
theorem AcN(n:Nat)(f:Nat->Ax):HM (n+1) f=HM n f++[f n]:=by simp [HM,List.range_succ]
section
variable {w0 w:World}{H:List It}{n:Nat}{fn:FuncId}{fi ca:Array Value}
theorem AhW(S:ST w0 w H)(hn:n<=100000)(bP:enters Tryz.prog fn=true)
  (hf:∀ i w' X,i<n->ST w0 w' (X :: H)->Calls Tryz.prog fn ⟨fi.toList++[.int .i64 (i:Int)]++ca.toList⟩ w' (AB λ r au=>r=.int .i64 (i:Int)/\Below w'.heap.size w' au)) :
  Calls Tryz.prog f.Pj #[.int .i64 (n:Int),.func (.func fn) fi ca] w (AB λ r w'=>∃ a c,r=.slice a n c/\ST w0 w' (Dk a c (EL n) :: H)):=by
 apply R.IL
 delta R.F R.I R.J R.Ks R.N R.Hz R.Rs R.S R.W;try dsimp only [R.Ps]
 refine S.mk0 AcG (by omega) (by omega) λ b0 w1 S1=>⟨_,_,_,rfl,?_⟩;refine PS n (λ i a l c w'=>l=i/\ST w0 w' (Dk a c (EL i) :: H)) (by omega) ⟨rfl,S1⟩ λ I M a l c i w2 hi ⟨hl,S2⟩ next=>?_;subst hl;refine Aa (λ aB=>?_) (λ aL=>?_)
 ·have aF:l<n:=by omega
  rw [bP];refine S2.call (hf l w2 _ aF S2) λ w3 _ S3=>⟨_,rfl,S3.Aj λ b4 w4 _ B4 S4=>?_⟩;have S4:ST w0 w4 (It.cells b4 #[.int .i64 (l:Int)] ty.int :: It.row ty.int 1 a l c ((EL l).map DK) :: H):=by
   have h:=S4;unfold Dk at h;rw [Lc] at h;exact h
  refine S4.app 1 rfl AcG rfl (by omega) (by omega) (S4.rdc 0 rfl) (mm:=1) rfl (by intro u hu;simp at hu;rw [hu];rfl) (by omega) λ a' c' w5 S5=>⟨_,_,_,rfl,next _ _ _ _ aF ⟨rfl,?_⟩⟩;have S6:=S5.drop 1;unfold Dk;rw [Lc,Ws,Aov];exact S6
 ·obtain rfl:l=n:=by omega
  exact⟨a,c,rfl,S2⟩
theorem Aa5(S:ST w0 w H)(hn:n<=100000)(bP:enters Tryz.prog fn=true)(g:Nat->Ax)
  (hf:∀ i w' X,i<n->ST w0 w' (X :: H)->Calls Tryz.prog fn ⟨fi.toList++[.int .i64 (i:Int)]++ca.toList⟩ w' (AB λ r au=>r=.agg #[.int .i64 (g i).1,.int .i64 (g i).2.1,.string (g i).2.2]/\Below w'.heap.size w' au)) :
  Calls Tryz.prog f.IK #[.int .i64 (n:Int),.func (.func fn) fi ca] w (AB λ r w'=>∃ a c,r=.slice a n c/\ST w0 w' (Fe a c (HM n g) :: H)):=by
 apply R.F1
 delta R.E R.F R.I R.J R.Ks R.N R.Hz R.Rs R.S R.T R.W;try dsimp only [R.Ps]
 refine S.mk0 AdO (by omega) (by omega) λ b0 w1 S1=>⟨_,_,_,rfl,?_⟩;refine PS n (λ i a l c w'=>l=i/\ST w0 w' (Fe a c (HM i g) :: H)) (by omega) ⟨rfl,S1⟩ λ I M a l c i w2 hi ⟨hl,S2⟩ next=>?_;subst hl;refine Aa (λ aB=>?_) (λ aL=>?_)
 ·have aF:l<n:=by omega
  rw [bP];refine S2.call (hf l w2 _ aF S2) λ w3 _ S3=>⟨_,_,_,rfl,S3.Aj λ b4 w4 _ B4 S4=>?_⟩;have h:=Ya (f:=λ v w'=>∃ x y z,v=.slice x y z/\(I [.slice x y z,.int .i64 (IntKind.i64.wrap ((l:Int)+1))] w'/\M [.slice x y z,.int .i64 (IntKind.i64.wrap ((l:Int)+1))] w'<M [.slice a l c,.int .i64 (l:Int)] w2)) S4 1 AdO rfl (x:=g l) (S4.rdc 0 rfl) (by rw [QC];omega) λ a' c' w5 S5=>⟨_,_,_,rfl,next _ _ _ _ aF ⟨by rw [Anp,QC];rfl,by rw [AcN];exact S5.drop 1⟩⟩;rw [QC] at h;exact h
 ·obtain rfl:l=n:=by omega
  exact⟨a,c,rfl,S2⟩
end
/-! ### the program's own -/
section
variable {w:World}{ba:Option Addr}{bc:Nat}{ps:List AV}{n:Nat}
theorem Am4(hr:Bc w ba ps)(h1:1<=ps.length)(hn:n<=100000)(hl:∀ p∈ps,p.2.2.length=n) :
  Calls Tryz.prog f.AcP #[.slice ba ps.length bc] w (AB λ r w'=>∃ a c,r=.slice a n c/\ST w w' [Dk a c (EL n)]):=by
 apply R.QE
 delta R.Cs R.F R.I R.Ls R.O R.S R.X;try dsimp only [R.Ps]
 obtain⟨q,rfl,hc,_⟩:=hr.at (i:=0) (by omega);rw [AoC,CS] at hc;have h0:ps[0].2.2.length=n:=hl _ (Aot _);rw [h0] at hc;refine Az (λ h=>by omega) (λ _=>⟨⟨by omega,by omega⟩,_,_,_,hc,(AhW (ST.start w) hn (by kernel_rfl) λ i w' X _ S'=>?_).mono ?_⟩)
 ·apply R.Mr
  delta R.I;try dsimp only [R.Ps]
  exact⟨rfl,.refl _ _⟩
 ·rintro _ w' ⟨_,rfl,a,c,rfl,S'⟩;exact⟨_,_,_,rfl,a,c,rfl,S'⟩
theorem Aji(i:Nat):HM ps.length (λ c=>(ps[c]?.map λ p=>p.2.2.getD i Z0).getD Z0)=rowAt (rws ps) i:=by
 refine AoY (by simp [HM,rowAt]) λ j h1 h2=>?_;have hj:j<ps.length:=by simpa [HM] using h1
 simp [HM,rowAt,hj]
theorem Aj4(hr:Bc w ba ps)(hl:∀ p∈ps,p.2.2.length=n){i j:Nat}(hj:j<ps.length)(hi:i<n){w1:World}(B:Below w.heap.size w w1) :
  ∃ q,ba=some q/\w1.cell? (q.add (j*1))=some (.slice ps[j].1 ps[j].2.2.length ps[j].2.1)/\∃ p,ps[j].1=some p/\w1.cell? (p.add (i*3))=some (.int .i64 (ps[j].2.2.getD i Z0).1)/\w1.cell? ((p.add (i*3)).add 1)=some (.int .i64 (ps[j].2.2.getD i Z0).2.1)/\w1.cell? ((p.add (i*3)).add 2)=some (.string (ps[j].2.2.getD i Z0).2.2):=by
 obtain⟨q,hq,hc,aU⟩:=(hr.grown B).at hj;have aF:i<ps[j].2.2.length:=by rw [hl _ (Aot hj)];exact hi
 obtain⟨p,hp,c0,c1,c2⟩:=FG aU aF;have e:ps[j].2.2.getD i Z0=ps[j].2.2[i]:=by simp [AoX,aF]
 rw [e];exact⟨q,hq,hc,p,hp,c0,c1,c2⟩
theorem Alv(hr:Bc w ba ps)(hm:ps.length<=1000)(hl:∀ p∈ps,p.2.2.length=n){i:Nat}(hi:i<n)(hn:n<=100000) :
  Calls Tryz.prog f.Yn #[.slice ba ps.length bc,.int .i64 (i:Int)] w (AB λ r w'=>∃ a c,r=.slice a ps.length c/\ST w w' [Fe a c (rowAt (rws ps) i)]):=by
 apply R.NK
 delta R.A R.Cs R.I R.J R.Ls R.N R.P R.S;try dsimp only [R.Ps]
 refine (ST.start w).Aj λ b1 w1 _ B1 S1=>S1.Aj λ b2 w2 _ B2 S2=>⟨_,_,_,S2.cell 1 rfl rfl,?_⟩;refine (Aa5 (n:=ps.length) (g:=λ c=>(ps[c]?.map λ p=>p.2.2.getD i Z0).getD Z0) S2 (by omega) (by kernel_rfl) λ j w' X hj S'=>?_).mono ?_
 ·apply R.J6
  delta R.A R.Ab R.Ad R.D R.E R.I R.Li R.Ls R.Lt R.N R.Ah R.T R.X;try dsimp only [R.Ps]
  refine (ST.start w').Aj λ b3 w3 _ B3 S3=>S3.draw λ w4 B4 S4=>?_;have C:=Ac (Ac S'.An B3) B4;have D:=Ac B3 B4;have l1:w4.cell? ⟨b1,0,none⟩=some (.slice ba ps.length bc):=(Ae.Al (F:=λ _=>False) D).cell (S'.cell 2 rfl rfl) (by simp);have l2:w4.cell? ⟨b2,0,none⟩=some (.int .i64 (i:Int)):=(Ae.Al (F:=λ _=>False) D).cell (S'.cell 1 rfl rfl) (by simp);obtain⟨q,rfl,hc,p,hp,c0,c1,c2⟩:=Aj4 hr hl hj hi C;rw [hp] at hc;have rF:=hl _ (Aot hj);refine⟨_,_,_,l1,⟨by omega,by omega⟩,some p,ps[j].2.2.length,ps[j].2.1,by rw [AnF];exact hc,_,l2,⟨by omega,by omega⟩,_,by rw [AnF];exact c0,_,by rw [AnF];exact c1,_,by rw [AnF];exact c2,S4.Ale 0 rfl λ w5 S5=>⟨_,S5.cell 0 rfl rfl,_,S5.cell 0 rfl rfl,_,S5.cell 0 rfl rfl,?_,S5.An⟩⟩;simp [hj]
 ·rintro _ w' ⟨_,rfl,a,c,rfl,S'⟩;rw [Aji] at S';exact⟨_,_,_,rfl,a,c,rfl,S'.one⟩
end
section
variable {w:World}{ba ca a1:Option Addr}{bc cc c1:Nat}{ps:List AV}{n:Nat}{cs:List A0}
structure VQ(w:World)(cs:List A0)(a1 ba ca:Option Addr)(ps:List AV)(n:Nat):Prop where
 b:Bc w ba ps
 r:Rd w a1 (A9 cs)
 R:Ao cs=true
 q:∀ c∈cs,c.1.size<=9223372036854775807
 p:ps.length=cs.length
 l:∀ p∈ps,p.2.2.length=n
 m:n<=1024
 f:∀ i,i<n->Ek cs (rowAt (rws ps) i)=true
 c:Rd w ca ((EL n).map DK)
theorem VQ.grown{w':World}(A:VQ w cs a1 ba ca ps n)(B:Below w.heap.size w w'):VQ w' cs a1 ba ca ps n:=⟨A.b.grown B,A.r.grown B,A.R,A.q,A.p,A.l,A.m,A.f,A.c.grown B⟩
theorem Amu(A:VQ w cs a1 ba ca ps n){b1:Nat}(h:w.cell? ⟨b1,0,none⟩=some (.int .i64 (n:Int))) :
  Calls Tryz.prog f.DL #[.slice ba ps.length bc,.func (.func f.JS) #[] #[.pointer (some ⟨b1,0,none⟩)]] w (AB λ r w'=>r=.bool false/\Below w.heap.size w w'):=by
 have hc:=(Be A.R).2;have hp:=A.p;apply R.CX
 delta R.Ci R.G R.S;try dsimp only [R.Ps]
 refine (ST.start w).call (v:=.int .i64 (-1)) ?_ λ w4 _ S4=>⟨_,rfl,rfl,S4.An⟩;apply R.Du
 delta R.Ad R.F R.G R.I R.Ls R.Qi R.S R.W R.X;try dsimp only [R.Ps]
 refine FO ps.length (λ _ w'=>w'=w) (by omega) rfl λ I M i w4 hi hw next=>?_;subst hw;refine Aa (λ aB=>⟨⟨by omega,aB⟩,?_⟩) (λ _=>⟨rfl,.refl _ _⟩);have aF:i<ps.length:=by omega
 obtain⟨q,rfl,hq,_⟩:=A.b.at aF;have xy:=A.l _ (Aot aF);refine⟨ps[i].1,ps[i].2.2.length,ps[i].2.1,by rw [AnF];exact hq,?_⟩;rw [show enters Tryz.prog f.JS=true by kernel_rfl];refine (ST.start w4).HC (v:=.bool false) ?_ ⟨_,rfl,Aw (next _ aF rfl)⟩;apply R.J5
 delta R.A R.G R.Li;try dsimp only [R.Ps]
 exact⟨_,h,by rw [xy];simp,rfl⟩
theorem Alu(A:VQ w cs a1 ba ca ps n):Calls Tryz.prog f.Ym #[.slice a1 cs.length c1,.slice ba ps.length bc,.slice ca n cc] w (AB λ r w'=>r=.bool true/\Below w.heap.size w w'):=by
 apply R.NJ
 delta R.A R.Ad R.Cb R.Cs R.F R.G R.I R.J R.Li R.Ls R.N R.P R.Qi R.S R.Ah R.W R.X;try dsimp only [R.Ps]
 have bR:=Be A.R;have hp:=A.p;have hn:=A.m;obtain⟨q,hq,jz,_⟩:=A.b.at (i:=0) (by omega);rw [AoC,CS,A.l _ (Aot _)] at jz;subst hq;refine Au (λ h=>by omega) (λ _=>⟨⟨by omega,by omega⟩,_,_,_,jz,Aa (λ h=>by omega) (λ _=>⟨⟨by omega,by omega⟩,_,_,_,jz,(ST.start w).Aj λ b1 w1 _ _ S1=>S1.Cr 0 rfl (aC:=#[.int .i64 (n:Int)]) (by simp) rfl λ w2 S2=>S2.call (Amu (A.grown S2.An) (S2.cell 0 rfl rfl)) λ w3 _ S3=>⟨_,rfl,Aw ⟨_,S3.cell 0 rfl rfl,?_⟩⟩⟩)⟩);refine FO n (λ _ w'=>ST w w' [It.cells b1 #[.int .i64 (n:Int)] ty.int]) (by omega) S3 λ I M i w4 hi S4 next=>Aa (λ aB=>?_) (λ aL=>?_)
 ·have aF:i<n:=by omega
  have A4:=A.grown S4.An;refine (Alv A4.b (by omega) A4.l aF (by omega)).mono ?_;rintro _ w5 ⟨_,rfl,a,c,rfl,P5⟩;have S5:=S4.join P5;have lB:(rowAt (rws ps) i).length=ps.length:=by simp [rowAt,rws]
  have hf:=Lw (c:=c1) (c2:=c) (row:=rowAt (rws ps) i) (A.r.grown S5.An) (by omega) A.q (P5.rd 0 rfl);rw [lB,A.R,A.f i aF] at hf;exact⟨_,_,_,rfl,S5.call hf λ w6 _ S6=>⟨_,rfl,Ap rfl (next _ aF (S6.drop 1))⟩⟩
 refine FO n (λ _ w'=>ST w w' [It.cells b1 #[.int .i64 (n:Int)] ty.int]) (by omega) S4 λ I2 M2 j w5 hj S5 dX=>Aa (λ aB=>⟨⟨by omega,aB⟩,?_⟩) (λ aL=>⟨rfl,S5.An⟩);have r9:j<n:=by omega
 have at_:∀ k,k<n->∃ p,ca=some p/\w5.cell? (p.add (k*1))=some (.int .i64 (k:Int)):=λ k hk=>by
  obtain⟨p,hp,hc⟩:=(A.c.grown S5.An) k (.int .i64 (k:Int)) (by simp [EL,hk,DK]);exact⟨p,hp,by rw [AnI];exact hc⟩
 obtain⟨p,rfl,hc⟩:=at_ j r9;refine⟨_,by rw [AnF];exact hc,Aa (λ h=>by omega) (λ _=>⟨_,S5.cell 0 rfl rfl,Aa (λ h=>by omega) (λ _=>Aa (λ fA=>?_) (λ _=>dX _ r9 S5))⟩)⟩;have ew:IntKind.i64.wrap ((j:Int)-1)=((j-1:Nat):Int):=by rw [wrap_i64 (by omega) (by omega)];omega
 rw [ew];obtain⟨p',bj,bh⟩:=at_ (j-1) (by omega);cases bj;exact⟨⟨by omega,by omega⟩,_,by rw [AnF];exact bh,Aa (λ h=>by omega) (λ _=>dX _ r9 S5)⟩
end
section
variable {w:World}{ba ca a1:Option Addr}{bc cc c1:Nat}{ps:List AV}{n:Nat}{cs:List A0}
theorem Als(A:VQ w cs a1 ba ca ps n){j:Nat}(hj:j<cs.length)(mr:j<ps.length)(hf:JN cs cs[j].1=some j) :
  Calls Tryz.prog f.Yl #[.slice a1 cs.length c1,.slice ba ps.length bc,.slice ca n cc,.agg ⟨NM cs[j].1⟩] w (AB λ r w'=>∃ a c,r=.tuple #[.slice a n c,.bool true]/\ST w w' [Fe a c ps[j].2.2]):=by
 apply R.NI
 delta R.A R.Ab R.Ci R.Cs R.F R.G R.H R.I R.J R.Li R.Ls R.Lt R.N R.O R.P R.S R.Ah R.T;try dsimp only [R.Ps]
 have bR:=Be A.R;have hm:=A.m;refine (ST.start w).Aj λ b1 w1 _ _ S1=>S1.Aj λ b2 w2 _ _ S2=>S2.Aj λ b3 w3 _ _ S3=>⟨_,S3.cell 0 rfl rfl,Bb rfl ⟨_,S3.cell 0 rfl rfl,S3.call (G8 (A.r.grown S3.An) (by omega) _) λ w4 _ S4=>⟨_,rfl,S4.Aj λ b5 w5 _ _ S5=>S5.Cr 0 rfl (aC:=#[.int .i64 (j:Int)]) (by simp) (by rw [show (lf cs[j].1).nm=cs[j].1 from rfl,hf];rfl) λ w6 S6=>⟨_,_,_,S6.cell 2 rfl rfl,?_⟩⟩⟩⟩;refine (Aa5 (n:=n) (g:=λ i=>ps[j].2.2.getD i Z0) S6 (by omega) (by kernel_rfl) λ i w' X hi S'=>?_).mono ?_
 ·apply R.J4
  delta R.A R.Ab R.Ad R.D R.E R.I R.Li R.Ls R.Lt R.N R.Ah R.T R.X;try dsimp only [R.Ps]
  refine (ST.start w').Aj λ b7 w7 _ B7 S7=>S7.draw λ w8 B8 S8=>?_;have D:=Ac B7 B8;have C:=Ac S'.An D;have K:=Ae.Al (F:=λ _=>False) D;have l1:w8.cell? ⟨b1,0,none⟩=some (.slice ba ps.length bc):=K.cell (S'.cell 4 rfl rfl) (by simp);have l2:w8.cell? ⟨b5,0,none⟩=some (.int .i64 (j:Int)):=K.cell (S'.cell 1 rfl rfl) (by simp);have l3:w8.cell? ⟨b2,0,none⟩=some (.slice ca n cc):=K.cell (S'.cell 3 rfl rfl) (by simp);obtain⟨q,rfl,hc,p,hp,c0,c1,c2⟩:=Aj4 A.b A.l mr hi C;obtain⟨r,rfl,hr⟩:=(A.c.grown C) i (.int .i64 (i:Int)) (by simp [EL,hi,DK]);rw [hp] at hc;have rF:=A.l _ (Aot mr);exact⟨_,_,_,l1,_,l2,⟨by omega,by omega⟩,some p,ps[j].2.2.length,ps[j].2.1,by rw [AnF];exact hc,some r,n,cc,l3,⟨by omega,by omega⟩,(i:Int),by rw [AnF,AnI];exact hr,⟨by omega,by omega⟩,_,by rw [AnF];exact c0,_,by rw [AnF];exact c1,_,by rw [AnF];exact c2,S8.Ale 0 rfl λ w9 S9=>⟨_,S9.cell 0 rfl rfl,_,S9.cell 0 rfl rfl,_,S9.cell 0 rfl rfl,rfl,S9.An⟩⟩
 ·rintro _ w' ⟨_,rfl,a,c,rfl,S'⟩;have e:HM n (λ i=>ps[j].2.2.getD i Z0)=ps[j].2.2:=by
   have rF:=A.l _ (Aot mr);refine AoY (by simp [HM,rF]) λ k h1 h2=>?_;simp [HM,h2]
  rw [e] at S';exact⟨_,_,_,rfl,a,c,rfl,S'.one⟩
theorem mkN{w0:World}{H:List It}(S:ST w0 w H){t e:TypeId}{bytes:Nat}{z:Value}(hT:Ia Tryz.prog t=some (e,1,bytes,z))(hz:z.cells=#[z])(h1:z.oneCell'=true){n:Nat}(hb:bytes*n<=281474976710656)(hn:n<=100000){f:Value->World->Prop}{kl kc:IntKind}
  (hf:∀ b w',ST w0 w' (It.row e 1 (some ⟨b,0,none⟩) n n (AnP n z) :: H)->f (.slice (some ⟨b,0,none⟩) n n) w'):CD Tryz.prog (Instr.makeSlice t (.int kl (n:Int)) (.int kc (n:Int))) f w:=by
 refine FW hT (by omega) (by omega) (by rw [<- Int.natCast_mul];omega) (by omega) λ b w' gZ B hO=>?_;rw [AnF] at hO ⊢;have e1:madeCells z.cells (n*1)=⟨AnP n z⟩:=by
  apply Array.ext';rw [El _ hz,AnI]
 rw [e1] at hO;exact hf b w' (S.add B _ (⟨by simp,.inr ⟨b,_,rfl,hO,by omega,by omega,by simp,by simp⟩⟩:Row w' e 1 (some ⟨b,0,none⟩) n n (AnP n z)) λ k hk=>by cases hk;exact gZ)
end
theorem Aj1:Ia Tryz.prog ty.YH=some (ty.CE,1,8,.int .i64 0):=by kernel_rfl
def Th(b n:Nat):It:=It.row ty.CE 1 (some ⟨b,0,none⟩) n n (AnP n (.int .i64 0))
section
variable {w:World}{ba ca a1:Option Addr}{bc cc c1:Nat}{ps:List AV}{n:Nat}{cs:List A0}
theorem Amt(E:Env w)(A:VQ w cs a1 ba ca ps n){j:Nat}(hj:j<cs.length)(mr:j<ps.length)(hf:JN cs cs[j].1=some j) :
  Calls Tryz.prog f.Aa6 #[.slice a1 cs.length c1,.slice ba ps.length bc,.slice ca n cc,.agg ⟨NM cs[j].1⟩] w (AB λ r w'=>∃ a c b,r=.tuple #[.slice a n c,.slice (some ⟨b,0,none⟩) n n,.int .i64 0]/\ST w w' [Fe a c ps[j].2.2,Th b n]):=by
 apply R.Ph
 delta R.A R.Ab R.Ad R.Yw R.J9 R.Abg R.Cb R.Cf R.D R.E R.F R.H R.I R.Li R.Ls R.Lt R.N R.O R.Rs R.S R.Ah R.T R.X;try dsimp only [R.Ps]
 have bR:=Be A.R;have hm:=A.m;refine (ST.start w).Aj λ b1 w1 _ _ S1=>S1.Aj λ b2 w2 _ _ S2=>⟨_,_,_,S2.cell 1 rfl rfl,stX S2 0 rfl (S2.call (AjP (E.grown S2.An) (A.r.grown S2.An) A.R (by omega) A.q hj hf) λ w3 _ S3=>⟨_,_,rfl,Ap rfl ⟨_,_,_,S3.cell 1 rfl rfl,S3.call (Alu (A.grown S3.An)) λ w4 _ S4=>⟨_,rfl,Ap rfl (mkN S4 Aj1 rfl rfl (by omega) (by omega) λ b5 w5 S5=>⟨_,_,_,rfl,S5.Aj λ b6 w6 _ _ S6=>S6.Cr 0 rfl (aC:=#[.slice (some ⟨b5,0,none⟩) n n]) (by simp) rfl λ w7 S7=>⟨_,_,_,S7.cell 3 rfl rfl,stX S7 2 rfl ((Als (A.grown S7.An) hj mr hf).mono ?_)⟩⟩)⟩⟩⟩)⟩;rintro _ w8 ⟨_,rfl,a,c,rfl,P8⟩;have S8:=S7.join P8;exact⟨_,_,_,_,rfl,Bo (S8.draw λ w9 _ S9=>⟨_,_,_,S9.cell 1 rfl rfl,a,c,b5,rfl,S9.sub (.cons_cons _ (.cons _ (.cons_cons _ (Ao6 _))))⟩)⟩
end
def elL(cs:List A0):List Value:=cs.flatMap λ c=>NM c.1
theorem AlW{w:World}{a:Option Addr}{cs:List A0}(h:Rd w a (elL cs)){i:Nat}(hi:i<cs.length):∃ p,a=some p/\∀ j v,(NM cs[i].1)[j]?=some v->w.cell? ((p.add (i*6)).add j)=some v:=by
 have get:∀ j v,(NM cs[i].1)[j]?=some v->(elL cs)[i*6+j]?=some v:=λ j v hj=>by
  rw [elL,Is (n:=6) (λ _=>rfl) cs i j hi (by
   have:=(List.getElem?_eq_some_iff.1 hj).1;exact this),hj]
 obtain⟨p,rfl,_⟩:=h _ _ (get 0 _ rfl);refine⟨p,rfl,λ j v hj=>?_⟩;obtain⟨q,hq,hc⟩:=h _ _ (get j v hj);cases hq;rw [Cm];exact hc
abbrev vI(q:AV):It:=Fe q.1 q.2.1 q.2.2
abbrev rI(e n:Nat)(qs:List AV):It:=It.row ty.AM 1 (some ⟨e,0,none⟩) n n (qs.map Bl)
theorem Alq(F:List It)(qs:List AV)(m:Nat)(q:AV):(F++qs.map vI).set (F.length+m) (vI q)=F++(qs.set m q).map vI:=by
 rw [List.set_append_right _ _ (Nat.le_add_right _ _),Nat.add_sub_cancel_left,Ao7]
theorem Alp(F:List It)(qs:List AV){m:Nat}(h:m<qs.length):(F++qs.map vI)[F.length+m]?=some (vI qs[m]):=by
 rw [List.getElem?_append_right (Nat.le_add_right _ _),Nat.add_sub_cancel_left];simp [h]
theorem AhB{w0 w:World}{H:List It}(S:ST w0 w H):∀ n:Nat,ST w0 w (H++(AnP n ((none,0,[]):AV)).map vI)
 | 0=>by simpa using S
 | n+1=>by
  have h:=((AhB S n).nil ty.AD 3);exact ST.AdQ [It.row ty.AD 3 none 0 0 []] h
theorem AfW(g m:Nat):Addr.add ⟨g,0,none⟩ ((m:Int).toNat*1)=⟨g,m,none⟩:=by rw [AnF,AnI,Am,Anu]
theorem Acs{w:World}{g m:Nat}{xs:List Value}{v:Value}(h:Rd w (some ⟨g,0,none⟩) xs)(hm:xs[m]?=some v):w.cell? (Addr.add ⟨g,0,none⟩ ((m:Int).toNat*1))=some v:=by
 obtain⟨p,hp,hc⟩:=h m v hm;cases hp;rw [AnF,AnI];exact hc
def part(ps:List AV)(n s m:Nat):List (List Ax):=(AnY n).map λ i=>(rowAt (rws ps) i).take (if i<m then s+1 else s)
theorem Ahd{ps:List AV}{n s m:Nat}(hm:m<n)(hs:s<ps.length):(part ps n s m).set m ((rowAt (rws ps) m).take s++[ps[s].2.2.getD m Z0])=part ps n s (m+1):=by
 refine AoY (by simp [part]) λ i h1 h2=>?_;have hi:i<n:=by simpa [part] using h2
 rw [List.getElem_set];split
 ·rename_i e;subst e;have hl:s<(rowAt (rws ps) m).length:=by simp [rowAt,hs]
  simp only [part,Ao3,Ao4,Nat.lt_succ_self,if_true];rw [Aou hl];simp [rowAt]
 ·rename_i e;simp only [part,Ao3,Ao4];congr 1;by_cases h:i<m
  ·rw [if_pos h,if_pos (by omega)]
  ·rw [if_neg h,if_neg (by omega)]
theorem Aha{ps:List AV}{n s:Nat}:part ps n s n=part ps n (s+1) 0:=by
 refine List.map_congr_left λ i hi=>?_;rw [List.mem_range] at hi;rw [if_pos hi,if_neg (by omega)]
theorem Ahb{ps:List AV}{n:Nat}:part ps n ps.length 0=rowsOf (rws ps) n:=by
 refine List.map_congr_left λ i hi=>?_;rw [if_neg (by omega),Aoy (by simp [rowAt])]
theorem Ali:Ia Tryz.prog ty.AM=some (ty.AD,3,32,vZ):=by kernel_rfl
theorem Ajo:Ia Tryz.prog ty.Ig=some (ty.AM,1,24,.slice none 0 0):=by kernel_rfl
section
variable {w:World}{ba ca a1 al:Option Addr}{bc cc c1 cl bq:Nat}{ps:List AV}{n:Nat}{cs:List A0}
theorem AhX(E:Env w)(A:VQ w cs a1 ba ca ps n)(hq:w.cell? ⟨bq,8,none⟩=some (.slice a1 cs.length c1))(hl:Rd w al (elL cs))(hf:∀ j (hj:j<cs.length),JN cs cs[j].1=some j) :
  Calls Tryz.prog f.Et #[.pointer (some ⟨bq,0,none⟩),.slice ba ps.length bc,.slice ca n cc,.slice al cs.length cl] w (AB λ r w'=>∃ e b qs,r=.tuple #[.slice (some ⟨e,0,none⟩) n n,.slice (some ⟨b,0,none⟩) n n]/\rws qs=rowsOf (rws ps) n/\ST w w' ([rI e n qs,Th b n]++qs.map vI)):=by
 apply R.HW
 delta R.A R.Ab R.Ad R.AjC R.D R.E R.F R.H R.I R.J R.Ks R.Li R.Ls R.Lt R.N R.O R.Qi R.Rs R.S R.Ah R.T R.W R.X;try dsimp only [R.Ps]
 have bR:=Be A.R;have hm:=A.m;have hp:=A.p;refine mkN (ST.start w) Ajo rfl rfl (by omega) (by omega) λ e w1 S1=>⟨_,_,_,rfl,mkN S1 Aj1 rfl rfl (by omega) (by omega) λ b w2 S2=>⟨_,_,_,rfl,?_⟩⟩;have S2:ST w w2 ([rI e n (AnP n (none,0,[])),Th b n]++(AnP n ((none,0,[]):AV)).map vI):=by
  refine AhB ?_ n;have h:=S2.pull 1 rfl;unfold rI;rw [List.map_replicate];exact h
 refine FO cs.length (λ s w'=>∃ qs:List AV,rws qs=part ps n s 0/\ST w w' ([rI e n qs,Th b n]++qs.map vI)) (by omega) ⟨_,by simp [part,rws,List.map_const'],S2⟩ λ I M s w3 hs ⟨qs,dV,S3⟩ next=>?_;refine Aa (λ aB=>⟨⟨by omega,aB⟩,?_⟩) (λ aL=>?_)
 ·have bm:s<cs.length:=by omega
  obtain⟨p,rfl,hc⟩:=AlW (hl.grown S3.An) bm;rw [AnF];refine ldX (x:=lf cs[s].1) hc (S3.AkJ λ b3 w4 _ S4=>S4.draw λ w5 B5 S5=>?_);have q5:w5.cell? ⟨bq,8,none⟩=some (.slice a1 cs.length c1):=(Ae.Al (F:=λ _=>False) S5.An).cell hq (by simp);refine⟨_,_,_,q5,stX (x:=lf cs[s].1) (a:=none) (cap:=0) S5 0 rfl ((Amt (E.grown S5.An) (A.grown S5.An) bm (by omega) (hf s bm)).mono ?_)⟩;rintro _ w6 ⟨_,rfl,va,vc,eb,rfl,P6⟩;refine⟨_,_,_,_,_,_,_,rfl,?_⟩;have S6:=S5.join P6;refine FO n (λ m w'=>∃ qs:List AV,rws qs=part ps n s m/\ST w w' ([Fe va vc ps[s].2.2,Th eb n,It.cells b3 ⟨NM cs[s].1⟩ ty.GM,rI e n qs,Th b n]++qs.map vI)) (by omega) ⟨qs,dV,S6⟩ λ I2 M2 m w7 zq ⟨qs,dV,S7⟩ dX=>?_;have eJ:qs.length=n:=by
   have:=congrArg AoO dV;simpa [rws,part] using this
  refine Aa (λ aB=>S7.draw λ w8 _ S8=>?_) (λ aL=>?_)
  ·have kK:m<n:=by omega
   have rL:m<qs.length:=by omega
   have y5:ps[s].2.2.length=n:=A.l _ (Aot _);obtain⟨pv,rfl,v0,v1,v2⟩:=FG (AjY S8 0 rfl) (i:=m) (by omega);obtain⟨F,hF⟩:∃ F,F=λ (b9:Nat) (rs:List AV)=>[It.cells b9 ⟨Hs ps[s].2.2[m]⟩ ty.AD,Fe (some pv) vc ps[s].2.2,Th eb n,It.cells b3 ⟨NM cs[s].1⟩ ty.GM,rI e n rs,Th b n]:=⟨_,rfl⟩;have nO:(qs.map Bl)[m]?=some (Bl qs[m]):=by simp [rL]
   refine⟨⟨by omega,by omega⟩,⟨by omega,by omega⟩,_,_,_,Acs (S8.rd 3 rfl) nO,_,by rw [AnF];exact v0,_,by rw [AnF];exact v1,_,by rw [AnF];exact v2,S8.Aj λ b9 w9 _ B9 S9=>⟨Acs (S9.rd 4 rfl) nO,?_⟩⟩;have S9:ST w w9 (F b9 qs++qs.map vI):=by rw [hF];exact S9
   have f6:∀ b9 rs,(F b9 rs).length=6:=by intro b9 rs;rw [hF];rfl
   have tX:qs[m].2.2=(rowAt (rws ps) m).take s:=by
    have h:=congrArg (λ l=>l[m]?) dV;simp only [part,Aom,List.getElem?_range kK,AnB rL,Option.map_some,Nat.lt_irrefl,if_false] at h;exact Aoj h
   have hx:ps[s].2.2.getD m Z0=ps[s].2.2[m]:=by simp [AoX,y5,kK]
   have nA:qs[m].2.2.length<=16:=by rw [tX];simp [rowAt];omega
   refine Ya (x:=ps[s].2.2[m]) S9 ((F b9 qs).length+m) Ali (Alp _ _ rL) (by have h:=S9.rdc 0 (by rw [hF];rfl);exact h) (by omega) λ a' c' cX cP=>⟨_,_,_,rfl,⟨by omega,by omega⟩,?_⟩;have cP:ST w cX (F b9 qs++(qs.set m (a',c',qs[m].2.2++[ps[s].2.2[m]])).map vI):=by rw [<- Alq];exact cP
   refine AjE ?_;rw [AfW];refine cP.Alg 4 (by rw [hF];rfl) (j:=m) (by omega) λ aW cF=>⟨⟨by omega,by omega⟩,?_⟩;have x8:∀ q,F b9 (qs.set m q)=(F b9 qs).set 4 (It.row ty.AM 1 (some ⟨e,0,none⟩) n n ((qs.map Bl).set m (Bl q))):=λ q=>by
    subst hF;show [_,_,_,_,It.row ty.AM 1 (some ⟨e,0,none⟩) n n ((qs.set m q).map Bl),_]=_;rw [Ao7];rfl
   have cF:ST w aW (F b9 (qs.set m (a',c',qs[m].2.2++[ps[s].2.2[m]]))++(qs.set m (a',c',qs[m].2.2++[ps[s].2.2[m]])).map vI):=by
    rw [x8,<- List.set_append_left _ _ (by rw [f6];omega)];exact cF
   have hz:(AnP n (Value.int .i64 0))[m]?=some (.int .i64 0):=by simp [kK]
   refine⟨_,Acs (cF.rd 5 (by rw [hF];rfl)) hz,Bb rfl ⟨⟨by omega,by omega⟩,_,Acs (cF.rd 2 (by rw [hF];rfl)) hz,⟨by omega,by omega⟩,?_⟩⟩;refine AjE ?_;rw [AfW];refine cF.Alg 5 (by rw [hF];rfl) (j:=m) (by omega) λ dN iE=>dX _ kK ⟨qs.set m (a',c',qs[m].2.2++[ps[s].2.2[m]]),?_,?_⟩
   ·rw [<- Ahd kK (by omega),<- dV,hx,<- tX];simp [rws,Ao7]
   ·rw [hF,List.set_replicate_self] at iE;exact iE.drop 1
  ·obtain rfl:m=n:=by omega
   rw [Aha] at dV;exact next _ bm ⟨qs,dV,S7.drop 3⟩
 ·obtain rfl:s=cs.length:=by omega
  rw [<- hp,Ahb] at dV;exact⟨e,b,qs,rfl,dV,S3⟩
end
theorem Sp(c d:Nat)(h:c+d<9223372036854775808):IntKind.i64.wrap (Int.fdiv (IntKind.u64.wrap (IntKind.i64.wrap ((c:Int)+(d:Int)))) (2 ^ (min 1 64)))=(((c+d) / 2:Nat):Int):=by
 have e0:IntKind.i64.wrap ((c:Int)+(d:Int))=((c+d:Nat):Int):=by rw [wrap_i64 (by omega) (by omega)];omega
 rw [e0,Ar (by omega) (by omega),Int.fdiv_eq_ediv_of_nonneg _ (by decide)];have e:((c+d:Nat):Int) / 2 ^ (min 1 64)=(((c+d) / 2:Nat):Int):=by
  show ((c+d:Nat):Int) / 2=_;omega
 rw [e,wrap_i64 (by omega) (by omega)]
section
variable {w:World}{b:Nat}
abbrev Aij(b:Nat):Value:=.func (.func f.FK) #[] #[.pointer (some ⟨b,0,none⟩)]
theorem AiT(h:w.cell? ⟨b,0,none⟩=some (.slice none 0 0))(x y:Option Addr)(l m n o:Nat):Calls Tryz.prog f.FK #[.slice x l m,.slice y n o,.pointer (some ⟨b,0,none⟩)] w (AB λ r w'=>r=.int .i64 0/\w'=w):=by
 apply R.Mg
 delta R.A R.Ci R.I R.Ls R.S;try dsimp only [R.Ps]
 refine⟨_,_,_,h,(ST.start w).HC (v:=.int .i64 0) ?_ ⟨_,rfl,rfl,rfl⟩⟩;apply R.Nl
 delta R.A R.Ab R.Ci R.D R.E R.F R.G R.I R.Lb R.Li R.Lt R.N R.U0 R.Ah R.T R.W R.X;try dsimp only [R.Ps]
 refine⟨λ st w'=>st=[.int .i64 0,.int .i64 0]/\w'=w,λ _ _=>0,⟨rfl,rfl⟩,?_⟩;rintro p q w1 ⟨aA,rfl⟩;cases aA;exact Ap rfl ⟨rfl,rfl⟩
structure SQr(w:World)(a:Option Addr)(n:Nat)(ps:List AV)(b:Nat):Prop where
 r:Rd w a (ps.map Bl)
 l:ps.length=n
 n:n<=1000000
 c:w.cell? ⟨b,0,none⟩=some (.slice none 0 0)
variable {a:Option Addr}{n m:Nat}{ps:List AV}
theorem SQr.grown{w':World}(A:SQr w a n ps b)(B:Below w.heap.size w w'):SQr w' a n ps b:=⟨A.r.grown B,A.l,A.n,(Ae.Al (F:=λ _=>False) B).cell A.c (by simp)⟩
theorem SQr.at(A:SQr w a n ps b){i:Nat}(hi:i<n):∃ q x l c,a=some q/\w.cell? (q.add (i*1))=some (.slice x l c):=by
 obtain⟨q,hq,hc⟩:=A.r i (Bl (ps[i]'(by rw [A.l];exact hi))) (by simp [A.l,hi]);exact⟨q,_,_,_,hq,by rw [AnI];exact hc⟩
theorem Ads(A:SQr w a n ps b){i j:Nat}(dc:i<=j)(hj:j<=n):Calls Tryz.prog f.Er #[.slice a n m,.int .i64 (i:Int),.int .i64 (j:Int),Aij b] w (AB λ r w'=>r=.tuple #[]/\Below w.heap.size w w'):=by
 have hn:=A.n;apply R.DB
 delta R.Ad R.D R.F R.H R.I R.Ls R.Qi R.S R.Ah R.W R.X;try dsimp only [R.Ps]
 rw [Ai (by omega)];refine⟨λ st w'=>∃ c:Nat,st=[.int .i64 (c:Int)]/\i+1<=c/\Below w.heap.size w w',λ st _=>match st with | [.int _ t]=>j-t.toNat | _=>0,⟨i+1,rfl,by omega,.refl _ _⟩,?_⟩;rintro t w1 ⟨c,aA,h1,B1⟩;cases aA;refine Aa (λ aB=>?_) (λ aL=>⟨rfl,B1⟩);refine⟨λ st w'=>st=[.int .i64 (c:Int)]/\Below w.heap.size w w',λ _ _=>0,⟨rfl,B1⟩,?_⟩;rintro t w2 ⟨aA,B2⟩;cases aA;refine (ST.start w2).draw λ w3 B3 _=>?_;have C3:=Ac B2 B3;have A3:=A.grown C3;have ew:IntKind.i64.wrap ((c:Int)-1)=((c-1:Nat):Int):=by rw [wrap_i64 (by omega) (by omega)];omega
 rw [ew];obtain⟨q,x,l,k,rfl,hc⟩:=A3.at (i:=c) (by omega);obtain⟨q',y,l',k',dI,bh⟩:=A3.at (i:=c-1) (by omega);cases dI;refine Aa (λ _=>⟨⟨by omega,by omega⟩,⟨by omega,by omega⟩,x,l,k,by rw [AnF];exact hc,y,l',k',by rw [AnF];exact bh,?_⟩) (λ h=>by omega);rw [show enters Tryz.prog f.FK=true by kernel_rfl];refine (ST.start w3).HC (AiT A3.c x y l k l' k') ⟨_,rfl,Ap rfl ?_⟩;rw [Ai (by omega)];exact⟨⟨c+1,rfl,by omega,C3⟩,by show j-((c+1:Nat):Int).toNat<j-((c:Nat):Int).toNat;simp only [AnF];omega⟩
theorem wA(p q:Nat)(h:p+q<9223372036854775808):IntKind.i64.wrap ((p:Int)+(q:Int))=((p+q:Nat):Int):=by rw [wrap_i64 (by omega) (by omega)];omega
theorem wS(p q:Nat)(h:q<=p)(h2:p<9223372036854775808):IntKind.i64.wrap ((p:Int)-(q:Int))=((p-q:Nat):Int):=by rw [wrap_i64 (by omega) (by omega)];omega
theorem Ai3:∀(k A M B:Nat) (w:World),B-A<=k->A<M->M<B->B<=n->SQr w a n ps b->Calls Tryz.prog f.FE #[.slice a n m,.int .i64 (A:Int),.int .i64 (M:Int),.int .i64 (B:Int),Aij b] w (AB λ r w'=>r=.tuple #[]/\Below w.heap.size w w')
 | 0,A,M,B,w,hk,h1,h2,_,_=>by omega
 | k+1,A,M,B,w,hk,h1,h2,h3,S=>by
  have hn:=S.n;have en:enters Tryz.prog f.FK=true:=by kernel_rfl
  apply R.Ei
  delta R.Ad R.Cn R.D R.F R.H R.I R.Ls R.Qi R.U0 R.S R.Ah R.W R.Wu R.X R.Z R.Zii;try dsimp only [R.Ps]
  have xC:IntKind.i64.wrap ((M:Int)-(A:Int))=((M-A:Nat):Int):=wS M A (by omega) (by omega);have wu:IntKind.i64.wrap ((B:Int)-(M:Int))=((B-M:Nat):Int):=wS B M (by omega) (by omega);have hm:IntKind.i64.wrap (Int.fdiv (IntKind.u64.wrap (IntKind.i64.wrap ((A:Int)+(B:Int)))) (2 ^ (min 1 64)))=(((A+B) / 2:Nat):Int):=Sp A B (by omega);obtain⟨Qc,nD⟩:∃ Qc,Qc=(A+B) / 2:=⟨_,rfl⟩;rw [<- nD] at hm;have y6:IntKind.i64.wrap ((Qc:Int)+(M:Int))=((Qc+M:Nat):Int):=wA Qc M (by omega);rw [xC,wu,hm,y6];refine Az (λ gx=>?_) (λ gx=>Az (λ nL=>?_) (λ nL=>?_))
  ·refine⟨λ st w'=>∃ d:Nat,st=[.int .i64 (M:Int),.int .i64 (d:Int)]/\M<=d/\d<=B/\Below w.heap.size w w',λ st _=>match st with | [_,.int _ t]=>t.toNat-M | _=>0,⟨B,rfl,by omega,by omega,.refl _ _⟩,?_⟩;rintro c d w1 ⟨d,aA,il,eZ,B1⟩;cases aA;refine Aa (λ aB=>(ST.start w1).draw λ w2 B2 _=>?_) (λ aL=>?_)
   ·have C2:=Ac B1 B2;have S2:=S.grown C2;rw [Sp M d (by omega)];obtain⟨q,x,l,c,rfl,hc⟩:=S2.at (i:=(M+d) / 2) (by omega);obtain⟨q',y,l',c',dI,bh⟩:=S2.at (i:=A) (by omega);cases dI;refine⟨⟨by omega,by omega⟩,⟨by omega,by omega⟩,x,l,c,by rw [AnF];exact hc,y,l',c',by rw [AnF];exact bh,?_⟩;rw [en];refine (ST.start w2).HC (AiT S2.c x y l c l' c') ⟨_,rfl,Ap rfl ⟨⟨(M+d) / 2,rfl,by omega,by omega,C2⟩,?_⟩⟩;show (((M+d) / 2:Nat):Int).toNat-M<((d:Nat):Int).toNat-M;simp only [AnF];omega
   ·refine⟨λ st w'=>st=[.int .i64 (A:Int)]/\w'=w1,λ _ _=>0,⟨rfl,rfl⟩,?_⟩;rintro t w2 ⟨aA,rfl⟩;cases aA;have e1:IntKind.i64.wrap ((M:Int)-1)=((M-1:Nat):Int):=wS M 1 (by omega) (by omega);rw [e1];exact Aa (λ h=>by omega) (λ _=>⟨rfl,B1⟩)
  ·refine⟨λ st w'=>∃ c:Nat,st=[.int .i64 (c:Int),.int .i64 (M:Int)]/\A<=c/\c<=M/\Below w.heap.size w w',λ st _=>match st with | [.int _ t,_]=>M-t.toNat | _=>0,⟨A,rfl,by omega,by omega,.refl _ _⟩,?_⟩;rintro c d w1 ⟨c,aA,il,eZ,B1⟩;cases aA;refine Aa (λ aB=>(ST.start w1).draw λ w2 B2 _=>?_) (λ aL=>?_)
   ·have C2:=Ac B1 B2;have S2:=S.grown C2;rw [Sp c M (by omega)];obtain⟨q,x,l,c2,rfl,hc⟩:=S2.at (i:=M) (by omega);obtain⟨q',y,l',c',dI,bh⟩:=S2.at (i:=(c+M) / 2) (by omega);cases dI;refine⟨⟨by omega,by omega⟩,⟨by omega,by omega⟩,x,l,c2,by rw [AnF];exact hc,y,l',c',by rw [AnF];exact bh,?_⟩;rw [en,Ai (k:=(c+M) / 2) (by omega)];refine (ST.start w2).HC (AiT S2.c x y l c2 l' c') ⟨_,rfl,Bb rfl ⟨⟨(c+M) / 2+1,rfl,by omega,by omega,C2⟩,?_⟩⟩;show M-(((c+M) / 2+1:Nat):Int).toNat<M-((c:Nat):Int).toNat;simp only [AnF];omega
   ·refine⟨λ st w'=>st=[.int .i64 (M:Int)]/\w'=w1,λ _ _=>0,⟨rfl,rfl⟩,?_⟩;rintro t w2 ⟨aA,rfl⟩;cases aA;exact Aa (λ h=>by omega) (λ _=>⟨rfl,B1⟩)
  ·obtain⟨s0,r0,hs,hr,aM⟩:∃ s0 r0:Nat,s0<=r0/\r0<=n/\((Qc<M/\s0=Qc+M-B/\r0=Qc)\/(M<=Qc/\s0=A/\r0=M)):=by
    by_cases h:Qc<M
    ·exact⟨Qc+M-B,Qc,by omega,by omega,.inl ⟨h,rfl,rfl⟩⟩
    ·exact⟨A,M,by omega,by omega,.inr ⟨by omega,rfl,rfl⟩⟩
   refine⟨λ st w'=>st=[.int .i64 (s0:Int),.int .i64 (r0:Int)]/\w'=w,Aa (λ h=>?_) (λ h=>?_),?_⟩
   ·rw [wS (Qc+M) B (by omega) (by omega)];rcases aM with ⟨_,rfl,rfl⟩ | ⟨h',_⟩
    ·exact⟨rfl,rfl⟩
    ·omega
   ·rcases aM with ⟨h',_⟩ | ⟨_,rfl,rfl⟩
    ·omega
    ·exact⟨rfl,rfl⟩
   rintro c d w1 ⟨aA,rfl⟩;cases aA;refine⟨λ st w'=>∃ c:Nat,st=[.int .i64 (c:Int),.int .i64 (r0:Int)]/\s0<=c/\c<=r0/\Below w1.heap.size w1 w',λ st _=>match st with | [.int _ t,_]=>r0-t.toNat | _=>0,⟨s0,rfl,by omega,hs,.refl _ _⟩,?_⟩;rintro c d w2 ⟨c,aA,il,eZ,B2⟩;cases aA;have e1:IntKind.i64.wrap (((Qc+M:Nat):Int)-1)=((Qc+M-1:Nat):Int):=wS (Qc+M) 1 (by omega) (by omega);rw [e1];refine Aa (λ aB=>(ST.start w2).draw λ w3 B3 _=>?_) (λ aL=>?_)
   ·have C3:=Ac B2 B3;have S3:=S.grown C3;rw [Sp c r0 (by omega),wS (Qc+M-1) ((c+r0) / 2) (by omega) (by omega)];obtain⟨q,x,l,c2,rfl,hc⟩:=S3.at (i:=Qc+M-1-(c+r0) / 2) (by omega);obtain⟨q',y,l',c',dI,bh⟩:=S3.at (i:=(c+r0) / 2) (by omega);cases dI;refine⟨⟨by omega,by omega⟩,⟨by omega,by omega⟩,x,l,c2,by rw [AnF];exact hc,y,l',c',by rw [AnF];exact bh,?_⟩;rw [en,Ai (k:=(c+r0) / 2) (by omega)];refine (ST.start w3).HC (AiT S3.c x y l c2 l' c') ⟨_,rfl,Bb rfl ⟨⟨(c+r0) / 2+1,rfl,by omega,by omega,C3⟩,?_⟩⟩;show r0-(((c+r0) / 2+1:Nat):Int).toNat<r0-((c:Nat):Int).toNat;simp only [AnF];omega
   obtain rfl:c=r0:=by omega
   rw [wS (Qc+M) c (by omega) (by omega)];refine⟨λ st w'=>Below w1.heap.size w1 w',Aa (λ h=>Aa (λ h'=>by omega) (λ _=>B2)) (λ _=>B2),?_⟩;rintro w3 B3;have S3:=S.grown B3;refine⟨λ st w'=>Below w1.heap.size w1 w',Aa (λ h=>Aa (λ h'=>?_) (λ _=>B3)) (λ _=>B3),?_⟩
   ·refine (Ai3 k A c Qc w3 (by omega) (by omega) (by omega) (by omega) S3).mono ?_;rintro _ w4 ⟨_,rfl,rfl,B4⟩;exact⟨rfl,Ac B3 B4⟩
   rintro w4 B4;have S4:=S.grown B4;refine Aa (λ h=>Aa (λ h'=>?_) (λ _=>⟨rfl,B4⟩)) (λ _=>⟨rfl,B4⟩);have ec:Qc+M-c=M:=by omega
   rw [ec];refine (Ai3 k Qc M B w4 (by omega) (by omega) (by omega) (by omega) S4).mono ?_;rintro _ w5 ⟨_,rfl,rfl,B5⟩;exact⟨rfl,rfl,Ac B4 B5⟩
theorem Ai2(S:SQr w a n ps b):Calls Tryz.prog f.Gj #[.slice a n m,.int .i64 (n:Int),Aij b] w (AB λ r w'=>r=.tuple #[]/\Below w.heap.size w w'):=by
 have hn:=S.n;apply R.EA
 delta R.Cn R.F R.H R.I R.Qi R.U0 R.S R.W;try dsimp only [R.Ps]
 refine⟨λ st w'=>∃ c:Nat,st=[.int .i64 (c:Int),.int .i64 ((c+20:Nat):Int)]/\c<=n/\Below w.heap.size w w',λ st _=>match st with | [.int _ t,_]=>n-t.toNat | _=>0,⟨0,rfl,by omega,.refl _ _⟩,?_⟩;rintro x y w1 ⟨c,aA,hc,B1⟩;cases aA;refine Aa (λ hle=>?_) (λ kD=>?_)
 ·refine (Ads (S.grown B1) (i:=c) (j:=c+20) (by omega) (by omega)).mono ?_;rintro _ w2 ⟨_,rfl,rfl,B2⟩;have e:IntKind.i64.wrap (((c+20:Nat):Int)+20)=((c+20+20:Nat):Int):=wA (c+20) 20 (by omega);rw [e];exact⟨rfl,⟨c+20,rfl,by omega,Ac B1 B2⟩,by show n-((c+20:Nat):Int).toNat<n-((c:Nat):Int).toNat;simp only [AnF];omega⟩
 refine (Ads (S.grown B1) (i:=c) (j:=n) (by omega) (by omega)).mono ?_;rintro _ w2 ⟨_,rfl,rfl,B2⟩;have C2:=Ac B1 B2;refine⟨rfl,λ st w'=>∃ k:Nat,st=[.int .i64 (k:Int)]/\20<=k/\k<=4000000/\Below w.heap.size w w',λ st _=>match st with | [.int _ t]=>n-t.toNat | _=>0,⟨20,rfl,by omega,by omega,C2⟩,?_⟩;rintro x w3 ⟨k,aA,hk,bH,B3⟩;cases aA;have e2:IntKind.i64.wrap (2*(k:Int))=((2*k:Nat):Int):=by rw [wrap_i64 (by omega) (by omega)];omega
 have e3:IntKind.i64.wrap ((k:Int)*2)=((2*k:Nat):Int):=by rw [wrap_i64 (by omega) (by omega)];omega
 rw [e2,e3];refine Aa (λ aB=>?_) (λ aL=>⟨rfl,B3⟩);have out:∀ w',Below w.heap.size w w'->(∃ k_1:Nat,[Value.int .i64 ((2*k:Nat):Int)]=[.int .i64 (k_1:Int)]/\20<=k_1/\k_1<=4000000/\Below w.heap.size w w')/\n-((2*k:Nat):Int).toNat<n-((k:Nat):Int).toNat:=λ w' B=>⟨⟨2*k,rfl,by omega,by omega,B⟩,by simp only [AnF];omega⟩;refine⟨λ st w'=>∃ g:Nat,st=[.int .i64 (g:Int),.int .i64 ((g+2*k:Nat):Int)]/\g<=n/\Below w.heap.size w w',λ st _=>match st with | [.int _ t,_]=>n-t.toNat | _=>0,⟨0,by rw [Anu];rfl,by omega,B3⟩,?_⟩;rintro x y w4 ⟨g,aA,hg,B4⟩;cases aA;rw [wA g k (by omega)];refine Aa (λ hle=>?_) (λ kD=>Aa (λ h=>?_) (λ _=>out _ B4))
 ·refine (Ai3 (g+2*k-g) g (g+k) (g+2*k) w4 (by omega) (by omega) (by omega) (by omega) (S.grown B4)).mono ?_;rintro _ w5 ⟨_,rfl,rfl,B5⟩;rw [wA (g+2*k) (2*k) (by omega)];exact⟨rfl,⟨g+2*k,rfl,by omega,Ac B4 B5⟩,by show n-((g+2*k:Nat):Int).toNat<n-((g:Nat):Int).toNat;simp only [AnF];omega⟩
 ·refine (Ai3 (n-g) g (g+k) n w4 (by omega) (by omega) (by omega) (by omega) (S.grown B4)).mono ?_;rintro _ w5 ⟨_,rfl,rfl,B5⟩;exact⟨rfl,out _ (Ac B4 B5)⟩
theorem Amc(S:SQr w a n ps b):Calls Tryz.prog f.D9 #[.slice a n m,Aij b] w (AB λ r w'=>r=.tuple #[]/\Below w.heap.size w w'):=by
 apply R.Dj
 delta R.Cn R.H R.I R.S;try dsimp only [R.Ps]
 refine (Ai2 S).mono ?_;rintro _ w1 ⟨_,rfl,rfl,B⟩;exact⟨rfl,rfl,B⟩
end
section
variable {w:World}{a:Option Addr}{c0:Nat}
theorem AbW{ps:List AV}(hr:Bc w a ps)(hn:ps.length<=9223372036854775807){fn:FuncId}{fi ca:Array Value}(bP:enters Tryz.prog fn=true)(p:List Ax->Bool)(hf:∀ w' (x:AV),Below w.heap.size w w'->x∈ps->Calls Tryz.prog fn ⟨fi.toList++[.slice x.1 x.2.2.length x.2.1]++ca.toList⟩ w' (AB λ r au=>r=.bool (p x.2.2)/\Below w'.heap.size w' au)) :
  Calls Tryz.prog f.CO #[.slice a ps.length c0,.func (.func fn) fi ca] w (AB λ r w'=>r=.int .i64 (Vb (ps.findIdx? λ x=>p x.2.2))/\Below w.heap.size w w'):=by
 apply R.BS
 delta R.Ad R.F R.G R.I R.Ls R.Qi R.S R.W R.X;try dsimp only [R.Ps]
 refine FO ps.length (λ i w1=>(∀ x∈ps.take i,(λ x:AV=>p x.2.2) x=false)/\Below w.heap.size w w1) hn ⟨by simp,.refl _ _⟩ λ I M i w1 hi h next=>?_;obtain⟨aE,B1⟩:=h;refine Aa (λ aB=>⟨⟨by omega,aB⟩,?_⟩) (λ aL=>⟨?_,B1⟩)
 ·have aF:i<ps.length:=by omega
  obtain⟨q,rfl,hc,_⟩:=(hr.grown B1).at aF;refine⟨_,_,_,by rw [AnF];exact hc,?_⟩;rw [bP];refine (hf w1 _ B1 (Aot aF)).mono ?_;rintro _ w2 ⟨_,rfl,rfl,B2⟩;refine⟨_,rfl,AU (λ h=>⟨by rw [Jb (p:=λ x:AV=>p x.2.2) aF aE h];rfl,Ac B1 B2⟩) (λ h=>next _ aF ⟨λ x hx=>?_,Ac B1 B2⟩)⟩;rw [Aou aF] at hx;rcases List.mem_append.1 hx with hx | hx
  ·exact aE x hx
  ·rw [List.mem_singleton.1 hx];exact h
 ·rw [Aoy (by omega)] at aE;rw [Gy aE];rfl
theorem Abl{ps:List AV}(hr:Bc w a ps)(hn:ps.length<=9223372036854775807){fn:FuncId}{fi ca:Array Value}(bP:enters Tryz.prog fn=true)(p:List Ax->Bool)(hf:∀ w' (x:AV),Below w.heap.size w w'->x∈ps->Calls Tryz.prog fn ⟨fi.toList++[.slice x.1 x.2.2.length x.2.1]++ca.toList⟩ w' (AB λ r au=>r=.bool (p x.2.2)/\Below w'.heap.size w' au)) :
  Calls Tryz.prog f.Cq #[.slice a ps.length c0,.func (.func fn) fi ca] w (AB λ r w'=>r=.bool (ps.any λ x=>p x.2.2)/\Below w.heap.size w w'):=by
 apply R.Bz
 delta R.Ci R.G R.S;try dsimp only [R.Ps]
 refine (AbW hr hn bP p hf).mono ?_;rintro _ w1 ⟨_,rfl,rfl,B1⟩;exact⟨_,rfl,by rw [Kf],B1⟩
end
/-! ### may a row be ordered? -/
def Aaf(vs:List Ax)(ks:List (Int × Bool)):Bool:=vs.all AL && !(ks.any λ k=>decide (k.1<0) || decide (k.1>=vs.length))
section
variable {w:World}{a ak:Option Addr}{c kc:Nat}{vs:List Ax}{ks:List (Int × Bool)}{rs:List Value}
theorem AeV{b:Nat}{cs:List Value}{k:Int × Bool}(hk:XA k cs)(hc:w.cell? ⟨b,0,none⟩=some (.slice a vs.length c)) :
  Calls Tryz.prog f.KV #[.agg ⟨cs⟩,.pointer (some ⟨b,0,none⟩)] w (AB λ r w'=>r=.bool (decide (k.1<0) || decide (k.1>=vs.length))/\Below w.heap.size w w'):=by
 obtain⟨rfl,_⟩:=hk;apply R.KW
 delta R.A R.F R.G R.I R.Li R.Ls R.N;try dsimp only [R.Ps]
 refine (ST.start w).Aj λ b1 w1 _ B1 S1=>⟨_,S1.cell 0 rfl rfl,Aa (λ h=>⟨by rw [decide_eq_true h];rfl,B1⟩) (λ h=>⟨_,S1.cell 0 rfl rfl,_,_,_,(Ae.Al (F:=λ _=>False) B1).cell hc (by simp),by rw [decide_eq_false h];rfl,B1⟩)⟩
theorem Uj(hl:Rd w a (AW vs))(hn:vs.length<=9223372036854775807)(hk:Rd w ak rs)(hC:Ca XA ks rs)(cM:ks.length<=9223372036854775807) :
  Calls Tryz.prog f.Aah #[.slice a vs.length c,.slice ak ks.length kc] w (AB λ r w'=>r=.bool (Aaf vs ks)/\Below w.heap.size w w'):=by
 apply R.OJ
 delta R.A R.Ab R.Cb R.E R.F R.G R.I R.J R.Li R.Ls R.Lt R.N R.P R.Qi R.S R.Ah R.T R.W R.X;try dsimp only [R.Ps]
 refine (ST.start w).Aj λ b w1 _ _ S1=>⟨_,_,_,S1.cell 0 rfl rfl,FO vs.length (λ i w2=>ST w w2 [It.cells b #[.slice a vs.length c] ty.AM]/\(vs.take i).all AL=true) hn ⟨S1,rfl⟩ λ I M i w2 hi h next=>?_⟩;obtain⟨S2,aE⟩:=h;refine Aa (λ aB=>⟨⟨by omega,aB⟩,?_⟩) (λ aL=>?_)
 ·have aF:i<vs.length:=by omega
  obtain⟨p,rfl,h0,h1,h2⟩:=FG (hl.grown S2.An) aF;refine⟨_,by rw [AnF];exact h0,_,by rw [AnF];exact h1,_,by rw [AnF];exact h2,S2.KQ λ b9 w5 _ S5=>?_⟩;have S5:ST w w5 [It.cells b9 ⟨Hs vs[i]⟩ ty.AD,It.cells b #[.slice (some p) vs.length c] ty.AM]:=S5;refine⟨_,S5.cell 0 rfl rfl,_,S5.cell 0 rfl rfl,_,S5.cell 0 rfl rfl,(Cz w5 vs[i]).mono ?_⟩;rintro _ w6 ⟨_,rfl,rfl,B6⟩;have S6:=S5.grown B6;refine⟨_,rfl,A5 (AU (λ hr=>next _ aF ⟨S6.drop 1,?_⟩) (λ hr=>⟨?_,S6.An⟩))⟩
  ·rw [Aou aF,List.all_append,aE];simp [hr]
  ·rw [Aaf];have:vs.all AL=false:=by
    rw [Bool.eq_false_iff];intro h;rw [An9.1 h _ (Aot aF)] at hr;cases hr
   rw [this];rfl
 ·rw [Aoy (by omega)] at aE;refine (Tb (fn:=f.KV) (fi:=#[]) (ca:=#[.pointer (some ⟨b,0,none⟩)]) (hk.grown S2.An) hC cM (by kernel_rfl) (λ k=>decide (k.1<0) || decide (k.1>=vs.length)) λ w' x cc B _ hx=>AeV (a:=a) (c:=c) hx ((S2.grown B).cell 0 rfl rfl)).mono ?_;rintro _ w3 ⟨_,rfl,rfl,B3⟩;exact⟨_,rfl,by rw [Aaf,aE];rfl,Ac S2.An B3⟩
theorem Ad1{b:Nat}(hl:Rd w a (AW vs))(hn:vs.length<=9223372036854775807)(hk:Rd w ak rs)(hC:Ca XA ks rs)(cM:ks.length<=9223372036854775807)(hc:w.cell? ⟨b,0,none⟩=some (.slice ak ks.length kc)) :
  Calls Tryz.prog f.OI #[.slice a vs.length c,.pointer (some ⟨b,0,none⟩)] w (AB λ r w'=>r=.bool (!Aaf vs ks)/\Below w.heap.size w w'):=by
 apply R.Nj
 delta R.A R.Cb R.G R.Ls R.S;try dsimp only [R.Ps]
 refine⟨_,_,_,hc,(Uj hl hn hk hC cM).mono ?_⟩;rintro _ w1 ⟨_,rfl,rfl,B1⟩;exact⟨_,rfl,rfl,B1⟩
theorem XH{ps:List AV}(hr:Bc w a ps)(hn:ps.length<=9223372036854775807)(hv:∀ x∈ps,x.2.2.length<=9223372036854775807)(hk:Rd w ak rs)(hC:Ca XA ks rs)(cM:ks.length<=9223372036854775807) :
  Calls Tryz.prog f.AeW #[.slice a ps.length c,.slice ak ks.length kc] w (AB λ r w'=>r=.bool (!(ps.any λ x=>!Aaf x.2.2 ks))/\Below w.heap.size w w'):=by
 apply R.RW
 delta R.Cb R.G R.J R.N R.P R.S;try dsimp only [R.Ps]
 refine (ST.start w).Aj λ b w1 _ B1 S1=>(Abl (fn:=f.OI) (fi:=#[]) (ca:=#[.pointer (some ⟨b,0,none⟩)]) (hr.grown B1) hn (by kernel_rfl) (λ vs=>!Aaf vs ks) λ w' x B hx=>Ad1 (((hr.grown B1).grown B).each x hx) (hv x hx) ((hk.grown B1).grown B) hC cM ((S1.grown B).cell 0 rfl rfl)).mono ?_;rintro _ w2 ⟨_,rfl,rfl,B2⟩;exact⟨_,rfl,rfl,Ac B1 B2⟩
end
/-! ### at most one row -/
section
variable {w:World}{a:Option Addr}{c n:Nat}{fn:FuncId}{fi ca:Array Value}
theorem AdV{a:Option Addr}{c:Nat}{vs:List Ax}(h:Rd w a (AW vs))(hl:vs.length<=100000):Calls Tryz.prog f.FC #[.slice a vs.length c] w (AB λ v w'=>∃ a' c',v=.slice a' vs.length c'/\ST w w' [Fe a' c' vs]):=by
 apply R.Eh
 delta R.F R.J R.Ks R.N R.O R.S;try dsimp only [R.Ps]
 cases a with
 | none =>
  have:=XS (k:=2) (λ _=>rfl) h;subst this;exact Bo ⟨none,0,rfl,(ST.start w).nil _ _⟩
 | some q =>
  refine Aw ((ST.start w).Aj λ b2 w1 _ B1 S=>?_);have S:=S.IM 0 rfl (.refl _ _) (It.row ty.AD 3 (some ⟨b2,0,none⟩) 0 0 []) (Qv (S.CK 0 rfl)) (λ k hk=>.inl hk);refine S.app 0 rfl Amq rfl (by omega) (by omega) (h.grown B1) (mm:=vs.length) (II vs) (Aa3 vs) (by omega) λ a' c' w' S=>⟨_,_,_,rfl,a',c',by rw [Anu],?_⟩;simp only [Anu,Ao5] at S;exact S
end
def E5(a:Option Addr)(c:Nat)(ps:List AV):It:=It.row ty.AM 1 a ps.length c (ps.map Bl)
section
variable {w:World}{a:Option Addr}{c:Nat}{ps:List AV}
theorem XW{w0:World}{H:List It}(S:ST w0 w (E5 a c ps :: (ps.reverse.map Wt++H))):Bc w a ps :=
 ⟨S.rd 0 rfl,λ q hq=>S.ok (Wt q) (List.mem_cons_of_mem _ (List.mem_append_left _ (Ang.2 ⟨q,List.mem_reverse.2 hq,rfl⟩)))⟩
theorem AiU(hr:Bc w a ps)(hn:ps.length<=100000)(hv:∀ x∈ps,x.2.2.length<=100000) :
  Calls Tryz.prog f.XI #[.slice a ps.length c] w (AB λ r w'=>∃ a' c' qs,r=.slice a' ps.length c'/\rws qs=rws ps/\ST w w' (E5 a' c' qs :: (qs.reverse.map Wt++[]))):=by
 apply R.Nk
 delta R.Ad R.Cs R.F R.I R.J R.Ks R.Ls R.N R.O R.Hz R.S R.W R.X;try dsimp only [R.Ps]
 refine PS ps.length (λ i a' l' c' w1=>l'=i/\∃ qs,rws qs=rws (ps.take i)/\ST w w1 (E5 a' c' qs :: (qs.reverse.map Wt++[]))) (by omega) ⟨rfl,[],rfl,by simpa [E5] using (ST.start w).nil ty.AM 1⟩ λ I M a' l' c' i w1 hi h next=>?_;obtain⟨rfl,qs,hq,S1⟩:=h;have eJ:qs.length=l':=by
  have:=congrArg AoO hq;simp [rws] at this;omega
 refine Aa (λ aB=>⟨⟨by omega,aB⟩,?_⟩) (λ aL=>?_)
 ·have aF:l'<ps.length:=by omega
  obtain⟨q,rfl,hc,_⟩:=(hr.grown S1.An).at aF;refine⟨_,_,_,by rw [AnF];exact hc,(AdV ((hr.grown S1.An).each _ (Aot aF)) (hv _ (Aot aF))).mono ?_⟩;rintro _ w2 ⟨_,rfl,a2,c2,rfl,P2⟩;have S2:=(S1.join P2).Alk 0 rfl;refine⟨_,_,_,rfl,S2.Aj λ b3 w3 _ _ S3=>?_⟩;have S3:ST w w3 (It.cells b3 #[.slice a2 ps[l'].2.2.length c2] ty.AM :: It.rd a2 (AW ps[l'].2.2) :: It.row ty.AM 1 a' l' c' (qs.map Bl) :: (qs.reverse.map Wt++[])):=by
   have h:=S3;unfold E5 at h;rw [eJ] at h;exact h
  refine S3.app 2 rfl AhJ rfl (by omega) (by omega) (S3.rdc 0 rfl) (mm:=1) rfl (by intro u hu;simp at hu;rw [hu];rfl) (by omega) λ a4 c4 w4 S4=>⟨_,_,_,rfl,next _ _ _ _ aF ⟨rfl,qs++[(a2,c2,ps[l'].2.2)],?_,?_⟩⟩
  ·rw [Aou aF];simp only [rws,Aov,List.map_cons,List.map_nil] at hq ⊢;rw [hq]
  ·have S5:=S4.drop 1;have e:E5 a4 c4 (qs++[(a2,c2,ps[l'].2.2)])=It.row ty.AM 1 a4 (l'+1) c4 (qs.map Bl++[.slice a2 ps[l'].2.2.length c2]):=by
    unfold E5;rw [Anp,eJ,Aov];rfl
   rw [e,List.reverse_append,Aov];exact S5.pull 1 rfl
 ·obtain rfl:l'=ps.length:=by omega
  rw [Aoz] at hq;exact⟨a',c',qs,rfl,hq,S1⟩
theorem AkF(hr:Bc w a ps)(hn:ps.length<=100000)(hv:∀ x∈ps,x.2.2.length<=100000/\∀ v∈x.2.2,AL v=true) :
  Calls Tryz.prog f.Aag #[.slice a ps.length c,.int .i64 (-1),.slice none 0 0] w (AB λ r w'=>∃ a' c' qs,r=.tuple #[.slice a' ps.length c',.int .i64 0]/\rws qs=rws ps/\Bc w' a' qs/\Below w.heap.size w w'):=by
 apply R.OH
 delta R.BL R.F R.G R.H R.I R.O R.S R.Zb;try dsimp only [R.Ps]
 have key:Calls Tryz.prog f.Ach #[.slice a ps.length c,.slice none 0 0] w (AB λ r w'=>∃ a' c' qs,r=.tuple #[.slice a' ps.length c',.int .i64 0]/\rws qs=rws ps/\Bc w' a' qs/\Below w.heap.size w w'):=by
  apply R.Qe
  delta R.A R.Cb R.Cn R.Cs R.F R.H R.I R.J R.Ls R.N R.O R.P R.S;try dsimp only [R.Ps]
  refine (ST.start w).Aj λ b w1 _ _ S1=>⟨_,_,_,S1.cell 0 rfl rfl,?_⟩;have aE:=XH (c:=c) (kc:=0) (ks:=[]) (rs:=[]) (ak:=none) (hr.grown S1.An) (by omega) (λ x hx=>by have:=(hv x hx).1;omega) (Rd.nil _ _) rfl (by simp);have e:(ps.any λ x=>!Aaf x.2.2 [])=false:=by
   rw [List.any_eq_false];intro x hx;unfold Aaf;rw [An9.2 (hv x hx).2];simp
  rw [e] at aE;refine S1.call aE λ w2 _ S2=>⟨_,rfl,Ap rfl ((AiU (hr.grown S2.An) hn λ x hx=>(hv x hx).1).mono ?_)⟩;rintro _ w3 ⟨_,rfl,a',c',qs,rfl,hq,P3⟩;have S3:=S2.grown P3.An;have hR:=XW P3;have eJ:qs.length=ps.length:=by
   have:=congrArg AoO hq;simpa [rws] using this
  refine⟨_,_,_,rfl,(Amc (a:=a') (n:=ps.length) (ps:=qs) ⟨hR.top,eJ,by omega,S3.cell 0 rfl rfl⟩).mono ?_⟩;rintro _ w4 ⟨_,rfl,rfl,B4⟩;exact⟨rfl,a',c',qs,rfl,hq,hR.grown B4,(S3.grown B4).An⟩
 refine key.mono ?_;rintro _ w1 ⟨_,rfl,a',c',qs,rfl,h⟩;refine⟨_,_,_,_,rfl,λ st w'=>st=[.bool false]/\w'=w1,Ap rfl ⟨rfl,rfl⟩,?_⟩;rintro t w2 ⟨aA,rfl⟩;cases aA;exact Ap rfl (Ap rfl ⟨a',c',qs,rfl,h⟩)
end
abbrev qxC(a0:Option Addr)(c0:Nat)(ai:Option Addr)(ci n:Nat)(a6:Option Addr)(l6 c6:Nat)(an:Option Addr)(ln cn:Nat)(at_:Option Addr)(ct:Nat):Array Value:=#[.slice a0 n c0,.slice ai n ci,Hm,Hm,Hm,.int .i64 (-1),.slice a6 l6 c6,.bool false,.slice an ln cn,.slice at_ n ct]
structure XQ(w:World)(cs:List A0)(aH:List AV)(n bq:Nat)(a0:Option Addr)(c0:Nat)(ai:Option Addr)(ci:Nat)(an:Option Addr)(cn:Nat)(at_:Option Addr)(ct:Nat)(ga:Option Addr)(g p:Addr):Prop where
 wh:w.cell? ⟨bq,2,none⟩=some Hm
 it:w.cell? ⟨bq,1,none⟩=some (.slice ai cs.length ci)
 nd:w.cell? ⟨bq,8,none⟩=some (.slice an cs.length cn)
 at9:w.cell? ⟨bq,9,none⟩=some (.slice at_ cs.length ct)
 rn:Rd w an (A9 cs)
 ra:Rd w at_ ((EL cs.length).map DK)
 ri:Rd w ai (JZ cs)
 gs:Rd w ga [.pointer (some g)]
 gp:w.cell? g=some (.pointer (some p))
 ca:Fs w p cs aH n
section
variable {w:World}{cs:List A0}{aH:List AV}{n bq:Nat}{a0 ai an at_ ga:Option Addr}{c0 ci cn ct gc:Nat}{g p:Addr}
theorem XQ.grown(A:XQ w cs aH n bq a0 c0 ai ci an cn at_ ct ga g p){w':World}(B:Below w.heap.size w w'):XQ w' cs aH n bq a0 c0 ai ci an cn at_ ct ga g p:=by
 have K:=Ae.Al (F:=λ _=>False) B;exact⟨K.cell A.wh (by simp),K.cell A.it (by simp),K.cell A.nd (by simp),K.cell A.at9 (by simp),A.rn.grown B,A.ra.grown B,A.ri.grown B,A.gs.grown B,K.cell A.gp (by simp),A.ca.grown B⟩
theorem AmV(A:XQ w cs aH n bq a0 c0 ai ci an cn at_ ct ga g p):Calls Tryz.prog f.TE #[.pointer (some ⟨bq,0,none⟩),.pointer (some g)] w (AB λ v w'=>v=.bool (decide (0<n))/\w'=w):=by
 apply R.Kr
 delta R.A R.Ab R.DY R.Alx R.Ci R.D R.E R.F R.G R.I R.J R.Ks R.Li R.Ls R.Lt R.N R.O R.P R.Hz R.S R.Ah R.T R.W R.X;try dsimp only [R.Ps]
 refine⟨_,_,_,A.wh,Bb rfl ((Aib A.gp A.ca).mono ?_)⟩;rintro _ w1 ⟨_,rfl,rfl,rfl⟩;refine⟨_,rfl,?_,rfl⟩;congr 1;simp
theorem AiS{ba:Option Addr}{bc:Nat}{ps:List AV}(A:XQ w cs aH n bq a0 c0 ai ci an cn at_ ct ga g p)(hr:Bc w ba ps)(h1:1<=ps.length)(hn:n<=100000)(hl:∀ p∈ps,p.2.2.length=n) :
  Calls Tryz.prog f.EZ #[.pointer (some ⟨bq,0,none⟩),.slice ba ps.length bc] w (AB λ v w'=>∃ a c,v=.tuple #[.slice a n c,.int .i64 0]/\ST w w' [Dk a c (EL n)]):=by
 apply R.Iq
 delta R.Yx R.Cs R.D R.E R.F R.H R.I R.Li R.Ls R.Lt R.S R.T R.X R.Y;try dsimp only [R.Ps]
 refine (Am4 hr h1 hn hl).mono ?_;rintro _ w1 ⟨_,rfl,a,c,rfl,P1⟩;exact⟨_,_,_,rfl,_,_,_,(A.grown P1.An).wh,Bb rfl ⟨a,c,rfl,P1⟩⟩
theorem Alm{w0 w1:World}{H:List It}{a:Option Addr}{c:Nat}{ps:List AV}(S:ST w0 w1 (Pc a c ps :: (ps.reverse.map Wt++H))):Bc w1 a ps :=
 ⟨S.rd 0 rfl,λ q hq=>S.ok (Wt q) (List.mem_cons_of_mem _ (List.mem_append_left _ (Ang.2 ⟨q,List.mem_reverse.2 hq,rfl⟩)))⟩
theorem AgR{L bs bb gc:Nat}{K:World->Prop}(A:XQ w cs aH n bq a0 c0 ai ci an cn at_ ct ga g p)(hb:w.cell? ⟨bb,0,none⟩=some (.pointer (some ⟨bq,0,none⟩)))(hs:w.cell? ⟨bs,0,none⟩=some (.slice ga 1 gc))(h0:n=0->K w)
  (hy:0<n->∀ w' ba bc ps,rws ps=rws aH->ST w w' (Pc ba bc ps :: (ps.reverse.map Wt++[]))->GJ Tryz.prog L #[.slice ba ps.length bc] (λ y w2=>y=true/\K w2) w') :
  Calls Tryz.prog f.Fm #[.func (.yield L) #[] #[],.pointer (some ⟨bs,0,none⟩),.pointer (some ⟨bb,0,none⟩)] w (AB λ _ w'=>K w'):=by
 apply R.Gw
 delta R.A R.Ad R.BL R.Cb R.F R.H R.I R.J R.Ks R.Li R.Lp R.Ls R.N R.O R.P R.Qi R.Hz R.S R.W R.X;try dsimp only [R.Ps]
 have bR:=Be A.ca.right;have hlen:=A.ca.len;refine⟨_,_,_,hs,FO 1 (λ i w'=>if i=0 then w'=w else K w') (by omega) rfl λ I M i w1 hi hw next=>?_⟩;refine Aa (λ aB=>⟨⟨by omega,aB⟩,?_⟩) (λ aL=>?_)
 ·obtain rfl:i=0:=by omega
  subst hw;obtain⟨pg,rfl,hg⟩:=A.gs 0 _ rfl;refine⟨some g,hg,_,hb,(AmV A).mono ?_⟩;rintro _ w2 ⟨_,rfl,rfl,rfl⟩;refine⟨_,rfl,?_⟩;by_cases hn:0<n
  ·refine Ap (by simp [hn]) ⟨some ⟨bq,0,none⟩,hb,_,_,_,A.at9,?_⟩;refine PS cs.length (λ i a' l' c' w'=>l'=i/\∃ qs,rws qs=rws (aH.take i)/\ST w2 w' (Pc a' c' qs :: (qs.reverse.map Wt++[]))) (by omega) ⟨rfl,[],rfl,by simpa [Pc] using (ST.start w2).nil ty.BM 1⟩ λ I2 M2 a' l' c' i w3 hi ⟨hl,qs,hq,S3⟩ dX=>?_;subst hl;have eJ:qs.length=l':=by
    have:=congrArg AoO hq;simp [rws] at this;omega
   refine Aa (λ aB=>⟨⟨by omega,aB⟩,?_⟩) (λ aL=>?_)
   ·have aF:l'<cs.length:=by omega
    have A3:=A.grown S3.An;obtain⟨q,rfl,hc⟩:=A3.ra l' (.int .i64 (l':Int)) (by simp [EL,aF,DK]);refine⟨_,by rw [AnF,AnI];exact hc,(AdX A3.gp A3.ca (i:=l') (by omega)).mono ?_⟩;rintro _ w4 ⟨_,rfl,a2,c2,rfl,P4⟩;have S4:=(S3.join P4).Alk 0 rfl;refine⟨_,_,_,_,rfl,S4.Aj λ b5 w5 _ _ S5=>?_⟩;have h:=X9 (x:=(a2,c2,aH[l'].2.2)) S5 2 rfl (S5.rdc 0 rfl) (by omega) (f:=λ v w'=>∃ x y z,v=.slice x y z/\(I2 [.slice x y z,.int .i64 (IntKind.i64.wrap ((l':Int)+1))] w'/\M2 [.slice x y z,.int .i64 (IntKind.i64.wrap ((l':Int)+1))] w'<M2 [.slice a' l' c',.int .i64 (l':Int)] w3)) λ a6 c6 w6 S6=>⟨_,_,_,rfl,dX _ _ _ _ aF ⟨by rw [Anp,eJ];rfl,qs++[(a2,c2,aH[l'].2.2)],?_,?_⟩⟩
    ·rw [eJ] at h;exact h
    ·rw [Aou (by omega)];simp only [rws,Aov,List.map_cons,List.map_nil] at hq ⊢;rw [hq]
    ·rw [List.reverse_append,Aov];exact (S6.drop 1).pull 1 rfl
   ·obtain rfl:l'=cs.length:=by omega
    rw [<- hlen,Aoz] at hq;have h:=hy hn w3 a' c' qs hq S3;rw [eJ] at h;refine h.mono ?_;rintro y w4 ⟨rfl,hK⟩;exact Ap rfl (next _ (by omega) hK)
  ·exact Bb (by simp [hn]) (next _ (by omega) (h0 (by omega)))
 ·obtain rfl:i=1:=by omega
  exact hw
end
section
variable {w0 w:World}{H:List It}{cs:List A0}{aH:List AV}{n bq:Nat}{a0 ai an at_ ga al:Option Addr}{c0 ci cn ct gc cl:Nat}{g p:Addr}
abbrev oI(bo:Nat)(oa:Option Addr)(l oc:Nat):It:=It.cells bo #[.slice oa l oc] ty.Ig
theorem Ai1{oa:Option Addr}{oc bo:Nat}{ps:List AV}(S:ST w0 w (E5 oa oc ps :: oI bo oa ps.length oc :: H))(hl:ps.length<4096)(q:AV) :
  Calls Tryz.prog f.Bu #[Bl q,.pointer (some ⟨bo,0,none⟩)] w (AB λ v w'=>v=.int .i64 0/\∃ a' c',ST w0 w' (E5 a' c' (ps++[q]) :: oI bo a' (ps.length+1) c' :: H)):=by
 apply R.Hl
 delta R.A R.F R.I R.J R.Ks R.Ls R.N R.S R.Ah;try dsimp only [R.Ps]
 refine⟨_,_,_,S.cell 1 rfl rfl,Az (λ h=>by omega) (λ _=>⟨_,_,_,S.cell 1 rfl rfl,S.Aj λ b1 w1 _ _ S1=>?_⟩)⟩;refine S1.app 1 rfl AhJ rfl (by omega) (by omega) (S1.rdc 0 rfl) (mm:=1) rfl (by intro u hu;simp at hu;rw [hu];rfl) (by omega) λ a' c' w2 S2=>⟨_,_,_,rfl,S2.Cr 2 rfl (aC:=#[.slice a' (ps.length+1) c']) (by simp) rfl λ w3 S3=>⟨rfl,a',c',?_⟩⟩;have e:E5 a' c' (ps++[q])=It.row ty.AM 1 a' (ps.length+1) c' (ps.map Bl++[Bl q]):=by
  unfold E5;rw [Anp,Aov];rfl
 rw [e];exact S3.drop 1
theorem AhP{w1:World}{X H:List It}{a:Option Addr}{c:Nat}{ps:List AV}(S:ST w0 w1 (X++(Pc a c ps :: (ps.reverse.map Wt++H)))):Bc w1 a ps :=
 Alm (S.sub (List.sublist_append_right _ _))
theorem AgY{bo:Nat}(S:ST w0 w [E5 none 0 [],oI bo none 0 0,It.rd al (elL cs)])(E:Env w0)(A:XQ w0 cs aH n bq a0 c0 ai ci an cn at_ ct ga g p)
  (hq:∀ c∈cs,c.1.size<=9223372036854775807) (br:∀ i,i<n->Ek cs (rowAt (rws aH) i)=true) (hf:∀ j (hj:j<cs.length),JN cs cs[j].1=some j) :
  Calls Tryz.prog f.Na #[.pointer (some ⟨bq,0,none⟩),.slice ga 1 gc,.slice al cs.length cl,.func (.func f.Bu) #[] #[.pointer (some ⟨bo,0,none⟩)]] w (AB λ v w'=>v=.int .i64 0/\∃ oa oc qs,rws qs=rowsOf (rws aH) n/\ST w0 w' ([E5 oa oc qs,oI bo oa qs.length oc]++qs.map vI)):=by
 apply R.HX
 delta R.A R.Ad R.BL R.AlA R.Cf R.F R.G R.I R.Lf R.Li R.Lp R.Ls R.N R.P R.Qi R.S R.Ah R.W R.X;try dsimp only [R.Ps]
 have bR:=Be A.ca.right;have hlen:=A.ca.len;have cV:=A.ca.small;refine S.Aj λ b1 w1 _ B1 S1=>S1.Aj λ b2 w2 _ B2 S2=>S2.Aj λ b3 w3 _ B3 S3=>S3.Aj λ b4 w4 _ B4 S4=>S4.Cr 0 rfl (aC:=#[.int .i64 0]) (by simp) rfl λ w5 S5=>⟨_,S5.cell 3 rfl rfl,?_⟩;have qe:Calls Tryz.prog f.M9 #[.pointer (some ⟨bq,0,none⟩),.slice ga 1 gc] w5 (AB λ v w'=>∃ bs bb,v=.func (.func f.Fm) #[] #[.pointer (some ⟨bs,0,none⟩),.pointer (some ⟨bb,0,none⟩)]/\ST w5 w' [It.cells bs #[.slice ga 1 gc] ty.Ef,It.cells bb #[.pointer (some ⟨bq,0,none⟩)] ty.EP]):=by
  apply R.HV
  delta R.J R.N R.P R.S;try dsimp only [R.Ps]
  exact (ST.start w5).Aj λ x1 v1 _ _ T1=>T1.Aj λ x2 v2 _ _ T2=>⟨x2,x1,rfl,T2⟩
 refine qe.mono ?_;rintro _ w6 ⟨_,rfl,bs,bb,rfl,P6⟩;have S6:=S5.join P6;refine⟨_,_,_,rfl,by kernel_rfl,λ rr aA bJ hy=>?_⟩;have S7:=S6.range rr;obtain⟨L,hL⟩:∃ L,L=w6.heap.size+1:=⟨_,rfl⟩;obtain⟨m,hm⟩:∃ m,m=w6.heap.size:=⟨_,rfl⟩;rw [<- hL] at S7 hy ⊢;rw [<- hm] at S7 ⊢;refine (AgR (L:=L) (K:=λ w'=>∃ oa oc qs,rws qs=rowsOf (rws aH) n/\ST w0 w' ([E5 oa oc qs,oI bo oa qs.length oc,It.obj L (.loop rr),It.obj m (.deferred (some [])),It.cells b4 #[.int .i64 0] ty.CE]++qs.map vI)) (A.grown S7.An) (S7.cell 3 rfl rfl) (S7.cell 2 rfl rfl) ?_ ?_).mono ?_
 ·rintro rfl;refine⟨none,0,[],rfl,?_⟩;exact ((S7.pull 9 rfl).pull 9 rfl).sub (.cons_cons _ (.cons_cons _ (.cons_cons _ (.cons_cons _ (.cons _ (.cons _ (.cons_cons _ (Ao6 _))))))))
 ·intro hn w8 ba bc ps cU P8;have S8:ST w0 w8 ([It.obj L (.loop rr),It.obj m (.deferred (some [])),It.cells bs #[.slice ga 1 gc] ty.Ef,It.cells bb #[.pointer (some ⟨bq,0,none⟩)] ty.EP,It.cells b4 #[.int .i64 0] ty.CE,It.cells b3 #[.func (.func f.Bu) #[] #[.pointer (some ⟨bo,0,none⟩)]] 165,It.cells b2 #[.slice al cs.length cl] ty.IU,It.cells b1 #[.pointer (some ⟨bq,0,none⟩)] ty.EP,E5 none 0 [],oI bo none 0 0,It.rd al (elL cs)]++(Pc ba bc ps :: (ps.reverse.map Wt++[]))):=by
   have h:=ST.AdQ (Pc ba bc ps :: (ps.reverse.map Wt++[])) (B:=[]) (X:=[It.obj L (.loop rr),It.obj m (.deferred (some [])),It.cells bs #[.slice ga 1 gc] ty.Ef,It.cells bb #[.pointer (some ⟨bq,0,none⟩)] ty.EP,It.cells b4 #[.int .i64 0] ty.CE,It.cells b3 #[.func (.func f.Bu) #[] #[.pointer (some ⟨bo,0,none⟩)]] 165,It.cells b2 #[.slice al cs.length cl] ty.IU,It.cells b1 #[.pointer (some ⟨bq,0,none⟩)] ty.EP,E5 none 0 [],oI bo none 0 0,It.rd al (elL cs)]) (S7.join P8);rw [AoS] at h;exact h
  have bS:ps.length=cs.length:=by
   have:=congrArg AoO cU;simp only [rws,AnS] at this;omega
  have oU:∀ q∈ps,q.2.2.length=n:=λ q dI=>by
   have h:q.2.2∈rws aH:=by rw [<- cU];exact Ang.2 ⟨q,dI,rfl⟩
   obtain⟨q',h1,h2⟩:=Ang.1 h;rw [<- h2];exact (A.ca.each q' h1).1
  refine hy _ _ _ _ w8 (S8.get 0 rfl) ?_;refine S8.Abm 0 rfl λ w9 S9=>⟨_,S9.cell 7 rfl rfl,(AiS (A.grown S9.An) (AhP (X:=[_,_,_,_,_,_,_,_,_,_,_]) S9) (by omega) (by omega) oU).mono ?_⟩;rintro _ cX ⟨_,rfl,ca,cc,rfl,vG⟩;have cP:=S9.join vG;have sk:=A.grown cP.An;have vi:VQ cX cs an ba ca ps n:=⟨AhP (X:=[_,_,_,_,_,_,_,_,_,_,_,_]) cP,sk.rn,A.ca.right,hq,bS,oU,cV,λ i hi=>by rw [cU];exact br i hi,cP.rd 0 rfl⟩;refine⟨_,_,_,_,rfl,_,cP.cell 8 rfl rfl,_,_,_,cP.cell 7 rfl rfl,(AhX (E.grown cP.An) vi sk.nd (cP.get 11 rfl) hf).mono ?_⟩;rintro _ aW ⟨_,rfl,e,b,qs,rfl,dV,vH⟩;have eJ:qs.length=n:=by
   have:=congrArg AoO dV;simpa [rws,rowsOf] using this
  obtain⟨Y,hY⟩:∃ Y,Y=[It.obj L (.loop { rr with state:=.busy }),It.obj m (.deferred (some [])),It.cells b4 #[.int .i64 0] ty.CE,It.cells b3 #[.func (.func f.Bu) #[] #[.pointer (some ⟨bo,0,none⟩)]] 165]:=⟨_,rfl⟩;have iE:ST w0 aW (E5 none 0 [] :: oI bo none 0 0 :: rI e n qs :: Th b n :: (Y++qs.map vI)):=by
   have h1:=cP.join vH;have h2:=h1.perm (H':=[rI e n qs,Th b n]++(_++qs.map vI)) (by rw [List.append_assoc];exact List.perm_append_comm.append_left _);subst hY;exact ((h2.pull 12 rfl).pull 12 rfl).sub (.cons_cons _ (.cons_cons _ (.cons_cons _ (.cons_cons _ (.cons _ (.cons_cons _ (.cons_cons _ (.cons _ (.cons _ (.cons_cons _ (.cons_cons _ (.cons _ (.cons _ (.cons _ (List.sublist_append_right (Pc ba bc ps :: (ps.reverse.map Wt++[])) _)))))))))))))))
  refine⟨_,_,_,_,_,_,rfl,FO n (λ u w'=>∃ oa oc,ST w0 w' (E5 oa oc (qs.take u) :: oI bo oa u oc :: rI e n qs :: Th b n :: (Y++qs.map vI))) (by omega) ⟨none,0,iE⟩ λ I M u bN hu ⟨oa,oc,dG⟩ next=>?_⟩;subst hY;refine Aa (λ aB=>⟨⟨by omega,aB⟩,?_⟩) (λ aL=>?_)
  ·have iB:u<n:=by omega
   have uO:u<qs.length:=by omega
   have hz:(AnP n (Value.int .i64 0))[u]?=some (.int .i64 0):=by simp [iB]
   refine⟨_,_,_,Acs (dG.rd 2 rfl) (show (qs.map Bl)[u]?=some (Bl qs[u]) by simp [uO]),⟨by omega,by omega⟩,_,Acs (dG.rd 3 rfl) hz,dG.Cr 6 rfl (aC:=#[.int .i64 0]) (by simp) rfl λ bF jG=>⟨_,jG.cell 6 rfl rfl,Bb rfl (.inl ⟨_,_,_,jG.cell 7 rfl rfl,?_⟩)⟩⟩;rw [show enters Tryz.prog f.Bu=true by kernel_rfl];have fE:(qs.take u).length=u:=by simp;omega
   have ph:=Ai1 (oa:=oa) (oc:=oc) (bo:=bo) (ps:=qs.take u) (by rw [fE];exact jG) (by omega) qs[u];refine ph.mono ?_;rintro _ ay ⟨_,rfl,rfl,a',c',gH⟩;rw [fE,<- Aou uO] at gH;exact⟨_,rfl,gH.Cr 6 rfl (aC:=#[.int .i64 0]) (by simp) rfl λ dY dn=>⟨_,dn.cell 6 rfl rfl,Ap rfl (next _ iB ⟨a',c',dn⟩)⟩⟩
  ·obtain rfl:u=n:=by omega
   refine dG.Cr 6 rfl (aC:=#[.int .i64 0]) (by simp) rfl λ bF jG=>⟨_,jG.cell 6 rfl rfl,Ap rfl (jG.QV 4 aA bJ rfl λ w' S'=>⟨rfl,oa,oc,qs,by rw [dV,cU],?_⟩)⟩;rw [Aoy (by omega),<- eJ] at S';exact S'.sub (.cons_cons _ (.cons_cons _ (.cons _ (.cons _ (.cons_cons _ (.cons_cons _ (.cons_cons _ (.cons _ (.refl _)))))))))
 ·rintro _ ay ⟨_,rfl,oa,oc,qs,dV,gH⟩;refine⟨⟨_,rfl⟩,gH.QU 2 aA bJ rfl λ dY dn=>.inl ⟨rfl,_,dn.cell 4 rfl rfl,dn.get 3 rfl,rfl,oa,oc,qs,dV,?_⟩⟩;exact (dn.put 3 rfl (.deferred none)).sub (.cons_cons _ (.cons_cons _ (.cons _ (.cons _ (.cons _ (.refl _))))))
end
section
variable {w0 w:World}{H:List It}{a a2:Option Addr}{c c2:Nat}
theorem Se{ls ms:List A0}(hl:Rd w a (A9 ls))(hm:Rd w a2 (A9 ms))(hn:ls.length<=9223372036854775807) :
  Calls Tryz.prog f.Ey #[.slice a ls.length c,.slice a2 ms.length c2] w (AB λ v w'=>Below w.heap.size w w'/\v=.bool (decide (ls=ms))):=by
 apply R.DF
 delta R.D R.F R.G R.I R.Lb R.Li R.Lt R.Qi R.W R.X;try dsimp only [R.Ps]
 refine Au (λ h=>⟨.refl _ _,?_⟩) (λ hlen=>?_)
 ·congr 1;rw [eq_comm,decide_eq_false_iff_not];rintro rfl;exact h rfl
 have cO:ls.length=ms.length:=by omega
 refine⟨λ s w1=>∃ i:Nat,i<=ls.length/\s=[.int .i64 (i:Int)]/\Below w.heap.size w w1/\ls.take i=ms.take i,λ s _=>match s with
   | [.int _ i]=>ls.length-i.toNat
   | _=>0,⟨0,by omega,rfl,.refl _ _,rfl⟩,?_⟩
 rintro _ w1 ⟨i,hi,hs,B1,hT⟩;cases hs;refine Aa (λ aB=>?_) (λ aL=>⟨B1,?_⟩)
 ·have h1:i<ls.length:=by omega
  have h2:i<ms.length:=by omega
  refine (SH.start (λ _=>False) w1).MC λ w2 B2 _=>⟨⟨by omega,aB⟩,?_⟩;have C2:=Ac B1 B2;obtain⟨p1,rfl,c0,c1,c2⟩:=I3 (hl.grown C2) h1;obtain⟨p2,rfl,d0,d1,d2⟩:=I3 (hm.grown C2) h2;refine⟨⟨by omega,by omega⟩,_,by rw [AnF];exact c0,_,by rw [AnF];exact c1,_,by rw [AnF];exact c2,_,by rw [AnF];exact d0,_,by rw [AnF];exact d1,_,by rw [AnF];exact d2,?_⟩;rw [Ain];refine A5 (Aa (λ he=>?_) (λ he=>⟨C2,?_⟩))
  ·rw [Ai (by omega)];refine⟨⟨i+1,by omega,rfl,C2,?_⟩,?_⟩
   ·rw [Aou h1,Aou h2,hT,he]
   ·simp only [AnF];omega
  ·congr 1;rw [eq_comm,decide_eq_false_iff_not];rintro rfl;exact he rfl
 ·congr 1;rw [eq_comm,decide_eq_true_eq];rw [Aoy (by omega),Aoy (by omega)] at hT;exact hT
end
section
variable {w:World}{cs:List A0}{aH:List AV}{n:Nat}{a1 ai ga x6:Option Addr}{c1 ci gc l6 k6:Nat}{g p:Addr}
theorem Amb(A:LQ w cs a1 ai ci)(hs:Rd w ga [.pointer (some g)])(hg:w.cell? g=some (.pointer (some p)))(hC:Fs w p cs aH n) :
  Calls Tryz.prog f.PN #[.agg (Vi a1 c1 ai ci cs.length x6 l6 k6),.slice ga 1 gc] w (AB λ r w'=>∃ bq a0 c0 a6 c6 an cn at_ ct,r=.tuple #[.pointer (some ⟨bq,0,none⟩),.int .i64 0]/\ST w w' [It.cells bq (qxC a0 c0 ai ci cs.length a6 cs.length c6 an cs.length cn at_ ct) ty.TD,Bg an cn cs,Dk at_ ct (EL cs.length)]):=by
 apply R.RH
 delta R.A R.Ab R.Ad R.FI R.Cb R.Cs R.D R.E R.F R.G R.H R.I R.J R.Ks R.Lb R.Li R.Lp R.Ls R.Lt R.N R.O R.P R.Qi R.S R.Ah R.T R.W R.X R.Z;try dsimp only [R.Ps]
 obtain⟨h1,hn16⟩:=A.len;refine (ST.start w).Aj λ b0 w1 _ _ S1=>⟨_,_,_,S1.cell 0 rfl rfl,_,_,_,S1.cell 0 rfl rfl,_,_,_,S1.cell 0 rfl rfl,_,_,_,S1.cell 0 rfl rfl,_,_,_,S1.cell 0 rfl rfl,_,S1.cell 0 rfl rfl,(AjN (A.grown S1.An)).mono ?_⟩;rintro _ w2 ⟨_,rfl,a0,c0,a6,c6,rfl,P2⟩;have S2:=S1.join P2;refine⟨_,_,_,_,_,_,_,_,_,_,_,_,_,_,_,_,_,_,_,_,_,rfl,S2.Aj λ b3 w3 _ _ S3=>S3.Alf 0 rfl λ w4 S4=>Ap rfl ?_⟩;obtain⟨X,hX⟩:∃ X,X=[Bg a0 c0 cs,Bg a6 c6 (cs.map Jq),It.cells b0 (Vi a1 c1 ai ci cs.length x6 l6 k6) ty.Ii]:=⟨_,rfl⟩;have S4:ST w w4 (It.cells b3 (Vi a0 c0 ai ci cs.length a6 cs.length c6) ty.Ii :: X):=by rw [hX];exact S4
 refine FO 1 (λ i w5=>ST w w5 (It.cells b3 (Vi a0 c0 ai ci cs.length a6 cs.length c6) ty.Ii :: X)) (by omega) S4 λ I M i w5 hi S5 next=>?_;refine Aa (λ aB=>⟨⟨by omega,aB⟩,?_⟩) (λ aL=>?_)
 ·obtain rfl:i=0:=by omega
  obtain⟨pg,rfl,hc⟩:=(hs.grown S5.An) 0 _ rfl;refine⟨some g,hc,S5.draw λ w6 B6 S6=>Aw ⟨_,_,_,S6.cell 3 (by rw [hX];rfl) rfl,(Ah4 ((Ae.Al (F:=λ _=>False) S6.An).cell hg (by simp)) (hC.grown S6.An)).mono ?_⟩⟩;rintro _ w7 ⟨_,rfl,a7,c7,rfl,P7⟩;have S7:=S6.join P7;refine⟨_,_,_,rfl,S7.cell 4 (by rw [hX];rfl) rfl,(Se (S7.rd 0 rfl) (A.r.grown S7.An) (by omega)).mono ?_⟩;rintro _ w8 ⟨_,rfl,B8,rfl⟩;exact⟨_,rfl,Ap (by simp) (next _ (by omega) ((S7.grown B8).drop 1))⟩
 ·refine S5.draw λ w6 _ S6=>⟨_,_,_,S6.cell 0 rfl rfl,_,_,_,S6.cell 0 rfl rfl,_,_,_,S6.cell 0 rfl rfl,_,_,_,S6.cell 0 rfl rfl,_,_,_,S6.cell 0 rfl rfl,_,S6.cell 0 rfl rfl,_,_,_,S6.cell 0 rfl rfl,_,S6.cell 0 rfl rfl,_,_,_,S6.cell 0 rfl rfl,_,_,_,S6.cell 0 rfl rfl,_,_,_,S6.cell 0 rfl rfl,_,_,_,S6.cell 0 rfl rfl,_,_,_,S6.cell 0 rfl rfl,_,S6.cell 0 rfl rfl,_,_,_,S6.cell 0 rfl rfl,_,S6.cell 0 rfl rfl,(AkG (A.grown S6.An) (S6.rd 1 (by rw [hX];rfl))).mono ?_⟩;rintro _ w7 ⟨_,rfl,at_,ct,rfl,P7⟩;have S7:=S6.join P7;refine⟨_,_,_,rfl,⟨S7.cell 1 rfl rfl,S7.cell 1 rfl rfl,S7.cell 1 rfl rfl,S7.cell 1 rfl rfl,S7.cell 1 rfl rfl,S7.cell 1 rfl rfl,S7.cell 1 rfl rfl,S7.cell 1 rfl rfl⟩,S7.Aj λ b8 w8 _ _ S8=>?_⟩;refine⟨λ _ w9=>w9=w8,⟨_,_,_,S8.cell 0 rfl rfl,Az (λ h=>by omega) (λ _=>rfl)⟩,?_⟩;rintro w9 rfl;refine⟨_,_,_,S8.cell 0 rfl rfl,FO cs.length (λ i cX=>∃ na nc,ST w cX (It.row ty.BX 3 na i nc (A9 (cs.take i)) :: It.cells b8 (qxC a0 c0 ai ci cs.length a6 cs.length c6 na i nc at_ ct) ty.TD :: Dk at_ ct (EL cs.length) :: It.cells b3 (Vi a0 c0 ai ci cs.length a6 cs.length c6) ty.Ii :: X)) (by omega) ⟨none,0,S8.nil _ _⟩ λ I2 M2 i cX hi ⟨na,nc,o7⟩ next=>?_⟩
  refine Aa (λ aB=>⟨⟨by omega,aB⟩,?_⟩) (λ aL=>?_)
  ·have aF:i<cs.length:=by omega
   obtain⟨pa,rfl,hc⟩:=(o7.rd 2 rfl) i (.int .i64 (i:Int)) (by simp [EL,aF,DK]);refine⟨_,by rw [AnF,AnI];exact hc,o7.draw λ aW dO o8=>⟨_,_,_,o8.cell 1 rfl rfl,_,_,_,o8.cell 3 rfl rfl,⟨by omega,by omega⟩,?_⟩⟩;obtain⟨pc,rfl,k0,k1,k2⟩:=I3 (o8.rd 4 (by rw [hX];rfl)) aF;refine⟨_,by rw [AnF];exact k0,_,by rw [AnF];exact k1,_,by rw [AnF];exact k2,o8.Aj λ eQ dN _ nv pK=>⟨pK.cell 2 rfl rfl,pK.app 1 rfl AaS rfl (by omega) (by omega) (pK.rdc 0 rfl) (mm:=1) rfl (by intro u hu;simp at hu;rcases hu with rfl | rfl | rfl <;> rfl) (by omega) λ a' c' bN vg=>⟨_,_,_,rfl,vg.Cr 2 rfl (aC:=qxC (some pc) c0 ai ci cs.length a6 cs.length c6 a' (i+1) c' (some pa) ct) (by simp) rfl λ bF vh=>next _ aF ⟨a',c',?_⟩⟩⟩⟩;rw [Aou aF,show A9 (cs.take i++[cs[i]])=A9 (cs.take i)++I1 cs[i] by simp only [A9,List.flatMap_append,List.flatMap_cons,List.flatMap_nil,AoS]];exact vh.drop 1
  ·obtain rfl:i=cs.length:=by omega
   rw [Aoz] at o7;exact⟨b8,a0,c0,a6,c6,na,nc,at_,ct,rfl,(o7.pull 1 rfl).sub (.cons_cons _ (.cons_cons _ (.cons_cons _ (Ao6 _))))⟩
theorem AkM{bq:Nat}{a0 an at_:Option Addr}{c0 cn ct:Nat}(E:Env w)(A:XQ w cs aH n bq a0 c0 ai ci an cn at_ ct ga g p)
  (hq:∀ c∈cs,c.1.size<=9223372036854775807) (br:∀ i,i<n->Ek cs (rowAt (rws aH) i)=true) (hf:∀ j (hj:j<cs.length),JN cs cs[j].1=some j) :
  Calls Tryz.prog f.PO #[.pointer (some ⟨bq,0,none⟩),.slice ga 1 gc] w (AB λ v w'=>∃ oa oc qs,v=.tuple #[.slice oa qs.length oc,.int .i64 0]/\rws qs=rowsOf (rws aH) n/\Bc w' oa qs/\Below w.heap.size w w'):=by
 apply R.I8
 delta R.A R.Ab R.Ci R.F R.H R.I R.J R.Ks R.Li R.Ls R.Lt R.N R.O R.P R.Hz R.S R.Ah R.T R.W R.X;try dsimp only [R.Ps]
 have bR:=Be A.ca.right;refine⟨_,_,_,A.it,PS cs.length (λ i a' l' c' w'=>l'=i/\ST w w' [It.row ty.GM 6 a' i c' (elL (cs.take i))]) (by omega) ⟨rfl,(ST.start w).nil _ _⟩ λ I M a' l' c' i w1 hi ⟨hl,S1⟩ next=>?_⟩;subst hl;refine Aa (λ aB=>⟨⟨by omega,aB⟩,?_⟩) (λ aL=>?_)
 ·have aF:l'<cs.length:=by omega
  obtain⟨pi,oT,hc⟩:=Qn (A.ri.grown S1.An) aF;rw [oT,AnF];refine ldI (i:=Ql cs[l']) hc (S1.Ab8 λ b2 w2 _ S2=>⟨_,S2.cell 0 rfl rfl,_,S2.cell 0 rfl rfl,_,S2.cell 0 rfl rfl,_,S2.cell 0 rfl rfl,_,S2.cell 0 rfl rfl,_,_,_,S2.cell 0 rfl rfl,S2.Aj λ b3 w3 _ _ S3=>?_⟩);refine S3.app 2 rfl Am2 rfl (by omega) (by omega) (S3.rdc 0 rfl) (mm:=1) rfl (by intro u hu;simp at hu;rcases hu with rfl | rfl | rfl | rfl | rfl | rfl <;> rfl) (by omega) λ a2 c2 w4 S4=>⟨_,_,_,rfl,next _ _ _ _ aF ⟨rfl,?_⟩⟩;rw [Aou aF,show elL (cs.take l'++[cs[l']])=elL (cs.take l')++NM cs[l'].1 by simp only [elL,List.flatMap_append,List.flatMap_cons,List.flatMap_nil,AoS]];exact S4.drop 2
 ·obtain rfl:l'=cs.length:=by omega
  rw [Aoz] at S1;refine S1.Aj λ bo w2 _ _ S2=>?_;have S3:ST w w2 [E5 none 0 [],oI bo none 0 0,It.rd a' (elL cs)]:=((S2.Alk 1 rfl).nil ty.AM 1);refine (AgY (cl:=c') S3 E A hq br hf).mono ?_;rintro _ w4 ⟨_,rfl,rfl,oa,oc,qs,dV,S4⟩;exact⟨_,rfl,_,_,_,S4.cell 1 rfl rfl,oa,oc,qs,rfl,dV,⟨S4.rd 0 rfl,λ q hq=>Row.rd (S4.ok (vI q) (List.mem_append_right _ (List.mem_map_of_mem hq)))⟩,S4.An⟩
theorem AmS(A:LQ w cs a1 ai ci)(hs:Rd w ga [.pointer (some g)])(hg:w.cell? g=some (.pointer (some p)))(hC:Fs w p cs aH n)
  (br:∀ i,i<n->Ek cs (rowAt (rws aH) i)=true) (hv:∀ r∈rowsOf (rws aH) n,r.length<=100000/\∀ v∈r,AL v=true) :
  Calls Tryz.prog f.TB #[.agg (Vi a1 c1 ai ci cs.length x6 l6 k6),.slice ga 1 gc] w (AB λ v w'=>∃ oa oc qs,v=.tuple #[.slice oa qs.length oc,.int .i64 0]/\rws qs=rowsOf (rws aH) n/\Bc w' oa qs/\Below w.heap.size w w'):=by
 apply R.TC
 delta R.A R.Ab R.Ah3 R.BL R.D R.E R.F R.G R.H R.I R.Lb R.Li R.Ls R.N R.O R.P R.S;try dsimp only [R.Ps]
 refine (ST.start w).Aj λ b0 w1 _ _ S1=>⟨_,_,_,S1.cell 0 rfl rfl,_,_,_,S1.cell 0 rfl rfl,_,_,_,S1.cell 0 rfl rfl,_,_,_,S1.cell 0 rfl rfl,_,_,_,S1.cell 0 rfl rfl,_,S1.cell 0 rfl rfl,_,_,_,S1.cell 0 rfl rfl,_,S1.cell 0 rfl rfl,(Amb (A.grown S1.An) (hs.grown S1.An) ((Ae.Al (F:=λ _=>False) S1.An).cell hg (by simp)) (hC.grown S1.An)).mono ?_⟩;rintro _ w2 ⟨_,rfl,bq,a0,c0,a6,c6,an,cn,at_,ct,rfl,P2⟩;have S2:=S1.join P2;have A2:=A.grown S2.An;refine⟨_,_,rfl,Ap rfl ⟨_,S2.cell 0 rfl rfl,Ap rfl ((AkM (n:=n) (a0:=a0) (c0:=c0) A2.E ⟨S2.cell 0 rfl rfl,S2.cell 0 rfl rfl,S2.cell 0 rfl rfl,S2.cell 0 rfl rfl,S2.rd 1 rfl,S2.rd 2 rfl,A2.l,hs.grown S2.An,(Ae.Al (F:=λ _=>False) S2.An).cell hg (by simp),hC.grown S2.An⟩ (λ c hc=>by have:=(A.k c hc).2;omega) br A.f).mono ?_)⟩⟩;rintro _ w3 ⟨_,rfl,oa,oc,qs,rfl,dV,hR,B3⟩;have S3:=S2.grown B3;refine⟨_,_,_,_,rfl,Ap rfl (S3.draw λ w4 B4 S4=>⟨_,S4.cell 0 rfl rfl,_,_,_,S4.cell 0 rfl rfl,(AkF (hR.grown B4) ?_ ?_).mono ?_⟩)⟩
 ·have:=congrArg AoO dV;simp only [rws,rowsOf,AnS,List.length_range] at this;have:=hC.small;omega
 ·exact λ x hx=>hv _ (by rw [<- dV];exact Ang.2 ⟨x,hx,rfl⟩)
 ·rintro _ w5 ⟨_,rfl,sY,sZ,ks,rfl,im,hK,B5⟩;have hl:ks.length=qs.length:=by
   have:=congrArg AoO im;simpa [rws] using this
  exact⟨_,_,_,_,rfl,sY,sZ,ks,by rw [hl],by rw [im,dV],hK,(S4.grown B5).An⟩
end
theorem Ae5(p q r:Addr)(w:World) :
  CallsD Tryz.prog 83 #[.pointer (some p),.pointer (some q),.pointer (some r)] .returning w λ e u' w'=>e=.returned (.tuple #[])/\u'=.returning/\w'=w:=by
 refine callsD_of_wpS Tryz.func83 rfl λ c₀ cs hu=>?_;apply wpS_seq;apply wpS_region;simp [wpOpsS,go_sem,recoverD,hu,Tryz.ntmps83,Exit.thenS];refine wpS_of_wp ?_
 go_wp2
 cases c₀;simp_all [bodyPostS,results,Tryz.results83]
theorem Ae6{w:World}{ua:Option Addr}{un uc:Nat}{K:Value->World->Prop} (h:C0 #[.slice none 0 0,.slice none 0 0,.slice none 0 0,.slice none 0 0,.int .i64 0] ty.CF (λ b1 w1=>C0 #[.int .i64 0] ty.int (λ b2 w2=>C0 #[.bool false] ty.bool (λ b3 w3=>C0 #[.slice ua un uc] ty.OS (λ b4 w4 =>
   Calls Tryz.prog 84 #[.pointer (some ⟨b4,0,none⟩)] w4 (λ e w5=>∃ us:List Value,us.length=5/\e=.returned (.agg ⟨us⟩)/\BW us ⟨b1,0,none⟩ 0 (λ w6=>BW [.int .i64 0] ⟨b2,0,none⟩ 0 (λ w7=>BW [.bool true] ⟨b3,0,none⟩ 0 (λ w8 =>
    ∃ x0 x1 x2 x3 x4 x5 x6,w8.cell? ⟨b1,0,none⟩=some x0/\w8.cell? ⟨b1,1,none⟩=some x1/\w8.cell? ⟨b1,2,none⟩=some x2/\w8.cell? ⟨b1,3,none⟩=some x3/\w8.cell? ⟨b1,4,none⟩=some x4/\w8.cell? ⟨b2,0,none⟩=some x5/\w8.cell? ⟨b3,0,none⟩=some x6/\K (.tuple #[.agg #[x0,x1,x2,x3,x4],x5,x6]) w8) w7) w6) w5)) w3) w2) w1) w) :
  Calls Tryz.prog f.Nt #[.slice ua un uc] w (λ e w'=>∃ c,e=.returned c/\K c w'):=by
 have zr:∀(fn:Fn) (first cap:Array Value) (w:World),(Instr.makeFunc fn first cap).run Tryz.prog w=.ok (.func fn first cap) w:=λ _ _ _ _=>rfl;unfold C0 at h;simp only [World.size_alloc] at h
 go_enter_defers Tryz.func40,Tryz.ntmps40
 go_wp2_with (fail)
 refine h.mono ?_;rintro _ w5 ⟨us,zx,rfl,h5⟩;obtain⟨w6,h6,uJ⟩:=MV (P:=Tryz.prog) _ _ _ _ _ h5;obtain⟨y2,z2,h7⟩:Cd ⟨w.heap.size+1,0,none⟩ (.int .i64 0) _ w6:=h6;obtain⟨y3,z3,x0,x1,x2,x3,x4,x5,x6,d0,d1,d2,d3,d4,d5,d6,hK⟩:Cd ⟨w.heap.size+1+1,0,none⟩ (.bool true) _ _:=h7;obtain⟨o2,c2⟩:=Option.isSome_iff_exists.1 y2;obtain⟨o3,c3⟩:=Option.isSome_iff_exists.1 y3
 go_wp2_with (fail)
 generalize (w6.setCell ⟨w.heap.size+1,0,none⟩ (.int .i64 0)).setCell ⟨w.heap.size+1+1,0,none⟩ (.bool true)=w8 at d0 d1 d2 d3 d4 d5 d6 hK ⊢;refine leaves_cons (f:=83) (args:=#[.pointer (some ⟨w.heap.size,0,none⟩),.pointer (some ⟨w.heap.size+1,0,none⟩),.pointer (some ⟨w.heap.size+1+1,0,none⟩)]) (by simp) (by simp [go_sem]) ?_;refine (Ae5 _ _ _ _).mono ?_;rintro e u' au ⟨rfl,rfl,rfl⟩;simp [Leaves,settle,results,Tryz.results40,go_sem,d0,d1,d2,d3,d4,d5,d6];exact hK
def Aco(b:Nat)(vs:List Value)(S:AS):Option AS:=match UW b S.H 0 with
 | some (j,x)=>bif vs.all (·.oneCell') then (match x.Sd 0 vs with
  | some x'=>some ⟨S.nx,S.H.set j x'⟩
  | none=>none) else none
 | none=>none
theorem XP{g:Sg}{w0 w:World}{b c:Nat}{vs us:List Value}{S S':AS}(he:Aco b vs S=some S')(hS:SX g w0 w S)(hr:RL g vs us)(hb:bk g b=some c){k:World->Prop}(hk:∀ w',SX g w0 w' S'->k w'):BW us ⟨c,0,none⟩ 0 k w:=by
 unfold Aco at he;split at he
 ·rename_i j x hf;have h1:=(AN he).1
  replace he:=(AN he).2
  split at he
  ·rename_i x' hx;cases he;obtain⟨f1,f2⟩:=Xr hf;obtain⟨_,L,hL,hT⟩:=id hS;obtain⟨z,hz,s,s1,s2,_⟩:=Kb hL f1;have hc:s.1=c:=by rw [<- f2,Fv s1 s2] at hb;exact Aoj hb
   rw [<- hc];exact YP (S:=S) hS.2 f1 s2 hx hr (λ u hu=>An9.1 h1 u hu) rfl λ w' h=>hk w' ⟨hS.1,h⟩
  ·cases he
 ·cases he
theorem XO{b:Nat}{vs:List Value}{S S':AS}(he:Aco b vs S=some S'):S'.nx=S.nx:=by
 unfold Aco at he;split at he
 ·replace he:=(AN he).2
  split at he
  ·cases he;rfl
  ·cases he
 ·cases he
theorem AmC{g:Sg}{l:List Value}{c:Value}(h:R g (.agg ⟨l⟩) c):∃ us,c=.agg ⟨us⟩/\RL g l us:=by
 cases c with
 | agg cs=>exact⟨cs.toList,rfl,by simpa only [R,RA] using h⟩
 | _=>simp [R] at h
noncomputable def Ahf (G:GT) (O:OF):List Value->AS->Option (Value × AS):=λ args S=>match args with
 | [.slice p n k]=>match evX Tryz.prog G O 100000 300 (.fn 84) [.pointer (some ⟨S.nx+3+Dg,0,none⟩)] [] ⟨S.nx+4,[.cells (S.nx+3+Dg) [.slice p n k] ty.OS,.cells (S.nx+2+Dg) [.bool false] ty.bool,.cells (S.nx+1+Dg) [.int .i64 0] ty.int,.cells (S.nx+Dg) [.slice none 0 0,.slice none 0 0,.slice none 0 0,.slice none 0 0,.int .i64 0] ty.CF]++S.H⟩ with
  | some (.agg ⟨[v0,v1,v2,v3,v4]⟩,T)=>match Aco (S.nx+Dg) [v0,v1,v2,v3,v4] T with
   | some T=>match Aco (S.nx+1+Dg) [.int .i64 0] T with
    | some T=>match Aco (S.nx+2+Dg) [.bool true] T with
     | some T=>match Z6 G T.H (S.nx+Dg),Z6 G T.H (S.nx+1+Dg),Z6 G T.H (S.nx+2+Dg) with
      | some [c0,c1,c2,c3,c4],some [e],some [o]=>some (.tuple #[.agg #[c0,c1,c2,c3,c4],e,o],T)
      | _,_,_=>none
     | none=>none
    | none=>none
   | none=>none
  | _=>none
 | _=>none
theorem Ahg(bE:(Tryz.prog).follows .mixedOrders=true){G:GT}{O:OF}(hO:OOK Tryz.prog G O):WR Tryz.prog G f.Nt (Ahf G O):=by
 intro args S v S' he g w0 w aK hS hG hr;unfold Ahf at he;split at he
 ·rename_i p n k;split at he
  ·rename_i v0 v1 v2 v3 v4 T5 h5;split at he
   ·rename_i T6 h6;split at he
    ·rename_i T7 h7;split at he
     ·rename_i T8 h8;split at he
      ·rename_i c0 c1 c2 c3 c4 e0 o0 m1 m2 m3;cases he
       match aK,hr with
       | [u],hr =>
        simp only [RL,R] at hr;obtain⟨hr,_⟩:=hr;obtain⟨ua,un,uc,rfl⟩:∃ ua un uc,u=.slice ua un uc:=by
         cases u with
         | slice a b c=>exact⟨a,b,c,rfl⟩
         | _=>simp [JR] at hr
        refine (Ae6 (K:=λ c w'=>∃ g',Ext S.nx S'.nx g g'/\R g' (.tuple #[.agg #[c0,c1,c2,c3,c4],e0,o0]) c/\SX g' w0 w' S') ?_).mono (by rintro _ w' ⟨c,rfl,g',h⟩;exact⟨c,g',rfl,h⟩);refine hS.sr.Aj ((HK _ rfl).2 rfl) λ b1 w1 q1=>?_;obtain⟨S1,X1⟩:=hS.up (.inr ⟨_,rfl⟩) q1;refine S1.sr.Aj ((HK _ rfl).2 rfl) λ b2 w2 q2=>?_;obtain⟨S2,X2⟩:=S1.up (.inr ⟨_,rfl⟩) q2;refine S2.sr.Aj ((HK _ rfl).2 rfl) λ b3 w3 q3=>?_;obtain⟨S3,X3⟩:=S2.up (.inr ⟨_,rfl⟩) q3;refine S3.sr.Aj (vs:=[.slice p n k]) (us:=[.slice ua un uc]) ⟨AiV ((X1.1.trans X2.1).trans X3.1) _ (show R g (.slice p n k) (.slice ua un uc) from by simp only [R];exact hr),rfl⟩ λ b4 w4 q4=>?_;obtain⟨S4,X4⟩:=S3.up (.inr ⟨_,rfl⟩) q4;refine (TA bE hO 300 _ _ _ _ _ _ h5 _ w0 _ [_] S4 hG ⟨AdC _ (b4,0,default),rfl⟩ (λ y hy=>by cases hy)).mono ?_;rintro _ w5 ⟨cc,g5,rfl,X5,r5,S5⟩;obtain⟨us,rfl,hus⟩:=AmC r5;have k1:=KJ (((X2.1.trans X3.1).trans X4.1).trans X5.1) (PC (g:=g) S.nx (b1,0,default))
        have k2:=KJ ((X3.1.trans X4.1).trans X5.1) (PC (g:=up g S.nx (b1,0,default)) (S.nx+1) (b2,0,default));have k3:=KJ (X4.1.trans X5.1) (PC (g:=up (up g S.nx (b1,0,default)) (S.nx+1) (b2,0,default)) (S.nx+2) (b3,0,default));refine⟨us,by rw [Eg hus];rfl,rfl,XP h6 S5 hus k1 λ w6 S6=>XP h7 S6 ((HK _ rfl).2 rfl) k2 λ w7 S7=>XP h8 S7 ((HK _ rfl).2 rfl) k3 λ w8 S8=>?_⟩;obtain⟨us1,y1,r1,e1,d1⟩:=LY hG S8.2 m1;obtain⟨us2,y2,r2,e2,d2⟩:=LY hG S8.2 m2;obtain⟨us3,y3,r3,e3,d3⟩:=LY hG S8.2 m3;obtain rfl:y1=b1:=Aoj (e1.symm.trans k1);obtain rfl:y2=b2:=Aoj (e2.symm.trans k2);obtain rfl:y3=b3:=Aoj (e3.symm.trans k3)
        match us1,Eg r1,r1,d1,us2,Eg r2,r2,d2,us3,Eg r3,r3,d3 with
        | [x0,x1,x2,x3,x4],_,r1,d1,[x5],_,r2,d2,[x6],_,r3,d3 =>
         exact⟨x0,x1,x2,x3,x4,x5,x6,d1 0 _ rfl,d1 1 _ rfl,d1 2 _ rfl,d1 3 _ rfl,d1 4 _ rfl,d2 0 _ rfl,d3 0 _ rfl,g5,⟨(((X1.1.trans X2.1).trans X3.1).trans X4.1).trans X5.1,λ i hi=>(X5.2.1 i (by simp only;omega)).trans ((X4.2.1 i (by simp only;omega)).trans ((X3.2.1 i (by simp only;omega)).trans ((X2.2.1 i (by simp only;omega)).trans (X1.2.1 i hi)))),by have h:=X5.2.2;have:=XO h6;have:=XO h7;have:=XO h8;simp only at h;omega⟩,⟨by simp only [R,RA];exact r1,r2.1,r3.1,rfl⟩,S8⟩
       | [],hr=>simp [RL] at hr
       | _ :: _ :: _,hr=>simp [RL] at hr
      ·cases he
     ·cases he
    ·cases he
   ·cases he
  ·cases he
 ·cases he
namespace Ru
noncomputable def OR:OF:=Hk O1 f.Nt (Ahf G1 O1)
theorem NT:OOK Tryz.prog G1 OR:=Df AjD (Ahg mixed AjD)
end Ru
end Go.Proofs.YtoepjfblppfabaaGreatDoor
namespace Go.Proofs.YtoepjfblppfabaaGreatDoor
open Go.Dn Go.Proofs
set_option maxRecDepth 100000
namespace Ru
def a1:List Value:=[.slice (J 65536 0) 1 1,.slice (J 65543 0) 2 2]
def s1:AS:=⟨8,[.row 65543 55 1 2 [.slice (J 65539 0) 1 1,.slice (J 65542 0) 1 1] (some 2),.row 65542 37 3 1 [I 1,I 6,T []] (some 1),.cells 65540 [I 1,I 6,T []] 37,.row 65539 37 3 1 [I 1,I 5,T []] (some 1),.cells 65537 [I 1,I 5,T []] 37,.row 65536 35 3 1 [T [97],I 1,.bool false] (some 1)]⟩
def v1:Value:=.tuple #[T [83,89,68,49,1,2,0,0,10,12,77,244,42,63,1,1,97,1,0,2,10,0,1,10,1,12,12,0,0,0,48,112,186,64,82,136,18,64,96,217,173,20,194,18,134,151,58,207,169,77,183,127,216,213,95,218,197,52,222,233,118,171],I 0]
def t1:AS:=⟨534,[.row 65543 55 1 2 [.slice (J 65539 0) 1 1,.slice (J 65542 0) 1 1] (some 2),.row 65542 37 3 1 [I 1,I 6,T []] (some 1),.cells 65540 [I 1,I 6,T []] 37,.row 65539 37 3 1 [I 1,I 5,T []] (some 1),.cells 65537 [I 1,I 5,T []] 37,.row 65536 35 3 1 [T [97],I 1,.bool false] (some 1)]⟩
theorem p1:evX Tryz.prog G1 OR 100000 300 (.fn f.H8) a1 [] s1=some (v1,t1):=Jk (by kernel_rfl)
end Ru
end Go.Proofs.YtoepjfblppfabaaGreatDoor
namespace Go.Proofs.YtoepjfblppfabaaGreatDoor
open Go.Dn Go.Proofs
set_option maxRecDepth 100000
namespace Ru
def a2:List Value:=[T [83,89,68,49,1,2,0,0,10,12,77,244,42,63,1,1,97,1,0,2,10,0,1,10,1,12,12,0,0,0,48,112,186,64,82,136,18,64,96,217,173,20,194,18,134,151,58,207,169,77,183,127,216,213,95,218,197,52,222,233,118,171]]
def s2:AS:=⟨534,[.row 65543 55 1 2 [.slice (J 65539 0) 1 1,.slice (J 65542 0) 1 1] (some 2),.row 65542 37 3 1 [I 1,I 6,T []] (some 1),.cells 65540 [I 1,I 6,T []] 37,.row 65539 37 3 1 [I 1,I 5,T []] (some 1),.cells 65537 [I 1,I 5,T []] 37,.row 65536 35 3 1 [T [97],I 1,.bool false] (some 1)]⟩
def v2:Value:=.tuple #[.pointer (J 67005 0),I 0]
def t2:AS:=⟨1470,[.cells 67005 [.pointer (J 66157 0)] 89,.row 66461 71 7 1 [I 0,I 1,I 5,T [],I 1,I 6,T []] (none),.row 66454 54 1 1 [.slice (J 66186 0) 2 2] (none),.row 66186 37 3 2 [I 1,I 5,T [],I 1,I 6,T []] (some 2),.cells 66157 [.slice (J 66086 0) 1 18446744073709551616,.slice (J 66454 0) 1 18446744073709551616,.slice (J 66461 0) 1 18446744073709551616,I 2] 86,.row 66086 35 3 1 [T [97],I 1,.bool false] (none),.row 65543 55 1 2 [.slice (J 65539 0) 1 1,.slice (J 65542 0) 1 1] (some 2),.row 65542 37 3 1 [I 1,I 6,T []] (some 1),.cells 65540 [I 1,I 6,T []] 37,.row 65539 37 3 1 [I 1,I 5,T []] (some 1),.cells 65537 [I 1,I 5,T []] 37,.row 65536 35 3 1 [T [97],I 1,.bool false] (some 1)]⟩
theorem p2:evX Tryz.prog G1 OR 100000 300 (.fn f.Jv) a2 [] s2=some (v2,t2):=Jk (by kernel_rfl)
end Ru
end Go.Proofs.YtoepjfblppfabaaGreatDoor
namespace Go.Proofs.YtoepjfblppfabaaGreatDoor
open Go.Dn Go.Proofs
set_option maxRecDepth 100000
namespace Ru
def a3:List Value:=[T [115,101,108,101,99,116,32,97,32,97,115,32,120,32,119,104,101,114,101,32,53,32,60,32,97]]
def s3:AS:=⟨1470,[.cells 67005 [.pointer (J 66157 0)] 89,.row 66461 71 7 1 [I 0,I 1,I 5,T [],I 1,I 6,T []] (none),.row 66454 54 1 1 [.slice (J 66186 0) 2 2] (none),.row 66186 37 3 2 [I 1,I 5,T [],I 1,I 6,T []] (some 2),.cells 66157 [.slice (J 66086 0) 1 18446744073709551616,.slice (J 66454 0) 1 18446744073709551616,.slice (J 66461 0) 1 18446744073709551616,I 2] 86,.row 66086 35 3 1 [T [97],I 1,.bool false] (none),.row 65543 55 1 2 [.slice (J 65539 0) 1 1,.slice (J 65542 0) 1 1] (some 2),.row 65542 37 3 1 [I 1,I 6,T []] (some 1),.cells 65540 [I 1,I 6,T []] 37,.row 65539 37 3 1 [I 1,I 5,T []] (some 1),.cells 65537 [I 1,I 5,T []] 37,.row 65536 35 3 1 [T [97],I 1,.bool false] (some 1)]⟩
def v3:Value:=.tuple #[.agg #[.slice (J 67165 0) 1 18446744073709551616,.slice (J 67292 0) 1 1,.slice none 0 0,.slice none 0 0,I (-1)],I 0,I 0]
def t3:AS:=⟨2194,[.row 67292 39 6 1 [I 10,T [],I 0,I 0,T [],.slice (J 67282 0) 2 2] (some 1),.row 67282 39 6 2 [I 2,T [],I 1,I 5,T [],.slice none 0 0,I 1,T [97],I 0,I 0,T [],.slice none 0 0] (some 2),.row 67165 41 8 1 [T [120],I 0,I 1,T [97],I 0,I 0,T [],.slice none 0 0] (none),.cells 67005 [.pointer (J 66157 0)] 89,.row 66461 71 7 1 [I 0,I 1,I 5,T [],I 1,I 6,T []] (none),.row 66454 54 1 1 [.slice (J 66186 0) 2 2] (none),.row 66186 37 3 2 [I 1,I 5,T [],I 1,I 6,T []] (some 2),.cells 66157 [.slice (J 66086 0) 1 18446744073709551616,.slice (J 66454 0) 1 18446744073709551616,.slice (J 66461 0) 1 18446744073709551616,I 2] 86,.row 66086 35 3 1 [T [97],I 1,.bool false] (none),.row 65543 55 1 2 [.slice (J 65539 0) 1 1,.slice (J 65542 0) 1 1] (some 2),.row 65542 37 3 1 [I 1,I 6,T []] (some 1),.cells 65540 [I 1,I 6,T []] 37,.row 65539 37 3 1 [I 1,I 5,T []] (some 1),.cells 65537 [I 1,I 5,T []] 37,.row 65536 35 3 1 [T [97],I 1,.bool false] (some 1)]⟩
theorem p3:evX Tryz.prog G1 OR 100000 300 (.fn f.Rc) a3 [] s3=some (v3,t3):=Jk (by kernel_rfl)
end Ru
end Go.Proofs.YtoepjfblppfabaaGreatDoor
namespace Go.Proofs.YtoepjfblppfabaaGreatDoor
open Go.Dn Go.Proofs
set_option maxRecDepth 100000
namespace Ru
def a4:List Value:=[.slice (J 65536 0) 1 1,.agg #[.slice (J 67165 0) 1 18446744073709551616,.slice (J 67292 0) 1 1,.slice none 0 0,.slice none 0 0,I (-1)]]
def s4:AS:=⟨2196,[.cells 67730 [.slice (J 67165 0) 1 18446744073709551616,.slice (J 67292 0) 1 1,.slice none 0 0,.slice none 0 0,I (-1)] 32,.row 67292 39 6 1 [I 10,T [],I 0,I 0,T [],.slice (J 67282 0) 2 2] (some 1),.row 67282 39 6 2 [I 2,T [],I 1,I 5,T [],.slice none 0 0,I 1,T [97],I 0,I 0,T [],.slice none 0 0] (some 2),.row 67165 41 8 1 [T [120],I 0,I 1,T [97],I 0,I 0,T [],.slice none 0 0] (none),.cells 67005 [.pointer (J 66157 0)] 89,.row 66461 71 7 1 [I 0,I 1,I 5,T [],I 1,I 6,T []] (none),.row 66454 54 1 1 [.slice (J 66186 0) 2 2] (none),.row 66186 37 3 2 [I 1,I 5,T [],I 1,I 6,T []] (some 2),.cells 66157 [.slice (J 66086 0) 1 18446744073709551616,.slice (J 66454 0) 1 18446744073709551616,.slice (J 66461 0) 1 18446744073709551616,I 2] 86,.row 66086 35 3 1 [T [97],I 1,.bool false] (none),.row 65543 55 1 2 [.slice (J 65539 0) 1 1,.slice (J 65542 0) 1 1] (some 2),.row 65542 37 3 1 [I 1,I 6,T []] (some 1),.cells 65540 [I 1,I 6,T []] 37,.row 65539 37 3 1 [I 1,I 5,T []] (some 1),.cells 65537 [I 1,I 5,T []] 37,.row 65536 35 3 1 [T [97],I 1,.bool false] (some 1)]⟩
def v4:Value:=.tuple #[.agg #[.slice (J 68627 0) 1 18446744073709551616,.slice (J 67165 0) 1 18446744073709551616,.slice (J 67292 0) 1 1,.slice none 0 0,.slice none 0 0,I (-1),.slice (J 68830 0) 1 18446744073709551616,.bool false],I 0]
def t4:AS:=⟨3298,[.row 68830 35 3 1 [T [120],I 1,.bool true] (none),.row 68627 35 3 1 [T [97],I 1,.bool false] (none),.cells 67730 [.slice (J 67165 0) 1 18446744073709551616,.slice (J 67292 0) 1 1,.slice none 0 0,.slice none 0 0,I (-1)] 32,.row 67292 39 6 1 [I 10,T [],I 0,I 0,T [],.slice (J 67282 0) 2 2] (some 1),.row 67282 39 6 2 [I 2,T [],I 1,I 5,T [],.slice none 0 0,I 1,T [97],I 0,I 0,T [],.slice none 0 0] (some 2),.row 67165 41 8 1 [T [120],I 0,I 1,T [97],I 0,I 0,T [],.slice none 0 0] (none),.cells 67005 [.pointer (J 66157 0)] 89,.row 66461 71 7 1 [I 0,I 1,I 5,T [],I 1,I 6,T []] (none),.row 66454 54 1 1 [.slice (J 66186 0) 2 2] (none),.row 66186 37 3 2 [I 1,I 5,T [],I 1,I 6,T []] (some 2),.cells 66157 [.slice (J 66086 0) 1 18446744073709551616,.slice (J 66454 0) 1 18446744073709551616,.slice (J 66461 0) 1 18446744073709551616,I 2] 86,.row 66086 35 3 1 [T [97],I 1,.bool false] (none),.row 65543 55 1 2 [.slice (J 65539 0) 1 1,.slice (J 65542 0) 1 1] (some 2),.row 65542 37 3 1 [I 1,I 6,T []] (some 1),.cells 65540 [I 1,I 6,T []] 37,.row 65539 37 3 1 [I 1,I 5,T []] (some 1),.cells 65537 [I 1,I 5,T []] 37,.row 65536 35 3 1 [T [97],I 1,.bool false] (some 1)]⟩
theorem p4:evX Tryz.prog G1 OR 100000 300 (.fn f.Qg) a4 [] s4=some (v4,t4):=Jk (by kernel_rfl)
end Ru
end Go.Proofs.YtoepjfblppfabaaGreatDoor
namespace Go.Proofs.YtoepjfblppfabaaGreatDoor
open Go.Dn Go.Proofs
set_option maxRecDepth 100000
namespace Ru
def a5:List Value:=[.agg #[.slice (J 68627 0) 1 18446744073709551616,.slice (J 67165 0) 1 18446744073709551616,.slice (J 67292 0) 1 1,.slice none 0 0,.slice none 0 0,I (-1),.slice (J 68830 0) 1 18446744073709551616,.bool false],.slice (J 68836 0) 1 1]
def s5:AS:=⟨3302,[.cells 68837 [.slice (J 68627 0) 1 18446744073709551616,.slice (J 67165 0) 1 18446744073709551616,.slice (J 67292 0) 1 1,.slice none 0 0,.slice none 0 0,I (-1),.slice (J 68830 0) 1 18446744073709551616,.bool false] 46,.row 68836 42 1 1 [.pointer (J 67005 0)] (some 1),.cells 68834 [.slice (J 68627 0) 1 18446744073709551616,.slice (J 67165 0) 1 18446744073709551616,.slice (J 67292 0) 1 1,.slice none 0 0,.slice none 0 0,I (-1),.slice (J 68830 0) 1 18446744073709551616,.bool false] 46,.row 68830 35 3 1 [T [120],I 1,.bool true] (none),.row 68627 35 3 1 [T [97],I 1,.bool false] (none),.cells 67730 [.slice (J 67165 0) 1 18446744073709551616,.slice (J 67292 0) 1 1,.slice none 0 0,.slice none 0 0,I (-1)] 32,.row 67292 39 6 1 [I 10,T [],I 0,I 0,T [],.slice (J 67282 0) 2 2] (some 1),.row 67282 39 6 2 [I 2,T [],I 1,I 5,T [],.slice none 0 0,I 1,T [97],I 0,I 0,T [],.slice none 0 0] (some 2),.row 67165 41 8 1 [T [120],I 0,I 1,T [97],I 0,I 0,T [],.slice none 0 0] (none),.cells 67005 [.pointer (J 66157 0)] 89,.row 66461 71 7 1 [I 0,I 1,I 5,T [],I 1,I 6,T []] (none),.row 66454 54 1 1 [.slice (J 66186 0) 2 2] (none),.row 66186 37 3 2 [I 1,I 5,T [],I 1,I 6,T []] (some 2),.cells 66157 [.slice (J 66086 0) 1 18446744073709551616,.slice (J 66454 0) 1 18446744073709551616,.slice (J 66461 0) 1 18446744073709551616,I 2] 86,.row 66086 35 3 1 [T [97],I 1,.bool false] (none),.row 65543 55 1 2 [.slice (J 65539 0) 1 1,.slice (J 65542 0) 1 1] (some 2),.row 65542 37 3 1 [I 1,I 6,T []] (some 1),.cells 65540 [I 1,I 6,T []] 37,.row 65539 37 3 1 [I 1,I 5,T []] (some 1),.cells 65537 [I 1,I 5,T []] 37,.row 65536 35 3 1 [T [97],I 1,.bool false] (some 1)]⟩
def v5:Value:=.tuple #[.pointer (J 70078 0),I 0]
def t5:AS:=⟨4546,[.row 70080 35 3 1 [T [97],I 1,.bool false] (none),.cells 70078 [.slice (J 69734 0) 1 18446744073709551616,.slice (J 67165 0) 1 18446744073709551616,.slice (J 67292 0) 1 1,.slice none 0 0,.slice none 0 0,I (-1),.slice (J 69937 0) 1 18446744073709551616,.bool false,.slice (J 70080 0) 1 18446744073709551616,.slice (J 70075 0) 1 18446744073709551616] 111,.row 70075 3 1 1 [I 0] (none),.row 69937 35 3 1 [T [120],I 1,.bool true] (none),.row 69734 35 3 1 [T [97],I 1,.bool false] (none),.cells 68837 [.slice (J 68627 0) 1 18446744073709551616,.slice (J 67165 0) 1 18446744073709551616,.slice (J 67292 0) 1 1,.slice none 0 0,.slice none 0 0,I (-1),.slice (J 68830 0) 1 18446744073709551616,.bool false] 46,.row 68836 42 1 1 [.pointer (J 67005 0)] (some 1),.cells 68834 [.slice (J 68627 0) 1 18446744073709551616,.slice (J 67165 0) 1 18446744073709551616,.slice (J 67292 0) 1 1,.slice none 0 0,.slice none 0 0,I (-1),.slice (J 68830 0) 1 18446744073709551616,.bool false] 46,.row 68830 35 3 1 [T [120],I 1,.bool true] (none),.row 68627 35 3 1 [T [97],I 1,.bool false] (none),.cells 67730 [.slice (J 67165 0) 1 18446744073709551616,.slice (J 67292 0) 1 1,.slice none 0 0,.slice none 0 0,I (-1)] 32,.row 67292 39 6 1 [I 10,T [],I 0,I 0,T [],.slice (J 67282 0) 2 2] (some 1),.row 67282 39 6 2 [I 2,T [],I 1,I 5,T [],.slice none 0 0,I 1,T [97],I 0,I 0,T [],.slice none 0 0] (some 2),.row 67165 41 8 1 [T [120],I 0,I 1,T [97],I 0,I 0,T [],.slice none 0 0] (none),.cells 67005 [.pointer (J 66157 0)] 89,.row 66461 71 7 1 [I 0,I 1,I 5,T [],I 1,I 6,T []] (none),.row 66454 54 1 1 [.slice (J 66186 0) 2 2] (none),.row 66186 37 3 2 [I 1,I 5,T [],I 1,I 6,T []] (some 2),.cells 66157 [.slice (J 66086 0) 1 18446744073709551616,.slice (J 66454 0) 1 18446744073709551616,.slice (J 66461 0) 1 18446744073709551616,I 2] 86,.row 66086 35 3 1 [T [97],I 1,.bool false] (none),.row 65543 55 1 2 [.slice (J 65539 0) 1 1,.slice (J 65542 0) 1 1] (some 2),.row 65542 37 3 1 [I 1,I 6,T []] (some 1),.cells 65540 [I 1,I 6,T []] 37,.row 65539 37 3 1 [I 1,I 5,T []] (some 1),.cells 65537 [I 1,I 5,T []] 37,.row 65536 35 3 1 [T [97],I 1,.bool false] (some 1)]⟩
theorem p5:evX Tryz.prog G1 OR 100000 300 (.fn f.PN) a5 [] s5=some (v5,t5):=Jk (by kernel_rfl)
end Ru
end Go.Proofs.YtoepjfblppfabaaGreatDoor
namespace Go.Proofs.YtoepjfblppfabaaGreatDoor
open Go.Dn Go.Proofs
set_option maxRecDepth 100000
namespace Ru
def a6:List Value:=[.pointer (J 70078 0),.slice (J 70313 0) 1 18446744073709551616]
def s6:AS:=⟨4778,[.row 70313 54 1 1 [.slice (J 70311 0) 2 18446744073709551616] (none),.row 70312 54 1 1 [.slice (J 70311 0) 2 18446744073709551616] (some 1),.row 70311 37 3 2 [I 1,I 5,T [],I 1,I 6,T []] (none),.loop 70095 .busy none,.mark 70094,.cells 70093 [.slice (J 68836 0) 1 1] 104,.cells 70092 [.pointer (J 70078 0)] 105,.cells 70090 [I 0] 25,.cells 70089 [.func (.func 71) #[] #[.pointer (J 70086 0)]] 165,.cells 70088 [.slice (J 70085 0) 1 18446744073709551616] 29,.cells 70087 [.pointer (J 70078 0)] 105,.cells 70086 [.slice none 0 0] 23,.row 70085 39 6 1 [I 1,T [97],I 0,I 0,T [],.slice none 0 0] (none),.row 70084 39 6 1 [I 1,T [97],I 0,I 0,T [],.slice none 0 0] (some 1),.cells 70082 [T [120],I 0,I 1,T [97],I 0,I 0,T [],.slice none 0 0] 41,.row 70080 35 3 1 [T [97],I 1,.bool false] (none),.cells 70078 [.slice (J 69734 0) 1 18446744073709551616,.slice (J 67165 0) 1 18446744073709551616,.slice (J 67292 0) 1 1,.slice none 0 0,.slice none 0 0,I (-1),.slice (J 69937 0) 1 18446744073709551616,.bool false,.slice (J 70080 0) 1 18446744073709551616,.slice (J 70075 0) 1 18446744073709551616] 111,.row 70075 3 1 1 [I 0] (none),.row 69937 35 3 1 [T [120],I 1,.bool true] (none),.row 69734 35 3 1 [T [97],I 1,.bool false] (none),.cells 68837 [.slice (J 68627 0) 1 18446744073709551616,.slice (J 67165 0) 1 18446744073709551616,.slice (J 67292 0) 1 1,.slice none 0 0,.slice none 0 0,I (-1),.slice (J 68830 0) 1 18446744073709551616,.bool false] 46,.row 68836 42 1 1 [.pointer (J 67005 0)] (some 1),.cells 68834 [.slice (J 68627 0) 1 18446744073709551616,.slice (J 67165 0) 1 18446744073709551616,.slice (J 67292 0) 1 1,.slice none 0 0,.slice none 0 0,I (-1),.slice (J 68830 0) 1 18446744073709551616,.bool false] 46,.row 68830 35 3 1 [T [120],I 1,.bool true] (none),.row 68627 35 3 1 [T [97],I 1,.bool false] (none),.cells 67730 [.slice (J 67165 0) 1 18446744073709551616,.slice (J 67292 0) 1 1,.slice none 0 0,.slice none 0 0,I (-1)] 32,.row 67292 39 6 1 [I 10,T [],I 0,I 0,T [],.slice (J 67282 0) 2 2] (some 1),.row 67282 39 6 2 [I 2,T [],I 1,I 5,T [],.slice none 0 0,I 1,T [97],I 0,I 0,T [],.slice none 0 0] (some 2),.row 67165 41 8 1 [T [120],I 0,I 1,T [97],I 0,I 0,T [],.slice none 0 0] (none),.cells 67005 [.pointer (J 66157 0)] 89,.row 66461 71 7 1 [I 0,I 1,I 5,T [],I 1,I 6,T []] (none),.row 66454 54 1 1 [.slice (J 66186 0) 2 2] (none),.row 66186 37 3 2 [I 1,I 5,T [],I 1,I 6,T []] (some 2),.cells 66157 [.slice (J 66086 0) 1 18446744073709551616,.slice (J 66454 0) 1 18446744073709551616,.slice (J 66461 0) 1 18446744073709551616,I 2] 86,.row 66086 35 3 1 [T [97],I 1,.bool false] (none),.row 65543 55 1 2 [.slice (J 65539 0) 1 1,.slice (J 65542 0) 1 1] (some 2),.row 65542 37 3 1 [I 1,I 6,T []] (some 1),.cells 65540 [I 1,I 6,T []] 37,.row 65539 37 3 1 [I 1,I 5,T []] (some 1),.cells 65537 [I 1,I 5,T []] 37,.row 65536 35 3 1 [T [97],I 1,.bool false] (some 1)]⟩
def v6:Value:=.tuple #[.slice (J 71150 0) 1 18446744073709551616,I 0]
def t6:AS:=⟨5615,[.row 71150 3 1 1 [I 1] (none),.row 70313 54 1 1 [.slice (J 70311 0) 2 18446744073709551616] (none),.row 70312 54 1 1 [.slice (J 70311 0) 2 18446744073709551616] (some 1),.row 70311 37 3 2 [I 1,I 5,T [],I 1,I 6,T []] (none),.loop 70095 .busy none,.mark 70094,.cells 70093 [.slice (J 68836 0) 1 1] 104,.cells 70092 [.pointer (J 70078 0)] 105,.cells 70090 [I 0] 25,.cells 70089 [.func (.func 71) #[] #[.pointer (J 70086 0)]] 165,.cells 70088 [.slice (J 70085 0) 1 18446744073709551616] 29,.cells 70087 [.pointer (J 70078 0)] 105,.cells 70086 [.slice none 0 0] 23,.row 70085 39 6 1 [I 1,T [97],I 0,I 0,T [],.slice none 0 0] (none),.row 70084 39 6 1 [I 1,T [97],I 0,I 0,T [],.slice none 0 0] (some 1),.cells 70082 [T [120],I 0,I 1,T [97],I 0,I 0,T [],.slice none 0 0] 41,.row 70080 35 3 1 [T [97],I 1,.bool false] (none),.cells 70078 [.slice (J 69734 0) 1 18446744073709551616,.slice (J 67165 0) 1 18446744073709551616,.slice (J 67292 0) 1 1,.slice none 0 0,.slice none 0 0,I (-1),.slice (J 69937 0) 1 18446744073709551616,.bool false,.slice (J 70080 0) 1 18446744073709551616,.slice (J 70075 0) 1 18446744073709551616] 111,.row 70075 3 1 1 [I 0] (none),.row 69937 35 3 1 [T [120],I 1,.bool true] (none),.row 69734 35 3 1 [T [97],I 1,.bool false] (none),.cells 68837 [.slice (J 68627 0) 1 18446744073709551616,.slice (J 67165 0) 1 18446744073709551616,.slice (J 67292 0) 1 1,.slice none 0 0,.slice none 0 0,I (-1),.slice (J 68830 0) 1 18446744073709551616,.bool false] 46,.row 68836 42 1 1 [.pointer (J 67005 0)] (some 1),.cells 68834 [.slice (J 68627 0) 1 18446744073709551616,.slice (J 67165 0) 1 18446744073709551616,.slice (J 67292 0) 1 1,.slice none 0 0,.slice none 0 0,I (-1),.slice (J 68830 0) 1 18446744073709551616,.bool false] 46,.row 68830 35 3 1 [T [120],I 1,.bool true] (none),.row 68627 35 3 1 [T [97],I 1,.bool false] (none),.cells 67730 [.slice (J 67165 0) 1 18446744073709551616,.slice (J 67292 0) 1 1,.slice none 0 0,.slice none 0 0,I (-1)] 32,.row 67292 39 6 1 [I 10,T [],I 0,I 0,T [],.slice (J 67282 0) 2 2] (some 1),.row 67282 39 6 2 [I 2,T [],I 1,I 5,T [],.slice none 0 0,I 1,T [97],I 0,I 0,T [],.slice none 0 0] (some 2),.row 67165 41 8 1 [T [120],I 0,I 1,T [97],I 0,I 0,T [],.slice none 0 0] (none),.cells 67005 [.pointer (J 66157 0)] 89,.row 66461 71 7 1 [I 0,I 1,I 5,T [],I 1,I 6,T []] (none),.row 66454 54 1 1 [.slice (J 66186 0) 2 2] (none),.row 66186 37 3 2 [I 1,I 5,T [],I 1,I 6,T []] (some 2),.cells 66157 [.slice (J 66086 0) 1 18446744073709551616,.slice (J 66454 0) 1 18446744073709551616,.slice (J 66461 0) 1 18446744073709551616,I 2] 86,.row 66086 35 3 1 [T [97],I 1,.bool false] (none),.row 65543 55 1 2 [.slice (J 65539 0) 1 1,.slice (J 65542 0) 1 1] (some 2),.row 65542 37 3 1 [I 1,I 6,T []] (some 1),.cells 65540 [I 1,I 6,T []] 37,.row 65539 37 3 1 [I 1,I 5,T []] (some 1),.cells 65537 [I 1,I 5,T []] 37,.row 65536 35 3 1 [T [97],I 1,.bool false] (some 1)]⟩
theorem p6:evX Tryz.prog G1 OR 100000 300 (.fn f.EZ) a6 [] s6=some (v6,t6):=Jk (by kernel_rfl)
end Ru
end Go.Proofs.YtoepjfblppfabaaGreatDoor
namespace Go.Proofs.YtoepjfblppfabaaGreatDoor
open Go.Dn Go.Proofs
set_option maxRecDepth 100000
namespace Ru
def a7:List Value:=[.pointer (J 70078 0),.slice (J 70313 0) 1 18446744073709551616,.slice (J 71150 0) 1 18446744073709551616,.slice (J 70085 0) 1 18446744073709551616]
def s7:AS:=⟨5615,[.row 71150 3 1 1 [I 1] (none),.row 70313 54 1 1 [.slice (J 70311 0) 2 18446744073709551616] (none),.row 70312 54 1 1 [.slice (J 70311 0) 2 18446744073709551616] (some 1),.row 70311 37 3 2 [I 1,I 5,T [],I 1,I 6,T []] (none),.loop 70095 .busy none,.mark 70094,.cells 70093 [.slice (J 68836 0) 1 1] 104,.cells 70092 [.pointer (J 70078 0)] 105,.cells 70090 [I 0] 25,.cells 70089 [.func (.func 71) #[] #[.pointer (J 70086 0)]] 165,.cells 70088 [.slice (J 70085 0) 1 18446744073709551616] 29,.cells 70087 [.pointer (J 70078 0)] 105,.cells 70086 [.slice none 0 0] 23,.row 70085 39 6 1 [I 1,T [97],I 0,I 0,T [],.slice none 0 0] (none),.row 70084 39 6 1 [I 1,T [97],I 0,I 0,T [],.slice none 0 0] (some 1),.cells 70082 [T [120],I 0,I 1,T [97],I 0,I 0,T [],.slice none 0 0] 41,.row 70080 35 3 1 [T [97],I 1,.bool false] (none),.cells 70078 [.slice (J 69734 0) 1 18446744073709551616,.slice (J 67165 0) 1 18446744073709551616,.slice (J 67292 0) 1 1,.slice none 0 0,.slice none 0 0,I (-1),.slice (J 69937 0) 1 18446744073709551616,.bool false,.slice (J 70080 0) 1 18446744073709551616,.slice (J 70075 0) 1 18446744073709551616] 111,.row 70075 3 1 1 [I 0] (none),.row 69937 35 3 1 [T [120],I 1,.bool true] (none),.row 69734 35 3 1 [T [97],I 1,.bool false] (none),.cells 68837 [.slice (J 68627 0) 1 18446744073709551616,.slice (J 67165 0) 1 18446744073709551616,.slice (J 67292 0) 1 1,.slice none 0 0,.slice none 0 0,I (-1),.slice (J 68830 0) 1 18446744073709551616,.bool false] 46,.row 68836 42 1 1 [.pointer (J 67005 0)] (some 1),.cells 68834 [.slice (J 68627 0) 1 18446744073709551616,.slice (J 67165 0) 1 18446744073709551616,.slice (J 67292 0) 1 1,.slice none 0 0,.slice none 0 0,I (-1),.slice (J 68830 0) 1 18446744073709551616,.bool false] 46,.row 68830 35 3 1 [T [120],I 1,.bool true] (none),.row 68627 35 3 1 [T [97],I 1,.bool false] (none),.cells 67730 [.slice (J 67165 0) 1 18446744073709551616,.slice (J 67292 0) 1 1,.slice none 0 0,.slice none 0 0,I (-1)] 32,.row 67292 39 6 1 [I 10,T [],I 0,I 0,T [],.slice (J 67282 0) 2 2] (some 1),.row 67282 39 6 2 [I 2,T [],I 1,I 5,T [],.slice none 0 0,I 1,T [97],I 0,I 0,T [],.slice none 0 0] (some 2),.row 67165 41 8 1 [T [120],I 0,I 1,T [97],I 0,I 0,T [],.slice none 0 0] (none),.cells 67005 [.pointer (J 66157 0)] 89,.row 66461 71 7 1 [I 0,I 1,I 5,T [],I 1,I 6,T []] (none),.row 66454 54 1 1 [.slice (J 66186 0) 2 2] (none),.row 66186 37 3 2 [I 1,I 5,T [],I 1,I 6,T []] (some 2),.cells 66157 [.slice (J 66086 0) 1 18446744073709551616,.slice (J 66454 0) 1 18446744073709551616,.slice (J 66461 0) 1 18446744073709551616,I 2] 86,.row 66086 35 3 1 [T [97],I 1,.bool false] (none),.row 65543 55 1 2 [.slice (J 65539 0) 1 1,.slice (J 65542 0) 1 1] (some 2),.row 65542 37 3 1 [I 1,I 6,T []] (some 1),.cells 65540 [I 1,I 6,T []] 37,.row 65539 37 3 1 [I 1,I 5,T []] (some 1),.cells 65537 [I 1,I 5,T []] 37,.row 65536 35 3 1 [T [97],I 1,.bool false] (some 1)]⟩
def v7:Value:=.tuple #[.slice (J 71151 0) 1 1,.slice (J 71152 0) 1 1]
def t7:AS:=⟨5849,[.row 71382 37 3 1 [I 1,I 6,T []] (none),.row 71152 25 1 1 [I 0] (some 1),.row 71151 55 1 1 [.slice (J 71382 0) 1 18446744073709551616] (some 1),.row 71150 3 1 1 [I 1] (none),.row 70313 54 1 1 [.slice (J 70311 0) 2 18446744073709551616] (none),.row 70312 54 1 1 [.slice (J 70311 0) 2 18446744073709551616] (some 1),.row 70311 37 3 2 [I 1,I 5,T [],I 1,I 6,T []] (none),.loop 70095 .busy none,.mark 70094,.cells 70093 [.slice (J 68836 0) 1 1] 104,.cells 70092 [.pointer (J 70078 0)] 105,.cells 70090 [I 0] 25,.cells 70089 [.func (.func 71) #[] #[.pointer (J 70086 0)]] 165,.cells 70088 [.slice (J 70085 0) 1 18446744073709551616] 29,.cells 70087 [.pointer (J 70078 0)] 105,.cells 70086 [.slice none 0 0] 23,.row 70085 39 6 1 [I 1,T [97],I 0,I 0,T [],.slice none 0 0] (none),.row 70084 39 6 1 [I 1,T [97],I 0,I 0,T [],.slice none 0 0] (some 1),.cells 70082 [T [120],I 0,I 1,T [97],I 0,I 0,T [],.slice none 0 0] 41,.row 70080 35 3 1 [T [97],I 1,.bool false] (none),.cells 70078 [.slice (J 69734 0) 1 18446744073709551616,.slice (J 67165 0) 1 18446744073709551616,.slice (J 67292 0) 1 1,.slice none 0 0,.slice none 0 0,I (-1),.slice (J 69937 0) 1 18446744073709551616,.bool false,.slice (J 70080 0) 1 18446744073709551616,.slice (J 70075 0) 1 18446744073709551616] 111,.row 70075 3 1 1 [I 0] (none),.row 69937 35 3 1 [T [120],I 1,.bool true] (none),.row 69734 35 3 1 [T [97],I 1,.bool false] (none),.cells 68837 [.slice (J 68627 0) 1 18446744073709551616,.slice (J 67165 0) 1 18446744073709551616,.slice (J 67292 0) 1 1,.slice none 0 0,.slice none 0 0,I (-1),.slice (J 68830 0) 1 18446744073709551616,.bool false] 46,.row 68836 42 1 1 [.pointer (J 67005 0)] (some 1),.cells 68834 [.slice (J 68627 0) 1 18446744073709551616,.slice (J 67165 0) 1 18446744073709551616,.slice (J 67292 0) 1 1,.slice none 0 0,.slice none 0 0,I (-1),.slice (J 68830 0) 1 18446744073709551616,.bool false] 46,.row 68830 35 3 1 [T [120],I 1,.bool true] (none),.row 68627 35 3 1 [T [97],I 1,.bool false] (none),.cells 67730 [.slice (J 67165 0) 1 18446744073709551616,.slice (J 67292 0) 1 1,.slice none 0 0,.slice none 0 0,I (-1)] 32,.row 67292 39 6 1 [I 10,T [],I 0,I 0,T [],.slice (J 67282 0) 2 2] (some 1),.row 67282 39 6 2 [I 2,T [],I 1,I 5,T [],.slice none 0 0,I 1,T [97],I 0,I 0,T [],.slice none 0 0] (some 2),.row 67165 41 8 1 [T [120],I 0,I 1,T [97],I 0,I 0,T [],.slice none 0 0] (none),.cells 67005 [.pointer (J 66157 0)] 89,.row 66461 71 7 1 [I 0,I 1,I 5,T [],I 1,I 6,T []] (none),.row 66454 54 1 1 [.slice (J 66186 0) 2 2] (none),.row 66186 37 3 2 [I 1,I 5,T [],I 1,I 6,T []] (some 2),.cells 66157 [.slice (J 66086 0) 1 18446744073709551616,.slice (J 66454 0) 1 18446744073709551616,.slice (J 66461 0) 1 18446744073709551616,I 2] 86,.row 66086 35 3 1 [T [97],I 1,.bool false] (none),.row 65543 55 1 2 [.slice (J 65539 0) 1 1,.slice (J 65542 0) 1 1] (some 2),.row 65542 37 3 1 [I 1,I 6,T []] (some 1),.cells 65540 [I 1,I 6,T []] 37,.row 65539 37 3 1 [I 1,I 5,T []] (some 1),.cells 65537 [I 1,I 5,T []] 37,.row 65536 35 3 1 [T [97],I 1,.bool false] (some 1)]⟩
theorem p7:evX Tryz.prog G1 OR 100000 300 (.fn f.Et) a7 [] s7=some (v7,t7):=Jk (by kernel_rfl)
end Ru
end Go.Proofs.YtoepjfblppfabaaGreatDoor
