/-
  Texts of this claim, laid one behind the other by a program of mine (install.py): Y.Ch7, Y.Ch8, Y.Ch9, Y.Ch11, Y.Ch12, Y.ChgE, Y.IntsH, Y.IntsI, Y.Ch13, Y.Ch14, Y.Seg1, Y.Seg2, Y.Seg3, Y.Seg4, Y.Seg5, Y.Seg6, Y.Seg7, Y.Seg8, Y.Seg9.
-/
import Derived.Test.YtoepjfblppfabaaGreatDoorM9
import Derived.Test.YtoepjfblppfabaaGreatDoorM3
import Derived.Test.YtoepjfblppfabaaGreatDoorM4
import Derived.Test.YtoepjfblppfabaaGreatDoorM8
namespace Go.Proofs.YtoepjfblppfabaaGreatDoor
open _root_.Array renaming getElem?_eq_some_iff -> AnV
open _root_.Int renaming toNat_natCast -> AnF
open _root_.List renaming append_nil -> AoS, length_append -> Anp, length_drop -> AnC, length_replicate -> AoU, length_take -> Anw, mem_append -> Aow, mem_cons -> Anh, mem_cons_of_mem -> AnU, mem_cons_self -> AnT, mem_singleton -> Aox, not_mem_nil -> AoB, replicate -> AnP, set_cons_zero -> AoT, take_succ_eq_append_getElem -> Aou
open _root_.Nat renaming mul_one -> AnI, sub_zero -> AoV
open _root_.Option.some renaming inj -> Aoj
set_option maxRecDepth 100000
open Go.Dn Go.Proofs
open Go.RowKit (Below)
set_option linter.unusedVariables false
theorem Adh{α:Type}{p q:Prop}[Decidable p][Decidable (p\/q)](h:p)(x y:α):(if p\/q then x else y)=x:=if_pos (.inl h)
section
variable {w:World}{a:Option Addr}{c:Nat}{ls:List Ax}
theorem Mv(hl:Rd w a (AW ls)):Calls Tryz.prog f.Abr #[.slice a ls.length c] w (AB λ v w'=>AjG ls v/\Below w.heap.size w w'):=by
 apply R.PE
 delta R.A R.Ab R.Cb R.Cf R.Ci R.E R.F R.H R.I R.Li R.Lt R.N R.Qi R.S R.Ah R.T R.W R.X R.Z;try dsimp only [R.Ps]
 refine (SH.start (λ _=>False) w).Aj λ b2 w1 d' B1 S1=>Aa (λ ju=>?_) (λ hle=>?_)
 ·exact Abe (p:=(Z0,Z0)) (x:=0) S1 (n:=0) rfl (λ h=>by have:=h.1;omega)
 have hlen:ls.length<=1024:=by omega
 refine S1.Aj λ bW w9 jq B9 S9=>S9.Afm 0 rfl λ dY so dn=>?_;refine⟨λ s gF=>∃ i:Nat,i<=ls.length/\s=[.int .i64 (i:Int)]/\SH (λ _=>False) w gF [(bW,zC 0 (Z0,Z0),ty.AX),(b2,zC 0 (Z0,Z0),ty.AX)]/\∀ v∈ls.take i,AL v=true,λ s _=>match s with
   | [.int _ i]=>ls.length-i.toNat
   | _=>0,⟨0,by omega,rfl,dn,by simp⟩,?_⟩
 rintro _ gF ⟨i,hi,aA,fh,aE⟩;cases aA;refine Aa (λ aB=>⟨⟨by omega,aB⟩,?_⟩) (λ aL=>?_)
 ·have aF:i<ls.length:=by omega
  obtain⟨p,rfl,c0,c1,c2⟩:=FG (hl.grown fh.below) aF;refine⟨_,by rw [AnF];exact c0,_,by rw [AnF];exact c1,_,by rw [AnF];exact c2,fh.KQ λ tE iQ xN nw eC=>?_⟩;refine⟨_,eC.cell 0 rfl rfl,_,eC.cell 0 rfl rfl,_,eC.cell 0 rfl rfl,(Cz iQ ls[i]).mono ?_⟩;rintro _ kZ ⟨_,rfl,rfl,lK⟩;have gI:=eC.grown lK;refine⟨_,rfl,A5 (AU (λ hr=>?_) (λ hr=>?_))⟩
  ·rw [Ai (by omega)];refine⟨⟨i+1,by omega,rfl,gI.drop 1,λ v hv=>?_⟩,?_⟩
   ·rw [Aou aF] at hv;rcases Aow.1 hv with h | h
    ·exact aE v h
    ·rw [Aox.1 h];exact hr
   ·simp only [AnF];omega
  ·exact Abe (p:=(Z0,Z0)) (x:=0) gI (n:=2) rfl (λ h=>by have:=h.2 _ (List.getElem_mem aF);rw [this] at hr;cases hr)
 have cL:ls.take i=ls:=List.take_of_length_le (by omega);rw [cL] at aE;have ar:LO ls:=⟨hlen,aE⟩;refine fh.Aj λ gL jE xR jF vS=>vS.IM 0 rfl (aC:=#[.int .i64 0]) (show 0<1 by decide) rfl λ nu zI vT=>Mx.mono ?_;rintro _ cE ⟨_,rfl,bI,rfl,sw⟩;have lM:SH (λ _=>False) w cE [(gL,#[.int .i64 0],ty.int),(bW,zC 0 (Z0,Z0),ty.AX),(b2,zC 0 (Z0,Z0),ty.AX)]:=vT.grown sw.below;refine⟨_,_,_,rfl,by kernel_rfl,λ rr aA bJ hy=>?_⟩;obtain⟨W1,hW1⟩:∃ W1,W1=(cE.alloc (.deferred (some []))).alloc (.loop rr):=⟨_,rfl⟩;rw [<- hW1];have eM:Below cE.heap.size cE W1:=by rw [hW1];exact (((Below.refl _ cE).alloc (Nat.le_refl _) _).alloc (by simp) _)
 have oh:W1.heap.size=cE.heap.size+2:=by rw [hW1];simp
 have fM:W1.heap[cE.heap.size+1]?=some (.loop rr):=by
  rw [hW1];have:=World.alloc_heap_new (cE.alloc (.deferred (some []))) (.loop rr);rwa [World.size_alloc] at this
 have i':W1.heap[cE.heap.size]?=some (.deferred (some [])):=by
  rw [hW1];exact (Below.heap_alloc _ _ _ (by simp)).trans (World.alloc_heap_new cE _)
 obtain⟨L,hLd⟩:∃ L,L=cE.heap.size+1:=⟨_,rfl⟩;rw [<- hLd] at fM hy ⊢;have l30:=lM.lt (x:=(gL,_,_)) (AnT ..);have l10:=lM.lt (x:=(bW,_,_)) (AnU _ (AnT ..));have l2:=lM.lt (x:=(b2,_,_)) (AnU _ (AnU _ (AnT ..)));have yy:=lM.below.size;let H:Nat->List Yy:=λ q=>[(gL,#[.int .i64 ((AP (ls.take q)).length:Int)],ty.int),(bW,zC 0 (Ht (ls.take q)),ty.AX),(b2,zC 0 (Z0,Z0),ty.AX)];let J:Nat->World->Prop:=λ q wx=>SH (λ _=>False) w wx (H q)/\wx.heap[L]?=some (.loop rr)/\wx.heap[cE.heap.size]?=some (.deferred (some []));have hI:W1.cell? ⟨bI,0,none⟩=some (.slice a ls.length c):=cell0 ((Ae.Al (F:=λ _=>False) eM).at (sw.get 0 rfl) (by simp));have aj:=TJ (w:=W1) (L:=L) (b:=bI) (by omega) J (λ q wx hj=>hl.grown hj.1.below) (λ q wx wy hj B=>by
   have K:=Ae.Al (F:=λ _=>False) B;exact⟨hj.1.grown B,K.at hj.2.1 (by simp),K.at hj.2.2 (by simp)⟩) (λ q wx hq hz hj=>by
   have e1:H (q+1)=H q:=by
    have:=Ds hq;rw [if_pos hz,AoS] at this;show [(gL,#[Value.int .i64 ((AP (ls.take (q+1))).length:Int)],ty.int),(bW,zC 0 (Ht (ls.take (q+1))),ty.AX),(b2,zC 0 (Z0,Z0),ty.AX)]=_;rw [this,Abc hq hz]
   exact⟨by rw [e1];exact hj.1,hj.2⟩) (by
  rintro q wx hq aQ ⟨SJ,hL,hD⟩;have eg:(AP (ls.take q)).length<=1024:=by
   have:(AP (ls.take q)).length<=(ls.take q).length:=List.length_filter_le ..;rw [Anw] at this;omega
  have gw:H (q+1)=[(gL,#[.int .i64 (((AP (ls.take q)).length+1:Nat):Int)],ty.int),(bW,zC 0 (if (AP (ls.take q)).length=0\/F6 ls[q] (Ht (ls.take q)).1<0 then ls[q] else (Ht (ls.take q)).1,if (AP (ls.take q)).length=0\/0<F6 ls[q] (Ht (ls.take q)).2 then ls[q] else (Ht (ls.take q)).2),ty.AX),(b2,zC 0 (Z0,Z0),ty.AX)]:=by
   have e1:=Ds hq;rw [if_neg aQ] at e1;show [(gL,#[Value.int .i64 ((AP (ls.take (q+1))).length:Int)],ty.int),(bW,zC 0 (Ht (ls.take (q+1))),ty.AX),(b2,zC 0 (Z0,Z0),ty.AX)]=_;rw [Abd hq aQ,e1,Anp];rfl
  obtain⟨n,eo⟩:∃ n,n=(AP (ls.take q)).length:=⟨_,rfl⟩;obtain⟨mm,kJ⟩:∃ mm,mm=Ht (ls.take q):=⟨_,rfl⟩;have SJ':SH (λ _=>False) w wx [(gL,#[.int .i64 (n:Int)],ty.int),(bW,zC 0 mm,ty.AX),(b2,zC 0 (Z0,Z0),ty.AX)]:=by rw [eo,kJ];exact SJ
  rw [<- eo,<- kJ] at gw;rw [<- eo] at eg;obtain⟨v,hvd⟩:∃ v,v=ls[q]:=⟨_,rfl⟩;rw [<- hvd] at gw ⊢;refine hy _ _ _ _ wx hL ?_;refine SJ'.KQ λ pN kb xU ui lN=>?_;have sq:=Ae.Al (F:=λ _=>False) ui;have lj:=sq.at hL (by simp);have px:=sq.at hD (by simp);refine⟨lj,?_⟩;obtain⟨wB,hwB⟩:∃ wB,wB=kb.putObj L (.loop { rr with state:=.busy }):=⟨_,rfl⟩;rw [<- hwB];have dZ:L<kb.heap.size:=(AnV.1 lj).1;have zh:L<wx.heap.size:=(AnV.1 hL).1;have KB:Ae (λ k=>k=L) kb wB:=by rw [hwB];exact Ay _ _ _
  have qD:wB.heap[L]?=some (.loop { rr with state:=.busy }):=by rw [hwB];exact World.putObj_heap_same dZ
  have wv:=KB.at px (show ¬ cE.heap.size=L by omega);have SB:SH (λ _=>False) w wB [(pN,#[.int .i64 v.1,.int .i64 v.2.1,.string v.2.2],ty.AD),(gL,#[.int .i64 (n:Int)],ty.int),(bW,zC 0 mm,ty.AX),(b2,zC 0 (Z0,Z0),ty.AX)]:=lN.kept KB (by
   intro y hy;simp only [Anh,AoB,or_false] at hy;rcases hy with rfl | rfl | rfl | rfl <;> simp only <;> omega) (λ k hk h=>by omega)
  let G:World->Ax->Ax->Int->Prop:=λ wy mn mx m=>SH (λ _=>False) w wy [(pN,#[.int .i64 v.1,.int .i64 v.2.1,.string v.2.2],ty.AD),(gL,#[.int .i64 m],ty.int),(bW,zC 0 (mn,mx),ty.AX),(b2,zC 0 (Z0,Z0),ty.AX)]/\wy.heap[L]?=some (.loop { rr with state:=.busy })/\wy.heap[cE.heap.size]?=some (.deferred (some []));have e7:∀ {wy wz:World} {b:Nat},Ae (·=b) wy wz->b≠L->b≠cE.heap.size->wy.heap[L]?=some (.loop { rr with state:=.busy })/\wy.heap[cE.heap.size]?=some (.deferred (some []))->wz.heap[L]?=some (.loop { rr with state:=.busy })/\wz.heap[cE.heap.size]?=some (.deferred (some [])) :=
   λ K h1 h2 h=>⟨K.at h.1 (λ e=>h1 e.symm),K.at h.2 (λ e=>h2 e.symm)⟩
  have jJ:∀ {wy wz:World} {mn mx:Ax} {m:Int},G wy mn mx m->Below wy.heap.size wy wz->G wz mn mx m:=λ h B=>by
   have K:=Ae.Al (F:=λ _=>False) B;exact⟨h.1.grown B,K.at h.2.1 (by simp),K.at h.2.2 (by simp)⟩
  have fin:∀ {wy:World} {mn mx:Ax},G wy mn mx (n:Int)->mn=(if n=0\/F6 v mm.1<0 then v else mm.1)->mx=(if n=0\/0<F6 v mm.2 then v else mm.2) ->
    ∃ t50:Int,wy.cell? ⟨gL,0,none⟩=some (.int .i64 t50)/\Cd ⟨gL,0,none⟩ (.int .i64 (IntKind.i64.wrap (t50+1))) (λ zD=>Bv rr L (λ y w'=>y=true/\(SH (λ _=>False) w w' (H (q+1))/\w'.heap[L]?=some (.loop rr)/\w'.heap[cE.heap.size]?=some (.deferred (some [])))) none zD) wy:=by
   rintro wy mn mx ⟨Sy,Ly⟩ rfl rfl;refine⟨_,Sy.cell 1 rfl rfl,?_⟩;rw [Ai (by omega)];refine Sy.IM 1 rfl (aC:=#[.int .i64 ((n+1:Nat):Int)]) (show 0<1 by decide) rfl λ wz Kz Sz=>?_;obtain⟨Lz,Dz⟩:=e7 Kz (by omega) (by omega) Ly;refine⟨Lz,rfl,?_⟩;rw [H6 aA bJ];have lz:L<wz.heap.size:=(AnV.1 Lz).1;have KP:=Ay wz L (.loop rr);refine⟨?_,World.putObj_heap_same lz,KP.at Dz (show ¬ cE.heap.size=L by omega)⟩;rw [gw];exact (Sz.drop 1).kept KP (by
    intro y hy;simp only [List.set_cons_succ,AoT,List.drop_succ_cons,List.drop_zero,Anh,AoB,or_false] at hy;rcases hy with rfl | rfl | rfl <;> simp only <;> omega) (λ k hk h=>by omega)
  have GB:G wB mm.1 mm.2 (n:Int):=⟨SB,qD,wv⟩;refine⟨λ s lJ=>s=[]/\G lJ (if n=0\/F6 v mm.1<0 then v else mm.1) mm.2 (n:Int),?_,?_⟩
  ·refine⟨_,GB.1.cell 1 rfl rfl,Az (λ h0=>?_) (λ h0=>?_)⟩
   ·have cZ:n=0:=by omega
    refine⟨_,GB.1.cell 0 rfl rfl,_,GB.1.cell 0 rfl rfl,_,GB.1.cell 0 rfl rfl,GB.1.AhF 2 rfl λ ug oz pF=>⟨rfl,?_⟩⟩;rw [Adh cZ];exact⟨pF,e7 oz (by omega) (by omega) GB.2⟩
   ·have cZ:¬ n=0:=by omega
    refine⟨_,GB.1.cell 0 rfl rfl,_,GB.1.cell 0 rfl rfl,_,GB.1.cell 0 rfl rfl,_,GB.1.cell 2 rfl rfl,_,GB.1.cell 2 rfl rfl,_,GB.1.cell 2 rfl rfl,(IJ wB v mm.1).mono ?_⟩;rintro _ om ⟨_,rfl,rfl,uj⟩;have kf:=jJ GB uj;refine⟨_,rfl,Aa (λ hc=>⟨_,kf.1.cell 0 rfl rfl,_,kf.1.cell 0 rfl rfl,_,kf.1.cell 0 rfl rfl,kf.1.AhF 2 rfl λ ug oz pF=>⟨rfl,?_⟩⟩) (λ hc=>⟨rfl,?_⟩)⟩
    ·rw [if_pos (.inr hc)];exact⟨pF,e7 oz (by omega) (by omega) kf.2⟩
    ·rw [if_neg (by omega)];exact kf
  rintro lJ ⟨_,fg⟩;refine⟨_,fg.1.cell 1 rfl rfl,Az (λ h0=>?_) (λ h0=>?_)⟩
  ·have cZ:n=0:=by omega
   refine⟨_,fg.1.cell 0 rfl rfl,_,fg.1.cell 0 rfl rfl,_,fg.1.cell 0 rfl rfl,fg.1.AhE 2 rfl λ zA p9 pH=>fin (mx:=v) ⟨pH,e7 p9 (by omega) (by omega) fg.2⟩ rfl (by rw [Adh cZ])⟩
  ·have cZ:¬ n=0:=by omega
   refine⟨_,fg.1.cell 0 rfl rfl,_,fg.1.cell 0 rfl rfl,_,fg.1.cell 0 rfl rfl,_,fg.1.cell 2 rfl rfl,_,fg.1.cell 2 rfl rfl,_,fg.1.cell 2 rfl rfl,(IJ lJ v mm.2).mono ?_⟩;rintro _ w51 ⟨_,rfl,rfl,um⟩;have kg:=jJ fg um;refine⟨_,rfl,Aa (λ hc=>⟨_,kg.1.cell 0 rfl rfl,_,kg.1.cell 0 rfl rfl,_,kg.1.cell 0 rfl rfl,kg.1.AhE 2 rfl λ zA p9 pH=>fin (mx:=v) ⟨pH,e7 p9 (by omega) (by omega) kg.2⟩ rfl (by rw [if_pos (.inr (by omega))])⟩) (λ hc=>fin kg rfl (by rw [if_neg (by omega)]))⟩)
  ⟨lM.grown eM,fM,i'⟩ hI
 refine aj.mono ?_;rintro _ ot ⟨_,rfl,SJ,qC,pz⟩;have SJ':SH (λ _=>False) w ot [(gL,#[.int .i64 ((AP ls).length:Int)],ty.int),(bW,zC 0 (Ht ls),ty.AX),(b2,zC 0 (Z0,Z0),ty.AX)]:=by
  have:=SJ;simp only [H,List.take_length] at this;exact this
 refine⟨⟨_,rfl⟩,none,by rw [H6 aA bJ];exact qC,rfl,?_⟩;obtain⟨ou,hw58⟩:∃ ou,ou=ot.putObj L (.loop { rr with state:=.exhausted,pending:=none }):=⟨_,rfl⟩;rw [<- hw58];have su:Ae (λ k=>k=L) ot ou:=by rw [hw58];exact Ay _ _ _
 have lO:=SJ'.kept su (by
  intro y hy;simp only [Anh,AoB,or_false] at hy;rcases hy with rfl | rfl | rfl <;> simp only <;> omega) (λ k hk h=>by omega)
 have q8:=su.at pz (show ¬ cE.heap.size=L by omega);have y8:=Acb ls;have en:IntKind.i64.wrap ((ls.length:Int)-((AP ls).length:Int))=(Av ls:Int):=by rw [wrap_i64 (by omega) (by omega)];omega
 refine⟨_,lO.cell 0 rfl rfl,?_⟩;rw [en];refine lO.IM 1 rfl (aC:=zC (Av ls:Int) (Ht ls)) (show 0<7 by decide) rfl λ zF ux fq=>?_;refine⟨_,fq.cell 1 rfl rfl,_,fq.cell 1 rfl rfl,_,fq.cell 1 rfl rfl,_,fq.cell 1 rfl rfl,_,fq.cell 1 rfl rfl,_,fq.cell 1 rfl rfl,_,fq.cell 1 rfl rfl,fq.Afm 2 rfl λ zG uy ve=>?_⟩;have q9:=uy.at (ux.at q8 (show ¬ cE.heap.size=bW by omega)) (show ¬ cE.heap.size=b2 by omega);have KP:=Ay zG cE.heap.size (.deferred none);have SP:=ve.kept KP (by
  intro y hy;simp only [List.set_cons_succ,AoT,Anh,AoB,or_false] at hy;rcases hy with rfl | rfl | rfl <;> simp only <;> omega) (λ k hk h=>by omega)
 exact⟨q9,_,SP.cell 2 rfl rfl,_,SP.cell 2 rfl rfl,_,SP.cell 2 rfl rfl,_,SP.cell 2 rfl rfl,_,SP.cell 2 rfl rfl,_,SP.cell 2 rfl rfl,_,SP.cell 2 rfl rfl,.inl ⟨ar,rfl⟩,SP.below⟩
end
section
variable {w:World}{a:Option Addr}{c:Nat}{ls:List Ax}
end
structure Akb(ls:List Ax)(i:Nat):Prop where
 all:∀ v∈ls.take i,v.1≠0->0<=F6 v (Ht (ls.take i)).1/\F6 v (Ht (ls.take i)).2<=0
 some:0<(AP (ls.take i)).length->((Ht (ls.take i)).1∈ls.take i/\(Ht (ls.take i)).1.1≠0)/\((Ht (ls.take i)).2∈ls.take i/\(Ht (ls.take i)).2.1≠0)
 none:(AP (ls.take i)).length=0->Ht (ls.take i)=(Z0,Z0)
theorem Y4(v:Ax):F6 v v=0:=(L3.zero v v).2 rfl
theorem AeB{ls:List Ax}(h:(AP ls).length=0):∀ v∈ls,v.1=0:=by
 intro v hv;have hf:AP ls=[]:=List.eq_nil_of_length_eq_zero h;unfold AP at hf;have:=List.filter_eq_nil_iff.1 hf v hv;simpa using this
theorem within{ls:List Ax}:∀ i,i<=ls.length->Akb ls i
 | 0,_=>⟨by simp,by simp [AP],λ _=>rfl⟩
 | i+1,hi=>by
  have aF:i<ls.length:=by omega
  obtain⟨h1,h2,h3⟩:=within (ls:=ls) i (by omega);have cy:∀ v,v∈ls.take i->v∈ls.take (i+1):=λ v hv=>by rw [Aou aF];exact List.mem_append_left _ hv
  have cB:ls[i]∈ls.take (i+1):=by rw [Aou aF];exact List.mem_append_right _ (Aox.2 rfl)
  by_cases h0:ls[i].1=0
  ·have ef:AP (ls.take (i+1))=AP (ls.take i):=by rw [Ds aF,if_pos h0,AoS]
   have ez:=Abc aF h0;refine⟨?_,?_,?_⟩
   ·rw [ez];intro v hv aQ;rw [Aou aF] at hv;rcases Aow.1 hv with h | h
    ·exact h1 v h aQ
    ·rw [Aox.1 h] at aQ;exact absurd h0 aQ
   ·rw [ef,ez];intro hp;obtain⟨⟨a1,a2⟩,b1,b2⟩:=h2 hp;exact⟨⟨cy _ a1,a2⟩,cy _ b1,b2⟩
   ·rw [ef,ez];exact h3
  ·have ez:=Abd aF h0;have ef:(AP (ls.take (i+1))).length=(AP (ls.take i)).length+1:=by rw [Ds aF,if_neg h0,Anp];rfl
   obtain⟨mm,kJ⟩:∃ mm,mm=Ht (ls.take i):=⟨_,rfl⟩;obtain⟨n,hn⟩:∃ n,n=(AP (ls.take i)).length:=⟨_,rfl⟩;rw [<- kJ,<- hn] at ez h2;rw [<- kJ] at h1;rw [<- hn] at ef;have min_le:0<=F6 ls[i] (if n=0\/F6 ls[i] mm.1<0 then ls[i] else mm.1):=by
    split
    ·rw [Y4];exact Int.le_refl _
    ·omega
   have max_le:F6 ls[i] (if n=0\/0<F6 ls[i] mm.2 then ls[i] else mm.2)<=0:=by
    split
    ·rw [Y4];exact Int.le_refl _
    ·omega
   have old:∀ v∈ls.take i,v.1≠0->¬ n=0:=λ v hv aQ h=>aQ (AeB (by rw [<- hn];exact h) v hv);refine⟨?_,?_,λ h=>by omega⟩
   ·rw [ez];intro v hv aQ;rw [Aou aF] at hv;rcases Aow.1 hv with h | h
    ·obtain⟨k1,k2⟩:=h1 v h aQ;have cZ:=old v h aQ;refine⟨?_,?_⟩
     ·simp only;split
      ·rename_i hc;have bh:F6 ls[i] mm.1<0:=hc.resolve_left cZ;have yk:F6 mm.1 v<=0:=by have:=L3.neg v mm.1;omega
       have:=L3.strict _ _ _ bh yk;have:=L3.neg ls[i] v;omega
      ·exact k1
     ·simp only;split
      ·rename_i hc;have bh:0<F6 ls[i] mm.2:=hc.resolve_left cZ;have:F6 mm.2 ls[i]<=0:=by have:=L3.neg ls[i] mm.2;omega
       exact L3.trans _ _ _ k2 this
      ·exact k2
    ·rw [Aox.1 h];exact⟨min_le,max_le⟩
   ·rw [ez];intro _;refine⟨?_,?_⟩
    ·simp only;split
     ·exact⟨cB,h0⟩
     ·rename_i hc;obtain⟨⟨a1,a2⟩,_⟩:=h2 (by omega);exact⟨cy _ a1,a2⟩
    ·simp only;split
     ·exact⟨cB,h0⟩
     ·rename_i hc;obtain⟨_,b1,b2⟩:=h2 (by omega);exact⟨cy _ b1,b2⟩
structure Kc(K:Int)(ls:List Ax)(l:List UInt8):Prop where
 F9:Bi K ls
 ex:∃ o,(Av ls<ls.length->Gp K ls o)/\(¬ Av ls<ls.length->o=[])/\l=Fo K ls++Em ls++o
theorem Ad3{ls:List Ax}(h:Av ls=0):Ce ls=AnP ls.length 0:=by
 unfold Ce;rw [List.eq_replicate_iff];refine⟨by simp,λ b hb=>?_⟩;obtain⟨v,hv,rfl⟩:=List.mem_map.1 hb;unfold Av at h;have:=(List.countP_eq_zero.1 h) v hv;rw [if_neg (by simpa using this)]
theorem Af5{ls:List Ax}(h:Av ls=ls.length):Ce ls=AnP ls.length 1:=by
 unfold Ce;rw [List.eq_replicate_iff];refine⟨by simp,λ b hb=>?_⟩;obtain⟨v,hv,rfl⟩:=List.mem_map.1 hb;unfold Av at h;have:=(List.countP_eq_length.1 h) v hv;rw [if_pos (by simpa using this)]
theorem Bi.null{K:Int}{ls:List Ax}(h:Bi K ls):∀ v∈ls,v.1=0->v=(0,0,E0):=by
 intro v hv h0;have ar:=h.all v hv;simp only [okV,Bool.and_eq_true] at ar;have hr:=ar.1;unfold AL at hr;rw [if_pos h0] at hr;simp at hr;obtain⟨v1,v2,v3⟩:=v;simp only at h0 hr;rw [h0,hr.1,hr.2]
theorem Aad(ls:List Ax):Av ls+(AP ls).length=ls.length:=by
 induction ls with
 | nil=>rfl
 | cons v ls ih =>
  unfold Av AP at ih ⊢;by_cases h:v.1=0
  ·simp [h];omega
  ·simp [h];omega
structure YO(K:Int)(ls:List Ax)(l:List UInt8)(aY at2:Nat)(o:List UInt8):Prop where
 kind:((l.getD 0 0).toNat:Int)=K
 n1:takeN l 1=some (ls.length,aY)
 n2:takeN l (aY:Int)=some (Av ls,at2)
 rest:l.drop at2=Em ls++o
 oth:Av ls<ls.length->Gp K ls o
 none:¬ Av ls<ls.length->o=[]
theorem Kc.q{K:Int}{ls:List Ax}{l:List UInt8}(h:Kc K ls l):∃ aY at2 o,YO K ls l aY at2 o:=by
 obtain⟨o,h1,h2,rfl⟩:=h.ex;have hlen:=h.F9.len;have hk:=h.F9.kind;have er:=EG ls;have e1:(Fo K ls++Em ls++o).drop 1=Ag ls.length++(Ag (Av ls)++(Em ls++o)):=by simp [Fo]
 have e2:=BT e1;have e3:=BT e2;refine⟨_,_,o,?_,BZ (at_:=1) (by omega) e1,BZ (by omega) e2,e3,h1,h2⟩;have:((Fo K ls++Em ls++o).getD 0 0)=UInt8.ofNat K.toNat:=by simp [Fo]
 rw [this,D4 (by omega)];omega
def Kd(l:List UInt8)(w w':World)(v:Value):Prop :=
 ∃(K:Int) (os:List Ax) (a:Option Addr) (c:Nat) (ok:Bool),v=.tuple #[.int .i64 K,.slice a os.length c,.bool ok]/\RdN w w' a (AW os)/\Below w.heap.size w w'/\os.length<=4096/\(∀ v∈os,Eb v) /\
  ∀ K' ls,Kc K' ls l->ok=true/\K=K'/\os=ls
theorem Kd.bad{l:List UInt8}{w w':World}(hb:Below w.heap.size w w')(h:∀ K ls,¬ Kc K ls l):Kd l w w' (.tuple #[.int .i64 0,.slice none 0 0,.bool false]) :=
 ⟨0,[],none,0,false,rfl,RdN.nil _ _,hb,by simp,by simp,λ K ls aX=>absurd aX (h K ls)⟩
section
variable {w:World}{a:Option Addr}{c:Nat}{l:List UInt8}
theorem U5(hl:Rd w a (l.map Af))(hc:l.length<=c)(hs:l.length<=9223372036854775807) :
  Calls Tryz.prog f.Abt #[.slice a l.length c] w (AB λ v w'=>Kd l w w' v):=by
 apply R.PI
 delta R.Ad R.J9 R.Abg R.BL R.EN R.D R.F R.G R.H R.I R.Ly R.O R.Qi R.Rs R.S R.Ah R.U R.W R.Wu R.X R.Y R.AlM;try dsimp only [R.Ps]
 refine Aa (λ h=>Kd.bad (.refl _ _) λ K ls hp=>?_) (λ fA=>?_)
 ·obtain⟨_,_,_,q⟩:=hp.q;have:=AZ q.n1;omega
 have h0:0<l.length:=by omega
 refine (AF hl hc hs 1).mono ?_;rintro _ w ⟨_,rfl,rfl,rfl⟩;obtain⟨n,aY,e1,hv1,dC,eD⟩:∃(n aY:Nat) (e1:Int),Vh (takeN l 1)=.tuple #[.int .u64 (n:Int),.int .i64 (aY:Int),.int .i64 e1]/\(n<18446744073709551616/\aY<=l.length)/\(∀ K ls,Kc K ls l->e1=0/\n=ls.length/\takeN l 1=some (n,aY)):=by
  cases hx:takeN l 1 with
  | none =>
   refine⟨0,0,20,rfl,by omega,λ K ls hp=>?_⟩;obtain⟨_,_,_,q⟩:=hp.q;have:=q.n1;rw [hx] at this;cases this
  | some x =>
   have hb:=AZ (n:=x.1) (k:=x.2) hx;refine⟨x.1,x.2,0,rfl,by omega,λ K ls hp=>?_⟩;obtain⟨_,_,_,q⟩:=hp.q;have:=q.n1;rw [hx] at this;have:=Aoj this;exact⟨rfl,by rw [this],rfl⟩
 rw [hv1];refine⟨_,_,_,rfl,(AF hl hc hs (aY:Int)).mono ?_⟩;rintro _ w ⟨_,rfl,rfl,rfl⟩;obtain⟨no,at2,e2,j9,d',hP2⟩:∃(no at2:Nat) (e2:Int),Vh (takeN l (aY:Int))=.tuple #[.int .u64 (no:Int),.int .i64 (at2:Int),.int .i64 e2]/\(no<18446744073709551616/\at2<=l.length)/\(∀ K ls,Kc K ls l->e2=0/\no=Av ls/\∃ o,YO K ls l aY at2 o):=by
  have step:∀ K ls,Kc K ls l->∃ at2 o,YO K ls l aY at2 o:=by
   intro K ls hp;obtain⟨a1,a2,o,q⟩:=hp.q;have h1:=(eD K ls hp).2.2;have h2:=q.n1;rw [h1] at h2;obtain rfl:aY=a1:=by have:=Aoj h2;simpa using congrArg Prod.snd this
   exact⟨a2,o,q⟩
  cases hx:takeN l (aY:Int) with
  | none =>
   refine⟨0,0,20,rfl,by omega,λ K ls hp=>?_⟩;obtain⟨_,_,q⟩:=step K ls hp;have:=q.n2;rw [hx] at this;cases this
  | some x =>
   have hb:=AZ (n:=x.1) (k:=x.2) hx;refine⟨x.1,x.2,0,rfl,by omega,λ K ls hp=>?_⟩;obtain⟨a2,o,q⟩:=step K ls hp;have:=q.n2;rw [hx] at this;have uR:=Aoj this;obtain rfl:x.2=a2:=by rw [uR]
   exact⟨rfl,by rw [uR],o,q⟩
 rw [j9];refine⟨_,_,_,rfl,Au (λ h=>Kd.bad (.refl _ _) λ K ls hp=>h (eD K ls hp).1) (λ tu=>Au (λ h=>Kd.bad (.refl _ _) λ K ls hp=>h (hP2 K ls hp).1) (λ oM=>Aa (λ h=>Kd.bad (.refl _ _) λ K ls hp=>?_) (λ nE=>Aa (λ h=>Kd.bad (.refl _ _) λ K ls hp=>?_) (λ kL=>?_))))⟩
 ·have:=(eD K ls hp).2.1;have:=hp.F9.len;omega
 ·have:=(eD K ls hp).2.1;have:=(hP2 K ls hp).2.1;have:=EG ls;omega
 have hn:n<=1024:=by omega
 have bC:no<=n:=by omega
 refine FW tU (l:=(n:Int)) (c:=(n:Int)) (by omega) (by omega) (by omega) (by omega) λ bo w3 iH B3 oH=>?_;rw [AnF] at oH ⊢;have lk:w3.heap[bo]?=some (.cells ⟨AnP n (.int .u64 0)⟩ ty.uint64 (0,0)):=by
  have e:madeCells (Value.int .u64 0).cells (n*1)=⟨AnP n (.int .u64 0)⟩:=by
   apply Array.ext';rw [El _ rfl,AnI]
  rw [<- e];exact oH
 refine⟨_,_,_,rfl,λ s w8=>∃(at3:Nat) (e:Int) (bits:List Nat) (ab:Option Addr) (cb:Nat),s=[.int .i64 (at3:Int),.int .i64 e,.slice ab bits.length cb]/\Rd w8 ab (bits.map Hr)/\Below w.heap.size w w8/\bits.length<=4096/\at3<=l.length /\
   (∀ K ls,Kc K ls l->e=0/\bits=Ce ls/\∃ o,YO K ls l aY at2 o/\l.drop at3=o),?_,?_⟩
 ·have rep:∀(k:Nat) (x:Nat),(AnP k x).map Hr=AnP k (.int .u64 (x:Int)):=λ k x=>by rw [List.map_replicate];rfl
  refine Az (λ hz=>?_) (λ hz=>Az (λ aE=>?_) (λ nD=>?_))
  ·refine⟨at2,e1,AnP n 0,some ⟨bo,0,none⟩,n,by rw [AoU],?_,B3,by simp;omega,d'.2,λ K ls hp=>?_⟩
   ·have:=Rd.Ak lk;rw [rep];exact this
   ·obtain⟨_,kN,o,q⟩:=hP2 K ls hp;have iK:=(eD K ls hp).2.1;have iO:Av ls=0:=by omega
    refine⟨tu,by rw [Ad3 iO,iK],o,q,?_⟩;rw [q.rest];unfold Em;rw [if_neg (by omega)];rfl
  ·refine⟨λ s w4=>∃ i:Nat,i<=n/\s=[.int .i64 (i:Int)]/\Ae (λ k=>k=bo) w3 w4/\w4.heap[bo]?=some (.cells ⟨AnP i (.int .u64 1)++AnP (n-i) (.int .u64 0)⟩ ty.uint64 (0,0)),λ s _=>match s with
     | [.int _ i]=>n-i.toNat
     | _=>0,⟨0,by omega,rfl,.refl _ _,by simpa using lk⟩,?_⟩
   rintro _ w4 ⟨i,hi,aA,K4,ll⟩;cases aA;refine Aa (λ aB=>⟨⟨by omega,aB⟩,?_⟩) (λ aL=>?_)
   ·rw [AnF];unfold As;simp only;refine Yc ll (p:=(⟨bo,0,none⟩:Addr).add (i*1)) (i:=i) (by rw [Am];simp) (by show i<(_++_:List Value).length;simp;omega) λ w5 K5 lp=>?_;rw [Ai (by omega)];refine⟨⟨i+1,by omega,rfl,K4.trans K5 (λ _ _ h=>h),?_⟩,?_⟩
    ·have e:(⟨AnP i (.int .u64 1)++AnP (n-i) (.int .u64 0)⟩:Array Value).setIfInBounds i (.int .u64 1)=⟨AnP (i+1) (.int .u64 1)++AnP (n-(i+1)) (.int .u64 0)⟩:=by
      apply Array.ext';simp only [Array.toList_setIfInBounds];rw [List.set_append_right _ _ (by simp),AoU,Nat.sub_self,show n-i=(n-(i+1))+1 by omega,List.replicate_succ (n:=n-(i+1)),AoT,List.replicate_succ' (n:=i),List.append_assoc];rfl
     rw [e] at lp;exact lp
    ·simp only [AnF];omega
   ·have cB:i=n:=by omega
    subst cB;rw [Nat.sub_self,List.replicate_zero,AoS] at ll;refine⟨at2,e1,AnP i 1,some ⟨bo,0,none⟩,i,by rw [AoU],?_,B3.trans (K4.below B3.size λ k hk h=>by omega),by simp;omega,d'.2,λ K ls hp=>?_⟩
    ·have:=Rd.Ak ll;rw [rep];exact this
    ·obtain⟨_,kN,o,q⟩:=hP2 K ls hp;have iK:=(eD K ls hp).2.1;have iO:Av ls=ls.length:=by omega
     refine⟨tu,by rw [Af5 iO,iK],o,q,?_⟩;rw [q.rest];unfold Em;rw [if_neg (by omega)];rfl
  ·rw [wrap_i64 (n:=(n:Int)) (by omega) (by omega)];refine (Js w3 (n:Int) 1).mono ?_;rintro _ w6 ⟨_,rfl,rfl,rfl⟩;rw [if_pos ⟨by omega,by omega,by omega,by omega⟩];obtain⟨sz,av⟩:∃ sz,sz=EI n 1:=⟨_,rfl⟩;have yW:sz=(n+7) / 8:=by rw [av];unfold EI;rw [AnI]
   have wb:((n:Int)*1+7) / 8=(sz:Int):=by omega
   rw [wb,wrap_i64 (n:=(l.length:Int)-(at2:Int)) (by omega) (by omega)];have gv:∀ K ls,Kc K ls l->∃ o,YO K ls l aY at2 o/\l.drop at2=Ba (Ce ls) 1++o/\(Ba (Ce ls) 1).length=sz:=by
    intro K ls hp;obtain⟨_,kN,o,q⟩:=hP2 K ls hp;have iK:=(eD K ls hp).2.1;refine⟨o,q,?_,?_⟩
    ·rw [q.rest];unfold Em;rw [if_pos (by omega)]
    ·rw [CH,av,iK];simp [Ce]
   refine⟨_,_,rfl,Aa (λ h=>Kd.bad B3 λ K ls hp=>?_) (λ aL=>?_)⟩
   ·obtain⟨o,_,e,e2⟩:=gv K ls hp;have:=congrArg List.length e;rw [AnC,Anp] at this;omega
   rw [wrap_i64 (n:=(at2:Int)+(sz:Int)) (by omega) (by omega)];refine⟨⟨by omega,by omega,by omega⟩,?_⟩;rw [AnF,show ((at2:Int)+(sz:Int)).toNat=at2+sz by omega,Nat.add_sub_cancel_left];have bm:=(hl.grown B3).Yr at2 (at2+sz) c 1 (by omega);rw [AnI,AnI,Nat.add_sub_cancel_left,<- List.map_drop,<- List.map_take] at bm;have sI:((l.drop at2).take sz).length=sz:=by rw [Anw,AnC];omega
   have hU:=G0 (c:=c-at2) bm (n:Int) 1 (by omega);rw [sI] at hU;refine hU.mono ?_;rintro _ w7 ⟨_,rfl,xs,xa,xc,e,rfl,mB,B7,sQ,aM⟩;have C7:=Ac B3 B7;have dM:xs.length<=4096:=by
    rcases aM with ⟨_,_,rfl,_⟩ | ⟨_,rfl,_⟩
    ·rw [Dp];omega
    ·simp
   refine⟨_,_,_,_,rfl,at2+sz,e,xs,xa,xc,rfl,mB,C7,dM,by omega,λ K ls hp=>?_⟩;obtain⟨o,q,e3,e4⟩:=gv K ls hp;have iK:=(eD K ls hp).2.1;have cI:(Ce ls).length=n:=by rw [iK];simp [Ce]
   have fD:(l.drop at2).take sz=Ba (Ce ls) 1:=by rw [e3,<- e4,List.take_left]
   have sL:=LL (Ac1 ls);rw [cI] at sL;rw [fD,AnF,show (1:Int).toNat=1 from rfl] at aM;have ar:IH (n:Int) 1/\UL (Ba (Ce ls) 1) n 1:=⟨⟨by omega,by omega,by omega,by omega⟩,⟨by rw [CH,cI],by rw [sL]⟩⟩;rcases aM with ⟨_,_,bV,he⟩ | ⟨hno2,_⟩
   ·exact⟨he,by rw [bV,sL],o,q,by rw [<- e4,<- List.drop_drop,e3,List.drop_left]⟩
   ·exact absurd ar hno2
 rintro _ e ab _ cb w8 ⟨at3,_,bits,_,_,aA,xF,B8,cI,xK,qJ⟩;cases aA;refine (SH.start (λ _=>False) w8).MC λ w9 B9 _=>⟨⟨by omega,by omega⟩,?_⟩;have C9:=Ac B8 B9;have me:=W9 (q:=at3) (hl.grown C9) hc;obtain⟨p,rfl,aJ⟩:=GA (hl.grown C9) h0;have dB:=(l.getD 0 0).toNat_lt;refine⟨⟨by omega,by omega,by omega⟩,_,aJ,?_⟩;have en:IntKind.i64.wrap (IntKind.u64.wrap ((n:Int)-(no:Int)))=((n-no:Nat):Int):=by rw [Ar (by omega) (by omega),wrap_i64 (by omega) (by omega)];omega
 rw [en,wrap_i64 (n:=((l.getD 0 0).toNat:Int)) (by omega) (by omega),AnF,<- AnC (i:=at3) (l:=l)];refine (PF ((l.getD 0 0).toNat:Int) me (by rw [AnC];omega) (by rw [AnC];omega) (n:=n-no) (by omega)).mono ?_;rintro _ cX ⟨_,rfl,vs,zJ,zS,ok,rfl,vL,eB,nW,sM,hD⟩;have nz:=Ac C9 eB;have lh:∀ K ls,Kc K ls l->ok=true/\vs=AP ls:=by
  intro K ls hp;obtain⟨_,_,o,q,ho⟩:=qJ K ls hp;have iK:=(eD K ls hp).2.1;have kN:=(hP2 K ls hp).2.1;have y8:=Aad ls;refine hD ls (by rw [q.kind];exact hp.F9) (by omega) (λ h=>?_) (λ h=>?_)
  ·rw [q.kind,ho];exact q.oth (by omega)
  ·rw [ho];exact q.none (by omega)
 refine⟨_,_,_,_,rfl,Au (λ h=>Kd.bad nz λ K ls hp=>h (qJ K ls hp).1) (λ he=>A5 (AU (λ ar=>?_) (λ ar=>Kd.bad nz λ K ls hp=>?_)))⟩
 case refine_2 =>
  have:=(lh K ls hp).1;rw [this] at ar;cases ar
 refine (RB ((xF.grown B9).grown eB) vL cI nW sM).mono ?_;rintro _ aW ⟨_,rfl,os,pL,pP,yr,rfl,vM,dO,dt,iu,hS⟩;have o5:=Ac nz dO;obtain⟨p',bj,hcell'⟩:=GA (hl.grown o5) h0;cases bj;refine⟨_,_,_,_,rfl,⟨by omega,by omega⟩,_,hcell',?_⟩;rw [wrap_i64 (n:=((l.getD 0 0).toNat:Int)) (by omega) (by omega)];refine⟨_,os,pL,pP,yr,rfl,vM.before nz,o5,dt,iu,λ K ls hp=>?_⟩;obtain⟨_,hbits,o,q,_⟩:=qJ K ls hp;obtain⟨s1,s2⟩:=hS ls hbits (lh K ls hp).2 hp.F9.null;exact⟨s1,q.kind,s2⟩
end
theorem L8.read{K:Int}{ls:List Ax}{b:List UInt8}(hg:Bi K ls)(h:L8 K ls b):Kc K ls (b.take (b.length-4))/\5<=b.length/\b=b.take (b.length-4)++Ye (crc (b.take (b.length-4))):=by
 obtain⟨o,h1,h2,rfl⟩:=h.ex;have hs:∀ x,(Ye x).length=4:=λ x=>rfl;have jQ:1<=(Fo K ls).length:=by simp [Fo]
 have e:(Fo K ls++Em ls++o++Ye (crc (Fo K ls++Em ls++o))).take ((Fo K ls++Em ls++o++Ye (crc (Fo K ls++Em ls++o))).length-4)=Fo K ls++Em ls++o:=by
  rw [Anp,hs,Nat.add_sub_cancel,List.take_left]
 rw [e];refine⟨⟨hg,o,h1,h2,rfl⟩,?_,rfl⟩;simp only [Anp,hs];omega
def Abi(l:List UInt8)(w w':World)(v:Value):Prop :=
 ∃(K:Int) (ls:List Ax) (a:Option Addr) (c:Nat) (e:Int),v=.tuple #[.int .i64 K,.slice a ls.length c,.int .i64 e]/\RdN w w' a (AW ls)/\Below w.heap.size w w'/\ls.length<=4096 /\
  ((Bi K ls/\L8 K ls l/\e=0/\∀ K' dA,Bi K' dA->L8 K' dA l->K'=K/\dA=ls)\/((∀ K' dA,Bi K' dA->¬ L8 K' dA l)/\K=0/\ls=[]/\e=80))
theorem Abi.bad{l:List UInt8}{w w':World}(hb:Below w.heap.size w w')(h:∀ K' dA,Bi K' dA->¬ L8 K' dA l):Abi l w w' (.tuple #[.int .i64 0,.slice none 0 0,.int .i64 80]) :=
 ⟨0,[],none,0,80,rfl,RdN.nil _ _,hb,by simp,.inr ⟨h,rfl,rfl,rfl⟩⟩
section
variable {w:World}{a:Option Addr}{c:Nat}{l:List UInt8}
theorem Rz(hl:Rd w a (l.map Af))(hc:l.length<=c)(hs:l.length<=9223372036854775807) :
  Calls Tryz.prog f.W0 #[.slice a l.length c] w (AB λ v w'=>Abi l w w' v):=by
 apply R.MX
 delta R.AcR R.BL R.Cb R.F R.H R.I R.O R.S R.W R.Y;try dsimp only [R.Ps]
 refine Aa (λ h=>Abi.bad (.refl _ _) λ K ls hg hC=>by have:=(hC.read hg).2.1;omega) (λ aL=>?_);rw [wrap_i64 (n:=(l.length:Int)-4) (by omega) (by omega),show ((l.length:Int)-4).toNat=l.length-4 by omega];refine⟨⟨by omega,by omega,by omega⟩,?_⟩;have bm:=hl.Yr 0 (l.length-4) c 1 (by omega);rw [AnI,AoV,AnI,List.drop_zero,<- List.map_take] at bm;have aB:(l.take (l.length-4)).length=l.length-4:=by rw [Anw];omega
 have hR:=U5 (c:=c) bm (by omega) (by omega);rw [aB] at hR;rw [AoV,AoV];refine hR.mono ?_;rintro _ w1 ⟨_,rfl,K,os,a1,c1,ok,rfl,R1,B1,dt,iu,hP⟩;refine⟨_,_,_,_,_,rfl,(JK K R1.rd (by omega) iu).mono ?_⟩;rintro _ w2 ⟨_,rfl,h2⟩;obtain⟨b2,a2,c2,e2,rfl,R2,B2,q2⟩:=h2.open;have C2:=Ac B1 B2;have key:∀ K' dA,Bi K' dA->L8 K' dA l->ok=true/\K=K'/\os=dA:=λ K' dA hg hC=>hP K' dA (hC.read hg).1;refine⟨_,_,_,_,rfl,A5 (AU (λ ar=>?_) (λ ar=>Abi.bad C2 λ K' dA hg hC=>?_))⟩
 case refine_2 =>
  have:=(key K' dA hg hC).1;rw [this] at ar;cases ar
 rcases q2 with ⟨hr,hI,rfl⟩ | ⟨hr,rfl,rfl⟩
 ·refine Au (λ h=>absurd rfl h) (λ _=>(GO R2 (hl.grown C2)).mono ?_);rintro _ w3 ⟨_,rfl,rfl,rfl⟩;refine⟨_,rfl,A5 (Aa (λ he=>?_) (λ he=>Abi.bad C2 λ K' dA hg hC=>?_))⟩
  ·subst he;refine⟨K,os,a1,c1,0,rfl,R1.grown B2,C2,dt,.inl ⟨⟨hr,iu⟩,hI,rfl,λ K' dA hg hC=>?_⟩⟩;obtain⟨_,e1,e2⟩:=key K' dA hg hC;exact⟨e1.symm,e2.symm⟩
  ·obtain⟨_,rfl,rfl⟩:=key K' dA hg hC;exact he (hI.one hC)
 ·refine Au (λ _=>Abi.bad C2 λ K' dA hg hC=>?_) (λ h=>absurd h (by decide));obtain⟨_,rfl,rfl⟩:=key K' dA hg hC;rw [hg.right] at hr;cases hr
theorem Ajx(u v:Ax):((u.1==v.1) && ((u.2.1==v.2.1) && ((u.2.2==v.2.2) && true)))=decide (u=v):=by
 obtain⟨a,b,s⟩:=u;obtain⟨c,d,t⟩:=v;rw [Bool.eq_iff_iff];simp [NY]
end
end Go.Proofs.YtoepjfblppfabaaGreatDoor

namespace Go.Proofs.YtoepjfblppfabaaGreatDoor
open _root_.Bool renaming and_eq_true -> Ana
open _root_.Int renaming fdiv -> AoK, toNat_natCast -> AnF
open _root_.List renaming append_assoc -> AnA, drop_left -> AoL, drop_zero -> Ao0, ext_getElem -> AoY, flatten_cons -> Aoq, getD -> AoX, getElem?_append_right -> Ao1, getElem?_eq_getElem -> AnB, getElem_mem -> Aot, length -> AoO, length_append -> Anp, length_cons -> AnQ, length_drop -> AnC, length_map -> AnS, length_nil -> AoJ, length_take -> Anw, map_append -> Aov, map_cons -> Aoe, map_drop -> AoZ, map_take -> AoW, mem_append -> Aow, mem_cons -> Anh, mem_map -> Ang, range -> AnY, replicate -> AnP, take_left -> Ant, take_of_length_le -> Aoy, take_succ_eq_append_getElem -> Aou
open _root_.Nat renaming le_refl -> AnD, mul_one -> AnI, sub_self -> Ao2, sub_zero -> AoV
open _root_.Option renaming map_eq_some_iff -> Aok, map_some -> Aoc
open _root_.Option.some renaming inj -> Aoj, injEq -> An8
open _root_.Prod.mk renaming injEq -> AnO
open _root_.UInt8 renaming ofNat -> AnG
set_option maxRecDepth 100000
open Go.Dn Go.Proofs
open Go.RowKit (Below)
set_option linter.unusedVariables false
section
variable {w:World}{a:Option Addr}{c:Nat}{l:List UInt8}
end
section
variable {w:World}{a:Option Addr}{c:Nat}{l:List UInt8}
end
section
variable {w:World}{ab a:Option Addr}{cb c:Nat}{bits:List Nat}{l:List UInt8}
end
section
variable {w:World}{a:Option Addr}{c:Nat}{l:List UInt8}
end
abbrev AV:=Option Addr × Nat × List Ax
def Bl(p:AV):Value:=.slice p.1 p.2.2.length p.2.1
abbrev rws(ps:List AV):List (List Ax):=ps.map (·.2.2)
structure Bc(w:World)(a:Option Addr)(ps:List AV):Prop where
 top:Rd w a (ps.map Bl)
 each:∀ p∈ps,Rd w p.1 (AW p.2.2)
theorem Bc.grown{w w':World}{a:Option Addr}{ps:List AV}(h:Bc w a ps)(B:Below w.heap.size w w'):Bc w' a ps:=⟨h.top.grown B,λ p hp=>(h.each p hp).grown B⟩
theorem Bc.at{w:World}{a:Option Addr}{ps:List AV}(h:Bc w a ps){i:Nat}(hi:i<ps.length):∃ q,a=some q/\w.cell? (q.add (i*1))=some (.slice ps[i].1 ps[i].2.2.length ps[i].2.1)/\Rd w ps[i].1 (AW ps[i].2.2):=by
 obtain⟨q,hq,hc⟩:=h.top i (Bl ps[i]) (by simp [hi]);exact⟨q,hq,by rw [AnI];exact hc,h.each _ (Aot hi)⟩
def Bk(rows:List (List Ax))(c:Nat):List Ax:=rows.map λ r=>r.getD c Z0
theorem LU(rows:List (List Ax))(c:Nat):(Bk rows c).length=rows.length:=by simp [Bk]
theorem Abv(ps:List AV){c i:Nat}(hi:i<ps.length)(hc:c<ps[i].2.2.length):Bk (rws (ps.take (i+1))) c=Bk (rws (ps.take i)) c++[ps[i].2.2[c]]:=by
 unfold Bk rws;rw [Aou hi,Aov,Aov];simp only [Aoe,List.map_nil,AoX,AnB hc,Option.getD_some]
def Fe(a:Option Addr)(c:Nat)(vs:List Ax):It:=It.row ty.AD 3 a vs.length c (AW vs)
section
variable {w0 w:World}{H:List It}{a:Option Addr}{c:Nat}{vs:List Ax}
theorem AjY(S:ST w0 w H)(n:Nat)(hn:H[n]?=some (Fe a c vs)):Rd w a (AW vs):=S.rd n hn
theorem Ya(S:ST w0 w H)(n:Nat){t:TypeId}(ht:Ia Tryz.prog t=some (ty.AD,3,32,.agg #[.int .i64 0,.int .i64 0,.string ⟨#[]⟩]))(hn:H[n]?=some (Fe a c vs)){x:Ax}{b:Nat}(hs:Rd w (some ⟨b,0,none⟩) (Hs x))(hl:vs.length+1<=1000000){f:Value->World->Prop}
  (hf:∀ a' c' w',ST w0 w' (H.set n (Fe a' c' (vs++[x])))->f (.slice a' (vs++[x]).length c') w') :
  CD Tryz.prog (Builtin.append_ #[t,t] t #[.slice a vs.length c,.slice (some ⟨b,0,none⟩) 1 1]) f w:=by
 refine S.app n hn ht rfl (by omega) (by omega) hs (mm:=1) rfl (by simp [Hs];exact⟨rfl,rfl,rfl⟩) (by omega) λ a' c' w' S'=>?_;have e1:(vs++[x]).length=vs.length+1:=by simp
 have e2:AW vs++Hs x=AW (vs++[x]):=by simp [AW]
 rw [e2] at S';have:=hf a' c' w' (by unfold Fe;rw [e1];exact S');rwa [e1] at this
end
section
variable {w:World}{a:Option Addr}{c:Nat}{ps:List AV}
theorem LB{a2:Option Addr}{c2 n:Nat}:Calls Tryz.prog f.O7 #[.slice a2 n c2,.slice a ps.length c] w (AB λ v w'=>∃ b1 b2,v=.func (.func f.FY) #[] #[.pointer (some ⟨b1,0,none⟩),.pointer (some ⟨b2,0,none⟩)] /\
  ST w w' [It.cells b2 #[.slice a ps.length c] ty.Ig,It.cells b1 #[.slice a2 n c2] ty.Ck]):=by
 apply R.IE
 delta R.J R.N R.P R.S;try dsimp only [R.Ps]
 exact (ST.start w).Aj λ b1 w1 _ _ S1=>S1.Aj λ b2 w2 _ _ S2=>⟨b1,b2,rfl,S2⟩
theorem Ry{L b1 b2 n c2:Nat}{a2:Option Addr}(hn:n<=9223372036854775807)(hm:ps.length<=900000)(hk:∀ p∈ps,p.2.2.length=n)(J:Nat->World->Prop)(aU:∀ k w,J k w->Bc w a ps/\w.cell? ⟨b2,0,none⟩=some (.slice a ps.length c))
  (bu:∀ k w w',J k w->Below w.heap.size w w'->J k w') (bD:∀ k w la lc,k<n->J k w->Rd w la (AW (Bk (rws ps) k))->GJ Tryz.prog L #[.int .i64 (k:Int),.slice la ps.length lc] (λ y w'=>y=true/\J (k+1) w') w)
  (h0:J 0 w) (hb:w.cell? ⟨b1,0,none⟩=some (.slice a2 n c2)) :
  Calls Tryz.prog f.FY #[.func (.yield L) #[] #[],.pointer (some ⟨b1,0,none⟩),.pointer (some ⟨b2,0,none⟩)] w (AB λ _ w'=>J n w'):=by
 apply R.Hb
 delta R.A R.Ad R.F R.H R.I R.J R.Ks R.Li R.Ls R.Lt R.N R.O R.Qi R.Hz R.S R.T R.W R.X;try dsimp only [R.Ps]
 refine⟨_,_,_,hb,λ s w1=>∃ k:Nat,k<=n/\s=[.int .i64 (k:Int)]/\J k w1,λ s _=>match s with
   | [.int _ i]=>n-i.toNat
   | _=>0,⟨0,by omega,rfl,h0⟩,?_⟩
 rintro _ w1 ⟨k,cM,aA,hj⟩;cases aA;refine Aa (λ aB=>?_) (λ aL=>?_)
 ·have aq:k<n:=by omega
  refine⟨_,_,_,(aU _ _ hj).2,?_⟩;refine⟨λ s w2=>∃(i:Nat) (oa:Option Addr) (oc:Nat) (os:List Ax),s=[.slice oa os.length oc,.int .i64 (i:Int)]/\i<=ps.length/\os=Bk (rws (ps.take i)) k/\ST w1 w2 [Fe oa oc os],λ s _=>match s with
   | [_,.int _ i]=>ps.length-i.toNat
   | _=>0,⟨0,none,0,[],rfl,by omega,rfl,(ST.start w1).nil _ _⟩,?_⟩
  rintro oa _ oc _ w2 ⟨i,_,_,os,aA,hi,ho,S⟩;cases aA;have dt:os.length=i:=by rw [ho,LU];simp;omega
  refine Aa (λ aB=>⟨⟨by omega,aB⟩,?_⟩) (λ aL=>?_)
  ·have aF:i<ps.length:=by omega
   have ej:k<ps[i].2.2.length:=by rw [hk _ (Aot aF)];exact aq
   obtain⟨q,rfl,hq,hv⟩:=((aU _ _ hj).1.grown S.An).at aF;obtain⟨p,hp,c0,c1,c2⟩:=FG hv ej;refine⟨_,_,_,by rw [AnF];exact hq,⟨by omega,by omega⟩,?_⟩;rw [hp];refine⟨_,by rw [AnF];exact c0,_,by rw [AnF];exact c1,_,by rw [AnF];exact c2,S.Aj λ eQ w2 _ _ S=>?_⟩;have aZ:Rd w2 (some ⟨eQ,0,none⟩) (Hs ps[i].2.2[k]):=S.rdc 0 rfl;refine Ya S 1 AdN rfl aZ (by omega) λ a3 c3 w3 S=>⟨_,_,_,rfl,?_⟩;rw [Ai (by omega)];refine⟨⟨i+1,a3,c3,_,rfl,by omega,by rw [Abv ps aF ej,ho],S.drop 1⟩,?_⟩;show ps.length-((i+1:Nat):Int).toNat<ps.length-((i:Nat):Int).toNat;simp only [AnF];omega
  ·have cL:i=ps.length:=by omega
   rw [Aoy (by omega)] at ho;subst ho;rw [dt,cL,Ai (by omega)];refine (bD k w2 oa oc aq (bu _ _ _ hj S.An) (AjY S 0 rfl)).mono ?_;rintro y w3 ⟨rfl,h⟩;refine Aw ⟨⟨k+1,by omega,rfl,h⟩,?_⟩;show n-((k+1:Nat):Int).toNat<n-((k:Nat):Int).toNat;simp only [AnF];omega
 ·have:k=n:=by omega
  subst this;exact hj
end
structure DN(cs:List A0)(rows:List (List Ax)):Prop where
 right:Ao cs=true
 len:rows.length<=1024
 fits:∀ r∈rows,Ek cs r=true
 ok:∀ r∈rows,∀ v∈r,Eb v
section
variable {cs:List A0}{rows:List (List Ax)}
theorem ZD{r:List Ax}(h:Ek cs r=true):r.length=cs.length:=by
 simp only [Ek,Ana,decide_eq_true_eq] at h;exact h.1
theorem Ade{r:List Ax}(h:Ek cs r=true){k:Nat}(h1:k<cs.length)(h2:k<r.length):Om cs[k] r[k]=true:=by
 simp only [Ek,Ana,ZC,List.all_eq_true] at h;exact h.2 (cs[k],r[k]) (List.mem_iff_getElem.2 ⟨k,by simp;omega,by simp⟩)
theorem DN.XT(h:DN cs rows){r:List Ax}(hr:r∈rows):r.length=cs.length:=ZD (h.fits r hr)
theorem DN.F9(h:DN cs rows){k:Nat}(hk:k<cs.length):Bi cs[k].2.1 (Bk rows k):=by
 have key:∀ v∈Bk rows k,okV cs[k].2.1 v=true/\Eb v:=by
  intro v hv;obtain⟨r,hr,rfl⟩:=Ang.1 hv;have hl:=h.XT hr;have ky:k<r.length:=by omega
  have e:r.getD k Z0=r[k]:=by simp [AoX,ky]
  rw [e];refine⟨?_,h.ok r hr _ (Aot ky)⟩;have:=Ade (h.fits r hr) hk ky;simp only [Om,Ana,Bool.or_eq_true,decide_eq_true_eq] at this;simp only [okV,Ana,Bool.or_eq_true,decide_eq_true_eq];exact⟨this.1,this.2.imp id λ h=>h.2⟩
 obtain⟨_,h1,h2,_⟩:=EH h.right (Aot hk);refine⟨?_,λ v hv=>(key v hv).2⟩;have h3:(Bk rows k).all (okV cs[k].2.1)=true:=List.all_eq_true.2 λ v hv=>(key v hv).1;have h4:1<=cs[k].2.1/\cs[k].2.1<=3/\(Bk rows k).length<=1024:=⟨h1,h2,by rw [LU];exact h.len⟩;simp [DU,h3,h4]
end
theorem Ajz{P:Ax->Prop}{ls:List Ax}(h0:P Z0)(h:∀ v∈ls,P v):P (Ht ls).1/\P (Ht ls).2:=by
 have key:∀ i,i<=ls.length->∀ p,LP (ls.take i)=some p->P p.1/\P p.2:=by
  intro i
  induction i with
  | zero=>intro _ p hp;simp [LP] at hp
  | succ i ih =>
   intro hi p hp;have aF:i<ls.length:=by omega
   have hm:=h _ (Aot aF);rw [JI aF] at hp;unfold WJ at hp;split at hp
   ·exact ih (by omega) p hp
   ·split at hp
    ·cases hp;exact⟨hm,hm⟩
    ·rename_i q hq;obtain⟨q1,q2⟩:=ih (by omega) q hq;cases hp;refine⟨?_,?_⟩
     ·show P (if _ then _ else _);split
      ·exact hm
      ·exact q1
     ·show P (if _ then _ else _);split
      ·exact hm
      ·exact q2
 unfold Ht;cases hz:LP ls with
 | none=>exact⟨h0,h0⟩
 | some p =>
  have:=key ls.length (AnD _) p (by rw [List.take_length];exact hz);exact this
theorem Bi.Ahi{k:Int}{ls:List Ax}(h:Bi k ls):∀ v∈ls,AL v=true/\Eb v:=by
 intro v hv;have:=h.all v hv;simp only [okV,Ana] at this;exact⟨this.1,h.ok v hv⟩
theorem Bi.AfC{k:Int}{ls:List Ax}(h:Bi k ls):(AL (Ht ls).1=true/\Eb (Ht ls).1)/\(AL (Ht ls).2=true/\Eb (Ht ls).2) :=
 Ajz (P:=λ v=>AL v=true/\Eb v) ⟨by decide,Aa1 (by decide) (by decide)⟩ h.Ahi
theorem Bi.LO{k:Int}{ls:List Ax}(h:Bi k ls):LO ls:=⟨h.len,λ v hv=>(h.Ahi v hv).1⟩
theorem OD{v:Ax}(h:AL v=true)(hv:Eb v):(FU v).length<=1040:=by
 unfold FU;split
 ·have:=Aq (HP hv.lo hv.hi);simp only [AnQ];omega
 ·split
  ·simp
  ·split
   ·rename_i h3;have hs:v.2.2.size<=1024:=by
     rcases G7 h with h | h | ⟨h,_⟩ | ⟨_,h⟩
     ·omega
     ·omega
     ·omega
     ·exact h
    have:=WC hs;simp only [AnQ];omega
   ·simp
theorem L8.len{k:Int}{ls:List Ax}{b:List UInt8}(hg:Bi k ls)(h:L8 k ls b):b.length<=2000300:=by
 obtain⟨o,h1,h2,rfl⟩:=h.ex;have hs:∀ x,(Ye x).length=4:=λ x=>rfl;have e1:=V4 hg;have e2:=Qa hg;have e3:o.length<=2000000:=by
  by_cases hn:Av ls<ls.length
  ·exact (h1 hn).len hg
  ·rw [h2 hn];simp
 simp only [Anp,hs];omega
def RU(n:Nat):List UInt8:=[AnG (n % 256),AnG (n / 256 % 256),AnG (n / 65536 % 256),AnG (n / 16777216 % 256)]
def DS:List UInt8:=[83,89,68,49]
def Ku(x:List UInt8)(l:List Ax):List UInt8:=Ag x.length++Ag (Av l)++FU (Ht l).1++FU (Ht l).2
def DP(rows:List (List Ax))(xs:List (List UInt8)):List UInt8:=(xs.mapIdx λ i x=>Ku x (Bk rows i)).flatten
theorem ZG(rows:List (List Ax))(xs:List (List UInt8))(x:List UInt8):DP rows (xs++[x])=DP rows xs++Ku x (Bk rows xs.length):=by
 unfold DP;rw [List.mapIdx_concat];simp
def Ed(cs:List A0)(rows:List (List Ax))(xs:List (List UInt8)):List UInt8:=Fh cs++Ag rows.length++DP rows xs
def Mi(cs:List A0)(rows:List (List Ax))(xs:List (List UInt8)):List UInt8:=DS++xs.flatten++Ed cs rows xs++RU (Ed cs rows xs).length
def MJ(p:List UInt8):List UInt8:=p++RF p
structure DM(cs:List A0)(rows:List (List Ax))(xs:List (List UInt8)):Prop where
 len:xs.length<=cs.length
 each:∀ i (h1:i<cs.length) (h2:i<xs.length),L8 cs[i].2.1 (Bk rows i) xs[i]
theorem DM.nil(cs:List A0)(rows:List (List Ax)):DM cs rows []:=⟨by simp,λ i _ h=>by simp at h⟩
theorem DM.snoc{cs:List A0}{rows:List (List Ax)}{xs:List (List UInt8)}(h:DM cs rows xs){x:List UInt8}(h1:xs.length<cs.length)(hx:L8 cs[xs.length].2.1 (Bk rows xs.length) x):DM cs rows (xs++[x]):=by
 refine⟨by simp;omega,λ i g1 g2=>?_⟩;rcases Nat.lt_or_ge i xs.length with h3 | h3
 ·rw [List.getElem_append_left h3];exact h.each i g1 h3
 ·have:i=xs.length:=by simp at g2;omega
  subst this;simp only [List.getElem_concat_length];exact hx
theorem DM.one{cs:List A0}{rows:List (List Ax)}{xs ys:List (List UInt8)}(h:DM cs rows xs)(h':DM cs rows ys)(hl:xs.length=ys.length):xs=ys:=by
 refine AoY hl λ i h1 h2=>?_;have:=h.len;exact (h.each i (by omega) h1).one (h'.each i (by omega) h2)
theorem TH{xs:List (List UInt8)}{m:Nat}(h:∀ x∈xs,x.length<=m):xs.flatten.length<=xs.length*m:=by
 induction xs with
 | nil=>simp
 | cons x xs ih =>
  have h1:=h x (by simp);have h2:=ih λ y hy=>h y (by simp [hy]);simp only [Aoq,Anp,AnQ,Nat.add_mul];omega
theorem AeA{k:Int}{x:List UInt8}{l:List Ax}(hg:Bi k l)(hx:x.length<=2000300):(Ku x l).length<=2100:=by
 have h1:=Aq (n:=x.length) (by omega);have h2:=Aq (n:=Av l) (by have:=EG l;have:=hg.len;omega);have h3:=OD hg.AfC.1.1 hg.AfC.1.2;have h4:=OD hg.AfC.2.1 hg.AfC.2.2;simp only [Ku,Anp];omega
section
variable {cs:List A0}{rows:List (List Ax)}{xs:List (List UInt8)}
theorem DM.lens(h:DM cs rows xs)(hs:DN cs rows):∀ x∈xs,x.length<=2000300:=by
 intro x hx;obtain⟨i,hi,rfl⟩:=List.getElem_of_mem hx;have:=h.len;exact (h.each i (by omega) hi).len (hs.F9 (by omega))
theorem DM.flat(h:DM cs rows xs)(hs:DN cs rows):xs.flatten.length<=33000000:=by
 have h1:=TH (h.lens hs);have h2:=h.len;have h3:=Be hs.right;have:xs.length*2000300<=16*2000300:=Nat.mul_le_mul_right _ (by omega);omega
theorem DM.AjJ(h:DM cs rows xs)(hs:DN cs rows):(DP rows xs).length<=34000:=by
 have h1:(DP rows xs).length<=(xs.mapIdx λ i x=>Ku x (Bk rows i)).length*2100:=by
  refine TH λ x hx=>?_;obtain⟨i,hi,rfl⟩:=List.mem_mapIdx.1 hx;have:=h.len;exact AeA (hs.F9 (by omega:i<cs.length)) (h.lens hs _ (Aot hi))
 rw [List.length_mapIdx] at h1;have h2:=h.len;have h3:=Be hs.right;omega
theorem DM.Xs(h:DM cs rows xs)(hs:DN cs rows):(Ed cs rows xs).length<=35000:=by
 have h1:=h.AjJ hs;have h2:=AaB hs.right;have h3:=Aq (n:=rows.length) (by have:=hs.len;omega);simp only [Ed,Anp];omega
theorem DM.Ahe(h:DM cs rows xs)(hs:DN cs rows):(Mi cs rows xs).length<=34000000:=by
 have h1:=h.Xs hs;have h2:=h.flat hs;simp only [Mi,Anp,DS,RU,AnQ,AoJ];omega
end
structure HB(cs:List A0)(rows:List (List Ax))(b:List UInt8):Prop where
 ex:∃ xs,xs.length=cs.length/\DM cs rows xs/\b=MJ (Mi cs rows xs)
theorem HB.one{cs:List A0}{rows:List (List Ax)}{b b':List UInt8}(h:HB cs rows b)(h':HB cs rows b'):b=b':=by
 obtain⟨xs,h1,h2,rfl⟩:=h.ex;obtain⟨ys,k1,k2,rfl⟩:=h'.ex;rw [h2.one k2 (by omega)]
def AcA(cs:List A0)(rows:List (List Ax)):Int:=if Ao cs=false then 50 else if 1024<rows.length\/∃ r∈rows,Ek cs r=false then 51 else 0
def AlL(cs:List A0)(rows:List (List Ax))(v:Value):Prop :=
 (¬ DN cs rows/\v=.tuple #[.string ⟨#[]⟩,.int .i64 (AcA cs rows)]/\AcA cs rows≠0)\/(DN cs rows/\∃ b,v=.tuple #[.string (CA b),.int .i64 0]/\HB cs rows b)
theorem Ams:Tryz.prog.underlying ty.AA=some (.slice ty.uint8):=by kernel_rfl
theorem Alo:Tryz.prog.underlying ty.uint8=some (.int .u8):=by kernel_rfl
theorem YA(l:List UInt8){n:Nat}{f:List Value->Prop}(hn:l.length=n)(h:f (l.map Af)):Gn (AnP n (.int .u8 0)) f :=
 IQ .u8 (l.map uI) (by simpa using hn) (by rw [<- LX];exact h)
def Aii(a:Option Addr)(c:Nat)(l:List UInt8):It:=It.buf ty.uint8 1 a l.length c (l.map Af)
section
variable {w0 w:World}{H:List It}{a:Option Addr}{c:Nat}{l:List UInt8}
theorem Ak9(S:ST w0 w H)(n:Nat)(hn:H[n]?=some (Aii a c l)){m:List UInt8}{b:Option Addr}{mc:Nat}(hs:Rd w b (m.map Af))(h0:0<m.length)(hl:l.length+m.length<=140737488355328){f:Value->World->Prop}
  (hf:∀ a' c' w',ST w0 w' (H.set n (Fx a' c' (l++m)))->f (.slice a' (l++m).length c') w') :
  CD Tryz.prog (Builtin.append_ #[ty.AA,ty.AA] ty.AA #[.slice a l.length c,.slice b m.length mc]) f w:=by
 refine S.AmE n hn tB zB (by omega) (by omega) hs (mm:=m.length) (by simp) h0 (Ik _) (by omega) λ a' c' w' S'=>?_;have e1:(l++m).length=l.length+m.length:=by simp
 rw [<- Aov] at S';have:=hf a' c' w' (by unfold Fx;rw [e1];exact S');rwa [e1] at this
theorem Ajl(S:ST w0 w H)(n:Nat)(hn:H[n]?=some (Fx a c l)):ST w0 w (H.set n (Aii a c l)):=S.IM n hn (.refl _ _) _ (.inl (S.get n hn)) (λ k hk=>.inl hk)
theorem Ala(S:ST w0 w H)(n:Nat)(hn:H[n]?=some (Fx a c l)){m:List UInt8}{k:Nat}(hk:m.length=k){b:Option Addr}{mc:Nat}(hs:Rd w b (m.map Af))(hl:l.length+m.length<=140737488355328){f:Value->World->Prop}
  (hf:∀ a' c' w',ST w0 w' (H.set n (Fx a' c' (l++m)))->f (.slice a' (l++m).length c') w') :
  CD Tryz.prog (Builtin.append_ #[ty.AA,ty.AA] ty.AA #[.slice a l.length c,.slice b k mc]) f w:=by
 subst hk;exact Ahz S n hn hs hl hf
end
section
variable {w:World}{a a2:Option Addr}{c c2:Nat}{cs:List A0}{ps:List AV}
theorem Uy(n:Nat)(hn:n<4294967296):Calls Tryz.prog f.AaH #[.int .i64 (n:Int)] w (AB λ v w'=>∃ b,v=.slice (some ⟨b,0,none⟩) 4 4/\Dh w w' (RU n) (some ⟨b,0,none⟩) 4):=by
 apply R.O8
 delta R.B R.J R.N R.S R.Wb;try dsimp only [R.Ps]
 refine (ST.start w).Aj λ b w1 hb B S=>⟨b,rfl,?_⟩;have sh:∀ k,AoK (n:Int) (2 ^ k)=((n / 2 ^ k:Nat):Int):=λ k=>by
  rw [Int.fdiv_eq_ediv_of_nonneg _ (Int.pow_nonneg (by decide))]
  norm_cast
 have by_:∀ m:Nat,Value.int .u8 (IntKind.u8.wrap (m:Int))=Af (AnG (m % 256)):=λ m=>by
  rw [wrap_u8,<- DO (x:=m % 256) (by omega)];congr 1
 have e:(#[Value.int .u8 (IntKind.u8.wrap (n:Int)),.int .u8 (IntKind.u8.wrap (AoK (n:Int) (2 ^ (min 8 64)))),.int .u8 (IntKind.u8.wrap (AoK (n:Int) (2 ^ (min 16 64)))),.int .u8 (IntKind.u8.wrap (AoK (n:Int) (2 ^ (min 24 64))))]:Array Value)=((RU n).map Af).toArray:=by
  rw [show min 8 64=8 from rfl,show min 16 64=16 from rfl,show min 24 64=24 from rfl,sh,sh,sh,by_,by_,by_,by_];rfl
 rw [e] at S;have hg:=S.CK 0 rfl;exact⟨⟨rfl,.inr ⟨b,_,rfl,hg,AnD _,by decide,rfl,rfl⟩⟩,λ k hk=>by cases hk;exact hb,B⟩
theorem YR{b:Nat}{r:List Ax}{ra:Option Addr}{rc:Nat}(hc:w.cell? ⟨b,0,none⟩=some (.slice a cs.length c))(hl:Rd w a (A9 cs))(hn:cs.length<=9223372036854775807)(hq:∀ c∈cs,c.1.size<=9223372036854775807)(hr:Rd w ra (AW r)) :
  Calls Tryz.prog f.D5 #[.slice ra r.length rc,.pointer (some ⟨b,0,none⟩)] w (AB λ v w'=>v=.bool (!(Ao cs && Ek cs r))/\Below w.heap.size w w'):=by
 apply R.Jx
 delta R.A R.Cb R.G R.Ls R.S;try dsimp only [R.Ps]
 refine⟨_,_,_,hc,(Lw hl hn hq hr).mono ?_⟩;rintro _ w1 ⟨_,rfl,rfl,B⟩;exact⟨_,rfl,rfl,B⟩
theorem WO{b:Nat}(hc:w.cell? ⟨b,0,none⟩=some (.slice a cs.length c))(hl:Rd w a (A9 cs))(hn:cs.length<=9223372036854775807)(hq:∀ c∈cs,c.1.size<=9223372036854775807)(hr:Bc w a2 ps)(hm:ps.length<=900000) :
  Calls Tryz.prog f.CO #[.slice a2 ps.length c2,.func (.func f.D5) #[] #[.pointer (some ⟨b,0,none⟩)]] w (AB λ v w'=>∃ z:Int,v=.int .i64 z/\Below w.heap.size w w'/\(0<=z↔∃ r∈rws ps,(Ao cs && Ek cs r)=false)):=by
 apply R.BS
 delta R.Ad R.F R.G R.I R.Ls R.Qi R.S R.W R.X;try dsimp only [R.Ps]
 refine⟨λ st w2=>∃ i:Nat,st=[.int .i64 (i:Int)]/\i<=ps.length/\(∀ r∈rws (ps.take i),(Ao cs && Ek cs r)=true)/\Below w.heap.size w w2,λ st _=>match st with | [.int _ t]=>ps.length-t.toNat | _=>0,⟨0,rfl,by omega,by simp,.refl _ _⟩,?_⟩;rintro t w2 ⟨i,aA,hi,aE,B2⟩;cases aA;refine Aa (λ aB=>⟨⟨by omega,aB⟩,?_⟩) (λ aL=>⟨_,rfl,B2,?_⟩)
 ·have aF:i<ps.length:=by omega
  obtain⟨q,rfl,hq1,hv⟩:=(hr.grown B2).at aF;have cR:w2.cell? ⟨b,0,none⟩=some (.slice a cs.length c):=(Ae.Al (F:=λ _=>False) B2).cell hc (by simp);refine⟨_,_,_,by rw [AnF];exact hq1,?_⟩;rw [show enters Tryz.prog f.D5=true by kernel_rfl];refine (YR cR (hl.grown B2) hn hq hv).mono ?_;rintro _ w3 ⟨_,rfl,rfl,B3⟩;refine⟨_,rfl,A5 (AU (λ hf=>?_) (λ hf=>?_))⟩
  ·rw [Ai (by omega)];refine⟨⟨i+1,rfl,by omega,λ r hr=>?_,Ac B2 B3⟩,?_⟩
   ·simp only [rws,Ang] at hr;obtain⟨p,hp,rfl⟩:=hr;rw [Aou aF] at hp;rcases Aow.1 hp with h | h
    ·exact aE _ (Ang.2 ⟨p,h,rfl⟩)
    ·rw [List.mem_singleton.1 h];exact hf
   ·show ps.length-((i+1:Nat):Int).toNat<ps.length-((i:Nat):Int).toNat;simp only [AnF];omega
  ·exact⟨_,rfl,Ac B2 B3,⟨λ _=>⟨_,Ang.2 ⟨ps[i],Aot aF,rfl⟩,hf⟩,λ _=>by omega⟩⟩
 ·rw [Aoy (by omega)] at aE;constructor
  ·intro h;omega
  ·rintro⟨r,hr,hf⟩;rw [aE r hr] at hf;cases hf
theorem Rw{b:Nat}(hc:w.cell? ⟨b,0,none⟩=some (.slice a cs.length c))(hl:Rd w a (A9 cs))(hn:cs.length<=9223372036854775807)(hq:∀ c∈cs,c.1.size<=9223372036854775807)(hr:Bc w a2 ps)(hm:ps.length<=900000) :
  Calls Tryz.prog f.Cq #[.slice a2 ps.length c2,.func (.func f.D5) #[] #[.pointer (some ⟨b,0,none⟩)]] w (AB λ v w'=>∃ z:Bool,v=.bool z/\Below w.heap.size w w'/\(z=true↔∃ r∈rws ps,(Ao cs && Ek cs r)=false)):=by
 apply R.Bz
 delta R.Ci R.G R.S;try dsimp only [R.Ps]
 refine (WO hc hl hn hq hr hm).mono ?_;rintro _ w1 ⟨_,rfl,z,rfl,B,h⟩;exact⟨_,rfl,_,rfl,B,by rw [decide_eq_true_eq];exact h⟩
theorem ZV{l:List UInt8}{v:Ax}{r:Value}{w w':World}(hr:AL v=true)(h:Al6 l v r w w'):∃ a c,r=.tuple #[.slice a (l++FU v).length c,.int .i64 0]/\Dh w w' (l++FU v) a c:=by
 rcases h with ⟨h,_⟩ | ⟨_,h⟩
 ·rw [hr] at h;cases h
 ·exact h
set_option maxHeartbeats 1000000 in
theorem ID(T:PB w)(hl:Rd w a (A9 cs))(hn:cs.length<=9223372036854775807)(hq:∀ c∈cs,c.1.size<=9223372036854775807)(hr:Bc w a2 ps)(hm:ps.length<=9223372036854775807)(hv:∀ r∈rws ps,∀ v∈r,Eb v) :
  Calls Tryz.prog f.H8 #[.slice a cs.length c,.slice a2 ps.length c2] w (AB λ v w'=>AlL cs (rws ps) v/\Below w.heap.size w w'):=by
 apply R.Mn
 delta R.A R.Ab R.B R.DY R.BL R.Cb R.Cf R.Cs R.D R.E R.F R.H R.I R.J R.Ks R.Li R.Ls R.Lt R.N R.O R.P R.Rs R.Rt R.S R.Ah R.T R.U R.Wu R.X R.Y;try dsimp only [R.Ps]
 refine (ST.start w).Aj λ b3 w1 cf B1 S=>⟨_,_,_,S.cell 0 rfl rfl,?_⟩;refine (Vo (l:=[]) (a:=none) (c:=0) (Rd.nil _ _) (by simp) (hl.grown S.An) hn hq).mono ?_;rintro _ w2 ⟨_,rfl,h2⟩;have bad:∀ {wx:World} (e:Int),Below w.heap.size w wx->(AcA cs (rws ps)=e)->e≠0->AlL cs (rws ps) (.tuple #[.string ⟨#[]⟩,.int .i64 e])/\Below w.heap.size w wx:=by
  rintro wx e B rfl h0;refine⟨.inl ⟨λ hs=>h0 ?_,rfl,h0⟩,B⟩;have h1:¬ (1024<(rws ps).length\/∃ r∈rws ps,Ek cs r=false):=by
   rintro (h | ⟨r,hr,h⟩)
   ·have:=hs.len;omega
   ·rw [hs.fits r hr] at h;cases h
  have h2:¬ Ao cs=false:=by rw [hs.right];decide
  rw [AcA,if_neg h2,if_neg h1]
 rcases h2 with ⟨hR,rfl,B2⟩ | ⟨hR,lR,oB,rfl,h2⟩
 ·refine⟨_,_,_,_,rfl,(S.grown B2).Aj λ b8 w3 _ _ S=>S.Cr 0 rfl (by simp) rfl λ w4 S=>Au (λ _=>bad 50 S.An ?_ (by decide)) (λ h=>by cases h)⟩;rw [AcA,if_pos hR]
 have ti:¬ Ao cs=false:=by rw [hR];decide
 rw [List.nil_append] at h2 ⊢;have S:=Hg S h2;refine⟨_,_,_,_,rfl,S.Aj λ b8 w3 _ _ S=>S.Cr 0 rfl (aC:=#[.slice lR (Fh cs).length oB]) (by simp) rfl λ w4 S=>Au (λ h=>absurd rfl h) (λ _=>Aa (λ h=>bad 51 S.An ?_ (by decide)) (λ hlen=>?_))⟩
 ·have:1024<(rws ps).length:=by simp only [rws,AnS];omega
  rw [AcA,if_neg ti,if_pos (.inl this)]
 have cO:ps.length<=1024:=by omega
 refine (Rw (S.cell 2 rfl rfl) (hl.grown S.An) hn hq (hr.grown S.An) (by omega)).mono ?_;rintro _ w5 ⟨_,rfl,z,rfl,B5,hz⟩;have S:=S.grown B5;refine⟨_,rfl,AU (λ h=>bad 51 S.An ?_ (by decide)) (λ sW=>?_)⟩
 ·obtain⟨r,hr,hf⟩:=hz.1 h;rw [hR,Bool.true_and] at hf;rw [AcA,if_neg ti,if_pos (.inr ⟨r,hr,hf⟩)]
 have ar:DN cs (rws ps):=by
  refine⟨hR,by simp only [rws,AnS];omega,λ r hr=>?_,hv⟩;cases hf:Ek cs r with
  | true=>rfl
  | false =>
   have:=hz.2 ⟨r,hr,by rw [hf,Bool.and_false]⟩;rw [sW] at this;cases this
 have lB:∀ p∈ps,p.2.2.length=cs.length:=λ p hp=>ar.XT (Ang.2 ⟨p,hp,rfl⟩);have bR:=Be hR;have bm:=AaB hR;have d1:=Aq (n:=ps.length) (by omega);have rz:Rd w5 lR ((Fh cs).map Af):=MN S 1 rfl;rw [Ar (by omega) (by omega)];refine⟨_,_,_,S.cell 0 rfl rfl,(Bt (Fh cs) rz ps.length (by omega) (by omega)).mono ?_⟩;rintro _ w6 ⟨_,rfl,a6,c6,rfl,h6⟩;have S:=Hg S h6;refine⟨_,_,_,rfl,S.Cr 1 rfl (aC:=#[.slice a6 (Fh cs++Ag ps.length).length c6]) (by simp) rfl λ w7 S=>S.Aj λ je w8 jr _ S=>Y9 Ams Alo (S.CK 0 rfl) λ w9 K9 tz=>⟨_,_,_,rfl,?_⟩⟩;have S:=S.IM 0 rfl (K9.mono λ k _ h=>by subst h;rfl) (Aii (some ⟨je,0,none⟩) 4 DS) (.inr ⟨_,rfl,rfl,Rd.Ak tz,rfl,(Array.getElem?_eq_some_iff.1 tz).1⟩) (λ k hk=>.inl hk);refine S.Aj λ tE cX _ _ S=>S.Cr 0 rfl (aC:=#[.slice (some ⟨je,0,none⟩) 4 4]) (by simp) rfl λ aW S=>⟨_,_,_,S.cell 5 rfl rfl,LB.mono ?_⟩;rintro _ dN ⟨_,rfl,q1,q2,rfl,P⟩;have S:=S.join P;refine⟨_,_,_,rfl,by kernel_rfl,λ rr aA bJ hy=>?_⟩
 have S:=S.range rr;obtain⟨L,hL⟩:∃ L,L=dN.heap.size+1:=⟨_,rfl⟩;obtain⟨d,hd⟩:∃ d,d=dN.heap.size:=⟨_,rfl⟩;rw [<- hL] at S hy ⊢;rw [<- hd] at S ⊢;have S:=S.pull 6 rfl;let Hq:Obj->Option Addr->Nat->List UInt8->Option Addr->Nat->List UInt8->List It:=λ o fa fc ft ba bc bb=>[Fx fa fc ft,It.obj L o,It.obj d (.deferred (some [])),It.cells q2 #[.slice a2 ps.length c2] ty.Ig,It.cells q1 #[.slice a cs.length c] ty.Ck,
  It.cells tE #[.slice ba bb.length bc] ty.AA,Aii ba bc bb,It.cells b8 #[.slice fa ft.length fc] ty.AA,Fx lR oB (Fh cs),It.cells b3 #[.slice a cs.length c] ty.Ck]
 let J:Nat->World->Prop:=λ q wx=>∃(xs:List (List UInt8)) (fa:Option Addr) (fc:Nat) (ba:Option Addr) (bc:Nat),xs.length=q/\DM cs (rws ps) xs /\
  ST w wx (Hq (.loop rr) fa fc (Fh cs++Ag ps.length++DP (rws ps) xs) ba bc (DS++xs.flatten))
 have aj:=Ry (w:=(dN.alloc (.deferred (some []))).alloc (.loop rr)) (c:=c2) (L:=L) (b1:=q1) (b2:=q2) (a:=a2) (c2:=c) (a2:=a) (n:=cs.length) hn (by omega) lB J (λ q wx hj=>by
   obtain⟨xs,fa,fc,ba,bc,_,_,S⟩:=hj;exact⟨hr.grown S.An,S.cell 3 rfl rfl⟩) (λ q wx wy hj B=>by
   obtain⟨xs,fa,fc,ba,bc,h1,h2,S⟩:=hj;exact⟨xs,fa,fc,ba,bc,h1,h2,S.grown B⟩) (by
  rintro q wx la lc rf ⟨xs,fa,fc,ba,bc,dM,iI,S⟩ xv;subst dM;have hg:=ar.F9 rf;have eg:=iI.flat ar;have tw:=iI.AjJ ar;obtain⟨⟨z1,z2⟩,z3,z4⟩:=hg.AfC;have ik:(Bk (rws ps) xs.length).length=ps.length:=by rw [LU];simp [rws]
  refine hy _ _ _ _ _ wx (S.get 1 rfl) ?_;refine S.AlR 1 rfl λ bF rD S=>?_;obtain⟨p,hp,c0,c1,c2⟩:=I3 (hl.grown S.An) rf;refine⟨_,_,_,S.cell 9 rfl rfl,⟨by omega,by omega⟩,?_⟩;rw [hp];refine⟨_,by rw [AnF];exact c1,?_⟩;have jS:=rD _ _ xv;have hE:=JK (c:=lc) cs[xs.length].2.1 jS (by omega) hg.ok;rw [ik] at hE;refine hE.mono ?_;rintro _ ay ⟨_,rfl,iF⟩;rcases iF with ⟨bC,_⟩ | ⟨_,x,xa,xc,hx,rfl,iF⟩
  ·rw [hg.right] at bC;cases bC
  have dM:=hx.len hg;have yb:0<x.length:=by have:=(hx.read hg).2.1;omega
  have S:=Hg S iF;have hZ:=Mv (c:=lc) (jS.grown iF.An);rw [ik] at hZ;refine⟨_,_,_,_,rfl,hZ.mono ?_⟩;rintro _ dY ⟨_,rfl,lI,uh⟩;rcases lI with ⟨_,rfl⟩ | ⟨bC,_⟩
  case inr=>exact absurd hg.LO bC
  have S:=S.grown uh;refine⟨_,_,_,_,_,_,_,_,rfl,S.Aj λ zO gF _ _ S=>S.Afm 0 rfl λ nq S=>⟨_,_,_,S.cell 7 rfl rfl,?_⟩⟩;have yN:Rd nq xa (x.map Af):=MN S 1 rfl;have jV:DS.length=4:=rfl;refine Ak9 S 8 rfl yN yb (by rw [Anp];omega) λ a25 tN uZ S=>⟨_,_,_,rfl,S.Cr 7 rfl (aC:=#[.slice a25 (DS++xs.flatten++x).length tN]) (by simp) rfl λ ub S=>S.draw λ nt _ S=>⟨_,_,_,S.cell 9 rfl rfl,_,S.cell 0 rfl rfl,?_⟩⟩;have er:Av (Bk (rws ps) xs.length)<=1024:=by have:=EG (Bk (rws ps) xs.length);omega
  obtain⟨ft,cY⟩:∃ ft,ft=Fh cs++Ag ps.length++DP (rws ps) xs:=⟨_,rfl⟩;rw [<- cY] at S ⊢;have mg:ft.length<=40000:=by rw [cY];simp only [Anp];omega
  have fX:Rd nt fa (ft.map Af):=MN S 2 rfl;rw [Ar (n:=(x.length:Int)) (by omega) (by omega)];refine (Bt ft fX x.length (by omega) (by omega)).mono ?_;rintro _ si ⟨_,rfl,a28,zU,rfl,tb⟩;have S:=Hg S tb;have tQ:=Aq (n:=x.length) (by omega);have zX:=Aq (n:=Av (Bk (rws ps) xs.length)) (by omega);have zY:=OD z1 z2;have zZ:=OD z3 z4;refine⟨_,_,_,rfl,S.cell 1 rfl rfl,?_⟩;rw [Ar (n:=((Av (Bk (rws ps) xs.length):Nat):Int)) (by omega) (by omega)];refine (Bt _ tb.rd (Av (Bk (rws ps) xs.length)) (by omega) (by rw [Anp];omega)).mono ?_;rintro _ sj ⟨_,rfl,a29,wL,rfl,wj⟩;have S:=Hg S wj;refine⟨_,_,_,rfl,S.Cr 11 rfl (aC:=#[.slice a29 (ft++Ag x.length++Ag (Av (Bk (rws ps) xs.length))).length wL]) (by simp) rfl λ jE S=>⟨_,_,_,S.cell 11 rfl rfl,_,S.cell 2 rfl rfl,_,S.cell 2 rfl rfl,_,S.cell 2 rfl rfl,?_⟩⟩;have rj:Rd jE a29 ((ft++Ag x.length++Ag (Av (Bk (rws ps) xs.length))).map Af):=MN S 0 rfl;refine (Pf _ rj (Ht (Bk (rws ps) xs.length)).1 z2 (by simp only [Anp];omega)).mono ?_
  rintro _ nu ⟨_,rfl,wk⟩;obtain⟨a31,c31,rfl,n31⟩:=ZV z1 wk;have S:=Hg S n31;refine⟨_,_,_,_,rfl,S.Cr 12 rfl (aC:=#[.slice a31 (ft++Ag x.length++Ag (Av (Bk (rws ps) xs.length))++FU (Ht (Bk (rws ps) xs.length)).1).length c31]) (by simp) rfl λ cE S=>⟨_,_,_,S.cell 12 rfl rfl,_,S.cell 3 rfl rfl,_,S.cell 3 rfl rfl,_,S.cell 3 rfl rfl,?_⟩⟩;have rk:Rd cE a31 ((ft++Ag x.length++Ag (Av (Bk (rws ps) xs.length))++FU (Ht (Bk (rws ps) xs.length)).1).map Af):=MN S 0 rfl;refine (Pf _ rk (Ht (Bk (rws ps) xs.length)).2 z4 (by simp only [Anp];omega)).mono ?_;rintro _ ud ⟨_,rfl,oE⟩;obtain⟨a33,c33,rfl,n33⟩:=ZV z3 oE;have S:=Hg S n33;have lW:ft++Ag x.length++Ag (Av (Bk (rws ps) xs.length))++FU (Ht (Bk (rws ps) xs.length)).1++FU (Ht (Bk (rws ps) xs.length)).2=Fh cs++Ag ps.length++DP (rws ps) (xs++[x]):=by
   rw [ZG,cY];simp [Ku]
  have lV:DS++xs.flatten++x=DS++(xs++[x]).flatten:=by simp
  rw [lW] at S ⊢;rw [lV] at S;refine⟨_,_,_,_,rfl,S.Cr 13 rfl (aC:=#[.slice a33 (Fh cs++Ag ps.length++DP (rws ps) (xs++[x])).length c33]) (by simp) rfl λ w34 S=>S.QV 7 aA bJ rfl λ w' S=>⟨rfl,xs++[x],a33,c33,a25,tN,by simp,iI.snoc rf hx,?_⟩⟩;exact (Ajl S 12 rfl).keep 6) ⟨[],a6,c6,some ⟨je,0,none⟩,4,rfl,DM.nil _ _,by
   have e1:Fh cs++Ag ps.length++DP (rws ps) []=Fh cs++Ag ps.length:=by simp [DP]
   have e2:DS++([]:List (List UInt8)).flatten=DS:=by simp
   rw [e1,e2];exact S⟩ (S.cell 4 rfl rfl)
 refine aj.mono ?_;rintro _ w35 ⟨_,rfl,xs,fa,fc,ba,bc,dM,iI,S⟩;refine⟨⟨_,rfl⟩,S.QU 1 aA bJ rfl λ ue S=>⟨rfl,S.draw λ kb _ S=>⟨_,_,_,S.cell 5 rfl rfl,_,_,_,S.cell 7 rfl rfl,_,_,_,S.cell 7 rfl rfl,?_⟩⟩⟩;have eg:=iI.flat ar;have tw:=iI.Xs ar;have bS:=iI.Ahe ar;have wT:Fh cs++Ag ps.length++DP (rws ps) xs=Ed cs (rws ps) xs:=by
  unfold Ed;rw [show (rws ps).length=ps.length by simp [rws]]
 rw [wT] at S ⊢;obtain⟨ft,cY⟩:∃ ft,ft=Ed cs (rws ps) xs:=⟨_,rfl⟩;rw [<- cY] at S tw ⊢;obtain⟨bb,ko⟩:∃ bb,bb=DS++xs.flatten:=⟨_,rfl⟩;rw [<- ko] at S ⊢;refine (Uy ft.length (by omega)).mono ?_;rintro _ uf ⟨_,rfl,o9,rfl,wo⟩;have S:=Hg S wo;refine⟨_,_,_,rfl,S.cell 8 rfl rfl,S.cell 6 rfl rfl,S.Aj λ wF ke _ _ S=>?_⟩;have nP:Rd ke ba (bb.map Af):=S.rdF 8 rfl;have fX:Rd ke fa (ft.map Af):=MN S 2 rfl;have sF:Rd ke (some ⟨o9,0,none⟩) ((RU ft.length).map Af):=MN S 1 rfl;have rX:Rd ke (some ⟨wF,0,none⟩) ([(ba,bc,bb),(fa,fc,ft),(some ⟨o9,0,none⟩,4,RU ft.length)].map BQ):=S.rdc 0 rfl;have zb:bb.length<=33000004:=by rw [ko];simp only [Anp,DS,AnQ,AoJ];omega
 refine (Bf (c:=3) [(ba,bc,bb),(fa,fc,ft),(some ⟨o9,0,none⟩,4,RU ft.length)] rX (by
   intro p hp;simp only [Anh,List.not_mem_nil,or_false] at hp;rcases hp with rfl | rfl | rfl
   ·exact nP
   ·exact fX
   ·exact sF) (by simp) (by rw [VZ];simp only [Anp,RU,AnQ,AoJ];omega)).mono ?_
 rintro _ w40 ⟨_,rfl,a40,oC,rfl,kj⟩;have pZ:BJ [(ba,bc,bb),(fa,fc,ft),(some ⟨o9,0,none⟩,4,RU ft.length)]=Mi cs (rws ps) xs:=by
  rw [VZ,ko,cY];simp [Mi]
 rw [pZ] at kj ⊢;have S:=Hg S kj;obtain⟨pre,fB⟩:∃ pre,pre=Mi cs (rws ps) xs:=⟨_,rfl⟩;rw [<- fB] at S bS ⊢;refine⟨_,_,_,rfl,S.Cr 8 rfl (aC:=#[.slice a40 pre.length oC]) (by simp) rfl λ ug S=>⟨_,_,_,S.cell 8 rfl rfl,S.Aj λ wG om _ _ S=>?_⟩⟩;have rl:Rd om a40 (pre.map Af):=MN S 1 rfl;have rY:Rd om (some ⟨wG,0,none⟩) ([(a40,oC,pre)].map BQ):=S.rdc 0 rfl;have tR:BJ [(a40,oC,pre)]=pre:=by simp [BJ]
 refine (Kx (c:=1) (T.grown S.An) [(a40,oC,pre)] rY (by
   intro p hp;simp only [Anh,List.not_mem_nil,or_false] at hp;subst hp;exact rl) (by simp) (by rw [tR];omega)).mono ?_
 rw [tR];rintro _ yz ⟨_,rfl,rfl,uk⟩;have S:=S.grown uk;have fQ:(RF pre).length=32:=Of _;obtain⟨dg,hdg⟩:∃ dg,dg=RF pre:=⟨_,rfl⟩;rw [<- hdg] at fQ ⊢;refine YA (dg) fQ ⟨rfl,?_⟩;refine S.Aj λ tJ oo _ _ S=>?_;have mZ:((dg).map Af).length=32:=by rw [AnS];exact fQ
 refine FH mZ ?_;refine S.Hh 0 rfl mZ (Ik _) λ oq S=>?_;refine S.draw λ lJ _ S=>?_;refine⟨⟨by omega,by omega,by omega⟩,_,_,_,S.cell 10 rfl rfl,?_⟩;have rm:Rd lJ (Cc (some ⟨tJ,0,none⟩) 0 32 1) ((dg).map Af):=by
  have h:=(S.rdc 0 rfl).Yr 0 32 32 1 (by omega);have e:(List.take ((32-0)*1) (List.drop (0*1) ((dg).map Af)))=(dg).map Af:=by
   rw [Nat.zero_mul,Ao0];exact Aoy (by rw [AnS];omega)
  have h':Rd lJ (Cc (some ⟨tJ,0,none⟩) 0 32 1) (List.take ((32-0)*1) (List.drop (0*1) ((dg).map Af))):=h;rwa [e] at h'
 refine Ala S 2 rfl fQ rm (by omega) λ vk zW z8 S=>⟨_,_,_,rfl,?_⟩;have rp:Rd z8 vk ((pre++dg).map Af):=MN S 2 rfl;refine CI NF rfl rp ⟨_,rfl,S.get 7 rfl,.inr ⟨ar,_,rfl,⟨xs,dM,iI,?_⟩⟩,(S.put 7 rfl _).An⟩;rw [MJ,hdg,fB]
end
def Acy(p:AV):It:=Fe p.1 p.2.1 p.2.2
def Kw(bo:Nat)(ps:List AV):List It:=It.cells bo ⟨ps.map Bl⟩ ty.AM :: ps.map Acy
theorem Amq:Ia Tryz.prog ty.AM=some (ty.AD,3,32,.agg #[.int .i64 0,.int .i64 0,.string ⟨#[]⟩]):=by kernel_rfl
theorem AhJ:Ia Tryz.prog ty.Ig=some (ty.AM,1,24,.slice none 0 0):=by kernel_rfl
section
variable {w0 w:World}{E:List It}{bo:Nat}{ps:List AV}
theorem V2(S:ST w0 w (E++Kw bo ps)){i:Nat}(hi:i<ps.length):w.cell? ((⟨bo,0,none⟩:Addr).add (i*1))=some (.slice ps[i].1 ps[i].2.2.length ps[i].2.1):=by
 rw [Am,Nat.zero_add,AnI];refine S.cell E.length (cs:=⟨ps.map Bl⟩) (t:=ty.AM) ?_ ?_
 ·rw [Ao1 (AnD _),Ao2];rfl
 ·rw [<- Array.getElem?_toList];show (ps.map Bl)[i]?=_;rw [List.getElem?_map,AnB hi];rfl
theorem AgB(S:ST w0 w (E++Kw bo ps)){i:Nat}(hi:i<ps.length){x:Ax}{b:Nat}(hs:Rd w (some ⟨b,0,none⟩) (Hs x))(hl:ps[i].2.2.length+1<=1000000){f:Value->World->Prop}
  (hf:∀ a' c' w',(∀ k:World->Prop,(∀ au,ST w0 au (E++Kw bo (ps.set i (a',c',ps[i].2.2++[x])))->k au)->Cd ((⟨bo,0,none⟩:Addr).add (i*1)) (.slice a' (ps[i].2.2++[x]).length c') k w')->f (.slice a' (ps[i].2.2++[x]).length c') w') :
  CD Tryz.prog (Builtin.append_ #[ty.AM,ty.AM] ty.AM #[.slice ps[i].1 ps[i].2.2.length ps[i].2.1,.slice (some ⟨b,0,none⟩) 1 1]) f w:=by
 have hn:(E++Kw bo ps)[E.length+(i+1)]?=some (Fe ps[i].1 ps[i].2.1 ps[i].2.2):=by
  rw [Ao1 (by omega),Nat.add_sub_cancel_left];show (ps.map Acy)[i]?=_;rw [List.getElem?_map,AnB hi];rfl
 refine Ya S (E.length+(i+1)) Amq hn hs hl λ a' c' w' S'=>hf a' c' w' λ k hk=>?_;rw [Am,Nat.zero_add,AnI];have e1:(E++Kw bo ps).set (E.length+(i+1)) (Fe a' c' (ps[i].2.2++[x]))=E++(It.cells bo ⟨ps.map Bl⟩ ty.AM :: (ps.set i (a',c',ps[i].2.2++[x])).map Acy):=by
  rw [List.set_append_right _ _ (by omega),Nat.add_sub_cancel_left];show E++(_ :: (ps.map Acy).set i _)=_;rw [List.map_set];rfl
 rw [e1] at S';refine S'.Cr E.length (cs:=⟨ps.map Bl⟩) (aC:=⟨(ps.set i (a',c',ps[i].2.2++[x])).map Bl⟩) (t:=ty.AM) ?_ (by show i<(ps.map Bl).length;simpa using hi) ?_ λ au S''=>hk au ?_
 ·rw [Ao1 (AnD _),Ao2];rfl
 ·apply Array.ext';rw [Array.toList_setIfInBounds,List.map_set];rfl
 ·rw [List.set_append_right _ _ (AnD _),Ao2] at S'';exact S''
theorem AeF(S:ST w0 w (E++Kw bo ps)):Bc w (some ⟨bo,0,none⟩) ps:=by
 refine⟨?_,λ p hp=>?_⟩
 ·have hg:w.heap[bo]?=some (.cells ⟨ps.map Bl⟩ ty.AM (0,0)):=S.ok (It.cells bo ⟨ps.map Bl⟩ ty.AM) (by simp [Kw]);exact Rd.Ak hg
 ·have:(Acy p).ok w:=S.ok _ (List.mem_append_right _ (List.mem_cons_of_mem _ (Ang.2 ⟨p,hp,rfl⟩)));exact Row.rd this
theorem AeE(S:ST w0 w E){w':World}(n:Nat)(hb:w.heap.size<=bo)(B:Below w.heap.size w w')(hg:w'.heap[bo]?=some (.cells (madeCells (Value.slice none 0 0).cells (n*1)) ty.AM (0,0))):ST w0 w' (Kw bo (AnP n (none,0,[]))++E):=by
 have e:madeCells (Value.slice none 0 0).cells (n*1)=⟨(AnP n ((none,0,[]):AV)).map Bl⟩:=by
  apply Array.ext';rw [El _ rfl,AnI,List.map_replicate];rfl
 rw [e] at hg;have S1:∀ m,ST w0 w' ((AnP m ((none,0,[]):AV)).map Acy++E):=by
  intro m
  induction m with
  | zero=>exact S.grown B
  | succ m ih=>rw [List.replicate_succ];exact ih.nil _ _
 have nn:∀ k,(It.cells bo ⟨(AnP n ((none,0,[]):AV)).map Bl⟩ ty.AM).CK=some k->∀ y∈(AnP n ((none,0,[]):AV)).map Acy++E,y.CK≠some k:=by
  intro k hk y hy sU;have cr:bo=k:=Aoj hk;rcases Aow.1 hy with h | h
  ·obtain⟨p,hp,rfl⟩:=Ang.1 h;rw [(List.mem_replicate.1 hp).2] at sU;cases sU
  ·have:=y.lt w (S.ok y h) k sU;omega
 refine⟨(S1 n).An,λ x hx=>?_,List.pairwise_cons.2 ⟨λ y hy k hk=>nn k hk y hy,(S1 n).nd⟩,λ x hx k hk=>?_⟩
 ·rcases Anh.1 hx with rfl | hx
  ·exact hg
  ·exact (S1 n).ok x hx
 ·rcases Anh.1 hx with rfl | hx
  ·have cr:bo=k:=Aoj hk;have:=S.An.size;omega
  ·exact (S1 n).own x hx k hk
end
def rowAt(To:List (List Ax))(r:Nat):List Ax:=To.map λ l=>l.getD r Z0
def rowsOf(To:List (List Ax))(n:Nat):List (List Ax):=(AnY n).map (rowAt To)
theorem Acx(aH:List AV){j:Nat}(hj:j<aH.length){r:Nat}(hr:r<aH[j].2.2.length):rowAt (rws (aH.take (j+1))) r=rowAt (rws (aH.take j)) r++[aH[j].2.2[r]]:=by
 unfold rowAt rws;rw [Aou hj,Aov,Aov];simp only [Aoe,List.map_nil,AoX,AnB hr,Option.getD_some]
theorem Aht{ps:List AV}{n:Nat}{To:List (List Ax)}(hl:ps.length=n)(h:∀ r (hr:r<ps.length),ps[r].2.2=rowAt To r):rws ps=rowsOf To n:=by
 refine AoY (by simp [rowsOf,hl]) λ r h1 h2=>?_;simp only [rws,List.getElem_map,rowsOf,List.getElem_range];exact h r (by simpa using h1)
section
variable {w:World}{p:Addr}{n:Nat}{aH:List AV}{va:Option Addr}{vc:Nat}
theorem Akc(h3:w.cell? (p.add 3)=some (.int .i64 (n:Int)))(h1:w.cell? (p.add 1)=some (.slice va aH.length vc))(hv:Bc w va aH)(hn:n<=4096)(hc:aH.length<=1000)(hl:∀ q∈aH,q.2.2.length=n) :
  Calls Tryz.prog f.Mo #[.pointer (some p)] w (AB λ v w'=>∃ bo ps,v=.slice (some ⟨bo,0,none⟩) n n/\ps.length=n/\rws ps=rowsOf (rws aH) n/\Bc w' (some ⟨bo,0,none⟩) ps/\Below w.heap.size w w'):=by
 apply R.Ho
 delta R.Ad R.D R.F R.I R.J R.Ks R.Li R.Ls R.Lt R.N R.Qi R.Rs R.S R.Ah R.T R.W R.X;try dsimp only [R.Ps]
 refine⟨_,h3,FW AhJ (l:=(n:Int)) (c:=(n:Int)) (by omega) (by omega) (by omega) (by omega) λ bo w1 iH B1 ib=>?_⟩;rw [AnF] at ib ⊢;have S:=AeE (ST.start w) n iH B1 ib;rw [List.append_nil] at S;refine⟨_,_,_,rfl,λ s w2=>∃(i:Nat) (ps:List AV),s=[.int .i64 (i:Int)]/\i<=n/\ps.length=n/\(∀ r (hr:r<ps.length),ps[r].2.2=if r<i then rowAt (rws aH) r else [])/\ST w w2 ([]++Kw bo ps),λ s _=>match s with
   | [.int _ i]=>n-i.toNat
   | _=>0,⟨0,_,rfl,by omega,by simp,λ r hr=>by simp,S⟩,?_⟩
 rintro _ w2 ⟨i,ps,aA,hi,bS,aG,S⟩;cases aA;refine Aa (λ aB=>?_) (λ aL=>⟨bo,ps,rfl,bS,Aht bS λ r hr=>by rw [aG r hr,if_pos (by omega)],AeF S,S.An⟩);have cB:i<n:=by omega
 have K:=Ae.Al (F:=λ _=>False) S.An;refine⟨_,_,_,K.cell h1 (by simp),?_⟩;refine⟨λ s w3=>∃(j:Nat) (ps:List AV),s=[.int .i64 (j:Int)]/\j<=aH.length/\ps.length=n/\(∀ r (hr:r<ps.length),ps[r].2.2=if r<i then rowAt (rws aH) r else if r=i then rowAt (rws (aH.take j)) r else [])/\ST w w3 ([]++Kw bo ps),λ s _=>match s with
   | [.int _ j]=>aH.length-j.toNat
   | _=>0,⟨0,ps,rfl,by omega,bS,λ r hr=>by rw [aG r hr];simp [rowAt],S⟩,?_⟩
 clear aG S bS ps K;rintro _ w3 ⟨j,ps,aA,hj,bS,aG,S⟩;cases aA;refine Aa (λ aB=>⟨⟨by omega,aB⟩,?_⟩) (λ aL=>?_)
 ·have gN:j<aH.length:=by omega
  have hlen:=hl _ (Aot gN);obtain⟨q,hq,aJ,bU⟩:=(hv.grown S.An).at gN;rw [hq];refine⟨_,_,_,by rw [AnF];exact aJ,S.draw λ w4 B4 S=>?_⟩;have oP:i<ps.length:=by omega
  obtain⟨q2,nN,d0,d1,d2⟩:=FG (bU.grown B4) (i:=i) (by omega);have xh:=V2 S oP;refine⟨⟨by omega,by omega⟩,⟨by omega,by omega⟩,?_⟩;rw [nN];refine⟨_,_,_,by rw [AnF];exact xh,_,by rw [AnF];exact d0,_,by rw [AnF];exact d1,_,by rw [AnF];exact d2,S.Aj λ lS w5 _ _ S=>?_⟩;have S':ST w w5 ([It.cells lS (Hs (aH[j].2.2[i]'(by omega))).toArray ty.AD]++Kw bo ps):=S;have qx:=V2 S' oP;have uK:ps[i].2.2=rowAt (rws (aH.take j)) i:=by rw [aG i oP];simp
  have lB:ps[i].2.2.length=j:=by rw [uK];simp [rowAt,rws];omega
  refine⟨by rw [AnF];exact qx,?_⟩;have aZ:Rd w5 (some ⟨lS,0,none⟩) (Hs (aH[j].2.2[i]'(by omega))):=S'.rdc 0 rfl;refine AgB S' oP aZ (by omega) λ a6 c6 w6 hk=>⟨_,_,_,rfl,⟨by omega,by omega⟩,?_⟩;rw [AnF];unfold As;simp only;refine hk _ λ w7 S=>?_;rw [Ai (by omega)];refine⟨⟨j+1,ps.set i (a6,c6,ps[i].2.2++[aH[j].2.2[i]'(by omega)]),rfl,by omega,by rw [List.length_set];exact bS,λ r hr=>?_,S.drop 1⟩,?_⟩
  ·rw [List.length_set] at hr;rw [List.getElem_set];by_cases ix:i=r
   ·subst ix;simp only [if_true,Nat.lt_irrefl,if_false];rw [Acx aH gN (by omega),uK]
   ·rw [if_neg ix,aG r hr];by_cases h5:r<i
    ·rw [if_pos h5,if_pos h5]
    ·rw [if_neg h5,if_neg h5,if_neg (λ h=>ix h.symm),if_neg (λ h=>ix h.symm)]
  ·show aH.length-((j+1:Nat):Int).toNat<aH.length-((j:Nat):Int).toNat;simp only [AnF];omega
 ·rw [Ai (by omega)];refine⟨⟨i+1,ps,rfl,by omega,bS,λ r hr=>?_,S⟩,?_⟩
  ·rw [aG r hr,Aoy (by omega)];by_cases h5:r<i
   ·rw [if_pos h5,if_pos (by omega)]
   ·by_cases h6:r=i
    ·rw [if_neg h5,if_pos h6,if_pos (by omega)]
    ·rw [if_neg h5,if_neg h6,if_neg (by omega)]
  ·show n-((i+1:Nat):Int).toNat<n-((i:Nat):Int).toNat;simp only [AnF];omega
end
def A1(lim:Nat)(l:List UInt8)(at_:Nat):Nat->Option (List Nat × Nat)
 | 0=>some ([],at_)
 | k+1=>match takeN l (at_:Int) with
  | none=>none
  | some x=>match takeN l (x.2:Int) with
   | none=>none
   | some y=>match DC l (y.2:Int) with
    | none=>none
    | some u=>match DC l (u.2:Int) with
     | none=>none
     | some v=>if lim<x.1 then none else (A1 lim l v.2 k).map λ r=>(x.1 :: r.1,r.2)
def Hi(lim:Nat)(l:List UInt8)(at_:Int)(n:Nat):Option (Nat × List Nat) :=
 match takeN l at_ with
 | none=>none
 | some x=>if 1024<x.1 then none else (A1 lim l x.2 n).map λ r=>(x.1,r.1)
def Ox(a:Option Addr)(c:Nat)(ns:List Nat):It:=It.row ty.int 1 a ns.length c (ns.map λ n:Nat=>Value.int .i64 (n:Int))
theorem Amp:Ia Tryz.prog ty.GK=some (ty.int,1,8,.int .i64 0):=by kernel_rfl
theorem Alb{w0 w:World}{H:List It}{a:Option Addr}{c:Nat}{ns:List Nat}(S:ST w0 w H)(n:Nat)(hn:H[n]?=some (Ox a c ns)){x:Nat}{b:Nat}(hs:Rd w (some ⟨b,0,none⟩) [Value.int .i64 (x:Int)])(hl:ns.length+1<=1000000){f:Value->World->Prop}
  (hf:∀ a' c' w',ST w0 w' (H.set n (Ox a' c' (ns++[x])))->f (.slice a' (ns++[x]).length c') w') :
  CD Tryz.prog (Builtin.append_ #[ty.GK,ty.GK] ty.GK #[.slice a ns.length c,.slice (some ⟨b,0,none⟩) 1 1]) f w:=by
 refine S.app n hn Amp rfl (by omega) (by omega) hs (mm:=1) rfl (by simp;rfl) (by omega) λ a' c' w' S'=>?_;have e1:(ns++[x]).length=ns.length+1:=by simp
 have e2:(ns.map λ n:Nat=>Value.int .i64 (n:Int))++[Value.int .i64 (x:Int)]=(ns++[x]).map λ n:Nat=>Value.int .i64 (n:Int):=by simp
 rw [e2] at S';have:=hf a' c' w' (by unfold Ox;rw [e1];exact S');rwa [e1] at this
theorem Uh{l:List UInt8}{at_:Int}(o:Option (Nat × Nat))(h:takeN l at_=o):∃(n k:Nat) (e:Int),Vh o=.tuple #[.int .u64 (n:Int),.int .i64 (k:Int),.int .i64 e]/\k<=l.length/\n<18446744073709551616/\((e=0/\o=some (n,k))\/(e≠0/\o=none)):=by
 cases o with
 | none=>exact⟨0,0,20,rfl,by omega,by omega,.inr ⟨by decide,rfl⟩⟩
 | some x =>
  have:=AZ (n:=x.1) (k:=x.2) h;exact⟨x.1,x.2,0,rfl,by omega,by omega,.inl ⟨rfl,rfl⟩⟩
theorem AhN{l:List UInt8}{at_:Int}{v:Ax}{k:Nat}(h:DC l at_=some (v,k)):k<=l.length:=by
 unfold DC at h;split at h
 ·cases h
 ·rename_i hb;simp only at h;split at h
  ·cases h;omega
  ·split at h
   ·obtain⟨x,hx,he⟩:=Aok.1 h;have:=AZ (n:=x.1) (k:=x.2) hx;cases he;omega
   ·split at h
    ·split at h
     ·rename_i h2;cases h;omega
     ·cases h
    ·split at h
     ·obtain⟨x,hx,he⟩:=Aok.1 h;have:=UJ (s:=x.1) (k:=x.2) hx;cases he;omega
     ·cases h
theorem Aa0{l:List UInt8}{at_:Int}(o:Option (Ax × Nat))(h:DC l at_=o):∃(v:Ax) (k:Nat) (e:Int),AcJ o=.tuple #[.agg #[.int .i64 v.1,.int .i64 v.2.1,.string v.2.2],.int .i64 (k:Int),.int .i64 e]/\k<=l.length/\((e=0/\o=some (v,k))\/(e≠0/\o=none)):=by
 cases o with
 | none=>exact⟨Z0,0,20,rfl,by omega,.inr ⟨by decide,rfl⟩⟩
 | some x=>exact⟨x.1,x.2,0,rfl,AhN (v:=x.1) (k:=x.2) h,.inl ⟨rfl,rfl⟩⟩
def PlV(o:Option (Nat × List Nat))(w w':World)(v:Value):Prop :=
 match o with
 | none=>v=.tuple #[.int .i64 0,.slice none 0 0,.bool false]/\Below w.heap.size w w'
 | some r=>∃ a c,v=.tuple #[.int .i64 (r.1:Int),.slice a r.2.length c,.bool true]/\ST w w' [Ox a c r.2]
theorem PlV.bad{o:Option (Nat × List Nat)}{w w':World}(h:o=none)(B:Below w.heap.size w w'):PlV o w w' (.tuple #[.int .i64 0,.slice none 0 0,.bool false]):=by
 subst h;exact⟨rfl,B⟩
section
variable {w:World}{a:Option Addr}{c:Nat}{l:List UInt8}
theorem O9(hl:Rd w a (l.map Af))(hc:l.length<=c)(hs:l.length<=140737488355328)(at_:Int)(n:Nat)(hn:n<=1000) :
  Calls Tryz.prog f.Uz #[.slice a l.length c,.int .i64 at_,.int .i64 (n:Int)] w (AB λ v w'=>PlV (Hi 1073741824 l at_ n) w w' v):=by
 apply R.LD
 delta R.A R.Ab R.Pu R.EN R.F R.G R.H R.I R.J R.Ks R.N R.O R.Aia R.S R.Ah R.T R.W;try dsimp only [R.Ps]
 refine (AF hl hc (by omega) at_ ).mono ?_;rintro _ w1 ⟨_,rfl,rfl,rfl⟩;obtain⟨r0,at0,e0,hv0,rC,nO,iN⟩:=Uh _ (rfl:takeN l at_=takeN l at_);rw [hv0];have qd:takeN l at_=none->Hi 1073741824 l at_ n=none:=λ h=>by simp [Hi,h]
 refine⟨_,_,_,rfl,Au (λ h=>.bad ?_ (.refl _ _)) (λ qp=>?_)⟩
 ·rcases iN with ⟨h2,_⟩ | ⟨_,h2⟩
  ·exact absurd h2 h
  ·exact qd h2
 have nb:takeN l at_=some (r0,at0):=by
  rcases iN with ⟨_,h2⟩ | ⟨h2,_⟩
  ·exact h2
  ·exact absurd qp h2
 refine Aa (λ h=>.bad ?_ (.refl _ _)) (λ pk=>?_)
 ·have:1024<r0:=by omega
  simp [Hi,nb,this]
 have hT:Hi 1073741824 l at_ n=(A1 1073741824 l at0 n).map λ r=>(r0,r.1):=by
  have:¬ 1024<r0:=by omega
  simp [Hi,nb,this]
 rw [hT];refine⟨λ s w2=>∃(i aY:Nat) (ns:List Nat) (na:Option Addr) (nc:Nat),s=[.int .i64 (aY:Int),.slice na ns.length nc,.int .i64 (i:Int)]/\i<=n/\ns.length=i/\aY<=l.length /\
   A1 1073741824 l at0 n=((A1 1073741824 l aY (n-i)).map λ r=>(ns++r.1,r.2))/\ST w1 w2 [Ox na nc ns],λ s _=>match s with
  | [_,_,.int _ i]=>n-i.toNat
  | _=>0,⟨0,at0,[],none,0,rfl,by omega,rfl,by omega,by simp,(ST.start w1).nil _ _⟩,?_⟩
 rintro _ na _ nc _ w2 ⟨i,aY,ns,_,_,aA,hi,rQ,eF,bL,S⟩;cases aA;refine Aa (λ aB=>?_) (λ aL=>?_)
 ·obtain⟨m,hm⟩:∃ m,n-i=m+1:=⟨n-i-1,by omega⟩;rw [hm] at bL;have bQ:=hl.grown S.An;refine (AF bQ hc (by omega) (aY:Int) ).mono ?_;rintro _ w2 ⟨_,rfl,rfl,rfl⟩;obtain⟨x1,x2,e1,hv1,dd,gC,hx1⟩:=Uh _ (rfl:takeN l (aY:Int)=takeN l (aY:Int));rw [hv1];refine⟨_,_,_,rfl,(AF bQ hc (by omega) (x2:Int) ).mono ?_⟩;rintro _ w2 ⟨_,rfl,rfl,rfl⟩;obtain⟨y1,y2,e2,j9,bH,cD,hx2⟩:=Uh _ (rfl:takeN l (x2:Int)=takeN l (x2:Int));rw [j9];refine⟨_,_,_,rfl,(MS bQ hc hs (y2:Int)).mono ?_⟩;rintro _ w5 ⟨_,rfl,rfl,B5⟩;have S:=S.grown B5;obtain⟨u1,u2,e3,hv3,xq,lF⟩:=Aa0 _ (rfl:DC l (y2:Int)=DC l (y2:Int));rw [hv3];refine⟨_,_,_,_,_,rfl,S.KQ λ vp w9 _ S=>(MS (hl.grown S.An) hc hs (u2:Int)).mono ?_⟩;rintro _ cX ⟨_,rfl,rfl,eB⟩;have S:=S.grown eB;obtain⟨v1,v2,e4,hv4,hk4,hx4⟩:=Aa0 _ (rfl:DC l (u2:Int)=DC l (u2:Int));rw [hv4];refine⟨_,_,_,_,_,rfl,S.KQ λ vt bF _ S=>?_⟩;have fail:A1 1073741824 l aY (m+1)=none->((A1 1073741824 l at0 n).map λ r=>(r0,r.1))=none:=λ h=>by rw [bL,h];rfl
  refine Au (λ h=>.bad (fail ?_) S.An) (λ h1=>?_)
  ·rcases hx1 with ⟨h2,_⟩ | ⟨_,h2⟩
   ·exact absurd h2 h
   ·simp [A1,h2]
  have g1:takeN l (aY:Int)=some (x1,x2):=by
   rcases hx1 with ⟨_,h2⟩ | ⟨h2,_⟩
   ·exact h2
   ·exact absurd h1 h2
  refine Au (λ h=>.bad (fail ?_) S.An) (λ h1=>?_)
  ·rcases hx2 with ⟨h2,_⟩ | ⟨_,h2⟩
   ·exact absurd h2 h
   ·simp [A1,g1,h2]
  have g2:takeN l (x2:Int)=some (y1,y2):=by
   rcases hx2 with ⟨_,h2⟩ | ⟨h2,_⟩
   ·exact h2
   ·exact absurd h1 h2
  refine Au (λ h=>.bad (fail ?_) S.An) (λ h1=>?_)
  ·rcases lF with ⟨h2,_⟩ | ⟨_,h2⟩
   ·exact absurd h2 h
   ·simp [A1,g1,g2,h2]
  have g3:DC l (y2:Int)=some (u1,u2):=by
   rcases lF with ⟨_,h2⟩ | ⟨h2,_⟩
   ·exact h2
   ·exact absurd h1 h2
  refine Au (λ h=>.bad (fail ?_) S.An) (λ h1=>?_)
  ·rcases hx4 with ⟨h2,_⟩ | ⟨_,h2⟩
   ·exact absurd h2 h
   ·simp [A1,g1,g2,g3,h2]
  have g4:DC l (u2:Int)=some (v1,v2):=by
   rcases hx4 with ⟨_,h2⟩ | ⟨h2,_⟩
   ·exact h2
   ·exact absurd h1 h2
  refine Aa (λ h=>.bad (fail ?_) S.An) (λ mz=>?_)
  ·have:1073741824<x1:=by omega
   simp [A1,g1,g2,g3,g4,this]
  rw [wrap_i64 (n:=(x1:Int)) (by omega) (by omega)];refine S.Aj λ vu ay _ _ S=>?_;have aZ:Rd ay (some ⟨vu,0,none⟩) [Value.int .i64 (x1:Int)]:=S.rdc 0 rfl;refine Alb S 3 rfl aZ (by omega) λ pM pT dY S=>⟨_,_,_,rfl,?_⟩;rw [Ai (by omega)];refine⟨⟨i+1,v2,ns++[x1],pM,pT,rfl,by omega,by simp [rQ],by omega,?_,S.drop 3⟩,?_⟩
  ·rw [bL,show n-(i+1)=m by omega];have:¬ 1073741824<x1:=by omega
   simp only [A1,g1,g2,g3,g4,this,if_false,Option.map_map];congr 1;funext r;simp
  ·show n-((i+1:Nat):Int).toNat<n-(i:Int).toNat;omega
 ·have:n-i=0:=by omega
  rw [this] at bL;simp only [A1,Aoc,List.append_nil] at bL;rw [bL,wrap_i64 (n:=(r0:Int)) (by omega) (by omega)];exact⟨na,nc,rfl,S⟩
end
theorem CT{l:List UInt8}{at_:Nat}{c:UInt8}{r:List UInt8}(h:l.drop at_=c :: r):at_<l.length/\l.getD at_ 0=c/\l.drop (at_+1)=r:=by
 have aB:at_<l.length:=by
  rcases Nat.lt_or_ge at_ l.length with h1 | h1
  ·exact h1
  ·rw [List.drop_eq_nil_of_le h1] at h;cases h
 have h2:=List.drop_eq_getElem_cons aB;rw [h2] at h;injection h with h3 h4
 exact⟨aB,by simp [AoX,aB,h3],h4⟩
theorem UI{l r:List UInt8}{at_ most:Nat}{s:ByteArray}(hs:s.size<=most)(hm:most<=1048576)(h:l.drop at_=CQ s++r):DX l (at_:Int) most=some (bl s,at_+(CQ s).length):=by
 unfold CQ at h;rw [AnA] at h;have h1:=BZ (m:=s.size) (by omega) h;have h2:=BT h;have cI:=CG s;have hlen:=congrArg AoO h2;rw [AnC,Anp,cI] at hlen;unfold DX;rw [h1];have bC:¬ (1048576<s.size\/most<s.size\/l.length-(at_+(Ag s.size).length)<s.size):=by omega
 simp only [if_neg bC,An8,AnO];refine⟨?_,?_⟩
 ·rw [h2,<- cI,Ant]
 ·simp only [CQ,Anp,cI];omega
theorem UK{l r:List UInt8}{at_:Nat}{v:Ax}(hr:AL v=true)(hv:Eb v)(h:l.drop at_=FU v++r):DC l (at_:Int)=some (v,at_+(FU v).length):=by
 have eI:((at_:Int)+1)=((at_+1:Nat):Int):=by omega
 obtain⟨k,n,s⟩:=v;rcases G7 hr with hk | hk | ⟨hk,hn⟩ | ⟨hk,hs⟩
 ·simp only at hk;subst hk;simp [AL] at hr;obtain⟨rfl,rfl⟩:=hr;simp only [FU] at h ⊢;obtain⟨h1,h2,h3⟩:=CT (c:=0) (r:=r) (by simpa using h);unfold DC;rw [if_neg (by omega),AnF,h2];simp
 ·simp only at hk;subst hk;simp [AL] at hr;subst hr;simp only [FU,if_true] at h ⊢;obtain⟨h1,h2,h3⟩:=CT (c:=1) (r:=Ag (Fk n)++r) (by simpa using h);have h4:=BZ (HP hv.lo hv.hi) h3;unfold DC;rw [if_neg (by omega),AnF,h2,eI,h4];simp only [AnQ,Aoc];have:=L7 (n:=n);simp [this];omega
 ·simp only at hk hn;subst hk;simp [AL] at hr;obtain⟨_,rfl⟩:=hr;simp only [FU] at h ⊢;obtain⟨h1,h2,h3⟩:=CT (c:=2) (r:=AnG n.toNat :: r) (by simpa using h);obtain⟨h4,h5,h6⟩:=CT h3;have e5:(l.getD (at_+1) 0).toNat=n.toNat:=by rw [h5];rcases hn with rfl | rfl <;> rfl
  unfold DC;rw [if_neg (by omega),AnF,h2];simp only;have h7:(at_:Int)+1<(l.length:Int)/\(l.getD (at_+1) 0).toNat<=1:=⟨by omega,by omega⟩;rw [if_neg (by decide),if_neg (by decide),if_pos (by decide),if_pos h7,e5];rcases hn with rfl | rfl <;> rfl
 ·simp only at hk hs;subst hk;simp [AL] at hr;obtain⟨rfl,_⟩:=hr;simp only [FU] at h ⊢;obtain⟨h1,h2,h3⟩:=CT (c:=3) (r:=CQ s++r) (by simpa using h);have h4:=UI (most:=1024) hs (by omega) h3;unfold DC;rw [if_neg (by omega),AnF,h2,eI,h4];simp [DH];omega
theorem MO:∀(cs:List A0) {l r:List UInt8} {at_:Nat},(∀ c∈cs,c.1.size<=24/\1<=c.2.1/\c.2.1<=3)->l.drop at_=cs.flatMap M1++r->De l at_ cs.length=some (cs,at_+(cs.flatMap M1).length)
 | [],l,r,at_,_,_=>rfl
 | c :: cs,l,r,at_,hq,h=>by
  obtain⟨hs,dd,bH⟩:=hq c (by simp);rw [List.flatMap_cons,AnA] at h;have h0:l.drop at_=CQ c.1++([AnG c.2.1.toNat,On c.2.2]++(cs.flatMap M1++r)):=by rw [h];simp [M1]
  have h1:=UI (most:=24) hs (by omega) h0;have h2:=BT h0;obtain⟨g1,g2,g3⟩:=CT (c:=AnG c.2.1.toNat) (r:=On c.2.2 :: (cs.flatMap M1++r)) (by simpa using h2);obtain⟨g4,g5,g6⟩:=CT g3;have hf:(On c.2.2).toNat<=1:=by unfold On;split <;> decide
  have gO:((AnG c.2.1.toNat).toNat:Int)=c.2.1:=by
   have:c.2.1=1\/c.2.1=2\/c.2.1=3:=by omega
   rcases this with h | h | h <;> rw [h] <;> rfl
  have eg:((On c.2.2).toNat==1)=c.2.2:=by unfold On;cases c.2.2 <;> rfl
  have ih:=MO cs (l:=l) (r:=r) (at_:=at_+(CQ c.1).length+2) (λ c hc=>hq c (by simp [hc])) (by rw [<- g6]);show De l at_ (cs.length+1)=_;unfold De;rw [h1];simp only;have bC:¬ (l.length-(at_+(CQ c.1).length)<2\/1<(l.getD (at_+(CQ c.1).length+1) 0).toNat):=by rw [g5];omega
  rw [if_neg bC,ih,g2,g5];simp only [Aoc,An8,AnO,DH,gO,eg,true_and];simp only [List.flatMap_cons,M1,Anp,AnQ,AoJ];omega
theorem Yf{cs:List A0}(hR:Ao cs=true){l r:List UInt8}{at_:Nat}(h:l.drop at_=Fh cs++r):Fc l (at_:Int)=some (cs,at_+(Fh cs).length):=by
 have hl:=Be hR;unfold Fh at h;rw [AnA] at h;have h1:=BZ (m:=cs.length) (by omega) h;have h2:=MO cs (λ c hc=>by obtain⟨_,a,b,c⟩:=EH hR hc;exact⟨c,a,b⟩) (BT h);unfold Fc;rw [h1];simp only;rw [if_neg (by omega),h2];simp only [hR,if_true,Fh,Anp];congr 2;omega
theorem LJ(lim:Nat):∀(ps:List (List UInt8 × List Ax)) {l r:List UInt8} {at_:Nat},(∀ p∈ps,p.1.length<=lim/\p.1.length<=2000300/\∃ k,Bi k p.2)->l.drop at_=(ps.map λ p=>Ku p.1 p.2).flatten++r ->
  A1 lim l at_ ps.length=some (ps.map (·.1.length),at_+((ps.map λ p=>Ku p.1 p.2).flatten).length)
 | [],l,r,at_,_,_=>rfl
 | p :: ps,l,r,at_,hq,h=>by
  obtain⟨mz,hx,k,hg⟩:=hq p (by simp);have hz:=hg.AfC;rw [Aoe,Aoq,AnA] at h;rw [Ku] at h;simp only [AnA] at h;have er:Av p.2<18446744073709551616:=by have:=EG p.2;have:=hg.len;omega
  have h1:=BZ (m:=p.1.length) (by omega) h;have d1:=BT h;have h2:=BZ er d1;have d2:=BT d1;have h3:=UK hz.1.1 hz.1.2 d2;have d3:=BT d2;have h4:=UK hz.2.1 hz.2.2 d3;have d4:=BT d3;have ih:=LJ lim ps (λ p hp=>hq p (by simp [hp])) d4;show A1 lim l at_ (ps.length+1)=_;unfold A1;rw [h1];simp only;rw [h2];simp only;rw [h3];simp only;rw [h4];simp only;rw [if_neg (by omega),ih];simp only [Aoc,Aoe,Aoq,Anp,Ku,An8,AnO,true_and];omega
theorem MP(lim:Nat){l:List UInt8}:∀(n at_:Nat) {r:List Nat × Nat},A1 lim l at_ n=some r->r.1.length=n
 | 0,at_,r,h=>by simp [A1] at h;rw [<- h];rfl
 | n+1,at_,r,h=>by
  unfold A1 at h;split at h
  ·cases h
  ·split at h
   ·cases h
   ·split at h
    ·cases h
    ·split at h
     ·cases h
     ·split at h
      ·cases h
      ·obtain⟨x,hx,he⟩:=Aok.1 h;rw [<- he];simp [MP lim n _ hx]
theorem AcI{lim:Nat}{l:List UInt8}{at_:Int}{n:Nat}{r:Nat × List Nat}(h:Hi lim l at_ n=some r):r.2.length=n/\r.1<=1024:=by
 unfold Hi at h;split at h
 ·cases h
 ·split at h
  ·cases h
  ·obtain⟨x,hx,he⟩:=Aok.1 h;rw [<- he];exact⟨MP lim n _ hx,by simp only;omega⟩
section
variable {cs:List A0}{rows:List (List Ax)}{xs:List (List UInt8)}
theorem TI(hs:DN cs rows):Fc (Ed cs rows xs) 0=some (cs,(Fh cs).length):=by
 have:=Yf hs.right (l:=Ed cs rows xs) (at_:=0) (r:=Ag rows.length++DP rows xs) (by simp [Ed]);simpa using this
theorem Adf{lim:Nat}(mz:2000300<=lim)(hs:DN cs rows)(hx:DM cs rows xs)(hl:xs.length=cs.length):Hi lim (Ed cs rows xs) ((Fh cs).length:Int) cs.length=some (rows.length,xs.map AoO):=by
 have d0:(Ed cs rows xs).drop (Fh cs).length=Ag rows.length++(DP rows xs++[]):=by
  rw [Ed,AnA,AoL];simp
 have h1:=BZ (m:=rows.length) (by have:=hs.len;omega) d0;have d1:=BT d0;obtain⟨ps,cU⟩:∃ ps,ps=xs.mapIdx λ i x=>(x,Bk rows i):=⟨_,rfl⟩;have e1:DP rows xs=(ps.map λ p=>Ku p.1 p.2).flatten:=by
  rw [cU,DP];congr 1;refine AoY (by simp) λ i h1 h2=>?_;simp
 have e2:ps.length=cs.length:=by rw [cU,List.length_mapIdx,hl]
 have e3:ps.map (·.1.length)=xs.map AoO:=by
  rw [cU];refine AoY (by simp) λ i h1 h2=>?_;simp
 rw [e1] at d1;have h2:=LJ lim ps (l:=Ed cs rows xs) (r:=[]) (λ p hp=>by
  rw [cU] at hp;obtain⟨i,hi,rfl⟩:=List.mem_mapIdx.1 hp;have:=hx.lens hs _ (Aot hi);exact⟨by simp only;omega,this,_,hs.F9 (by omega:i<cs.length)⟩) d1
 rw [e2,e3] at h2;unfold Hi;rw [h1];simp only;rw [if_neg (by have:=hs.len;omega),h2];rfl
end
section
variable {w:World}{a:Option Addr}{c:Nat}{l:List UInt8}
theorem Yv:Calls Tryz.prog f.Hp #[.slice a l.length c] w (AB λ v w'=>∃ b1,v=.func (.func f.Dm) #[] #[.pointer (some ⟨b1,0,none⟩)]/\ST w w' [It.cells b1 #[.slice a l.length c] ty.AA]):=by
 apply R.Fi
 delta R.J R.N R.P R.S;try dsimp only [R.Ps]
 exact (ST.start w).Aj λ b1 w1 _ _ S1=>⟨b1,rfl,S1⟩
theorem Tg{L b:Nat}(hn:l.length<=1000000)(J:Nat->World->Prop)(aU:∀ k w,J k w->Rd w a (l.map Af)/\w.cell? ⟨b,0,none⟩=some (.slice a l.length c))
  (bD:∀ k w (hk:k<l.length),J k w->GJ Tryz.prog L #[.int .i64 ((l.length-1-k:Nat):Int),.int .u8 ((l[l.length-1-k]'(by omega)).toNat:Int)] (λ y w'=>y=true/\J (k+1) w') w) (h0:J 0 w) :
  Calls Tryz.prog f.Dm #[.func (.yield L) #[] #[],.pointer (some ⟨b,0,none⟩)] w (AB λ _ w'=>J l.length w'):=by
 apply R.En
 delta R.A R.Ad R.B R.F R.H R.I R.Ls R.Ly R.Qi R.W R.X;try dsimp only [R.Ps]
 refine⟨_,_,_,(aU _ _ h0).2,λ s w1=>∃ k:Nat,k<=l.length/\s=[.int .i64 ((l.length:Int)-1-(k:Int))]/\J k w1,λ s _=>match s with
   | [.int _ i]=>(i+1).toNat
   | _=>0,⟨0,by omega,by rw [wrap_i64 (by omega) (by omega)];simp,h0⟩,?_⟩
 rintro _ w1 ⟨k,hk,aA,hj⟩;cases aA;refine Aa (λ aB=>?_) (λ aL=>?_)
 ·have aq:k<l.length:=by omega
  obtain⟨r1,r2⟩:=aU _ _ hj;have e:(l.length:Int)-1-(k:Int)=((l.length-1-k:Nat):Int):=by omega
  have hi:l.length-1-k<l.length:=by omega
  obtain⟨p,hp,hc⟩:=byte_at r1 hi;rw [e];refine⟨_,_,_,r2,⟨by omega,by omega⟩,?_⟩;rw [hp];refine⟨_,by rw [AnF];exact hc,?_⟩;refine (bD k w1 aq hj).mono ?_;rintro y w2 ⟨rfl,h⟩;rw [wrap_i64 (by omega) (by omega)];refine Aw ⟨⟨k+1,by omega,by rw [<- e];congr 2;omega,h⟩,?_⟩;show (((l.length-1-k:Nat):Int)-1+1).toNat<(((l.length-1-k:Nat):Int)+1).toNat;omega
 ·have:k=l.length:=by omega
  subst this;exact hj
end
theorem Ai8{n x:Nat}(hn:n<1099511627776)(hx:x<256):IntKind.i64.wrap (((BitVec.ofInt 64 (IntKind.i64.wrap ((n:Int)*2 ^ (min 8 64))) ||| BitVec.ofInt 64 (IntKind.i64.wrap (x:Int))).toNat:Int))=((n*256+x:Nat):Int):=by
 have e1:(n:Int)*2 ^ (min 8 64)=((n*256:Nat):Int):=by
  rw [show min 8 64=8 from rfl];omega
 rw [e1,wrap_i64 (n:=((n*256:Nat):Int)) (by omega) (by omega),wrap_i64 (n:=(x:Int)) (by omega) (by omega),BitVec.toNat_or,BitVec.ofInt_natCast,BitVec.ofInt_natCast,BitVec.toNat_ofNat,BitVec.toNat_ofNat,Nat.mod_eq_of_lt (by omega),Nat.mod_eq_of_lt (by omega)];have e2:n*256 ||| x=n*256+x:=by
  have:=Nat.two_pow_add_eq_or_of_lt (i:=8) (b:=x) hx n;rw [show 2 ^ 8*n=n*256 by omega] at this;exact this.symm
 rw [e2,wrap_i64 (by omega) (by omega)]
def SZ(l:List UInt8)(k:Nat):Nat:=(l.reverse.take k).foldl (λ n c=>n*256+c.toNat) 0
theorem VI{l:List UInt8}{k:Nat}(hk:k<l.length):SZ l (k+1)=SZ l k*256+(l[l.length-1-k]'(by omega)).toNat:=by
 unfold SZ;rw [Aou (by simpa using hk),List.foldl_append];simp only [List.foldl_cons,List.foldl_nil];congr 2;rw [List.getElem_reverse]
theorem WW{l:List UInt8}:∀ k,k<=l.length->SZ l k<256 ^ k
 | 0,_=>by simp [SZ]
 | k+1,h=>by
  have ih:=WW (l:=l) k (by omega);rw [VI (by omega),Nat.pow_succ];have:=(l[l.length-1-k]'(by omega)).toNat_lt;omega
theorem AfT(n:Nat)(hn:n<4294967296):SZ (RU n) 4=n:=by
 have h:∀ m,m<256->(AnG m).toNat=m:=λ m hm=>by simp;omega
 simp only [SZ,RU,List.reverse_cons,List.reverse_nil,List.nil_append,List.cons_append,List.take_succ_cons,List.take_zero,List.foldl_cons,List.foldl_nil];rw [h _ (by omega),h _ (by omega),h _ (by omega),h _ (by omega)];omega
def UU(q:AV):List Value:=(zC (Av q.2.2:Int) (Ht q.2.2)).toList
structure Fs(w:World)(p:Addr)(cs:List A0)(aH:List AV)(n:Nat):Prop where
 To:∃ a c,w.cell? p=some (.slice a cs.length c)/\Rd w a (A9 cs)
 Vv:∃ a c,w.cell? (p.add 1)=some (.slice a aH.length c)/\Bc w a aH
 Amx:∃ a c,w.cell? (p.add 2)=some (.slice a aH.length c)/\Rd w a (aH.flatMap UU)
 many:w.cell? (p.add 3)=some (.int .i64 (n:Int))
 right:Ao cs=true
 len:aH.length=cs.length
 small:n<=1024
 each:∀ q∈aH,q.2.2.length=n/\∃ k,Bi k q.2.2
structure Hy(cs:List A0)(rows:List (List Ax))(xs:List (List UInt8))(b:List UInt8):Prop where
 ok:DN cs rows
 chs:DM cs rows xs
 len:xs.length=cs.length
 eq:b=Mi cs rows xs
theorem Hy.split{cs:List A0}{rows:List (List Ax)}{xs:List (List UInt8)}{b:List UInt8}(h:Hy cs rows xs b):8<=b.length/\SZ (b.drop (b.length-4)) 4=(Ed cs rows xs).length/\(Ed cs rows xs).length<=b.length-8 /\
  ((b.take (b.length-4)).drop (b.length-4-(Ed cs rows xs).length))=Ed cs rows xs/\((b.take (b.length-4-(Ed cs rows xs).length)).drop 4)=xs.flatten:=by
 have hf:=h.chs.Xs h.ok;obtain⟨ft,cY⟩:∃ ft,ft=Ed cs rows xs:=⟨_,rfl⟩;have e:=h.eq;unfold Mi at e;rw [<- cY] at e hf ⊢;have hm:DS.length=4:=rfl;have jU:(RU ft.length).length=4:=rfl;have hl:b.length=4+xs.flatten.length+ft.length+4:=by rw [e];simp only [Anp,hm,jU]
 have e1:b.length-4=(DS++xs.flatten++ft).length:=by simp only [Anp,hm];omega
 have e2:b.length-4-ft.length=(DS++xs.flatten).length:=by simp only [Anp,hm];omega
 refine⟨by omega,?_,by omega,?_,?_⟩
 ·rw [e1,e,AoL];exact AfT _ (by omega)
 ·rw [e2,e1,e,Ant,AoL]
 ·rw [e2,e,AnA (DS++xs.flatten),Ant,show 4=DS.length from rfl,AoL]
def AlB(b:List UInt8)(w w':World)(v:Value):Prop :=
 Below w.heap.size w w'/\((∃ p cs aH n,v=.tuple #[.pointer (some p),.bool true]/\Fs w' p cs aH n/\∀ aC rows' iD,Hy aC rows' iD b->cs=aC/\n=rows'.length/\rws aH=(AnY aC.length).map (Bk rows')) \/
  (v=.tuple #[.pointer none,.bool false]/\∀ aC rows' iD,¬ Hy aC rows' iD b))
theorem tVV:Ia Tryz.prog ty.FJ=some (ty.BM,1,24,.slice none 0 0):=by kernel_rfl
theorem tZZ:Ia Tryz.prog ty.IV=some (ty.AX,7,72,.agg #[.int .i64 0,.int .i64 0,.int .i64 0,.string ⟨#[]⟩,.int .i64 0,.int .i64 0,.string ⟨#[]⟩]):=by kernel_rfl
def Pc(a:Option Addr)(c:Nat)(aH:List AV):It:=It.row ty.BM 1 a aH.length c (aH.map Bl)
def AfB(a:Option Addr)(c:Nat)(aH:List AV):It:=It.row ty.AX 7 a aH.length c (aH.flatMap UU)
section
variable {w0 w:World}{H:List It}{a:Option Addr}{c:Nat}{aH:List AV}
theorem X9(S:ST w0 w H)(n:Nat)(hn:H[n]?=some (Pc a c aH)){x:AV}{b:Nat}(hs:Rd w (some ⟨b,0,none⟩) [Bl x])(hl:aH.length+1<=1000000){f:Value->World->Prop}
  (hf:∀ a' c' w',ST w0 w' (H.set n (Pc a' c' (aH++[x])))->f (.slice a' (aH++[x]).length c') w') :
  CD Tryz.prog (Builtin.append_ #[ty.FJ,ty.FJ] ty.FJ #[.slice a aH.length c,.slice (some ⟨b,0,none⟩) 1 1]) f w:=by
 refine S.app n hn tVV rfl (by omega) (by omega) hs (mm:=1) rfl (by simp [Bl];rfl) (by omega) λ a' c' w' S'=>?_;have e1:(aH++[x]).length=aH.length+1:=by simp
 have e2:aH.map Bl++[Bl x]=(aH++[x]).map Bl:=by simp
 rw [e2] at S';have:=hf a' c' w' (by unfold Pc;rw [e1];exact S');rwa [e1] at this
theorem AcD(S:ST w0 w H)(n:Nat)(hn:H[n]?=some (AfB a c aH)){x:AV}{b:Nat}(hs:Rd w (some ⟨b,0,none⟩) (UU x))(hl:aH.length+1<=1000000){f:Value->World->Prop}
  (hf:∀ a' c' w',ST w0 w' (H.set n (AfB a' c' (aH++[x])))->f (.slice a' (aH++[x]).length c') w') :
  CD Tryz.prog (Builtin.append_ #[ty.IV,ty.IV] ty.IV #[.slice a aH.length c,.slice (some ⟨b,0,none⟩) 1 1]) f w:=by
 refine S.app n hn tZZ rfl (by omega) (by omega) hs (mm:=1) rfl (by simp [UU,zC];exact⟨rfl,rfl,rfl,rfl,rfl,rfl,rfl⟩) (by omega) λ a' c' w' S'=>?_;have e1:(aH++[x]).length=aH.length+1:=by simp
 have e2:aH.flatMap UU++UU x=(aH++[x]).flatMap UU:=by simp
 rw [e2] at S';have:=hf a' c' w' (by unfold AfB;rw [e1];exact S');rwa [e1] at this
end
theorem Vu{l:List UInt8}{at_:Int}{r:List A0 × Nat}(h:Fc l at_=some r):Ao r.1=true:=by
 unfold Fc at h;split at h
 ·cases h
 ·split at h
  ·cases h
  ·split at h
   ·cases h
   ·split at h
    ·rename_i hR;cases h;exact hR
    ·cases h
theorem YQ.open{o:Option (List A0 × Nat)}{w0 w w':World}{v:Value}{H:List It}(S:ST w0 w H)(h:YQ o w w' v)(hr:∀ r,o=some r->Ao r.1=true):∃(cs:List A0) (ca:Option Addr) (cc aY:Nat) (e:Int),v=.tuple #[.slice ca cs.length cc,.int .i64 (aY:Int),.int .i64 e]/\ST w0 w' (Bg ca cc cs :: H) /\
  cs.length<=16/\((e=0/\o=some (cs,aY)/\Ao cs=true)\/(e≠0/\o=none)):=by
 cases o with
 | none =>
  obtain⟨rfl,B⟩:=h;exact⟨[],none,0,0,52,rfl,(S.grown B).nil _ _,by simp,.inr ⟨by decide,rfl⟩⟩
 | some r =>
  obtain⟨ca,cc,rfl,S2⟩:=h;have hR:=hr r rfl;exact⟨r.1,ca,cc,r.2,0,rfl,S.join S2,(Be hR).2,.inl ⟨rfl,rfl,hR⟩⟩
theorem PlV.open{o:Option (Nat × List Nat)}{w0 w w':World}{v:Value}{H:List It}(S:ST w0 w H)(h:PlV o w w' v):∃(r:Nat) (ns:List Nat) (na:Option Addr) (nc:Nat) (ok:Bool),v=.tuple #[.int .i64 (r:Int),.slice na ns.length nc,.bool ok]/\ST w0 w' (Ox na nc ns :: H) /\
  ((ok=true/\o=some (r,ns))\/(ok=false/\o=none)):=by
 cases o with
 | none =>
  obtain⟨rfl,B⟩:=h;exact⟨0,[],none,0,false,rfl,(S.grown B).nil _ _,.inr ⟨rfl,rfl⟩⟩
 | some r =>
  obtain⟨na,nc,rfl,S2⟩:=h;exact⟨r.1,r.2,na,nc,true,rfl,S.join S2,.inl ⟨rfl,rfl⟩⟩
theorem AkT{w:World}{a:Option Addr}{ns:List Nat}(h:Rd w a (ns.map λ n:Nat=>Value.int .i64 (n:Int))){i:Nat}(hi:i<ns.length):∃ p,a=some p/\w.cell? (p.add (i*1))=some (.int .i64 (ns[i]:Int)):=by
 obtain⟨p,hp,hc⟩:=h i (.int .i64 (ns[i]:Int)) (by simp [hi]);exact⟨p,hp,by rw [AnI];exact hc⟩
def Wt(q:AV):It:=It.rd q.1 (AW q.2.2)
theorem AdI{w0 w w':World}{H:List It}{a:Option Addr}{xs:List Value}(S:ST w0 w H)(B:Below w.heap.size w w')(h:RdN w w' a xs):ST w0 w' (It.rd a xs :: H):=by
 refine S.add B _ h.rd λ k hk=>h.new k ?_;cases xs with
 | nil=>cases hk
 | cons x xs=>exact hk
theorem Xq{xs:List (List UInt8)}{i:Nat}(hi:i<xs.length):(xs.drop i).flatten=xs[i]++(xs.drop (i+1)).flatten:=by
 rw [List.drop_eq_getElem_cons hi,Aoq]
section
variable {w:World}{a:Option Addr}{c:Nat}{b:List UInt8}
theorem Aaw(hl:Rd w a (b.map Af))(hc:b.length<=c){n:Nat}(h8:8<=b.length)(hn:n<=b.length-8) :
  Rd w (Cc (Cc a 0 c 1) (b.length-4-n) c 1) (((b.take (b.length-4)).drop (b.length-4-n)).map Af)/\Rd w (Cc (Cc a 0 c 1) 4 c 1) (((b.take (b.length-4-n)).drop 4).map Af):=by
 have h1:=hl.Yr 0 (b.length-4) c 1 (by omega);have h2:=h1.Yr (b.length-4-n) (b.length-4) c 1 (by omega);have h3:=h1.Yr 4 (b.length-4-n) c 1 (by omega);simp only [AnI,Ao0,AoV] at h2 h3;constructor
 ·rw [<- AoW,<- AoZ,<- AoW] at h2;have e:((b.take (b.length-4)).drop (b.length-4-n)).take (b.length-4-(b.length-4-n))=(b.take (b.length-4)).drop (b.length-4-n):=Aoy (by rw [AnC,Anw];omega);rw [e] at h2;exact h2
 ·rw [<- AoW,<- AoZ,<- AoW] at h3;have e:((b.take (b.length-4)).drop 4).take (b.length-4-n-4)=(b.take (b.length-4-n)).drop 4:=by
   rw [List.drop_take,List.drop_take,List.take_take];congr 1;omega
  rw [e] at h3;exact h3
theorem Sc(hl:Rd w a (b.map Af))(hc:b.length<=c)(hs:b.length<=140737488355328)(h8:8<=b.length) :
  Calls Tryz.prog f.X6 #[.slice a b.length c] w (AB λ v w'=>AlB b w w' v):=by
 apply R.Ny
 delta R.A R.Ab R.Ad R.B R.DY R.AcR R.AjB R.Yx R.Cf R.D R.F R.G R.H R.I R.J R.Ks R.Li R.Ls R.Lt R.N R.O R.P R.Hz R.S R.Ah R.T R.W R.X R.Y;try dsimp only [R.Ps]
 have eW:IntKind.i64.wrap ((b.length:Int)-4)=((b.length-4:Nat):Int):=by rw [wrap_i64 (by omega) (by omega)];omega
 rw [eW];simp only [AnF,AoV];obtain⟨t,ht⟩:∃ t,t=b.drop (b.length-4):=⟨_,rfl⟩;have fE:t.length=4:=by rw [ht,AnC];omega
 have yM:Rd w (Cc a (b.length-4) c 1) (t.map Af):=by
  have h:=hl.Yr (b.length-4) b.length c 1 hc;simp only [AnI] at h;rw [<- AoZ,<- AoW] at h;rw [ht];have e:(b.drop (b.length-4)).take (b.length-(b.length-4))=b.drop (b.length-4):=Aoy (by rw [AnC];omega);rwa [e] at h
 refine (ST.start w).Aj λ b2 w1 _ _ S=>S.Cr 0 rfl (aC:=#[.int .i64 0]) (by simp) rfl λ w2 S=>⟨⟨by omega,by omega,by omega⟩,?_⟩;have hB:=Yv (w:=w2) (a:=Cc a (b.length-4) c 1) (c:=c-(b.length-4)) (l:=t);rw [show b.length-(b.length-4)=t.length by omega];refine hB.mono ?_;rintro _ w3 ⟨_,rfl,bq,rfl,P⟩;have S:=S.join P;refine⟨_,_,_,rfl,by kernel_rfl,λ rr aA bJ hy=>?_⟩;have S:=S.range rr;obtain⟨L,hL⟩:∃ L,L=w3.heap.size+1:=⟨_,rfl⟩;obtain⟨d,hd⟩:∃ d,d=w3.heap.size:=⟨_,rfl⟩;rw [<- hL] at S hy ⊢;rw [<- hd] at S ⊢;let J:Nat->World->Prop:=λ k wx=>ST w wx [It.obj L (.loop rr),It.obj d (.deferred (some [])),It.cells bq #[.slice (Cc a (b.length-4) c 1) t.length (c-(b.length-4))] ty.AA,It.cells b2 #[.int .i64 (SZ t k:Int)] ty.int];have aj:=Tg (w:=(w3.alloc (.deferred (some []))).alloc (.loop rr)) (a:=Cc a (b.length-4) c 1) (c:=c-(b.length-4)) (l:=t) (L:=L) (b:=bq) (by omega) J (λ k wx (hj:ST w wx _)=>⟨yM.grown hj.An,hj.cell 2 rfl rfl⟩) (by
  rintro k wx hk (S:ST w wx _);have h1:=WW (l:=t) k (by omega);have h2:256 ^ k<=256 ^ 3:=Nat.pow_le_pow_right (by omega) (by omega);have h3:(256:Nat) ^ 3=16777216:=by decide
  refine hy _ _ _ wx (S.get 0 rfl) ?_;refine S.Abm 0 rfl λ w5 S=>⟨_,S.cell 3 rfl rfl,?_⟩;rw [Ai8 (by omega) ((t[t.length-1-k]'(by omega)).toNat_lt)];rw [<- VI hk];exact S.Cr 3 rfl (aC:=#[.int .i64 (SZ t (k+1):Int)]) (by simp) rfl λ w6 S=>S.QV 0 aA bJ rfl λ w7 S=>⟨rfl,S⟩) S
 refine aj.mono ?_;rw [fE];rintro _ w7 ⟨_,rfl,S⟩;obtain⟨n,hn⟩:∃ n,n=SZ t 4:=⟨_,rfl⟩;have S:ST w w7 [It.obj L (.loop rr),It.obj d (.deferred (some [])),It.cells bq #[.slice (Cc a (b.length-4) c 1) t.length (c-(b.length-4))] ty.AA,It.cells b2 #[.int .i64 (n:Int)] ty.int]:=by rw [hn];exact S
 have y9:n<4294967296:=by rw [hn];exact WW (l:=t) 4 (by omega)
 have eK:∀ cs rows xs,Hy cs rows xs b->n=(Ed cs rows xs).length:=λ cs rows xs h=>by rw [hn,ht];exact h.split.2.1
 refine⟨⟨_,rfl⟩,S.QU 0 aA bJ rfl λ w8 S=>⟨rfl,⟨by omega,by omega,by omega⟩,_,S.cell 3 rfl rfl,?_⟩⟩;have tT:IntKind.i64.wrap (((b.length-4:Nat):Int)-4)=((b.length-8:Nat):Int):=by rw [wrap_i64 (by omega) (by omega)];omega
 have bad:∀ {wx:World} {H:List It},ST w wx (It.obj d (.deferred (some [])) :: H)->(∀ aC rows' iD,¬ Hy aC rows' iD b)->wx.heap[d]?=some (.deferred (some []))/\AlB b w (wx.putObj d (.deferred none)) (.tuple #[.pointer none,.bool false]):=λ S h=>⟨S.get 0 rfl,(S.put 0 rfl _).An,.inr ⟨rfl,h⟩⟩;refine Aa (λ h=>bad (S.drop 1) λ cs rows xs hP=>?_) (λ hle=>?_)
 ·have:=hP.split.2.2.1;have:=eK cs rows xs hP;rw [tT] at h;omega
 rw [tT] at hle;have rP:n<=b.length-8:=by omega
 refine S.draw λ w9 _ S=>⟨_,S.cell 3 rfl rfl,?_⟩;have tV:IntKind.i64.wrap (((b.length-4:Nat):Int)-(n:Int))=((b.length-4-n:Nat):Int):=by rw [wrap_i64 (by omega) (by omega)];omega
 rw [tV];simp only [AnF];refine⟨⟨by omega,by omega,by omega⟩,_,S.cell 3 rfl rfl,?_⟩;rw [tV];simp only [AnF];refine⟨⟨by omega,by omega,by omega⟩,?_⟩;obtain⟨fX,nP⟩:=Aaw hl hc h8 rP;obtain⟨ft,cY⟩:∃ ft,ft=(b.take (b.length-4)).drop (b.length-4-n):=⟨_,rfl⟩;obtain⟨bd,hbd⟩:∃ bd,bd=(b.take (b.length-4-n)).drop 4:=⟨_,rfl⟩;rw [<- cY] at fX;rw [<- hbd] at nP;obtain⟨fa,hfa⟩:∃ fa,fa=Cc (Cc a 0 c 1) (b.length-4-n) c 1:=⟨_,rfl⟩;obtain⟨ba,hba⟩:∃ ba,ba=Cc (Cc a 0 c 1) 4 c 1:=⟨_,rfl⟩;rw [<- hfa] at fX ⊢;rw [<- hba] at nP ⊢;have mg:ft.length=b.length-4-(b.length-4-n):=by rw [cY,AnC,Anw];omega
 have qf:bd.length=b.length-4-n-4:=by rw [hbd,AnC,Anw];omega
 rw [<- mg,<- qf];have eD:∀ cs rows xs,Hy cs rows xs b->ft=Ed cs rows xs/\bd=xs.flatten:=λ cs rows xs hP=>by
  have e:=eK cs rows xs hP;have:=hP.split.2.2.2;rw [<- e] at this;exact⟨by rw [cY];exact this.1,by rw [hbd];exact this.2⟩
 have hT:=Uv (c:=c-(b.length-4-n)) (fX.grown S.An) (by omega) (by omega) 0;refine hT.mono ?_;rintro _ cX ⟨_,rfl,hT⟩;obtain⟨cs,ca,cc,aY,e,rfl,S,bR,bG⟩:=hT.open S (λ r h=>Vu h);refine⟨_,_,_,_,_,rfl,(O9 (c:=c-(b.length-4-n)) (fX.grown S.An) (by omega) (by omega) (aY:Int) cs.length (by omega)).mono ?_⟩;rintro _ aW ⟨_,rfl,xD⟩;obtain⟨r,ns,na,nc,ok,rfl,S,hns⟩:=xD.open S;refine⟨_,_,_,_,_,rfl,Au (λ h=>bad (S.drop 3) λ aC rows xs hP=>?_) (λ he=>A5 (AU (λ ar=>?_) (λ ar=>bad (S.drop 3) λ aC rows xs hP=>?_)))⟩
 ·have h2:=TI (xs:=xs) hP.ok;rw [<- (eD aC rows xs hP).1] at h2;rcases bG with ⟨h3,_⟩ | ⟨_,h3⟩
  ·exact h h3
  ·rw [h2] at h3;cases h3
 rotate_left
 ·have h2:=TI (xs:=xs) hP.ok;rw [<- (eD aC rows xs hP).1] at h2;rcases bG with ⟨_,h3,_⟩ | ⟨h3,_⟩
  ·rw [h2] at h3;have h4:=Aoj h3;obtain rfl:aC=cs:=congrArg Prod.fst h4;obtain rfl:(Fh aC).length=aY:=congrArg Prod.snd h4;have h5:=Adf (lim:=1073741824) (by omega) hP.ok hP.chs hP.len;rw [<- (eD aC rows xs hP).1] at h5;rcases hns with ⟨h6,_⟩ | ⟨_,h6⟩
   ·rw [ar] at h6;cases h6
   ·rw [h5] at h6;cases h6
  ·exact h3 he
 have mX:Fc ft 0=some (cs,aY)/\Ao cs=true:=by
  rcases bG with ⟨_,h3⟩ | ⟨h3,_⟩
  ·exact h3
  ·exact absurd he h3
 have nI:Hi 1073741824 ft (aY:Int) cs.length=some (r,ns):=by
  rcases hns with ⟨_,h6⟩ | ⟨h6,_⟩
  ·exact h6
  ·rw [ar] at h6;cases h6
 obtain⟨er,hr24⟩:=AcI nI;simp only at er hr24;have key:∀ aC rows xs,Hy aC rows xs b->cs=aC/\r=rows.length/\ns=xs.map AoO/\bd=xs.flatten:=λ aC rows xs hP=>by
  have h2:=TI (xs:=xs) hP.ok;rw [<- (eD aC rows xs hP).1,mX.1] at h2;have h4:=Aoj h2;obtain rfl:cs=aC:=congrArg Prod.fst h4;obtain rfl:aY=(Fh cs).length:=congrArg Prod.snd h4;have h5:=Adf (lim:=1073741824) (by omega) hP.ok hP.chs hP.len;rw [<- (eD cs rows xs hP).1,nI] at h5;have h6:=Aoj h5;exact⟨rfl,congrArg Prod.fst h6,congrArg Prod.snd h6,(eD cs rows xs hP).2⟩
 refine S.Aj λ gK dN _ _ S=>?_;have S:=((S.nil ty.AX 7).nil ty.BM 1).pull 2 rfl;obtain⟨oL,hoL⟩:∃ oL,oL=Obj.loop { rr with state:=.exhausted,pending:=none }:=⟨_,rfl⟩;let Hq:Option Addr->Nat->Option Addr->Nat->List AV->List It:=λ va vc za zc aH=>It.cells gK #[.slice ca cs.length cc,.slice va aH.length vc,.slice za aH.length zc,.int .i64 (r:Int)] ty.Gf :: Pc va vc aH :: AfB za zc aH :: Ox na nc ns :: Bg ca cc cs ::
  It.obj L oL :: It.obj d (.deferred (some [])) :: It.cells bq #[.slice (Cc a (b.length-4) c 1) t.length (c-(b.length-4))] ty.AA :: It.cells b2 #[.int .i64 (n:Int)] ty.int :: aH.reverse.map Wt
 let Inv:List Value->World->Prop:=λ s wx=>∃(i:Nat) (rest:List UInt8) (ra:Option Addr) (rc:Nat) (aH:List AV) (va:Option Addr) (vc:Nat) (za:Option Addr) (zc:Nat),s=[.slice ra rest.length rc,.int .i64 (i:Int)]/\i<=ns.length/\aH.length=i/\rest.length<=rc/\rest.length<=b.length/\Rd w ra (rest.map Af) /\
  (∀ q∈aH,q.2.2.length=r/\∃ k,Bi k q.2.2)/\(∀ aC rows xs,Hy aC rows xs b->rest=(xs.drop i).flatten/\rws aH=(AnY i).map (Bk rows))/\ST w wx (Hq va vc za zc aH)
 let Mu:List Value->World->Nat:=λ s _=>match s with
   | [_,.int _ i]=>ns.length-i.toNat
   | _=>0
 refine⟨Inv,Mu,⟨0,bd,ba,c-4,[],none,0,none,0,rfl,by omega,rfl,by omega,by omega,nP,by simp,λ aC rows xs hP=>⟨by rw [(key aC rows xs hP).2.2.2];rfl,rfl⟩,by simp only [Hq];rw [hoL];exact S⟩,?_⟩;rintro ra _ rc _ bN ⟨i,rest,_,_,aH,va,vc,za,zc,aA,hi,qn,yJ,lB,hR,jP,bL,S⟩;cases aA;refine Aa (λ aB=>⟨⟨by omega,aB⟩,?_⟩) (λ aL=>?_)
 ·have aF:i<ns.length:=by omega
  have hN:Rd bN na (ns.map λ n:Nat=>Value.int .i64 (n:Int)):=S.rd 3 rfl;obtain⟨pn,oU,ql⟩:=AkT hN aF;rw [oU];have gD:∀ aC rows xs,Hy aC rows xs b->∃ hx:i<xs.length,ns[i]=xs[i].length/\rest=xs[i]++(xs.drop (i+1)).flatten:=λ aC rows xs hP=>by
   have h1:=(key aC rows xs hP).2.2.1;have hx:i<xs.length:=by rw [h1,AnS] at aF;exact aF
   refine⟨hx,?_,by rw [(bL aC rows xs hP).1,Xq hx]⟩;simp [h1]
  refine⟨_,by rw [AnF];exact ql,Aa (λ h=>bad (S.pull 6 rfl) λ aC rows xs hP=>?_) (λ br=>?_)⟩
  ·obtain⟨hx,h1,h2⟩:=gD aC rows xs hP;have:=congrArg AoO h2;rw [Anp] at this;omega
  have tv:ns[i]<=rest.length:=by omega
  simp only [AnF];refine⟨⟨by omega,by omega,by omega⟩,?_⟩;have bm:Rd w (Cc ra 0 rc 1) ((rest.take ns[i]).map Af):=by
   have h:=hR.Yr 0 ns[i] rc 1 (by omega);simp only [AnI,Ao0,AoV] at h;rw [<- AoW] at h;exact h
  have yU:Rd w (Cc ra ns[i] rc 1) ((rest.drop ns[i]).map Af):=by
   have h:=hR.Yr ns[i] rest.length rc 1 yJ;simp only [AnI] at h;rw [<- AoZ,<- AoW] at h;have e:(rest.drop ns[i]).take (rest.length-ns[i])=rest.drop ns[i]:=Aoy (by rw [AnC];omega);rwa [e] at h
  have sJ:(rest.take ns[i]).length=ns[i]:=by rw [Anw];omega
  have hD:=Rz (c:=rc) (bm.grown S.An) (by omega) (by omega);rw [sJ] at hD;refine hD.mono ?_;rintro _ bF ⟨_,rfl,K,ls,la,lc,e,rfl,xG,ov,nA,aM⟩;have S:=AdI S ov xG;have k8:∀ aC rows xs,Hy aC rows xs b->e=0/\ls=Bk rows i:=λ aC rows xs hP=>by
   obtain⟨hx,h1,h2⟩:=gD aC rows xs hP;have sP:i<aC.length:=by have:=hP.len;omega
   have h3:rest.take ns[i]=xs[i]:=by rw [h1,h2,Ant]
   have h4:=hP.chs.each i sP hx;rw [<- h3] at h4;rcases aM with ⟨_,_,he,hu⟩ | ⟨bC,_⟩
   ·exact⟨he,((hu _ _ (hP.ok.F9 sP) h4).2).symm⟩
   ·exact absurd h4 (bC _ _ (hP.ok.F9 sP))
  refine⟨_,_,_,_,_,rfl,Au (λ h=>bad (S.pull 7 rfl) λ aC rows xs hP=>h (k8 aC rows xs hP).1) (λ he=>Au (λ h=>bad (S.pull 7 rfl) λ aC rows xs hP=>?_) (λ zo=>?_))⟩
  ·apply h;rw [(k8 aC rows xs hP).2,LU,(key aC rows xs hP).2.1]
  obtain⟨hg,hC⟩:Bi K ls/\True:=by
   rcases aM with ⟨hg,_⟩ | ⟨_,_,_,h80⟩
   ·exact⟨hg,trivial⟩
   ·omega
  refine (Mv (c:=lc) (S.ok (It.rd la (AW ls)) (by simp))).mono ?_;rintro _ ay ⟨_,rfl,lI,eL⟩;rcases lI with ⟨_,rfl⟩ | ⟨bC,_⟩
  case inr=>exact absurd hg.LO bC
  have S:=S.grown eL;obtain⟨q,hq⟩:∃ q:AV,q=(la,lc,ls):=⟨_,rfl⟩;refine⟨_,_,_,_,_,_,_,_,rfl,S.Aj λ tF dY _ _ S=>S.Afm 0 rfl λ ka S=>S.draw λ nq _ S=>⟨⟨by omega,by omega,by omega⟩,_,_,_,S.cell 2 rfl rfl,_,_,_,S.cell 2 rfl rfl,_,S.cell 0 rfl rfl,_,S.cell 0 rfl rfl,_,S.cell 0 rfl rfl,_,S.cell 0 rfl rfl,_,S.cell 0 rfl rfl,_,S.cell 0 rfl rfl,_,S.cell 0 rfl rfl,?_⟩⟩;have fx:aH.length+1<=1000000:=by omega
  have fin:∀(wx:World) (x0 x1 x2:It) (fF:Option Addr) (fG:Nat) (fZ:Option Addr) (fe:Nat),ST w wx (x0 :: x1 :: x2 :: It.rd la (AW ls) :: It.cells gK #[.slice ca cs.length cc,.slice va aH.length vc,.slice za aH.length zc,.int .i64 (r:Int)] ty.Gf :: Pc fF fG (aH++[q]) :: AfB fZ fe (aH++[q]) :: Ox na nc ns :: Bg ca cc cs ::
     It.obj L oL :: It.obj d (.deferred (some [])) :: It.cells bq #[.slice (Cc a (b.length-4) c 1) t.length (c-(b.length-4))] ty.AA :: It.cells b2 #[.int .i64 (n:Int)] ty.int :: aH.reverse.map Wt) ->
    Cd ⟨gK,1,none⟩ (.slice fF (aH++[q]).length fG) (λ sj=>Cd ⟨gK,2,none⟩ (.slice fZ (aH++[q]).length fe) (λ jE=>Inv [.slice (Cc ra ns[i] rc 1) (rest.length-ns[i]) (rc-ns[i]),.int .i64 (IntKind.i64.wrap ((i:Int)+1))] jE /\
     Mu [.slice (Cc ra ns[i] rc 1) (rest.length-ns[i]) (rc-ns[i]),.int .i64 (IntKind.i64.wrap ((i:Int)+1))] jE<Mu [.slice ra rest.length rc,.int .i64 (i:Int)] bN) sj) wx:=by
   intro wx x0 x1 x2 fF fG fZ fe S;refine S.Cr 4 rfl (aC:=#[.slice ca cs.length cc,.slice fF (aH++[q]).length fG,.slice za aH.length zc,.int .i64 (r:Int)]) (by simp) rfl λ sj S=>S.Cr 4 rfl (aC:=#[.slice ca cs.length cc,.slice fF (aH++[q]).length fG,.slice fZ (aH++[q]).length fe,.int .i64 (r:Int)]) (by simp) rfl λ jE S=>?_;rw [Ai (by omega)];have fQ:(rest.drop ns[i]).length=rest.length-ns[i]:=AnC;refine⟨⟨i+1,rest.drop ns[i],Cc ra ns[i] rc 1,rc-ns[i],aH++[q],fF,fG,fZ,fe,by rw [fQ],by omega,by simp [qn],by omega,by omega,yU,λ q' dI=>?_,λ aC rows xs hP=>?_,?_⟩,?_⟩
   ·rcases Aow.1 dI with h | h
    ·exact jP q' h
    ·rw [List.mem_singleton.1 h,hq];exact⟨by show ls.length=r;omega,K,hg⟩
   ·obtain⟨hx,h1,h2⟩:=gD aC rows xs hP;refine⟨by rw [h2,h1,AoL],?_⟩;rw [rws,Aov,List.range_succ,Aov];have:=(bL aC rows xs hP).2;rw [rws] at this;rw [this];simp [hq,(k8 aC rows xs hP).2]
   ·have S3:=S.drop 3;show ST w jE (Hq fF fG fZ fe (aH++[q]));have e:(aH++[q]).reverse.map Wt=It.rd la (AW ls) :: aH.reverse.map Wt:=by
     rw [List.reverse_append,Aov,hq];rfl
    simp only [Hq];rw [e];exact S3.perm (List.perm_middle (l₁:=[It.cells gK #[.slice ca cs.length cc,.slice fF (aH++[q]).length fG,.slice fZ (aH++[q]).length fe,.int .i64 (r:Int)] ty.Gf,Pc fF fG (aH++[q]),AfB fZ fe (aH++[q]),Ox na nc ns,Bg ca cc cs,It.obj L oL,It.obj d (.deferred (some [])),It.cells bq #[.slice (Cc a (b.length-4) c 1) t.length (c-(b.length-4))] ty.AA,It.cells b2 #[.int .i64 (n:Int)] ty.int])).symm
   ·show ns.length-((i+1:Nat):Int).toNat<ns.length-((i:Nat):Int).toNat;simp only [AnF];omega
  have lC:Bl q=.slice la ls.length lc:=by rw [hq];rfl
  have gP:UU q=(zC (Av ls:Int) (Ht ls)).toList:=by rw [hq];rfl
  refine⟨S.Aj λ tH uZ _ _ S=>⟨⟨S.cell 1 rfl rfl,S.cell 1 rfl rfl,S.cell 1 rfl rfl,S.cell 1 rfl rfl,S.cell 1 rfl rfl,S.cell 1 rfl rfl,S.cell 1 rfl rfl⟩,S.cell 3 rfl rfl,S.cell 3 rfl rfl,?_,?_⟩,S.Aj λ vz ue _ _ S=>⟨S.cell 3 rfl rfl,S.cell 3 rfl rfl,S.Aj λ wC kb _ _ S=>⟨S.cell 4 rfl rfl,S.cell 4 rfl rfl,?_⟩⟩⟩
  ·have nS:Rd uZ (some ⟨tH,0,none⟩) [Bl q]:=by rw [lC];exact S.rdc 0 rfl
   refine X9 S 4 rfl nS fx λ fF fG ub S=>⟨_,_,_,rfl,⟨S.cell 1 rfl rfl,S.cell 1 rfl rfl,S.cell 1 rfl rfl,S.cell 1 rfl rfl,S.cell 1 rfl rfl,S.cell 1 rfl rfl,S.cell 1 rfl rfl⟩,S.cell 3 rfl rfl,S.Aj λ vx nt _ _ S=>⟨S.cell 4 rfl rfl,?_⟩⟩;have gy:Rd nt (some ⟨vx,0,none⟩) (UU q):=by rw [gP];exact S.rdc 0 rfl
   exact AcD S 6 rfl gy fx λ fZ fe si S=>⟨_,_,_,rfl,fin si _ _ _ fF fG fZ fe S⟩
  ·refine S.Aj λ vy nu _ _ S=>⟨S.cell 4 rfl rfl,S.cell 4 rfl rfl,?_⟩;have nS:Rd nu (some ⟨tH,0,none⟩) [Bl q]:=by rw [lC];exact S.rdc 1 rfl
   refine X9 S 5 rfl nS fx λ fF fG cE S=>⟨_,_,_,rfl,S.cell 4 rfl rfl,?_⟩;have gy:Rd cE (some ⟨vy,0,none⟩) (UU q):=by rw [gP];exact S.rdc 0 rfl
   exact AcD S 6 rfl gy fx λ fZ fe ud S=>⟨_,_,_,rfl,fin ud _ _ _ fF fG fZ fe S⟩
  ·have nS:Rd kb (some ⟨wC,0,none⟩) [Bl q]:=by rw [lC];exact S.rdc 0 rfl
   refine X9 S 5 rfl nS fx λ fF fG uf S=>⟨_,_,_,rfl,S.cell 4 rfl rfl,?_⟩;have gy:Rd uf (some ⟨vz,0,none⟩) (UU q):=by rw [gP];exact S.rdc 1 rfl
   exact AcD S 6 rfl gy fx λ fZ fe ke S=>⟨_,_,_,rfl,fin ke _ _ _ fF fG fZ fe S⟩
 ·have cL:i=ns.length:=by omega
  refine⟨S.get 6 rfl,?_⟩;have S:=S.put 6 rfl (.deferred none);refine⟨S.An,.inl ⟨⟨gK,0,none⟩,cs,aH,r,rfl,⟨⟨ca,cc,S.cell 0 rfl rfl,S.rd 4 rfl⟩,⟨va,vc,S.cell 0 rfl rfl,S.rd 1 rfl,λ q hq=>?_⟩,⟨za,zc,S.cell 0 rfl rfl,S.rd 2 rfl⟩,S.cell 0 rfl rfl,mX.2,by omega,hr24,jP⟩,λ aC rows xs hP=>?_⟩⟩
  ·have hm:Wt q∈aH.reverse.map Wt:=Ang.2 ⟨q,List.mem_reverse.2 hq,rfl⟩;exact S.ok (Wt q) (List.mem_of_mem_drop (i:=9) hm)
  ·obtain⟨h1,h2,h3,h4⟩:=key aC rows xs hP;refine⟨h1,h2,?_⟩;rw [(bL aC rows xs hP).2,cL,er,h1]
end
end Go.Proofs.YtoepjfblppfabaaGreatDoor
