/-
  Texts of this claim, laid one behind the other by a program of mine (install.py): G.Ch3, G.Sum2, G.Ch4, G.Ch5, G.TakeS2, G.Table, G.Dec, G.IntsD, G.IntsF, G.IntsG, G.Ch10, G.Sch9, G.Cmp.
-/
import Derived.Test.YtpnaifmmggnimaaGreatDoorM6
import Derived.Test.YtpnaifmmggnimaaGreatDoorM5
import Derived.Test.YtpnaifmmggnimaaGreatDoorM4
namespace Go.Proofs.YtpnaifmmggnimaaGreatDoor
open _root_.Int renaming toNat_natCast -> Ale
open _root_.List renaming append_assoc -> Alc, append_nil -> Amc, drop_drop -> Amx, getElem?_eq_none -> Al3, getElem_mem -> AlS, length -> Amz, length_append -> Alb, length_cons -> Ald, length_drop -> AlE, length_map -> Alr, length_nil -> Amp, length_pos_iff -> Amh, length_set -> Ali, length_take -> Al7, map_append -> Alv, mem_append -> Al8, mem_map -> AkU, mem_singleton -> Al9, replicate -> Ak9, replicate_succ -> Amy, take_of_length_le -> AlK, take_succ_eq_append_getElem -> Al6
open _root_.Nat renaming le_trans -> Als
open _root_.Option renaming bind_some -> Amv, getD_some -> Amw, map_some -> AmA
open _root_.Option.some renaming inj -> Ami
open _root_.UInt8 renaming ofNat -> Alj
set_option maxRecDepth 100000
open Go.Dn Go.Proofs
open Go.RowKit (Below)
set_option linter.unusedVariables false
section
variable {w:World}{a:Option Addr}{c:Nat}{ls:List AB}
theorem QX{kind:Int}(hg:Be kind ls)(hl:Rd w a (AP ls)) :
  Calls Tryz.prog f.VZ #[.int .i64 kind,.slice a ls.length c] w (AG λ v w'=>∃ b a' c',v=.slice a' b.length c'/\D9 kind ls b/\Bm w w' b a' c'):=by
 have hlen:=hg.len;apply R.MM
 delta R.A R.Ab R.MG R.AR R.Cf R.D R.E R.F R.I R.J R.Ks R.Li R.Ls R.Lt R.N R.O R.S R.Am R.T;try dsimp only [R.Ps]
 refine (SH.start (λ _=>False) w).An λ b3 w1 dG B1 S1=>S1.An λ b4 w2 jy B2 S2=>Nn.mono ?_;rintro _ w9 ⟨_,rfl,bI,rfl,P9⟩;refine⟨_,_,_,rfl,by kernel_rfl,λ rr aA dW hy=>?_⟩;obtain⟨W1,hW1⟩:∃ W1,W1=(w9.alloc (.deferred (some []))).alloc (.loop rr):=⟨_,rfl⟩;rw [<- hW1];have fq:Below w9.heap.size w9 W1:=by rw [hW1];exact (((Below.refl _ w9).alloc (Nat.le_refl _) _).alloc (by simp) _)
 have sL:W1.heap.size=w9.heap.size+2:=by rw [hW1];simp
 have gX:W1.heap[w9.heap.size+1]?=some (.loop rr):=by
  rw [hW1];have:=World.alloc_heap_new (w9.alloc (.deferred (some []))) (.loop rr);rwa [World.size_alloc] at this
 have kP:W1.heap[w9.heap.size]?=some (.deferred (some [])):=by
  rw [hW1];exact (Below.heap_alloc _ _ _ (by simp)).trans (World.alloc_heap_new w9 _)
 have eB:=Ai.AA (F:=λ _=>False) fq;obtain⟨L,hLd⟩:∃ L,L=w9.heap.size+1:=⟨_,rfl⟩;rw [<- hLd] at gX hy ⊢;have S9:=S2.grown P9.below;have h39:=S9.lt (x:=(b3,_,_)) (List.mem_cons_of_mem _ (List.mem_cons_self ..));have h49:=S9.lt (x:=(b4,_,_)) (List.mem_cons_self ..);have jD:b4≠b3:=S9.ne 0 1 rfl rfl (by decide);have Bw9:Below w.heap.size w w9:=S9.below;have Bw1:Below w.heap.size w W1:=Bw9.trans (fq.mono Bw9.size);have ym:=Bw9.size;have uT:w.heap.size<=b3:=dG;have po:w.heap.size<=b4:=by have:=B1.size;omega
 let F:Nat->Prop:=λ x=>x=b3\/x=b4\/x=L;let J:Nat->World->Prop:=λ q wx=>Ai F W1 wx/\wx.heap[L]?=some (.loop rr)/\∃ na nc sa sc,wx.heap[b3]?=some (.cells #[.slice na (CS (ls.take q)).length nc] ty.Bk (0,0)) /\
  wx.heap[b4]?=some (.cells #[.slice sa (BB (ls.take q)).length sc] ty.Co (0,0))/\VU W1.heap.size wx (CS (ls.take q)) na nc (BB (ls.take q)) sa sc
 have low:∀ {w':World},Ai F W1 w'->Below w.heap.size w w':=λ K=>Bw1.trans (K.below Bw1.size λ k hk h=>by
  rcases h with h | h | h <;> omega)
 have hI:W1.cell? ⟨bI,0,none⟩=some (.slice a ls.length c):=Du (eB.at (P9.get 0 rfl) (by simp));have ay:=UJ (w:=W1) (L:=L) (b:=bI) (by omega) J (λ q wx hj=>hl.grown (low hj.1)) (λ q wx wy hj B=>by
   obtain⟨j1,j2,na,nc,sa,sc,j3,j4,j5⟩:=hj;have K:=Ai.AA (F:=λ _=>False) B;exact⟨j1.trans K (λ x _ h=>h.elim),K.at j2 (by simp),na,nc,sa,sc,K.at j3 (by simp),K.at j4 (by simp),j5.grown B⟩) (λ q wx hq hz hj=>by
   obtain⟨j1,j2,na,nc,sa,sc,j3,j4,j5⟩:=hj;obtain⟨e1,e2⟩:=(Rn hq).1 hz;exact⟨j1,j2,na,nc,sa,sc,by rw [e1];exact j3,by rw [e2];exact j4,by rw [e1,e2];exact j5⟩) (by
  rintro q wx hq aQ ⟨K,hL,na,nc,sa,sc,g3,g4,hT⟩;obtain⟨e1,e2⟩:=(Rn hq).2 aQ;have eR:=Jg (ls.take q);have gI:=Gp (ls.take q);rw [Al7] at eR gI;refine hy _ _ _ _ wx hL ?_;refine (SH.start (λ _=>False) wx).II λ iO w8 uR B8 S8=>?_;have K8:=Ai.AA (F:=λ _=>False) B8;have xw:=K8.at hL (by simp);refine⟨xw,?_⟩;obtain⟨wB,hwB⟩:∃ wB,wB=w8.putObj L (.loop { rr with state:=.busy }):=⟨_,rfl⟩;rw [<- hwB];have eM:L<w8.heap.size:=(Array.getElem?_eq_some_iff.1 xw).1;have KB:Ai (λ k=>k=L) w8 wB:=by rw [hwB];exact AN _ _ _
  have uE:wB.heap[L]?=some (.loop { rr with state:=.busy }):=by rw [hwB];exact World.putObj_heap_same eM
  unfold QI;obtain⟨wD,hwD⟩:∃ wD,wD=wB.drew:=⟨_,rfl⟩;rw [<- hwD];have KD:Ai (λ _=>False) wB wD:=by rw [hwD];exact (Ai.refl _ _).drew
  have sx:=K.size;have s8:=B8.size;have d3:wD.heap[b3]?=some (.cells #[.slice na (CS (ls.take q)).length nc] ty.Bk (0,0)):=KD.at (KB.at (K8.at g3 (by simp)) (by show ¬ b3=L;omega)) (by simp);have d4:wD.heap[b4]?=some (.cells #[.slice sa (BB (ls.take q)).length sc] ty.Co (0,0)):=KD.at (KB.at (K8.at g4 (by simp)) (by show ¬ b4=L;omega)) (by simp);have dL:wD.heap[L]?=some (.loop { rr with state:=.busy }):=KD.at uE (by simp);have d11:wD.heap[iO]?=some (.cells #[.int .i64 ls[q].1,.int .i64 ls[q].2.1,.string ls[q].2.2] ty.AW (0,0)):=KD.at (KB.at (S8.get 0 rfl) (by show ¬ iO=L;omega)) (by simp);have dT:VU W1.heap.size wD (CS (ls.take q)) na nc (BB (ls.take q)) sa sc:=((hT.grown B8).keeps KB (λ x hx=>.inl (by omega))).keeps KD (by simp);have dK:Ai F W1 wD:=((K.trans K8 (λ x _ h=>h.elim)).trans KB (λ x _ h=>.inr (.inr h))).trans KD (λ x _ h=>h.elim);have l3:b3<W1.heap.size:=by omega
  have l4:b4<W1.heap.size:=by omega
  have lL:L<W1.heap.size:=by omega
  have l11:W1.heap.size<=iO:=by omega
  have fin:∀(wy:World) (sA:Option Addr) (sC:Nat) (sJ:Option Addr) (sK:Nat),Ai F W1 wy->wy.heap[L]?=some (.loop { rr with state:=.busy })->wy.heap[b3]?=some (.cells #[.slice na (CS (ls.take q)).length nc] ty.Bk (0,0)) ->
    wy.heap[b4]?=some (.cells #[.slice sa (BB (ls.take q)).length sc] ty.Co (0,0))->VU W1.heap.size wy (CS (ls.take q)++[ls[q].2.1]) sA sC (BB (ls.take q)++[ls[q].2.2]) sJ sK ->
    DY ⟨b3,0,none⟩ (.slice sA (CS (ls.take q)++[ls[q].2.1]).length sC) (λ ah=>DY ⟨b4,0,none⟩ (.slice sJ (BB (ls.take q)++[ls[q].2.2]).length sK) (λ cp=>Gb rr L (λ y w'=>y=true/\(Ai F W1 w'/\w'.heap[L]?=some (.loop rr)/\∃ na nc sa sc,w'.heap[b3]?=some (.cells #[.slice na (CS (ls.take (q+1))).length nc] ty.Bk (0,0)) /\
  w'.heap[b4]?=some (.cells #[.slice sa (BB (ls.take (q+1))).length sc] ty.Co (0,0))/\VU W1.heap.size w' (CS (ls.take (q+1))) na nc (BB (ls.take (q+1))) sa sc)) none cp) ah) wy:=by
   intro wy sA sC sJ sK yK yL y3 y4 yT;refine EZ y3 (by simp) λ wz Kz z3=>EZ (Kz.at y4 jD) (by simp) λ wq Kq q4=>?_;have qL:wq.heap[L]?=some (.loop { rr with state:=.busy }):=Kq.at (Kz.at yL (by show ¬ L=b3;omega)) (by show ¬ L=b4;omega);refine⟨qL,rfl,?_⟩;rw [IU aA dW];have lq:L<wq.heap.size:=(Array.getElem?_eq_some_iff.1 qL).1;have KP:=AN wq L (.loop rr);have q3:=Kq.at z3 (show ¬ b3=b4 from λ h=>jD h.symm);refine⟨((yK.trans Kz (λ x _ h=>.inl h)).trans Kq (λ x _ h=>.inr (.inl h))).trans KP (λ x _ h=>.inr (.inr h)),World.putObj_heap_same lq,sA,sC,sJ,sK,?_,?_,?_⟩
   ·rw [e1];exact KP.at q3 (by show ¬ b3=L;omega)
   ·rw [e2];exact KP.at q4 (by show ¬ b4=L;omega)
   ·rw [e1,e2];exact ((yT.keeps Kz (λ x hx=>.inl (by omega))).keeps Kq (λ x hx=>.inl (by omega))).keeps KP (λ x hx=>.inl (by omega))
  have cZ:∀ {x:Nat},x<W1.heap.size->¬ AD na=some x:=λ hx h=>by have:=hT.nn _ h;omega
  have dR:∀ {x:Nat},x<W1.heap.size->¬ AD sa=some x:=λ hx h=>by have:=hT.sn _ h;omega
  have sB:w8.heap.size<=wB.heap.size:=KB.size;have sD:wB.heap.size<=wD.heap.size:=KD.size;have tN:wD.cell? ⟨iO,1,none⟩=some (.int .i64 ls[q].2.1):=by simp [World.cell?,d11]
  have tO:wD.cell? ⟨iO,2,none⟩=some (.string ls[q].2.2):=by simp [World.cell?,d11]
  refine⟨_,_,_,Du d3,_,tN,_,_,_,Du d4,_,tO,?_,?_⟩
  ·refine (SH.start (λ _=>False) wD).An λ dE wE gw BE SE=>?_;have KE:=Ai.AA (F:=λ _=>False) BE;have f3:=KE.at d3 (by simp);have f4:=KE.at d4 (by simp);have fL:=KE.at dL (by simp);have f11:=KE.at d11 (by simp);have fT:=dT.grown BE;have fK:Ai F W1 wE:=dK.trans KE (λ x _ h=>h.elim);have sE:=BE.size;refine⟨by simp [World.cell?,f11],Du f4,Du f3,?_,?_⟩
   ·refine fT.AhP (by omega) (by omega) (SE.get 0 rfl) λ aN cN wN hN KN=>⟨_,_,_,rfl,?_⟩;have n11:¬ AD na=some iO:=λ h=>by have:=hT.rn.lt h;omega
    have m11:=KN.at f11 n11;have m3:=KN.at f3 (cZ l3);have m4:=KN.at f4 (cZ l4);have mL:=KN.at fL (cZ lL);have mK:Ai F W1 wN:=fK.trans KN (λ x hx h=>absurd h (cZ hx));have sN:=KN.size;refine⟨by simp [World.cell?,m11],Du m4,(SH.start (λ _=>False) wN).An λ b19 wO pj BO SO=>⟨Du ((Ai.AA (F:=λ _=>False) BO).at m4 (by simp)),?_⟩⟩;have KO:=Ai.AA (F:=λ _=>False) BO;have sO:=BO.size;refine (hN.grown BO).AhQ (by omega) (by omega) (SO.get 0 rfl) λ aS cS wS hS KS=>⟨_,_,_,rfl,?_⟩;refine fin wS aN cN aS cS ((mK.trans KO (λ x _ h=>h.elim)).trans KS (λ x hx h=>absurd h (dR hx))) (KS.at (KO.at mL (by simp)) (dR lL)) (KS.at (KO.at m3 (by simp)) (dR l3)) (KS.at (KO.at m4 (by simp)) (dR l4)) hS
   ·refine (SH.start (λ _=>False) wE).An λ rC wO hb22 BO SO=>?_;have KO:=Ai.AA (F:=λ _=>False) BO;have sO:=BO.size;have o3:=KO.at f3 (by simp);have o4:=KO.at f4 (by simp);have oL:=KO.at fL (by simp);have o16:wO.heap[dE]?=some (.cells #[.int .i64 ls[q].2.1] ty.int64 (0,0)):=KO.at (SE.get 0 rfl) (by simp);have oK:Ai F W1 wO:=fK.trans KO (λ x _ h=>h.elim);refine⟨Du o4,Du o3,(fT.grown BO).AhP (by omega) (by omega) o16 λ aN cN wN hN KN=>⟨_,_,_,rfl,Du (KN.at o4 (cZ l4)),?_⟩⟩;have n22:¬ AD na=some rC:=λ h=>by have:=hT.rn.lt h;omega
    have sN:=KN.size;refine hN.AhQ (by omega) (by omega) (KN.at (SO.get 0 rfl) n22) λ aS cS wS hS KS=>⟨_,_,_,rfl,?_⟩;exact fin wS aN cN aS cS ((oK.trans KN (λ x hx h=>absurd h (cZ hx))).trans KS (λ x hx h=>absurd h (dR hx))) (KS.at (KN.at oL (cZ lL)) (dR lL)) (KS.at (KN.at o3 (cZ l3)) (dR l3)) (KS.at (KN.at o4 (cZ l4)) (dR l4)) hS
  ·refine (SH.start (λ _=>False) wD).An λ rD wE hb27 BE SE=>?_;have KE:=Ai.AA (F:=λ _=>False) BE;have f3:=KE.at d3 (by simp);have f4:=KE.at d4 (by simp);have fL:=KE.at dL (by simp);have f11:=KE.at d11 (by simp);have fT:=dT.grown BE;have fK:Ai F W1 wE:=dK.trans KE (λ x _ h=>h.elim);have sE:=BE.size;refine⟨Du f4,by simp [World.cell?,f11],Du f3,(SH.start (λ _=>False) wE).An λ gT wO kY BO SO=>?_⟩;have KO:=Ai.AA (F:=λ _=>False) BO;have sO:=BO.size;have o3:=KO.at f3 (by simp);have o4:=KO.at f4 (by simp);have oL:=KO.at fL (by simp);have o27:wO.heap[rD]?=some (.cells #[.string ls[q].2.2] ty.string (0,0)):=KO.at (SE.get 0 rfl) (by simp);have oK:Ai F W1 wO:=fK.trans KO (λ x _ h=>h.elim);refine⟨Du o4,Du o3,(fT.grown BO).AhP (by omega) (by omega) (SO.get 0 rfl) λ aN cN wN hN KN=>⟨_,_,_,rfl,Du (KN.at o4 (cZ l4)),?_⟩⟩;have n27:¬ AD na=some rD:=λ h=>by have:=hT.rn.lt h;omega
   have sN:=KN.size;refine hN.AhQ (by omega) (by omega) (KN.at o27 n27) λ aS cS wS hS KS=>⟨_,_,_,rfl,?_⟩;exact fin wS aN cN aS cS ((oK.trans KN (λ x hx h=>absurd h (cZ hx))).trans KS (λ x hx h=>absurd h (dR hx))) (KS.at (KN.at oL (cZ lL)) (dR lL)) (KS.at (KN.at o3 (cZ l3)) (dR l3)) (KS.at (KN.at o4 (cZ l4)) (dR l4)) hS)
  ⟨.refl _ _,gX,none,0,none,0,eB.at (S9.get 1 rfl) (by simp),eB.at (S9.get 0 rfl) (by simp),VU.nil _ _⟩ hI
 refine ay.mono ?_;rintro _ an ⟨_,rfl,il,dN,na,nc,sa,sc,g3,g4,hT⟩;rw [List.take_length] at g3 g4 hT;refine⟨⟨_,rfl⟩,none,by rw [IU aA dW];exact dN,rfl,?_⟩;obtain⟨ah,hw15⟩:∃ ah,ah=an.putObj L (.loop { rr with state:=.exhausted,pending:=none }):=⟨_,rfl⟩;rw [<- hw15];have fu:Ai (λ k=>k=L) an ah:=by rw [hw15];exact AN _ _ _
 have KF:=il.trans fu (λ x _ h=>.inr (.inr h));have lI:=fu.at g3 (show ¬ b3=L by omega);have xo:=fu.at g4 (show ¬ b4=L by omega);have oV:=hT.keeps fu (λ x hx=>.inl (by omega));have gA:ah.heap[w9.heap.size]?=some (.deferred (some [])):=KF.at kP (by show ¬ (w9.heap.size=b3\/w9.heap.size=b4\/w9.heap.size=L);omega);have dm:=low KF;have iX:(BB ls).length<=9223372036854775807:=by have:=Gp ls;omega
 have qP:(CS ls).length<=4096:=by have:=Jg ls;omega
 have s15:=KF.size;have pI:∀ {wz:World} {b:List UInt8} {az:Option Addr} {cz:Nat},Bm ah wz b az cz->wz.heap[w9.heap.size]?=some (.deferred (some []))/\Bm w (wz.putObj w9.heap.size (.deferred none)) b az cz:=by
  intro wz b az cz hN;have KP:=AN wz w9.heap.size (.deferred none);have hB:=Ac dm hN.Ar;refine⟨(Ai.AA (F:=λ _=>False) hN.Ar).at gA (by simp),hN.row.keeps KP λ x hx he=>by have:=hN.new x hx;omega,λ k hk=>by have:=hN.new k hk;omega,hB.trans (KP.below hB.size λ k hk he=>by omega)⟩
 refine Ao (λ h3=>⟨_,_,_,Du xo,?_⟩) (λ h3=>⟨_,_,_,Du lI,?_⟩)
 ·refine (Yc oV.rs.rd iX).mono ?_;rintro _ eK ⟨_,rfl,hB,f'⟩;rcases hB with ⟨aP,_⟩ | ⟨b0,b1,h0,h1,_,rfl⟩
  ·exact absurd (hg.enc 0 (by omega)) aP
  refine⟨_,_,rfl,_,_,_,Du ((Ai.AA (F:=λ _=>False) f').at xo (by simp)),?_⟩;have hf:0<=(if b1.length<b0.length then (1:Int) else 0)/\(if b1.length<b0.length then (1:Int) else 0)<=1:=by split <;> omega
  refine (FT _ (oV.rs.rd.grown f') iX).mono ?_;rintro _ kG ⟨_,rfl,hE⟩;rcases hE with ⟨aP,_⟩ | ⟨_,b,az,cz,hE,rfl,hN⟩
  ·exact absurd (hg.enc _ hf) aP
  obtain⟨q1,q2⟩:=pI (hN.before f');refine⟨_,_,_,_,rfl,q1,b,az,cz,rfl,?_,q2⟩;have:=D9.text (kind:=kind) (ls:=ls) h3 b0 b1 h0 h1;split at hE
  ·rename_i aB;rw [if_pos aB] at this;rw [hE.one h1];exact this
  ·rename_i aB;rw [if_neg aB] at this;rw [hE.one h0];exact this
 ·refine (Ym oV.rn.rd oV.rn.le qP hg.Ae8).mono ?_;rintro _ eK ⟨_,rfl,rfl,f'⟩;refine⟨_,_,rfl,_,_,_,Du ((Ai.AA (F:=λ _=>False) f').at lI (by simp)),(HK _ (oV.rn.rd.grown f') oV.rn.le hg.Ae8).mono ?_⟩;rintro _ kG ⟨_,rfl,hE⟩;obtain⟨az,cz,rfl,hN⟩:=Kc.D7 (Pd _) qP hE;obtain⟨q1,q2⟩:=pI (hN.before f');exact⟨_,_,_,_,rfl,q1,_,az,cz,rfl,.num h3,q2⟩
end
theorem Ake(r:BitVec 32):Int.tmod (r.toNat:Int) 2=if r.getLsbD 0 then 1 else 0:=by
 rw [Int.tmod_eq_emod_of_nonneg (by omega)];have h:r.getLsbD 0=decide (r.toNat % 2=1):=by
  simp [BitVec.getLsbD,Nat.testBit_zero]
 rw [h];by_cases hh:r.toNat % 2=1 <;> simp [hh] <;> omega
theorem Akd(r:BitVec 32):Int.tdiv (r.toNat:Int) 2=((r >>> 1).toNat:Int):=by
 rw [Int.tdiv_eq_ediv_of_nonneg (by omega),BitVec.toNat_ushiftRight,Nat.shiftRight_eq_div_pow]
 norm_cast
theorem YD{w:World}{a:Option Addr}{c:Nat}(l:List UInt8)(hb:Rd w a (l.map Ag))(hl:l.length<9223372036854775807) :
  Calls Tryz.prog f.Afg #[.slice a l.length c] w (AG λ v w'=>v=.int .u32 ((crc l).toNat:Int)/\w'=w):=by
 apply R.Tt
 delta R.Ad R.F R.I R.Ly R.Qvi R.V R.W R.Wv R.X;try dsimp only [R.Ps]
 refine⟨λ s w2=>match s with
   | [.int _ r,.int _ i]=>w2=w/\∃ j:Nat,i=j/\j<=l.length/\r=((CX 4294967295#32 (l.take j)).toNat:Int)
   | _=>False,
  λ s _=>match s with
   | [_,.int _ i]=>l.length-i.toNat
   | _=>0,⟨rfl,0,rfl,Nat.zero_le _,by simp [CX]⟩,?_⟩
 rintro r i w2 ⟨rfl,j,rfl,hj,rfl⟩;refine Aa (λ ao=>?_) (λ br=>?_)
 ·have fR:j<l.length:=by omega
  refine⟨⟨by omega,by omega⟩,?_⟩;obtain⟨p2,rfl,cG⟩:=hb j (Ag l[j]) (by simp [fR]);have qe:=Im l j fR 4294967295#32;generalize hR2:CX 4294967295#32 (l.take j)=R2 at qe ⊢;refine⟨(l[j].toNat:Int),by simpa [Ag] using cG,?_⟩;have h0:(IntKind.u32.wrap (((BitVec.ofInt 32 (R2.toNat:Int) ^^^ BitVec.ofInt 32 (IntKind.u32.wrap ((l[j].toNat:Int)))).toNat:Int)))=((R2 ^^^ NL l[j]).toNat:Int):=by
   rw [Cx,Bn,Bq,BitVec.ofInt_natCast];rfl
  rw [h0];refine⟨λ s w3=>match s with
    | [.int _ r,.int _ i]=>w3=w2/\∃ m:Nat,i=m/\m<=8/\r=((EC m (R2 ^^^ NL l[j])).toNat:Int)
    | _=>False,
   λ s _=>match s with
    | [_,.int _ i]=>8-i.toNat
    | _=>0,⟨rfl,0,rfl,Nat.zero_le _,by simp [EC]⟩,?_⟩
  rintro r i w3 ⟨rfl,m,rfl,hm,rfl⟩;refine Aa (λ vi=>?_) (λ q8=>?_)
  ·have aA:=IC m (R2 ^^^ NL l[j]);generalize EC m (R2 ^^^ NL l[j])=q at aA ⊢;simp only [Ake,Akd,Bq];rw [Ae (by omega)];cases hh:q.getLsbD 0 with
   | true =>
    refine CN ?_;rw [Bn];refine⟨⟨trivial,m+1,rfl,by omega,?_⟩,?_⟩
    ·rw [aA,Uy,hh];rfl
    ·simp only [Ale];omega
   | false =>
    refine AV ?_;refine⟨⟨trivial,m+1,rfl,by omega,?_⟩,?_⟩
    ·rw [aA,Uy,hh];simp
    ·simp only [Ale];omega
  ·have:m=8:=by omega
   subst this;rw [Ae (by omega)];refine⟨⟨rfl,j+1,rfl,by omega,by rw [qe];rfl⟩,?_⟩;simp only [Ale];omega
 ·have:j=l.length:=by omega
  subst this;refine⟨?_,rfl⟩;rw [List.take_length,Bn,Bq,BitVec.xor_comm];rfl
theorem Qj(x:BitVec 32)(w:World)(b:Nat)(t:TypeId)(hb:w.heap[b]?=some (.cells #[.int .u8 (IntKind.u8.wrap (x.toNat:Int)),.int .u8 (IntKind.u8.wrap ((Int.fdiv (x.toNat:Int) (2 ^ (min 8 32))))),.int .u8 (IntKind.u8.wrap ((Int.fdiv (x.toNat:Int) (2 ^ (min 16 32))))),.int .u8 (IntKind.u8.wrap ((Int.fdiv (x.toNat:Int) (2 ^ (min 24 32)))))] t (0,0))) :
  Rd w (some ⟨b,0,none⟩) ((VC x).map Ag):=by
 have:=Rd.Ak hb;rw [AbE,OU,OU,OU] at this;exact this
def FD(kind:Int)(ls:List AB):List UInt8:=[Alj kind.toNat]++Af ls.length++Af (Au ls)
def DS(ls:List AB):List UInt8:=if 0<Au ls/\Au ls<ls.length then A5 (A4 ls) 1 else []
structure KR(kind:Int)(ls:List AB)(b:List UInt8):Prop where
 ex:∃ o,(Au ls<ls.length->D9 kind ls o)/\(¬ Au ls<ls.length->o=[])/\b=(FD kind ls++DS ls++o)++VC (crc (FD kind ls++DS ls++o))
theorem KR.one{kind:Int}{ls:List AB}{b c:List UInt8}(h:KR kind ls b)(h':KR kind ls c):b=c:=by
 obtain⟨o,h1,h2,rfl⟩:=h.ex;obtain⟨o',k1,k2,rfl⟩:=h'.ex;have:o=o':=by
  by_cases hn:Au ls<ls.length
  ·exact (h1 hn).one (k1 hn)
  ·rw [h2 hn,k2 hn]
 rw [this]
def ChV(kind:Int)(ls:List AB)(w w':World)(r:Value):Prop :=
 (DW kind ls=false/\r=.tuple #[.slice none 0 0,.int .i64 2]/\Below w.heap.size w w')\/(DW kind ls=true/\∃ b a c,KR kind ls b/\r=.tuple #[.slice a b.length c,.int .i64 0]/\Bm w w' b a c)
theorem Q8{kind:Int}{ls:List AB}(hg:Be kind ls):(FD kind ls).length<=21:=by
 have h1:=Al (n:=ls.length) (by have:=hg.len;omega);have h2:=Al (n:=Au ls) (by have:=hg.len;have:=Dc ls;omega);simp only [FD,Alb,Ald,Amp];omega
theorem Jf{kind:Int}{ls:List AB}(hg:Be kind ls):(DS ls).length<=200:=by
 have:=hg.len;unfold DS;split
 ·rw [BR];unfold DA;have:(A4 ls).length=ls.length:=by simp [A4]
  rw [this];omega
 ·simp
theorem TW(ls:List AB):∀ x∈A4 ls,x<2 ^ 1:=by
 intro x hx;obtain⟨v,_,rfl⟩:=AkU.1 hx;split <;> omega
section
variable {w:World}{a:Option Addr}{c:Nat}{ls:List AB}
theorem Ke(kind:Int)(hl:Rd w a (AP ls))(hn:ls.length<=9223372036854775807)(hv:∀ v∈ls,BL v) :
  Calls Tryz.prog f.XZ #[.int .i64 kind,.slice a ls.length c] w (AG λ v w'=>ChV kind ls w w' v):=by
 apply R.NO
 delta R.A R.Ab R.B R.AR R.Cb R.Cs R.Cv R.F R.G R.H R.I R.J R.Ks R.Li R.Lt R.N R.O R.Aer R.S R.Am R.T R.U R.W R.Wb R.Wu R.X R.Zb R.Zs;try dsimp only [R.Ps]
 refine (Us kind hl hn).mono ?_;rintro _ w1 ⟨_,rfl,rfl,B1⟩;refine⟨_,rfl,As (Aq (λ hr=>?_) (λ hr=>.inl ⟨hr,rfl,B1⟩))⟩;have hg:Be kind ls:=⟨hr,hv⟩;have hlen:=hg.len;have hk:=hg.kind;have bn:=Dc ls;refine⟨λ s w2=>∃(i:Nat) (ba:Option Addr) (bc:Nat),s=[.slice ba (A4 (ls.take i)).length bc,.int .i64 (Au (ls.take i):Int),.int .i64 (i:Int)]/\i<=ls.length/\Jt w1 w2 (A4 (ls.take i)) ba bc,λ s _=>match s with
   | [_,_,.int _ i]=>ls.length-i.toNat
   | _=>0,⟨0,none,0,rfl,by omega,Jt.nil w1⟩,?_⟩
 rintro ba _ bc _ _ w2 ⟨i,_,_,aA,hi,h2⟩;cases aA;have C2:=Ac B1 h2.Ar;refine Aa (λ aB=>⟨⟨by omega,aB⟩,?_⟩) (λ aI=>?_)
 ·have aD:i<ls.length:=by omega
  obtain⟨p,rfl,c0,c1,c2⟩:=Di (hl.grown C2) aD;have au:(A4 (ls.take i)).length<=1024:=by simp [A4];omega
  have kq:=Dc (ls.take i);rw [Al7] at kq;have cM:ls.length-((i+1:Nat):Int).toNat<ls.length-((i:Nat):Int).toNat:=by
   simp only [Ale];omega
  refine⟨_,by rw [Ale];exact c0,_,by rw [Ale];exact c1,_,by rw [Ale];exact c2,(SH.start (λ _=>False) w2).II λ tF w6 mY B6 S6=>⟨_,S6.cell 0 rfl rfl,?_⟩⟩;rw [Ae (by omega),Ae (by omega)];refine Ao (λ hz=>?_) (λ hz=>?_)
  ·refine S6.An λ jt w7 mZ B7 S7=>EA ((h2.grown B6).grown B7) (by omega) (x:=1) rfl (S7.get 0 rfl) λ a8 c8 w8 h8=>⟨_,_,_,rfl,⟨i+1,a8,c8,?_,by omega,?_⟩,cM⟩
   ·rw [FG aD,EB aD,if_pos hz]
   ·rw [EB aD,if_pos hz];exact h8
  ·refine S6.An λ jt w7 mZ B7 S7=>EA ((h2.grown B6).grown B7) (by omega) (x:=0) rfl (S7.get 0 rfl) λ a8 c8 w8 h8=>⟨_,_,_,rfl,⟨i+1,a8,c8,?_,by omega,?_⟩,cM⟩
   ·rw [FG aD,EB aD,if_neg hz];rfl
   ·rw [EB aD,if_neg hz];exact h8
 have bF:ls.take i=ls:=AlK (by omega);rw [bF] at h2 ⊢;have au:(A4 ls).length=ls.length:=by simp [A4]
 rw [AE (by omega) (by omega)];refine (SH.start (λ _=>False) w2).An λ eh aY jC cF bE=>?_;have ik:=Ac C2 cF;have mM:Rd aY (some ⟨eh,0,none⟩) ([Alj kind.toNat].map Ag):=by
  have:=Rd.Ak (bE.get 0 rfl);have e:Value.int .u8 kind=Ag (Alj kind.toNat):=by
   have:=Cq (x:=kind.toNat) (by omega);rw [<- this];congr 1;omega
  simpa [e] using this
 rw [Aj (by omega) (by omega)];refine (Bg (c:=1) [Alj kind.toNat] mM ls.length (by omega) (by simp)).mono ?_;rintro _ bK ⟨_,rfl,a12,oM,rfl,ff⟩;have d1:=Al (n:=ls.length) (by omega);rw [Aj (by omega) (by omega)];refine⟨_,_,_,rfl,(Bg _ ff.rd (Au ls) (by omega) (by simp;omega)).mono ?_⟩;rintro _ al ⟨_,rfl,m9,oN,rfl,jw⟩;have lx:=Ac ik ff.Ar;have dq:=jw.before lx;have eC:[Alj kind.toNat]++Af ls.length++Af (Au ls)=FD kind ls:=rfl;rw [eC] at dq ⊢;have ki:=Q8 hg;have lW:=Jf hg;refine⟨_,_,_,rfl,λ s cP=>∃(b:List UInt8) (ab:Option Addr) (cb:Nat),s=[.slice ab b.length cb]/\b=FD kind ls++DS ls/\Bm w cP b ab cb,?_,?_⟩
 ·refine⟨λ s an=>∃ t:Bool,s=[.bool t]/\an=al/\(t=true↔0<Au ls/\Au ls<ls.length),?_,?_⟩
  ·refine Aa (λ h=>⟨_,rfl,rfl,by simp;omega⟩) (λ h=>⟨_,rfl,rfl,by simp;omega⟩)
  rintro _ an ⟨t,aA,rfl,ht⟩;cases aA;refine Aq (λ h=>?_) (λ h=>?_)
  ·have bY:=ht.1 h;have cw:Rd an ba ((A4 ls).map E1):=((h2.row.rd.grown cF).grown ff.Ar).grown jw.Ar;refine (JR (wd:=1) cw (by omega) (by omega) (TW ls)).mono ?_;rintro _ ah ⟨_,rfl,zU,zu,rfl,eo⟩;have bM:(A5 (A4 ls) 1).length<=200:=by
    have:=Jf hg;unfold DS at this;rwa [if_pos bY] at this
   refine⟨_,_,_,_,rfl,A8 (dq.grown eo.Ar).row eo.rd (by omega) λ kK kM cp m5 jr ly=>⟨_,_,_,rfl,_,kK,kM,rfl,?_,dq.Br eo.Ar m5 jr ly⟩⟩;unfold DS;rw [if_pos bY]
  ·have bY:¬ (0<Au ls/\Au ls<ls.length):=λ hh=>by rw [ht.2 hh] at h;cases h
   refine⟨_,m9,oN,rfl,?_,dq⟩;unfold DS;rw [if_neg bY,Amc]
 rintro ab _ cb cP ⟨b,_,_,aA,hb,fH⟩;cases aA;have jF:b.length<=221:=by rw [hb,Alb];omega
 refine⟨λ s fC=>∃(o b2:List UInt8) (ab:Option Addr) (cb:Nat),s=[.slice ab b2.length cb]/\b2=b++o/\o.length<=2000000/\(Au ls<ls.length->D9 kind ls o)/\(¬ Au ls<ls.length->o=[])/\Bm w fC b2 ab cb,?_,?_⟩
 ·refine Aa (λ h=>?_) (λ h=>⟨[],b,ab,cb,rfl,by simp,by simp,λ hh=>absurd hh (by omega),λ _=>rfl,fH⟩);refine (QX hg (hl.grown fH.Ar)).mono ?_;rintro _ eZ ⟨_,rfl,o,tA,tR,rfl,hO,gV⟩;have cE:=hO.len hg;refine⟨_,_,_,rfl,A8 (fH.grown gV.Ar).row gV.rd (by omega) λ tC tT fB sm sQ si=>⟨_,_,_,rfl,o,_,tC,tT,rfl,rfl,cE,λ _=>hO,λ hh=>absurd (by omega) hh,fH.Br gV.Ar sm sQ si⟩⟩
 rintro tD _ tW fC ⟨o,b2,_,_,aA,dF,cE,nW,iD,iw⟩;cases aA;have uS:b2.length<=2000221:=by rw [dF,Alb];omega
 refine (SH.start (λ _=>False) fC).An λ zb fD hb41 iN oG=>?_;have hS:=AbL (w:=fD) (a:=some ⟨zb,0,none⟩) (c:=1) [(tD,tW,b2)] (by
  have:=Rd.Ak (oG.get 0 rfl);simpa [Cc] using this) (by
  intro p hp;rw [Al9.1 hp];exact iw.rd.grown iN) (by simp) (by
  intro p hp;rw [Al9.1 hp];simp only;omega)
 refine hS.mono ?_;rintro _ iM ⟨_,rfl,rfl,rfl⟩;have ef:([(tD,tW,b2)]:List DZ).flatMap (·.2.2)=b2:=by simp
 rw [ef];refine⟨_,rfl,(SH.start (λ _=>False) iM).An λ tH fp uV ij m7=>?_⟩;have hR:=Qj (crc b2) fp tH _ (m7.get 0 rfl);have tq:=(iw.grown iN).grown ij;refine A8 (m:=VC (crc b2)) tq.row hR (by simp [VC];omega) λ a24 oO fE so sR sj=>⟨_,_,_,rfl,.inr ⟨hr,_,a24,oO,⟨o,nW,iD,?_⟩,rfl,iw.Br (Ac iN ij) so sR sj⟩⟩;rw [dF,hb]
theorem Km(kind:Int)(hl:Rd w a (AP ls))(hn:ls.length<=9223372036854775807)(hv:∀ v∈ls,BL v) :
  Calls Tryz.prog f.YQ #[.int .i64 kind,.slice a ls.length c] w (AG λ v w'=>ChV kind ls w w' v):=by
 apply R.Ov
 delta R.B R.AR R.Cb R.Ci R.Cs R.Cv R.F R.G R.H R.I R.J R.Ks R.Li R.N R.O R.EM R.S R.U R.W R.Wb R.Wu R.X R.Zb R.Zs;try dsimp only [R.Ps]
 refine (Ve kind hl hn).mono ?_;rintro _ w1 ⟨_,rfl,rfl,B1⟩;refine⟨_,rfl,As (Aq (λ hr=>?_) (λ hr=>.inl ⟨hr,rfl,B1⟩))⟩;have hg:Be kind ls:=⟨hr,hv⟩;have hlen:=hg.len;have hk:=hg.kind;have bn:=Dc ls;refine (Vf (hl.grown B1) (by omega)).mono ?_;rintro _ w2 ⟨_,rfl,rfl,rfl⟩;have au:(A4 ls).length=ls.length:=by simp [A4]
 rw [AE (by omega) (by omega)];refine⟨_,rfl,(SH.start (λ _=>False) w2).An λ eh aY jC cF bE=>?_⟩;have ik:=Ac B1 cF;have mM:Rd aY (some ⟨eh,0,none⟩) ([Alj kind.toNat].map Ag):=by
  have:=Rd.Ak (bE.get 0 rfl);have e:Value.int .u8 kind=Ag (Alj kind.toNat):=by
   have:=Cq (x:=kind.toNat) (by omega);rw [<- this];congr 1;omega
  simpa [e] using this
 rw [Aj (by omega) (by omega)];refine (Bh (c:=1) [Alj kind.toNat] mM ls.length (by omega) (by simp)).mono ?_;rintro _ bK ⟨_,rfl,a12,oM,rfl,ff⟩;have d1:=Al (n:=ls.length) (by omega);rw [Aj (by omega) (by omega)];refine⟨_,_,_,rfl,(Bh _ ff.rd (Au ls) (by omega) (by simp;omega)).mono ?_⟩;rintro _ al ⟨_,rfl,m9,oN,rfl,jw⟩;have lx:=Ac ik ff.Ar;have dq:=jw.before lx;have eC:[Alj kind.toNat]++Af ls.length++Af (Au ls)=FD kind ls:=rfl;rw [eC] at dq ⊢;have ki:=Q8 hg;have lW:=Jf hg;refine⟨_,_,_,rfl,λ s cP=>∃(b:List UInt8) (ab:Option Addr) (cb:Nat),s=[.slice ab b.length cb]/\b=FD kind ls++DS ls/\Bm w cP b ab cb,?_,?_⟩
 ·refine⟨λ s an=>∃ t:Bool,s=[.bool t]/\an=al/\(t=true↔0<Au ls/\Au ls<ls.length),?_,?_⟩
  ·refine Aa (λ h=>⟨_,rfl,rfl,by simp;omega⟩) (λ h=>⟨_,rfl,rfl,by simp;omega⟩)
  rintro _ an ⟨t,aA,rfl,ht⟩;cases aA;refine Aq (λ h=>?_) (λ h=>?_)
  ·have bY:=ht.1 h;have bM:(A5 (A4 ls) 1).length<=200:=by
    have:=Jf hg;unfold DS at this;rwa [if_pos bY] at this
   refine⟨λ s w2=>∃(i:Nat) (ba:Option Addr) (bc:Nat),s=[.slice ba (A4 (ls.take i)).length bc,.int .i64 (i:Int)]/\i<=ls.length/\Jt an w2 (A4 (ls.take i)) ba bc,λ s _=>match s with
     | [_,.int _ i]=>ls.length-i.toNat
     | _=>0,⟨0,none,0,rfl,by omega,Jt.nil an⟩,?_⟩
   rintro ba _ bc _ w7 ⟨i,_,_,aA,hi,h2⟩;cases aA;have C2:=Ac dq.Ar h2.Ar;refine Aa (λ aB=>⟨⟨by omega,aB⟩,?_⟩) (λ aI=>?_)
   ·have aD:i<ls.length:=by omega
    obtain⟨p,rfl,c0,c1,c2⟩:=Di (hl.grown C2) aD;have au:(A4 (ls.take i)).length<=1024:=by simp [A4];omega
    have cM:ls.length-((i+1:Nat):Int).toNat<ls.length-((i:Nat):Int).toNat:=by
     simp only [Ale];omega
    refine⟨_,by rw [Ale];exact c0,?_⟩;rw [Ae (by omega)];refine Ao (λ hz=>?_) (λ hz=>?_)
    ·refine (SH.start (λ _=>False) w7).An λ jt w8 mZ B7 S7=>EA (h2.grown B7) (by omega) (x:=1) rfl (S7.get 0 rfl) λ a8 c8 w8 h8=>⟨_,_,_,rfl,⟨i+1,a8,c8,?_,by omega,?_⟩,cM⟩
     ·rw [EB aD,if_pos hz]
     ·rw [EB aD,if_pos hz];exact h8
    ·refine (SH.start (λ _=>False) w7).An λ jt w8 mZ B7 S7=>EA (h2.grown B7) (by omega) (x:=0) rfl (S7.get 0 rfl) λ a8 c8 w8 h8=>⟨_,_,_,rfl,⟨i+1,a8,c8,?_,by omega,?_⟩,cM⟩
     ·rw [EB aD,if_neg hz]
     ·rw [EB aD,if_neg hz];exact h8
   have bF:ls.take i=ls:=AlK (by omega);rw [bF] at h2 ⊢;refine (Is (wd:=1) h2.row.rd (by omega) (by omega) (TW ls)).mono ?_;rintro _ ah ⟨_,rfl,zU,zu,rfl,eo⟩;refine⟨_,_,_,_,rfl,A8 (dq.grown (Ac h2.Ar eo.Ar)).row eo.rd (by omega) λ kK kM cp m5 jr ly=>⟨_,_,_,rfl,_,kK,kM,rfl,?_,dq.Br (Ac h2.Ar eo.Ar) m5 jr ly⟩⟩;unfold DS;rw [if_pos bY]
  ·have bY:¬ (0<Au ls/\Au ls<ls.length):=λ hh=>by rw [ht.2 hh] at h;cases h
   refine⟨_,m9,oN,rfl,?_,dq⟩;unfold DS;rw [if_neg bY,Amc]
 rintro ab _ cb cP ⟨b,_,_,aA,hb,fH⟩;cases aA;have jF:b.length<=221:=by rw [hb,Alb];omega
 refine⟨λ s fC=>∃(o b2:List UInt8) (ab:Option Addr) (cb:Nat),s=[.slice ab b2.length cb]/\b2=b++o/\o.length<=2000000/\(Au ls<ls.length->D9 kind ls o)/\(¬ Au ls<ls.length->o=[])/\Bm w fC b2 ab cb,?_,?_⟩
 ·refine Aa (λ h=>?_) (λ h=>⟨[],b,ab,cb,rfl,by simp,by simp,λ hh=>absurd hh (by omega),λ _=>rfl,fH⟩);refine (TD hg (hl.grown fH.Ar)).mono ?_;rintro _ eZ ⟨_,rfl,o,tA,tR,rfl,hO,gV⟩;have cE:=hO.len hg;refine⟨_,_,_,rfl,A8 (fH.grown gV.Ar).row gV.rd (by omega) λ tC tT fB sm sQ si=>⟨_,_,_,rfl,o,_,tC,tT,rfl,rfl,cE,λ _=>hO,λ hh=>absurd (by omega) hh,fH.Br gV.Ar sm sQ si⟩⟩
 rintro tD _ tW fC ⟨o,b2,_,_,aA,dF,cE,nW,iD,iw⟩;cases aA;have uS:b2.length<=2000221:=by rw [dF,Alb];omega
 refine (YD b2 iw.rd (by omega)).mono ?_;rintro _ iM ⟨_,rfl,rfl,rfl⟩;refine⟨_,rfl,(SH.start (λ _=>False) iM).An λ tH fp uV ij m7=>?_⟩;have hR:=Qj (crc b2) fp tH _ (m7.get 0 rfl);have tq:=iw.grown ij;refine A8 (m:=VC (crc b2)) tq.row hR (by simp [VC];omega) λ a24 oO fE so sR sj=>⟨_,_,_,rfl,.inr ⟨hr,_,a24,oO,⟨o,nW,iD,?_⟩,rfl,iw.Br ij so sR sj⟩⟩;rw [dF,hb]
end
theorem AbH{v:AB}(h1 : -10<=v.2.1)(h2:v.2.1<=10):BL v:=⟨by omega,by omega⟩
theorem ChV.open{kind:Int}{ls:List AB}{w w':World}{r:Value}(h:ChV kind ls w w' r):∃(bs:List UInt8) (a:Option Addr) (c:Nat) (e:Int),r=.tuple #[.slice a bs.length c,.int .i64 e]/\Rd w' a (bs.map Ag)/\Below w.heap.size w w'/\((DW kind ls=true/\KR kind ls bs/\e=0)\/(DW kind ls=false/\bs=[]/\e=2)):=by
 rcases h with ⟨h1,rfl,hb⟩ | ⟨h1,b,a,c,h2,rfl,h3⟩
 ·exact⟨[],none,0,2,rfl,Rd.nil _ _,hb,.inr ⟨h1,rfl,rfl⟩⟩
 ·exact⟨b,a,c,0,rfl,h3.rd,h3.Ar,.inl ⟨h1,h2,rfl⟩⟩
theorem Gq{n:Int}:CB (D8 n)=n:=by unfold CB D8;split <;> split <;> omega
theorem Pt:enters Tryz.prog f.ID=true:=by kernel_rfl
theorem Aax{x:Nat × Nat}:LR (some x)=.tuple #[.int .u64 (x.1:Int),.int .i64 (x.2:Int),.int .i64 0]:=rfl
theorem Xx{many:Nat}{ts:List (List UInt8)}{xs:List Nat}{i:Nat}(hi:i<xs.length):(xs.take (i+1)).map (λ p=>ts.getD p [])=(xs.take i).map (λ p=>ts.getD p [])++[ts.getD xs[i] []]:=by
 rw [Al6 hi,Alv];rfl
theorem Jy{w:World}{a:Option Addr}{c q:Nat}{l:List UInt8}(hl:Rd w a (l.map Ag))(hc:l.length<=c):Rd w (Cm a q c 1) ((l.drop q).map Ag):=by
 have h:=hl.OY q l.length c 1 hc;rw [Nat.mul_one,Nat.mul_one,<- List.map_drop] at h;have e:((l.drop q).map Ag).take (l.length-q)=(l.drop q).map Ag:=AlK (by simp);rwa [e] at h
section
variable {w:World}{a:Option Addr}{c:Nat}{l:List UInt8}
theorem Yg(hl:Rd w a (l.map Ag))(hc:l.length<=c)(hs:l.length<=9223372036854775807){n:Nat}(hn:n<=4096) :
  Calls Tryz.prog f.UC #[.slice a l.length c,.int .i64 (n:Int)] w (AG λ v w'=>∃(ms:List (List UInt8)) (a':Option Addr) (c':Nat) (ok:Bool),v=.tuple #[.slice a' ms.length c',.bool ok]/\Rd w' a' (strs ms)/\Below w.heap.size w w' /\
   ((ok=false/\BU l n=none)\/(ok=true/\BU l n=some ms))):=by
 apply R.Lo
 delta R.Ad R.AR R.Bu R.Cf R.D R.F R.G R.H R.I R.J R.Ks R.Lt R.Lu R.Ly R.N R.O R.EM R.S R.T R.U R.W R.Wu R.X R.Y;try dsimp only [R.Ps]
 have bad:∀ {w':World},Below w.heap.size w w'->BU l n=none->∃(ms:List (List UInt8)) (a':Option Addr) (c':Nat) (ok:Bool),(Value.tuple #[.slice none 0 0,.bool false])=.tuple #[.slice a' ms.length c',.bool ok]/\Rd w' a' (strs ms)/\Below w.heap.size w w' /\
   ((ok=false/\BU l n=none)\/(ok=true/\BU l n=some ms)):=λ hb ht=>⟨[],none,0,false,rfl,Rd.nil _ _,hb,.inl ⟨rfl,ht⟩⟩
 refine (AL hl hc hs 1).mono ?_;rintro _ w ⟨_,rfl,rfl,rfl⟩;cases hx:takeN l 1 with
 | none=>exact⟨_,_,_,rfl,Ah (λ _=>bad (.refl _ _) (by simp [BU,hx])) (λ h=>absurd h (by decide))⟩
 | some x =>
 have hxb:=Az (n:=x.1) (k:=x.2) hx;rw [Aax];rw [Aj (n:=(n:Int)) (by omega) (by omega)];refine⟨_,_,_,rfl,Ah (λ h=>absurd rfl h) (λ _=>Aa (λ h=>bad (.refl _ _) ?_) (λ eE=>?_))⟩
 ·simp only [BU,hx,Amv];rw [if_pos (by omega)]
 have hm:¬ n<x.1:=by omega
 refine (Nr (x.2:Int)).mono ?_;rintro _ w2 ⟨_,rfl,b1,b2,rfl,S2⟩;refine⟨_,_,_,rfl,?_⟩;rw [Pt];refine (SQ (n:=x.1) S2 hl hc hs (by omega)).mono ?_;rintro _ w3 ⟨_,rfl,hM,B3⟩;unfold Nf at hM;cases hy:AO l x.2 x.1 with
 | none =>
  rw [hy] at hM;subst hM;refine⟨_,_,_,_,_,rfl,CN (bad B3 ?_)⟩;simp only [BU,hx,hy,Amv,Option.bind_none];rw [if_neg hm]
 | some y =>
 rw [hy] at hM;obtain⟨ta,tc,rfl,j7⟩:=hM;have qn:=Hp hy;have xA:=Mm hy (by omega);refine⟨_,_,_,_,_,rfl,AV (Aa (λ h=>bad B3 ?_) (λ aB=>?_))⟩
 ·simp only [BU,hx,hy,Amv];rw [if_neg hm,if_pos (by omega)]
 have hj:y.2<l.length:=by omega
 refine (SH.start (λ _=>False) w3).E5 λ w4 B4 _=>?_;have C4:=Ac B3 B4;rw [wrap_i64 (n:=(y.2:Int)+1) (by omega) (by omega),show ((y.2:Int)+1).toNat=y.2+1 by omega];refine⟨⟨by omega,by omega,by omega⟩,⟨by omega,by omega⟩,?_⟩;have hJ:=Jy (q:=y.2+1) (hl.grown C4) hc;obtain⟨p,rfl,aE⟩:=byte_at (hl.grown C4) hj;refine⟨_,by rw [Ale];exact aE,?_⟩;have ud:=(l[y.2]).toNat_lt;rw [wrap_i64 (n:=(l[y.2].toNat:Int)) (by omega) (by omega),<- AlE (i:=y.2+1) (l:=l)];refine (HR hJ (n:Int) (l[y.2].toNat:Int) (by rw [AlE];omega)).mono ?_;rintro _ w5 ⟨_,rfl,xs,xa,xc,e,rfl,gb,B5,nw,aG⟩;have C5:=Ac C4 B5;rw [Ale,Ale] at aG;have hg:l.getD y.2 0=l[y.2]:=Gy hj;refine⟨_,_,_,_,rfl,?_⟩;have hxs4:xs.length<=4096:=by
  rcases aG with ⟨_,_,rfl,_⟩ | ⟨_,rfl,_⟩
  ·rw [Ch];exact hn
  ·simp
 refine⟨λ s w6=>∃(i:Nat) (oa:Option Addr) (oc:Nat),s=[.slice oa i oc,.int .i64 (i:Int)]/\i<=xs.length/\(∀ p∈xs.take i,p<x.1)/\Row w6 ty.string 1 oa i oc (strs ((xs.take i).map λ p=>y.1.getD p []))/\(∀ k,AD oa=some k->w5.heap.size<=k)/\Below w5.heap.size w5 w6,λ s _=>match s with
   | [_,.int _ i]=>xs.length-i.toNat
   | _=>0,⟨0,none,0,rfl,by omega,by simp,Row.nil _ _ _,by simp [AD],.refl _ _⟩,?_⟩
 rintro oa i oc _ w6 ⟨_,_,_,aA,hi,aF,R6,N6,B6⟩;cases aA;have C6:=Ac C5 B6;refine Aa (λ ao=>⟨⟨by omega,ao⟩,?_⟩) (λ aI=>?_)
 ·have dP:i<xs.length:=by omega
  obtain⟨p2,rfl,hcx⟩:=GZ (gb.grown B6) dP;refine⟨_,by rw [Ale];exact hcx,Aa (λ gB=>?_) (λ dX=>?_)⟩
  ·rcases aG with ⟨h1,h2,rfl,rfl⟩ | ⟨_,rfl,_⟩
   ·refine bad C6 ?_;simp only [BU,hx,hy,Amv,hg];rw [if_neg hm,if_neg (by omega),if_pos ⟨h1,h2⟩];unfold Abw;rw [if_neg (λ h=>by have:=h _ (AlS dP);omega)]
   ·simp at dP
  ·have nZ:xs[i]<x.1:=by omega
   have qV:xs[i]<y.1.length:=by omega
   refine⟨⟨by omega,by omega⟩,?_⟩;have bD:xs[i]<(y.1.map BC).length:=by simpa using qV
   obtain⟨p3,rfl,ke⟩:=Fa (ls:=y.1.map BC) (((j7.grown B4).grown B5).grown B6) bD;refine⟨_,by rw [Ale];exact ke,(SH.start (λ _=>False) w6).An λ b7 w7 pq B7 S7=>?_⟩;have vM:y.1.getD xs[i] []=y.1[xs[i]]:=by simp [qV]
   have aW:Rd w7 (some ⟨b7,0,none⟩) (strs [y.1.getD xs[i] []]):=by
    have:=Rd.Ak (S7.get 0 rfl);rw [vM];simpa [strs] using this
   have el:i=((xs.take i).map λ p=>y.1.getD p []).length:=by simp;omega
   have R7:=R6.grown B7;obtain⟨u,hu⟩:∃ u,u=(xs.take i).map λ p=>y.1.getD p []:=⟨_,rfl⟩;rw [<- hu] at R7 el;have ae:(xs.take (i+1)).map (λ p=>y.1.getD p [])=u++[y.1.getD xs[i] []]:=by rw [hu];exact Xx (many:=0) dP
   have jA:=@Ez w7 oa oc u [y.1.getD xs[i] []] (by rw [<- el];exact R7) (some ⟨b7,0,none⟩) 1 1 rfl aW (by rw [<- el];simp;omega);rw [<- el] at jA;refine jA λ a8 c8 w8 R8 K8 N8=>⟨_,_,_,rfl,?_⟩;have tY:(u++[y.1.getD xs[i] []]).length=i+1:=by rw [Alb,<- el];rfl
   rw [tY] at R8 ⊢;rw [Ae (by omega)];have lr:Below w5.heap.size w5 w7:=B6.trans (B7.mono B6.size);refine⟨⟨i+1,a8,c8,rfl,by omega,?_,by rw [ae];exact R8,λ k hk=>?_,lr.trans (K8.below lr.size λ k hk he=>by have:=N6 k he;omega)⟩,?_⟩
   ·intro q hq;rw [Al6 dP] at hq;rcases Al8.1 hq with h | h
    ·exact aF q h
    ·rw [Al9.1 h];exact nZ
   ·rcases N8 k hk with h | h
    ·exact N6 k h
    ·exact Als lr.size h
   ·simp only [Ale];omega
 ·have bF:xs.take i=xs:=AlK (by omega);have aD:i=xs.length:=by omega
  rw [bF] at aF R6;have el:(xs.map λ p=>y.1.getD p []).length=i:=by simp [aD]
  refine⟨xs.map λ p=>y.1.getD p [],oa,oc,e==0,by rw [el],R6.rd,C6,?_⟩;rcases aG with ⟨h1,h2,rfl,rfl⟩ | ⟨aP,rfl,he⟩
  ·refine .inr ⟨rfl,?_⟩;simp only [BU,hx,hy,Amv,hg];rw [if_neg hm,if_neg (by omega),if_pos ⟨h1,h2⟩];unfold Abw;rw [if_pos aF]
  ·refine .inl ⟨?_,?_⟩
   ·rw [he];split <;> rfl
   ·simp only [BU,hx,hy,Amv,hg];rw [if_neg hm,if_neg (by omega),if_neg aP]
theorem Afc(hl:Rd w a (l.map Ag))(hc:l.length<=c)(hs:l.length<=9223372036854775807){n:Nat}(hn:n<=4096) :
  Calls Tryz.prog f.YN #[.slice a l.length c,.int .i64 (n:Int)] w (AG λ v w'=>∃(a':Option Addr) (c':Nat),v=.slice a' ((BU l n).getD []).length c'/\Rd w' a' (strs ((BU l n).getD []))/\Below w.heap.size w w'):=by
 apply R.Oq
 delta R.Ad R.AR R.Ado R.Bu R.D R.F R.I R.J R.Ks R.Lt R.Lu R.Ly R.N R.O R.EM R.S R.T R.W R.Wu R.X R.Y;try dsimp only [R.Ps]
 have bad:∀ {w':World},Below w.heap.size w w'->BU l n=none->∃(a':Option Addr) (c':Nat),(Value.slice none 0 0)=.slice a' ((BU l n).getD []).length c'/\Rd w' a' (strs ((BU l n).getD []))/\Below w.heap.size w w':=λ hb ht=>⟨none,0,by rw [ht];rfl,by rw [ht];exact Rd.nil _ _,hb⟩;refine (AJ hl hs 1 (by decide)).mono ?_;rintro _ w ⟨_,rfl,rfl,rfl⟩;cases hx:takeN l 1 with
 | none=>exact⟨_,_,_,rfl,Ah (λ _=>bad (.refl _ _) (by simp [BU,hx])) (λ h=>absurd h (by decide))⟩
 | some x =>
 have hxb:=Az (n:=x.1) (k:=x.2) hx;rw [Aax];rw [Aj (n:=(n:Int)) (by omega) (by omega)];refine⟨_,_,_,rfl,Ah (λ h=>absurd rfl h) (λ _=>Aa (λ h=>bad (.refl _ _) ?_) (λ eE=>?_))⟩
 ·simp only [BU,hx,Amv];rw [if_pos (by omega)]
 have hm:¬ n<x.1:=by omega
 rw [wrap_i64 (n:=(x.1:Int)) (by omega) (by omega)];refine (Qc (n:=x.1) (at_:=x.2) hl hc hs (by omega) (by omega)).mono ?_;rintro _ w3 ⟨_,rfl,hM,B3⟩;unfold Nf at hM;cases hy:AO l x.2 x.1 with
 | none =>
  rw [hy] at hM;subst hM;refine⟨_,_,_,_,_,rfl,CN (bad B3 ?_)⟩;simp only [BU,hx,hy,Amv,Option.bind_none];rw [if_neg hm]
 | some y =>
 rw [hy] at hM;obtain⟨ta,tc,rfl,j7⟩:=hM;have qn:=Hp hy;have xA:=Mm hy (by omega);refine⟨_,_,_,_,_,rfl,AV (Aa (λ h=>bad B3 ?_) (λ aB=>?_))⟩
 ·simp only [BU,hx,hy,Amv];rw [if_neg hm,if_pos (by omega)]
 have hj:y.2<l.length:=by omega
 refine (SH.start (λ _=>False) w3).E5 λ w4 B4 _=>?_;have C4:=Ac B3 B4;rw [wrap_i64 (n:=(y.2:Int)+1) (by omega) (by omega),show ((y.2:Int)+1).toNat=y.2+1 by omega];refine⟨⟨by omega,by omega,by omega⟩,⟨by omega,by omega⟩,?_⟩;have hJ:=Jy (q:=y.2+1) (hl.grown C4) hc;obtain⟨p,rfl,aE⟩:=byte_at (hl.grown C4) hj;refine⟨_,by rw [Ale];exact aE,?_⟩;have ud:=(l[y.2]).toNat_lt;rw [wrap_i64 (n:=(l[y.2].toNat:Int)) (by omega) (by omega),<- AlE (i:=y.2+1) (l:=l)];refine (Gu hJ (n:Int) (l[y.2].toNat:Int) (by rw [AlE];omega)).mono ?_;rintro _ w5 ⟨_,rfl,xs,xa,xc,e,rfl,gb,B5,nw,aG⟩;have C5:=Ac C4 B5;rw [Ale,Ale] at aG;have hg:l.getD y.2 0=l[y.2]:=Gy hj;refine⟨_,_,_,_,rfl,?_⟩;rcases aG with ⟨h1,h2,rfl,rfl⟩ | ⟨aP,rfl,he⟩
 case inr =>
  refine Ah (λ _=>bad C5 ?_) (λ h=>by rw [he] at h;split at h <;> cases h);simp only [BU,hx,hy,Amv,hg];rw [if_neg hm,if_neg (by omega),if_neg aP]
 refine Ah (λ h=>absurd rfl h) (λ _=>?_);obtain⟨xs,bP⟩:∃ xs,xs=BK (l.drop (y.2+1)) n l[y.2].toNat:=⟨_,rfl⟩;have dB:xs.length=n:=by rw [bP,Ch]
 have bU:BU l n=Abw x.1 y.1 xs:=by
  simp only [BU,hx,hy,Amv,hg];rw [if_neg hm,if_neg (by omega),if_pos ⟨h1,h2⟩,bP]
 rw [<- bP] at gb ⊢;refine⟨λ s w6=>∃(i:Nat) (oa:Option Addr) (oc:Nat),s=[.slice oa i oc,.int .i64 (i:Int)]/\i<=xs.length/\(∀ p∈xs.take i,p<x.1)/\Row w6 ty.string 1 oa i oc (strs ((xs.take i).map λ p=>y.1.getD p []))/\(∀ k,AD oa=some k->w5.heap.size<=k)/\Below w5.heap.size w5 w6,λ s _=>match s with
   | [_,.int _ i]=>xs.length-i.toNat
   | _=>0,⟨0,none,0,rfl,by omega,by simp,Row.nil _ _ _,by simp [AD],.refl _ _⟩,?_⟩
 rintro oa i oc _ w6 ⟨_,_,_,aA,hi,aF,R6,N6,B6⟩;cases aA;have C6:=Ac C5 B6;refine Aa (λ ao=>⟨⟨by omega,by omega⟩,?_⟩) (λ aI=>?_)
 ·have dP:i<xs.length:=by omega
  obtain⟨p2,rfl,hcx⟩:=GZ (gb.grown B6) dP;refine⟨_,by rw [Ale];exact hcx,Aa (λ gB=>?_) (λ dX=>?_)⟩
  ·refine bad C6 ?_;rw [bU];unfold Abw;rw [if_neg (λ h=>by have:=h _ (AlS dP);omega)]
  ·have nZ:xs[i]<x.1:=by omega
   have qV:xs[i]<y.1.length:=by omega
   refine⟨⟨by omega,by omega⟩,_,by rw [Ale];exact hcx,⟨by omega,by omega⟩,?_⟩;have bD:xs[i]<(y.1.map BC).length:=by simpa using qV
   obtain⟨p3,rfl,ke⟩:=Fa (ls:=y.1.map BC) (((j7.grown B4).grown B5).grown B6) bD;refine⟨_,by rw [Ale];exact ke,(SH.start (λ _=>False) w6).An λ b7 w7 pq B7 S7=>?_⟩;have vM:y.1.getD xs[i] []=y.1[xs[i]]:=by simp [qV]
   have aW:Rd w7 (some ⟨b7,0,none⟩) (strs [y.1.getD xs[i] []]):=by
    have:=Rd.Ak (S7.get 0 rfl);rw [vM];simpa [strs] using this
   have el:i=((xs.take i).map λ p=>y.1.getD p []).length:=by simp;omega
   have R7:=R6.grown B7;obtain⟨u,hu⟩:∃ u,u=(xs.take i).map λ p=>y.1.getD p []:=⟨_,rfl⟩;rw [<- hu] at R7 el;have ae:(xs.take (i+1)).map (λ p=>y.1.getD p [])=u++[y.1.getD xs[i] []]:=by rw [hu];exact Xx (many:=0) dP
   have jA:=@Ez w7 oa oc u [y.1.getD xs[i] []] (by rw [<- el];exact R7) (some ⟨b7,0,none⟩) 1 1 rfl aW (by rw [<- el];simp;omega);rw [<- el] at jA;refine jA λ a8 c8 w8 R8 K8 N8=>⟨_,_,_,rfl,?_⟩;have tY:(u++[y.1.getD xs[i] []]).length=i+1:=by rw [Alb,<- el];rfl
   rw [tY] at R8 ⊢;rw [Ae (by omega)];have lr:Below w5.heap.size w5 w7:=B6.trans (B7.mono B6.size);refine⟨⟨i+1,a8,c8,rfl,by omega,?_,by rw [ae];exact R8,λ k hk=>?_,lr.trans (K8.below lr.size λ k hk he=>by have:=N6 k he;omega)⟩,?_⟩
   ·intro q hq;rw [Al6 dP] at hq;rcases Al8.1 hq with h | h
    ·exact aF q h
    ·rw [Al9.1 h];exact nZ
   ·rcases N8 k hk with h | h
    ·exact N6 k h
    ·exact Als lr.size h
   ·simp only [Ale];omega
 ·have bF:xs.take i=xs:=AlK (by omega);have aD:i=xs.length:=by omega
  rw [bF] at aF R6;have el:(xs.map λ p=>y.1.getD p []).length=i:=by simp [aD]
  have hv:BU l n=some (xs.map λ p=>y.1.getD p []):=by
   rw [bU];unfold Abw;rw [if_pos aF]
  rw [hv];exact⟨oa,oc,by rw [Amw,el],R6.rd,C6⟩
end
def Cj(n:Int):Prop:=0<=n/\n<=4096
def KU(l:List UInt8)(n:Int)(w w':World)(v:Value):Prop :=
 ∃(ls:List ByteArray) (a:Option Addr) (c:Nat) (e:Int),v=.tuple #[.slice a ls.length c,.int .i64 e]/\Rd w' a (ls.map Value.string)/\Below w.heap.size w w'/\ls.length<=4096 /\
  ((¬ Cj n/\ls=[]/\e=2)\/(Cj n/\Il l n.toNat ls/\e=0/\0<l.length)\/(Cj n/\(∀ ms,¬ (Il l n.toNat ms/\0<l.length))/\ls=[]/\e=70))
theorem KU.bad{l:List UInt8}{n:Int}{w w':World}(hb:Below w.heap.size w w')(hn:Cj n)(h:∀ ms,¬ (Il l n.toNat ms/\0<l.length)):KU l n w w' (.tuple #[.slice none 0 0,.int .i64 70]) :=
 ⟨[],none,0,70,rfl,Rd.nil _ _,hb,by simp,.inr (.inr ⟨hn,h,rfl,rfl⟩)⟩
theorem KU.arg{l:List UInt8}{n:Int}{w w':World}(hb:Below w.heap.size w w')(hn:¬ Cj n):KU l n w w' (.tuple #[.slice none 0 0,.int .i64 2]) :=
 ⟨[],none,0,2,rfl,Rd.nil _ _,hb,by simp,.inl ⟨hn,rfl,rfl⟩⟩
theorem Il.head{l:List UInt8}{n:Nat}{ls:List ByteArray}(h:Il l n ls):(l.getD 0 0).toNat<=1:=by
 have:=h.ok.2.1;omega
section
variable {w:World}{a:Option Addr}{c:Nat}{l:List UInt8}
theorem HC{a2:Option Addr}{c2:Nat}{m:List UInt8}(hl:Rd w a (l.map Ag))(hm:Rd w a2 (m.map Ag)) :
  Calls Tryz.prog f.ZN #[.slice a l.length c,.slice a2 m.length c2] w (AG λ v w'=>w'=w/\v=.bool (decide (l=m))):=by
 apply R.Pe
 delta R.G R.Rt R.S;try dsimp only [R.Ps]
 refine Ax CA rfl hl ⟨_,rfl,Ax CA rfl hm ⟨_,rfl,rfl,?_⟩⟩;rw [A0];congr 1;rw [decide_eq_decide];exact⟨λ h=>by have:=congrArg bl h;rwa [BN,BN] at this,λ h=>by rw [h]⟩
theorem DI(hl:Rd w a (l.map Ag))(h0:0<l.length):∃ p,a=some p/\w.cell? p=some (.int .u8 ((l.getD 0 0).toNat:Int)):=by
 obtain⟨p,hp,hc⟩:=byte_at hl h0;refine⟨p,hp,?_⟩;rw [Nat.zero_mul,C0] at hc;rw [hc,Gy h0]
theorem Xm{n:Nat}{ms:List (List UInt8)}(h0:0<l.length){bs:List UInt8}{e:Int}
  (hq:(E6 ((l.getD 0 0).toNat:Int) (ms.map BC)/\F7 (ms.map BC) ((l.getD 0 0).toNat:Int) bs/\e=0)\/(¬ E6 ((l.getD 0 0).toNat:Int) (ms.map BC)/\bs=[]/\e=2)) (hlen:ms.length=n)
  (iW:ms=(Hc l n).getD []):(bs=l->Il l n (ms.map BC))/\(bs≠l->∀ xs,¬ (Il l n xs/\0<l.length)):=by
 constructor
 ·rintro rfl;rcases hq with ⟨h1,h2,_⟩ | ⟨_,h2,_⟩
  ·exact⟨by simpa using hlen,h1,h2⟩
  ·subst h2;simp at h0
 ·rintro aQ xs ⟨hx,_⟩;have hr:=hx.reads;rw [hr] at iW;simp only [Amw] at iW;have he:ms.map BC=xs:=by rw [iW,HO]
  rw [he] at hq;rcases hq with ⟨h1,h2,_⟩ | ⟨h1,_⟩
  ·exact aQ (h2.one hx.enc)
  ·exact h1 hx.ok
theorem UB(hl:Rd w a (l.map Ag))(hc:l.length<=c)(hs:l.length<=9223372036854775807)(n:Int) :
  Calls Tryz.prog f.ZX #[.slice a l.length c,.int .i64 n] w (AG λ v w'=>KU l n w w' v):=by
 apply R.Pn
 delta R.AbS R.AR R.Cb R.Cf R.F R.G R.H R.I R.Ly R.O R.S R.U R.W R.Wu R.X R.Zb R.Zsb;try dsimp only [R.Ps]
 refine⟨λ s w1=>∃ b:Bool,s=[.bool b]/\w1=w/\(b=true↔¬ Cj n),?_,?_⟩
 ·refine Aa (λ h=>⟨true,rfl,rfl,?_⟩) (λ h=>⟨_,rfl,rfl,?_⟩)
  ·unfold Cj;simp;omega
  ·unfold Cj;simp;omega
 rintro _ w1 ⟨b,aA,rfl,hb⟩;cases aA;refine Aq (λ h=>KU.arg (.refl _ _) (hb.1 h)) (λ h=>?_);have aU:Cj n:=by
  rcases Classical.em (Cj n) with h1 | h1
  ·exact h1
  ·rw [hb.2 h1] at h;cases h
 obtain⟨n,rfl⟩:∃ m:Nat,n=(m:Int):=⟨n.toNat,by have:=aU.1;omega⟩;have hn:n<=4096:=by have:=aU.2;omega
 refine Ao (λ h=>KU.bad (.refl _ _) aU λ ms hm=>by have:=hm.2;omega) (λ aQ=>?_);have h0:0<l.length:=by omega
 obtain⟨p,rfl,aE⟩:=DI hl h0;have bg:=(l.getD 0 0).toNat_lt;refine⟨⟨by omega,by omega⟩,_,aE,Aa (λ h=>KU.bad (.refl _ _) aU λ ms hm=>by have:=hm.1.head;omega) (λ hle=>?_)⟩;refine⟨λ s w5=>∃(ms:List (List UInt8)) (a':Option Addr) (c':Nat) (ok:Bool),s=[.slice a' ms.length c',.bool ok]/\Rd w5 a' (strs ms)/\Below w1.heap.size w1 w5/\((ok=false/\Hc l n=none)\/(ok=true/\Hc l n=some ms)),?_,?_⟩
 ·refine⟨⟨by omega,by omega⟩,_,aE,Ao (λ hz=>?_) (λ hz=>?_)⟩
  ·have eA:l.getD 0 0=0:=UInt8.toNat_inj.1 (by show _=0;omega);refine (Nr (at_:=1)).mono ?_;rintro _ w2 ⟨_,rfl,b1,b2,rfl,S2⟩;refine⟨_,_,_,rfl,?_⟩;rw [Pt,Aj (by omega) (by omega)];refine (SQ (at_:=1) (n:=n) S2 hl hc hs hn).mono ?_;rintro _ w3 ⟨_,rfl,hM,B3⟩;unfold Nf at hM;have hr:Hc l n=(AO l 1 n).map (·.1):=by unfold Hc;rw [if_pos eA]
   cases hy:AO l 1 n with
   | none =>
    rw [hy] at hM hr;subst hM;exact⟨_,_,_,_,_,rfl,[],none,0,false,rfl,Rd.nil _ _,B3,.inl ⟨rfl,hr⟩⟩
   | some y =>
    rw [hy] at hM hr;obtain⟨ta,tc,rfl,j7⟩:=hM;exact⟨_,_,_,_,_,rfl,y.1,ta,tc,true,rfl,j7,B3,.inr ⟨rfl,hr⟩⟩
  ·have eA:¬ l.getD 0 0=0:=λ h=>hz (by rw [h];rfl);refine (Yg hl hc hs hn).mono ?_;rintro _ w3 ⟨_,rfl,ms,a',c',ok,rfl,j7,B3,aG⟩;have hr:Hc l n=BU l n:=by unfold Hc;rw [if_neg eA]
   rw [<- hr] at aG;exact⟨_,_,_,_,rfl,ms,a',c',ok,rfl,j7,B3,aG⟩
 rintro a' _ c' _ w5 ⟨ms,_,_,ok,aA,pR,B5,aG⟩;cases aA;rcases aG with ⟨rfl,hr⟩ | ⟨rfl,hr⟩
 ·refine CN (KU.bad B5 aU ?_);rintro xs ⟨hx,_⟩;rw [Ale,] at hx;rw [hx.reads] at hr;cases hr
 have hmn:=Xl hr;refine AV ⟨⟨by omega,by omega⟩,?_⟩;obtain⟨p',hp',hcell5⟩:=DI (hl.grown B5) h0;cases hp';refine⟨_,hcell5,?_⟩;rw [wrap_i64 (by omega) (by omega)];have hE:=FT (c:=c') ((l.getD 0 0).toNat:Int) (ls:=ms.map BC) pR (by rw [Alr];omega);rw [Alr] at hE;refine hE.mono ?_;rintro _ w6 ⟨_,rfl,h6⟩;obtain⟨bs,a6,c6,e6,rfl,hR6,B6,q6⟩:=I8 h6;have C6:=Ac B5 B6;refine⟨_,_,_,_,rfl,(HC hR6 (hl.grown C6)).mono ?_⟩;rintro _ w7 ⟨_,rfl,rfl,rfl⟩;obtain⟨g1,g2⟩:=Xm h0 q6 hmn (by rw [hr];rfl);refine⟨_,rfl,As (Aa (λ he=>?_) (λ he=>KU.bad C6 aU (by rw [Ale];exact g2 he)))⟩;refine⟨ms.map BC,a',c',0,by rw [Alr],pR.grown B6,C6,by rw [Alr];omega,.inr (.inl ⟨aU,by rw [Ale];exact g1 he,rfl,h0⟩)⟩
theorem Wm(hl:Rd w a (l.map Ag))(hc:l.length<=c)(hs:l.length<=9223372036854775807)(n:Int) :
  Calls Tryz.prog f.YL #[.slice a l.length c,.int .i64 n] w (AG λ v w'=>KU l n w w' v):=by
 apply R.On
 delta R.AR R.Ado R.Cs R.F R.H R.I R.Ly R.O R.Rt R.S R.W R.X R.Zs;try dsimp only [R.Ps]
 refine Aa (λ h=>KU.arg (.refl _ _) (by unfold Cj;omega)) (λ h1=>Aa (λ h=>KU.arg (.refl _ _) (by unfold Cj;omega)) (λ h2=>?_));have aU:Cj n:=⟨by omega,by omega⟩;obtain⟨n,rfl⟩:∃ m:Nat,n=(m:Int):=⟨n.toNat,by omega⟩;have hn:n<=4096:=by omega
 refine Ao (λ h=>KU.bad (.refl _ _) aU λ ms hm=>by have:=hm.2;omega) (λ aQ=>?_);have h0:0<l.length:=by omega
 obtain⟨p,rfl,aE⟩:=DI hl h0;have bg:=(l.getD 0 0).toNat_lt;refine⟨⟨by omega,by omega⟩,_,aE,Aa (λ h=>KU.bad (.refl _ _) aU λ ms hm=>by have:=hm.1.head;omega) (λ hle=>?_)⟩;refine⟨λ s w5=>∃(ms:List (List UInt8)) (a':Option Addr) (c':Nat),s=[.slice a' ms.length c']/\Rd w5 a' (strs ms)/\Below w.heap.size w w5/\ms=(Hc l n).getD [],?_,?_⟩
 ·refine⟨⟨by omega,by omega⟩,_,aE,Ao (λ hz=>?_) (λ hz=>?_)⟩
  ·have eA:l.getD 0 0=0:=UInt8.toNat_inj.1 (by show _=0;omega);refine (Qc (at_:=1) (n:=n) hl hc hs hn (by decide)).mono ?_;rintro _ w3 ⟨_,rfl,hM,B3⟩;unfold Nf at hM;have hr:Hc l n=(AO l 1 n).map (·.1):=by unfold Hc;rw [if_pos eA]
   cases hy:AO l 1 n with
   | none =>
    rw [hy] at hM hr;subst hM;exact⟨_,_,_,_,_,rfl,[],none,0,rfl,Rd.nil _ _,B3,by rw [hr];rfl⟩
   | some y =>
    rw [hy] at hM hr;obtain⟨ta,tc,rfl,j7⟩:=hM;exact⟨_,_,_,_,_,rfl,y.1,ta,tc,rfl,j7,B3,by rw [hr];rfl⟩
  ·have eA:¬ l.getD 0 0=0:=λ h=>hz (by rw [h];rfl);refine (Afc hl hc hs hn).mono ?_;rintro _ w3 ⟨_,rfl,a',c',rfl,j7,B3⟩;have hr:Hc l n=BU l n:=by unfold Hc;rw [if_neg eA]
   exact⟨_,_,_,rfl,_,a',c',rfl,j7,B3,by rw [hr]⟩
 rintro a' _ c' w5 ⟨ms,_,_,aA,pR,B5,iW⟩;cases aA;refine Ah (λ hlen=>KU.bad B5 aU ?_) (λ hlen=>?_)
 ·rintro xs ⟨hx,_⟩;rw [Ale] at hx;have hr:=hx.reads;have:=Xl hr;rw [hr,Amw] at iW;rw [<- iW] at this;omega
 refine⟨⟨by omega,by omega⟩,?_⟩;obtain⟨p',hp',hcell5⟩:=DI (hl.grown B5) h0;cases hp';refine⟨_,hcell5,?_⟩;rw [wrap_i64 (by omega) (by omega)];have hE:=Gt (c:=c') ((l.getD 0 0).toNat:Int) (ls:=ms.map BC) pR (by rw [Alr];omega);rw [Alr] at hE;refine hE.mono ?_;rintro _ w6 ⟨_,rfl,h6⟩;obtain⟨bs,a6,c6,e6,rfl,hR6,B6,q6⟩:=I8 h6;have C6:=Ac B5 B6;refine⟨_,_,_,_,rfl,Ax CA rfl hR6 ⟨_,rfl,Ax CA rfl (hl.grown C6) ⟨_,rfl,?_⟩⟩⟩;rw [A0];obtain⟨g1,g2⟩:=Xm h0 q6 (n:=n) (by omega) iW;refine As (Aa (λ he=>?_) (λ he=>KU.bad C6 aU (by rw [Ale];exact g2 (λ h=>he (by rw [h])))));have k6:bs=l:=by have:=congrArg bl he;rwa [BN,BN] at this
 refine⟨ms.map BC,a',c',0,by rw [Alr],pR.grown B6,C6,by rw [Alr];omega,.inr (.inl ⟨aU,by rw [Ale];exact g1 k6,rfl,h0⟩)⟩
end
structure FJ(w w':World)(xs:List Int)(a:Option Addr)(c:Nat):Prop where
 row:Row w' ty.int64 1 a xs.length c (xs.map EE)
 new:∀ k,AD a=some k->w.heap.size<=k
 Ar:Below w.heap.size w w'
theorem FJ.nil(w:World):FJ w w [] none 0:=⟨Row.nil _ _ _,by simp [AD],.refl _ _⟩
theorem FJ.grown{w w1 w2:World}{xs:List Int}{a:Option Addr}{c:Nat}(h:FJ w w1 xs a c)(hb:Below w1.heap.size w1 w2):FJ w w2 xs a c:=⟨h.row.grown hb,h.new,Ac h.Ar hb⟩
theorem Ahk:M9 Tryz.prog ty.Bk=some (ty.int64,1,8,.int .i64 0):=by kernel_rfl
theorem Gc{w w1:World}{a:Option Addr}{c:Nat}{xs:List Int}(h:FJ w w1 xs a c)(hl:xs.length+1<=1000000){x:Int}{b:Nat}{t:TypeId}(hb:w1.heap[b]?=some (.cells #[.int .i64 x] t (0,0))){f:Value->World->Prop}
  (hf:∀ a' c' w',FJ w w' (xs++[x]) a' c'->f (.slice a' (xs++[x]).length c') w'):DB Tryz.prog (Builtin.append_ #[ty.Bk,ty.Bk] ty.Bk #[.slice a xs.length c,.slice (some ⟨b,0,none⟩) 1 1]) f w1:=by
 have aW:Rd w1 (some ⟨b,0,none⟩) ([x].map EE):=by
  have:=Rd.Ak hb;simpa [EE] using this
 obtain⟨a5,c5,w2,aH,aJ,cj,hnw⟩:=BZ (ty:=ty.Bk) (mc:=1) Ahk rfl (by omega) (by omega) h.row aW (m:=1) rfl (by simp [EE];rfl) (by omega);unfold DB;rw [aH];have e:xs.length+1=(xs++[x]).length:=by simp
 rw [e] at aJ ⊢;refine hf a5 c5 w2 ⟨by rw [Alv];exact aJ,λ k hk=>?_,h.Ar.trans (cj.below h.Ar.size λ k hk he=>by have:=h.new k he;omega)⟩;rcases hnw k hk with h1 | h1
 ·exact h.new k h1
 ·exact Als h.Ar.size h1
def GG(f:Nat)(r:List Int):List UInt8:=if f=0 then r.flatMap En else E8 r
structure DK(l:List UInt8)(n:Nat)(ls:List Int):Prop where
 len:ls.length=n
 num:∀ x∈ls,Fs x
 form:(l.getD 0 0).toNat<=3
 enc:l=DR (l.getD 0 0).toNat ls
def GS(l:List UInt8)(n:Nat)(w w':World)(v:Value):Prop :=
 ∃(ms:List Int) (a:Option Addr) (c:Nat) (ok:Bool),v=.tuple #[.slice a ms.length c,.bool ok]/\FJ w w' ms a c/\(∀ x∈ms,Fs x)/\ms.length<=4096/\(ok=true->ms.length=n)/\∀ ls,DK l n ls->ok=true/\ms=ls
theorem GS.bad{l:List UInt8}{n:Nat}{w w':World}(hb:Below w.heap.size w w')(h:∀ ls,¬ DK l n ls):GS l n w w' (.tuple #[.slice none 0 0,.bool false]) :=
 ⟨[],none,0,false,rfl,⟨Row.nil _ _ _,by simp [AD],hb⟩,by simp,by simp,(λ h=>by cases h),λ ls aM=>absurd aM (h ls)⟩
theorem Cd{l r:List UInt8}{at_ m:Nat}(hm:m<18446744073709551616)(h:l.drop at_=Af m++r):takeN l (at_:Int)=some (m,at_+(Af m).length):=by
 unfold takeN;rw [if_neg (by omega),Ale,h,PO m 0 0 r (by simpa using hm) (by omega) (by intro;rfl)];simp
theorem CR{l r d:List UInt8}{at_:Nat}(h:l.drop at_=d++r):l.drop (at_+d.length)=r:=by
 rw [<- Amx,h,List.drop_left]
structure Step(l:List UInt8)(f at_:Nat)(ls:List Int)(k many aL nx:Nat)(x:Int):Prop where
 num:f=1->takeN l (at_:Int)=some (many,aL)
 one:f=0->many=1/\aL=at_
 sgn:takeN l (aL:Int)=some (D8 x,nx)
 pos:0<many
 le:k+many<=ls.length
 take:ls.take (k+many)=ls.take k++Ak9 many x
 rest:l.drop nx=GG f (ls.drop (k+many))
 i64:Fs x
theorem Ad1{l:List UInt8}{f at_:Nat}{ls:List Int}{k:Nat}(hf:f<=1)(hx:∀ x∈ls,Fs x)(hn:ls.length<=4096)(hr:l.drop at_=GG f (ls.drop k))(hk:k<ls.length):∃ many aL nx x,Step l f at_ ls k many aL nx x:=by
 have hd:ls.drop k=ls[k] :: ls.drop (k+1):=List.drop_eq_getElem_cons hk;have iK:=hx _ (AlS hk);have hz:=F2 iK.1 iK.2;rcases (by omega:f=0\/f=1) with rfl | rfl
 ·have e:l.drop at_=En ls[k]++GG 0 (ls.drop (k+1)):=by rw [hr,hd];unfold GG;rw [if_pos rfl,if_pos rfl,List.flatMap_cons]
  refine⟨1,at_,at_+(En ls[k]).length,ls[k],λ h=>(by omega),λ _=>⟨rfl,rfl⟩,Cd hz e,by omega,by omega,?_,CR e,iK⟩;rw [Al6 hk];rfl
 ·obtain⟨t,ht⟩:∃ t,t=((ls.drop (k+1)).takeWhile (·==ls[k])).length:=⟨_,rfl⟩;have eU:t<=(ls.drop (k+1)).length:=by rw [ht];exact (List.takeWhile_sublist _).length_le
  rw [AlE] at eU;have e0:E8 (ls.drop k)=Af (t+1)++(En ls[k]++E8 ((ls.drop (k+1)).drop t)):=by
   rw [hd]
   conv=>lhs;unfold E8
   rw [ht]
  have e:l.drop at_=Af (t+1)++(En ls[k]++E8 ((ls.drop (k+1)).drop t)):=by
   rw [hr];unfold GG;rw [if_neg (by omega),e0]
  have e1:=CR e;refine⟨t+1,at_+(Af (t+1)).length,at_+(Af (t+1)).length+(En ls[k]).length,ls[k],λ _=>Cd (by omega) e,λ h=>(by omega),Cd hz e1,by omega,by omega,?_,?_,iK⟩
  ·rw [List.take_add,hd,List.take_succ_cons];congr 1;rw [Amy];congr 1;have h1:(ls.drop (k+1)).take t=(ls.drop (k+1)).takeWhile (·==ls[k]):=by
    rw [ht];exact (List.prefix_iff_eq_take.1 (List.takeWhile_prefix _)).symm
   rw [h1,List.eq_replicate_iff];refine⟨ht.symm,λ y hy=>?_⟩;have:=List.all_eq_true.1 List.all_takeWhile y hy;simpa using this
  ·rw [CR e1];unfold GG;rw [if_neg (by omega),Amx];congr 2;omega
theorem Afn{f:Nat}{r:List Int}(h:GG f r=[]):r=[]:=by
 cases r with
 | nil=>rfl
 | cons x r =>
  exfalso;unfold GG at h;split at h
  ·have:=congrArg Amz h;have hp:=Amh.2 (Io (D8 x));simp only [List.flatMap_cons,Alb,Amp,En] at this;omega
  ·unfold E8 at h;have:=congrArg Amz h;have hp:=Amh.2 (Io ((r.takeWhile (·==x)).length+1));simp only [Alb,Amp] at this;omega
theorem Qn{x:Nat × Nat}:Ag9 (some x)=.tuple #[.int .i64 (CB x.1),.int .i64 (x.2:Int),.int .i64 0]:=rfl
section
variable {w:World}{a:Option Addr}{c:Nat}{l:List UInt8}
def Tr(l:List UInt8)(f n:Nat)(out:List Int)(at_:Nat):Prop:=∀ ls,DK l n ls->∃ k,k<=ls.length/\out=ls.take k/\l.drop at_=GG f (ls.drop k)
theorem Tr.step{f n:Nat}{out:List Int}{at_:Nat}(h:Tr l f n out at_)(hf:f<=1)(hn:n<=4096)(cU:at_<l.length){ls:List Int}(aM:DK l n ls):∃ k many aL nx x,out=ls.take k/\k<=ls.length/\Step l f at_ ls k many aL nx x:=by
 obtain⟨k,hk,ho,hr⟩:=h ls aM;have aO:k<ls.length:=by
  rcases Nat.lt_or_ge k ls.length with h | h
  ·exact h
  ·exfalso;have:ls.drop k=[]:=List.drop_of_length_le h;rw [this] at hr;have e:GG f []=[]:=by unfold GG;split <;> simp [Ji]
   rw [e] at hr;have:=congrArg Amz hr;rw [AlE,Amp] at this;omega
 obtain⟨many,aL,nx,x,hs⟩:=Ad1 hf aM.num (by have:=aM.len;omega) hr aO;exact⟨k,many,aL,nx,x,ho,hk,hs⟩
theorem V8(hl:Rd w a (l.map Ag))(hc:l.length<=c)(hs:l.length<=9223372036854775807)(h0:0<l.length){fm:Nat}(cf:fm=(l.getD 0 0).toNat)(hf:fm<=1){n:Nat}(hn:n<=4096) :
  Calls Tryz.prog f.JJ #[.slice a l.length c,.int .i64 (n:Int)] w (AG λ v w'=>GS l n w w' v):=by
 apply R.Q9
 delta R.Ka R.Bu R.F R.G R.H R.I R.J R.Ks R.Ly R.N R.O R.EM R.Qsu R.S R.U R.W R.Wu R.X R.AhM;try dsimp only [R.Ps]
 have xF:Tr l fm n [] 1:=by
  intro ls aM;refine⟨0,by omega,rfl,?_⟩;have:=aM.enc;rw [<- cf] at this;rw [List.drop_zero];rcases (by omega:fm=0\/fm=1) with rfl | rfl
  ·rw [this];simp [DR,GG]
  ·rw [this];simp [DR,GG]
 refine⟨λ s w1=>∃(at_:Nat) (out:List Int) (oa:Option Addr) (oc:Nat),s=[.slice oa out.length oc,.int .i64 (at_:Int)]/\FJ w w1 out oa oc/\(∀ x∈out,Fs x)/\out.length<=n/\at_<=9223372036854775807/\Tr l fm n out at_,λ s _=>match s with
   | [_,.int _ i]=>l.length-i.toNat
   | _=>0,⟨1,[],none,0,rfl,FJ.nil w,by simp,by simp,by omega,xF⟩,?_⟩
 rintro oa _ oc _ w1 ⟨at_,out,_,_,aA,h1,hI,cE,uP,hT⟩;cases aA;refine Aa (λ aB=>?_) (λ aI=>?_)
 case refine_2 =>
  have ti:((out.length:Int)==(n:Int))=true->out.length=n:=λ h=>by
   have:(out.length:Int)=n:=by simpa using h
   omega
  refine⟨out,oa,oc,_,rfl,h1,hI,by omega,ti,λ ls aM=>?_⟩;obtain⟨k,hk,ho,hr⟩:=hT ls aM;have hd:l.drop at_=[]:=List.drop_of_length_le (by omega);rw [hd] at hr;have vn:=Afn hr.symm;have aO:ls.length<=k:=List.drop_eq_nil_iff.1 vn;have:ls.take k=ls:=AlK aO;rw [this] at ho;subst ho;exact⟨by have:=aM.len;simp [this],rfl⟩
 have cU:at_<l.length:=by omega
 obtain⟨p,rfl,aE⟩:=DI (hl.grown h1.Ar) h0;have bg:=(l.getD 0 0).toNat_lt;refine⟨λ s w3=>w3=w1/\∃(aL many:Nat) (e:Int),s=[.int .i64 (aL:Int),.int .u64 (many:Int),.int .i64 e]/\aL<=9223372036854775807/\((e≠0/\fm=1/\takeN l (at_:Int)=none)\/(e=0/\at_<=aL/\many<18446744073709551616/\((fm=1/\takeN l (at_:Int)=some (many,aL))\/(fm=0/\many=1/\aL=at_)))),?_,?_⟩
 ·refine⟨⟨by omega,by omega⟩,_,aE,Ao (λ h1'=>?_) (λ aQ=>?_)⟩
  ·refine (AL (hl.grown h1.Ar) hc hs (at_:Int)).mono ?_;rintro _ w2 ⟨_,rfl,rfl,rfl⟩;cases hx:takeN l (at_:Int) with
   | none=>exact⟨_,_,_,rfl,rfl,0,0,20,rfl,by omega,.inl ⟨by decide,by omega,rfl⟩⟩
   | some x =>
    have hb:=Az (n:=x.1) (k:=x.2) hx;exact⟨_,_,_,rfl,rfl,x.2,x.1,0,rfl,by omega,.inr ⟨rfl,by omega,by omega,.inl ⟨by omega,rfl⟩⟩⟩
  ·exact⟨rfl,at_,1,0,rfl,by omega,.inr ⟨rfl,by omega,by omega,.inr ⟨by omega,rfl,rfl⟩⟩⟩
 rintro _ _ e w3 ⟨rfl,aL,many,_,aA,mV,aG⟩;cases aA;refine (FB (hl.grown h1.Ar) hc hs (aL:Int)).mono ?_;rintro _ w4 ⟨_,rfl,rfl,rfl⟩;have key:∀ ls,DK l n ls->∃ k nx x,out=ls.take k/\e=0/\takeN l (aL:Int)=some (D8 x,nx)/\0<many/\k+many<=ls.length/\k<=ls.length/\ls.take (k+many)=ls.take k++Ak9 many x/\l.drop nx=GG fm (ls.drop (k+many)):=by
  intro ls aM;obtain⟨k,m,a1,nx,x,ho,aO,hs⟩:=hT.step hf hn cU aM;rcases aG with ⟨_,gg,aP⟩ | ⟨he,_,_,⟨gg,hso⟩ | ⟨fQ,hm1,ha1⟩⟩
  ·rw [hs.num gg] at aP;cases aP
  ·have:=hs.num gg;rw [hso] at this;obtain⟨rfl,rfl⟩:=Prod.mk.injEq .. ▸ Ami this;exact⟨k,nx,x,ho,he,hs.sgn,hs.pos,hs.le,aO,hs.take,hs.rest⟩
  ·obtain⟨q1,q2⟩:=hs.one fQ;subst q1 q2 hm1 ha1;exact⟨k,nx,x,ho,he,hs.sgn,hs.pos,hs.le,aO,hs.take,hs.rest⟩
 cases hy:takeN l (aL:Int) with
 | none =>
  have aP:∀ ls,¬ DK l n ls:=λ ls aM=>by
   obtain⟨k,nx,x,_,_,h,_⟩:=key ls aM;rw [hy] at h;cases h
  refine⟨_,_,_,rfl,Ah (λ _=>GS.bad h1.Ar aP) (λ _=>Ah (λ _=>GS.bad h1.Ar aP) (λ h=>absurd h (by decide)))⟩
 | some y =>
 rw [Qn];have nz:=Az (n:=y.1) (k:=y.2) hy;have l9:=GQ nz.1;have ew:IntKind.u64.wrap (IntKind.i64.wrap ((n:Int)-(out.length:Int)))=((n-out.length:Nat):Int):=by
  rw [wrap_i64 (by omega) (by omega),Aj (by omega) (by omega)];omega
 rw [ew];refine⟨_,_,_,rfl,Ah (λ mw=>GS.bad h1.Ar λ ls aM=>?_) (λ oY=>Ah (λ h=>absurd rfl h) (λ _=>Ao (λ fU=>GS.bad h1.Ar λ ls aM=>?_) (λ fU=>Aa (λ gB=>GS.bad h1.Ar λ ls aM=>?_) (λ dX=>?_))))⟩
 ·obtain⟨_,_,_,_,h,_⟩:=key ls aM;exact mw h
 ·obtain⟨_,_,_,_,_,_,h,_⟩:=key ls aM;omega
 ·obtain⟨k,_,_,ho,_,_,_,h,_⟩:=key ls aM;have:=aM.len;have e2:out.length=k:=by rw [ho,Al7];omega
  omega
 have eE:many<=n-out.length:=by omega
 have y7:at_<y.2:=by
  rcases aG with ⟨h,_⟩ | ⟨_,h,_⟩
  ·exact absurd oY h
  ·omega
 refine⟨λ s w5=>∃(j:Nat) (o2:List Int) (oa:Option Addr) (oc:Nat),s=[.slice oa o2.length oc,.int .u64 (j:Int)]/\j<=many/\o2=out++Ak9 j (CB y.1)/\FJ w w5 o2 oa oc,λ s _=>match s with
   | [_,.int _ i]=>many-i.toNat
   | _=>0,⟨0,out,oa,oc,rfl,by omega,by simp,h1⟩,?_⟩
 rintro sF _ sG _ w5 ⟨j,o2,_,_,aA,hj,iD,h5⟩;cases aA;have vv:o2.length=out.length+j:=by rw [iD];simp
 refine Aa (λ ao=>?_) (λ br=>?_)
 ·refine (SH.start (λ _=>False) w5).An λ b6 w6 kb B6 S6=>Gc (h5.grown B6) (by omega) (S6.get 0 rfl) λ a7 c7 w7 h7=>⟨_,_,_,rfl,?_⟩;rw [show IntKind.u64.wrap ((j:Int)+1)=((j+1:Nat):Int) by rw [Aj (by omega) (by omega)];omega];refine⟨⟨j+1,_,a7,c7,rfl,by omega,?_,h7⟩,?_⟩
  ·rw [iD,List.replicate_succ',Alc]
  ·simp only [Ale];omega
 ·have vW:j=many:=by omega
  subst vW;refine⟨⟨y.2,o2,sF,sG,rfl,h5,?_,by omega,by omega,?_⟩,?_⟩
  ·intro x hx;rw [iD] at hx;rcases Al8.1 hx with h | h
   ·exact hI x h
   ·rw [(List.mem_replicate.1 h).2];exact l9
  ·intro ls aM;obtain⟨k,nx,x,g1,_,g3,g4,g5,g6,g7,g8⟩:=key ls aM;rw [hy] at g3;have lI:=Ami g3;have ex:CB y.1=x:=by rw [lI];exact Gq
   have tg:y.2=nx:=by rw [lI]
   refine⟨k+j,g5,?_,by rw [tg];exact g8⟩;rw [iD,g7,g1,ex]
  ·simp only [Ale];omega
end
theorem ZF{w w1:World}{a:Option Addr}{c:Nat}{xs:List Int}(h:FJ w w1 xs a c)(hl:xs.length+1<=1000000){x:Int}{b:Nat}{t:TypeId}(hb:w1.heap[b]?=some (.cells #[.int .i64 x] t (0,0))){f:Value->World->Prop}
  (hf:∀ a' c' w',FJ w w' (xs++[x]) a' c'->Ai (λ k=>AD a=some k) w1 w'->(∀ k,AD a'=some k->AD a=some k\/w1.heap.size<=k)->f (.slice a' (xs++[x]).length c') w'):DB Tryz.prog (Builtin.append_ #[ty.Bk,ty.Bk] ty.Bk #[.slice a xs.length c,.slice (some ⟨b,0,none⟩) 1 1]) f w1:=by
 have aW:Rd w1 (some ⟨b,0,none⟩) ([x].map EE):=by
  have:=Rd.Ak hb;simpa [EE] using this
 obtain⟨a5,c5,w2,aH,aJ,cj,hnw⟩:=BZ (ty:=ty.Bk) (mc:=1) Ahk rfl (by omega) (by omega) h.row aW (m:=1) rfl (by simp [EE];rfl) (by omega);unfold DB;rw [aH];have e:xs.length+1=(xs++[x]).length:=by simp
 rw [e] at aJ ⊢;refine hf a5 c5 w2 ⟨by rw [Alv];exact aJ,λ k hk=>?_,h.Ar.trans (cj.below h.Ar.size λ k hk he=>by have:=h.new k he;omega)⟩ cj hnw;rcases hnw k hk with h1 | h1
 ·exact h.new k h1
 ·exact Als h.Ar.size h1
theorem ET{c0:UInt8}{first:Int}{s:List Nat}{l:List UInt8}(hl:l=c0 :: CM first s)(hf:Fs first)(hx:∀ x∈s,x<18446744073709551616) :
  takeN l 1=some (D8 first,1+(En first).length)/\1+(En first).length<l.length/\(l.getD (1+(En first).length) 0).toNat=Fi (Ic s)/\l.drop (1+(En first).length+1)=A5 s (Fi (Ic s)):=by
 have iS:=Rf hx;have e:l.drop 1=Af (D8 first)++(Alj (Fi (Ic s)) :: A5 s (Fi (Ic s))):=by rw [hl];rfl
 have e2:=CR e;have hlen:l.length=1+(En first).length+1+(A5 s (Fi (Ic s))).length:=by rw [hl];simp [CM];omega
 refine⟨Cd (at_:=1) (F2 hf.1 hf.2) e,by omega,?_,?_⟩
 ·have:(l.drop (1+(En first).length))[0]?=some (Alj (Fi (Ic s))):=by
   have e3:l.drop (1+(En first).length)=Alj (Fi (Ic s)) :: A5 s (Fi (Ic s)):=e2;rw [e3];rfl
  rw [List.getElem?_drop,Nat.add_zero] at this;rw [List.getD,this];exact ES (by omega)
 ·rw [<- Amx];have e3:l.drop (1+(En first).length)=Alj (Fi (Ic s)) :: A5 s (Fi (Ic s)):=e2;rw [e3];rfl
theorem XA{s:List Nat}{m:Nat}(hm:s.length=m)(hn:m<=4096)(hx:∀ x∈s,x<18446744073709551616):GP (m:Int) (Fi (Ic s):Int)/\Sb (A5 s (Fi (Ic s))) m (Fi (Ic s))/\BK (A5 s (Fi (Ic s))) m (Fi (Ic s))=s:=by
 have iS:=Rf hx;have aB:=(HQ s _).1 (T1 (Ic s)).1;have hu:=Iv aB;rw [hm] at hu;exact⟨⟨by omega,by omega,by omega,by omega⟩,⟨by rw [BR,hm],by rw [hu]⟩,hu⟩
theorem XE{x y:Int}(hx:Fs x)(hy:Fs y):IntKind.i64.wrap (x+IntKind.i64.wrap (y-x))=y:=by
 unfold Fs at hx hy;rw [CY,CY];split <;> split <;> omega
theorem UI{x m:Int}(hx:Fs x)(hm:Fs m)(hle:m<=x):IntKind.i64.wrap (IntKind.u64.wrap (IntKind.u64.wrap m+((x-m).toNat:Int)))=x:=by
 unfold Fs at hx hm;rw [CY,wrap_u64,wrap_u64];split <;> omega
theorem VA{ls:List Int}{i:Nat}(h:i+1<ls.length):(Bz ls)[i]?=some (D8 (IntKind.i64.wrap (ls[i+1]-ls[i]))):=by
 have hr:i<ls.length-1:=by omega
 simp only [Bz,List.getElem?_map,List.getElem?_range hr,AmA];rw [Fe h,Fe (by omega)]
theorem UH{ls:List Int}{i:Nat}(h:i<ls.length):(BI ls)[i]?=some ((ls[i]-FK ls).toNat):=by simp [BI,h]
theorem UK{α:Type}{xs ys:List α}{i:Nat}{y:α}(h:xs=ys)(hy:ys[i]?=some y)(hi:i<xs.length):xs[i]=y:=by
 subst h;rw [List.getElem?_eq_getElem hi] at hy;exact Ami hy
def DP(fm:Nat)(ls:List Int):Int:=if fm=2 then ls.headD 0 else FK ls
def LU(fm:Nat)(ls:List Int):List Nat:=if fm=2 then Bz ls else BI ls
theorem Hy{l:List UInt8}{n fm:Nat}{ls:List Int}(h:DK l n ls)(cf:fm=(l.getD 0 0).toNat)(hf:fm=2\/fm=3)(hn:0<n) :
  Fs (DP fm ls)/\(∀ x∈LU fm ls,x<18446744073709551616)/\l=Alj fm :: CM (DP fm ls) (LU fm ls)/\(LU fm ls).length=(if fm=2 then n-1 else n):=by
 have hp:0<ls.length:=by have:=h.len;omega
 have aQ:ls≠[]:=Amh.1 hp;have he:=h.enc;rw [<- cf] at he;have hlen:=h.len;rcases hf with rfl | rfl
 ·refine⟨?_,MF,?_,?_⟩
  ·have:=DT h.num hp 0;simpa [E7,DP] using this
  ·rw [he];simp only [DR];rw [if_neg aQ];rfl
  ·simp [LU,Bz,hlen]
 ·refine⟨DT h.num hp _,My h.num,?_,?_⟩
  ·rw [he];simp only [DR];rw [if_neg aQ];rfl
  ·simp [LU,BI,hlen]
section
variable {w:World}{a:Option Addr}{c:Nat}{l:List UInt8}
theorem Aaf{u:Nat}(hu:u<18446744073709551616):Calls Tryz.prog f.Agz #[.int .u64 (u:Int)] w (AG λ v w'=>w'=w/\v=.int .i64 (CB u)):=by
 apply R.UW
 delta R.I R.W R.Wu;try dsimp only [R.Ps]
 rw [VI hu];exact⟨rfl,rfl⟩
theorem V9(hl:Rd w a (l.map Ag))(hc:l.length<=c)(hs:l.length<=9223372036854775807)(h0:0<l.length){fm:Nat}(cf:fm=(l.getD 0 0).toNat)(hf:fm=2\/fm=3){n:Nat}(hn:n<=4096) :
  Calls Tryz.prog f.JK #[.slice a l.length c,.int .i64 (n:Int)] w (AG λ v w'=>GS l n w w' v):=by
 apply R.Ra
 delta R.Ad R.Ka R.AR R.Ci R.D R.F R.G R.H R.I R.J R.Ks R.Lu R.Ly R.N R.O R.KV R.Rs R.S R.U R.W R.Wu R.X R.Y R.Zis;try dsimp only [R.Ps]
 refine Ao (λ hz=>?_) (λ jb=>?_)
 ·have ct:n=0:=by omega
  subst ct;refine⟨[],none,0,_,rfl,FJ.nil w,by simp,by simp,λ _=>rfl,λ ls aM=>?_⟩;have vh:ls=[]:=List.eq_nil_of_length_eq_zero aM.len;subst vh;have he:=aM.enc;rw [<- cf] at he;have h1:l.length=1:=by
   rw [he];rcases hf with rfl | rfl <;> simp [DR]
  exact⟨by simp [h1],rfl⟩
 have ct:0<n:=by omega
 refine (FB hl hc hs 1).mono ?_;rintro _ w ⟨_,rfl,rfl,rfl⟩;cases hy:takeN l 1 with
 | none =>
  refine⟨_,_,_,rfl,Ah (λ _=>GS.bad (.refl _ _) λ ls aM=>?_) (λ h=>absurd h (by decide))⟩;obtain⟨k1,k2,k3,_⟩:=Hy aM cf hf ct;have:=(ET k3 k1 k2).1;rw [hy] at this;cases this
 | some y =>
 rw [Qn];have nz:=Az (n:=y.1) (k:=y.2) hy;have l9:Fs (CB y.1):=GQ nz.1;refine⟨_,_,_,rfl,Ah (λ h=>absurd rfl h) (λ _=>Aa (λ gB=>GS.bad (.refl _ _) λ ls aM=>?_) (λ aB=>?_))⟩
 ·obtain⟨k1,k2,k3,_⟩:=Hy aM cf hf ct;obtain⟨q1,q2,_⟩:=ET k3 k1 k2;rw [hy] at q1;have:=Ami q1;have:y.2=1+(En (DP fm ls)).length:=by rw [this]
  omega
 have hj:y.2<l.length:=by omega
 refine Hw Ahk (c:=n) (by omega) (by omega) λ b2 w2 dF B2 R2=>⟨_,_,_,rfl,?_⟩;have h2:FJ w w2 [] (some ⟨b2,0,none⟩) n:=⟨R2,λ k hk=>by cases hk;exact dF,B2⟩;obtain⟨p,rfl,aE⟩:=DI (hl.grown B2) h0;have bg:=(l.getD 0 0).toNat_lt;obtain⟨m,hm⟩:∃ m,m=(if fm=2 then n-1 else n):=⟨_,rfl⟩;obtain⟨o0,ho0⟩:∃ o:List Int,o=(if fm=2 then [CB y.1] else []):=⟨_,rfl⟩;have ho0l:o0.length+m=n:=by
  rw [ho0,hm];rcases hf with rfl | rfl
  ·simp;omega
  ·simp
 have vu:∀ x∈o0,Fs x:=by
  rw [ho0];split
  ·intro x hx;rw [Al9.1 hx];exact l9
  ·simp
 refine⟨λ s w5=>∃(oa:Option Addr) (oc:Nat),s=[.int .i64 (m:Int),.slice oa o0.length oc]/\FJ w w5 o0 oa oc,?_,?_⟩
 ·refine⟨⟨by omega,by omega⟩,_,aE,Ao (λ he=>?_) (λ he=>?_)⟩
  ·have bW:fm=2:=by omega
   refine (SH.start (λ _=>False) w2).An λ b3 w3 dG B3 S3=>Gc (h2.grown B3) (by simp) (S3.get 0 rfl) λ a4 c4 w4 h4=>⟨_,_,_,rfl,a4,c4,?_,?_⟩
   ·rw [wrap_i64 (by omega) (by omega),hm,ho0,if_pos bW,if_pos bW];simp;omega
   ·rw [ho0,if_pos bW];exact h4
  ·have bW:¬ fm=2:=by omega
   refine⟨some ⟨b2,0,none⟩,n,?_,?_⟩
   ·rw [hm,ho0,if_neg bW,if_neg bW];rfl
   ·rw [ho0,if_neg bW];exact h2
 rintro _ oa _ oc w5 ⟨_,_,aA,h5⟩;cases aA;refine (SH.start (λ _=>False) w5).E5 λ w6 B6 _=>?_;have C6:=Ac h5.Ar B6;have h6:=h5.grown B6;rw [wrap_i64 (n:=(y.2:Int)+1) (by omega) (by omega),show ((y.2:Int)+1).toNat=y.2+1 by omega];refine⟨⟨by omega,by omega,by omega⟩,⟨by omega,by omega⟩,?_⟩;have hJ:=Jy (q:=y.2+1) (hl.grown C6) hc;obtain⟨p',hp',hcellj⟩:=byte_at (hl.grown C6) hj;cases hp';refine⟨_,by rw [Ale];exact hcellj,?_⟩;have ud:=(l[y.2]).toNat_lt;rw [wrap_i64 (n:=(l[y.2].toNat:Int)) (by omega) (by omega),<- AlE (i:=y.2+1) (l:=l)];have ko:m<=4096:=by omega
 refine (HR hJ (m:Int) (l[y.2].toNat:Int) (by rw [AlE];omega)).mono ?_;rintro _ w7 ⟨_,rfl,xs,xa,xc,e,rfl,gb,B7,nw,aG⟩;rw [Ale,Ale] at aG;have h7:=h6.grown B7;have hg:l.getD y.2 0=l[y.2]:=Gy hj;have hxm:xs.length<=m/\(e=0->xs.length=m)/\∀ x∈xs,x<18446744073709551616:=by
  rcases aG with ⟨ha,_,rfl,rfl⟩ | ⟨_,rfl,he⟩
  ·refine⟨by rw [Ch];omega,λ _=>Ch _ _ _,λ x hx=>?_⟩;have:=OV _ _ _ x hx;have iS:l[y.2].toNat<=64:=by have:=ha.2.2.2;omega
   exact Nat.lt_of_lt_of_le this (Nat.pow_le_pow_right (n:=2) (by omega) iS)
  ·refine⟨by simp,λ h=>?_,by simp⟩;rw [h] at he;split at he <;> cases he
 obtain⟨hxm1,hxm2,fY⟩:=hxm;have key:∀ ls,DK l n ls->e=0/\xs=LU fm ls/\CB y.1=DP fm ls:=by
  intro ls aM;obtain⟨k1,k2,k3,k4⟩:=Hy aM cf hf ct;obtain⟨q1,q2,q3,q4⟩:=ET k3 k1 k2;rw [hy] at q1;have qo:=Ami q1;have qm:y.2=1+(En (DP fm ls)).length:=by rw [qo]
  have jl:y.1=D8 (DP fm ls):=by rw [qo]
  rw [<- qm,hg] at q3;rw [<- qm] at q4;rw [<- hm] at k4;obtain⟨u1,u2,u3⟩:=XA k4 ko k2;rw [q3,q4] at aG;rcases aG with ⟨_,_,bP,he⟩ | ⟨aP,_⟩
  ·exact⟨he,by rw [bP,u3],by rw [jl];exact Gq⟩
  ·exact absurd ⟨u1,u2⟩ aP
 refine⟨_,_,_,_,rfl,?_⟩;refine⟨λ s w8=>∃(i:Nat) (fi:Int) (out:List Int) (oa:Option Addr) (oc:Nat),s=[.int .i64 fi,.slice oa out.length oc,.int .i64 (i:Int)]/\i<=xs.length/\Fs fi/\out.length=o0.length+i/\(∀ x∈out,Fs x)/\FJ w w8 out oa oc/\Rd w8 xa (xs.map E1)/\(∀ k p,AD oa=some k->xa=some p->p.block≠k) /\
   (∀ ls,DK l n ls->out=ls.take (o0.length+i)/\fi=(if fm=2 then ls.getD i 0 else DP fm ls)),λ s _=>match s with
   | [_,_,.int _ i]=>xs.length-i.toNat
   | _=>0,⟨0,CB y.1,o0,oa,oc,rfl,by omega,l9,rfl,vu,h7,gb,λ k p hk hp=>(by have:=h6.row.lt hk;have:=nw p hp;omega),λ ls aM=>?_⟩,?_⟩
 ·obtain⟨_,_,k3⟩:=key ls aM;have hp:0<ls.length:=by have:=aM.len;omega
  have yF:ls.headD 0=ls.getD 0 0:=by cases ls <;> rfl
  refine⟨?_,?_⟩
  ·rw [ho0];rcases hf with rfl | rfl
   ·simp only [if_pos,Ald,Amp];rw [k3];cases ls with
    | nil=>simp at hp
    | cons x r=>rfl
   ·simp
  ·rw [k3];rcases hf with rfl | rfl
   ·simp only [DP,if_pos];exact yF
   ·rfl
 rintro fi yh _ yj _ w8 ⟨i,_,out,_,_,aA,hi,kg,cE,lY,h8,pW,jP,hT⟩;cases aA;refine Aa (λ ao=>⟨⟨by omega,ao⟩,?_⟩) (λ aI=>?_)
 ·have dP:i<xs.length:=by omega
  have hu:=fY _ (AlS dP);obtain⟨p2,gm,hcx⟩:=GZ pW dP;have yS:p2.block<w8.heap.size:=by
   have:=World.block_lt_of_cell? w8 _ hcx;rwa [DN] at this
  subst gm;obtain⟨p3,oo,hcell3⟩:=DI (hl.grown h8.Ar) h0;cases oo;refine⟨_,by rw [Ale];exact hcx,⟨by omega,by omega⟩,_,hcell3,?_⟩;have cM:xs.length-((i+1:Nat):Int).toNat<xs.length-((i:Nat):Int).toNat:=by
   simp only [Ale];omega
  rw [Ae (by omega)];have next:∀ {v pH:Int} {wx:World} {b:Nat} {t:TypeId},Below w8.heap.size w8 wx->wx.heap[b]?=some (.cells #[.int .i64 v] t (0,0))->Fs v->Fs pH ->
    (∀ ls,DK l n ls->ls.take (o0.length+(i+1))=ls.take (o0.length+i)++[v]/\pH=(if fm=2 then ls.getD (i+1) 0 else DP fm ls)) ->
    DB Tryz.prog (Builtin.append_ #[ty.Bk,ty.Bk] ty.Bk #[.slice yh out.length yj,.slice (some ⟨b,0,none⟩) 1 1]) (λ r aY=>∃(t77:Option Addr) (qw qv:Nat),r=.slice t77 qw qv /\
     (∃(i_1:Nat) (fi:Int) (out:List Int) (oa:Option Addr) (oc:Nat),[Value.int .i64 pH,.slice t77 qw qv,.int .i64 ((i+1:Nat):Int)]=[.int .i64 fi,.slice oa out.length oc,.int .i64 (i_1:Int)]/\i_1<=xs.length/\Fs fi/\out.length=o0.length+i_1/\(∀ x∈out,Fs x)/\FJ w aY out oa oc/\Rd aY (some p2) (xs.map E1)/\(∀ k p,AD oa=some k->some p2=some p->p.block≠k) /\
      (∀ ls,DK l n ls->out=ls.take (o0.length+i_1)/\fi=(if fm=2 then ls.getD i_1 0 else DP fm ls)))/\xs.length-((i+1:Nat):Int).toNat<xs.length-((i:Nat):Int).toNat) wx:=by
   intro v pH wx b t Bx hb hv vC hP;refine ZF (h8.grown Bx) (by omega) hb λ rB rI aY pK eL zI=>⟨_,_,_,rfl,⟨i+1,pH,_,rB,rI,rfl,by omega,vC,by simp [cE];omega,?_,pK,?_,?_,λ ls aM=>?_⟩,cM⟩
   ·intro x hx;rcases Al8.1 hx with h | h
    ·exact lY x h
    ·rw [Al9.1 h];exact hv
   ·exact (pW.grown Bx).keeps eL λ q hq hr=>jP _ q hr hq rfl
   ·intro k q hk hq;rcases zI k hk with h | h
    ·exact jP k q h hq
    ·have:=Bx.size;cases hq;omega
   ·obtain⟨t1,_⟩:=hT ls aM;obtain⟨g1,g2⟩:=hP ls aM;exact⟨by rw [g1,t1],g2⟩
  refine Ao (λ he=>?_) (λ he=>?_)
  ·have bW:fm=2:=by omega
   have nW:o0.length=1:=by rw [ho0,if_pos bW];rfl
   refine (Aaf hu).mono ?_;rintro _ w9 ⟨_,rfl,rfl,rfl⟩;refine⟨_,rfl,(SH.start (λ _=>False) w9).An λ dJ bV kW bp js=>next bp (js.get 0 rfl) (F1 _) (F1 _) λ ls aM=>?_⟩;obtain⟨_,k2,_⟩:=key ls aM;obtain⟨_,t2⟩:=hT ls aM;rw [if_pos bW] at t2;have bD:(Bz ls).length=ls.length-1:=by simp [Bz]
   have bP:xs=Bz ls:=by rw [k2];simp [LU,bW]
   have dS:i+1<ls.length:=by rw [bP,bD] at dP;omega
   have dI:=UK bP (VA dS) dP;have bU:IntKind.i64.wrap (fi+CB xs[i])=ls[i+1]:=by
    rw [dI,Gq,t2,Fe (by omega)];exact XE (aM.num _ (AlS _)) (aM.num _ (AlS _))
   rw [bU,nW,if_pos bW,Fe dS,show 1+(i+1)=(i+1)+1 by omega,show 1+i=i+1 by omega];exact⟨Al6 dS,rfl⟩
  ·have bW:¬ fm=2:=by omega
   have tt:fm=3:=by omega
   have nW:o0.length=0:=by rw [ho0,if_neg bW];rfl
   refine (SH.start (λ _=>False) w8).An λ dJ bV kW bp js=>next bp (js.get 0 rfl) (F1 _) kg λ ls aM=>?_;obtain⟨_,k2,_⟩:=key ls aM;obtain⟨_,t2⟩:=hT ls aM;rw [if_neg bW] at t2 ⊢;have bP:xs=BI ls:=by rw [k2];simp [LU,bW]
   have dS:i<ls.length:=by rw [bP] at dP;simpa [BI] using dP
   have ag:=AlS dS;have nA:DP fm ls=FK ls:=by simp [DP,bW]
   have dI:=UK bP (UH dS) dP;have bU:IntKind.i64.wrap (IntKind.u64.wrap (IntKind.u64.wrap fi+(xs[i]:Int)))=ls[i]:=by
    rw [dI,t2,nA];exact UI (aM.num _ ag) (DT aM.num (by omega) _) (MB ag)
   rw [bU,nW,Nat.zero_add,Nat.zero_add];exact⟨Al6 dS,t2⟩
 ·have bF:i=xs.length:=by omega
  have ti:(e==0)=true->out.length=n:=λ h=>by
   have he:e=0:=by simpa using h
   have:=hxm2 he;omega
  refine⟨out,yh,yj,_,rfl,h8,lY,by omega,ti,λ ls aM=>?_⟩;obtain⟨k1,_,_⟩:=key ls aM;obtain⟨t1,_⟩:=hT ls aM;have dB:=hxm2 k1;refine⟨by simp [k1],?_⟩;rw [t1,AlK (by have:=aM.len;omega)]
end
def Gw(l:List UInt8)(n:Int)(w w':World)(v:Value):Prop :=
 ∃(ls:List Int) (a:Option Addr) (c:Nat) (e:Int),v=.tuple #[.slice a ls.length c,.int .i64 e]/\Rd w' a (ls.map EE)/\Below w.heap.size w w'/\ls.length<=4096/\(∀ x∈ls,Fs x) /\
  ((¬ Cj n/\ls=[]/\e=2)\/(Cj n/\DK l n.toNat ls/\0<l.length/\(∀ ms,DK l n.toNat ms->ms=ls)/\e=0)\/(Cj n/\(∀ ms,¬ (DK l n.toNat ms/\0<l.length))/\ls=[]/\e=60))
theorem Gw.bad{l:List UInt8}{n:Int}{w w':World}(hb:Below w.heap.size w w')(hn:Cj n)(h:∀ ms,¬ (DK l n.toNat ms/\0<l.length)):Gw l n w w' (.tuple #[.slice none 0 0,.int .i64 60]) :=
 ⟨[],none,0,60,rfl,Rd.nil _ _,hb,by simp,by simp,.inr (.inr ⟨hn,h,rfl,rfl⟩)⟩
theorem Gw.arg{l:List UInt8}{n:Int}{w w':World}(hb:Below w.heap.size w w')(hn:¬ Cj n):Gw l n w w' (.tuple #[.slice none 0 0,.int .i64 2]) :=
 ⟨[],none,0,2,rfl,Rd.nil _ _,hb,by simp,by simp,.inl ⟨hn,rfl,rfl⟩⟩
theorem Yd:enters Tryz.prog f.JJ=true:=by kernel_rfl
theorem Ye:enters Tryz.prog f.JK=true:=by kernel_rfl
section
variable {w:World}{a:Option Addr}{c:Nat}{l:List UInt8}
theorem UR(hl:Rd w a (l.map Ag))(hc:l.length<=c)(hs:l.length<=9223372036854775807)(n:Int) :
  Calls Tryz.prog f.Aac #[.slice a l.length c,.int .i64 n] w (AG λ v w'=>Gw l n w w' v):=by
 apply R.PB
 delta R.AR R.Cb R.F R.G R.H R.I R.Ly R.O R.S R.W R.X R.Zb R.Zf;try dsimp only [R.Ps]
 refine⟨λ s w1=>∃ b:Bool,s=[.bool b]/\w1=w/\(b=true↔¬ Cj n),?_,?_⟩
 ·refine Aa (λ h=>⟨true,rfl,rfl,?_⟩) (λ h=>⟨_,rfl,rfl,?_⟩)
  ·unfold Cj;simp;omega
  ·unfold Cj;simp;omega
 rintro _ w1 ⟨b,aA,rfl,hb⟩;cases aA;refine Aq (λ h=>Gw.arg (.refl _ _) (hb.1 h)) (λ h=>?_);have aU:Cj n:=by
  rcases Classical.em (Cj n) with h1 | h1
  ·exact h1
  ·rw [hb.2 h1] at h;cases h
 obtain⟨n,rfl⟩:∃ m:Nat,n=(m:Int):=⟨n.toNat,by have:=aU.1;omega⟩;have hn:n<=4096:=by have:=aU.2;omega
 refine Ao (λ h=>Gw.bad (.refl _ _) aU λ ms hm=>by have:=hm.2;omega) (λ aQ=>?_);have h0:0<l.length:=by omega
 obtain⟨p,rfl,aE⟩:=DI hl h0;have bg:=(l.getD 0 0).toNat_lt;refine⟨⟨by omega,by omega⟩,_,aE,Aa (λ h=>Gw.bad (.refl _ _) aU λ ms hm=>by have:=hm.1.form;omega) (λ hle=>?_)⟩;obtain⟨fm,cf⟩:∃ fm,fm=(l.getD 0 0).toNat:=⟨_,rfl⟩;rw [<- cf] at aE hle;have cA:∀ fn,(fn=f.JJ/\fm<=1)\/(fn=f.JK/\(fm=2\/fm=3))->enters Tryz.prog fn=true/\Calls Tryz.prog fn #[.slice (some p) l.length c,.int .i64 (n:Int)] w1 (AG λ v w'=>GS l n w1 w' v):=by
  rintro fn (⟨rfl,h⟩ | ⟨rfl,h⟩)
  ·exact⟨Yd,V8 hl hc hs h0 cf h hn⟩
  ·exact⟨Ye,V9 hl hc hs h0 cf h hn⟩
 refine⟨λ s w2=>w2=w1/\∃ fn,s=[.func (.func fn) #[] #[]]/\((fn=f.JJ/\fm<=1)\/(fn=f.JK/\(fm=2\/fm=3))),?_,?_⟩
 ·refine⟨⟨by omega,by omega⟩,_,aE,Aa (λ h=>⟨rfl,_,rfl,.inr ⟨rfl,by omega⟩⟩) (λ h=>⟨rfl,_,rfl,.inl ⟨rfl,by omega⟩⟩)⟩
 rintro _ _ _ w2 ⟨rfl,fn,aA,nB⟩;cases aA;obtain⟨hent,ay⟩:=cA _ nB;rw [hent];refine ay.mono ?_;rintro _ w3 ⟨_,rfl,ms,a3,c3,ok,rfl,h3,mJ,qK,vx,aF⟩;refine⟨_,_,_,_,rfl,As (Aq (λ hk=>?_) (λ hk=>Gw.bad h3.Ar aU λ ls aM=>?_))⟩
 case refine_2 =>
  rw [Ale] at aM;have:=(aF ls aM.1).1;rw [this] at hk;cases hk
 have hlen:=vx hk;obtain⟨p',hp',hcell3⟩:=DI (hl.grown h3.Ar) h0;cases hp';rw [<- cf] at hcell3;refine⟨⟨by omega,by omega⟩,_,hcell3,?_⟩;rw [wrap_i64 (by omega) (by omega)];refine (HK (fm:Int) h3.row.rd h3.row.le mJ).mono ?_;rintro _ w4 ⟨_,rfl,hE⟩;obtain⟨a4,c4,rfl,h4⟩:=Kc.D7 (by omega) qK hE;have C4:=Ac h3.Ar h4.Ar;refine⟨_,_,_,_,rfl,(HC (l:=DR fm ms) (c:=c4) h4.rd (hl.grown C4)).mono ?_⟩;rintro _ w5 ⟨_,rfl,rfl,rfl⟩;refine⟨_,rfl,As (Aa (λ he=>?_) (λ he=>Gw.bad C4 aU λ ls aM=>he ?_))⟩
 ·refine⟨ms,a3,c3,0,rfl,h3.row.rd.grown h4.Ar,C4,qK,mJ,.inr (.inl ⟨aU,?_,h0,?_,rfl⟩)⟩
  ·rw [Ale];exact⟨hlen,mJ,by omega,by rw [<- cf];exact he.symm⟩
  ·intro ls aM;rw [Ale] at aM;exact ((aF ls aM).2).symm
 ·rw [Ale] at aM;have h1:=(aF ls aM.1).2;have h2:=aM.1.enc;rw [<- cf] at h2;rw [h1,<- h2]
end
theorem Ad3:M9 Tryz.prog ty.CD=some (ty.AW,3,32,.agg #[.int .i64 0,.int .i64 0,.string ⟨#[]⟩]):=by kernel_rfl
structure O5(w w':World)(vs:List AB)(a:Option Addr)(c:Nat):Prop where
 row:Row w' ty.AW 3 a vs.length c (AP vs)
 new:∀ k,AD a=some k->w.heap.size<=k
 Ar:Below w.heap.size w w'
theorem O5.nil(w:World):O5 w w [] none 0:=⟨Row.nil _ _ _,by simp [AD],.refl _ _⟩
theorem O5.grown{w w1 w2:World}{xs:List AB}{a:Option Addr}{c:Nat}(h:O5 w w1 xs a c)(hb:Below w1.heap.size w1 w2):O5 w w2 xs a c:=⟨h.row.grown hb,h.new,Ac h.Ar hb⟩
theorem AbI(xs ys:List AB):AP (xs++ys)=AP xs++AP ys:=by simp [AP]
theorem NJ{w w1:World}{a:Option Addr}{c:Nat}{xs:List AB}(h:O5 w w1 xs a c)(hl:xs.length+1<=1000000){x:AB}{b:Nat}{t:TypeId}(hb:w1.heap[b]?=some (.cells #[.int .i64 x.1,.int .i64 x.2.1,.string x.2.2] t (0,0))){f:Value->World->Prop}
  (hf:∀ a' c' w',O5 w w' (xs++[x]) a' c'->f (.slice a' (xs++[x]).length c') w'):DB Tryz.prog (Builtin.append_ #[ty.CD,ty.CD] ty.CD #[.slice a xs.length c,.slice (some ⟨b,0,none⟩) 1 1]) f w1:=by
 have aW:Rd w1 (some ⟨b,0,none⟩) (AP [x]):=by
  have:=Rd.Ak hb;simpa [H6] using this
 obtain⟨a5,c5,w2,aH,aJ,cj,hnw⟩:=BZ (ty:=ty.CD) (mc:=1) Ad3 rfl (by omega) (by omega) h.row aW (m:=1) rfl (by simp [H6];exact⟨rfl,rfl,rfl⟩) (by omega);unfold DB;rw [aH];have e:xs.length+1=(xs++[x]).length:=by simp
 rw [e] at aJ ⊢;refine hf a5 c5 w2 ⟨by rw [AbI];exact aJ,λ k hk=>?_,h.Ar.trans (cj.below h.Ar.size λ k hk he=>by have:=h.new k he;omega)⟩;rcases hnw k hk with h1 | h1
 ·exact h.new k h1
 ·exact Als h.Ar.size h1
/-! ### the values that are not null -/
theorem Q4{kind:Int}{ls:List AB}(hg:Be kind ls)(h3:kind≠3):AQ ls=(CS ls).map λ x=>(kind,x,E0):=by
 unfold CS;rw [List.map_map]
 conv=>lhs;rw [<- List.map_id (AQ ls)]
 apply List.map_congr_left;intro v hv;obtain⟨hm,aQ⟩:=List.mem_filter.1 hv;have aK:=hg.all v hm;simp only [okV,Bool.and_eq_true,Bool.or_eq_true,decide_eq_true_eq] at aK;have cg:v.1=kind:=aK.2.resolve_right (by simpa using aQ);have hr:=aK.1;have rU:¬ v.1=3:=by rw [cg];exact h3
 have he:v.2.2=E0:=by
  unfold AK at hr;split at hr
  ·simp at hr;exact hr.2
  ·split at hr
   ·simpa using hr
   ·split at hr
    ·simp at hr;exact hr.2
    ·simp at hr
 show v=(kind,v.2.1,E0);rw [<- cg,<- he]
theorem NT{kind:Int}{ls:List AB}(hg:Be kind ls)(h3:kind=3):AQ ls=(BB ls).map λ s=>(kind,0,s):=by
 unfold BB;rw [List.map_map]
 conv=>lhs;rw [<- List.map_id (AQ ls)]
 apply List.map_congr_left;intro v hv;obtain⟨hm,aQ⟩:=List.mem_filter.1 hv;have aK:=hg.all v hm;simp only [okV,Bool.and_eq_true,Bool.or_eq_true,decide_eq_true_eq] at aK;have cg:v.1=kind:=aK.2.resolve_right (by simpa using aQ);have hr:=aK.1;have rU:v.1=3:=by rw [cg];exact h3
 have he:v.2.1=0:=by
  unfold AK at hr;rw [if_neg (by omega),if_neg (by omega),if_neg (by omega),if_pos rU] at hr;simp at hr;exact hr.1
 show v=(kind,0,v.2.2);rw [<- cg,<- he]
theorem Xe{ls:List AB}{o:List UInt8}(hg:Be 3 ls)(h:D9 3 ls o):Il o (BB ls).length (BB ls)/\0<o.length:=by
 have key:∀(f:Int) (b:List UInt8),(0<=f/\f<=1)->F7 (BB ls) f b->Il b (BB ls).length (BB ls)/\0<b.length:=by
  intro f b hf hE;have hh:((b.getD 0 0).toNat:Int)=f:=by
   cases hE with
   | plain=>rfl
   | table t wd ht hw=>rfl
  refine⟨⟨rfl,by rw [hh];exact hg.enc f hf,by rw [hh];exact hE⟩,?_⟩;cases hE with
  | plain=>simp
  | table t wd ht hw=>simp
 cases h with
 | text h b0 b1 h0 h1 =>
  split
  ·exact key 1 b1 (by omega) h1
  ·exact key 0 b0 (by omega) h0
 | num h=>exact absurd rfl h
theorem Aco{f:Nat}(hf:f<=3)(l:List Int):((DR f l).getD 0 0).toNat=f/\0<(DR f l).length:=by
 rcases (by omega:f=0\/f=1\/f=2\/f=3) with rfl | rfl | rfl | rfl <;> exact⟨rfl,by simp [DR]⟩
theorem AaB{kind:Int}{ls:List AB}{o:List UInt8}(hg:Be kind ls)(h3:kind≠3)(h:D9 kind ls o):DK o (CS ls).length (CS ls)/\0<o.length:=by
 cases h with
 | text h b0 b1 h0 h1=>exact absurd h h3
 | num h =>
  obtain⟨e1,e2⟩:=Aco (Pd (CS ls)) (CS ls);exact⟨⟨rfl,hg.Ae8,by rw [e1];exact Pd _,by rw [e1]⟩,e2⟩
def Ajx(kind:Int)(l:List UInt8)(n:Nat)(w w':World)(v:Value):Prop :=
 ∃(vs:List AB) (a:Option Addr) (c:Nat) (ok:Bool),v=.tuple #[.slice a vs.length c,.bool ok]/\Rd w' a (AP vs)/\Below w.heap.size w w'/\vs.length<=4096/\(∀ v∈vs,BL v) /\
  ∀ ls,Be kind ls->(AQ ls).length=n->(0<n->D9 kind ls l)->(n=0->l=[])->ok=true/\vs=AQ ls
section
variable {w:World}{a:Option Addr}{c:Nat}{l:List UInt8}
theorem QW(kind:Int)(hl:Rd w a (l.map Ag))(hc:l.length<=c)(hs:l.length<=9223372036854775807){n:Nat}(hn:n<=1024) :
  Calls Tryz.prog f.VY #[.int .i64 kind,.slice a l.length c,.int .i64 (n:Int)] w (AG λ v w'=>Ajx kind l n w w' v):=by
 apply R.ML
 delta R.Ad R.AR R.F R.G R.H R.I R.J R.Ks R.Li R.Lt R.N R.O R.EM R.S R.T R.W R.X;try dsimp only [R.Ps]
 refine Ao (λ hz=>?_) (λ jb=>Ao (λ h3=>?_) (λ h3=>?_))
 ·have ct:n=0:=by omega
  subst ct;refine⟨[],none,0,_,rfl,Rd.nil _ _,.refl _ _,by simp,by simp,λ ls hg hf _ h0=>?_⟩;rw [h0 rfl];exact⟨rfl,(List.eq_nil_of_length_eq_zero hf).symm⟩
 ·subst h3;have ct:0<n:=by omega
  refine (UB hl hc hs (n:Int)).mono ?_;rintro _ w1 ⟨_,rfl,ss,a1,c1,e1,rfl,R1,B1,l1,q1⟩;have aU:Cj (n:Int):=⟨by omega,by omega⟩;rw [Ale] at q1;refine⟨_,_,_,_,rfl,?_⟩;refine⟨λ s w2=>∃(i:Nat) (oa:Option Addr) (oc:Nat),s=[.slice oa ((ss.take i).map λ s=>((3:Int),(0:Int),s)).length oc,.int .i64 (i:Int)]/\i<=ss.length/\O5 w1 w2 ((ss.take i).map λ s=>((3:Int),(0:Int),s)) oa oc,λ s _=>match s with
    | [_,.int _ i]=>ss.length-i.toNat
    | _=>0,⟨0,none,0,rfl,by omega,O5.nil w1⟩,?_⟩
  rintro oa _ oc _ w2 ⟨i,_,_,aA,hi,h2⟩;cases aA;refine Aa (λ aB=>⟨⟨by omega,aB⟩,?_⟩) (λ aI=>?_)
  ·have aD:i<ss.length:=by omega
   obtain⟨p,rfl,aE⟩:=Fa (R1.grown h2.Ar) aD;refine⟨_,by rw [Ale];exact aE,(SH.start (λ _=>False) w2).An λ b3 w3 dG B3 S3=>NJ (x:=(3,0,ss[i])) (h2.grown B3) (by simp;omega) (S3.get 0 rfl) λ a4 c4 w4 h4=>⟨_,_,_,rfl,?_⟩⟩;have e:(ss.take (i+1)).map (λ s=>((3:Int),(0:Int),s))=(ss.take i).map (λ s=>((3:Int),(0:Int),s))++[((3:Int),(0:Int),ss[i])]:=by
    rw [Al6 aD,Alv];rfl
   rw [Ae (by omega)];refine⟨⟨i+1,a4,c4,by rw [e],by omega,by rw [e];exact h4⟩,?_⟩;simp only [Ale];omega
  ·have bF:ss.take i=ss:=AlK (by omega);rw [bF] at h2 ⊢;refine⟨_,oa,oc,_,rfl,h2.row.rd,Ac B1 h2.Ar,by simp;omega,?_,λ ls hg hf ho _=>?_⟩
   ·intro v hv;obtain⟨s,_,rfl⟩:=AkU.1 hv;exact⟨by simp,by simp⟩
   ·obtain⟨d1,d2⟩:=Xe hg (ho ct);have bQ:=NT hg rfl;have eU:(BB ls).length=n:=by rw [<- hf,bQ,Alr]
    rw [eU] at d1;rcases q1 with ⟨k1,_⟩ | ⟨_,k2,rfl,_⟩ | ⟨_,k2,_⟩
    ·exact absurd aU k1
    ·rw [bQ,k2.one d1];exact⟨rfl,rfl⟩
    ·exact absurd ⟨d1,d2⟩ (k2 _)
 ·have ct:0<n:=by omega
  refine (UR hl hc hs (n:Int)).mono ?_;rintro _ w1 ⟨_,rfl,ns,a1,c1,e1,rfl,R1,B1,l1,hI,q1⟩;have aU:Cj (n:Int):=⟨by omega,by omega⟩;rw [Ale] at q1;refine⟨_,_,_,_,rfl,?_⟩;refine⟨λ s w2=>∃(i:Nat) (oa:Option Addr) (oc:Nat),s=[.slice oa ((ns.take i).map λ x=>((kind:Int),(x:Int),E0)).length oc,.int .i64 (i:Int)]/\i<=ns.length/\O5 w1 w2 ((ns.take i).map λ x=>((kind:Int),(x:Int),E0)) oa oc,λ s _=>match s with
    | [_,.int _ i]=>ns.length-i.toNat
    | _=>0,⟨0,none,0,rfl,by omega,O5.nil w1⟩,?_⟩
  rintro oa _ oc _ w2 ⟨i,_,_,aA,hi,h2⟩;cases aA;refine Aa (λ aB=>⟨⟨by omega,aB⟩,?_⟩) (λ aI=>?_)
  ·have aD:i<ns.length:=by omega
   obtain⟨p,rfl,aE⟩:=Dq (R1.grown h2.Ar) aD;refine⟨_,by rw [Ale];exact aE,(SH.start (λ _=>False) w2).An λ b3 w3 dG B3 S3=>NJ (x:=(kind,ns[i],E0)) (h2.grown B3) (by simp;omega) (S3.get 0 rfl) λ a4 c4 w4 h4=>⟨_,_,_,rfl,?_⟩⟩;have e:(ns.take (i+1)).map (λ x=>((kind:Int),(x:Int),E0))=(ns.take i).map (λ x=>((kind:Int),(x:Int),E0))++[((kind:Int),(ns[i]:Int),E0)]:=by
    rw [Al6 aD,Alv];rfl
   rw [Ae (by omega)];refine⟨⟨i+1,a4,c4,by rw [e],by omega,by rw [e];exact h4⟩,?_⟩;simp only [Ale];omega
  ·have bF:ns.take i=ns:=AlK (by omega);rw [bF] at h2 ⊢;refine⟨_,oa,oc,_,rfl,h2.row.rd,Ac B1 h2.Ar,by simp;omega,?_,λ ls hg hf ho _=>?_⟩
   ·intro v hv;obtain⟨x,hx,rfl⟩:=AkU.1 hv;exact⟨(hI x hx).1,(hI x hx).2⟩
   ·obtain⟨d1,d2⟩:=AaB hg h3 (ho ct);have bQ:=Q4 hg h3;have eU:(CS ls).length=n:=by rw [<- hf,bQ,Alr]
    rw [eU] at d1;rcases q1 with ⟨k1,_⟩ | ⟨_,_,_,k2,rfl⟩ | ⟨_,k2,_⟩
    ·exact absurd aU k1
    ·rw [bQ,k2 _ d1];exact⟨rfl,rfl⟩
    ·exact absurd ⟨d1,d2⟩ (k2 _)
end
/-! ### spread -/
theorem AbJ(cur:List AB){i:Nat}(hi:i<cur.length)(v:AB) :
  (((⟨AP cur⟩:Array Value).setIfInBounds (i*3) (.int .i64 v.1)).setIfInBounds (i*3+1) (.int .i64 v.2.1)).setIfInBounds (i*3+2) (.string v.2.2)=⟨AP (cur.set i v)⟩:=by
 apply Array.ext';simp only [Array.toList_setIfInBounds];apply List.ext_getElem?;intro j;have hl:=Jo cur;have ax:=Jo (cur.set i v);rw [Ali] at ax;by_cases hj:j<cur.length*3
 ·have hq:j / 3<cur.length:=by omega
  have e:j=j / 3*3+j % 3:=by omega
  have g1:=H7 cur (j / 3) (j % 3) hq (by omega);have g2:=H7 (cur.set i v) (j / 3) (j % 3) (by rw [Ali];exact hq) (by omega);rw [<- e] at g1 g2;rw [g2];simp only [List.getElem?_set,Ali,hl];by_cases dU:j / 3=i
  ·subst dU;simp only [List.getElem_set_self];rcases (by omega:j % 3=0\/j % 3=1\/j % 3=2) with h | h | h
   ·rw [h] at e ⊢;rw [if_neg (by omega),if_neg (by omega),if_pos (by omega),if_pos (by omega)];rfl
   ·rw [h] at e ⊢;rw [if_neg (by omega),if_pos (by omega),if_pos (by omega)];rfl
   ·rw [h] at e ⊢;rw [if_pos (by omega),if_pos (by omega)];rfl
  ·rw [if_neg (by omega),if_neg (by omega),if_neg (by omega),g1];rw [List.getElem_set_ne (λ h=>dU h.symm)]
 ·rw [Al3 (by simp only [Ali,hl];omega),Al3 (by rw [ax];omega)]
theorem XD(n:Nat):madeCells (Value.agg #[.int .i64 0,.int .i64 0,.string ⟨#[]⟩]).cells (n*3)=⟨AP (Ak9 n (0,0,E0))⟩:=by
 apply Array.ext';apply List.ext_getElem?;intro j;by_cases hj:j<n*3
 ·have g2:=H7 (Ak9 n (0,0,E0)) (j / 3) (j % 3) (by rw [List.length_replicate];omega) (by omega);have e:j / 3*3+j % 3=j:=by omega
  rw [e] at g2;rw [g2,List.getElem_replicate];have hc:(Value.agg #[.int .i64 0,.int .i64 0,.string ⟨#[]⟩]).cells=#[.int .i64 0,.int .i64 0,.string ⟨#[]⟩]:=rfl;rw [hc];have aw:(#[Value.int .i64 0,.int .i64 0,.string ⟨#[]⟩]:Array Value).size=3:=rfl;rcases (by omega:j % 3=0\/j % 3=1\/j % 3=2) with h | h | h <;> simp [madeCells,hj,h,H6]
 ·rw [Al3 (by rw [Array.length_toList,LQ];omega),Al3 (by rw [Jo,List.length_replicate];omega)]
structure XR(w w':World)(a:Option Addr)(xs:List Value):Prop where
 rd:Rd w' a xs
 new:∀ k,AD a=some k->w.heap.size<=k
theorem XR.nil(w w':World):XR w w' none []:=⟨Rd.nil _ _,λ k hk=>by cases hk⟩
theorem XR.grown{w w' w2:World}{a:Option Addr}{xs:List Value}(h:XR w w' a xs)(B:Below w'.heap.size w' w2):XR w w2 a xs:=⟨h.rd.grown B,h.new⟩
theorem XR.before{w0 w w':World}{a:Option Addr}{xs:List Value}(h:XR w w' a xs)(B:Below w0.heap.size w0 w):XR w0 w' a xs:=⟨h.rd,λ k hk=>Als B.size (h.new k hk)⟩
def Akm(bits:List Nat)(vs:List AB)(w w':World)(v:Value):Prop :=
 ∃(os:List AB) (a:Option Addr) (c:Nat) (ok:Bool),v=.tuple #[.slice a os.length c,.bool ok]/\XR w w' a (AP os)/\Below w.heap.size w w'/\os.length<=4096/\(∀ v∈os,BL v) /\
  ∀ ls,bits=A4 ls->vs=AQ ls->(∀ v∈ls,v.1=0->v=(0,0,E0))->ok=true/\os=ls
theorem VB{w:World}{b:Nat}{cs:Array Value}{t:TypeId}(hb:w.heap[b]?=some (.cells cs t (0,0))){p:Addr}{i:Nat}(hp:p=⟨b,i,none⟩){v:Value}{k:World->Prop}(hi:i<cs.size)
  (hk:∀ w',Ai (·=b) w w'->w'.heap[b]?=some (.cells (cs.setIfInBounds i v) t (0,0))->k w'):DY p v k w:=by
 subst hp;exact EZ hb hi hk
section
variable {w:World}{a a2:Option Addr}{c c2:Nat}{bits:List Nat}{vs:List AB}
theorem Tb(hb:Rd w a (bits.map E1))(hv:Rd w a2 (AP vs))(hn:bits.length<=4096)(nj:vs.length<=4096)(aK:∀ v∈vs,BL v) :
  Calls Tryz.prog f.X0 #[.slice a bits.length c,.slice a2 vs.length c2] w (AG λ v w'=>Akm bits vs w w' v):=by
 apply R.NP
 delta R.Ad R.F R.G R.H R.I R.Li R.Lt R.Lu R.O R.NH R.Rs R.S R.Am R.T R.W R.X;try dsimp only [R.Ps]
 refine Ea Ad3 (l:=(bits.length:Int)) (c:=(bits.length:Int)) (by omega) (by omega) (by omega) (by omega) λ bo w1 fO B1 kS=>?_;rw [Ale,XD] at kS;rw [Ale];have low:∀ {w':World},Ai (λ k=>k=bo) w1 w'->Below w.heap.size w w':=λ K=>B1.trans (K.below B1.size λ k hk h=>by omega);refine⟨_,_,_,rfl,λ s w2=>∃(at_ i:Nat) (cur:List AB),s=[.int .i64 (at_:Int),.int .i64 (i:Int)]/\i<=bits.length/\at_<=vs.length/\cur.length=bits.length/\(∀ v∈cur,BL v)/\Ai (λ k=>k=bo) w1 w2/\w2.heap[bo]?=some (.cells ⟨AP cur⟩ ty.AW (0,0)) /\
   (∀ ls,bits=A4 ls->vs=AQ ls->(∀ v∈ls,v.1=0->v=(0,0,E0))->at_=(AQ (ls.take i)).length/\cur=ls.take i++Ak9 (bits.length-i) (0,0,E0)),λ s _=>match s with
   | [_,.int _ i]=>bits.length-i.toNat
   | _=>0,⟨0,0,_,rfl,by omega,by omega,by simp,?_,.refl _ _,kS,λ ls _ _ _=>⟨rfl,by simp⟩⟩,?_⟩
 ·intro v hv;rw [(List.mem_replicate.1 hv).2];exact⟨by simp,by simp⟩
 rintro _ _ w2 ⟨at_,i,cur,aA,hi,cU,bN,ml,K2,kT,hT⟩;cases aA;have B2:=low K2;have kL:∀ {ls:List AB},bits=A4 ls->ls.length=bits.length:=λ h=>by rw [h];simp [A4]
 refine Aa (λ aB=>⟨⟨by omega,aB⟩,?_⟩) (λ aI=>?_)
 ·have aD:i<bits.length:=by omega
  have hic:i<cur.length:=by omega
  obtain⟨p,rfl,aE⟩:=GZ (hb.grown B2) aD;refine⟨_,by rw [Ale];exact aE,?_⟩;have cM:bits.length-((i+1:Nat):Int).toNat<bits.length-((i:Nat):Int).toNat:=by
   simp only [Ale];omega
  have bit:∀ {ls:List AB} (h:bits=A4 ls) (hl:i<ls.length),bits[i]=if ls[i].1=0 then 1 else 0:=by
   intro ls h hl;subst h;simp [A4]
  rw [Ae (k:=i) (by omega)];refine Ao (λ h1=>?_) (λ h1=>Ao (λ kf=>?_) (λ aQ=>?_))
  ·refine⟨⟨at_,i+1,cur,rfl,by omega,cU,bN,ml,K2,kT,λ ls g1 g2 g3=>?_⟩,cM⟩;obtain⟨t1,t2⟩:=hT ls g1 g2 g3;have hl:=kL g1;have cl:i<ls.length:=by omega
   have cI:=bit g1 cl;have hz:ls[i].1=0:=by
    by_cases hz:ls[i].1=0
    ·exact hz
    ·rw [if_neg hz] at cI;omega
   refine⟨by rw [t1,CU cl,if_pos hz,Amc],?_⟩;rw [t2,Al6 cl,g3 _ (AlS cl) hz,Alc];congr 1;rw [show bits.length-i=(bits.length-(i+1))+1 by omega,Amy];rfl
  ·refine⟨[],none,0,false,rfl,XR.nil _ _,B2,by simp,by simp,λ ls g1 g2 g3=>?_⟩;exfalso;obtain⟨t1,t2⟩:=hT ls g1 g2 g3;have hl:=kL g1;have cl:i<ls.length:=by omega
   have cI:=bit g1 cl;have jb:¬ ls[i].1=0:=λ hz=>by rw [if_pos hz] at cI;omega
   have hle:(AQ (ls.take (i+1))).length<=(AQ ls).length:=by
    unfold AQ;exact ((List.take_sublist (i+1) ls).filter _).length_le
   rw [CU cl,if_neg jb,Alb,<- t1,<- g2] at hle;simp at hle;omega
  ·have uQ:at_<vs.length:=by omega
   obtain⟨p2,gm,c0,c1,c2⟩:=Di (hv.grown B2) uQ;subst gm;refine⟨⟨by omega,by omega⟩,_,by rw [Ale];exact c0,_,by rw [Ale];exact c1,_,by rw [Ale];exact c2,⟨by omega,by omega⟩,?_⟩;rw [Ale];have aw:(⟨AP cur⟩:Array Value).size=bits.length*3:=by
    show (AP cur).length=_;rw [Jo,bN]
   refine VB kT (p:=(⟨bo,0,none⟩:Addr).add (i*3)) (i:=i*3) (by rw [Ay];simp) (by omega) λ w3 K3 gv=>?_;refine VB gv (p:=((⟨bo,0,none⟩:Addr).add (i*3)).add 1) (i:=i*3+1) (by rw [Ay,Ay];simp) (by simp only [Array.size_setIfInBounds];omega) λ w4 K4 pP=>?_;refine VB pP (p:=((⟨bo,0,none⟩:Addr).add (i*3)).add 2) (i:=i*3+2) (by rw [Ay,Ay];simp) (by simp only [Array.size_setIfInBounds];omega) λ w5 K5 fJ=>?_;rw [AbJ cur hic] at fJ;rw [Ae (by omega)];refine⟨⟨at_+1,i+1,cur.set i vs[at_],rfl,by omega,by omega,by rw [Ali];exact bN,?_,((K2.trans K3 (λ _ _ h=>h)).trans K4 (λ _ _ h=>h)).trans K5 (λ _ _ h=>h),fJ,λ ls g1 g2 g3=>?_⟩,cM⟩
   ·intro v wo;rcases List.mem_or_eq_of_mem_set wo with h | h
    ·exact ml v h
    ·rw [h];exact aK _ (AlS uQ)
   ·obtain⟨t1,t2⟩:=hT ls g1 g2 g3;have hl:=kL g1;have cl:i<ls.length:=by omega
    have cI:=bit g1 cl;have jb:¬ ls[i].1=0:=λ hz=>by rw [if_pos hz] at cI;omega
    have bQ:=CU cl;rw [if_neg jb] at bQ;refine⟨by rw [t1,bQ,Alb];rfl,?_⟩;have iH:vs[at_]=ls[i]:=by
     have cY:AQ (ls.take (i+1)) <+: AQ ls:=by
      unfold AQ;exact (List.take_prefix (i+1) ls).filter _
     rw [bQ] at cY;obtain⟨r,hr⟩:=cY;have hv?:vs[at_]?=some ls[i]:=by
      rw [g2,<- hr,Alc,t1];simp
     rw [List.getElem?_eq_getElem uQ] at hv?;exact Ami hv?
    rw [iH,t2,Al6 cl];have eU:(ls.take i).length=i:=by rw [Al7];omega
    rw [List.set_append_right _ _ (by omega),eU,Nat.sub_self,show bits.length-i=(bits.length-(i+1))+1 by omega,Amy,List.set_cons_zero,Alc];rfl
 ·refine⟨cur,some ⟨bo,0,none⟩,bits.length,_,by rw [bN],?_,B2,by omega,ml,λ ls g1 g2 g3=>?_⟩
  ·exact⟨Rd.Ak kT,λ k hk=>by cases hk;exact fO⟩
  ·obtain⟨t1,t2⟩:=hT ls g1 g2 g3;have hl:=kL g1;have bF:ls.take i=ls:=AlK (by omega);rw [bF] at t1 t2;refine⟨by rw [g2,t1];simp,?_⟩;rw [t2,show bits.length-i=0 by omega];simp
end
def CK(a:Option Addr)(c:Nat)(cs:List BQ):It:=It.row ty.Dg 3 a cs.length c (BM cs)
theorem AiJ:M9 Tryz.prog ty.AX=some (ty.Dg,3,32,.agg #[.string ⟨#[]⟩,.int .i64 0,.bool false]):=by kernel_rfl
section
variable {w0 w:World}{H:List It}{a:Option Addr}{c:Nat}{cs:List BQ}
theorem Ahf(S:ST w0 w H)(n:Nat)(hn:H[n]?=some (CK a c cs)):Rd w a (BM cs):=S.rd n hn
theorem Ahc(S:ST w0 w H)(n:Nat)(hn:H[n]?=some (CK a c cs)){x:BQ}{b:Nat}(hs:Rd w (some ⟨b,0,none⟩) (V3 x))(hl:cs.length+1<=1000000){f:Value->World->Prop}
  (hf:∀ a' c' w',ST w0 w' (H.set n (CK a' c' (cs++[x])))->f (.slice a' (cs++[x]).length c') w') :
  DB Tryz.prog (Builtin.append_ #[ty.AX,ty.AX] ty.AX #[.slice a cs.length c,.slice (some ⟨b,0,none⟩) 1 1]) f w:=by
 refine S.app n hn AiJ rfl (by omega) (by omega) hs (mm:=1) rfl (by simp [V3];exact⟨rfl,rfl,rfl⟩) (by omega) λ a' c' w' S'=>?_;have e1:(cs++[x]).length=cs.length+1:=by simp
 have e2:BM cs++V3 x=BM (cs++[x]):=by simp [BM]
 rw [e2] at S';have:=hf a' c' w' (by unfold CK;rw [e1];exact S');rwa [e1] at this
end
def Bc(l:List UInt8)(at_:Nat):Nat->Option (List BQ × Nat)
 | 0=>some ([],at_)
 | n+1=>match BD l (at_:Int) 24 with
  | none=>none
  | some x=>if l.length-x.2<2\/1<(l.getD (x.2+1) 0).toNat then none else
   (Bc l (x.2+2) n).map λ r=>((BC x.1,((l.getD x.2 0).toNat:Int),(l.getD (x.2+1) 0).toNat==1) :: r.1,r.2)
def Bj(l:List UInt8)(at_:Int):Option (List BQ × Nat) :=
 match takeN l at_ with
 | none=>none
 | some x=>if 16<x.1 then none else match Bc l x.2 x.1 with
  | none=>none
  | some r=>if Ap r.1 then some r else none
theorem Xy{l:List UInt8}{at_:Int}{most:Nat}{s:List UInt8}{k:Nat}(h:BD l at_ most=some (s,k)):s.length<=l.length:=by
 unfold BD at h;split at h
 ·split at h
  ·cases h
  ·simp only [Option.some.injEq,Prod.mk.injEq] at h;obtain⟨rfl,_⟩:=h;rw [Al7,AlE];omega
 ·cases h
def WL(o:Option (List BQ × Nat))(w w':World)(v:Value):Prop :=
 match o with
 | none=>v=.tuple #[.slice none 0 0,.int .i64 0,.int .i64 52]/\Below w.heap.size w w'
 | some r=>∃ a c,v=.tuple #[.slice a r.1.length c,.int .i64 (r.2:Int),.int .i64 0]/\ST w w' [CK a c r.1]
theorem WL.bad{o:Option (List BQ × Nat)}{w w':World}(h:o=none)(B:Below w.heap.size w w'):WL o w w' (.tuple #[.slice none 0 0,.int .i64 0,.int .i64 52]):=by
 subst h;exact⟨rfl,B⟩
section
variable {w:World}{a:Option Addr}{c:Nat}{l:List UInt8}
theorem Mx(hl:Rd w a (l.map Ag)){k:Nat}(h:2<=l.length-k):∃ p,a=some p/\w.cell? (p.add (k*1))=some (.int .u8 ((l.getD k 0).toNat:Int))/\w.cell? (p.add ((k+1)*1))=some (.int .u8 ((l.getD (k+1) 0).toNat:Int)):=by
 have h1:k<l.length:=by omega
 have h2:k+1<l.length:=by omega
 obtain⟨p,rfl,c1⟩:=byte_at hl h1;obtain⟨p',hp,c2⟩:=byte_at hl h2;cases hp;exact⟨p,rfl,by rw [c1];simp [List.getD,h1],by rw [c2];simp [List.getD,h2]⟩
theorem Ma(hl:Rd w a (l.map Ag))(hc:l.length<=c)(hs:l.length<=140737488355328)(at_:Int) :
  Calls Tryz.prog f.Abj #[.slice a l.length c,.int .i64 at_] w (AG λ v w'=>WL (Bj l at_) w w' v):=by
 apply R.Qf
 delta R.Ad R.Gv R.Bu R.Cb R.D R.F R.G R.H R.I R.J R.Ks R.Ly R.N R.O R.AhK R.S R.T R.U R.W R.Wu R.X;try dsimp only [R.Ps]
 refine (AL hl hc (by omega) at_).mono ?_;rintro _ w1 ⟨_,rfl,rfl,rfl⟩;cases hx:takeN l at_ with
 | none=>exact⟨_,_,_,rfl,Ah (λ _=>.bad (by simp [Bj,hx]) (.refl _ _)) (λ h=>by cases h)⟩
 | some x =>
  obtain⟨n,at0⟩:=x;obtain⟨hn,_,_,dF,_⟩:=Az hx;refine⟨_,_,_,rfl,Ah (λ h=>absurd rfl h) (λ _=>Aa (λ h=>.bad ?_ (.refl _ _)) (λ gU=>?_))⟩
  ·have:16<n:=by simp only at h;omega
   simp [Bj,hx,this]
  have tp:n<=16:=by simp only at gU;omega
  have hT:Bj l at_=match Bc l at0 n with
   | none=>none
   | some r=>if Ap r.1 then some r else none:=by
   have:¬ 16<n:=by omega
   simp [Bj,hx,this]
  rw [hT];refine⟨λ s w2=>∃(i aL:Nat) (cs:List BQ) (ca:Option Addr) (cc:Nat),s=[.int .i64 (aL:Int),.slice ca cs.length cc,.int .u64 (i:Int)]/\i<=n/\cs.length=i/\aL<=l.length/\(∀ c∈cs,c.1.size<=9223372036854775807) /\
    Bc l at0 n=((Bc l aL (n-i)).map λ r=>(cs++r.1,r.2))/\ST w1 w2 [CK ca cc cs],λ s _=>match s with
   | [_,_,.int _ i]=>n-i.toNat
   | _=>0,⟨0,at0,[],none,0,rfl,by omega,rfl,by omega,by simp,by simp,(ST.start w1).nil _ _⟩,?_⟩
  rintro _ ca _ cc _ w2 ⟨i,aL,cs,_,_,aA,hi,um,cU,hq,aV,S⟩;cases aA;refine Aa (λ aB=>?_) (λ aI=>?_)
  ·obtain⟨m,hm⟩:∃ m,n-i=m+1:=⟨n-i-1,by simp only at aB;omega⟩;rw [hm] at aV;have ax:=hl.grown S.Ar;refine (Ex ax hc (by omega) (aL:Int) 24).mono ?_;rintro _ w3 ⟨_,rfl,rfl,rfl⟩;cases ht:BD l (aL:Int) 24 with
   | none =>
    refine⟨_,_,_,rfl,Ah (λ _=>.bad ?_ S.Ar) (λ h=>by cases h)⟩;rw [aV];simp [Bc,ht]
   | some x =>
    obtain⟨nm,k⟩:=x;have hk:=Mo ht;have bz:=Xy ht;refine⟨_,_,_,rfl,Ah (λ h=>absurd rfl h) (λ _=>?_)⟩;simp only;rw [wrap_i64 (n:=(l.length:Int)-(k:Int)) (by omega) (by omega),Ae (k:=k) (by omega)];refine Aa (λ h2=>.bad ?_ S.Ar) (λ h2=>?_)
    ·rw [aV];have:l.length-k<2:=by omega
     simp [Bc,ht,this]
    obtain⟨p,rfl,d0,d1⟩:=Mx ax (k:=k) (by omega);refine⟨⟨by omega,by omega⟩,_,by rw [Ale];exact d1,Aa (λ h3=>.bad ?_ S.Ar) (λ h3=>S.draw λ w4 B4 S=>?_)⟩
    ·rw [aV];have:l.length-k<2\/1<(l.getD (k+1) 0).toNat:=.inr (by omega);simp only [Bc,ht,if_pos this,Option.map_none]
    have og:=ax.grown B4;obtain⟨p',hp',d0,d1⟩:=Mx og (k:=k) (by omega);cases hp';have db:=(l.getD k 0).toNat_lt;refine⟨⟨by omega,by omega⟩,⟨by omega,by omega⟩,_,by rw [Ale];exact d0,_,by rw [Ale];exact d1,?_⟩;rw [wrap_i64 (n:=((l.getD k 0).toNat:Int)) (by omega) (by omega),wrap_i64 (n:=(k:Int)+2) (by omega) (by omega),Aj (n:=(i:Int)+1) (by omega) (by simp only at aB;omega)];obtain⟨x,hx⟩:∃ x:BQ,x=(BC nm,((l.getD k 0).toNat:Int),(l.getD (k+1) 0).toNat==1):=⟨_,rfl⟩;refine S.An λ eh w5 _ _ S=>?_;have aW:Rd w5 (some ⟨eh,0,none⟩) (V3 x):=by
     have h:=S.GD 0 rfl;have e:(((l.getD (k+1) 0).toNat:Int)==1)=((l.getD (k+1) 0).toNat==1):=by rw [Bool.eq_iff_iff];simp;omega
     rw [e] at h;rw [hx];exact h
    refine Ahc S 1 rfl aW (by simp only at aB;omega) λ a6 c6 w6 S=>⟨_,_,_,rfl,?_⟩;refine⟨⟨i+1,k+2,cs++[x],a6,c6,?_,by simp only at aB;omega,by simp [um],by omega,?_,?_,S.drop 1⟩,?_⟩
    ·simp only [Alb,Ald,Amp,List.cons.injEq,Value.int.injEq,true_and,and_true];constructor <;> omega
    ·intro c hc;rcases Al8.1 hc with h | h
     ·exact hq c h
     ·rw [Al9.1 h,hx];show (BC nm).size<=_;rw [A1];omega
    ·rw [aV,show n-(i+1)=m by omega];have bW:¬ (l.length-k<2\/1<(l.getD (k+1) 0).toNat):=by omega
     simp only [Bc,ht,bW,if_false,Option.map_map];congr 1;funext r;simp [hx]
    ·show n-((i:Int)+1).toNat<n-(i:Int).toNat;simp only at aB;omega
  ·have:n-i=0:=by simp only at aI;omega
   rw [this] at aV;simp only [Bc,AmA,Amc] at aV;rw [aV];refine (Ee (Ahf S 0 rfl) (by omega) hq).mono ?_;rintro _ w7 ⟨_,rfl,rfl,B7⟩;refine⟨_,rfl,As (Aq (λ hR=>?_) (λ hR=>.bad (by simp [hR]) (S.grown B7).Ar))⟩;simp only [hR,if_true];exact⟨ca,cc,rfl,S.grown B7⟩
theorem IM(hl:Rd w a (l.map Ag))(hc:l.length<=c)(hs:l.length<=140737488355328)(at_:Int)(mU:at_<=9223372036854775807) :
  Calls Tryz.prog f.AcS #[.slice a l.length c,.int .i64 at_] w (AG λ v w'=>WL (Bj l at_) w w' v):=by
 apply R.RH
 delta R.Ad R.Gv R.Bu R.Cb R.D R.F R.G R.H R.I R.J R.Ks R.Ly R.N R.O R.KV R.S R.T R.W R.X;try dsimp only [R.Ps]
 refine (AJ hl (by omega) at_ mU).mono ?_;rintro _ w1 ⟨_,rfl,rfl,rfl⟩;cases hx:takeN l at_ with
 | none=>exact⟨_,_,_,rfl,Ah (λ _=>.bad (by simp [Bj,hx]) (.refl _ _)) (λ h=>by cases h)⟩
 | some x =>
  obtain⟨n,at0⟩:=x;obtain⟨hn,_,_,dF,_⟩:=Az hx;refine⟨_,_,_,rfl,Ah (λ h=>absurd rfl h) (λ _=>Aa (λ h=>.bad ?_ (.refl _ _)) (λ gU=>?_))⟩
  ·have:16<n:=by simp only at h;omega
   simp [Bj,hx,this]
  have tp:n<=16:=by simp only at gU;omega
  have hT:Bj l at_=match Bc l at0 n with
   | none=>none
   | some r=>if Ap r.1 then some r else none:=by
   have:¬ 16<n:=by omega
   simp [Bj,hx,this]
  rw [hT];simp only;rw [wrap_i64 (n:=(n:Int)) (by omega) (by omega)];refine⟨λ s w2=>∃(i aL:Nat) (cs:List BQ) (ca:Option Addr) (cc:Nat),s=[.int .i64 (aL:Int),.slice ca cs.length cc,.int .i64 (i:Int)]/\i<=n/\cs.length=i/\aL<=l.length/\(∀ c∈cs,c.1.size<=9223372036854775807) /\
    Bc l at0 n=((Bc l aL (n-i)).map λ r=>(cs++r.1,r.2))/\ST w1 w2 [CK ca cc cs],λ s _=>match s with
   | [_,_,.int _ i]=>n-i.toNat
   | _=>0,⟨0,at0,[],none,0,rfl,by omega,rfl,by omega,by simp,by simp,(ST.start w1).nil _ _⟩,?_⟩
  rintro _ ca _ cc _ w2 ⟨i,aL,cs,_,_,aA,hi,um,cU,hq,aV,S⟩;cases aA;refine Aa (λ aB=>?_) (λ aI=>?_)
  ·obtain⟨m,hm⟩:∃ m,n-i=m+1:=⟨n-i-1,by omega⟩;rw [hm] at aV;have ax:=hl.grown S.Ar;refine (Ed ax hc (by omega) (aL:Int) (by omega) 24).mono ?_;rintro _ w3 ⟨_,rfl,rfl,rfl⟩;cases ht:BD l (aL:Int) 24 with
   | none =>
    refine⟨_,_,_,rfl,Ah (λ _=>.bad ?_ S.Ar) (λ h=>by cases h)⟩;rw [aV];simp [Bc,ht]
   | some x =>
    obtain⟨nm,k⟩:=x;have hk:=Mo ht;have bz:=Xy ht;refine⟨_,_,_,rfl,Ah (λ h=>absurd rfl h) (λ _=>?_)⟩;simp only;rw [wrap_i64 (n:=(l.length:Int)-(k:Int)) (by omega) (by omega),Ae (k:=k) (by omega)];refine Aa (λ h2=>.bad ?_ S.Ar) (λ h2=>?_)
    ·rw [aV];have:l.length-k<2:=by omega
     simp [Bc,ht,this]
    obtain⟨p,rfl,d0,d1⟩:=Mx ax (k:=k) (by omega);refine⟨⟨by omega,by omega⟩,_,by rw [Ale];exact d1,Aa (λ h3=>.bad ?_ S.Ar) (λ h3=>S.draw λ w4 B4 S=>?_)⟩
    ·rw [aV];have:l.length-k<2\/1<(l.getD (k+1) 0).toNat:=.inr (by omega);simp only [Bc,ht,if_pos this,Option.map_none]
    have og:=ax.grown B4;obtain⟨p',hp',d0,d1⟩:=Mx og (k:=k) (by omega);cases hp';have db:=(l.getD k 0).toNat_lt;refine⟨⟨by omega,by omega⟩,⟨by omega,by omega⟩,_,by rw [Ale];exact d0,_,by rw [Ale];exact d1,?_⟩;rw [wrap_i64 (n:=((l.getD k 0).toNat:Int)) (by omega) (by omega),wrap_i64 (n:=(k:Int)+2) (by omega) (by omega),Ae (k:=i) (by omega)];obtain⟨x,hx⟩:∃ x:BQ,x=(BC nm,((l.getD k 0).toNat:Int),(l.getD (k+1) 0).toNat==1):=⟨_,rfl⟩;refine S.An λ eh w5 _ _ S=>?_;have aW:Rd w5 (some ⟨eh,0,none⟩) (V3 x):=by
     have h:=S.GD 0 rfl;have e:(((l.getD (k+1) 0).toNat:Int)==1)=((l.getD (k+1) 0).toNat==1):=by rw [Bool.eq_iff_iff];simp;omega
     rw [e] at h;rw [hx];exact h
    refine Ahc S 1 rfl aW (by omega) λ a6 c6 w6 S=>⟨_,_,_,rfl,?_⟩;refine⟨⟨i+1,k+2,cs++[x],a6,c6,?_,by omega,by simp [um],by omega,?_,?_,S.drop 1⟩,?_⟩
    ·simp only [Alb,Ald,Amp,List.cons.injEq,Value.int.injEq,true_and,and_true];omega
    ·intro c hc;rcases Al8.1 hc with h | h
     ·exact hq c h
     ·rw [Al9.1 h,hx];show (BC nm).size<=_;rw [A1];omega
    ·rw [aV,show n-(i+1)=m by omega];have bW:¬ (l.length-k<2\/1<(l.getD (k+1) 0).toNat):=by omega
     simp only [Bc,ht,bW,if_false,Option.map_map];congr 1;funext r;simp [hx]
    ·show n-((i+1:Nat):Int).toNat<n-(i:Int).toNat;omega
  ·have:n-i=0:=by omega
   rw [this] at aV;simp only [Bc,AmA,Amc] at aV;rw [aV];refine (DV (Ahf S 0 rfl) (by omega) hq).mono ?_;rintro _ w7 ⟨_,rfl,rfl,rfl⟩;refine⟨_,rfl,As (Aq (λ hR=>?_) (λ hR=>.bad (by simp [hR]) S.Ar))⟩;simp only [hR,if_true];exact⟨ca,cc,rfl,S⟩
end
end Go.Proofs.YtpnaifmmggnimaaGreatDoor
namespace Go.Proofs.YtpnaifmmggnimaaGreatDoor
set_option maxRecDepth 100000
open Go.Dn Go.Proofs
open Go.RowKit (Below)
set_option linter.unusedVariables false
/-! ### the order -/
def Dk(x y:Int):Int:=if x<y then -1 else if x > y then 1 else 0
def D6(a b:AB):Int :=
 if Dk a.1 b.1≠0 then Dk a.1 b.1 else if Dk a.2.1 b.2.1≠0 then Dk a.2.1 b.2.1 else Lib.compareBytes (bl a.2.2) (bl b.2.2)
theorem Sj(w:World)(x:Int):Calls Tryz.prog f.Tc #[.int .i64 x] w (AG λ r w'=>r=.bool false/\w'=w):=by
 apply R.Kx;exact⟨by simp,rfl⟩
theorem V2(w:World)(x y:Int):Calls Tryz.prog f.Pj #[.int .i64 x,.int .i64 y] w (AG λ r w'=>r=.int .i64 (Dk x y)/\w'=w):=by
 apply R.I6
 delta R.Cb R.F R.I;try dsimp only [R.Ps]
 refine (Sj w x).mono ?_;rintro _ w ⟨_,rfl,rfl,rfl⟩;refine⟨_,rfl,(Sj w y).mono ?_⟩;rintro _ w ⟨_,rfl,rfl,rfl⟩;refine⟨_,rfl,AV (AV (Aa (λ h=>⟨?_,rfl⟩) (λ h=>Aa (λ h2=>⟨?_,rfl⟩) (λ h2=>⟨?_,rfl⟩))))⟩
 ·simp [Dk,h]
 ·simp [Dk,h,h2]
 ·simp [Dk,h,h2]
theorem Uu(w:World)(x:Int):Calls Tryz.prog f.cmp_isNaN_int #[.int .i64 x] w (AG λ r w'=>r=.bool false/\w'=w):=by
 apply R.MO
 delta R.G;try dsimp only [R.Ps]
 exact⟨by simp,rfl⟩
theorem AiX(x y:Int)(w:World):Calls Tryz.prog f.Kf #[.int .i64 x,.int .i64 y] w λ e w'=>e=.returned (.int .i64 (Dk x y))/\w'=w:=by
 have h:Calls Tryz.prog f.Kf #[.int .i64 x,.int .i64 y] w (AG λ r w'=>r=.int .i64 (Dk x y)/\w'=w):=by
  apply R.Kw
  delta R.Cb R.F R.I;try dsimp only [R.Ps]
  refine (Uu w x).mono ?_;rintro _ w ⟨_,rfl,rfl,rfl⟩;refine⟨_,rfl,(Uu w y).mono ?_⟩;rintro _ w ⟨_,rfl,rfl,rfl⟩;refine⟨_,rfl,AV (AV (Aa (λ h=>⟨?_,rfl⟩) (λ h=>Aa (λ h2=>⟨?_,rfl⟩) (λ h2=>⟨?_,rfl⟩))))⟩
  ·simp [Dk,h]
  ·simp [Dk,h,h2]
  ·simp [Dk,h,h2]
 refine h.mono ?_;rintro _ _ ⟨_,rfl,rfl,rfl⟩;exact⟨rfl,rfl⟩
theorem AhS{w:World}{b:Nat}{t:TypeId}(x y z:Int)(hb:w.heap[b]?=some (.cells #[.int .i64 x,.int .i64 y,.int .i64 z] t (0,0))) :
  Calls Tryz.prog f.Ab6 #[.slice (some ⟨b,0,none⟩) 3 3] w (AG λ r w'=>r=.int .i64 (if x≠0 then x else if y≠0 then y else z)/\w'=w):=by
 apply R.Q1
 delta R.Ad R.F R.I R.Li R.Qi R.W R.X;try dsimp only [R.Ps]
 have cell:∀(k:Nat) (v:Value),[Value.int .i64 x,.int .i64 y,.int .i64 z][k]?=some v->w.cell? ((⟨b,0,none⟩:Addr).add ((k:Int).toNat*1))=some v:=by
  intro k v hv;rw [Int.toNat_natCast,Nat.mul_one,Ay,Nat.zero_add];simp only [World.cell?,hb];simpa using hv
 refine⟨λ s w1=>w1=w/\(s=[.int .i64 ((0:Nat):Int)]\/(s=[.int .i64 ((1:Nat):Int)]/\x=0)\/(s=[.int .i64 ((2:Nat):Int)]/\x=0/\y=0)\/(s=[.int .i64 ((3:Nat):Int)]/\x=0/\y=0/\z=0)),
  λ s _=>match s with
   | [.int _ i]=>3-i.toNat
   | _=>0,⟨rfl,.inl rfl⟩,?_⟩
 rintro i w1 ⟨rfl,hs⟩;rcases hs with hs | ⟨hs,h0⟩ | ⟨hs,h0,h1⟩ | ⟨hs,h0,h1,h2⟩
 ·cases hs;refine CN ⟨by decide,_,cell 0 _ rfl,Ah (λ h=>⟨by rw [if_pos h],rfl⟩) (λ h=>?_)⟩;rw [Ae (by omega)];exact⟨⟨rfl,.inr (.inl ⟨rfl,h⟩)⟩,show 2<3 by decide⟩
 ·cases hs;refine CN ⟨by decide,_,cell 1 _ rfl,Ah (λ h=>⟨by rw [if_neg (by omega),if_pos h],rfl⟩) (λ h=>?_)⟩;rw [Ae (by omega)];exact⟨⟨rfl,.inr (.inr (.inl ⟨rfl,h0,h⟩))⟩,show 1<2 by decide⟩
 ·cases hs;refine CN ⟨by decide,_,cell 2 _ rfl,Ah (λ h=>⟨by rw [if_neg (by omega),if_neg (by omega)],rfl⟩) (λ h=>?_)⟩;rw [Ae (by omega)];exact⟨⟨rfl,.inr (.inr (.inr ⟨rfl,h0,h1,h⟩))⟩,show 0<1 by decide⟩
 ·cases hs;exact AV ⟨by rw [if_neg (by omega),if_neg (by omega),h2],rfl⟩
theorem Jp(w:World)(a b:AB):Calls Tryz.prog f.Wz #[TQ a,TQ b] w (AG λ r w'=>r=.int .i64 (D6 a b)/\Below w.heap.size w w'):=by
 apply R.Na
 delta R.A R.Ab R.Ci R.D R.I R.J R.Li R.Lt R.N R.S R.T;try dsimp only [R.Ps]
 refine (SH.start (λ _=>False) w).An λ b7 w1 pq B1 S1=>S1.An λ b8 w2 pr B2 S2=>S2.E5 λ w3 B3 S3=>?_;refine⟨_,S3.cell 1 rfl rfl,_,S3.cell 0 rfl rfl,_,S3.cell 1 rfl rfl,_,S3.cell 0 rfl rfl,_,S3.cell 1 rfl rfl,_,S3.cell 0 rfl rfl,(AiX _ _ w3).mono ?_⟩;rintro _ w3 ⟨rfl,rfl⟩;refine⟨_,rfl,S3.cell 0 rfl rfl,S3.cell 1 rfl rfl,S3.cell 0 rfl rfl,S3.cell 1 rfl rfl,(V2 w3 _ _).mono ?_⟩;rintro _ w3 ⟨_,rfl,rfl,rfl⟩;refine⟨_,rfl,S3.cell 0 rfl rfl,S3.cell 1 rfl rfl,(Tryz.strings_Compare _ _ w3).mono ?_⟩;rintro _ w3 ⟨rfl,rfl⟩;refine⟨_,rfl,S3.An λ eh w7 jC B7 S7=>(AhS _ _ _ (S7.get 0 rfl)).mono ?_⟩;rintro _ w7 ⟨_,rfl,rfl,rfl⟩;exact⟨_,rfl,rfl,S7.below⟩
def Jd(a b:AB):Bool:=if a.1≠b.1 then decide (a.1<b.1) else if a.1=3 then EN a.2.2 b.2.2 else decide (a.2.1<b.2.1)
theorem SG(w:World)(a b:AB):Calls Tryz.prog f.AcO #[TQ a,TQ b] w (AG λ r w'=>r=.bool (Jd a b)/\Below w.heap.size w w'):=by
 apply R.RC
 delta R.A R.Ab R.F R.G R.I R.Li R.Lt R.N R.T;try dsimp only [R.Ps]
 refine (SH.start (λ _=>False) w).An λ b7 w1 pq B1 S1=>S1.An λ b8 w2 pr B2 S2=>?_;refine⟨_,S2.cell 1 rfl rfl,_,S2.cell 0 rfl rfl,Ah (λ h=>⟨_,S2.cell 1 rfl rfl,_,S2.cell 0 rfl rfl,by simp [Jd,h],S2.below⟩) (λ h=>⟨_,S2.cell 1 rfl rfl,Ao (λ h3=>⟨_,S2.cell 1 rfl rfl,_,S2.cell 0 rfl rfl,?_,S2.below⟩) (λ h3=>⟨_,S2.cell 1 rfl rfl,_,S2.cell 0 rfl rfl,?_,S2.below⟩)⟩)⟩
 ·simp only [Jd];rw [if_neg (by simp [h]),if_pos h3]
 ·simp only [Jd];rw [if_neg (by simp [h]),if_neg h3]
def Xk(a b:AB):Int:=if Jd a b=true then -1 else if Jd b a=true then 1 else 0
theorem L6(w:World)(a b:AB):Calls Tryz.prog f.Wf #[TQ a,TQ b] w (AG λ r w'=>r=.int .i64 (Xk a b)/\Below w.heap.size w w'):=by
 apply R.MU
 delta R.A R.Ab R.Cb R.E R.F R.I R.Li R.Lt R.N R.T;try dsimp only [R.Ps]
 refine (SH.start (λ _=>False) w).An λ b7 w1 pq B1 S1=>S1.An λ b8 w2 pr B2 S2=>?_;refine⟨_,S2.cell 1 rfl rfl,_,S2.cell 1 rfl rfl,_,S2.cell 1 rfl rfl,_,S2.cell 0 rfl rfl,_,S2.cell 0 rfl rfl,_,S2.cell 0 rfl rfl,(SG w2 a b).mono ?_⟩;rintro _ w3 ⟨_,rfl,rfl,B3⟩;have S3:=S2.grown B3;refine⟨_,rfl,_,S3.cell 0 rfl rfl,_,S3.cell 0 rfl rfl,_,S3.cell 0 rfl rfl,_,S3.cell 1 rfl rfl,_,S3.cell 1 rfl rfl,_,S3.cell 1 rfl rfl,(SG w3 b a).mono ?_⟩;rintro _ w4 ⟨_,rfl,rfl,B4⟩;refine⟨_,rfl,Aq (λ h=>⟨by simp [Xk,h],(S3.grown B4).below⟩) (λ h=>Aq (λ h2=>⟨by simp [Xk,h,h2],(S3.grown B4).below⟩) (λ h2=>⟨by simp [Xk,h,h2],(S3.grown B4).below⟩))⟩
end Go.Proofs.YtpnaifmmggnimaaGreatDoor
