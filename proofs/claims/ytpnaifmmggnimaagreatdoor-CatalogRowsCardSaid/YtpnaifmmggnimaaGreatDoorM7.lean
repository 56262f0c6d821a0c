/-
  Texts of this claim, laid one behind the other by a program of mine (install.py): G.Ch3, G.Sum2, G.Ch4, G.Ch5, G.TakeS2, G.Table, G.Dec, G.IntsD, G.IntsF, G.IntsG, G.Ch10, G.Sch9, G.Cmp.
-/
import Derived.Test.YtpnaifmmggnimaaGreatDoorM6
import Derived.Test.YtpnaifmmggnimaaGreatDoorM5
import Derived.Test.YtpnaifmmggnimaaGreatDoorM4
namespace Go.Proofs.YtpnaifmmggnimaaGreatDoor
open _root_.Int renaming toNat_natCast -> Ak4
open _root_.List renaming append_assoc -> Ak2, append_nil -> Al2, drop_drop -> Amn, getElem?_eq_none -> AlT, getElem_mem -> AlI, length -> Amp, length_append -> Ak1, length_cons -> Ak3, length_drop -> Alu, length_map -> Alh, length_nil -> Amf, length_pos_iff -> Al7, length_set -> Ak8, length_take -> AlX, map_append -> Alk, mem_append -> AlY, mem_map -> AkK, mem_singleton -> AlZ, replicate -> AkZ, replicate_succ -> Amo, take_of_length_le -> AlA, take_succ_eq_append_getElem -> AlW
open _root_.Nat renaming le_trans -> Ali
open _root_.Option renaming bind_some -> Aml, getD_some -> Amm, map_some -> Amq
open _root_.Option.some renaming inj -> Al8
open _root_.UInt8 renaming ofNat -> Ak9
set_option maxRecDepth 100000
open Go.Dn Go.Proofs
open Go.RowKit (Below)
set_option linter.unusedVariables false
section
variable {w:World}{a:Option Addr}{c:Nat}{ls:List AB}
theorem QM{kind:Int}(hg:Bc kind ls)(hl:Rd w a (AO ls)) :
  Calls Tryz.prog f.VN #[.int .i64 kind,.slice a ls.length c] w (AG λ v w'=>∃ b a' c',v=.slice a' b.length c'/\D7 kind ls b/\Bn w w' b a' c'):=by
 have hlen:=hg.len;apply R.Nc
 delta R.A R.Ab R.MV R.AR R.Cf R.D R.E R.F R.I R.J R.Ks R.Li R.Ls R.Lt R.N R.O R.S R.Am R.T;try dsimp only [R.Ps]
 refine (SH.start (λ _=>False) w).An λ b3 w1 dE B1 S1=>S1.An λ b4 w2 jx B2 S2=>NF.mono ?_;rintro _ w9 ⟨_,rfl,bI,rfl,P9⟩;refine⟨_,_,_,rfl,by kernel_rfl,λ rr aA dR hy=>?_⟩;obtain⟨W1,hW1⟩:∃ W1,W1=(w9.alloc (.deferred (some []))).alloc (.loop rr):=⟨_,rfl⟩;rw [<- hW1];have gK:Below w9.heap.size w9 W1:=by rw [hW1];exact (((Below.refl _ w9).alloc (Nat.le_refl _) _).alloc (by simp) _)
 have rR:W1.heap.size=w9.heap.size+2:=by rw [hW1];simp
 have gf:W1.heap[w9.heap.size+1]?=some (.loop rr):=by
  rw [hW1];have:=World.alloc_heap_new (w9.alloc (.deferred (some []))) (.loop rr);rwa [World.size_alloc] at this
 have ku:W1.heap[w9.heap.size]?=some (.deferred (some [])):=by
  rw [hW1];exact (Below.heap_alloc _ _ _ (by simp)).trans (World.alloc_heap_new w9 _)
 have dz:=Ai.AA (F:=λ _=>False) gK;obtain⟨L,hLd⟩:∃ L,L=w9.heap.size+1:=⟨_,rfl⟩;rw [<- hLd] at gf hy ⊢;have S9:=S2.grown P9.below;have h39:=S9.lt (x:=(b3,_,_)) (List.mem_cons_of_mem _ (List.mem_cons_self ..));have h49:=S9.lt (x:=(b4,_,_)) (List.mem_cons_self ..);have jK:b4≠b3:=S9.ne 0 1 rfl rfl (by decide);have Bw9:Below w.heap.size w w9:=S9.below;have Bw1:Below w.heap.size w W1:=Bw9.trans (gK.mono Bw9.size);have xB:=Bw9.size;have vE:w.heap.size<=b3:=dE;have qV:w.heap.size<=b4:=by have:=B1.size;omega
 let F:Nat->Prop:=λ x=>x=b3\/x=b4\/x=L;let J:Nat->World->Prop:=λ q wx=>Ai F W1 wx/\wx.heap[L]?=some (.loop rr)/\∃ na nc sa sc,wx.heap[b3]?=some (.cells #[.slice na (CS (ls.take q)).length nc] ty.Bl (0,0)) /\
  wx.heap[b4]?=some (.cells #[.slice sa (BA (ls.take q)).length sc] ty.Cx (0,0))/\Wq W1.heap.size wx (CS (ls.take q)) na nc (BA (ls.take q)) sa sc
 have low:∀ {w':World},Ai F W1 w'->Below w.heap.size w w':=λ K=>Bw1.trans (K.below Bw1.size λ k hk h=>by
  rcases h with h | h | h <;> omega)
 have hI:W1.cell? ⟨bI,0,none⟩=some (.slice a ls.length c):=Dw (dz.at (P9.get 0 rfl) (by simp));have bA:=U0 (w:=W1) (L:=L) (b:=bI) (by omega) J (λ q wx hj=>hl.grown (low hj.1)) (λ q wx wy hj B=>by
   obtain⟨j1,j2,na,nc,sa,sc,j3,j4,j5⟩:=hj;have K:=Ai.AA (F:=λ _=>False) B;exact⟨j1.trans K (λ x _ h=>h.elim),K.at j2 (by simp),na,nc,sa,sc,K.at j3 (by simp),K.at j4 (by simp),j5.grown B⟩) (λ q wx hq hz hj=>by
   obtain⟨j1,j2,na,nc,sa,sc,j3,j4,j5⟩:=hj;obtain⟨e1,e2⟩:=(QU hq).1 hz;exact⟨j1,j2,na,nc,sa,sc,by rw [e1];exact j3,by rw [e2];exact j4,by rw [e1,e2];exact j5⟩) (by
  rintro q wx hq aQ ⟨K,hL,na,nc,sa,sc,g3,g4,hT⟩;obtain⟨e1,e2⟩:=(QU hq).2 aQ;have eN:=Jk (ls.take q);have gi:=Gj (ls.take q);rw [AlX] at eN gi;refine hy _ _ _ _ wx hL ?_;refine (SH.start (λ _=>False) wx).Iz λ iR w8 wu B8 S8=>?_;have K8:=Ai.AA (F:=λ _=>False) B8;have y8:=K8.at hL (by simp);refine⟨y8,?_⟩;obtain⟨wB,hwB⟩:∃ wB,wB=w8.putObj L (.loop { rr with state:=.busy }):=⟨_,rfl⟩;rw [<- hwB];have eT:L<w8.heap.size:=(Array.getElem?_eq_some_iff.1 y8).1;have KB:Ai (λ k=>k=L) w8 wB:=by rw [hwB];exact AP _ _ _
  have vY:wB.heap[L]?=some (.loop { rr with state:=.busy }):=by rw [hwB];exact World.putObj_heap_same eT
  unfold RR;obtain⟨wD,hwD⟩:∃ wD,wD=wB.drew:=⟨_,rfl⟩;rw [<- hwD];have KD:Ai (λ _=>False) wB wD:=by rw [hwD];exact (Ai.refl _ _).drew
  have sx:=K.size;have s8:=B8.size;have d3:wD.heap[b3]?=some (.cells #[.slice na (CS (ls.take q)).length nc] ty.Bl (0,0)):=KD.at (KB.at (K8.at g3 (by simp)) (by show ¬ b3=L;omega)) (by simp);have d4:wD.heap[b4]?=some (.cells #[.slice sa (BA (ls.take q)).length sc] ty.Cx (0,0)):=KD.at (KB.at (K8.at g4 (by simp)) (by show ¬ b4=L;omega)) (by simp);have dL:wD.heap[L]?=some (.loop { rr with state:=.busy }):=KD.at vY (by simp);have d11:wD.heap[iR]?=some (.cells #[.int .i64 ls[q].1,.int .i64 ls[q].2.1,.string ls[q].2.2] ty.AW (0,0)):=KD.at (KB.at (S8.get 0 rfl) (by show ¬ iR=L;omega)) (by simp);have dT:Wq W1.heap.size wD (CS (ls.take q)) na nc (BA (ls.take q)) sa sc:=((hT.grown B8).keeps KB (λ x hx=>.inl (by omega))).keeps KD (by simp);have dK:Ai F W1 wD:=((K.trans K8 (λ x _ h=>h.elim)).trans KB (λ x _ h=>.inr (.inr h))).trans KD (λ x _ h=>h.elim);have l3:b3<W1.heap.size:=by omega
  have l4:b4<W1.heap.size:=by omega
  have lL:L<W1.heap.size:=by omega
  have l11:W1.heap.size<=iR:=by omega
  have fin:∀(wy:World) (rN:Option Addr) (rK:Nat) (rp:Option Addr) (rS:Nat),Ai F W1 wy->wy.heap[L]?=some (.loop { rr with state:=.busy })->wy.heap[b3]?=some (.cells #[.slice na (CS (ls.take q)).length nc] ty.Bl (0,0)) ->
    wy.heap[b4]?=some (.cells #[.slice sa (BA (ls.take q)).length sc] ty.Cx (0,0))->Wq W1.heap.size wy (CS (ls.take q)++[ls[q].2.1]) rN rK (BA (ls.take q)++[ls[q].2.2]) rp rS ->
    DV ⟨b3,0,none⟩ (.slice rN (CS (ls.take q)++[ls[q].2.1]).length rK) (λ ah=>DV ⟨b4,0,none⟩ (.slice rp (BA (ls.take q)++[ls[q].2.2]).length rS) (λ cf=>Gk rr L (λ y w'=>y=true/\(Ai F W1 w'/\w'.heap[L]?=some (.loop rr)/\∃ na nc sa sc,w'.heap[b3]?=some (.cells #[.slice na (CS (ls.take (q+1))).length nc] ty.Bl (0,0)) /\
  w'.heap[b4]?=some (.cells #[.slice sa (BA (ls.take (q+1))).length sc] ty.Cx (0,0))/\Wq W1.heap.size w' (CS (ls.take (q+1))) na nc (BA (ls.take (q+1))) sa sc)) none cf) ah) wy:=by
   intro wy rN rK rp rS yK yL y3 y4 yT;refine EO y3 (by simp) λ wz Kz z3=>EO (Kz.at y4 jK) (by simp) λ wq Kq q4=>?_;have qL:wq.heap[L]?=some (.loop { rr with state:=.busy }):=Kq.at (Kz.at yL (by show ¬ L=b3;omega)) (by show ¬ L=b4;omega);refine⟨qL,rfl,?_⟩;rw [IU aA dR];have lq:L<wq.heap.size:=(Array.getElem?_eq_some_iff.1 qL).1;have KP:=AP wq L (.loop rr);have q3:=Kq.at z3 (show ¬ b3=b4 from λ h=>jK h.symm);refine⟨((yK.trans Kz (λ x _ h=>.inl h)).trans Kq (λ x _ h=>.inr (.inl h))).trans KP (λ x _ h=>.inr (.inr h)),World.putObj_heap_same lq,rN,rK,rp,rS,?_,?_,?_⟩
   ·rw [e1];exact KP.at q3 (by show ¬ b3=L;omega)
   ·rw [e2];exact KP.at q4 (by show ¬ b4=L;omega)
   ·rw [e1,e2];exact ((yT.keeps Kz (λ x hx=>.inl (by omega))).keeps Kq (λ x hx=>.inl (by omega))).keeps KP (λ x hx=>.inl (by omega))
  have cX:∀ {x:Nat},x<W1.heap.size->¬ AD na=some x:=λ hx h=>by have:=hT.nn _ h;omega
  have dH:∀ {x:Nat},x<W1.heap.size->¬ AD sa=some x:=λ hx h=>by have:=hT.sn _ h;omega
  have sB:w8.heap.size<=wB.heap.size:=KB.size;have sD:wB.heap.size<=wD.heap.size:=KD.size;have wa:wD.cell? ⟨iR,1,none⟩=some (.int .i64 ls[q].2.1):=by simp [World.cell?,d11]
  have si:wD.cell? ⟨iR,2,none⟩=some (.string ls[q].2.2):=by simp [World.cell?,d11]
  refine⟨_,_,_,Dw d3,_,wa,_,_,_,Dw d4,_,si,?_,?_⟩
  ·refine (SH.start (λ _=>False) wD).An λ dD wE gv BE SE=>?_;have KE:=Ai.AA (F:=λ _=>False) BE;have f3:=KE.at d3 (by simp);have f4:=KE.at d4 (by simp);have fL:=KE.at dL (by simp);have f11:=KE.at d11 (by simp);have fT:=dT.grown BE;have fK:Ai F W1 wE:=dK.trans KE (λ x _ h=>h.elim);have sE:=BE.size;refine⟨by simp [World.cell?,f11],Dw f4,Dw f3,?_,?_⟩
   ·refine fT.Ah0 (by omega) (by omega) (SE.get 0 rfl) λ aN cN wN hN KN=>⟨_,_,_,rfl,?_⟩;have n11:¬ AD na=some iR:=λ h=>by have:=hT.rn.lt h;omega
    have yo:=KN.at f11 n11;have m3:=KN.at f3 (cX l3);have m4:=KN.at f4 (cX l4);have mL:=KN.at fL (cX lL);have mK:Ai F W1 wN:=fK.trans KN (λ x hx h=>absurd h (cX hx));have sN:=KN.size;refine⟨by simp [World.cell?,yo],Dw m4,(SH.start (λ _=>False) wN).An λ b19 wO pk BO SO=>⟨Dw ((Ai.AA (F:=λ _=>False) BO).at m4 (by simp)),?_⟩⟩;have KO:=Ai.AA (F:=λ _=>False) BO;have sO:=BO.size;refine (hN.grown BO).AhO (by omega) (by omega) (SO.get 0 rfl) λ aS cS wS hS KS=>⟨_,_,_,rfl,?_⟩;refine fin wS aN cN aS cS ((mK.trans KO (λ x _ h=>h.elim)).trans KS (λ x hx h=>absurd h (dH hx))) (KS.at (KO.at mL (by simp)) (dH lL)) (KS.at (KO.at m3 (by simp)) (dH l3)) (KS.at (KO.at m4 (by simp)) (dH l4)) hS
   ·refine (SH.start (λ _=>False) wE).An λ qz wO hb22 BO SO=>?_;have KO:=Ai.AA (F:=λ _=>False) BO;have sO:=BO.size;have o3:=KO.at f3 (by simp);have o4:=KO.at f4 (by simp);have oL:=KO.at fL (by simp);have z6:wO.heap[dD]?=some (.cells #[.int .i64 ls[q].2.1] ty.int64 (0,0)):=KO.at (SE.get 0 rfl) (by simp);have oK:Ai F W1 wO:=fK.trans KO (λ x _ h=>h.elim);refine⟨Dw o4,Dw o3,(fT.grown BO).Ah0 (by omega) (by omega) z6 λ aN cN wN hN KN=>⟨_,_,_,rfl,Dw (KN.at o4 (cX l4)),?_⟩⟩;have n22:¬ AD na=some qz:=λ h=>by have:=hT.rn.lt h;omega
    have sN:=KN.size;refine hN.AhO (by omega) (by omega) (KN.at (SO.get 0 rfl) n22) λ aS cS wS hS KS=>⟨_,_,_,rfl,?_⟩;exact fin wS aN cN aS cS ((oK.trans KN (λ x hx h=>absurd h (cX hx))).trans KS (λ x hx h=>absurd h (dH hx))) (KS.at (KN.at oL (cX lL)) (dH lL)) (KS.at (KN.at o3 (cX l3)) (dH l3)) (KS.at (KN.at o4 (cX l4)) (dH l4)) hS
  ·refine (SH.start (λ _=>False) wD).An λ s3 wE yn BE SE=>?_;have KE:=Ai.AA (F:=λ _=>False) BE;have f3:=KE.at d3 (by simp);have f4:=KE.at d4 (by simp);have fL:=KE.at dL (by simp);have f11:=KE.at d11 (by simp);have fT:=dT.grown BE;have fK:Ai F W1 wE:=dK.trans KE (λ x _ h=>h.elim);have sE:=BE.size;refine⟨Dw f4,by simp [World.cell?,f11],Dw f3,(SH.start (λ _=>False) wE).An λ hJ wO kx BO SO=>?_⟩;have KO:=Ai.AA (F:=λ _=>False) BO;have sO:=BO.size;have o3:=KO.at f3 (by simp);have o4:=KO.at f4 (by simp);have oL:=KO.at fL (by simp);have o27:wO.heap[s3]?=some (.cells #[.string ls[q].2.2] ty.string (0,0)):=KO.at (SE.get 0 rfl) (by simp);have oK:Ai F W1 wO:=fK.trans KO (λ x _ h=>h.elim);refine⟨Dw o4,Dw o3,(fT.grown BO).Ah0 (by omega) (by omega) (SO.get 0 rfl) λ aN cN wN hN KN=>⟨_,_,_,rfl,Dw (KN.at o4 (cX l4)),?_⟩⟩;have n27:¬ AD na=some s3:=λ h=>by have:=hT.rn.lt h;omega
   have sN:=KN.size;refine hN.AhO (by omega) (by omega) (KN.at o27 n27) λ aS cS wS hS KS=>⟨_,_,_,rfl,?_⟩;exact fin wS aN cN aS cS ((oK.trans KN (λ x hx h=>absurd h (cX hx))).trans KS (λ x hx h=>absurd h (dH hx))) (KS.at (KN.at oL (cX lL)) (dH lL)) (KS.at (KN.at o3 (cX l3)) (dH l3)) (KS.at (KN.at o4 (cX l4)) (dH l4)) hS)
  ⟨.refl _ _,gf,none,0,none,0,dz.at (S9.get 1 rfl) (by simp),dz.at (S9.get 0 rfl) (by simp),Wq.nil _ _⟩ hI
 refine bA.mono ?_;rintro _ an ⟨_,rfl,jD,dJ,na,nc,sa,sc,g3,g4,hT⟩;rw [List.take_length] at g3 g4 hT;refine⟨⟨_,rfl⟩,none,by rw [IU aA dR];exact dJ,rfl,?_⟩;obtain⟨ah,hw15⟩:∃ ah,ah=an.putObj L (.loop { rr with state:=.exhausted,pending:=none }):=⟨_,rfl⟩;rw [<- hw15];have gL:Ai (λ k=>k=L) an ah:=by rw [hw15];exact AP _ _ _
 have KF:=jD.trans gL (λ x _ h=>.inr (.inr h));have lj:=gL.at g3 (show ¬ b3=L by omega);have yY:=gL.at g4 (show ¬ b4=L by omega);have oo:=hT.keeps gL (λ x hx=>.inl (by omega));have gI:ah.heap[w9.heap.size]?=some (.deferred (some [])):=KF.at ku (by show ¬ (w9.heap.size=b3\/w9.heap.size=b4\/w9.heap.size=L);omega);have dq:=low KF;have iK:(BA ls).length<=9223372036854775807:=by have:=Gj ls;omega
 have pL:(CS ls).length<=4096:=by have:=Jk ls;omega
 have s15:=KF.size;have pF:∀ {wz:World} {b:List UInt8} {az:Option Addr} {cz:Nat},Bn ah wz b az cz->wz.heap[w9.heap.size]?=some (.deferred (some []))/\Bn w (wz.putObj w9.heap.size (.deferred none)) b az cz:=by
  intro wz b az cz hN;have KP:=AP wz w9.heap.size (.deferred none);have hB:=Ac dq hN.Ar;refine⟨(Ai.AA (F:=λ _=>False) hN.Ar).at gI (by simp),hN.row.keeps KP λ x hx he=>by have:=hN.new x hx;omega,λ k hk=>by have:=hN.new k hk;omega,hB.trans (KP.below hB.size λ k hk he=>by omega)⟩
 refine Ao (λ h3=>⟨_,_,_,Dw yY,?_⟩) (λ h3=>⟨_,_,_,Dw lj,?_⟩)
 ·refine (XS oo.rs.rd iK).mono ?_;rintro _ eA ⟨_,rfl,hB,fW⟩;rcases hB with ⟨aP,_⟩ | ⟨b0,b1,h0,h1,_,rfl⟩
  ·exact absurd (hg.enc 0 (by omega)) aP
  refine⟨_,_,rfl,_,_,_,Dw ((Ai.AA (F:=λ _=>False) fW).at yY (by simp)),?_⟩;have hf:0<=(if b1.length<b0.length then (1:Int) else 0)/\(if b1.length<b0.length then (1:Int) else 0)<=1:=by split <;> omega
  refine (FL _ (oo.rs.rd.grown fW) iK).mono ?_;rintro _ kB ⟨_,rfl,hE⟩;rcases hE with ⟨aP,_⟩ | ⟨_,b,az,cz,hE,rfl,hN⟩
  ·exact absurd (hg.enc _ hf) aP
  obtain⟨q1,q2⟩:=pF (hN.before fW);refine⟨_,_,_,_,rfl,q1,b,az,cz,rfl,?_,q2⟩;have:=D7.text (kind:=kind) (ls:=ls) h3 b0 b1 h0 h1;split at hE
  ·rename_i aB;rw [if_pos aB] at this;rw [hE.one h1];exact this
  ·rename_i aB;rw [if_neg aB] at this;rw [hE.one h0];exact this
 ·refine (YU oo.rn.rd oo.rn.le pL hg.AeF).mono ?_;rintro _ eA ⟨_,rfl,rfl,fW⟩;refine⟨_,_,rfl,_,_,_,Dw ((Ai.AA (F:=λ _=>False) fW).at lj (by simp)),(H5 _ (oo.rn.rd.grown fW) oo.rn.le hg.AeF).mono ?_⟩;rintro _ kB ⟨_,rfl,hE⟩;obtain⟨az,cz,rfl,hN⟩:=J8.D1 (PM _) pL hE;obtain⟨q1,q2⟩:=pF (hN.before fW);exact⟨_,_,_,_,rfl,q1,_,az,cz,rfl,.num h3,q2⟩
end
theorem Ajs(r:BitVec 32):Int.tmod (r.toNat:Int) 2=if r.getLsbD 0 then 1 else 0:=by
 rw [Int.tmod_eq_emod_of_nonneg (by omega)];have h:r.getLsbD 0=decide (r.toNat % 2=1):=by
  simp [BitVec.getLsbD,Nat.testBit_zero]
 rw [h];by_cases hh:r.toNat % 2=1 <;> simp [hh] <;> omega
theorem AjJ(r:BitVec 32):Int.tdiv (r.toNat:Int) 2=((r >>> 1).toNat:Int):=by
 rw [Int.tdiv_eq_ediv_of_nonneg (by omega),BitVec.toNat_ushiftRight,Nat.shiftRight_eq_div_pow]
 norm_cast
theorem YH{w:World}{a:Option Addr}{c:Nat}(l:List UInt8)(hb:Rd w a (l.map Ag))(hl:l.length<9223372036854775807) :
  Calls Tryz.prog f.Aep #[.slice a l.length c] w (AG λ v w'=>v=.int .u32 ((crc l).toNat:Int)/\w'=w):=by
 apply R.Tf
 delta R.Ad R.F R.I R.Ly R.Qvi R.V R.W R.Wv R.X;try dsimp only [R.Ps]
 refine⟨λ s w2=>match s with
   | [.int _ r,.int _ i]=>w2=w/\∃ j:Nat,i=j/\j<=l.length/\r=((CY 4294967295#32 (l.take j)).toNat:Int)
   | _=>False,
  λ s _=>match s with
   | [_,.int _ i]=>l.length-i.toNat
   | _=>0,⟨rfl,0,rfl,Nat.zero_le _,by simp [CY]⟩,?_⟩
 rintro r i w2 ⟨rfl,j,rfl,hj,rfl⟩;refine Aa (λ ao=>?_) (λ cB=>?_)
 ·have fV:j<l.length:=by omega
  refine⟨⟨by omega,by omega⟩,?_⟩;obtain⟨p2,rfl,cG⟩:=hb j (Ag l[j]) (by simp [fV]);have qq:=Is l j fV 4294967295#32;generalize zH:CY 4294967295#32 (l.take j)=R2 at qq ⊢;refine⟨(l[j].toNat:Int),by simpa [Ag] using cG,?_⟩;have h0:(IntKind.u32.wrap (((BitVec.ofInt 32 (R2.toNat:Int) ^^^ BitVec.ofInt 32 (IntKind.u32.wrap ((l[j].toNat:Int)))).toNat:Int)))=((R2 ^^^ NZ l[j]).toNat:Int):=by
   rw [Cw,Bo,Bq,BitVec.ofInt_natCast];rfl
  rw [h0];refine⟨λ s w3=>match s with
    | [.int _ r,.int _ i]=>w3=w2/\∃ m:Nat,i=m/\m<=8/\r=((ED m (R2 ^^^ NZ l[j])).toNat:Int)
    | _=>False,
   λ s _=>match s with
    | [_,.int _ i]=>8-i.toNat
    | _=>0,⟨rfl,0,rfl,Nat.zero_le _,by simp [ED]⟩,?_⟩
  rintro r i w3 ⟨rfl,m,rfl,hm,rfl⟩;refine Aa (λ vl=>?_) (λ pj=>?_)
  ·have aA:=IJ m (R2 ^^^ NZ l[j]);generalize ED m (R2 ^^^ NZ l[j])=q at aA ⊢;simp only [Ajs,AjJ,Bq];rw [Ae (by omega)];cases hh:q.getLsbD 0 with
   | true =>
    refine CQ ?_;rw [Bo];refine⟨⟨trivial,m+1,rfl,by omega,?_⟩,?_⟩
    ·rw [aA,VI,hh];rfl
    ·simp only [Ak4];omega
   | false =>
    refine AV ?_;refine⟨⟨trivial,m+1,rfl,by omega,?_⟩,?_⟩
    ·rw [aA,VI,hh];simp
    ·simp only [Ak4];omega
  ·have:m=8:=by omega
   subst this;rw [Ae (by omega)];refine⟨⟨rfl,j+1,rfl,by omega,by rw [qq];rfl⟩,?_⟩;simp only [Ak4];omega
 ·have:j=l.length:=by omega
  subst this;refine⟨?_,rfl⟩;rw [List.take_length,Bo,Bq,BitVec.xor_comm];rfl
theorem O7(x:BitVec 32)(w:World)(b:Nat)(t:TypeId)(hb:w.heap[b]?=some (.cells #[.int .u8 (IntKind.u8.wrap (x.toNat:Int)),.int .u8 (IntKind.u8.wrap ((Int.fdiv (x.toNat:Int) (2 ^ (min 8 32))))),.int .u8 (IntKind.u8.wrap ((Int.fdiv (x.toNat:Int) (2 ^ (min 16 32))))),.int .u8 (IntKind.u8.wrap ((Int.fdiv (x.toNat:Int) (2 ^ (min 24 32)))))] t (0,0))) :
  Rd w (some ⟨b,0,none⟩) ((UX x).map Ag):=by
 have:=Rd.Ak hb;rw [ZY,Oe,Oe,Oe] at this;exact this
def FB(kind:Int)(ls:List AB):List UInt8:=[Ak9 kind.toNat]++Af ls.length++Af (As ls)
def DM(ls:List AB):List UInt8:=if 0<As ls/\As ls<ls.length then A5 (A3 ls) 1 else []
structure Ld(kind:Int)(ls:List AB)(b:List UInt8):Prop where
 ex:∃ o,(As ls<ls.length->D7 kind ls o)/\(¬ As ls<ls.length->o=[])/\b=(FB kind ls++DM ls++o)++UX (crc (FB kind ls++DM ls++o))
theorem Ld.one{kind:Int}{ls:List AB}{b c:List UInt8}(h:Ld kind ls b)(h':Ld kind ls c):b=c:=by
 obtain⟨o,h1,h2,rfl⟩:=h.ex;obtain⟨o',k1,k2,rfl⟩:=h'.ex;have:o=o':=by
  by_cases hn:As ls<ls.length
  ·exact (h1 hn).one (k1 hn)
  ·rw [h2 hn,k2 hn]
 rw [this]
def ChV(kind:Int)(ls:List AB)(w w':World)(r:Value):Prop :=
 (DP kind ls=false/\r=.tuple #[.slice none 0 0,.int .i64 2]/\Below w.heap.size w w')\/(DP kind ls=true/\∃ b a c,Ld kind ls b/\r=.tuple #[.slice a b.length c,.int .i64 0]/\Bn w w' b a c)
theorem QZ{kind:Int}{ls:List AB}(hg:Bc kind ls):(FB kind ls).length<=21:=by
 have h1:=Al (n:=ls.length) (by have:=hg.len;omega);have h2:=Al (n:=As ls) (by have:=hg.len;have:=Dc ls;omega);simp only [FB,Ak1,Ak3,Amf];omega
theorem I2{kind:Int}{ls:List AB}(hg:Bc kind ls):(DM ls).length<=200:=by
 have:=hg.len;unfold DM;split
 ·rw [BS];unfold Dv;have:(A3 ls).length=ls.length:=by simp [A3]
  rw [this];omega
 ·simp
theorem T1(ls:List AB):∀ x∈A3 ls,x<2 ^ 1:=by
 intro x hx;obtain⟨v,_,rfl⟩:=AkK.1 hx;split <;> omega
section
variable {w:World}{a:Option Addr}{c:Nat}{ls:List AB}
theorem Kb(kind:Int)(hl:Rd w a (AO ls))(hn:ls.length<=9223372036854775807)(hv:∀ v∈ls,BN v) :
  Calls Tryz.prog f.YO #[.int .i64 kind,.slice a ls.length c] w (AG λ v w'=>ChV kind ls w w' v):=by
 apply R.NV
 delta R.A R.Ab R.B R.AR R.Cb R.Cs R.Cv R.F R.G R.H R.I R.J R.Ks R.Li R.Lt R.N R.O R.Ae0 R.S R.Am R.T R.U R.W R.Wb R.Wu R.X R.Zb R.Zs;try dsimp only [R.Ps]
 refine (Vi kind hl hn).mono ?_;rintro _ w1 ⟨_,rfl,rfl,B1⟩;refine⟨_,rfl,Au (Ap (λ hr=>?_) (λ hr=>.inl ⟨hr,rfl,B1⟩))⟩;have hg:Bc kind ls:=⟨hr,hv⟩;have hlen:=hg.len;have hk:=hg.kind;have bn:=Dc ls;refine⟨λ s w2=>∃(i:Nat) (ba:Option Addr) (bc:Nat),s=[.slice ba (A3 (ls.take i)).length bc,.int .i64 (As (ls.take i):Int),.int .i64 (i:Int)]/\i<=ls.length/\JR w1 w2 (A3 (ls.take i)) ba bc,λ s _=>match s with
   | [_,_,.int _ i]=>ls.length-i.toNat
   | _=>0,⟨0,none,0,rfl,by omega,JR.nil w1⟩,?_⟩
 rintro ba _ bc _ _ w2 ⟨i,_,_,aA,hi,h2⟩;cases aA;have C2:=Ac B1 h2.Ar;refine Aa (λ aB=>⟨⟨by omega,aB⟩,?_⟩) (λ aJ=>?_)
 ·have aD:i<ls.length:=by omega
  obtain⟨p,rfl,c0,c1,c2⟩:=De (hl.grown C2) aD;have au:(A3 (ls.take i)).length<=1024:=by simp [A3];omega
  have lA:=Dc (ls.take i);rw [AlX] at lA;have cL:ls.length-((i+1:Nat):Int).toNat<ls.length-((i:Nat):Int).toNat:=by
   simp only [Ak4];omega
  refine⟨_,by rw [Ak4];exact c0,_,by rw [Ak4];exact c1,_,by rw [Ak4];exact c2,(SH.start (λ _=>False) w2).Iz λ tu w6 mg B6 S6=>⟨_,S6.cell 0 rfl rfl,?_⟩⟩;rw [Ae (by omega),Ae (by omega)];refine Ao (λ hz=>?_) (λ hz=>?_)
  ·refine S6.An λ kC w7 mI B7 S7=>EA ((h2.grown B6).grown B7) (by omega) (x:=1) rfl (S7.get 0 rfl) λ a8 c8 w8 h8=>⟨_,_,_,rfl,⟨i+1,a8,c8,?_,by omega,?_⟩,cL⟩
   ·rw [FC aD,EH aD,if_pos hz]
   ·rw [EH aD,if_pos hz];exact h8
  ·refine S6.An λ kC w7 mI B7 S7=>EA ((h2.grown B6).grown B7) (by omega) (x:=0) rfl (S7.get 0 rfl) λ a8 c8 w8 h8=>⟨_,_,_,rfl,⟨i+1,a8,c8,?_,by omega,?_⟩,cL⟩
   ·rw [FC aD,EH aD,if_neg hz];rfl
   ·rw [EH aD,if_neg hz];exact h8
 have bG:ls.take i=ls:=AlA (by omega);rw [bG] at h2 ⊢;have au:(A3 ls).length=ls.length:=by simp [A3]
 rw [AE (by omega) (by omega)];refine (SH.start (λ _=>False) w2).An λ eh aX jQ cF bF=>?_;have jJ:=Ac C2 cF;have mD:Rd aX (some ⟨eh,0,none⟩) ([Ak9 kind.toNat].map Ag):=by
  have:=Rd.Ak (bF.get 0 rfl);have e:Value.int .u8 kind=Ag (Ak9 kind.toNat):=by
   have:=CA (x:=kind.toNat) (by omega);rw [<- this];congr 1;omega
  simpa [e] using this
 rw [Aj (by omega) (by omega)];refine (Bf (c:=1) [Ak9 kind.toNat] mD ls.length (by omega) (by simp)).mono ?_;rintro _ bJ ⟨_,rfl,a12,oI,rfl,f'⟩;have d1:=Al (n:=ls.length) (by omega);rw [Aj (by omega) (by omega)];refine⟨_,_,_,rfl,(Bf _ f'.rd (As ls) (by omega) (by simp;omega)).mono ?_⟩;rintro _ aj ⟨_,rfl,m8,oF,rfl,jv⟩;have o6:=Ac jJ f'.Ar;have dr:=jv.before o6;have eH:[Ak9 kind.toNat]++Af ls.length++Af (As ls)=FB kind ls:=rfl;rw [eH] at dr ⊢;have kJ:=QZ hg;have lK:=I2 hg;refine⟨_,_,_,rfl,λ s cP=>∃(b:List UInt8) (ab:Option Addr) (cb:Nat),s=[.slice ab b.length cb]/\b=FB kind ls++DM ls/\Bn w cP b ab cb,?_,?_⟩
 ·refine⟨λ s an=>∃ t:Bool,s=[.bool t]/\an=aj/\(t=true↔0<As ls/\As ls<ls.length),?_,?_⟩
  ·refine Aa (λ h=>⟨_,rfl,rfl,by simp;omega⟩) (λ h=>⟨_,rfl,rfl,by simp;omega⟩)
  rintro _ an ⟨t,aA,rfl,ht⟩;cases aA;refine Ap (λ h=>?_) (λ h=>?_)
  ·have bV:=ht.1 h;have cr:Rd an ba ((A3 ls).map ES):=((h2.row.rd.grown cF).grown f'.Ar).grown jv.Ar;refine (Jo (wd:=1) cr (by omega) (by omega) (T1 ls)).mono ?_;rintro _ ah ⟨_,rfl,a15,zJ,rfl,eY⟩;have bL:(A5 (A3 ls) 1).length<=200:=by
    have:=I2 hg;unfold DM at this;rwa [if_pos bV] at this
   refine⟨_,_,_,_,rfl,A8 (dr.grown eY.Ar).row eY.rd (by omega) λ kf kV cf ln jz mf=>⟨_,_,_,rfl,_,kf,kV,rfl,?_,dr.Br eY.Ar ln jz mf⟩⟩;unfold DM;rw [if_pos bV]
  ·have bV:¬ (0<As ls/\As ls<ls.length):=λ hh=>by rw [ht.2 hh] at h;cases h
   refine⟨_,m8,oF,rfl,?_,dr⟩;unfold DM;rw [if_neg bV,Al2]
 rintro ab _ cb cP ⟨b,_,_,aA,hb,fU⟩;cases aA;have je:b.length<=221:=by rw [hb,Ak1];omega
 refine⟨λ s eo=>∃(o b2:List UInt8) (ab:Option Addr) (cb:Nat),s=[.slice ab b2.length cb]/\b2=b++o/\o.length<=2000000/\(As ls<ls.length->D7 kind ls o)/\(¬ As ls<ls.length->o=[])/\Bn w eo b2 ab cb,?_,?_⟩
 ·refine Aa (λ h=>?_) (λ h=>⟨[],b,ab,cb,rfl,by simp,by simp,λ hh=>absurd hh (by omega),λ _=>rfl,fU⟩);refine (QM hg (hl.grown fU.Ar)).mono ?_;rintro _ eK ⟨_,rfl,o,tp,tJ,rfl,hO,gY⟩;have cE:=hO.len hg;refine⟨_,_,_,rfl,A8 (fU.grown gY.Ar).row gY.rd (by omega) λ uY tv ff u' uZ wH=>⟨_,_,_,rfl,o,_,uY,tv,rfl,rfl,cE,λ _=>hO,λ hh=>absurd (by omega) hh,fU.Br gY.Ar u' uZ wH⟩⟩
 rintro wU _ uv eo ⟨o,b2,_,_,aA,dC,cE,mF,iE,ij⟩;cases aA;have sX:b2.length<=2000221:=by rw [dC,Ak1];omega
 refine (SH.start (λ _=>False) eo).An λ b41 gp hb41 k7 oU=>?_;have hS:=Aas (w:=gp) (a:=some ⟨b41,0,none⟩) (c:=1) [(wU,uv,b2)] (by
  have:=Rd.Ak (oU.get 0 rfl);simpa [BZ] using this) (by
  intro p hp;rw [AlZ.1 hp];exact ij.rd.grown k7) (by simp) (by
  intro p hp;rw [AlZ.1 hp];simp only;omega)
 refine hS.mono ?_;rintro _ iM ⟨_,rfl,rfl,rfl⟩;have ef:([(wU,uv,b2)]:List DY).flatMap (·.2.2)=b2:=by simp
 rw [ef];refine⟨_,rfl,(SH.start (λ _=>False) iM).An λ wM gW tq iy mC=>?_⟩;have hR:=O7 (crc b2) gW wM _ (mC.get 0 rfl);have wm:=(ij.grown k7).grown iy;refine A8 (m:=UX (crc b2)) wm.row hR (by simp [UX];omega) λ a24 oe fJ tg wF uq=>⟨_,_,_,rfl,.inr ⟨hr,_,a24,oe,⟨o,mF,iE,?_⟩,rfl,ij.Br (Ac k7 iy) tg wF uq⟩⟩;rw [dC,hb]
theorem J9(kind:Int)(hl:Rd w a (AO ls))(hn:ls.length<=9223372036854775807)(hv:∀ v∈ls,BN v) :
  Calls Tryz.prog f.XP #[.int .i64 kind,.slice a ls.length c] w (AG λ v w'=>ChV kind ls w w' v):=by
 apply R.Oh
 delta R.B R.AR R.Cb R.Ci R.Cs R.Cv R.F R.G R.H R.I R.J R.Ks R.Li R.N R.O R.ER R.S R.U R.W R.Wb R.Wu R.X R.Zb R.Zs;try dsimp only [R.Ps]
 refine (Vx kind hl hn).mono ?_;rintro _ w1 ⟨_,rfl,rfl,B1⟩;refine⟨_,rfl,Au (Ap (λ hr=>?_) (λ hr=>.inl ⟨hr,rfl,B1⟩))⟩;have hg:Bc kind ls:=⟨hr,hv⟩;have hlen:=hg.len;have hk:=hg.kind;have bn:=Dc ls;refine (UJ (hl.grown B1) (by omega)).mono ?_;rintro _ w2 ⟨_,rfl,rfl,rfl⟩;have au:(A3 ls).length=ls.length:=by simp [A3]
 rw [AE (by omega) (by omega)];refine⟨_,rfl,(SH.start (λ _=>False) w2).An λ eh aX jQ cF bF=>?_⟩;have jJ:=Ac B1 cF;have mD:Rd aX (some ⟨eh,0,none⟩) ([Ak9 kind.toNat].map Ag):=by
  have:=Rd.Ak (bF.get 0 rfl);have e:Value.int .u8 kind=Ag (Ak9 kind.toNat):=by
   have:=CA (x:=kind.toNat) (by omega);rw [<- this];congr 1;omega
  simpa [e] using this
 rw [Aj (by omega) (by omega)];refine (Bi (c:=1) [Ak9 kind.toNat] mD ls.length (by omega) (by simp)).mono ?_;rintro _ bJ ⟨_,rfl,a12,oI,rfl,f'⟩;have d1:=Al (n:=ls.length) (by omega);rw [Aj (by omega) (by omega)];refine⟨_,_,_,rfl,(Bi _ f'.rd (As ls) (by omega) (by simp;omega)).mono ?_⟩;rintro _ aj ⟨_,rfl,m8,oF,rfl,jv⟩;have o6:=Ac jJ f'.Ar;have dr:=jv.before o6;have eH:[Ak9 kind.toNat]++Af ls.length++Af (As ls)=FB kind ls:=rfl;rw [eH] at dr ⊢;have kJ:=QZ hg;have lK:=I2 hg;refine⟨_,_,_,rfl,λ s cP=>∃(b:List UInt8) (ab:Option Addr) (cb:Nat),s=[.slice ab b.length cb]/\b=FB kind ls++DM ls/\Bn w cP b ab cb,?_,?_⟩
 ·refine⟨λ s an=>∃ t:Bool,s=[.bool t]/\an=aj/\(t=true↔0<As ls/\As ls<ls.length),?_,?_⟩
  ·refine Aa (λ h=>⟨_,rfl,rfl,by simp;omega⟩) (λ h=>⟨_,rfl,rfl,by simp;omega⟩)
  rintro _ an ⟨t,aA,rfl,ht⟩;cases aA;refine Ap (λ h=>?_) (λ h=>?_)
  ·have bV:=ht.1 h;have bL:(A5 (A3 ls) 1).length<=200:=by
    have:=I2 hg;unfold DM at this;rwa [if_pos bV] at this
   refine⟨λ s w2=>∃(i:Nat) (ba:Option Addr) (bc:Nat),s=[.slice ba (A3 (ls.take i)).length bc,.int .i64 (i:Int)]/\i<=ls.length/\JR an w2 (A3 (ls.take i)) ba bc,λ s _=>match s with
     | [_,.int _ i]=>ls.length-i.toNat
     | _=>0,⟨0,none,0,rfl,by omega,JR.nil an⟩,?_⟩
   rintro ba _ bc _ w7 ⟨i,_,_,aA,hi,h2⟩;cases aA;have C2:=Ac dr.Ar h2.Ar;refine Aa (λ aB=>⟨⟨by omega,aB⟩,?_⟩) (λ aJ=>?_)
   ·have aD:i<ls.length:=by omega
    obtain⟨p,rfl,c0,c1,c2⟩:=De (hl.grown C2) aD;have au:(A3 (ls.take i)).length<=1024:=by simp [A3];omega
    have cL:ls.length-((i+1:Nat):Int).toNat<ls.length-((i:Nat):Int).toNat:=by
     simp only [Ak4];omega
    refine⟨_,by rw [Ak4];exact c0,?_⟩;rw [Ae (by omega)];refine Ao (λ hz=>?_) (λ hz=>?_)
    ·refine (SH.start (λ _=>False) w7).An λ kC w8 mI B7 S7=>EA (h2.grown B7) (by omega) (x:=1) rfl (S7.get 0 rfl) λ a8 c8 w8 h8=>⟨_,_,_,rfl,⟨i+1,a8,c8,?_,by omega,?_⟩,cL⟩
     ·rw [EH aD,if_pos hz]
     ·rw [EH aD,if_pos hz];exact h8
    ·refine (SH.start (λ _=>False) w7).An λ kC w8 mI B7 S7=>EA (h2.grown B7) (by omega) (x:=0) rfl (S7.get 0 rfl) λ a8 c8 w8 h8=>⟨_,_,_,rfl,⟨i+1,a8,c8,?_,by omega,?_⟩,cL⟩
     ·rw [EH aD,if_neg hz]
     ·rw [EH aD,if_neg hz];exact h8
   have bG:ls.take i=ls:=AlA (by omega);rw [bG] at h2 ⊢;refine (Ii (wd:=1) h2.row.rd (by omega) (by omega) (T1 ls)).mono ?_;rintro _ ah ⟨_,rfl,a15,zJ,rfl,eY⟩;refine⟨_,_,_,_,rfl,A8 (dr.grown (Ac h2.Ar eY.Ar)).row eY.rd (by omega) λ kf kV cf ln jz mf=>⟨_,_,_,rfl,_,kf,kV,rfl,?_,dr.Br (Ac h2.Ar eY.Ar) ln jz mf⟩⟩;unfold DM;rw [if_pos bV]
  ·have bV:¬ (0<As ls/\As ls<ls.length):=λ hh=>by rw [ht.2 hh] at h;cases h
   refine⟨_,m8,oF,rfl,?_,dr⟩;unfold DM;rw [if_neg bV,Al2]
 rintro ab _ cb cP ⟨b,_,_,aA,hb,fU⟩;cases aA;have je:b.length<=221:=by rw [hb,Ak1];omega
 refine⟨λ s eo=>∃(o b2:List UInt8) (ab:Option Addr) (cb:Nat),s=[.slice ab b2.length cb]/\b2=b++o/\o.length<=2000000/\(As ls<ls.length->D7 kind ls o)/\(¬ As ls<ls.length->o=[])/\Bn w eo b2 ab cb,?_,?_⟩
 ·refine Aa (λ h=>?_) (λ h=>⟨[],b,ab,cb,rfl,by simp,by simp,λ hh=>absurd hh (by omega),λ _=>rfl,fU⟩);refine (Tz hg (hl.grown fU.Ar)).mono ?_;rintro _ eK ⟨_,rfl,o,tp,tJ,rfl,hO,gY⟩;have cE:=hO.len hg;refine⟨_,_,_,rfl,A8 (fU.grown gY.Ar).row gY.rd (by omega) λ uY tv ff u' uZ wH=>⟨_,_,_,rfl,o,_,uY,tv,rfl,rfl,cE,λ _=>hO,λ hh=>absurd (by omega) hh,fU.Br gY.Ar u' uZ wH⟩⟩
 rintro wU _ uv eo ⟨o,b2,_,_,aA,dC,cE,mF,iE,ij⟩;cases aA;have sX:b2.length<=2000221:=by rw [dC,Ak1];omega
 refine (YH b2 ij.rd (by omega)).mono ?_;rintro _ iM ⟨_,rfl,rfl,rfl⟩;refine⟨_,rfl,(SH.start (λ _=>False) iM).An λ wM gW tq iy mC=>?_⟩;have hR:=O7 (crc b2) gW wM _ (mC.get 0 rfl);have wm:=ij.grown iy;refine A8 (m:=UX (crc b2)) wm.row hR (by simp [UX];omega) λ a24 oe fJ tg wF uq=>⟨_,_,_,rfl,.inr ⟨hr,_,a24,oe,⟨o,mF,iE,?_⟩,rfl,ij.Br iy tg wF uq⟩⟩;rw [dC,hb]
end
theorem ZO{v:AB}(h1 : -10<=v.2.1)(h2:v.2.1<=10):BN v:=⟨by omega,by omega⟩
theorem ChV.open{kind:Int}{ls:List AB}{w w':World}{r:Value}(h:ChV kind ls w w' r):∃(bs:List UInt8) (a:Option Addr) (c:Nat) (e:Int),r=.tuple #[.slice a bs.length c,.int .i64 e]/\Rd w' a (bs.map Ag)/\Below w.heap.size w w'/\((DP kind ls=true/\Ld kind ls bs/\e=0)\/(DP kind ls=false/\bs=[]/\e=2)):=by
 rcases h with ⟨h1,rfl,hb⟩ | ⟨h1,b,a,c,h2,rfl,h3⟩
 ·exact⟨[],none,0,2,rfl,Rd.nil _ _,hb,.inr ⟨h1,rfl,rfl⟩⟩
 ·exact⟨b,a,c,0,rfl,h3.rd,h3.Ar,.inl ⟨h1,h2,rfl⟩⟩
theorem Gp{n:Int}:CC (D4 n)=n:=by unfold CC D4;split <;> split <;> omega
theorem Ph:enters Tryz.prog f.IW=true:=by kernel_rfl
theorem AaQ{x:Nat × Nat}:LX (some x)=.tuple #[.int .u64 (x.1:Int),.int .i64 (x.2:Int),.int .i64 0]:=rfl
theorem WT{many:Nat}{ts:List (List UInt8)}{xs:List Nat}{i:Nat}(hi:i<xs.length):(xs.take (i+1)).map (λ p=>ts.getD p [])=(xs.take i).map (λ p=>ts.getD p [])++[ts.getD xs[i] []]:=by
 rw [AlW hi,Alk];rfl
theorem J3{w:World}{a:Option Addr}{c q:Nat}{l:List UInt8}(hl:Rd w a (l.map Ag))(hc:l.length<=c):Rd w (Ck a q c 1) ((l.drop q).map Ag):=by
 have h:=hl.OV q l.length c 1 hc;rw [Nat.mul_one,Nat.mul_one,<- List.map_drop] at h;have e:((l.drop q).map Ag).take (l.length-q)=(l.drop q).map Ag:=AlA (by simp);rwa [e] at h
section
variable {w:World}{a:Option Addr}{c:Nat}{l:List UInt8}
theorem YV(hl:Rd w a (l.map Ag))(hc:l.length<=c)(hs:l.length<=9223372036854775807){n:Nat}(hn:n<=4096) :
  Calls Tryz.prog f.VG #[.slice a l.length c,.int .i64 (n:Int)] w (AG λ v w'=>∃(ms:List (List UInt8)) (a':Option Addr) (c':Nat) (ok:Bool),v=.tuple #[.slice a' ms.length c',.bool ok]/\Rd w' a' (strs ms)/\Below w.heap.size w w' /\
   ((ok=false/\BT l n=none)\/(ok=true/\BT l n=some ms))):=by
 apply R.KZ
 delta R.Ad R.AR R.Bz R.Cf R.D R.F R.G R.H R.I R.J R.Ks R.Lt R.Lu R.Ly R.N R.O R.ER R.S R.T R.U R.W R.Wu R.X R.Y;try dsimp only [R.Ps]
 have bad:∀ {w':World},Below w.heap.size w w'->BT l n=none->∃(ms:List (List UInt8)) (a':Option Addr) (c':Nat) (ok:Bool),(Value.tuple #[.slice none 0 0,.bool false])=.tuple #[.slice a' ms.length c',.bool ok]/\Rd w' a' (strs ms)/\Below w.heap.size w w' /\
   ((ok=false/\BT l n=none)\/(ok=true/\BT l n=some ms)):=λ hb ht=>⟨[],none,0,false,rfl,Rd.nil _ _,hb,.inl ⟨rfl,ht⟩⟩
 refine (AL hl hc hs 1).mono ?_;rintro _ w ⟨_,rfl,rfl,rfl⟩;cases hx:takeN l 1 with
 | none=>exact⟨_,_,_,rfl,Ah (λ _=>bad (.refl _ _) (by simp [BT,hx])) (λ h=>absurd h (by decide))⟩
 | some x =>
 have hxb:=Az (n:=x.1) (k:=x.2) hx;rw [AaQ];rw [Aj (n:=(n:Int)) (by omega) (by omega)];refine⟨_,_,_,rfl,Ah (λ h=>absurd rfl h) (λ _=>Aa (λ h=>bad (.refl _ _) ?_) (λ eD=>?_))⟩
 ·simp only [BT,hx,Aml];rw [if_pos (by omega)]
 have hm:¬ n<x.1:=by omega
 refine (Nt (x.2:Int)).mono ?_;rintro _ w2 ⟨_,rfl,b1,b2,rfl,S2⟩;refine⟨_,_,_,rfl,?_⟩;rw [Ph];refine (Sl (n:=x.1) S2 hl hc hs (by omega)).mono ?_;rintro _ w3 ⟨_,rfl,hM,B3⟩;unfold Nf at hM;cases hy:AN l x.2 x.1 with
 | none =>
  rw [hy] at hM;subst hM;refine⟨_,_,_,_,_,rfl,CQ (bad B3 ?_)⟩;simp only [BT,hx,hy,Aml,Option.bind_none];rw [if_neg hm]
 | some y =>
 rw [hy] at hM;obtain⟨ta,tc,rfl,jU⟩:=hM;have oz:=Hf hy;have sU:=Lg hy (by omega);refine⟨_,_,_,_,_,rfl,AV (Aa (λ h=>bad B3 ?_) (λ aB=>?_))⟩
 ·simp only [BT,hx,hy,Aml];rw [if_neg hm,if_pos (by omega)]
 have hj:y.2<l.length:=by omega
 refine (SH.start (λ _=>False) w3).E9 λ w4 B4 _=>?_;have C4:=Ac B3 B4;rw [wrap_i64 (n:=(y.2:Int)+1) (by omega) (by omega),show ((y.2:Int)+1).toNat=y.2+1 by omega];refine⟨⟨by omega,by omega,by omega⟩,⟨by omega,by omega⟩,?_⟩;have iD:=J3 (q:=y.2+1) (hl.grown C4) hc;obtain⟨p,rfl,aE⟩:=byte_at (hl.grown C4) hj;refine⟨_,by rw [Ak4];exact aE,?_⟩;have vk:=(l[y.2]).toNat_lt;rw [wrap_i64 (n:=(l[y.2].toNat:Int)) (by omega) (by omega),<- Alu (i:=y.2+1) (l:=l)];refine (HS iD (n:Int) (l[y.2].toNat:Int) (by rw [Alu];omega)).mono ?_;rintro _ w5 ⟨_,rfl,xs,xa,xc,e,rfl,gd,B5,ng,aG⟩;have C5:=Ac C4 B5;rw [Ak4,Ak4] at aG;have hg:l.getD y.2 0=l[y.2]:=GM hj;refine⟨_,_,_,_,rfl,?_⟩;have hxs4:xs.length<=4096:=by
  rcases aG with ⟨_,_,rfl,_⟩ | ⟨_,rfl,_⟩
  ·rw [Ce];exact hn
  ·simp
 refine⟨λ s w6=>∃(i:Nat) (oa:Option Addr) (oc:Nat),s=[.slice oa i oc,.int .i64 (i:Int)]/\i<=xs.length/\(∀ p∈xs.take i,p<x.1)/\Row w6 ty.string 1 oa i oc (strs ((xs.take i).map λ p=>y.1.getD p []))/\(∀ k,AD oa=some k->w5.heap.size<=k)/\Below w5.heap.size w5 w6,λ s _=>match s with
   | [_,.int _ i]=>xs.length-i.toNat
   | _=>0,⟨0,none,0,rfl,by omega,by simp,Row.nil _ _ _,by simp [AD],.refl _ _⟩,?_⟩
 rintro oa i oc _ w6 ⟨_,_,_,aA,hi,aF,R6,N6,B6⟩;cases aA;have C6:=Ac C5 B6;refine Aa (λ ao=>⟨⟨by omega,ao⟩,?_⟩) (λ aJ=>?_)
 ·have dI:i<xs.length:=by omega
  obtain⟨p2,rfl,hcx⟩:=G8 (gd.grown B6) dI;refine⟨_,by rw [Ak4];exact hcx,Aa (λ gJ=>?_) (λ dQ=>?_)⟩
  ·rcases aG with ⟨h1,h2,rfl,rfl⟩ | ⟨_,rfl,_⟩
   ·refine bad C6 ?_;simp only [BT,hx,hy,Aml,hg];rw [if_neg hm,if_neg (by omega),if_pos ⟨h1,h2⟩];unfold Zr;rw [if_neg (λ h=>by have:=h _ (AlI dI);omega)]
   ·simp at dI
  ·have o9:xs[i]<x.1:=by omega
   have qD:xs[i]<y.1.length:=by omega
   refine⟨⟨by omega,by omega⟩,?_⟩;have bD:xs[i]<(y.1.map BC).length:=by simpa using qD
   obtain⟨p3,rfl,l8⟩:=E7 (ls:=y.1.map BC) (((jU.grown B4).grown B5).grown B6) bD;refine⟨_,by rw [Ak4];exact l8,(SH.start (λ _=>False) w6).An λ b7 w7 px B7 S7=>?_⟩;have tj:y.1.getD xs[i] []=y.1[xs[i]]:=by simp [qD]
   have aW:Rd w7 (some ⟨b7,0,none⟩) (strs [y.1.getD xs[i] []]):=by
    have:=Rd.Ak (S7.get 0 rfl);rw [tj];simpa [strs] using this
   have el:i=((xs.take i).map λ p=>y.1.getD p []).length:=by simp;omega
   have R7:=R6.grown B7;obtain⟨u,hu⟩:∃ u,u=(xs.take i).map λ p=>y.1.getD p []:=⟨_,rfl⟩;rw [<- hu] at R7 el;have ae:(xs.take (i+1)).map (λ p=>y.1.getD p [])=u++[y.1.getD xs[i] []]:=by rw [hu];exact WT (many:=0) dI
   have j8:=@EF w7 oa oc u [y.1.getD xs[i] []] (by rw [<- el];exact R7) (some ⟨b7,0,none⟩) 1 1 rfl aW (by rw [<- el];simp;omega);rw [<- el] at j8;refine j8 λ a8 c8 w8 R8 K8 N8=>⟨_,_,_,rfl,?_⟩;have sy:(u++[y.1.getD xs[i] []]).length=i+1:=by rw [Ak1,<- el];rfl
   rw [sy] at R8 ⊢;rw [Ae (by omega)];have nA:Below w5.heap.size w5 w7:=B6.trans (B7.mono B6.size);refine⟨⟨i+1,a8,c8,rfl,by omega,?_,by rw [ae];exact R8,λ k hk=>?_,nA.trans (K8.below nA.size λ k hk he=>by have:=N6 k he;omega)⟩,?_⟩
   ·intro q hq;rw [AlW dI] at hq;rcases AlY.1 hq with h | h
    ·exact aF q h
    ·rw [AlZ.1 h];exact o9
   ·rcases N8 k hk with h | h
    ·exact N6 k h
    ·exact Ali nA.size h
   ·simp only [Ak4];omega
 ·have bG:xs.take i=xs:=AlA (by omega);have aD:i=xs.length:=by omega
  rw [bG] at aF R6;have el:(xs.map λ p=>y.1.getD p []).length=i:=by simp [aD]
  refine⟨xs.map λ p=>y.1.getD p [],oa,oc,e==0,by rw [el],R6.rd,C6,?_⟩;rcases aG with ⟨h1,h2,rfl,rfl⟩ | ⟨aP,rfl,he⟩
  ·refine .inr ⟨rfl,?_⟩;simp only [BT,hx,hy,Aml,hg];rw [if_neg hm,if_neg (by omega),if_pos ⟨h1,h2⟩];unfold Zr;rw [if_pos aF]
  ·refine .inl ⟨?_,?_⟩
   ·rw [he];split <;> rfl
   ·simp only [BT,hx,hy,Aml,hg];rw [if_neg hm,if_neg (by omega),if_neg aP]
theorem Afi(hl:Rd w a (l.map Ag))(hc:l.length<=c)(hs:l.length<=9223372036854775807){n:Nat}(hn:n<=4096) :
  Calls Tryz.prog f.Yq #[.slice a l.length c,.int .i64 (n:Int)] w (AG λ v w'=>∃(a':Option Addr) (c':Nat),v=.slice a' ((BT l n).getD []).length c'/\Rd w' a' (strs ((BT l n).getD []))/\Below w.heap.size w w'):=by
 apply R.OB
 delta R.Ad R.AR R.AdS R.Bz R.D R.F R.I R.J R.Ks R.Lt R.Lu R.Ly R.N R.O R.ER R.S R.T R.W R.Wu R.X R.Y;try dsimp only [R.Ps]
 have bad:∀ {w':World},Below w.heap.size w w'->BT l n=none->∃(a':Option Addr) (c':Nat),(Value.slice none 0 0)=.slice a' ((BT l n).getD []).length c'/\Rd w' a' (strs ((BT l n).getD []))/\Below w.heap.size w w':=λ hb ht=>⟨none,0,by rw [ht];rfl,by rw [ht];exact Rd.nil _ _,hb⟩;refine (AJ hl hs 1 (by decide)).mono ?_;rintro _ w ⟨_,rfl,rfl,rfl⟩;cases hx:takeN l 1 with
 | none=>exact⟨_,_,_,rfl,Ah (λ _=>bad (.refl _ _) (by simp [BT,hx])) (λ h=>absurd h (by decide))⟩
 | some x =>
 have hxb:=Az (n:=x.1) (k:=x.2) hx;rw [AaQ];rw [Aj (n:=(n:Int)) (by omega) (by omega)];refine⟨_,_,_,rfl,Ah (λ h=>absurd rfl h) (λ _=>Aa (λ h=>bad (.refl _ _) ?_) (λ eD=>?_))⟩
 ·simp only [BT,hx,Aml];rw [if_pos (by omega)]
 have hm:¬ n<x.1:=by omega
 rw [wrap_i64 (n:=(x.1:Int)) (by omega) (by omega)];refine (Qk (n:=x.1) (at_:=x.2) hl hc hs (by omega) (by omega)).mono ?_;rintro _ w3 ⟨_,rfl,hM,B3⟩;unfold Nf at hM;cases hy:AN l x.2 x.1 with
 | none =>
  rw [hy] at hM;subst hM;refine⟨_,_,_,_,_,rfl,CQ (bad B3 ?_)⟩;simp only [BT,hx,hy,Aml,Option.bind_none];rw [if_neg hm]
 | some y =>
 rw [hy] at hM;obtain⟨ta,tc,rfl,jU⟩:=hM;have oz:=Hf hy;have sU:=Lg hy (by omega);refine⟨_,_,_,_,_,rfl,AV (Aa (λ h=>bad B3 ?_) (λ aB=>?_))⟩
 ·simp only [BT,hx,hy,Aml];rw [if_neg hm,if_pos (by omega)]
 have hj:y.2<l.length:=by omega
 refine (SH.start (λ _=>False) w3).E9 λ w4 B4 _=>?_;have C4:=Ac B3 B4;rw [wrap_i64 (n:=(y.2:Int)+1) (by omega) (by omega),show ((y.2:Int)+1).toNat=y.2+1 by omega];refine⟨⟨by omega,by omega,by omega⟩,⟨by omega,by omega⟩,?_⟩;have iD:=J3 (q:=y.2+1) (hl.grown C4) hc;obtain⟨p,rfl,aE⟩:=byte_at (hl.grown C4) hj;refine⟨_,by rw [Ak4];exact aE,?_⟩;have vk:=(l[y.2]).toNat_lt;rw [wrap_i64 (n:=(l[y.2].toNat:Int)) (by omega) (by omega),<- Alu (i:=y.2+1) (l:=l)];refine (Gu iD (n:Int) (l[y.2].toNat:Int) (by rw [Alu];omega)).mono ?_;rintro _ w5 ⟨_,rfl,xs,xa,xc,e,rfl,gd,B5,ng,aG⟩;have C5:=Ac C4 B5;rw [Ak4,Ak4] at aG;have hg:l.getD y.2 0=l[y.2]:=GM hj;refine⟨_,_,_,_,rfl,?_⟩;rcases aG with ⟨h1,h2,rfl,rfl⟩ | ⟨aP,rfl,he⟩
 case inr =>
  refine Ah (λ _=>bad C5 ?_) (λ h=>by rw [he] at h;split at h <;> cases h);simp only [BT,hx,hy,Aml,hg];rw [if_neg hm,if_neg (by omega),if_neg aP]
 refine Ah (λ h=>absurd rfl h) (λ _=>?_);obtain⟨xs,bN⟩:∃ xs,xs=BI (l.drop (y.2+1)) n l[y.2].toNat:=⟨_,rfl⟩;have ct:xs.length=n:=by rw [bN,Ce]
 have bQ:BT l n=Zr x.1 y.1 xs:=by
  simp only [BT,hx,hy,Aml,hg];rw [if_neg hm,if_neg (by omega),if_pos ⟨h1,h2⟩,bN]
 rw [<- bN] at gd ⊢;refine⟨λ s w6=>∃(i:Nat) (oa:Option Addr) (oc:Nat),s=[.slice oa i oc,.int .i64 (i:Int)]/\i<=xs.length/\(∀ p∈xs.take i,p<x.1)/\Row w6 ty.string 1 oa i oc (strs ((xs.take i).map λ p=>y.1.getD p []))/\(∀ k,AD oa=some k->w5.heap.size<=k)/\Below w5.heap.size w5 w6,λ s _=>match s with
   | [_,.int _ i]=>xs.length-i.toNat
   | _=>0,⟨0,none,0,rfl,by omega,by simp,Row.nil _ _ _,by simp [AD],.refl _ _⟩,?_⟩
 rintro oa i oc _ w6 ⟨_,_,_,aA,hi,aF,R6,N6,B6⟩;cases aA;have C6:=Ac C5 B6;refine Aa (λ ao=>⟨⟨by omega,by omega⟩,?_⟩) (λ aJ=>?_)
 ·have dI:i<xs.length:=by omega
  obtain⟨p2,rfl,hcx⟩:=G8 (gd.grown B6) dI;refine⟨_,by rw [Ak4];exact hcx,Aa (λ gJ=>?_) (λ dQ=>?_)⟩
  ·refine bad C6 ?_;rw [bQ];unfold Zr;rw [if_neg (λ h=>by have:=h _ (AlI dI);omega)]
  ·have o9:xs[i]<x.1:=by omega
   have qD:xs[i]<y.1.length:=by omega
   refine⟨⟨by omega,by omega⟩,_,by rw [Ak4];exact hcx,⟨by omega,by omega⟩,?_⟩;have bD:xs[i]<(y.1.map BC).length:=by simpa using qD
   obtain⟨p3,rfl,l8⟩:=E7 (ls:=y.1.map BC) (((jU.grown B4).grown B5).grown B6) bD;refine⟨_,by rw [Ak4];exact l8,(SH.start (λ _=>False) w6).An λ b7 w7 px B7 S7=>?_⟩;have tj:y.1.getD xs[i] []=y.1[xs[i]]:=by simp [qD]
   have aW:Rd w7 (some ⟨b7,0,none⟩) (strs [y.1.getD xs[i] []]):=by
    have:=Rd.Ak (S7.get 0 rfl);rw [tj];simpa [strs] using this
   have el:i=((xs.take i).map λ p=>y.1.getD p []).length:=by simp;omega
   have R7:=R6.grown B7;obtain⟨u,hu⟩:∃ u,u=(xs.take i).map λ p=>y.1.getD p []:=⟨_,rfl⟩;rw [<- hu] at R7 el;have ae:(xs.take (i+1)).map (λ p=>y.1.getD p [])=u++[y.1.getD xs[i] []]:=by rw [hu];exact WT (many:=0) dI
   have j8:=@EF w7 oa oc u [y.1.getD xs[i] []] (by rw [<- el];exact R7) (some ⟨b7,0,none⟩) 1 1 rfl aW (by rw [<- el];simp;omega);rw [<- el] at j8;refine j8 λ a8 c8 w8 R8 K8 N8=>⟨_,_,_,rfl,?_⟩;have sy:(u++[y.1.getD xs[i] []]).length=i+1:=by rw [Ak1,<- el];rfl
   rw [sy] at R8 ⊢;rw [Ae (by omega)];have nA:Below w5.heap.size w5 w7:=B6.trans (B7.mono B6.size);refine⟨⟨i+1,a8,c8,rfl,by omega,?_,by rw [ae];exact R8,λ k hk=>?_,nA.trans (K8.below nA.size λ k hk he=>by have:=N6 k he;omega)⟩,?_⟩
   ·intro q hq;rw [AlW dI] at hq;rcases AlY.1 hq with h | h
    ·exact aF q h
    ·rw [AlZ.1 h];exact o9
   ·rcases N8 k hk with h | h
    ·exact N6 k h
    ·exact Ali nA.size h
   ·simp only [Ak4];omega
 ·have bG:xs.take i=xs:=AlA (by omega);have aD:i=xs.length:=by omega
  rw [bG] at aF R6;have el:(xs.map λ p=>y.1.getD p []).length=i:=by simp [aD]
  have hv:BT l n=some (xs.map λ p=>y.1.getD p []):=by
   rw [bQ];unfold Zr;rw [if_pos aF]
  rw [hv];exact⟨oa,oc,by rw [Amm,el],R6.rd,C6⟩
end
def Cj(n:Int):Prop:=0<=n/\n<=4096
def KU(l:List UInt8)(n:Int)(w w':World)(v:Value):Prop :=
 ∃(ls:List ByteArray) (a:Option Addr) (c:Nat) (e:Int),v=.tuple #[.slice a ls.length c,.int .i64 e]/\Rd w' a (ls.map Value.string)/\Below w.heap.size w w'/\ls.length<=4096 /\
  ((¬ Cj n/\ls=[]/\e=2)\/(Cj n/\Iv l n.toNat ls/\e=0/\0<l.length)\/(Cj n/\(∀ ms,¬ (Iv l n.toNat ms/\0<l.length))/\ls=[]/\e=70))
theorem KU.bad{l:List UInt8}{n:Int}{w w':World}(hb:Below w.heap.size w w')(hn:Cj n)(h:∀ ms,¬ (Iv l n.toNat ms/\0<l.length)):KU l n w w' (.tuple #[.slice none 0 0,.int .i64 70]) :=
 ⟨[],none,0,70,rfl,Rd.nil _ _,hb,by simp,.inr (.inr ⟨hn,h,rfl,rfl⟩)⟩
theorem KU.arg{l:List UInt8}{n:Int}{w w':World}(hb:Below w.heap.size w w')(hn:¬ Cj n):KU l n w w' (.tuple #[.slice none 0 0,.int .i64 2]) :=
 ⟨[],none,0,2,rfl,Rd.nil _ _,hb,by simp,.inl ⟨hn,rfl,rfl⟩⟩
theorem Iv.head{l:List UInt8}{n:Nat}{ls:List ByteArray}(h:Iv l n ls):(l.getD 0 0).toNat<=1:=by
 have:=h.ok.2.1;omega
section
variable {w:World}{a:Option Addr}{c:Nat}{l:List UInt8}
theorem H4{a2:Option Addr}{c2:Nat}{m:List UInt8}(hl:Rd w a (l.map Ag))(hm:Rd w a2 (m.map Ag)) :
  Calls Tryz.prog f.Aao #[.slice a l.length c,.slice a2 m.length c2] w (AG λ v w'=>w'=w/\v=.bool (decide (l=m))):=by
 apply R.Qv
 delta R.G R.Rt R.S;try dsimp only [R.Ps]
 refine Aw CB rfl hl ⟨_,rfl,Aw CB rfl hm ⟨_,rfl,rfl,?_⟩⟩;rw [AZ];congr 1;rw [decide_eq_decide];exact⟨λ h=>by have:=congrArg bl h;rwa [BP,BP] at this,λ h=>by rw [h]⟩
theorem DH(hl:Rd w a (l.map Ag))(h0:0<l.length):∃ p,a=some p/\w.cell? p=some (.int .u8 ((l.getD 0 0).toNat:Int)):=by
 obtain⟨p,hp,hc⟩:=byte_at hl h0;refine⟨p,hp,?_⟩;rw [Nat.zero_mul,Db] at hc;rw [hc,GM h0]
theorem WG{n:Nat}{ms:List (List UInt8)}(h0:0<l.length){bs:List UInt8}{e:Int}
  (hq:(E4 ((l.getD 0 0).toNat:Int) (ms.map BC)/\F8 (ms.map BC) ((l.getD 0 0).toNat:Int) bs/\e=0)\/(¬ E4 ((l.getD 0 0).toNat:Int) (ms.map BC)/\bs=[]/\e=2)) (hlen:ms.length=n)
  (iS:ms=(Ha l n).getD []):(bs=l->Iv l n (ms.map BC))/\(bs≠l->∀ xs,¬ (Iv l n xs/\0<l.length)):=by
 constructor
 ·rintro rfl;rcases hq with ⟨h1,h2,_⟩ | ⟨_,h2,_⟩
  ·exact⟨by simpa using hlen,h1,h2⟩
  ·subst h2;simp at h0
 ·rintro aQ xs ⟨hx,_⟩;have hr:=hx.reads;rw [hr] at iS;simp only [Amm] at iS;have he:ms.map BC=xs:=by rw [iS,HN]
  rw [he] at hq;rcases hq with ⟨h1,h2,_⟩ | ⟨h1,_⟩
  ·exact aQ (h2.one hx.enc)
  ·exact h1 hx.ok
theorem UA(hl:Rd w a (l.map Ag))(hc:l.length<=c)(hs:l.length<=9223372036854775807)(n:Int) :
  Calls Tryz.prog f.ZG #[.slice a l.length c,.int .i64 n] w (AG λ v w'=>KU l n w w' v):=by
 apply R.P4
 delta R.AbO R.AR R.Cb R.Cf R.F R.G R.H R.I R.Ly R.O R.S R.U R.W R.Wu R.X R.Zb R.Zsb;try dsimp only [R.Ps]
 refine⟨λ s w1=>∃ b:Bool,s=[.bool b]/\w1=w/\(b=true↔¬ Cj n),?_,?_⟩
 ·refine Aa (λ h=>⟨true,rfl,rfl,?_⟩) (λ h=>⟨_,rfl,rfl,?_⟩)
  ·unfold Cj;simp;omega
  ·unfold Cj;simp;omega
 rintro _ w1 ⟨b,aA,rfl,hb⟩;cases aA;refine Ap (λ h=>KU.arg (.refl _ _) (hb.1 h)) (λ h=>?_);have aU:Cj n:=by
  rcases Classical.em (Cj n) with h1 | h1
  ·exact h1
  ·rw [hb.2 h1] at h;cases h
 obtain⟨n,rfl⟩:∃ m:Nat,n=(m:Int):=⟨n.toNat,by have:=aU.1;omega⟩;have hn:n<=4096:=by have:=aU.2;omega
 refine Ao (λ h=>KU.bad (.refl _ _) aU λ ms hm=>by have:=hm.2;omega) (λ aQ=>?_);have h0:0<l.length:=by omega
 obtain⟨p,rfl,aE⟩:=DH hl h0;have bh:=(l.getD 0 0).toNat_lt;refine⟨⟨by omega,by omega⟩,_,aE,Aa (λ h=>KU.bad (.refl _ _) aU λ ms hm=>by have:=hm.1.head;omega) (λ hle=>?_)⟩;refine⟨λ s w5=>∃(ms:List (List UInt8)) (a':Option Addr) (c':Nat) (ok:Bool),s=[.slice a' ms.length c',.bool ok]/\Rd w5 a' (strs ms)/\Below w1.heap.size w1 w5/\((ok=false/\Ha l n=none)\/(ok=true/\Ha l n=some ms)),?_,?_⟩
 ·refine⟨⟨by omega,by omega⟩,_,aE,Ao (λ hz=>?_) (λ hz=>?_)⟩
  ·have dn:l.getD 0 0=0:=UInt8.toNat_inj.1 (by show _=0;omega);refine (Nt (at_:=1)).mono ?_;rintro _ w2 ⟨_,rfl,b1,b2,rfl,S2⟩;refine⟨_,_,_,rfl,?_⟩;rw [Ph,Aj (by omega) (by omega)];refine (Sl (at_:=1) (n:=n) S2 hl hc hs hn).mono ?_;rintro _ w3 ⟨_,rfl,hM,B3⟩;unfold Nf at hM;have hr:Ha l n=(AN l 1 n).map (·.1):=by unfold Ha;rw [if_pos dn]
   cases hy:AN l 1 n with
   | none =>
    rw [hy] at hM hr;subst hM;exact⟨_,_,_,_,_,rfl,[],none,0,false,rfl,Rd.nil _ _,B3,.inl ⟨rfl,hr⟩⟩
   | some y =>
    rw [hy] at hM hr;obtain⟨ta,tc,rfl,jU⟩:=hM;exact⟨_,_,_,_,_,rfl,y.1,ta,tc,true,rfl,jU,B3,.inr ⟨rfl,hr⟩⟩
  ·have dn:¬ l.getD 0 0=0:=λ h=>hz (by rw [h];rfl);refine (YV hl hc hs hn).mono ?_;rintro _ w3 ⟨_,rfl,ms,a',c',ok,rfl,jU,B3,aG⟩;have hr:Ha l n=BT l n:=by unfold Ha;rw [if_neg dn]
   rw [<- hr] at aG;exact⟨_,_,_,_,rfl,ms,a',c',ok,rfl,jU,B3,aG⟩
 rintro a' _ c' _ w5 ⟨ms,_,_,ok,aA,pC,B5,aG⟩;cases aA;rcases aG with ⟨rfl,hr⟩ | ⟨rfl,hr⟩
 ·refine CQ (KU.bad B5 aU ?_);rintro xs ⟨hx,_⟩;rw [Ak4,] at hx;rw [hx.reads] at hr;cases hr
 have hmn:=W7 hr;refine AV ⟨⟨by omega,by omega⟩,?_⟩;obtain⟨p',hp',hcell5⟩:=DH (hl.grown B5) h0;cases hp';refine⟨_,hcell5,?_⟩;rw [wrap_i64 (by omega) (by omega)];have hE:=FL (c:=c') ((l.getD 0 0).toNat:Int) (ls:=ms.map BC) pC (by rw [Alh];omega);rw [Alh] at hE;refine hE.mono ?_;rintro _ w6 ⟨_,rfl,h6⟩;obtain⟨bs,a6,c6,e6,rfl,hR6,B6,q6⟩:=Jn h6;have C6:=Ac B5 B6;refine⟨_,_,_,_,rfl,(H4 hR6 (hl.grown C6)).mono ?_⟩;rintro _ w7 ⟨_,rfl,rfl,rfl⟩;obtain⟨g1,g2⟩:=WG h0 q6 hmn (by rw [hr];rfl);refine⟨_,rfl,Au (Aa (λ he=>?_) (λ he=>KU.bad C6 aU (by rw [Ak4];exact g2 he)))⟩;refine⟨ms.map BC,a',c',0,by rw [Alh],pC.grown B6,C6,by rw [Alh];omega,.inr (.inl ⟨aU,by rw [Ak4];exact g1 he,rfl,h0⟩)⟩
theorem Wa(hl:Rd w a (l.map Ag))(hc:l.length<=c)(hs:l.length<=9223372036854775807)(n:Int) :
  Calls Tryz.prog f.YS #[.slice a l.length c,.int .i64 n] w (AG λ v w'=>KU l n w w' v):=by
 apply R.Oa
 delta R.AR R.AdS R.Cs R.F R.H R.I R.Ly R.O R.Rt R.S R.W R.X R.Zs;try dsimp only [R.Ps]
 refine Aa (λ h=>KU.arg (.refl _ _) (by unfold Cj;omega)) (λ h1=>Aa (λ h=>KU.arg (.refl _ _) (by unfold Cj;omega)) (λ h2=>?_));have aU:Cj n:=⟨by omega,by omega⟩;obtain⟨n,rfl⟩:∃ m:Nat,n=(m:Int):=⟨n.toNat,by omega⟩;have hn:n<=4096:=by omega
 refine Ao (λ h=>KU.bad (.refl _ _) aU λ ms hm=>by have:=hm.2;omega) (λ aQ=>?_);have h0:0<l.length:=by omega
 obtain⟨p,rfl,aE⟩:=DH hl h0;have bh:=(l.getD 0 0).toNat_lt;refine⟨⟨by omega,by omega⟩,_,aE,Aa (λ h=>KU.bad (.refl _ _) aU λ ms hm=>by have:=hm.1.head;omega) (λ hle=>?_)⟩;refine⟨λ s w5=>∃(ms:List (List UInt8)) (a':Option Addr) (c':Nat),s=[.slice a' ms.length c']/\Rd w5 a' (strs ms)/\Below w.heap.size w w5/\ms=(Ha l n).getD [],?_,?_⟩
 ·refine⟨⟨by omega,by omega⟩,_,aE,Ao (λ hz=>?_) (λ hz=>?_)⟩
  ·have dn:l.getD 0 0=0:=UInt8.toNat_inj.1 (by show _=0;omega);refine (Qk (at_:=1) (n:=n) hl hc hs hn (by decide)).mono ?_;rintro _ w3 ⟨_,rfl,hM,B3⟩;unfold Nf at hM;have hr:Ha l n=(AN l 1 n).map (·.1):=by unfold Ha;rw [if_pos dn]
   cases hy:AN l 1 n with
   | none =>
    rw [hy] at hM hr;subst hM;exact⟨_,_,_,_,_,rfl,[],none,0,rfl,Rd.nil _ _,B3,by rw [hr];rfl⟩
   | some y =>
    rw [hy] at hM hr;obtain⟨ta,tc,rfl,jU⟩:=hM;exact⟨_,_,_,_,_,rfl,y.1,ta,tc,rfl,jU,B3,by rw [hr];rfl⟩
  ·have dn:¬ l.getD 0 0=0:=λ h=>hz (by rw [h];rfl);refine (Afi hl hc hs hn).mono ?_;rintro _ w3 ⟨_,rfl,a',c',rfl,jU,B3⟩;have hr:Ha l n=BT l n:=by unfold Ha;rw [if_neg dn]
   exact⟨_,_,_,rfl,_,a',c',rfl,jU,B3,by rw [hr]⟩
 rintro a' _ c' w5 ⟨ms,_,_,aA,pC,B5,iS⟩;cases aA;refine Ah (λ hlen=>KU.bad B5 aU ?_) (λ hlen=>?_)
 ·rintro xs ⟨hx,_⟩;rw [Ak4] at hx;have hr:=hx.reads;have:=W7 hr;rw [hr,Amm] at iS;rw [<- iS] at this;omega
 refine⟨⟨by omega,by omega⟩,?_⟩;obtain⟨p',hp',hcell5⟩:=DH (hl.grown B5) h0;cases hp';refine⟨_,hcell5,?_⟩;rw [wrap_i64 (by omega) (by omega)];have hE:=Gr (c:=c') ((l.getD 0 0).toNat:Int) (ls:=ms.map BC) pC (by rw [Alh];omega);rw [Alh] at hE;refine hE.mono ?_;rintro _ w6 ⟨_,rfl,h6⟩;obtain⟨bs,a6,c6,e6,rfl,hR6,B6,q6⟩:=Jn h6;have C6:=Ac B5 B6;refine⟨_,_,_,_,rfl,Aw CB rfl hR6 ⟨_,rfl,Aw CB rfl (hl.grown C6) ⟨_,rfl,?_⟩⟩⟩;rw [AZ];obtain⟨g1,g2⟩:=WG h0 q6 (n:=n) (by omega) iS;refine Au (Aa (λ he=>?_) (λ he=>KU.bad C6 aU (by rw [Ak4];exact g2 (λ h=>he (by rw [h])))));have jj:bs=l:=by have:=congrArg bl he;rwa [BP,BP] at this
 refine⟨ms.map BC,a',c',0,by rw [Alh],pC.grown B6,C6,by rw [Alh];omega,.inr (.inl ⟨aU,by rw [Ak4];exact g1 jj,rfl,h0⟩)⟩
end
structure FI(w w':World)(xs:List Int)(a:Option Addr)(c:Nat):Prop where
 row:Row w' ty.int64 1 a xs.length c (xs.map EG)
 new:∀ k,AD a=some k->w.heap.size<=k
 Ar:Below w.heap.size w w'
theorem FI.nil(w:World):FI w w [] none 0:=⟨Row.nil _ _ _,by simp [AD],.refl _ _⟩
theorem FI.grown{w w1 w2:World}{xs:List Int}{a:Option Addr}{c:Nat}(h:FI w w1 xs a c)(hb:Below w1.heap.size w1 w2):FI w w2 xs a c:=⟨h.row.grown hb,h.new,Ac h.Ar hb⟩
theorem Agf:MN Tryz.prog ty.Bl=some (ty.int64,1,8,.int .i64 0):=by kernel_rfl
theorem Gd{w w1:World}{a:Option Addr}{c:Nat}{xs:List Int}(h:FI w w1 xs a c)(hl:xs.length+1<=1000000){x:Int}{b:Nat}{t:TypeId}(hb:w1.heap[b]?=some (.cells #[.int .i64 x] t (0,0))){f:Value->World->Prop}
  (hf:∀ a' c' w',FI w w' (xs++[x]) a' c'->f (.slice a' (xs++[x]).length c') w'):DE Tryz.prog (Builtin.append_ #[ty.Bl,ty.Bl] ty.Bl #[.slice a xs.length c,.slice (some ⟨b,0,none⟩) 1 1]) f w1:=by
 have aW:Rd w1 (some ⟨b,0,none⟩) ([x].map EG):=by
  have:=Rd.Ak hb;simpa [EG] using this
 obtain⟨a5,c5,w2,aH,aI,cl,hnw⟩:=BX (ty:=ty.Bl) (mc:=1) Agf rfl (by omega) (by omega) h.row aW (m:=1) rfl (by simp [EG];rfl) (by omega);unfold DE;rw [aH];have e:xs.length+1=(xs++[x]).length:=by simp
 rw [e] at aI ⊢;refine hf a5 c5 w2 ⟨by rw [Alk];exact aI,λ k hk=>?_,h.Ar.trans (cl.below h.Ar.size λ k hk he=>by have:=h.new k he;omega)⟩;rcases hnw k hk with h1 | h1
 ·exact h.new k h1
 ·exact Ali h.Ar.size h1
def GG(f:Nat)(r:List Int):List UInt8:=if f=0 then r.flatMap Em else E3 r
structure DU(l:List UInt8)(n:Nat)(ls:List Int):Prop where
 len:ls.length=n
 num:∀ x∈ls,Fs x
 form:(l.getD 0 0).toNat<=3
 enc:l=DS (l.getD 0 0).toNat ls
def GV(l:List UInt8)(n:Nat)(w w':World)(v:Value):Prop :=
 ∃(ms:List Int) (a:Option Addr) (c:Nat) (ok:Bool),v=.tuple #[.slice a ms.length c,.bool ok]/\FI w w' ms a c/\(∀ x∈ms,Fs x)/\ms.length<=4096/\(ok=true->ms.length=n)/\∀ ls,DU l n ls->ok=true/\ms=ls
theorem GV.bad{l:List UInt8}{n:Nat}{w w':World}(hb:Below w.heap.size w w')(h:∀ ls,¬ DU l n ls):GV l n w w' (.tuple #[.slice none 0 0,.bool false]) :=
 ⟨[],none,0,false,rfl,⟨Row.nil _ _ _,by simp [AD],hb⟩,by simp,by simp,(λ h=>by cases h),λ ls aM=>absurd aM (h ls)⟩
theorem Cc{l r:List UInt8}{at_ m:Nat}(hm:m<18446744073709551616)(h:l.drop at_=Af m++r):takeN l (at_:Int)=some (m,at_+(Af m).length):=by
 unfold takeN;rw [if_neg (by omega),Ak4,h,P1 m 0 0 r (by simpa using hm) (by omega) (by intro;rfl)];simp
theorem CR{l r d:List UInt8}{at_:Nat}(h:l.drop at_=d++r):l.drop (at_+d.length)=r:=by
 rw [<- Amn,h,List.drop_left]
structure Step(l:List UInt8)(f at_:Nat)(ls:List Int)(k many aL nx:Nat)(x:Int):Prop where
 num:f=1->takeN l (at_:Int)=some (many,aL)
 one:f=0->many=1/\aL=at_
 sgn:takeN l (aL:Int)=some (D4 x,nx)
 pos:0<many
 le:k+many<=ls.length
 take:ls.take (k+many)=ls.take k++AkZ many x
 rest:l.drop nx=GG f (ls.drop (k+many))
 i64:Fs x
theorem AdY{l:List UInt8}{f at_:Nat}{ls:List Int}{k:Nat}(hf:f<=1)(hx:∀ x∈ls,Fs x)(hn:ls.length<=4096)(hr:l.drop at_=GG f (ls.drop k))(hk:k<ls.length):∃ many aL nx x,Step l f at_ ls k many aL nx x:=by
 have hd:ls.drop k=ls[k] :: ls.drop (k+1):=List.drop_eq_getElem_cons hk;have iG:=hx _ (AlI hk);have hz:=FQ iG.1 iG.2;rcases (by omega:f=0\/f=1) with rfl | rfl
 ·have e:l.drop at_=Em ls[k]++GG 0 (ls.drop (k+1)):=by rw [hr,hd];unfold GG;rw [if_pos rfl,if_pos rfl,List.flatMap_cons]
  refine⟨1,at_,at_+(Em ls[k]).length,ls[k],λ h=>(by omega),λ _=>⟨rfl,rfl⟩,Cc hz e,by omega,by omega,?_,CR e,iG⟩;rw [AlW hk];rfl
 ·obtain⟨t,ht⟩:∃ t,t=((ls.drop (k+1)).takeWhile (·==ls[k])).length:=⟨_,rfl⟩;have eR:t<=(ls.drop (k+1)).length:=by rw [ht];exact (List.takeWhile_sublist _).length_le
  rw [Alu] at eR;have e0:E3 (ls.drop k)=Af (t+1)++(Em ls[k]++E3 ((ls.drop (k+1)).drop t)):=by
   rw [hd]
   conv=>lhs;unfold E3
   rw [ht]
  have e:l.drop at_=Af (t+1)++(Em ls[k]++E3 ((ls.drop (k+1)).drop t)):=by
   rw [hr];unfold GG;rw [if_neg (by omega),e0]
  have e1:=CR e;refine⟨t+1,at_+(Af (t+1)).length,at_+(Af (t+1)).length+(Em ls[k]).length,ls[k],λ _=>Cc (by omega) e,λ h=>(by omega),Cc hz e1,by omega,by omega,?_,?_,iG⟩
  ·rw [List.take_add,hd,List.take_succ_cons];congr 1;rw [Amo];congr 1;have h1:(ls.drop (k+1)).take t=(ls.drop (k+1)).takeWhile (·==ls[k]):=by
    rw [ht];exact (List.prefix_iff_eq_take.1 (List.takeWhile_prefix _)).symm
   rw [h1,List.eq_replicate_iff];refine⟨ht.symm,λ y hy=>?_⟩;have:=List.all_eq_true.1 List.all_takeWhile y hy;simpa using this
  ·rw [CR e1];unfold GG;rw [if_neg (by omega),Amn];congr 2;omega
theorem Aer{f:Nat}{r:List Int}(h:GG f r=[]):r=[]:=by
 cases r with
 | nil=>rfl
 | cons x r =>
  exfalso;unfold GG at h;split at h
  ·have:=congrArg Amp h;have hp:=Al7.2 (Io (D4 x));simp only [List.flatMap_cons,Ak1,Amf,Em] at this;omega
  ·unfold E3 at h;have:=congrArg Amp h;have hp:=Al7.2 (Io ((r.takeWhile (·==x)).length+1));simp only [Ak1,Amf] at this;omega
theorem Px{x:Nat × Nat}:Ahf (some x)=.tuple #[.int .i64 (CC x.1),.int .i64 (x.2:Int),.int .i64 0]:=rfl
section
variable {w:World}{a:Option Addr}{c:Nat}{l:List UInt8}
def Tr(l:List UInt8)(f n:Nat)(out:List Int)(at_:Nat):Prop:=∀ ls,DU l n ls->∃ k,k<=ls.length/\out=ls.take k/\l.drop at_=GG f (ls.drop k)
theorem Tr.step{f n:Nat}{out:List Int}{at_:Nat}(h:Tr l f n out at_)(hf:f<=1)(hn:n<=4096)(cU:at_<l.length){ls:List Int}(aM:DU l n ls):∃ k many aL nx x,out=ls.take k/\k<=ls.length/\Step l f at_ ls k many aL nx x:=by
 obtain⟨k,hk,ho,hr⟩:=h ls aM;have aO:k<ls.length:=by
  rcases Nat.lt_or_ge k ls.length with h | h
  ·exact h
  ·exfalso;have:ls.drop k=[]:=List.drop_of_length_le h;rw [this] at hr;have e:GG f []=[]:=by unfold GG;split <;> simp [Jh]
   rw [e] at hr;have:=congrArg Amp hr;rw [Alu,Amf] at this;omega
 obtain⟨many,aL,nx,x,hs⟩:=AdY hf aM.num (by have:=aM.len;omega) hr aO;exact⟨k,many,aL,nx,x,ho,hk,hs⟩
theorem V3(hl:Rd w a (l.map Ag))(hc:l.length<=c)(hs:l.length<=9223372036854775807)(h0:0<l.length){fm:Nat}(cV:fm=(l.getD 0 0).toNat)(hf:fm<=1){n:Nat}(hn:n<=4096) :
  Calls Tryz.prog f.J4 #[.slice a l.length c,.int .i64 (n:Int)] w (AG λ v w'=>GV l n w w' v):=by
 apply R.Ra
 delta R.Kn R.Bz R.F R.G R.H R.I R.J R.Ks R.Ly R.N R.O R.ER R.Qsu R.S R.U R.W R.Wu R.X R.AhT;try dsimp only [R.Ps]
 have wL:Tr l fm n [] 1:=by
  intro ls aM;refine⟨0,by omega,rfl,?_⟩;have:=aM.enc;rw [<- cV] at this;rw [List.drop_zero];rcases (by omega:fm=0\/fm=1) with rfl | rfl
  ·rw [this];simp [DS,GG]
  ·rw [this];simp [DS,GG]
 refine⟨λ s w1=>∃(at_:Nat) (out:List Int) (oa:Option Addr) (oc:Nat),s=[.slice oa out.length oc,.int .i64 (at_:Int)]/\FI w w1 out oa oc/\(∀ x∈out,Fs x)/\out.length<=n/\at_<=9223372036854775807/\Tr l fm n out at_,λ s _=>match s with
   | [_,.int _ i]=>l.length-i.toNat
   | _=>0,⟨1,[],none,0,rfl,FI.nil w,by simp,by simp,by omega,wL⟩,?_⟩
 rintro oa _ oc _ w1 ⟨at_,out,_,_,aA,h1,hI,cE,sI,hT⟩;cases aA;refine Aa (λ aB=>?_) (λ aJ=>?_)
 case refine_2 =>
  have sQ:((out.length:Int)==(n:Int))=true->out.length=n:=λ h=>by
   have:(out.length:Int)=n:=by simpa using h
   omega
  refine⟨out,oa,oc,_,rfl,h1,hI,by omega,sQ,λ ls aM=>?_⟩;obtain⟨k,hk,ho,hr⟩:=hT ls aM;have hd:l.drop at_=[]:=List.drop_of_length_le (by omega);rw [hd] at hr;have ve:=Aer hr.symm;have aO:ls.length<=k:=List.drop_eq_nil_iff.1 ve;have:ls.take k=ls:=AlA aO;rw [this] at ho;subst ho;exact⟨by have:=aM.len;simp [this],rfl⟩
 have cU:at_<l.length:=by omega
 obtain⟨p,rfl,aE⟩:=DH (hl.grown h1.Ar) h0;have bh:=(l.getD 0 0).toNat_lt;refine⟨λ s w3=>w3=w1/\∃(aL many:Nat) (e:Int),s=[.int .i64 (aL:Int),.int .u64 (many:Int),.int .i64 e]/\aL<=9223372036854775807/\((e≠0/\fm=1/\takeN l (at_:Int)=none)\/(e=0/\at_<=aL/\many<18446744073709551616/\((fm=1/\takeN l (at_:Int)=some (many,aL))\/(fm=0/\many=1/\aL=at_)))),?_,?_⟩
 ·refine⟨⟨by omega,by omega⟩,_,aE,Ao (λ h1'=>?_) (λ aQ=>?_)⟩
  ·refine (AL (hl.grown h1.Ar) hc hs (at_:Int)).mono ?_;rintro _ w2 ⟨_,rfl,rfl,rfl⟩;cases hx:takeN l (at_:Int) with
   | none=>exact⟨_,_,_,rfl,rfl,0,0,20,rfl,by omega,.inl ⟨by decide,by omega,rfl⟩⟩
   | some x =>
    have hb:=Az (n:=x.1) (k:=x.2) hx;exact⟨_,_,_,rfl,rfl,x.2,x.1,0,rfl,by omega,.inr ⟨rfl,by omega,by omega,.inl ⟨by omega,rfl⟩⟩⟩
  ·exact⟨rfl,at_,1,0,rfl,by omega,.inr ⟨rfl,by omega,by omega,.inr ⟨by omega,rfl,rfl⟩⟩⟩
 rintro _ _ e w3 ⟨rfl,aL,many,_,aA,me,aG⟩;cases aA;refine (Fw (hl.grown h1.Ar) hc hs (aL:Int)).mono ?_;rintro _ w4 ⟨_,rfl,rfl,rfl⟩;have key:∀ ls,DU l n ls->∃ k nx x,out=ls.take k/\e=0/\takeN l (aL:Int)=some (D4 x,nx)/\0<many/\k+many<=ls.length/\k<=ls.length/\ls.take (k+many)=ls.take k++AkZ many x/\l.drop nx=GG fm (ls.drop (k+many)):=by
  intro ls aM;obtain⟨k,m,a1,nx,x,ho,aO,hs⟩:=hT.step hf hn cU aM;rcases aG with ⟨_,gO,aP⟩ | ⟨he,_,_,⟨gO,hso⟩ | ⟨fF,hm1,ha1⟩⟩
  ·rw [hs.num gO] at aP;cases aP
  ·have:=hs.num gO;rw [hso] at this;obtain⟨rfl,rfl⟩:=Prod.mk.injEq .. ▸ Al8 this;exact⟨k,nx,x,ho,he,hs.sgn,hs.pos,hs.le,aO,hs.take,hs.rest⟩
  ·obtain⟨q1,q2⟩:=hs.one fF;subst q1 q2 hm1 ha1;exact⟨k,nx,x,ho,he,hs.sgn,hs.pos,hs.le,aO,hs.take,hs.rest⟩
 cases hy:takeN l (aL:Int) with
 | none =>
  have aP:∀ ls,¬ DU l n ls:=λ ls aM=>by
   obtain⟨k,nx,x,_,_,h,_⟩:=key ls aM;rw [hy] at h;cases h
  refine⟨_,_,_,rfl,Ah (λ _=>GV.bad h1.Ar aP) (λ _=>Ah (λ _=>GV.bad h1.Ar aP) (λ h=>absurd h (by decide)))⟩
 | some y =>
 rw [Px];have oA:=Az (n:=y.1) (k:=y.2) hy;have kn:=GJ oA.1;have ew:IntKind.u64.wrap (IntKind.i64.wrap ((n:Int)-(out.length:Int)))=((n-out.length:Nat):Int):=by
  rw [wrap_i64 (by omega) (by omega),Aj (by omega) (by omega)];omega
 rw [ew];refine⟨_,_,_,rfl,Ah (λ ly=>GV.bad h1.Ar λ ls aM=>?_) (λ oS=>Ah (λ h=>absurd rfl h) (λ _=>Ao (λ fM=>GV.bad h1.Ar λ ls aM=>?_) (λ fM=>Aa (λ gJ=>GV.bad h1.Ar λ ls aM=>?_) (λ dQ=>?_))))⟩
 ·obtain⟨_,_,_,_,h,_⟩:=key ls aM;exact ly h
 ·obtain⟨_,_,_,_,_,_,h,_⟩:=key ls aM;omega
 ·obtain⟨k,_,_,ho,_,_,_,h,_⟩:=key ls aM;have:=aM.len;have e2:out.length=k:=by rw [ho,AlX];omega
  omega
 have eD:many<=n-out.length:=by omega
 have ye:at_<y.2:=by
  rcases aG with ⟨h,_⟩ | ⟨_,h,_⟩
  ·exact absurd oS h
  ·omega
 refine⟨λ s w5=>∃(j:Nat) (o2:List Int) (oa:Option Addr) (oc:Nat),s=[.slice oa o2.length oc,.int .u64 (j:Int)]/\j<=many/\o2=out++AkZ j (CC y.1)/\FI w w5 o2 oa oc,λ s _=>match s with
   | [_,.int _ i]=>many-i.toNat
   | _=>0,⟨0,out,oa,oc,rfl,by omega,by simp,h1⟩,?_⟩
 rintro rD _ r9 _ w5 ⟨j,o2,_,_,aA,hj,iE,h5⟩;cases aA;have vw:o2.length=out.length+j:=by rw [iE];simp
 refine Aa (λ ao=>?_) (λ cB=>?_)
 ·refine (SH.start (λ _=>False) w5).An λ b6 w6 kq B6 S6=>Gd (h5.grown B6) (by omega) (S6.get 0 rfl) λ a7 c7 w7 h7=>⟨_,_,_,rfl,?_⟩;rw [show IntKind.u64.wrap ((j:Int)+1)=((j+1:Nat):Int) by rw [Aj (by omega) (by omega)];omega];refine⟨⟨j+1,_,a7,c7,rfl,by omega,?_,h7⟩,?_⟩
  ·rw [iE,List.replicate_succ',Ak2]
  ·simp only [Ak4];omega
 ·have uS:j=many:=by omega
  subst uS;refine⟨⟨y.2,o2,rD,r9,rfl,h5,?_,by omega,by omega,?_⟩,?_⟩
  ·intro x hx;rw [iE] at hx;rcases AlY.1 hx with h | h
   ·exact hI x h
   ·rw [(List.mem_replicate.1 h).2];exact kn
  ·intro ls aM;obtain⟨k,nx,x,g1,_,g3,g4,g5,g6,g7,g8⟩:=key ls aM;rw [hy] at g3;have lj:=Al8 g3;have ex:CC y.1=x:=by rw [lj];exact Gp
   have tO:y.2=nx:=by rw [lj]
   refine⟨k+j,g5,?_,by rw [tO];exact g8⟩;rw [iE,g7,g1,ex]
  ·simp only [Ak4];omega
end
theorem ZQ{w w1:World}{a:Option Addr}{c:Nat}{xs:List Int}(h:FI w w1 xs a c)(hl:xs.length+1<=1000000){x:Int}{b:Nat}{t:TypeId}(hb:w1.heap[b]?=some (.cells #[.int .i64 x] t (0,0))){f:Value->World->Prop}
  (hf:∀ a' c' w',FI w w' (xs++[x]) a' c'->Ai (λ k=>AD a=some k) w1 w'->(∀ k,AD a'=some k->AD a=some k\/w1.heap.size<=k)->f (.slice a' (xs++[x]).length c') w'):DE Tryz.prog (Builtin.append_ #[ty.Bl,ty.Bl] ty.Bl #[.slice a xs.length c,.slice (some ⟨b,0,none⟩) 1 1]) f w1:=by
 have aW:Rd w1 (some ⟨b,0,none⟩) ([x].map EG):=by
  have:=Rd.Ak hb;simpa [EG] using this
 obtain⟨a5,c5,w2,aH,aI,cl,hnw⟩:=BX (ty:=ty.Bl) (mc:=1) Agf rfl (by omega) (by omega) h.row aW (m:=1) rfl (by simp [EG];rfl) (by omega);unfold DE;rw [aH];have e:xs.length+1=(xs++[x]).length:=by simp
 rw [e] at aI ⊢;refine hf a5 c5 w2 ⟨by rw [Alk];exact aI,λ k hk=>?_,h.Ar.trans (cl.below h.Ar.size λ k hk he=>by have:=h.new k he;omega)⟩ cl hnw;rcases hnw k hk with h1 | h1
 ·exact h.new k h1
 ·exact Ali h.Ar.size h1
theorem EL{c0:UInt8}{first:Int}{s:List Nat}{l:List UInt8}(hl:l=c0 :: CM first s)(hf:Fs first)(hx:∀ x∈s,x<18446744073709551616) :
  takeN l 1=some (D4 first,1+(Em first).length)/\1+(Em first).length<l.length/\(l.getD (1+(Em first).length) 0).toNat=Fh (Ie s)/\l.drop (1+(Em first).length+1)=A5 s (Fh (Ie s)):=by
 have iV:=Rv hx;have e:l.drop 1=Af (D4 first)++(Ak9 (Fh (Ie s)) :: A5 s (Fh (Ie s))):=by rw [hl];rfl
 have e2:=CR e;have hlen:l.length=1+(Em first).length+1+(A5 s (Fh (Ie s))).length:=by rw [hl];simp [CM];omega
 refine⟨Cc (at_:=1) (FQ hf.1 hf.2) e,by omega,?_,?_⟩
 ·have:(l.drop (1+(Em first).length))[0]?=some (Ak9 (Fh (Ie s))):=by
   have e3:l.drop (1+(Em first).length)=Ak9 (Fh (Ie s)) :: A5 s (Fh (Ie s)):=e2;rw [e3];rfl
  rw [List.getElem?_drop,Nat.add_zero] at this;rw [List.getD,this];exact EY (by omega)
 ·rw [<- Amn];have e3:l.drop (1+(Em first).length)=Ak9 (Fh (Ie s)) :: A5 s (Fh (Ie s)):=e2;rw [e3];rfl
theorem Xy{s:List Nat}{m:Nat}(hm:s.length=m)(hn:m<=4096)(hx:∀ x∈s,x<18446744073709551616):GQ (m:Int) (Fh (Ie s):Int)/\RJ (A5 s (Fh (Ie s))) m (Fh (Ie s))/\BI (A5 s (Fh (Ie s))) m (Fh (Ie s))=s:=by
 have iV:=Rv hx;have aB:=(H0 s _).1 (TX (Ie s)).1;have hu:=Iu aB;rw [hm] at hu;exact⟨⟨by omega,by omega,by omega,by omega⟩,⟨by rw [BS,hm],by rw [hu]⟩,hu⟩
theorem WW{x y:Int}(hx:Fs x)(hy:Fs y):IntKind.i64.wrap (x+IntKind.i64.wrap (y-x))=y:=by
 unfold Fs at hx hy;rw [CX,CX];split <;> split <;> omega
theorem VF{x m:Int}(hx:Fs x)(hm:Fs m)(hle:m<=x):IntKind.i64.wrap (IntKind.u64.wrap (IntKind.u64.wrap m+((x-m).toNat:Int)))=x:=by
 unfold Fs at hx hm;rw [CX,wrap_u64,wrap_u64];split <;> omega
theorem Ud{ls:List Int}{i:Nat}(h:i+1<ls.length):(BB ls)[i]?=some (D4 (IntKind.i64.wrap (ls[i+1]-ls[i]))):=by
 have hr:i<ls.length-1:=by omega
 simp only [BB,List.getElem?_map,List.getElem?_range hr,Amq];rw [Fi h,Fi (by omega)]
theorem Vo{ls:List Int}{i:Nat}(h:i<ls.length):(BJ ls)[i]?=some ((ls[i]-FJ ls).toNat):=by simp [BJ,h]
theorem Vc{α:Type}{xs ys:List α}{i:Nat}{y:α}(h:xs=ys)(hy:ys[i]?=some y)(hi:i<xs.length):xs[i]=y:=by
 subst h;rw [List.getElem?_eq_getElem hi] at hy;exact Al8 hy
def DO(fm:Nat)(ls:List Int):Int:=if fm=2 then ls.headD 0 else FJ ls
def KR(fm:Nat)(ls:List Int):List Nat:=if fm=2 then BB ls else BJ ls
theorem Hu{l:List UInt8}{n fm:Nat}{ls:List Int}(h:DU l n ls)(cV:fm=(l.getD 0 0).toNat)(hf:fm=2\/fm=3)(hn:0<n) :
  Fs (DO fm ls)/\(∀ x∈KR fm ls,x<18446744073709551616)/\l=Ak9 fm :: CM (DO fm ls) (KR fm ls)/\(KR fm ls).length=(if fm=2 then n-1 else n):=by
 have hp:0<ls.length:=by have:=h.len;omega
 have aQ:ls≠[]:=Al7.1 hp;have he:=h.enc;rw [<- cV] at he;have hlen:=h.len;rcases hf with rfl | rfl
 ·refine⟨?_,MF,?_,?_⟩
  ·have:=DJ h.num hp 0;simpa [E6,DO] using this
  ·rw [he];simp only [DS];rw [if_neg aQ];rfl
  ·simp [KR,BB,hlen]
 ·refine⟨DJ h.num hp _,Mt h.num,?_,?_⟩
  ·rw [he];simp only [DS];rw [if_neg aQ];rfl
  ·simp [KR,BJ,hlen]
section
variable {w:World}{a:Option Addr}{c:Nat}{l:List UInt8}
theorem Abe{u:Nat}(hu:u<18446744073709551616):Calls Tryz.prog f.AgN #[.int .u64 (u:Int)] w (AG λ v w'=>w'=w/\v=.int .i64 (CC u)):=by
 apply R.Vv
 delta R.I R.W R.Wu;try dsimp only [R.Ps]
 rw [Un hu];exact⟨rfl,rfl⟩
theorem Wk(hl:Rd w a (l.map Ag))(hc:l.length<=c)(hs:l.length<=9223372036854775807)(h0:0<l.length){fm:Nat}(cV:fm=(l.getD 0 0).toNat)(hf:fm=2\/fm=3){n:Nat}(hn:n<=4096) :
  Calls Tryz.prog f.Ju #[.slice a l.length c,.int .i64 (n:Int)] w (AG λ v w'=>GV l n w w' v):=by
 apply R.Rz
 delta R.Ad R.Kn R.AR R.Ci R.D R.F R.G R.H R.I R.J R.Ks R.Lu R.Ly R.N R.O R.Ll R.Rs R.S R.U R.W R.Wu R.X R.Y R.Zis;try dsimp only [R.Ps]
 refine Ao (λ hz=>?_) (λ jN=>?_)
 ·have dB:n=0:=by omega
  subst dB;refine⟨[],none,0,_,rfl,FI.nil w,by simp,by simp,λ _=>rfl,λ ls aM=>?_⟩;have tT:ls=[]:=List.eq_nil_of_length_eq_zero aM.len;subst tT;have he:=aM.enc;rw [<- cV] at he;have h1:l.length=1:=by
   rw [he];rcases hf with rfl | rfl <;> simp [DS]
  exact⟨by simp [h1],rfl⟩
 have dB:0<n:=by omega
 refine (Fw hl hc hs 1).mono ?_;rintro _ w ⟨_,rfl,rfl,rfl⟩;cases hy:takeN l 1 with
 | none =>
  refine⟨_,_,_,rfl,Ah (λ _=>GV.bad (.refl _ _) λ ls aM=>?_) (λ h=>absurd h (by decide))⟩;obtain⟨k1,k2,k3,_⟩:=Hu aM cV hf dB;have:=(EL k3 k1 k2).1;rw [hy] at this;cases this
 | some y =>
 rw [Px];have oA:=Az (n:=y.1) (k:=y.2) hy;have kn:Fs (CC y.1):=GJ oA.1;refine⟨_,_,_,rfl,Ah (λ h=>absurd rfl h) (λ _=>Aa (λ gJ=>GV.bad (.refl _ _) λ ls aM=>?_) (λ aB=>?_))⟩
 ·obtain⟨k1,k2,k3,_⟩:=Hu aM cV hf dB;obtain⟨q1,q2,_⟩:=EL k3 k1 k2;rw [hy] at q1;have:=Al8 q1;have:y.2=1+(Em (DO fm ls)).length:=by rw [this]
  omega
 have hj:y.2<l.length:=by omega
 refine Hx Agf (c:=n) (by omega) (by omega) λ b2 w2 dC B2 R2=>⟨_,_,_,rfl,?_⟩;have h2:FI w w2 [] (some ⟨b2,0,none⟩) n:=⟨R2,λ k hk=>by cases hk;exact dC,B2⟩;obtain⟨p,rfl,aE⟩:=DH (hl.grown B2) h0;have bh:=(l.getD 0 0).toNat_lt;obtain⟨m,hm⟩:∃ m,m=(if fm=2 then n-1 else n):=⟨_,rfl⟩;obtain⟨o0,ho0⟩:∃ o:List Int,o=(if fm=2 then [CC y.1] else []):=⟨_,rfl⟩;have ho0l:o0.length+m=n:=by
  rw [ho0,hm];rcases hf with rfl | rfl
  ·simp;omega
  ·simp
 have th:∀ x∈o0,Fs x:=by
  rw [ho0];split
  ·intro x hx;rw [AlZ.1 hx];exact kn
  ·simp
 refine⟨λ s w5=>∃(oa:Option Addr) (oc:Nat),s=[.int .i64 (m:Int),.slice oa o0.length oc]/\FI w w5 o0 oa oc,?_,?_⟩
 ·refine⟨⟨by omega,by omega⟩,_,aE,Ao (λ he=>?_) (λ he=>?_)⟩
  ·have bW:fm=2:=by omega
   refine (SH.start (λ _=>False) w2).An λ b3 w3 dE B3 S3=>Gd (h2.grown B3) (by simp) (S3.get 0 rfl) λ a4 c4 w4 h4=>⟨_,_,_,rfl,a4,c4,?_,?_⟩
   ·rw [wrap_i64 (by omega) (by omega),hm,ho0,if_pos bW,if_pos bW];simp;omega
   ·rw [ho0,if_pos bW];exact h4
  ·have bW:¬ fm=2:=by omega
   refine⟨some ⟨b2,0,none⟩,n,?_,?_⟩
   ·rw [hm,ho0,if_neg bW,if_neg bW];rfl
   ·rw [ho0,if_neg bW];exact h2
 rintro _ oa _ oc w5 ⟨_,_,aA,h5⟩;cases aA;refine (SH.start (λ _=>False) w5).E9 λ w6 B6 _=>?_;have C6:=Ac h5.Ar B6;have h6:=h5.grown B6;rw [wrap_i64 (n:=(y.2:Int)+1) (by omega) (by omega),show ((y.2:Int)+1).toNat=y.2+1 by omega];refine⟨⟨by omega,by omega,by omega⟩,⟨by omega,by omega⟩,?_⟩;have iD:=J3 (q:=y.2+1) (hl.grown C6) hc;obtain⟨p',hp',hcellj⟩:=byte_at (hl.grown C6) hj;cases hp';refine⟨_,by rw [Ak4];exact hcellj,?_⟩;have vk:=(l[y.2]).toNat_lt;rw [wrap_i64 (n:=(l[y.2].toNat:Int)) (by omega) (by omega),<- Alu (i:=y.2+1) (l:=l)];have ki:m<=4096:=by omega
 refine (HS iD (m:Int) (l[y.2].toNat:Int) (by rw [Alu];omega)).mono ?_;rintro _ w7 ⟨_,rfl,xs,xa,xc,e,rfl,gd,B7,ng,aG⟩;rw [Ak4,Ak4] at aG;have h7:=h6.grown B7;have hg:l.getD y.2 0=l[y.2]:=GM hj;have hxm:xs.length<=m/\(e=0->xs.length=m)/\∀ x∈xs,x<18446744073709551616:=by
  rcases aG with ⟨ha,_,rfl,rfl⟩ | ⟨_,rfl,he⟩
  ·refine⟨by rw [Ce];omega,λ _=>Ce _ _ _,λ x hx=>?_⟩;have:=NH _ _ _ x hx;have iV:l[y.2].toNat<=64:=by have:=ha.2.2.2;omega
   exact Nat.lt_of_lt_of_le this (Nat.pow_le_pow_right (n:=2) (by omega) iV)
  ·refine⟨by simp,λ h=>?_,by simp⟩;rw [h] at he;split at he <;> cases he
 obtain⟨hxm1,hxm2,fQ⟩:=hxm;have key:∀ ls,DU l n ls->e=0/\xs=KR fm ls/\CC y.1=DO fm ls:=by
  intro ls aM;obtain⟨k1,k2,k3,k4⟩:=Hu aM cV hf dB;obtain⟨q1,q2,q3,q4⟩:=EL k3 k1 k2;rw [hy] at q1;have qZ:=Al8 q1;have p7:y.2=1+(Em (DO fm ls)).length:=by rw [qZ]
  have jd:y.1=D4 (DO fm ls):=by rw [qZ]
  rw [<- p7,hg] at q3;rw [<- p7] at q4;rw [<- hm] at k4;obtain⟨u1,u2,u3⟩:=Xy k4 ki k2;rw [q3,q4] at aG;rcases aG with ⟨_,_,bN,he⟩ | ⟨aP,_⟩
  ·exact⟨he,by rw [bN,u3],by rw [jd];exact Gp⟩
  ·exact absurd ⟨u1,u2⟩ aP
 refine⟨_,_,_,_,rfl,?_⟩;refine⟨λ s w8=>∃(i:Nat) (fi:Int) (out:List Int) (oa:Option Addr) (oc:Nat),s=[.int .i64 fi,.slice oa out.length oc,.int .i64 (i:Int)]/\i<=xs.length/\Fs fi/\out.length=o0.length+i/\(∀ x∈out,Fs x)/\FI w w8 out oa oc/\Rd w8 xa (xs.map ES)/\(∀ k p,AD oa=some k->xa=some p->p.block≠k) /\
   (∀ ls,DU l n ls->out=ls.take (o0.length+i)/\fi=(if fm=2 then ls.getD i 0 else DO fm ls)),λ s _=>match s with
   | [_,_,.int _ i]=>xs.length-i.toNat
   | _=>0,⟨0,CC y.1,o0,oa,oc,rfl,by omega,kn,rfl,th,h7,gd,λ k p hk hp=>(by have:=h6.row.lt hk;have:=ng p hp;omega),λ ls aM=>?_⟩,?_⟩
 ·obtain⟨_,_,k3⟩:=key ls aM;have hp:0<ls.length:=by have:=aM.len;omega
  have yW:ls.headD 0=ls.getD 0 0:=by cases ls <;> rfl
  refine⟨?_,?_⟩
  ·rw [ho0];rcases hf with rfl | rfl
   ·simp only [if_pos,Ak3,Amf];rw [k3];cases ls with
    | nil=>simp at hp
    | cons x r=>rfl
   ·simp
  ·rw [k3];rcases hf with rfl | rfl
   ·simp only [DO,if_pos];exact yW
   ·rfl
 rintro fi yR _ xR _ w8 ⟨i,_,out,_,_,aA,hi,kh,cE,lM,h8,qQ,j6,hT⟩;cases aA;refine Aa (λ ao=>⟨⟨by omega,ao⟩,?_⟩) (λ aJ=>?_)
 ·have dI:i<xs.length:=by omega
  have hu:=fQ _ (AlI dI);obtain⟨p2,gU,hcx⟩:=G8 qQ dI;have yJ:p2.block<w8.heap.size:=by
   have:=World.block_lt_of_cell? w8 _ hcx;rwa [DI] at this
  subst gU;obtain⟨p3,oP,hcell3⟩:=DH (hl.grown h8.Ar) h0;cases oP;refine⟨_,by rw [Ak4];exact hcx,⟨by omega,by omega⟩,_,hcell3,?_⟩;have cL:xs.length-((i+1:Nat):Int).toNat<xs.length-((i:Nat):Int).toNat:=by
   simp only [Ak4];omega
  rw [Ae (by omega)];have next:∀ {v pI:Int} {wx:World} {b:Nat} {t:TypeId},Below w8.heap.size w8 wx->wx.heap[b]?=some (.cells #[.int .i64 v] t (0,0))->Fs v->Fs pI ->
    (∀ ls,DU l n ls->ls.take (o0.length+(i+1))=ls.take (o0.length+i)++[v]/\pI=(if fm=2 then ls.getD (i+1) 0 else DO fm ls)) ->
    DE Tryz.prog (Builtin.append_ #[ty.Bl,ty.Bl] ty.Bl #[.slice yR out.length xR,.slice (some ⟨b,0,none⟩) 1 1]) (λ r aX=>∃(t77:Option Addr) (pv qp:Nat),r=.slice t77 pv qp /\
     (∃(i_1:Nat) (fi:Int) (out:List Int) (oa:Option Addr) (oc:Nat),[Value.int .i64 pI,.slice t77 pv qp,.int .i64 ((i+1:Nat):Int)]=[.int .i64 fi,.slice oa out.length oc,.int .i64 (i_1:Int)]/\i_1<=xs.length/\Fs fi/\out.length=o0.length+i_1/\(∀ x∈out,Fs x)/\FI w aX out oa oc/\Rd aX (some p2) (xs.map ES)/\(∀ k p,AD oa=some k->some p2=some p->p.block≠k) /\
      (∀ ls,DU l n ls->out=ls.take (o0.length+i_1)/\fi=(if fm=2 then ls.getD i_1 0 else DO fm ls)))/\xs.length-((i+1:Nat):Int).toNat<xs.length-((i:Nat):Int).toNat) wx:=by
   intro v pI wx b t Bx hb hv ur hP;refine ZQ (h8.grown Bx) (by omega) hb λ r8 qu aX ql eO yk=>⟨_,_,_,rfl,⟨i+1,pI,_,r8,qu,rfl,by omega,ur,by simp [cE];omega,?_,ql,?_,?_,λ ls aM=>?_⟩,cL⟩
   ·intro x hx;rcases AlY.1 hx with h | h
    ·exact lM x h
    ·rw [AlZ.1 h];exact hv
   ·exact (qQ.grown Bx).keeps eO λ q hq hr=>j6 _ q hr hq rfl
   ·intro k q hk hq;rcases yk k hk with h | h
    ·exact j6 k q h hq
    ·have:=Bx.size;cases hq;omega
   ·obtain⟨t1,_⟩:=hT ls aM;obtain⟨g1,g2⟩:=hP ls aM;exact⟨by rw [g1,t1],g2⟩
  refine Ao (λ he=>?_) (λ he=>?_)
  ·have bW:fm=2:=by omega
   have mF:o0.length=1:=by rw [ho0,if_pos bW];rfl
   refine (Abe hu).mono ?_;rintro _ w9 ⟨_,rfl,rfl,rfl⟩;refine⟨_,rfl,(SH.start (λ _=>False) w9).An λ dO bZ kW cA k6=>next cA (k6.get 0 rfl) (FY _) (FY _) λ ls aM=>?_⟩;obtain⟨_,k2,_⟩:=key ls aM;obtain⟨_,t2⟩:=hT ls aM;rw [if_pos bW] at t2;have bD:(BB ls).length=ls.length-1:=by simp [BB]
   have bN:xs=BB ls:=by rw [k2];simp [KR,bW]
   have dS:i+1<ls.length:=by rw [bN,bD] at dI;omega
   have dF:=Vc bN (Ud dS) dI;have bQ:IntKind.i64.wrap (fi+CC xs[i])=ls[i+1]:=by
    rw [dF,Gp,t2,Fi (by omega)];exact WW (aM.num _ (AlI _)) (aM.num _ (AlI _))
   rw [bQ,mF,if_pos bW,Fi dS,show 1+(i+1)=(i+1)+1 by omega,show 1+i=i+1 by omega];exact⟨AlW dS,rfl⟩
  ·have bW:¬ fm=2:=by omega
   have vB:fm=3:=by omega
   have mF:o0.length=0:=by rw [ho0,if_neg bW];rfl
   refine (SH.start (λ _=>False) w8).An λ dO bZ kW cA k6=>next cA (k6.get 0 rfl) (FY _) kh λ ls aM=>?_;obtain⟨_,k2,_⟩:=key ls aM;obtain⟨_,t2⟩:=hT ls aM;rw [if_neg bW] at t2 ⊢;have bN:xs=BJ ls:=by rw [k2];simp [KR,bW]
   have dS:i<ls.length:=by rw [bN] at dI;simpa [BJ] using dI
   have ag:=AlI dS;have mV:DO fm ls=FJ ls:=by simp [DO,bW]
   have dF:=Vc bN (Vo dS) dI;have bQ:IntKind.i64.wrap (IntKind.u64.wrap (IntKind.u64.wrap fi+(xs[i]:Int)))=ls[i]:=by
    rw [dF,t2,mV];exact VF (aM.num _ ag) (DJ aM.num (by omega) _) (MD ag)
   rw [bQ,mF,Nat.zero_add,Nat.zero_add];exact⟨AlW dS,t2⟩
 ·have bG:i=xs.length:=by omega
  have sQ:(e==0)=true->out.length=n:=λ h=>by
   have he:e=0:=by simpa using h
   have:=hxm2 he;omega
  refine⟨out,yR,xR,_,rfl,h8,lM,by omega,sQ,λ ls aM=>?_⟩;obtain⟨k1,_,_⟩:=key ls aM;obtain⟨t1,_⟩:=hT ls aM;have ct:=hxm2 k1;refine⟨by simp [k1],?_⟩;rw [t1,AlA (by have:=aM.len;omega)]
end
def GF(l:List UInt8)(n:Int)(w w':World)(v:Value):Prop :=
 ∃(ls:List Int) (a:Option Addr) (c:Nat) (e:Int),v=.tuple #[.slice a ls.length c,.int .i64 e]/\Rd w' a (ls.map EG)/\Below w.heap.size w w'/\ls.length<=4096/\(∀ x∈ls,Fs x) /\
  ((¬ Cj n/\ls=[]/\e=2)\/(Cj n/\DU l n.toNat ls/\0<l.length/\(∀ ms,DU l n.toNat ms->ms=ls)/\e=0)\/(Cj n/\(∀ ms,¬ (DU l n.toNat ms/\0<l.length))/\ls=[]/\e=60))
theorem GF.bad{l:List UInt8}{n:Int}{w w':World}(hb:Below w.heap.size w w')(hn:Cj n)(h:∀ ms,¬ (DU l n.toNat ms/\0<l.length)):GF l n w w' (.tuple #[.slice none 0 0,.int .i64 60]) :=
 ⟨[],none,0,60,rfl,Rd.nil _ _,hb,by simp,by simp,.inr (.inr ⟨hn,h,rfl,rfl⟩)⟩
theorem GF.arg{l:List UInt8}{n:Int}{w w':World}(hb:Below w.heap.size w w')(hn:¬ Cj n):GF l n w w' (.tuple #[.slice none 0 0,.int .i64 2]) :=
 ⟨[],none,0,2,rfl,Rd.nil _ _,hb,by simp,by simp,.inl ⟨hn,rfl,rfl⟩⟩
theorem Y5:enters Tryz.prog f.J4=true:=by kernel_rfl
theorem XU:enters Tryz.prog f.Ju=true:=by kernel_rfl
section
variable {w:World}{a:Option Addr}{c:Nat}{l:List UInt8}
theorem VJ(hl:Rd w a (l.map Ag))(hc:l.length<=c)(hs:l.length<=9223372036854775807)(n:Int) :
  Calls Tryz.prog f.Aa3 #[.slice a l.length c,.int .i64 n] w (AG λ v w'=>GF l n w w' v):=by
 apply R.Pb
 delta R.AR R.Cb R.F R.G R.H R.I R.Ly R.O R.S R.W R.X R.Zb R.Zf;try dsimp only [R.Ps]
 refine⟨λ s w1=>∃ b:Bool,s=[.bool b]/\w1=w/\(b=true↔¬ Cj n),?_,?_⟩
 ·refine Aa (λ h=>⟨true,rfl,rfl,?_⟩) (λ h=>⟨_,rfl,rfl,?_⟩)
  ·unfold Cj;simp;omega
  ·unfold Cj;simp;omega
 rintro _ w1 ⟨b,aA,rfl,hb⟩;cases aA;refine Ap (λ h=>GF.arg (.refl _ _) (hb.1 h)) (λ h=>?_);have aU:Cj n:=by
  rcases Classical.em (Cj n) with h1 | h1
  ·exact h1
  ·rw [hb.2 h1] at h;cases h
 obtain⟨n,rfl⟩:∃ m:Nat,n=(m:Int):=⟨n.toNat,by have:=aU.1;omega⟩;have hn:n<=4096:=by have:=aU.2;omega
 refine Ao (λ h=>GF.bad (.refl _ _) aU λ ms hm=>by have:=hm.2;omega) (λ aQ=>?_);have h0:0<l.length:=by omega
 obtain⟨p,rfl,aE⟩:=DH hl h0;have bh:=(l.getD 0 0).toNat_lt;refine⟨⟨by omega,by omega⟩,_,aE,Aa (λ h=>GF.bad (.refl _ _) aU λ ms hm=>by have:=hm.1.form;omega) (λ hle=>?_)⟩;obtain⟨fm,cV⟩:∃ fm,fm=(l.getD 0 0).toNat:=⟨_,rfl⟩;rw [<- cV] at aE hle;have br:∀ fn,(fn=f.J4/\fm<=1)\/(fn=f.Ju/\(fm=2\/fm=3))->enters Tryz.prog fn=true/\Calls Tryz.prog fn #[.slice (some p) l.length c,.int .i64 (n:Int)] w1 (AG λ v w'=>GV l n w1 w' v):=by
  rintro fn (⟨rfl,h⟩ | ⟨rfl,h⟩)
  ·exact⟨Y5,V3 hl hc hs h0 cV h hn⟩
  ·exact⟨XU,Wk hl hc hs h0 cV h hn⟩
 refine⟨λ s w2=>w2=w1/\∃ fn,s=[.func (.func fn) #[] #[]]/\((fn=f.J4/\fm<=1)\/(fn=f.Ju/\(fm=2\/fm=3))),?_,?_⟩
 ·refine⟨⟨by omega,by omega⟩,_,aE,Aa (λ h=>⟨rfl,_,rfl,.inr ⟨rfl,by omega⟩⟩) (λ h=>⟨rfl,_,rfl,.inl ⟨rfl,by omega⟩⟩)⟩
 rintro _ _ _ w2 ⟨rfl,fn,aA,o5⟩;cases aA;obtain⟨hent,bA⟩:=br _ o5;rw [hent];refine bA.mono ?_;rintro _ w3 ⟨_,rfl,ms,a3,c3,ok,rfl,h3,mw,qC,tX,aF⟩;refine⟨_,_,_,_,rfl,Au (Ap (λ hk=>?_) (λ hk=>GF.bad h3.Ar aU λ ls aM=>?_))⟩
 case refine_2 =>
  rw [Ak4] at aM;have:=(aF ls aM.1).1;rw [this] at hk;cases hk
 have hlen:=tX hk;obtain⟨p',hp',hcell3⟩:=DH (hl.grown h3.Ar) h0;cases hp';rw [<- cV] at hcell3;refine⟨⟨by omega,by omega⟩,_,hcell3,?_⟩;rw [wrap_i64 (by omega) (by omega)];refine (H5 (fm:Int) h3.row.rd h3.row.le mw).mono ?_;rintro _ w4 ⟨_,rfl,hE⟩;obtain⟨a4,c4,rfl,h4⟩:=J8.D1 (by omega) qC hE;have C4:=Ac h3.Ar h4.Ar;refine⟨_,_,_,_,rfl,(H4 (l:=DS fm ms) (c:=c4) h4.rd (hl.grown C4)).mono ?_⟩;rintro _ w5 ⟨_,rfl,rfl,rfl⟩;refine⟨_,rfl,Au (Aa (λ he=>?_) (λ he=>GF.bad C4 aU λ ls aM=>he ?_))⟩
 ·refine⟨ms,a3,c3,0,rfl,h3.row.rd.grown h4.Ar,C4,qC,mw,.inr (.inl ⟨aU,?_,h0,?_,rfl⟩)⟩
  ·rw [Ak4];exact⟨hlen,mw,by omega,by rw [<- cV];exact he.symm⟩
  ·intro ls aM;rw [Ak4] at aM;exact ((aF ls aM).2).symm
 ·rw [Ak4] at aM;have h1:=(aF ls aM.1).2;have h2:=aM.1.enc;rw [<- cV] at h2;rw [h1,<- h2]
end
theorem Ad0:MN Tryz.prog ty.CE=some (ty.AW,3,32,.agg #[.int .i64 0,.int .i64 0,.string ⟨#[]⟩]):=by kernel_rfl
structure O4(w w':World)(vs:List AB)(a:Option Addr)(c:Nat):Prop where
 row:Row w' ty.AW 3 a vs.length c (AO vs)
 new:∀ k,AD a=some k->w.heap.size<=k
 Ar:Below w.heap.size w w'
theorem O4.nil(w:World):O4 w w [] none 0:=⟨Row.nil _ _ _,by simp [AD],.refl _ _⟩
theorem O4.grown{w w1 w2:World}{xs:List AB}{a:Option Addr}{c:Nat}(h:O4 w w1 xs a c)(hb:Below w1.heap.size w1 w2):O4 w w2 xs a c:=⟨h.row.grown hb,h.new,Ac h.Ar hb⟩
theorem Zu(xs ys:List AB):AO (xs++ys)=AO xs++AO ys:=by simp [AO]
theorem Oy{w w1:World}{a:Option Addr}{c:Nat}{xs:List AB}(h:O4 w w1 xs a c)(hl:xs.length+1<=1000000){x:AB}{b:Nat}{t:TypeId}(hb:w1.heap[b]?=some (.cells #[.int .i64 x.1,.int .i64 x.2.1,.string x.2.2] t (0,0))){f:Value->World->Prop}
  (hf:∀ a' c' w',O4 w w' (xs++[x]) a' c'->f (.slice a' (xs++[x]).length c') w'):DE Tryz.prog (Builtin.append_ #[ty.CE,ty.CE] ty.CE #[.slice a xs.length c,.slice (some ⟨b,0,none⟩) 1 1]) f w1:=by
 have aW:Rd w1 (some ⟨b,0,none⟩) (AO [x]):=by
  have:=Rd.Ak hb;simpa [HE] using this
 obtain⟨a5,c5,w2,aH,aI,cl,hnw⟩:=BX (ty:=ty.CE) (mc:=1) Ad0 rfl (by omega) (by omega) h.row aW (m:=1) rfl (by simp [HE];exact⟨rfl,rfl,rfl⟩) (by omega);unfold DE;rw [aH];have e:xs.length+1=(xs++[x]).length:=by simp
 rw [e] at aI ⊢;refine hf a5 c5 w2 ⟨by rw [Zu];exact aI,λ k hk=>?_,h.Ar.trans (cl.below h.Ar.size λ k hk he=>by have:=h.new k he;omega)⟩;rcases hnw k hk with h1 | h1
 ·exact h.new k h1
 ·exact Ali h.Ar.size h1
/-! ### the values that are not null -/
theorem Ro{kind:Int}{ls:List AB}(hg:Bc kind ls)(h3:kind≠3):AQ ls=(CS ls).map λ x=>(kind,x,E0):=by
 unfold CS;rw [List.map_map]
 conv=>lhs;rw [<- List.map_id (AQ ls)]
 apply List.map_congr_left;intro v hv;obtain⟨hm,aQ⟩:=List.mem_filter.1 hv;have aK:=hg.all v hm;simp only [okV,Bool.and_eq_true,Bool.or_eq_true,decide_eq_true_eq] at aK;have cm:v.1=kind:=aK.2.resolve_right (by simpa using aQ);have hr:=aK.1;have rj:¬ v.1=3:=by rw [cm];exact h3
 have he:v.2.2=E0:=by
  unfold AK at hr;split at hr
  ·simp at hr;exact hr.2
  ·split at hr
   ·simpa using hr
   ·split at hr
    ·simp at hr;exact hr.2
    ·simp at hr
 show v=(kind,v.2.1,E0);rw [<- cm,<- he]
theorem OR{kind:Int}{ls:List AB}(hg:Bc kind ls)(h3:kind=3):AQ ls=(BA ls).map λ s=>(kind,0,s):=by
 unfold BA;rw [List.map_map]
 conv=>lhs;rw [<- List.map_id (AQ ls)]
 apply List.map_congr_left;intro v hv;obtain⟨hm,aQ⟩:=List.mem_filter.1 hv;have aK:=hg.all v hm;simp only [okV,Bool.and_eq_true,Bool.or_eq_true,decide_eq_true_eq] at aK;have cm:v.1=kind:=aK.2.resolve_right (by simpa using aQ);have hr:=aK.1;have rj:v.1=3:=by rw [cm];exact h3
 have he:v.2.1=0:=by
  unfold AK at hr;rw [if_neg (by omega),if_neg (by omega),if_neg (by omega),if_pos rj] at hr;simp at hr;exact hr.1
 show v=(kind,0,v.2.2);rw [<- cm,<- he]
theorem Xg{ls:List AB}{o:List UInt8}(hg:Bc 3 ls)(h:D7 3 ls o):Iv o (BA ls).length (BA ls)/\0<o.length:=by
 have key:∀(f:Int) (b:List UInt8),(0<=f/\f<=1)->F8 (BA ls) f b->Iv b (BA ls).length (BA ls)/\0<b.length:=by
  intro f b hf hE;have hh:((b.getD 0 0).toNat:Int)=f:=by
   cases hE with
   | plain=>rfl
   | table t wd ht hw=>rfl
  refine⟨⟨rfl,by rw [hh];exact hg.enc f hf,by rw [hh];exact hE⟩,?_⟩;cases hE with
  | plain=>simp
  | table t wd ht hw=>simp
 cases h with
 | text h b0 b1 h0 h1 =>
  split
  ·exact key 1 b1 (by omega) h1
  ·exact key 0 b0 (by omega) h0
 | num h=>exact absurd rfl h
theorem AcM{f:Nat}(hf:f<=3)(l:List Int):((DS f l).getD 0 0).toNat=f/\0<(DS f l).length:=by
 rcases (by omega:f=0\/f=1\/f=2\/f=3) with rfl | rfl | rfl | rfl <;> exact⟨rfl,by simp [DS]⟩
theorem AbA{kind:Int}{ls:List AB}{o:List UInt8}(hg:Bc kind ls)(h3:kind≠3)(h:D7 kind ls o):DU o (CS ls).length (CS ls)/\0<o.length:=by
 cases h with
 | text h b0 b1 h0 h1=>exact absurd h h3
 | num h =>
  obtain⟨e1,e2⟩:=AcM (PM (CS ls)) (CS ls);exact⟨⟨rfl,hg.AeF,by rw [e1];exact PM _,by rw [e1]⟩,e2⟩
def AjB(kind:Int)(l:List UInt8)(n:Nat)(w w':World)(v:Value):Prop :=
 ∃(vs:List AB) (a:Option Addr) (c:Nat) (ok:Bool),v=.tuple #[.slice a vs.length c,.bool ok]/\Rd w' a (AO vs)/\Below w.heap.size w w'/\vs.length<=4096/\(∀ v∈vs,BN v) /\
  ∀ ls,Bc kind ls->(AQ ls).length=n->(0<n->D7 kind ls l)->(n=0->l=[])->ok=true/\vs=AQ ls
section
variable {w:World}{a:Option Addr}{c:Nat}{l:List UInt8}
theorem QR(kind:Int)(hl:Rd w a (l.map Ag))(hc:l.length<=c)(hs:l.length<=9223372036854775807){n:Nat}(hn:n<=1024) :
  Calls Tryz.prog f.VQ #[.int .i64 kind,.slice a l.length c,.int .i64 (n:Int)] w (AG λ v w'=>AjB kind l n w w' v):=by
 apply R.MX
 delta R.Ad R.AR R.F R.G R.H R.I R.J R.Ks R.Li R.Lt R.N R.O R.ER R.S R.T R.W R.X;try dsimp only [R.Ps]
 refine Ao (λ hz=>?_) (λ jN=>Ao (λ h3=>?_) (λ h3=>?_))
 ·have dB:n=0:=by omega
  subst dB;refine⟨[],none,0,_,rfl,Rd.nil _ _,.refl _ _,by simp,by simp,λ ls hg hf _ h0=>?_⟩;rw [h0 rfl];exact⟨rfl,(List.eq_nil_of_length_eq_zero hf).symm⟩
 ·subst h3;have dB:0<n:=by omega
  refine (UA hl hc hs (n:Int)).mono ?_;rintro _ w1 ⟨_,rfl,ss,a1,c1,e1,rfl,R1,B1,l1,q1⟩;have aU:Cj (n:Int):=⟨by omega,by omega⟩;rw [Ak4] at q1;refine⟨_,_,_,_,rfl,?_⟩;refine⟨λ s w2=>∃(i:Nat) (oa:Option Addr) (oc:Nat),s=[.slice oa ((ss.take i).map λ s=>((3:Int),(0:Int),s)).length oc,.int .i64 (i:Int)]/\i<=ss.length/\O4 w1 w2 ((ss.take i).map λ s=>((3:Int),(0:Int),s)) oa oc,λ s _=>match s with
    | [_,.int _ i]=>ss.length-i.toNat
    | _=>0,⟨0,none,0,rfl,by omega,O4.nil w1⟩,?_⟩
  rintro oa _ oc _ w2 ⟨i,_,_,aA,hi,h2⟩;cases aA;refine Aa (λ aB=>⟨⟨by omega,aB⟩,?_⟩) (λ aJ=>?_)
  ·have aD:i<ss.length:=by omega
   obtain⟨p,rfl,aE⟩:=E7 (R1.grown h2.Ar) aD;refine⟨_,by rw [Ak4];exact aE,(SH.start (λ _=>False) w2).An λ b3 w3 dE B3 S3=>Oy (x:=(3,0,ss[i])) (h2.grown B3) (by simp;omega) (S3.get 0 rfl) λ a4 c4 w4 h4=>⟨_,_,_,rfl,?_⟩⟩;have e:(ss.take (i+1)).map (λ s=>((3:Int),(0:Int),s))=(ss.take i).map (λ s=>((3:Int),(0:Int),s))++[((3:Int),(0:Int),ss[i])]:=by
    rw [AlW aD,Alk];rfl
   rw [Ae (by omega)];refine⟨⟨i+1,a4,c4,by rw [e],by omega,by rw [e];exact h4⟩,?_⟩;simp only [Ak4];omega
  ·have bG:ss.take i=ss:=AlA (by omega);rw [bG] at h2 ⊢;refine⟨_,oa,oc,_,rfl,h2.row.rd,Ac B1 h2.Ar,by simp;omega,?_,λ ls hg hf ho _=>?_⟩
   ·intro v hv;obtain⟨s,_,rfl⟩:=AkK.1 hv;exact⟨by simp,by simp⟩
   ·obtain⟨d1,d2⟩:=Xg hg (ho dB);have bR:=OR hg rfl;have eR:(BA ls).length=n:=by rw [<- hf,bR,Alh]
    rw [eR] at d1;rcases q1 with ⟨k1,_⟩ | ⟨_,k2,rfl,_⟩ | ⟨_,k2,_⟩
    ·exact absurd aU k1
    ·rw [bR,k2.one d1];exact⟨rfl,rfl⟩
    ·exact absurd ⟨d1,d2⟩ (k2 _)
 ·have dB:0<n:=by omega
  refine (VJ hl hc hs (n:Int)).mono ?_;rintro _ w1 ⟨_,rfl,ns,a1,c1,e1,rfl,R1,B1,l1,hI,q1⟩;have aU:Cj (n:Int):=⟨by omega,by omega⟩;rw [Ak4] at q1;refine⟨_,_,_,_,rfl,?_⟩;refine⟨λ s w2=>∃(i:Nat) (oa:Option Addr) (oc:Nat),s=[.slice oa ((ns.take i).map λ x=>((kind:Int),(x:Int),E0)).length oc,.int .i64 (i:Int)]/\i<=ns.length/\O4 w1 w2 ((ns.take i).map λ x=>((kind:Int),(x:Int),E0)) oa oc,λ s _=>match s with
    | [_,.int _ i]=>ns.length-i.toNat
    | _=>0,⟨0,none,0,rfl,by omega,O4.nil w1⟩,?_⟩
  rintro oa _ oc _ w2 ⟨i,_,_,aA,hi,h2⟩;cases aA;refine Aa (λ aB=>⟨⟨by omega,aB⟩,?_⟩) (λ aJ=>?_)
  ·have aD:i<ns.length:=by omega
   obtain⟨p,rfl,aE⟩:=Dm (R1.grown h2.Ar) aD;refine⟨_,by rw [Ak4];exact aE,(SH.start (λ _=>False) w2).An λ b3 w3 dE B3 S3=>Oy (x:=(kind,ns[i],E0)) (h2.grown B3) (by simp;omega) (S3.get 0 rfl) λ a4 c4 w4 h4=>⟨_,_,_,rfl,?_⟩⟩;have e:(ns.take (i+1)).map (λ x=>((kind:Int),(x:Int),E0))=(ns.take i).map (λ x=>((kind:Int),(x:Int),E0))++[((kind:Int),(ns[i]:Int),E0)]:=by
    rw [AlW aD,Alk];rfl
   rw [Ae (by omega)];refine⟨⟨i+1,a4,c4,by rw [e],by omega,by rw [e];exact h4⟩,?_⟩;simp only [Ak4];omega
  ·have bG:ns.take i=ns:=AlA (by omega);rw [bG] at h2 ⊢;refine⟨_,oa,oc,_,rfl,h2.row.rd,Ac B1 h2.Ar,by simp;omega,?_,λ ls hg hf ho _=>?_⟩
   ·intro v hv;obtain⟨x,hx,rfl⟩:=AkK.1 hv;exact⟨(hI x hx).1,(hI x hx).2⟩
   ·obtain⟨d1,d2⟩:=AbA hg h3 (ho dB);have bR:=Ro hg h3;have eR:(CS ls).length=n:=by rw [<- hf,bR,Alh]
    rw [eR] at d1;rcases q1 with ⟨k1,_⟩ | ⟨_,_,_,k2,rfl⟩ | ⟨_,k2,_⟩
    ·exact absurd aU k1
    ·rw [bR,k2 _ d1];exact⟨rfl,rfl⟩
    ·exact absurd ⟨d1,d2⟩ (k2 _)
end
/-! ### spread -/
theorem Aay(cur:List AB){i:Nat}(hi:i<cur.length)(v:AB) :
  (((⟨AO cur⟩:Array Value).setIfInBounds (i*3) (.int .i64 v.1)).setIfInBounds (i*3+1) (.int .i64 v.2.1)).setIfInBounds (i*3+2) (.string v.2.2)=⟨AO (cur.set i v)⟩:=by
 apply Array.ext';simp only [Array.toList_setIfInBounds];apply List.ext_getElem?;intro j;have hl:=Jl cur;have ay:=Jl (cur.set i v);rw [Ak8] at ay;by_cases hj:j<cur.length*3
 ·have hq:j / 3<cur.length:=by omega
  have e:j=j / 3*3+j % 3:=by omega
  have g1:=HW cur (j / 3) (j % 3) hq (by omega);have g2:=HW (cur.set i v) (j / 3) (j % 3) (by rw [Ak8];exact hq) (by omega);rw [<- e] at g1 g2;rw [g2];simp only [List.getElem?_set,Ak8,hl];by_cases dU:j / 3=i
  ·subst dU;simp only [List.getElem_set_self];rcases (by omega:j % 3=0\/j % 3=1\/j % 3=2) with h | h | h
   ·rw [h] at e ⊢;rw [if_neg (by omega),if_neg (by omega),if_pos (by omega),if_pos (by omega)];rfl
   ·rw [h] at e ⊢;rw [if_neg (by omega),if_pos (by omega),if_pos (by omega)];rfl
   ·rw [h] at e ⊢;rw [if_pos (by omega),if_pos (by omega)];rfl
  ·rw [if_neg (by omega),if_neg (by omega),if_neg (by omega),g1];rw [List.getElem_set_ne (λ h=>dU h.symm)]
 ·rw [AlT (by simp only [Ak8,hl];omega),AlT (by rw [ay];omega)]
theorem W2(n:Nat):madeCells (Value.agg #[.int .i64 0,.int .i64 0,.string ⟨#[]⟩]).cells (n*3)=⟨AO (AkZ n (0,0,E0))⟩:=by
 apply Array.ext';apply List.ext_getElem?;intro j;by_cases hj:j<n*3
 ·have g2:=HW (AkZ n (0,0,E0)) (j / 3) (j % 3) (by rw [List.length_replicate];omega) (by omega);have e:j / 3*3+j % 3=j:=by omega
  rw [e] at g2;rw [g2,List.getElem_replicate];have hc:(Value.agg #[.int .i64 0,.int .i64 0,.string ⟨#[]⟩]).cells=#[.int .i64 0,.int .i64 0,.string ⟨#[]⟩]:=rfl;rw [hc];have aw:(#[Value.int .i64 0,.int .i64 0,.string ⟨#[]⟩]:Array Value).size=3:=rfl;rcases (by omega:j % 3=0\/j % 3=1\/j % 3=2) with h | h | h <;> simp [madeCells,hj,h,HE]
 ·rw [AlT (by rw [Array.length_toList,Mc];omega),AlT (by rw [Jl,List.length_replicate];omega)]
structure Y1(w w':World)(a:Option Addr)(xs:List Value):Prop where
 rd:Rd w' a xs
 new:∀ k,AD a=some k->w.heap.size<=k
theorem Y1.nil(w w':World):Y1 w w' none []:=⟨Rd.nil _ _,λ k hk=>by cases hk⟩
theorem Y1.grown{w w' w2:World}{a:Option Addr}{xs:List Value}(h:Y1 w w' a xs)(B:Below w'.heap.size w' w2):Y1 w w2 a xs:=⟨h.rd.grown B,h.new⟩
theorem Y1.before{w0 w w':World}{a:Option Addr}{xs:List Value}(h:Y1 w w' a xs)(B:Below w0.heap.size w0 w):Y1 w0 w' a xs:=⟨h.rd,λ k hk=>Ali B.size (h.new k hk)⟩
def Akm(bits:List Nat)(vs:List AB)(w w':World)(v:Value):Prop :=
 ∃(os:List AB) (a:Option Addr) (c:Nat) (ok:Bool),v=.tuple #[.slice a os.length c,.bool ok]/\Y1 w w' a (AO os)/\Below w.heap.size w w'/\os.length<=4096/\(∀ v∈os,BN v) /\
  ∀ ls,bits=A3 ls->vs=AQ ls->(∀ v∈ls,v.1=0->v=(0,0,E0))->ok=true/\os=ls
theorem Uy{w:World}{b:Nat}{cs:Array Value}{t:TypeId}(hb:w.heap[b]?=some (.cells cs t (0,0))){p:Addr}{i:Nat}(hp:p=⟨b,i,none⟩){v:Value}{k:World->Prop}(hi:i<cs.size)
  (hk:∀ w',Ai (·=b) w w'->w'.heap[b]?=some (.cells (cs.setIfInBounds i v) t (0,0))->k w'):DV p v k w:=by
 subst hp;exact EO hb hi hk
section
variable {w:World}{a a2:Option Addr}{c c2:Nat}{bits:List Nat}{vs:List AB}
theorem TD(hb:Rd w a (bits.map ES))(hv:Rd w a2 (AO vs))(hn:bits.length<=4096)(mB:vs.length<=4096)(aK:∀ v∈vs,BN v) :
  Calls Tryz.prog f.XT #[.slice a bits.length c,.slice a2 vs.length c2] w (AG λ v w'=>Akm bits vs w w' v):=by
 apply R.NK
 delta R.Ad R.F R.G R.H R.I R.Li R.Lt R.Lu R.O R.MJ R.Rs R.S R.Am R.T R.W R.X;try dsimp only [R.Ps]
 refine Ea Ad0 (l:=(bits.length:Int)) (c:=(bits.length:Int)) (by omega) (by omega) (by omega) (by omega) λ bo w1 fN B1 kH=>?_;rw [Ak4,W2] at kH;rw [Ak4];have low:∀ {w':World},Ai (λ k=>k=bo) w1 w'->Below w.heap.size w w':=λ K=>B1.trans (K.below B1.size λ k hk h=>by omega);refine⟨_,_,_,rfl,λ s w2=>∃(at_ i:Nat) (cur:List AB),s=[.int .i64 (at_:Int),.int .i64 (i:Int)]/\i<=bits.length/\at_<=vs.length/\cur.length=bits.length/\(∀ v∈cur,BN v)/\Ai (λ k=>k=bo) w1 w2/\w2.heap[bo]?=some (.cells ⟨AO cur⟩ ty.AW (0,0)) /\
   (∀ ls,bits=A3 ls->vs=AQ ls->(∀ v∈ls,v.1=0->v=(0,0,E0))->at_=(AQ (ls.take i)).length/\cur=ls.take i++AkZ (bits.length-i) (0,0,E0)),λ s _=>match s with
   | [_,.int _ i]=>bits.length-i.toNat
   | _=>0,⟨0,0,_,rfl,by omega,by omega,by simp,?_,.refl _ _,kH,λ ls _ _ _=>⟨rfl,by simp⟩⟩,?_⟩
 ·intro v hv;rw [(List.mem_replicate.1 hv).2];exact⟨by simp,by simp⟩
 rintro _ _ w2 ⟨at_,i,cur,aA,hi,cU,bM,nX,K2,kr,hT⟩;cases aA;have B2:=low K2;have kS:∀ {ls:List AB},bits=A3 ls->ls.length=bits.length:=λ h=>by rw [h];simp [A3]
 refine Aa (λ aB=>⟨⟨by omega,aB⟩,?_⟩) (λ aJ=>?_)
 ·have aD:i<bits.length:=by omega
  have hic:i<cur.length:=by omega
  obtain⟨p,rfl,aE⟩:=G8 (hb.grown B2) aD;refine⟨_,by rw [Ak4];exact aE,?_⟩;have cL:bits.length-((i+1:Nat):Int).toNat<bits.length-((i:Nat):Int).toNat:=by
   simp only [Ak4];omega
  have bit:∀ {ls:List AB} (h:bits=A3 ls) (hl:i<ls.length),bits[i]=if ls[i].1=0 then 1 else 0:=by
   intro ls h hl;subst h;simp [A3]
  rw [Ae (k:=i) (by omega)];refine Ao (λ h1=>?_) (λ h1=>Ao (λ kz=>?_) (λ aQ=>?_))
  ·refine⟨⟨at_,i+1,cur,rfl,by omega,cU,bM,nX,K2,kr,λ ls g1 g2 g3=>?_⟩,cL⟩;obtain⟨t1,t2⟩:=hT ls g1 g2 g3;have hl:=kS g1;have cp:i<ls.length:=by omega
   have cJ:=bit g1 cp;have hz:ls[i].1=0:=by
    by_cases hz:ls[i].1=0
    ·exact hz
    ·rw [if_neg hz] at cJ;omega
   refine⟨by rw [t1,CT cp,if_pos hz,Al2],?_⟩;rw [t2,AlW cp,g3 _ (AlI cp) hz,Ak2];congr 1;rw [show bits.length-i=(bits.length-(i+1))+1 by omega,Amo];rfl
  ·refine⟨[],none,0,false,rfl,Y1.nil _ _,B2,by simp,by simp,λ ls g1 g2 g3=>?_⟩;exfalso;obtain⟨t1,t2⟩:=hT ls g1 g2 g3;have hl:=kS g1;have cp:i<ls.length:=by omega
   have cJ:=bit g1 cp;have jN:¬ ls[i].1=0:=λ hz=>by rw [if_pos hz] at cJ;omega
   have hle:(AQ (ls.take (i+1))).length<=(AQ ls).length:=by
    unfold AQ;exact ((List.take_sublist (i+1) ls).filter _).length_le
   rw [CT cp,if_neg jN,Ak1,<- t1,<- g2] at hle;simp at hle;omega
  ·have sj:at_<vs.length:=by omega
   obtain⟨p2,gU,c0,c1,c2⟩:=De (hv.grown B2) sj;subst gU;refine⟨⟨by omega,by omega⟩,_,by rw [Ak4];exact c0,_,by rw [Ak4];exact c1,_,by rw [Ak4];exact c2,⟨by omega,by omega⟩,?_⟩;rw [Ak4];have aw:(⟨AO cur⟩:Array Value).size=bits.length*3:=by
    show (AO cur).length=_;rw [Jl,bM]
   refine Uy kr (p:=(⟨bo,0,none⟩:Addr).add (i*3)) (i:=i*3) (by rw [Ax];simp) (by omega) λ w3 K3 gm=>?_;refine Uy gm (p:=((⟨bo,0,none⟩:Addr).add (i*3)).add 1) (i:=i*3+1) (by rw [Ax,Ax];simp) (by simp only [Array.size_setIfInBounds];omega) λ w4 K4 qF=>?_;refine Uy qF (p:=((⟨bo,0,none⟩:Addr).add (i*3)).add 2) (i:=i*3+2) (by rw [Ax,Ax];simp) (by simp only [Array.size_setIfInBounds];omega) λ w5 K5 fD=>?_;rw [Aay cur hic] at fD;rw [Ae (by omega)];refine⟨⟨at_+1,i+1,cur.set i vs[at_],rfl,by omega,by omega,by rw [Ak8];exact bM,?_,((K2.trans K3 (λ _ _ h=>h)).trans K4 (λ _ _ h=>h)).trans K5 (λ _ _ h=>h),fD,λ ls g1 g2 g3=>?_⟩,cL⟩
   ·intro v vA;rcases List.mem_or_eq_of_mem_set vA with h | h
    ·exact nX v h
    ·rw [h];exact aK _ (AlI sj)
   ·obtain⟨t1,t2⟩:=hT ls g1 g2 g3;have hl:=kS g1;have cp:i<ls.length:=by omega
    have cJ:=bit g1 cp;have jN:¬ ls[i].1=0:=λ hz=>by rw [if_pos hz] at cJ;omega
    have bR:=CT cp;rw [if_neg jN] at bR;refine⟨by rw [t1,bR,Ak1];rfl,?_⟩;have gn:vs[at_]=ls[i]:=by
     have cZ:AQ (ls.take (i+1)) <+: AQ ls:=by
      unfold AQ;exact (List.take_prefix (i+1) ls).filter _
     rw [bR] at cZ;obtain⟨r,hr⟩:=cZ;have hv?:vs[at_]?=some ls[i]:=by
      rw [g2,<- hr,Ak2,t1];simp
     rw [List.getElem?_eq_getElem sj] at hv?;exact Al8 hv?
    rw [gn,t2,AlW cp];have eR:(ls.take i).length=i:=by rw [AlX];omega
    rw [List.set_append_right _ _ (by omega),eR,Nat.sub_self,show bits.length-i=(bits.length-(i+1))+1 by omega,Amo,List.set_cons_zero,Ak2];rfl
 ·refine⟨cur,some ⟨bo,0,none⟩,bits.length,_,by rw [bM],?_,B2,by omega,nX,λ ls g1 g2 g3=>?_⟩
  ·exact⟨Rd.Ak kr,λ k hk=>by cases hk;exact fN⟩
  ·obtain⟨t1,t2⟩:=hT ls g1 g2 g3;have hl:=kS g1;have bG:ls.take i=ls:=AlA (by omega);rw [bG] at t1 t2;refine⟨by rw [g2,t1];simp,?_⟩;rw [t2,show bits.length-i=0 by omega];simp
end
def CK(a:Option Addr)(c:Nat)(cs:List BQ):It:=It.row ty.Di 3 a cs.length c (BM cs)
theorem Ait:MN Tryz.prog ty.AX=some (ty.Di,3,32,.agg #[.string ⟨#[]⟩,.int .i64 0,.bool false]):=by kernel_rfl
section
variable {w0 w:World}{H:List It}{a:Option Addr}{c:Nat}{cs:List BQ}
theorem AgZ(S:ST w0 w H)(n:Nat)(hn:H[n]?=some (CK a c cs)):Rd w a (BM cs):=S.rd n hn
theorem Af5(S:ST w0 w H)(n:Nat)(hn:H[n]?=some (CK a c cs)){x:BQ}{b:Nat}(hs:Rd w (some ⟨b,0,none⟩) (Wh x))(hl:cs.length+1<=1000000){f:Value->World->Prop}
  (hf:∀ a' c' w',ST w0 w' (H.set n (CK a' c' (cs++[x])))->f (.slice a' (cs++[x]).length c') w') :
  DE Tryz.prog (Builtin.append_ #[ty.AX,ty.AX] ty.AX #[.slice a cs.length c,.slice (some ⟨b,0,none⟩) 1 1]) f w:=by
 refine S.app n hn Ait rfl (by omega) (by omega) hs (mm:=1) rfl (by simp [Wh];exact⟨rfl,rfl,rfl⟩) (by omega) λ a' c' w' S'=>?_;have e1:(cs++[x]).length=cs.length+1:=by simp
 have e2:BM cs++Wh x=BM (cs++[x]):=by simp [BM]
 rw [e2] at S';have:=hf a' c' w' (by unfold CK;rw [e1];exact S');rwa [e1] at this
end
def Ba(l:List UInt8)(at_:Nat):Nat->Option (List BQ × Nat)
 | 0=>some ([],at_)
 | n+1=>match BD l (at_:Int) 24 with
  | none=>none
  | some x=>if l.length-x.2<2\/1<(l.getD (x.2+1) 0).toNat then none else
   (Ba l (x.2+2) n).map λ r=>((BC x.1,((l.getD x.2 0).toNat:Int),(l.getD (x.2+1) 0).toNat==1) :: r.1,r.2)
def Bk(l:List UInt8)(at_:Int):Option (List BQ × Nat) :=
 match takeN l at_ with
 | none=>none
 | some x=>if 16<x.1 then none else match Ba l x.2 x.1 with
  | none=>none
  | some r=>if Aq r.1 then some r else none
theorem WR{l:List UInt8}{at_:Int}{most:Nat}{s:List UInt8}{k:Nat}(h:BD l at_ most=some (s,k)):s.length<=l.length:=by
 unfold BD at h;split at h
 ·split at h
  ·cases h
  ·simp only [Option.some.injEq,Prod.mk.injEq] at h;obtain⟨rfl,_⟩:=h;rw [AlX,Alu];omega
 ·cases h
def W9(o:Option (List BQ × Nat))(w w':World)(v:Value):Prop :=
 match o with
 | none=>v=.tuple #[.slice none 0 0,.int .i64 0,.int .i64 52]/\Below w.heap.size w w'
 | some r=>∃ a c,v=.tuple #[.slice a r.1.length c,.int .i64 (r.2:Int),.int .i64 0]/\ST w w' [CK a c r.1]
theorem W9.bad{o:Option (List BQ × Nat)}{w w':World}(h:o=none)(B:Below w.heap.size w w'):W9 o w w' (.tuple #[.slice none 0 0,.int .i64 0,.int .i64 52]):=by
 subst h;exact⟨rfl,B⟩
section
variable {w:World}{a:Option Addr}{c:Nat}{l:List UInt8}
theorem ME(hl:Rd w a (l.map Ag)){k:Nat}(h:2<=l.length-k):∃ p,a=some p/\w.cell? (p.add (k*1))=some (.int .u8 ((l.getD k 0).toNat:Int))/\w.cell? (p.add ((k+1)*1))=some (.int .u8 ((l.getD (k+1) 0).toNat:Int)):=by
 have h1:k<l.length:=by omega
 have h2:k+1<l.length:=by omega
 obtain⟨p,rfl,c1⟩:=byte_at hl h1;obtain⟨p',hp,c2⟩:=byte_at hl h2;cases hp;exact⟨p,rfl,by rw [c1];simp [List.getD,h1],by rw [c2];simp [List.getD,h2]⟩
theorem L7(hl:Rd w a (l.map Ag))(hc:l.length<=c)(hs:l.length<=140737488355328)(at_:Int) :
  Calls Tryz.prog f.AaM #[.slice a l.length c,.int .i64 at_] w (AG λ v w'=>W9 (Bk l at_) w w' v):=by
 apply R.OZ
 delta R.Ad R.Gz R.Bz R.Cb R.D R.F R.G R.H R.I R.J R.Ks R.Ly R.N R.O R.Ahz R.S R.T R.U R.W R.Wu R.X;try dsimp only [R.Ps]
 refine (AL hl hc (by omega) at_).mono ?_;rintro _ w1 ⟨_,rfl,rfl,rfl⟩;cases hx:takeN l at_ with
 | none=>exact⟨_,_,_,rfl,Ah (λ _=>.bad (by simp [Bk,hx]) (.refl _ _)) (λ h=>by cases h)⟩
 | some x =>
  obtain⟨n,at0⟩:=x;obtain⟨hn,_,_,dC,_⟩:=Az hx;refine⟨_,_,_,rfl,Ah (λ h=>absurd rfl h) (λ _=>Aa (λ h=>.bad ?_ (.refl _ _)) (λ gM=>?_))⟩
  ·have:16<n:=by simp only at h;omega
   simp [Bk,hx,this]
  have wg:n<=16:=by simp only at gM;omega
  have hT:Bk l at_=match Ba l at0 n with
   | none=>none
   | some r=>if Aq r.1 then some r else none:=by
   have:¬ 16<n:=by omega
   simp [Bk,hx,this]
  rw [hT];refine⟨λ s w2=>∃(i aL:Nat) (cs:List BQ) (ca:Option Addr) (cc:Nat),s=[.int .i64 (aL:Int),.slice ca cs.length cc,.int .u64 (i:Int)]/\i<=n/\cs.length=i/\aL<=l.length/\(∀ c∈cs,c.1.size<=9223372036854775807) /\
    Ba l at0 n=((Ba l aL (n-i)).map λ r=>(cs++r.1,r.2))/\ST w1 w2 [CK ca cc cs],λ s _=>match s with
   | [_,_,.int _ i]=>n-i.toNat
   | _=>0,⟨0,at0,[],none,0,rfl,by omega,rfl,by omega,by simp,by simp,(ST.start w1).nil _ _⟩,?_⟩
  rintro _ ca _ cc _ w2 ⟨i,aL,cs,_,_,aA,hi,uz,cU,hq,aV,S⟩;cases aA;refine Aa (λ aB=>?_) (λ aJ=>?_)
  ·obtain⟨m,hm⟩:∃ m,n-i=m+1:=⟨n-i-1,by simp only at aB;omega⟩;rw [hm] at aV;have ay:=hl.grown S.Ar;refine (Es ay hc (by omega) (aL:Int) 24).mono ?_;rintro _ w3 ⟨_,rfl,rfl,rfl⟩;cases ht:BD l (aL:Int) 24 with
   | none =>
    refine⟨_,_,_,rfl,Ah (λ _=>.bad ?_ S.Ar) (λ h=>by cases h)⟩;rw [aV];simp [Ba,ht]
   | some x =>
    obtain⟨nm,k⟩:=x;have hk:=Md ht;have cC:=WR ht;refine⟨_,_,_,rfl,Ah (λ h=>absurd rfl h) (λ _=>?_)⟩;simp only;rw [wrap_i64 (n:=(l.length:Int)-(k:Int)) (by omega) (by omega),Ae (k:=k) (by omega)];refine Aa (λ h2=>.bad ?_ S.Ar) (λ h2=>?_)
    ·rw [aV];have:l.length-k<2:=by omega
     simp [Ba,ht,this]
    obtain⟨p,rfl,d0,d1⟩:=ME ay (k:=k) (by omega);refine⟨⟨by omega,by omega⟩,_,by rw [Ak4];exact d1,Aa (λ h3=>.bad ?_ S.Ar) (λ h3=>S.draw λ w4 B4 S=>?_)⟩
    ·rw [aV];have:l.length-k<2\/1<(l.getD (k+1) 0).toNat:=.inr (by omega);simp only [Ba,ht,if_pos this,Option.map_none]
    have oX:=ay.grown B4;obtain⟨p',hp',d0,d1⟩:=ME oX (k:=k) (by omega);cases hp';have dX:=(l.getD k 0).toNat_lt;refine⟨⟨by omega,by omega⟩,⟨by omega,by omega⟩,_,by rw [Ak4];exact d0,_,by rw [Ak4];exact d1,?_⟩;rw [wrap_i64 (n:=((l.getD k 0).toNat:Int)) (by omega) (by omega),wrap_i64 (n:=(k:Int)+2) (by omega) (by omega),Aj (n:=(i:Int)+1) (by omega) (by simp only at aB;omega)];obtain⟨x,hx⟩:∃ x:BQ,x=(BC nm,((l.getD k 0).toNat:Int),(l.getD (k+1) 0).toNat==1):=⟨_,rfl⟩;refine S.An λ eh w5 _ _ S=>?_;have aW:Rd w5 (some ⟨eh,0,none⟩) (Wh x):=by
     have h:=S.Gw 0 rfl;have e:(((l.getD (k+1) 0).toNat:Int)==1)=((l.getD (k+1) 0).toNat==1):=by rw [Bool.eq_iff_iff];simp;omega
     rw [e] at h;rw [hx];exact h
    refine Af5 S 1 rfl aW (by simp only at aB;omega) λ a6 c6 w6 S=>⟨_,_,_,rfl,?_⟩;refine⟨⟨i+1,k+2,cs++[x],a6,c6,?_,by simp only at aB;omega,by simp [uz],by omega,?_,?_,S.drop 1⟩,?_⟩
    ·simp only [Ak1,Ak3,Amf,List.cons.injEq,Value.int.injEq,true_and,and_true];constructor <;> omega
    ·intro c hc;rcases AlY.1 hc with h | h
     ·exact hq c h
     ·rw [AlZ.1 h,hx];show (BC nm).size<=_;rw [AY];omega
    ·rw [aV,show n-(i+1)=m by omega];have bW:¬ (l.length-k<2\/1<(l.getD (k+1) 0).toNat):=by omega
     simp only [Ba,ht,bW,if_false,Option.map_map];congr 1;funext r;simp [hx]
    ·show n-((i:Int)+1).toNat<n-(i:Int).toNat;simp only at aB;omega
  ·have:n-i=0:=by simp only at aJ;omega
   rw [this] at aV;simp only [Ba,Amq,Al2] at aV;rw [aV];refine (D8 (AgZ S 0 rfl) (by omega) hq).mono ?_;rintro _ w7 ⟨_,rfl,rfl,B7⟩;refine⟨_,rfl,Au (Ap (λ hR=>?_) (λ hR=>.bad (by simp [hR]) (S.grown B7).Ar))⟩;simp only [hR,if_true];exact⟨ca,cc,rfl,S.grown B7⟩
theorem IC(hl:Rd w a (l.map Ag))(hc:l.length<=c)(hs:l.length<=140737488355328)(at_:Int)(mY:at_<=9223372036854775807) :
  Calls Tryz.prog f.Ac2 #[.slice a l.length c,.int .i64 at_] w (AG λ v w'=>W9 (Bk l at_) w w' v):=by
 apply R.Q2
 delta R.Ad R.Gz R.Bz R.Cb R.D R.F R.G R.H R.I R.J R.Ks R.Ly R.N R.O R.Ll R.S R.T R.W R.X;try dsimp only [R.Ps]
 refine (AJ hl (by omega) at_ mY).mono ?_;rintro _ w1 ⟨_,rfl,rfl,rfl⟩;cases hx:takeN l at_ with
 | none=>exact⟨_,_,_,rfl,Ah (λ _=>.bad (by simp [Bk,hx]) (.refl _ _)) (λ h=>by cases h)⟩
 | some x =>
  obtain⟨n,at0⟩:=x;obtain⟨hn,_,_,dC,_⟩:=Az hx;refine⟨_,_,_,rfl,Ah (λ h=>absurd rfl h) (λ _=>Aa (λ h=>.bad ?_ (.refl _ _)) (λ gM=>?_))⟩
  ·have:16<n:=by simp only at h;omega
   simp [Bk,hx,this]
  have wg:n<=16:=by simp only at gM;omega
  have hT:Bk l at_=match Ba l at0 n with
   | none=>none
   | some r=>if Aq r.1 then some r else none:=by
   have:¬ 16<n:=by omega
   simp [Bk,hx,this]
  rw [hT];simp only;rw [wrap_i64 (n:=(n:Int)) (by omega) (by omega)];refine⟨λ s w2=>∃(i aL:Nat) (cs:List BQ) (ca:Option Addr) (cc:Nat),s=[.int .i64 (aL:Int),.slice ca cs.length cc,.int .i64 (i:Int)]/\i<=n/\cs.length=i/\aL<=l.length/\(∀ c∈cs,c.1.size<=9223372036854775807) /\
    Ba l at0 n=((Ba l aL (n-i)).map λ r=>(cs++r.1,r.2))/\ST w1 w2 [CK ca cc cs],λ s _=>match s with
   | [_,_,.int _ i]=>n-i.toNat
   | _=>0,⟨0,at0,[],none,0,rfl,by omega,rfl,by omega,by simp,by simp,(ST.start w1).nil _ _⟩,?_⟩
  rintro _ ca _ cc _ w2 ⟨i,aL,cs,_,_,aA,hi,uz,cU,hq,aV,S⟩;cases aA;refine Aa (λ aB=>?_) (λ aJ=>?_)
  ·obtain⟨m,hm⟩:∃ m,n-i=m+1:=⟨n-i-1,by omega⟩;rw [hm] at aV;have ay:=hl.grown S.Ar;refine (Ec ay hc (by omega) (aL:Int) (by omega) 24).mono ?_;rintro _ w3 ⟨_,rfl,rfl,rfl⟩;cases ht:BD l (aL:Int) 24 with
   | none =>
    refine⟨_,_,_,rfl,Ah (λ _=>.bad ?_ S.Ar) (λ h=>by cases h)⟩;rw [aV];simp [Ba,ht]
   | some x =>
    obtain⟨nm,k⟩:=x;have hk:=Md ht;have cC:=WR ht;refine⟨_,_,_,rfl,Ah (λ h=>absurd rfl h) (λ _=>?_)⟩;simp only;rw [wrap_i64 (n:=(l.length:Int)-(k:Int)) (by omega) (by omega),Ae (k:=k) (by omega)];refine Aa (λ h2=>.bad ?_ S.Ar) (λ h2=>?_)
    ·rw [aV];have:l.length-k<2:=by omega
     simp [Ba,ht,this]
    obtain⟨p,rfl,d0,d1⟩:=ME ay (k:=k) (by omega);refine⟨⟨by omega,by omega⟩,_,by rw [Ak4];exact d1,Aa (λ h3=>.bad ?_ S.Ar) (λ h3=>S.draw λ w4 B4 S=>?_)⟩
    ·rw [aV];have:l.length-k<2\/1<(l.getD (k+1) 0).toNat:=.inr (by omega);simp only [Ba,ht,if_pos this,Option.map_none]
    have oX:=ay.grown B4;obtain⟨p',hp',d0,d1⟩:=ME oX (k:=k) (by omega);cases hp';have dX:=(l.getD k 0).toNat_lt;refine⟨⟨by omega,by omega⟩,⟨by omega,by omega⟩,_,by rw [Ak4];exact d0,_,by rw [Ak4];exact d1,?_⟩;rw [wrap_i64 (n:=((l.getD k 0).toNat:Int)) (by omega) (by omega),wrap_i64 (n:=(k:Int)+2) (by omega) (by omega),Ae (k:=i) (by omega)];obtain⟨x,hx⟩:∃ x:BQ,x=(BC nm,((l.getD k 0).toNat:Int),(l.getD (k+1) 0).toNat==1):=⟨_,rfl⟩;refine S.An λ eh w5 _ _ S=>?_;have aW:Rd w5 (some ⟨eh,0,none⟩) (Wh x):=by
     have h:=S.Gw 0 rfl;have e:(((l.getD (k+1) 0).toNat:Int)==1)=((l.getD (k+1) 0).toNat==1):=by rw [Bool.eq_iff_iff];simp;omega
     rw [e] at h;rw [hx];exact h
    refine Af5 S 1 rfl aW (by omega) λ a6 c6 w6 S=>⟨_,_,_,rfl,?_⟩;refine⟨⟨i+1,k+2,cs++[x],a6,c6,?_,by omega,by simp [uz],by omega,?_,?_,S.drop 1⟩,?_⟩
    ·simp only [Ak1,Ak3,Amf,List.cons.injEq,Value.int.injEq,true_and,and_true];omega
    ·intro c hc;rcases AlY.1 hc with h | h
     ·exact hq c h
     ·rw [AlZ.1 h,hx];show (BC nm).size<=_;rw [AY];omega
    ·rw [aV,show n-(i+1)=m by omega];have bW:¬ (l.length-k<2\/1<(l.getD (k+1) 0).toNat):=by omega
     simp only [Ba,ht,bW,if_false,Option.map_map];congr 1;funext r;simp [hx]
    ·show n-((i+1:Nat):Int).toNat<n-(i:Int).toNat;omega
  ·have:n-i=0:=by omega
   rw [this] at aV;simp only [Ba,Amq,Al2] at aV;rw [aV];refine (DL (AgZ S 0 rfl) (by omega) hq).mono ?_;rintro _ w7 ⟨_,rfl,rfl,rfl⟩;refine⟨_,rfl,Au (Ap (λ hR=>?_) (λ hR=>.bad (by simp [hR]) S.Ar))⟩;simp only [hR,if_true];exact⟨ca,cc,rfl,S⟩
end
end Go.Proofs.YtpnaifmmggnimaaGreatDoor
namespace Go.Proofs.YtpnaifmmggnimaaGreatDoor
set_option maxRecDepth 100000
open Go.Dn Go.Proofs
open Go.RowKit (Below)
set_option linter.unusedVariables false
/-! ### the order -/
def Dk(x y:Int):Int:=if x<y then -1 else if x > y then 1 else 0
def D3(a b:AB):Int :=
 if Dk a.1 b.1≠0 then Dk a.1 b.1 else if Dk a.2.1 b.2.1≠0 then Dk a.2.1 b.2.1 else Lib.compareBytes (bl a.2.2) (bl b.2.2)
theorem SR(w:World)(x:Int):Calls Tryz.prog f.SS #[.int .i64 x] w (AG λ r w'=>r=.bool false/\w'=w):=by
 apply R.KJ;exact⟨by simp,rfl⟩
theorem V7(w:World)(x y:Int):Calls Tryz.prog f.P8 #[.int .i64 x,.int .i64 y] w (AG λ r w'=>r=.int .i64 (Dk x y)/\w'=w):=by
 apply R.I7
 delta R.Cb R.F R.I;try dsimp only [R.Ps]
 refine (SR w x).mono ?_;rintro _ w ⟨_,rfl,rfl,rfl⟩;refine⟨_,rfl,(SR w y).mono ?_⟩;rintro _ w ⟨_,rfl,rfl,rfl⟩;refine⟨_,rfl,AV (AV (Aa (λ h=>⟨?_,rfl⟩) (λ h=>Aa (λ h2=>⟨?_,rfl⟩) (λ h2=>⟨?_,rfl⟩))))⟩
 ·simp [Dk,h]
 ·simp [Dk,h,h2]
 ·simp [Dk,h,h2]
theorem UL(w:World)(x:Int):Calls Tryz.prog f.cmp_isNaN_int #[.int .i64 x] w (AG λ r w'=>r=.bool false/\w'=w):=by
 apply R.M3
 delta R.G;try dsimp only [R.Ps]
 exact⟨by simp,rfl⟩
theorem Ai2(x y:Int)(w:World):Calls Tryz.prog f.Ke #[.int .i64 x,.int .i64 y] w λ e w'=>e=.returned (.int .i64 (Dk x y))/\w'=w:=by
 have h:Calls Tryz.prog f.Ke #[.int .i64 x,.int .i64 y] w (AG λ r w'=>r=.int .i64 (Dk x y)/\w'=w):=by
  apply R.Kt
  delta R.Cb R.F R.I;try dsimp only [R.Ps]
  refine (UL w x).mono ?_;rintro _ w ⟨_,rfl,rfl,rfl⟩;refine⟨_,rfl,(UL w y).mono ?_⟩;rintro _ w ⟨_,rfl,rfl,rfl⟩;refine⟨_,rfl,AV (AV (Aa (λ h=>⟨?_,rfl⟩) (λ h=>Aa (λ h2=>⟨?_,rfl⟩) (λ h2=>⟨?_,rfl⟩))))⟩
  ·simp [Dk,h]
  ·simp [Dk,h,h2]
  ·simp [Dk,h,h2]
 refine h.mono ?_;rintro _ _ ⟨_,rfl,rfl,rfl⟩;exact⟨rfl,rfl⟩
theorem Ah2{w:World}{b:Nat}{t:TypeId}(x y z:Int)(hb:w.heap[b]?=some (.cells #[.int .i64 x,.int .i64 y,.int .i64 z] t (0,0))) :
  Calls Tryz.prog f.AcK #[.slice (some ⟨b,0,none⟩) 3 3] w (AG λ r w'=>r=.int .i64 (if x≠0 then x else if y≠0 then y else z)/\w'=w):=by
 apply R.Sb
 delta R.Ad R.F R.I R.Li R.Qi R.W R.X;try dsimp only [R.Ps]
 have cell:∀(k:Nat) (v:Value),[Value.int .i64 x,.int .i64 y,.int .i64 z][k]?=some v->w.cell? ((⟨b,0,none⟩:Addr).add ((k:Int).toNat*1))=some v:=by
  intro k v hv;rw [Int.toNat_natCast,Nat.mul_one,Ax,Nat.zero_add];simp only [World.cell?,hb];simpa using hv
 refine⟨λ s w1=>w1=w/\(s=[.int .i64 ((0:Nat):Int)]\/(s=[.int .i64 ((1:Nat):Int)]/\x=0)\/(s=[.int .i64 ((2:Nat):Int)]/\x=0/\y=0)\/(s=[.int .i64 ((3:Nat):Int)]/\x=0/\y=0/\z=0)),
  λ s _=>match s with
   | [.int _ i]=>3-i.toNat
   | _=>0,⟨rfl,.inl rfl⟩,?_⟩
 rintro i w1 ⟨rfl,hs⟩;rcases hs with hs | ⟨hs,h0⟩ | ⟨hs,h0,h1⟩ | ⟨hs,h0,h1,h2⟩
 ·cases hs;refine CQ ⟨by decide,_,cell 0 _ rfl,Ah (λ h=>⟨by rw [if_pos h],rfl⟩) (λ h=>?_)⟩;rw [Ae (by omega)];exact⟨⟨rfl,.inr (.inl ⟨rfl,h⟩)⟩,show 2<3 by decide⟩
 ·cases hs;refine CQ ⟨by decide,_,cell 1 _ rfl,Ah (λ h=>⟨by rw [if_neg (by omega),if_pos h],rfl⟩) (λ h=>?_)⟩;rw [Ae (by omega)];exact⟨⟨rfl,.inr (.inr (.inl ⟨rfl,h0,h⟩))⟩,show 1<2 by decide⟩
 ·cases hs;refine CQ ⟨by decide,_,cell 2 _ rfl,Ah (λ h=>⟨by rw [if_neg (by omega),if_neg (by omega)],rfl⟩) (λ h=>?_)⟩;rw [Ae (by omega)];exact⟨⟨rfl,.inr (.inr (.inr ⟨rfl,h0,h1,h⟩))⟩,show 0<1 by decide⟩
 ·cases hs;exact AV ⟨by rw [if_neg (by omega),if_neg (by omega),h2],rfl⟩
theorem Jm(w:World)(a b:AB):Calls Tryz.prog f.VY #[Th a,Th b] w (AG λ r w'=>r=.int .i64 (D3 a b)/\Below w.heap.size w w'):=by
 apply R.ML
 delta R.A R.Ab R.Ci R.D R.I R.J R.Li R.Lt R.N R.S R.T;try dsimp only [R.Ps]
 refine (SH.start (λ _=>False) w).An λ b7 w1 px B1 S1=>S1.An λ b8 w2 pt B2 S2=>S2.E9 λ w3 B3 S3=>?_;refine⟨_,S3.cell 1 rfl rfl,_,S3.cell 0 rfl rfl,_,S3.cell 1 rfl rfl,_,S3.cell 0 rfl rfl,_,S3.cell 1 rfl rfl,_,S3.cell 0 rfl rfl,(Ai2 _ _ w3).mono ?_⟩;rintro _ w3 ⟨rfl,rfl⟩;refine⟨_,rfl,S3.cell 0 rfl rfl,S3.cell 1 rfl rfl,S3.cell 0 rfl rfl,S3.cell 1 rfl rfl,(V7 w3 _ _).mono ?_⟩;rintro _ w3 ⟨_,rfl,rfl,rfl⟩;refine⟨_,rfl,S3.cell 0 rfl rfl,S3.cell 1 rfl rfl,(Tryz.strings_Compare _ _ w3).mono ?_⟩;rintro _ w3 ⟨rfl,rfl⟩;refine⟨_,rfl,S3.An λ eh w7 jQ B7 S7=>(Ah2 _ _ _ (S7.get 0 rfl)).mono ?_⟩;rintro _ w7 ⟨_,rfl,rfl,rfl⟩;exact⟨_,rfl,rfl,S7.below⟩
def I3(a b:AB):Bool:=if a.1≠b.1 then decide (a.1<b.1) else if a.1=3 then EJ a.2.2 b.2.2 else decide (a.2.1<b.2.1)
theorem Sc(w:World)(a b:AB):Calls Tryz.prog f.AbT #[Th a,Th b] w (AG λ r w'=>r=.bool (I3 a b)/\Below w.heap.size w w'):=by
 apply R.Q9
 delta R.A R.Ab R.F R.G R.I R.Li R.Lt R.N R.T;try dsimp only [R.Ps]
 refine (SH.start (λ _=>False) w).An λ b7 w1 px B1 S1=>S1.An λ b8 w2 pt B2 S2=>?_;refine⟨_,S2.cell 1 rfl rfl,_,S2.cell 0 rfl rfl,Ah (λ h=>⟨_,S2.cell 1 rfl rfl,_,S2.cell 0 rfl rfl,by simp [I3,h],S2.below⟩) (λ h=>⟨_,S2.cell 1 rfl rfl,Ao (λ h3=>⟨_,S2.cell 1 rfl rfl,_,S2.cell 0 rfl rfl,?_,S2.below⟩) (λ h3=>⟨_,S2.cell 1 rfl rfl,_,S2.cell 0 rfl rfl,?_,S2.below⟩)⟩)⟩
 ·simp only [I3];rw [if_neg (by simp [h]),if_pos h3]
 ·simp only [I3];rw [if_neg (by simp [h]),if_neg h3]
def WL(a b:AB):Int:=if I3 a b=true then -1 else if I3 b a=true then 1 else 0
theorem Lo(w:World)(a b:AB):Calls Tryz.prog f.Wm #[Th a,Th b] w (AG λ r w'=>r=.int .i64 (WL a b)/\Below w.heap.size w w'):=by
 apply R.MT
 delta R.A R.Ab R.Cb R.E R.F R.I R.Li R.Lt R.N R.T;try dsimp only [R.Ps]
 refine (SH.start (λ _=>False) w).An λ b7 w1 px B1 S1=>S1.An λ b8 w2 pt B2 S2=>?_;refine⟨_,S2.cell 1 rfl rfl,_,S2.cell 1 rfl rfl,_,S2.cell 1 rfl rfl,_,S2.cell 0 rfl rfl,_,S2.cell 0 rfl rfl,_,S2.cell 0 rfl rfl,(Sc w2 a b).mono ?_⟩;rintro _ w3 ⟨_,rfl,rfl,B3⟩;have S3:=S2.grown B3;refine⟨_,rfl,_,S3.cell 0 rfl rfl,_,S3.cell 0 rfl rfl,_,S3.cell 0 rfl rfl,_,S3.cell 1 rfl rfl,_,S3.cell 1 rfl rfl,_,S3.cell 1 rfl rfl,(Sc w3 b a).mono ?_⟩;rintro _ w4 ⟨_,rfl,rfl,B4⟩;refine⟨_,rfl,Ap (λ h=>⟨by simp [WL,h],(S3.grown B4).below⟩) (λ h=>Ap (λ h2=>⟨by simp [WL,h,h2],(S3.grown B4).below⟩) (λ h2=>⟨by simp [WL,h,h2],(S3.grown B4).below⟩))⟩
end Go.Proofs.YtpnaifmmggnimaaGreatDoor
