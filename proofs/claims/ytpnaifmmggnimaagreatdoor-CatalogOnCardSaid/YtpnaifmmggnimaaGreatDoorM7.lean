/- Texts of this claim, laid one behind the other by a program of mine. -/
import Derived.Test.YtpnaifmmggnimaaGreatDoorM6
import Derived.Test.YtpnaifmmggnimaaGreatDoorM5
import Derived.Test.YtpnaifmmggnimaaGreatDoorM4
namespace Go.Proofs.YtpnaifmmggnimaaGreatDoor
open R
open _root_.Go.Proofs.Tryz renaming prog -> Aix
open _root_.Int renaming toNat_natCast -> Ait
open _root_.List renaming append_assoc -> Air, append_nil -> Ajr, drop_drop -> AjM, getElem?_eq_none -> Aji, getElem_mem -> Ai7, length -> AjO, length_append -> Aiq, length_cons -> Ais, length_drop -> AiT, length_map -> AiH, length_nil -> AjE, length_pos_iff -> Ajw, length_set -> Aiy, length_take -> Ajm, map_append -> AiK, mem_append -> Ajn, mem_map -> Ah9, mem_singleton -> Ajo, replicate -> Aio, replicate_succ -> AjN, take_of_length_le -> AiZ, take_succ_eq_append_getElem -> Ajl
open _root_.Nat renaming le_trans -> AiI
open _root_.Option renaming bind_some -> AjK, getD_some -> AjL, map_some -> AjP
open _root_.Option.some renaming inj -> Ajx
open _root_.UInt8 renaming ofNat -> Aiz
set_option maxRecDepth 100000
open Go.Dn Go.Proofs
open Go.RowKit (Below)
set_option linter.unusedVariables false
section
variable {w:World}{a:Option Addr}{c:Nat}{ls:List AD}
theorem PU{kind:Int}(hg:Bb kind ls)(hl:Rd w a (AR ls)) :
  Cw 192 #[.int .i64 kind,.slice a ls.length c] w λ v w'=>∃ b a' c',v=.slice a' b.length c'/\DR kind ls b/\Bj w w' b a' c':=by
 have hlen:=hg.len;apply LY
 delta A Ab LV AM Cf D E F I J Ks Li Ls Lt N O S Am T;try dsimp only [Ps]
 refine (SH.start (λ _=>False) w).An λ b3 w1 dI B1 S1=>S1.An λ b4 w2 kM B2 S2=>Mn.mono ?_;rintro _ w9 ⟨_,rfl,bI,rfl,P9⟩;refine⟨_,_,_,rfl,by kernel_rfl,λ rr aA dZ hy=>?_⟩;obtain⟨W1,hW1⟩:∃ W1,W1=(w9.alloc (.deferred (some []))).alloc (.loop rr):=⟨_,rfl⟩;rw [<- hW1];have gH:Below w9.heap.size w9 W1:=by rw [hW1];exact (((Below.refl _ w9).alloc (Nat.le_refl _) _).alloc Osi _)
 have sy:W1.heap.size=w9.heap.size+2:=by rw [hW1];simp
 have gm:W1.heap[w9.heap.size+1]?=some (.loop rr):=by
  rw [hW1];have:=World.alloc_heap_new (w9.alloc (.deferred (some []))) (.loop rr);rwa [World.size_alloc] at this
 have kh:W1.heap[w9.heap.size]?=some (.deferred (some [])):=by
  rw [hW1];exact (Below.heap_alloc _ _ _ Osi).trans (World.alloc_heap_new w9 _)
 have eN:=Ak.AB (F:=λ _=>False) gH;obtain⟨L,hLd⟩:∃ L,L=w9.heap.size+1:=⟨_,rfl⟩;rw [<- hLd] at gm hy ⊢;have S9:=S2.grown P9.below;have h39:=S9.lt (x:=(b3,_,_)) (List.mem_cons_of_mem _ (List.mem_cons_self ..));have h49:=S9.lt (x:=(b4,_,_)) (List.mem_cons_self ..);have jU:b4≠b3:=S9.ne 0 1 rfl rfl Ode;have Bw9:Below w.heap.size w w9:=S9.below;have Bw1:Below w.heap.size w W1:=Bw9.trans (gH.mono Bw9.size);have zN:=Bw9.size;have ux:w.heap.size<=b3:=dI;have qO:w.heap.size<=b4:=by have:=B1.size;omega
 let F:Nat->Prop:=λ x=>x=b3\/x=b4\/x=L;let J:Nat->World->Prop:=λ q wx=>Ak F W1 wx/\wx.heap[L]?=some (.loop rr)/\∃ na nc sa sc,wx.heap[b3]?=some (.cells #[.slice na (CK (ls.take q)).length nc] 103 (0,0)) /\
  wx.heap[b4]?=some (.cells #[.slice sa (BC (ls.take q)).length sc] 50 (0,0))/\UF W1.heap.size wx (CK (ls.take q)) na nc (BC (ls.take q)) sa sc
 have low:∀ {w':World},Ak F W1 w'->Below w.heap.size w w':=λ K=>Bw1.trans (K.below Bw1.size λ k hk h=>by
  rcases h with h | h | h <;> omega)
 have hI:W1.cell? ⟨bI,0,none⟩=some (.slice a ls.length c):=Di (eN.at (P9.get 0 rfl) Osi);have bB:=Ty (w:=W1) (L:=L) (b:=bI) Omg J (λ q wx hj=>hl.grown (low hj.1)) (λ q wx wy hj B=>by
   obtain⟨j1,j2,na,nc,sa,sc,j3,j4,j5⟩:=hj;have K:=Ak.AB (F:=λ _=>False) B;exact⟨j1.trans K (λ x _ h=>h.elim),K.at j2 Osi,na,nc,sa,sc,K.at j3 Osi,K.at j4 Osi,j5.grown B⟩) (λ q wx hq hz hj=>by
   obtain⟨j1,j2,na,nc,sa,sc,j3,j4,j5⟩:=hj;obtain⟨e1,e2⟩:=(Qn hq).1 hz;exact⟨j1,j2,na,nc,sa,sc,by rw [e1];exact j3,by rw [e2];exact j4,by rw [e1,e2];exact j5⟩) (by
  rintro q wx hq aQ ⟨K,hL,na,nc,sa,sc,g3,g4,hT⟩;obtain⟨e1,e2⟩:=(Qn hq).2 aQ;have fB:=IJ (ls.take q);have iA:=F5 (ls.take q);rw [Ajm] at fB iA;refine hy _ _ _ _ wx hL ?_;refine (SH.start (λ _=>False) wx).Ic λ ij w8 uv B8 S8=>?_;have K8:=Ak.AB (F:=λ _=>False) B8;have yS:=K8.at hL Osi;refine⟨yS,?_⟩;obtain⟨wB,hwB⟩:∃ wB,wB=w8.putObj L (.loop { rr with state:=.busy }):=⟨_,rfl⟩;rw [<- hwB];have eZ:L<w8.heap.size:=(Array.getElem?_eq_some_iff.1 yS).1;have KB:Ak (λ k=>k=L) w8 wB:=by rw [hwB];exact AO _ _ _
  have uf:wB.heap[L]?=some (.loop { rr with state:=.busy }):=by rw [hwB];exact World.putObj_heap_same eZ
  unfold PF;obtain⟨wD,hwD⟩:∃ wD,wD=wB.drew:=⟨_,rfl⟩;rw [<- hwD];have KD:Ak (λ _=>False) wB wD:=by rw [hwD];exact (Ak.refl _ _).drew
  have sx:=K.size;have s8:=B8.size;have d3:wD.heap[b3]?=some (.cells #[.slice na (CK (ls.take q)).length nc] 103 (0,0)):=KD.at (KB.at (K8.at g3 Osi) (by show ¬ b3=L;omega)) Osi;have d4:wD.heap[b4]?=some (.cells #[.slice sa (BC (ls.take q)).length sc] 50 (0,0)):=KD.at (KB.at (K8.at g4 Osi) (by show ¬ b4=L;omega)) Osi;have dL:wD.heap[L]?=some (.loop { rr with state:=.busy }):=KD.at uf Osi;have d11:wD.heap[ij]?=some (.cells #[.int .i64 ls[q].1,.int .i64 ls[q].2.1,.string ls[q].2.2] 120 (0,0)):=KD.at (KB.at (S8.get 0 rfl) (by show ¬ ij=L;omega)) Osi;have dT:UF W1.heap.size wD (CK (ls.take q)) na nc (BC (ls.take q)) sa sc:=((hT.grown B8).keeps KB (λ x hx=>.inl Omg)).keeps KD Osi;have dK:Ak F W1 wD:=((K.trans K8 (λ x _ h=>h.elim)).trans KB (λ x _ h=>.inr (.inr h))).trans KD (λ x _ h=>h.elim);have l3:b3<W1.heap.size:=Omg;have l4:b4<W1.heap.size:=Omg;have lL:L<W1.heap.size:=Omg;have l11:W1.heap.size<=ij:=Omg
  have fin:∀(wy:World) (sl:Option Addr) (sm:Nat) (sv:Option Addr) (sw:Nat),Ak F W1 wy->wy.heap[L]?=some (.loop { rr with state:=.busy })->wy.heap[b3]?=some (.cells #[.slice na (CK (ls.take q)).length nc] 103 (0,0)) ->
    wy.heap[b4]?=some (.cells #[.slice sa (BC (ls.take q)).length sc] 50 (0,0))->UF W1.heap.size wy (CK (ls.take q)++[ls[q].2.1]) sl sm (BC (ls.take q)++[ls[q].2.2]) sv sw ->
    DG ⟨b3,0,none⟩ (.slice sl (CK (ls.take q)++[ls[q].2.1]).length sm) (λ ah=>DG ⟨b4,0,none⟩ (.slice sv (BC (ls.take q)++[ls[q].2.2]).length sw) (λ cd=>FO rr L (λ y w'=>y=true/\(Ak F W1 w'/\w'.heap[L]?=some (.loop rr)/\∃ na nc sa sc,w'.heap[b3]?=some (.cells #[.slice na (CK (ls.take (q+1))).length nc] 103 (0,0)) /\
  w'.heap[b4]?=some (.cells #[.slice sa (BC (ls.take (q+1))).length sc] 50 (0,0))/\UF W1.heap.size w' (CK (ls.take (q+1))) na nc (BC (ls.take (q+1))) sa sc)) none cd) ah) wy:=by
   intro wy sl sm sv sw yK yL y3 y4 yT;refine EH y3 Osi λ wz Kz z3=>EH (Kz.at y4 jU) Osi λ wq Kq q4=>?_;have qL:wq.heap[L]?=some (.loop { rr with state:=.busy }):=Kq.at (Kz.at yL (by show ¬ L=b3;omega)) (by show ¬ L=b4;omega);refine⟨qL,rfl,?_⟩;rw [Il aA dZ];have lq:L<wq.heap.size:=(Array.getElem?_eq_some_iff.1 qL).1;have KP:=AO wq L (.loop rr);have q3:=Kq.at z3 (show ¬ b3=b4 from λ h=>jU h.symm);refine⟨((yK.trans Kz (λ x _ h=>.inl h)).trans Kq (λ x _ h=>.inr (.inl h))).trans KP (λ x _ h=>.inr (.inr h)),World.putObj_heap_same lq,sl,sm,sv,sw,?_,?_,?_⟩
   ·rw [e1];exact KP.at q3 (by show ¬ b3=L;omega)
   ·rw [e2];exact KP.at q4 (by show ¬ b4=L;omega)
   ·rw [e1,e2];exact ((yT.keeps Kz (λ x hx=>.inl Omg)).keeps Kq (λ x hx=>.inl Omg)).keeps KP (λ x hx=>.inl Omg)
  have cr:∀ {x:Nat},x<W1.heap.size->¬ AF na=some x:=λ hx h=>by have:=hT.nn _ h;omega
  have dU:∀ {x:Nat},x<W1.heap.size->¬ AF sa=some x:=λ hx h=>by have:=hT.sn _ h;omega
  have sB:w8.heap.size<=wB.heap.size:=KB.size;have sD:wB.heap.size<=wD.heap.size:=KD.size;have tv:wD.cell? ⟨ij,1,none⟩=some (.int .i64 ls[q].2.1):=by simp [World.cell?,d11]
  have tw:wD.cell? ⟨ij,2,none⟩=some (.string ls[q].2.2):=by simp [World.cell?,d11]
  refine⟨_,_,_,Di d3,_,tv,_,_,_,Di d4,_,tw,?_,?_⟩
  ·refine (SH.start (λ _=>False) wD).An λ dH wE iL BE SE=>?_;have KE:=Ak.AB (F:=λ _=>False) BE;have f3:=KE.at d3 Osi;have f4:=KE.at d4 Osi;have fL:=KE.at dL Osi;have f11:=KE.at d11 Osi;have fT:=dT.grown BE;have fK:Ak F W1 wE:=dK.trans KE (λ x _ h=>h.elim);have sE:=BE.size;refine⟨by simp [World.cell?,f11],Di f4,Di f3,?_,?_⟩
   ·refine fT.Ae5 Omg Omg (SE.get 0 rfl) λ aN cN wN hN KN=>⟨_,_,_,rfl,?_⟩;have n11:¬ AF na=some ij:=λ h=>by have:=hT.rn.lt h;omega
    have m11:=KN.at f11 n11;have m3:=KN.at f3 (cr l3);have m4:=KN.at f4 (cr l4);have mL:=KN.at fL (cr lL);have mK:Ak F W1 wN:=fK.trans KN (λ x hx h=>absurd h (cr hx));have sN:=KN.size;refine⟨by simp [World.cell?,m11],Di m4,(SH.start (λ _=>False) wN).An λ b19 wO qM BO SO=>⟨Di ((Ak.AB (F:=λ _=>False) BO).at m4 Osi),?_⟩⟩;have KO:=Ak.AB (F:=λ _=>False) BO;have sO:=BO.size;refine (hN.grown BO).Ae6 Omg Omg (SO.get 0 rfl) λ aS cS wS hS KS=>⟨_,_,_,rfl,?_⟩;refine fin wS aN cN aS cS ((mK.trans KO (λ x _ h=>h.elim)).trans KS (λ x hx h=>absurd h (dU hx))) (KS.at (KO.at mL Osi) (dU lL)) (KS.at (KO.at m3 Osi) (dU l3)) (KS.at (KO.at m4 Osi) (dU l4)) hS
   ·refine (SH.start (λ _=>False) wE).An λ rp wO hb22 BO SO=>?_;have KO:=Ak.AB (F:=λ _=>False) BO;have sO:=BO.size;have o3:=KO.at f3 Osi;have o4:=KO.at f4 Osi;have oL:=KO.at fL Osi;have o16:wO.heap[dH]?=some (.cells #[.int .i64 ls[q].2.1] 2 (0,0)):=KO.at (SE.get 0 rfl) Osi;have oK:Ak F W1 wO:=fK.trans KO (λ x _ h=>h.elim);refine⟨Di o4,Di o3,(fT.grown BO).Ae5 Omg Omg o16 λ aN cN wN hN KN=>⟨_,_,_,rfl,Di (KN.at o4 (cr l4)),?_⟩⟩;have n22:¬ AF na=some rp:=λ h=>by have:=hT.rn.lt h;omega
    have sN:=KN.size;refine hN.Ae6 Omg Omg (KN.at (SO.get 0 rfl) n22) λ aS cS wS hS KS=>⟨_,_,_,rfl,?_⟩;exact fin wS aN cN aS cS ((oK.trans KN (λ x hx h=>absurd h (cr hx))).trans KS (λ x hx h=>absurd h (dU hx))) (KS.at (KN.at oL (cr lL)) (dU lL)) (KS.at (KN.at o3 (cr l3)) (dU l3)) (KS.at (KN.at o4 (cr l4)) (dU l4)) hS
  ·refine (SH.start (λ _=>False) wD).An λ pW wE hb27 BE SE=>?_;have KE:=Ak.AB (F:=λ _=>False) BE;have f3:=KE.at d3 Osi;have f4:=KE.at d4 Osi;have fL:=KE.at dL Osi;have f11:=KE.at d11 Osi;have fT:=dT.grown BE;have fK:Ak F W1 wE:=dK.trans KE (λ x _ h=>h.elim);have sE:=BE.size;refine⟨Di f4,by simp [World.cell?,f11],Di f3,(SH.start (λ _=>False) wE).An λ mX wO kv BO SO=>?_⟩;have KO:=Ak.AB (F:=λ _=>False) BO;have sO:=BO.size;have o3:=KO.at f3 Osi;have o4:=KO.at f4 Osi;have oL:=KO.at fL Osi;have o27:wO.heap[pW]?=some (.cells #[.string ls[q].2.2] 9 (0,0)):=KO.at (SE.get 0 rfl) Osi;have oK:Ak F W1 wO:=fK.trans KO (λ x _ h=>h.elim);refine⟨Di o4,Di o3,(fT.grown BO).Ae5 Omg Omg (SO.get 0 rfl) λ aN cN wN hN KN=>⟨_,_,_,rfl,Di (KN.at o4 (cr l4)),?_⟩⟩;have n27:¬ AF na=some pW:=λ h=>by have:=hT.rn.lt h;omega
   have sN:=KN.size;refine hN.Ae6 Omg Omg (KN.at o27 n27) λ aS cS wS hS KS=>⟨_,_,_,rfl,?_⟩;exact fin wS aN cN aS cS ((oK.trans KN (λ x hx h=>absurd h (cr hx))).trans KS (λ x hx h=>absurd h (dU hx))) (KS.at (KN.at oL (cr lL)) (dU lL)) (KS.at (KN.at o3 (cr l3)) (dU l3)) (KS.at (KN.at o4 (cr l4)) (dU l4)) hS)
  ⟨.refl _ _,gm,none,0,none,0,eN.at (S9.get 1 rfl) Osi,eN.at (S9.get 0 rfl) Osi,UF.nil _ _⟩ hI
 refine bB.mono ?_;rintro _ au ⟨_,rfl,jB,dP,na,nc,sa,sc,g3,g4,hT⟩;rw [List.take_length] at g3 g4 hT;refine⟨⟨_,rfl⟩,none,by rw [Il aA dZ];exact dP,rfl,?_⟩;obtain⟨ah,hw15⟩:∃ ah,ah=au.putObj L (.loop { rr with state:=.exhausted,pending:=none }):=⟨_,rfl⟩;rw [<- hw15];have gI:Ak (λ k=>k=L) au ah:=by rw [hw15];exact AO _ _ _
 have KF:=jB.trans gI (λ x _ h=>.inr (.inr h));have lf:=gI.at g3 (show ¬ b3=L by omega);have yM:=gI.at g4 (show ¬ b4=L by omega);have p5:=hT.keeps gI (λ x hx=>.inl Omg);have gL:ah.heap[w9.heap.size]?=some (.deferred (some [])):=KF.at kh (by show ¬ (w9.heap.size=b3\/w9.heap.size=b4\/w9.heap.size=L);omega);have eB:=low KF;have iv:(BC ls).length<=9223372036854775807:=by have:=F5 ls;omega
 have qx:(CK ls).length<=4096:=by have:=IJ ls;omega
 have s15:=KF.size;have pv:∀ {wz:World} {b:List UInt8} {az:Option Addr} {cz:Nat},Bj ah wz b az cz->wz.heap[w9.heap.size]?=some (.deferred (some []))/\Bj w (wz.putObj w9.heap.size (.deferred none)) b az cz:=by
  intro wz b az cz hN;have KP:=AO wz w9.heap.size (.deferred none);have hB:=Ac eB hN.Ar;refine⟨(Ak.AB (F:=λ _=>False) hN.Ar).at gL Osi,hN.row.keeps KP λ x hx he=>by have:=hN.new x hx;omega,λ k hk=>by have:=hN.new k hk;omega,hB.trans (KP.below hB.size λ k hk he=>Omg)⟩
 refine Ap (λ h3=>⟨_,_,_,Di yM,?_⟩) (λ h3=>⟨_,_,_,Di lf,?_⟩)
 ·refine (WE p5.rs.rd iv).mono ?_;rintro _ eU ⟨_,rfl,hB,fx⟩;rcases hB with ⟨aP,_⟩ | ⟨b0,b1,h0,h1,_,rfl⟩
  ·exact absurd (hg.enc 0 Omg) aP
  refine⟨_,_,rfl,_,_,_,Di ((Ak.AB (F:=λ _=>False) fx).at yM Osi),?_⟩;have hf:0<=(if b1.length<b0.length then (1:Int) else 0)/\(if b1.length<b0.length then (1:Int) else 0)<=1:=by split <;> omega
  refine (Fs _ (p5.rs.rd.grown fx) iv).mono ?_;rintro _ kW ⟨_,rfl,hE⟩;rcases hE with ⟨aP,_⟩ | ⟨_,b,az,cz,hE,rfl,hN⟩
  ·exact absurd (hg.enc _ hf) aP
  obtain⟨q1,q2⟩:=pv (hN.before fx);refine⟨_,_,_,_,rfl,q1,b,az,cz,rfl,?_,q2⟩;have:=DR.text (kind:=kind) (ls:=ls) h3 b0 b1 h0 h1;split at hE
  ·rename_i aB;rw [if_pos aB] at this;rw [hE.one h1];exact this
  ·rename_i aB;rw [if_neg aB] at this;rw [hE.one h0];exact this
 ·refine (WS p5.rn.rd p5.rn.le qx hg.Acu).mono ?_;rintro _ eU ⟨_,rfl,rfl,fx⟩;refine⟨_,_,rfl,_,_,_,Di ((Ak.AB (F:=λ _=>False) fx).at lf Osi),(Hn _ (p5.rn.rd.grown fx) p5.rn.le hg.Acu).mono ?_⟩;rintro _ kW ⟨_,rfl,hE⟩;obtain⟨az,cz,rfl,hN⟩:=JE.DN (Od _) qx hE;obtain⟨q1,q2⟩:=pv (hN.before fx);exact⟨_,_,_,_,rfl,q1,_,az,cz,rfl,.num h3,q2⟩
end
theorem Ahr(r:BitVec 32):Int.tmod (r.toNat:Int) 2=if r.getLsbD 0 then 1 else 0:=by
 rw [Int.tmod_eq_emod_of_nonneg Omg];have h:r.getLsbD 0=decide (r.toNat % 2=1):=by
  simp [BitVec.getLsbD,Nat.testBit_zero]
 rw [h];by_cases hh:r.toNat % 2=1 <;> simp [hh] <;> omega
theorem Ahq(r:BitVec 32):Int.tdiv (r.toNat:Int) 2=((r >>> 1).toNat:Int):=by
 rw [Int.tdiv_eq_ediv_of_nonneg Omg,BitVec.toNat_ushiftRight,Nat.shiftRight_eq_div_pow]
 norm_cast
theorem W5{w:World}{a:Option Addr}{c:Nat}(l:List UInt8)(hb:Rd w a (l.map Ag))(hl:l.length<9223372036854775807) :
  Cw 145 #[.slice a l.length c] w λ v w'=>v=.int .u32 ((crc l).toNat:Int)/\w'=w:=by
 apply RS
 delta Ad F I Ly Qvi V W Wv X;try dsimp only [Ps]
 refine⟨λ s w2=>match s with
   | [.int _ r,.int _ i]=>w2=w/\∃ j:Nat,i=j/\j<=l.length/\r=((CP 4294967295#32 (l.take j)).toNat:Int)
   | _=>False,
  λ s _=>match s with
   | [_,.int _ i]=>l.length-i.toNat
   | _=>0,⟨rfl,0,rfl,Nat.zero_le _,by simp [CP]⟩,?_⟩
 rintro r i w2 ⟨rfl,j,rfl,hj,rfl⟩;refine Aa (λ av=>?_) (λ bz=>?_)
 ·have f':j<l.length:=Omg;refine⟨⟨Omg,Omg⟩,?_⟩;obtain⟨p2,rfl,cI⟩:=hb j (Ag l[j]) (by simp [f']);have rF:=HT l j f' 4294967295#32;generalize hR2:CP 4294967295#32 (l.take j)=R2 at rF ⊢;refine⟨(l[j].toNat:Int),by simpa [Ag] using cI,?_⟩;have h0:(IntKind.u32.wrap (((BitVec.ofInt 32 (R2.toNat:Int) ^^^ BitVec.ofInt 32 (IntKind.u32.wrap ((l[j].toNat:Int)))).toNat:Int)))=((R2 ^^^ ML l[j]).toNat:Int):=by
   rw [Cn,Bk,Bp,BitVec.ofInt_natCast];rfl
  rw [h0];refine⟨λ s w3=>match s with
    | [.int _ r,.int _ i]=>w3=w2/\∃ m:Nat,i=m/\m<=8/\r=((En m (R2 ^^^ ML l[j])).toNat:Int)
    | _=>False,
   λ s _=>match s with
    | [_,.int _ i]=>8-i.toNat
    | _=>0,⟨rfl,0,rfl,Nat.zero_le _,by simp [En]⟩,?_⟩
  rintro r i w3 ⟨rfl,m,rfl,hm,rfl⟩;refine Aa (λ qu=>?_) (λ ng=>?_)
  ·have aA:=H8 m (R2 ^^^ ML l[j]);generalize En m (R2 ^^^ ML l[j])=q at aA ⊢;simp only [Ahr,Ahq,Bp];rw [Ae Omg];cases hh:q.getLsbD 0 with
   | true =>
    refine CG ?_;rw [Bk];refine⟨⟨trivial,m+1,rfl,Omg,?_⟩,?_⟩
    ·rw [aA,Tl,hh];rfl
    ·simp only [Ait];omega
   | false =>
    refine AN ?_;refine⟨⟨trivial,m+1,rfl,Omg,?_⟩,?_⟩
    ·rw [aA,Tl,hh];simp
    ·simp only [Ait];omega
  ·have:m=8:=Omg;subst this;rw [Ae Omg];refine⟨⟨rfl,j+1,rfl,Omg,by rw [rF];rfl⟩,?_⟩;simp only [Ait];omega
 ·have:j=l.length:=Omg;subst this;refine⟨?_,rfl⟩;rw [List.take_length,Bk,Bp,BitVec.xor_comm];rfl
theorem Ph(x:BitVec 32)(w:World)(b:Nat)(t:TypeId)(hb:w.heap[b]?=some (.cells #[.int .u8 (IntKind.u8.wrap (x.toNat:Int)),.int .u8 (IntKind.u8.wrap ((Int.fdiv (x.toNat:Int) (2 ^ (min 8 32))))),.int .u8 (IntKind.u8.wrap ((Int.fdiv (x.toNat:Int) (2 ^ (min 16 32))))),.int .u8 (IntKind.u8.wrap ((Int.fdiv (x.toNat:Int) (2 ^ (min 24 32)))))] t (0,0))) :
  Rd w (some ⟨b,0,none⟩) ((Uo x).map Ag):=by
 have:=Rd.Al hb;rw [Zo,NM,NM,NM] at this;exact this
def Fi(kind:Int)(ls:List AD):List UInt8:=[Aiz kind.toNat]++Af ls.length++Af (Au ls)
def DB(ls:List AD):List UInt8:=if 0<Au ls/\Au ls<ls.length then AZ (AY ls) 1 else []
structure J4(kind:Int)(ls:List AD)(b:List UInt8):Prop where
 ex:∃ o,(Au ls<ls.length->DR kind ls o)/\(¬ Au ls<ls.length->o=[])/\b=(Fi kind ls++DB ls++o)++Uo (crc (Fi kind ls++DB ls++o))
theorem J4.one{kind:Int}{ls:List AD}{b c:List UInt8}(h:J4 kind ls b)(h':J4 kind ls c):b=c:=by
 obtain⟨o,h1,h2,rfl⟩:=h.ex;obtain⟨o',k1,k2,rfl⟩:=h'.ex;have:o=o':=by
  by_cases hn:Au ls<ls.length
  ·exact (h1 hn).one (k1 hn)
  ·rw [h2 hn,k2 hn]
 rw [this]
def ChV(kind:Int)(ls:List AD)(w w':World)(r:Value):Prop :=
 (DF kind ls=false/\r=.tuple #[.slice none 0 0,.int .i64 2]/\Below w.heap.size w w')\/(DF kind ls=true/\∃ b a c,J4 kind ls b/\r=.tuple #[.slice a b.length c,.int .i64 0]/\Bj w w' b a c)
theorem Qa{kind:Int}{ls:List AD}(hg:Bb kind ls):(Fi kind ls).length<=21:=by
 have h1:=Ah (n:=ls.length) (by have:=hg.len;omega);have h2:=Ah (n:=Au ls) (by have:=hg.len;have:=CW ls;omega);simp only [Fi,Aiq,Ais,AjE];omega
theorem II{kind:Int}{ls:List AD}(hg:Bb kind ls):(DB ls).length<=200:=by
 have:=hg.len;unfold DB;split
 ·rw [BP];unfold Dl;have:(AY ls).length=ls.length:=by simp [AY]
  rw [this];omega
 ·simp
theorem Sn(ls:List AD):∀ x∈AY ls,x<2 ^ 1:=by
 intro x hx;obtain⟨v,_,rfl⟩:=Ah9.1 hx;split <;> omega
section
variable {w:World}{a:Option Addr}{c:Nat}{ls:List AD}
theorem JG(kind:Int)(hl:Rd w a (AR ls))(hn:ls.length<=9223372036854775807)(hv:∀ v∈ls,BM v) :
  Cw 152 #[.int .i64 kind,.slice a ls.length c] w λ v w'=>ChV kind ls w w' v:=by
 apply MP
 delta A Ab B AM Cb Cs Cv F G H I J Ks Li Lt N O AbN S Am T U W Wb Wu X Zb Zs;try dsimp only [Ps]
 refine (Tf kind hl hn).mono ?_;rintro _ w1 ⟨_,rfl,rfl,B1⟩;refine⟨_,rfl,As (Aq (λ hr=>?_) (λ hr=>.inl ⟨hr,rfl,B1⟩))⟩;have hg:Bb kind ls:=⟨hr,hv⟩;have hlen:=hg.len;have hk:=hg.kind;have br:=CW ls;refine⟨λ s w2=>∃(i:Nat) (ba:Option Addr) (bc:Nat),s=[.slice ba (AY (ls.take i)).length bc,.int .i64 (Au (ls.take i):Int),.int .i64 (i:Int)]/\i<=ls.length/\I1 w1 w2 (AY (ls.take i)) ba bc,λ s _=>match s with
   | [_,_,.int _ i]=>ls.length-i.toNat
   | _=>0,⟨0,none,0,rfl,Omg,I1.nil w1⟩,?_⟩
 rintro ba _ bc _ _ w2 ⟨i,_,_,aA,hi,h2⟩;cases aA;have C2:=Ac B1 h2.Ar;refine Aa (λ aB=>⟨⟨Omg,aB⟩,?_⟩) (λ aJ=>?_)
 ·have aD:i<ls.length:=Omg;obtain⟨p,rfl,c0,c1,c2⟩:=Db (hl.grown C2) aD;have an:(AY (ls.take i)).length<=1024:=by simp [AY];omega
  have lF:=CW (ls.take i);rw [Ajm] at lF;have cP:ls.length-((i+1:Nat):Int).toNat<ls.length-((i:Nat):Int).toNat:=by
   simp only [Ait];omega
  refine⟨_,by rw [Ait];exact c0,_,by rw [Ait];exact c1,_,by rw [Ait];exact c2,(SH.start (λ _=>False) w2).Ic λ tg w6 nI B6 S6=>⟨_,S6.cell 0 rfl rfl,?_⟩⟩;rw [Ae Omg,Ae Omg];refine Ap (λ hz=>?_) (λ hz=>?_)
  ·refine S6.An λ kH w7 nJ B7 S7=>El ((h2.grown B6).grown B7) Omg (x:=1) rfl (S7.get 0 rfl) λ a8 c8 w8 h8=>⟨_,_,_,rfl,⟨i+1,a8,c8,?_,Omg,?_⟩,cP⟩
   ·rw [Fj aD,Em aD,if_pos hz]
   ·rw [Em aD,if_pos hz];exact h8
  ·refine S6.An λ kH w7 nJ B7 S7=>El ((h2.grown B6).grown B7) Omg (x:=0) rfl (S7.get 0 rfl) λ a8 c8 w8 h8=>⟨_,_,_,rfl,⟨i+1,a8,c8,?_,Omg,?_⟩,cP⟩
   ·rw [Fj aD,Em aD,if_neg hz];rfl
   ·rw [Em aD,if_neg hz];exact h8
 have bK:ls.take i=ls:=AiZ Omg;rw [bK] at h2 ⊢;have an:(AY ls).length=ls.length:=by simp [AY]
 rw [AG Omg Omg];refine (SH.start (λ _=>False) w2).An λ fH aZ jT cH bG=>?_;have jA:=Ac C2 cH;have mw:Rd aZ (some ⟨fH,0,none⟩) ([Aiz kind.toNat].map Ag):=by
  have:=Rd.Al (bG.get 0 rfl);have e:Value.int .u8 kind=Ag (Aiz kind.toNat):=by
   have:=Ck (x:=kind.toNat) Omg;rw [<- this];congr 1;omega
  simpa [e] using this
 rw [Aj Omg Omg];refine (AE (c:=1) [Aiz kind.toNat] mw ls.length Omg Osi).mono ?_;rintro _ bL ⟨_,rfl,a12,lY,rfl,fI⟩;have d1:=Ah (n:=ls.length) Omg;rw [Aj Omg Omg];refine⟨_,_,_,rfl,(AE _ fI.rd (Au ls) Omg (by simp;omega)).mono ?_⟩;rintro _ al ⟨_,rfl,mV,ou,rfl,kK⟩;have mP:=Ac jA fI.Ar;have eE:=kK.before mP;have eO:[Aiz kind.toNat]++Af ls.length++Af (Au ls)=Fi kind ls:=rfl;rw [eO] at eE ⊢;have lA:=Qa hg;have m7:=II hg;refine⟨_,_,_,rfl,λ s cF=>∃(b:List UInt8) (ab:Option Addr) (cb:Nat),s=[.slice ab b.length cb]/\b=Fi kind ls++DB ls/\Bj w cF b ab cb,?_,?_⟩
 ·refine⟨λ s au=>∃ t:Bool,s=[.bool t]/\au=al/\(t=true↔0<Au ls/\Au ls<ls.length),?_,?_⟩
  ·refine Aa (λ h=>⟨_,rfl,rfl,by simp;omega⟩) (λ h=>⟨_,rfl,rfl,by simp;omega⟩)
  rintro _ au ⟨t,aA,rfl,ht⟩;cases aA;refine Aq (λ h=>?_) (λ h=>?_)
  ·have bh:=ht.1 h;have cm:Rd au ba ((AY ls).map EI):=((h2.row.rd.grown cH).grown fI.Ar).grown kK.Ar;refine (Jp (wd:=1) cm Omg Omg (Sn ls)).mono ?_;rintro _ ah ⟨_,rfl,zz,c15,rfl,fJ⟩;have bM:(AZ (AY ls) 1).length<=200:=by
    have:=II hg;unfold DB at this;rwa [if_pos bh] at this
   refine⟨_,_,_,_,rfl,A0 (eE.grown fJ.Ar).row fJ.rd Omg λ kb kf cd mR kF mQ=>⟨_,_,_,rfl,_,kb,kf,rfl,?_,eE.Bs fJ.Ar mR kF mQ⟩⟩;unfold DB;rw [if_pos bh]
  ·have bh:¬ (0<Au ls/\Au ls<ls.length):=λ hh=>by rw [ht.2 hh] at h;cases h
   refine⟨_,mV,ou,rfl,?_,eE⟩;unfold DB;rw [if_neg bh,Ajr]
 rintro ab _ cb cF ⟨b,_,_,aA,hb,fQ⟩;cases aA;have jW:b.length<=221:=by rw [hb,Aiq];omega
 refine⟨λ s eT=>∃(o b2:List UInt8) (ab:Option Addr) (cb:Nat),s=[.slice ab b2.length cb]/\b2=b++o/\o.length<=2000000/\(Au ls<ls.length->DR kind ls o)/\(¬ Au ls<ls.length->o=[])/\Bj w eT b2 ab cb,?_,?_⟩
 ·refine Aa (λ h=>?_) (λ h=>⟨[],b,ab,cb,rfl,Osi,Osi,λ hh=>absurd hh Omg,λ _=>rfl,fQ⟩);refine (PU hg (hl.grown fQ.Ar)).mono ?_;rintro _ fG ⟨_,rfl,o,td,u5,rfl,hO,gj⟩;have cC:=hO.len hg;refine⟨_,_,_,rfl,A0 (fQ.grown gj.Ar).row gj.rd Omg λ te u6 gb tV tE tO=>⟨_,_,_,rfl,o,_,te,u6,rfl,rfl,cC,λ _=>hO,λ hh=>absurd Omg hh,fQ.Bs gj.Ar tV tE tO⟩⟩
 rintro tf _ u9 eT ⟨o,b2,_,_,aA,cW,cC,oA,iS,jJ⟩;cases aA;have uw:b2.length<=2000221:=by rw [cW,Aiq];omega
 refine (SH.start (λ _=>False) eT).An λ b41 gG hb41 kE oh=>?_;have hS:=Zw (w:=gG) (a:=some ⟨b41,0,none⟩) (c:=1) [(tf,u9,b2)] (by
  have:=Rd.Al (oh.get 0 rfl);simpa [BZ] using this) (by
  intro p hp;rw [Ajo.1 hp];exact jJ.rd.grown kE) Osi (by
  intro p hp;rw [Ajo.1 hp];simp only;omega)
 refine hS.mono ?_;rintro _ gd ⟨_,rfl,rfl,rfl⟩;have ef:([(tf,u9,b2)]:List DH).flatMap (·.2.2)=b2:=Osi;rw [ef];refine⟨_,rfl,(SH.start (λ _=>False) gd).An λ tn fN uz iI mT=>?_⟩;have hR:=Ph (crc b2) fN tn _ (mT.get 0 rfl);have uR:=(jJ.grown kE).grown iI;refine A0 (m:=Uo (crc b2)) uR.row hR (by simp [Uo];omega) λ a24 ov du tW tF tQ=>⟨_,_,_,rfl,.inr ⟨hr,_,a24,ov,⟨o,oA,iS,?_⟩,rfl,jJ.Bs (Ac kE iI) tW tF tQ⟩⟩;rw [cW,hb]
theorem JN(kind:Int)(hl:Rd w a (AR ls))(hn:ls.length<=9223372036854775807)(hv:∀ v∈ls,BM v) :
  Cw 109 #[.int .i64 kind,.slice a ls.length c] w λ v w'=>ChV kind ls w w' v:=by
 apply Nq
 delta B AM Cb Ci Cs Cv F G H I J Ks Li N O Eg S U W Wb Wu X Zb Zs;try dsimp only [Ps]
 refine (T1 kind hl hn).mono ?_;rintro _ w1 ⟨_,rfl,rfl,B1⟩;refine⟨_,rfl,As (Aq (λ hr=>?_) (λ hr=>.inl ⟨hr,rfl,B1⟩))⟩;have hg:Bb kind ls:=⟨hr,hv⟩;have hlen:=hg.len;have hk:=hg.kind;have br:=CW ls;refine (T4 (hl.grown B1) Omg).mono ?_;rintro _ w2 ⟨_,rfl,rfl,rfl⟩;have an:(AY ls).length=ls.length:=by simp [AY]
 rw [AG Omg Omg];refine⟨_,rfl,(SH.start (λ _=>False) w2).An λ fH aZ jT cH bG=>?_⟩;have jA:=Ac B1 cH;have mw:Rd aZ (some ⟨fH,0,none⟩) ([Aiz kind.toNat].map Ag):=by
  have:=Rd.Al (bG.get 0 rfl);have e:Value.int .u8 kind=Ag (Aiz kind.toNat):=by
   have:=Ck (x:=kind.toNat) Omg;rw [<- this];congr 1;omega
  simpa [e] using this
 rw [Aj Omg Omg];refine (Bf (c:=1) [Aiz kind.toNat] mw ls.length Omg Osi).mono ?_;rintro _ bL ⟨_,rfl,a12,lY,rfl,fI⟩;have d1:=Ah (n:=ls.length) Omg;rw [Aj Omg Omg];refine⟨_,_,_,rfl,(Bf _ fI.rd (Au ls) Omg (by simp;omega)).mono ?_⟩;rintro _ al ⟨_,rfl,mV,ou,rfl,kK⟩;have mP:=Ac jA fI.Ar;have eE:=kK.before mP;have eO:[Aiz kind.toNat]++Af ls.length++Af (Au ls)=Fi kind ls:=rfl;rw [eO] at eE ⊢;have lA:=Qa hg;have m7:=II hg;refine⟨_,_,_,rfl,λ s cF=>∃(b:List UInt8) (ab:Option Addr) (cb:Nat),s=[.slice ab b.length cb]/\b=Fi kind ls++DB ls/\Bj w cF b ab cb,?_,?_⟩
 ·refine⟨λ s au=>∃ t:Bool,s=[.bool t]/\au=al/\(t=true↔0<Au ls/\Au ls<ls.length),?_,?_⟩
  ·refine Aa (λ h=>⟨_,rfl,rfl,by simp;omega⟩) (λ h=>⟨_,rfl,rfl,by simp;omega⟩)
  rintro _ au ⟨t,aA,rfl,ht⟩;cases aA;refine Aq (λ h=>?_) (λ h=>?_)
  ·have bh:=ht.1 h;have bM:(AZ (AY ls) 1).length<=200:=by
    have:=II hg;unfold DB at this;rwa [if_pos bh] at this
   refine⟨λ s w2=>∃(i:Nat) (ba:Option Addr) (bc:Nat),s=[.slice ba (AY (ls.take i)).length bc,.int .i64 (i:Int)]/\i<=ls.length/\I1 au w2 (AY (ls.take i)) ba bc,λ s _=>match s with
     | [_,.int _ i]=>ls.length-i.toNat
     | _=>0,⟨0,none,0,rfl,Omg,I1.nil au⟩,?_⟩
   rintro ba _ bc _ w7 ⟨i,_,_,aA,hi,h2⟩;cases aA;have C2:=Ac eE.Ar h2.Ar;refine Aa (λ aB=>⟨⟨Omg,aB⟩,?_⟩) (λ aJ=>?_)
   ·have aD:i<ls.length:=Omg;obtain⟨p,rfl,c0,c1,c2⟩:=Db (hl.grown C2) aD;have an:(AY (ls.take i)).length<=1024:=by simp [AY];omega
    have cP:ls.length-((i+1:Nat):Int).toNat<ls.length-((i:Nat):Int).toNat:=by
     simp only [Ait];omega
    refine⟨_,by rw [Ait];exact c0,?_⟩;rw [Ae Omg];refine Ap (λ hz=>?_) (λ hz=>?_)
    ·refine (SH.start (λ _=>False) w7).An λ kH w8 nJ B7 S7=>El (h2.grown B7) Omg (x:=1) rfl (S7.get 0 rfl) λ a8 c8 w8 h8=>⟨_,_,_,rfl,⟨i+1,a8,c8,?_,Omg,?_⟩,cP⟩
     ·rw [Em aD,if_pos hz]
     ·rw [Em aD,if_pos hz];exact h8
    ·refine (SH.start (λ _=>False) w7).An λ kH w8 nJ B7 S7=>El (h2.grown B7) Omg (x:=0) rfl (S7.get 0 rfl) λ a8 c8 w8 h8=>⟨_,_,_,rfl,⟨i+1,a8,c8,?_,Omg,?_⟩,cP⟩
     ·rw [Em aD,if_neg hz]
     ·rw [Em aD,if_neg hz];exact h8
   have bK:ls.take i=ls:=AiZ Omg;rw [bK] at h2 ⊢;refine (HY (wd:=1) h2.row.rd Omg Omg (Sn ls)).mono ?_;rintro _ ah ⟨_,rfl,zz,c15,rfl,fJ⟩;refine⟨_,_,_,_,rfl,A0 (eE.grown (Ac h2.Ar fJ.Ar)).row fJ.rd Omg λ kb kf cd mR kF mQ=>⟨_,_,_,rfl,_,kb,kf,rfl,?_,eE.Bs (Ac h2.Ar fJ.Ar) mR kF mQ⟩⟩;unfold DB;rw [if_pos bh]
  ·have bh:¬ (0<Au ls/\Au ls<ls.length):=λ hh=>by rw [ht.2 hh] at h;cases h
   refine⟨_,mV,ou,rfl,?_,eE⟩;unfold DB;rw [if_neg bh,Ajr]
 rintro ab _ cb cF ⟨b,_,_,aA,hb,fQ⟩;cases aA;have jW:b.length<=221:=by rw [hb,Aiq];omega
 refine⟨λ s eT=>∃(o b2:List UInt8) (ab:Option Addr) (cb:Nat),s=[.slice ab b2.length cb]/\b2=b++o/\o.length<=2000000/\(Au ls<ls.length->DR kind ls o)/\(¬ Au ls<ls.length->o=[])/\Bj w eT b2 ab cb,?_,?_⟩
 ·refine Aa (λ h=>?_) (λ h=>⟨[],b,ab,cb,rfl,Osi,Osi,λ hh=>absurd hh Omg,λ _=>rfl,fQ⟩);refine (R9 hg (hl.grown fQ.Ar)).mono ?_;rintro _ fG ⟨_,rfl,o,td,u5,rfl,hO,gj⟩;have cC:=hO.len hg;refine⟨_,_,_,rfl,A0 (fQ.grown gj.Ar).row gj.rd Omg λ te u6 gb tV tE tO=>⟨_,_,_,rfl,o,_,te,u6,rfl,rfl,cC,λ _=>hO,λ hh=>absurd Omg hh,fQ.Bs gj.Ar tV tE tO⟩⟩
 rintro tf _ u9 eT ⟨o,b2,_,_,aA,cW,cC,oA,iS,jJ⟩;cases aA;have uw:b2.length<=2000221:=by rw [cW,Aiq];omega
 refine (W5 b2 jJ.rd Omg).mono ?_;rintro _ gd ⟨_,rfl,rfl,rfl⟩;refine⟨_,rfl,(SH.start (λ _=>False) gd).An λ tn fN uz iI mT=>?_⟩;have hR:=Ph (crc b2) fN tn _ (mT.get 0 rfl);have uR:=jJ.grown iI;refine A0 (m:=Uo (crc b2)) uR.row hR (by simp [Uo];omega) λ a24 ov du tW tF tQ=>⟨_,_,_,rfl,.inr ⟨hr,_,a24,ov,⟨o,oA,iS,?_⟩,rfl,jJ.Bs iI tW tF tQ⟩⟩;rw [cW,hb]
end
theorem Zt{v:AD}(h1 : -10<=v.2.1)(h2:v.2.1<=10):BM v:=⟨Omg,Omg⟩
theorem ChV.open{kind:Int}{ls:List AD}{w w':World}{r:Value}(h:ChV kind ls w w' r):∃(bs:List UInt8) (a:Option Addr) (c:Nat) (e:Int),r=.tuple #[.slice a bs.length c,.int .i64 e]/\Rd w' a (bs.map Ag)/\Below w.heap.size w w'/\((DF kind ls=true/\J4 kind ls bs/\e=0)\/(DF kind ls=false/\bs=[]/\e=2)):=by
 rcases h with ⟨h1,rfl,hb⟩ | ⟨h1,b,a,c,h2,rfl,h3⟩
 ·exact⟨[],none,0,2,rfl,Rd.nil _ _,hb,.inr ⟨h1,rfl,rfl⟩⟩
 ·exact⟨b,a,c,0,rfl,h3.rd,h3.Ar,.inl ⟨h1,h2,rfl⟩⟩
theorem F6{n:Int}:Cq (DQ n)=n:=by unfold Cq DQ;split <;> split <;> omega
theorem Ot:enters Aix 286=true:=by kernel_rfl
theorem Yz{x:Nat × Nat}:KM (some x)=.tuple #[.int .u64 (x.1:Int),.int .i64 (x.2:Int),.int .i64 0]:=rfl
theorem V7{many:Nat}{ts:List (List UInt8)}{xs:List Nat}{i:Nat}(hi:i<xs.length):(xs.take (i+1)).map (λ p=>ts.getD p [])=(xs.take i).map (λ p=>ts.getD p [])++[ts.getD xs[i] []]:=by
 rw [Ajl hi,AiK];rfl
theorem I6{w:World}{a:Option Addr}{c q:Nat}{l:List UInt8}(hl:Rd w a (l.map Ag))(hc:l.length<=c):Rd w (Ch a q c 1) ((l.drop q).map Ag):=by
 have h:=hl.NQ q l.length c 1 hc;rw [Nat.mul_one,Nat.mul_one,<- List.map_drop] at h;have e:((l.drop q).map Ag).take (l.length-q)=(l.drop q).map Ag:=AiZ Osi;rwa [e] at h
section
variable {w:World}{a:Option Addr}{c:Nat}{l:List UInt8}
theorem WK(hl:Rd w a (l.map Ag))(hc:l.length<=c)(hs:l.length<=9223372036854775807){n:Nat}(hn:n<=4096) :
  Cw 278 #[.slice a l.length c,.int .i64 (n:Int)] w λ v w'=>∃(ms:List (List UInt8)) (a':Option Addr) (c':Nat) (ok:Bool),v=.tuple #[.slice a' ms.length c',.bool ok]/\Rd w' a' (strs ms)/\Below w.heap.size w w' /\
   ((ok=false/\BS l n=none)\/(ok=true/\BS l n=some ms)):=by
 apply Kk
 delta Ad AM Bz Cf D F G H I J Ks Lt Lu Ly N O Eg S T U W Wu X Y;try dsimp only [Ps]
 have bad:∀ {w':World},Below w.heap.size w w'->BS l n=none->∃(ms:List (List UInt8)) (a':Option Addr) (c':Nat) (ok:Bool),(Value.tuple #[.slice none 0 0,.bool false])=.tuple #[.slice a' ms.length c',.bool ok]/\Rd w' a' (strs ms)/\Below w.heap.size w w' /\
   ((ok=false/\BS l n=none)\/(ok=true/\BS l n=some ms)):=λ hb ht=>⟨[],none,0,false,rfl,Rd.nil _ _,hb,.inl ⟨rfl,ht⟩⟩
 refine (AL hl hc hs 1).mono ?_;rintro _ w ⟨_,rfl,rfl,rfl⟩;cases hx:takeN l 1 with
 | none=>exact⟨_,_,_,rfl,Ai (λ _=>bad (.refl _ _) (by simp [BS,hx])) (λ h=>absurd h Ode)⟩
 | some x =>
 have hxb:=AA (n:=x.1) (k:=x.2) hx;rw [Yz];rw [Aj (n:=(n:Int)) Omg Omg];refine⟨_,_,_,rfl,Ai (λ h=>absurd rfl h) (λ _=>Aa (λ h=>bad (.refl _ _) ?_) (λ eQ=>?_))⟩
 ·simp only [BS,hx,AjK];rw [if_pos Omg]
 have hm:¬ n<x.1:=Omg;refine (Mq (x.2:Int)).mono ?_;rintro _ w2 ⟨_,rfl,b1,b2,rfl,S2⟩;refine⟨_,_,_,rfl,?_⟩;rw [Ot];refine (Rw (n:=x.1) S2 hl hc hs Omg).mono ?_;rintro _ w3 ⟨_,rfl,hM,B3⟩;unfold Mh at hM;cases hy:AQ l x.2 x.1 with
 | none =>
  rw [hy] at hM;subst hM;refine⟨_,_,_,_,_,rfl,CG (bad B3 ?_)⟩;simp only [BS,hx,hy,AjK,Option.bind_none];rw [if_neg hm]
 | some y =>
 rw [hy] at hM;obtain⟨ta,tc,rfl,jP⟩:=hM;have rO:=GV hy;have xY:=Lq hy Omg;refine⟨_,_,_,_,_,rfl,AN (Aa (λ h=>bad B3 ?_) (λ aB=>?_))⟩
 ·simp only [BS,hx,hy,AjK];rw [if_neg hm,if_pos Omg]
 have hj:y.2<l.length:=Omg;refine (SH.start (λ _=>False) w3).EL λ w4 B4 _=>?_;have C4:=Ac B3 B4;rw [wrap_i64 (n:=(y.2:Int)+1) Omg Omg,show ((y.2:Int)+1).toNat=y.2+1 by omega];refine⟨⟨Omg,Omg,Omg⟩,⟨Omg,Omg⟩,?_⟩;have iP:=I6 (q:=y.2+1) (hl.grown C4) hc;obtain⟨p,rfl,aE⟩:=byte_at (hl.grown C4) hj;refine⟨_,by rw [Ait];exact aE,?_⟩;have vI:=(l[y.2]).toNat_lt;rw [wrap_i64 (n:=(l[y.2].toNat:Int)) Omg Omg,<- AiT (i:=y.2+1) (l:=l)];refine (Hs iP (n:Int) (l[y.2].toNat:Int) (by rw [AiT];omega)).mono ?_;rintro _ w5 ⟨_,rfl,xs,xa,xc,e,rfl,gq,B5,oQ,aH⟩;have C5:=Ac C4 B5;rw [Ait,Ait] at aH;have hg:l.getD y.2 0=l[y.2]:=Gd hj;refine⟨_,_,_,_,rfl,?_⟩;have hxs4:xs.length<=4096:=by
  rcases aH with ⟨_,_,rfl,_⟩ | ⟨_,rfl,_⟩
  ·rw [Cd];exact hn
  ·simp
 refine⟨λ s w6=>∃(i:Nat) (oa:Option Addr) (oc:Nat),s=[.slice oa i oc,.int .i64 (i:Int)]/\i<=xs.length/\(∀ p∈xs.take i,p<x.1)/\Row w6 9 1 oa i oc (strs ((xs.take i).map λ p=>y.1.getD p []))/\(∀ k,AF oa=some k->w5.heap.size<=k)/\Below w5.heap.size w5 w6,λ s _=>match s with
   | [_,.int _ i]=>xs.length-i.toNat
   | _=>0,⟨0,none,0,rfl,Omg,Osi,Row.nil _ _ _,by simp [AF],.refl _ _⟩,?_⟩
 rintro oa i oc _ w6 ⟨_,_,_,aA,hi,aF,R6,N6,B6⟩;cases aA;have C6:=Ac C5 B6;refine Aa (λ av=>⟨⟨Omg,av⟩,?_⟩) (λ aJ=>?_)
 ·have dR:i<xs.length:=Omg;obtain⟨p2,rfl,hcx⟩:=Gw (gq.grown B6) dR;refine⟨_,by rw [Ait];exact hcx,Aa (λ gM=>?_) (λ d'=>?_)⟩
  ·rcases aH with ⟨h1,h2,rfl,rfl⟩ | ⟨_,rfl,_⟩
   ·refine bad C6 ?_;simp only [BS,hx,hy,AjK,hg];rw [if_neg hm,if_neg Omg,if_pos ⟨h1,h2⟩];unfold Zc;rw [if_neg (λ h=>by have:=h _ (Ai7 dR);omega)]
   ·simp at dR
  ·have oE:xs[i]<x.1:=Omg;have r8:xs[i]<y.1.length:=Omg;refine⟨⟨Omg,Omg⟩,?_⟩;have bF:xs[i]<(y.1.map Bu).length:=by simpa using r8
   obtain⟨p3,rfl,kz⟩:=ES (ls:=y.1.map Bu) (((jP.grown B4).grown B5).grown B6) bF;refine⟨_,by rw [Ait];exact kz,(SH.start (λ _=>False) w6).An λ b7 w7 qP B7 S7=>?_⟩;have vn:y.1.getD xs[i] []=y.1[xs[i]]:=by simp [r8]
   have aY:Rd w7 (some ⟨b7,0,none⟩) (strs [y.1.getD xs[i] []]):=by
    have:=Rd.Al (S7.get 0 rfl);rw [vn];simpa [strs] using this
   have el:i=((xs.take i).map λ p=>y.1.getD p []).length:=by simp;omega
   have R7:=R6.grown B7;obtain⟨u,hu⟩:∃ u,u=(xs.take i).map λ p=>y.1.getD p []:=⟨_,rfl⟩;rw [<- hu] at R7 el;have af:(xs.take (i+1)).map (λ p=>y.1.getD p [])=u++[y.1.getD xs[i] []]:=by rw [hu];exact V7 (many:=0) dR
   have jR:=@Ek w7 oa oc u [y.1.getD xs[i] []] (by rw [<- el];exact R7) (some ⟨b7,0,none⟩) 1 1 rfl aY (by rw [<- el];simp;omega);rw [<- el] at jR;refine jR λ a8 c8 w8 R8 K8 N8=>⟨_,_,_,rfl,?_⟩;have uE:(u++[y.1.getD xs[i] []]).length=i+1:=by rw [Aiq,<- el];rfl
   rw [uE] at R8 ⊢;rw [Ae Omg];have mM:Below w5.heap.size w5 w7:=B6.trans (B7.mono B6.size);refine⟨⟨i+1,a8,c8,rfl,Omg,?_,by rw [af];exact R8,λ k hk=>?_,mM.trans (K8.below mM.size λ k hk he=>by have:=N6 k he;omega)⟩,?_⟩
   ·intro q hq;rw [Ajl dR] at hq;rcases Ajn.1 hq with h | h
    ·exact aF q h
    ·rw [Ajo.1 h];exact oE
   ·rcases N8 k hk with h | h
    ·exact N6 k h
    ·exact AiI mM.size h
   ·simp only [Ait];omega
 ·have bK:xs.take i=xs:=AiZ Omg;have aD:i=xs.length:=Omg;rw [bK] at aF R6;have el:(xs.map λ p=>y.1.getD p []).length=i:=by simp [aD]
  refine⟨xs.map λ p=>y.1.getD p [],oa,oc,e==0,by rw [el],R6.rd,C6,?_⟩;rcases aH with ⟨h1,h2,rfl,rfl⟩ | ⟨aP,rfl,he⟩
  ·refine .inr ⟨rfl,?_⟩;simp only [BS,hx,hy,AjK,hg];rw [if_neg hm,if_neg Omg,if_pos ⟨h1,h2⟩];unfold Zc;rw [if_pos aF]
  ·refine .inl ⟨?_,?_⟩
   ·rw [he];split <;> rfl
   ·simp only [BS,hx,hy,AjK,hg];rw [if_neg hm,if_neg Omg,if_neg aP]
theorem Acx(hl:Rd w a (l.map Ag))(hc:l.length<=c)(hs:l.length<=9223372036854775807){n:Nat}(hn:n<=4096) :
  Cw 242 #[.slice a l.length c,.int .i64 (n:Int)] w λ v w'=>∃(a':Option Addr) (c':Nat),v=.slice a' ((BS l n).getD []).length c'/\Rd w' a' (strs ((BS l n).getD []))/\Below w.heap.size w w':=by
 apply Nl
 delta Ad AM AaJ Bz D F I J Ks Lt Lu Ly N O Eg S T W Wu X Y;try dsimp only [Ps]
 have bad:∀ {w':World},Below w.heap.size w w'->BS l n=none->∃(a':Option Addr) (c':Nat),(Value.slice none 0 0)=.slice a' ((BS l n).getD []).length c'/\Rd w' a' (strs ((BS l n).getD []))/\Below w.heap.size w w':=λ hb ht=>⟨none,0,by rw [ht];rfl,by rw [ht];exact Rd.nil _ _,hb⟩;refine (AJ hl hs 1 Ode).mono ?_;rintro _ w ⟨_,rfl,rfl,rfl⟩;cases hx:takeN l 1 with
 | none=>exact⟨_,_,_,rfl,Ai (λ _=>bad (.refl _ _) (by simp [BS,hx])) (λ h=>absurd h Ode)⟩
 | some x =>
 have hxb:=AA (n:=x.1) (k:=x.2) hx;rw [Yz];rw [Aj (n:=(n:Int)) Omg Omg];refine⟨_,_,_,rfl,Ai (λ h=>absurd rfl h) (λ _=>Aa (λ h=>bad (.refl _ _) ?_) (λ eQ=>?_))⟩
 ·simp only [BS,hx,AjK];rw [if_pos Omg]
 have hm:¬ n<x.1:=Omg;rw [wrap_i64 (n:=(x.1:Int)) Omg Omg];refine (Pb (n:=x.1) (at_:=x.2) hl hc hs Omg Omg).mono ?_;rintro _ w3 ⟨_,rfl,hM,B3⟩;unfold Mh at hM;cases hy:AQ l x.2 x.1 with
 | none =>
  rw [hy] at hM;subst hM;refine⟨_,_,_,_,_,rfl,CG (bad B3 ?_)⟩;simp only [BS,hx,hy,AjK,Option.bind_none];rw [if_neg hm]
 | some y =>
 rw [hy] at hM;obtain⟨ta,tc,rfl,jP⟩:=hM;have rO:=GV hy;have xY:=Lq hy Omg;refine⟨_,_,_,_,_,rfl,AN (Aa (λ h=>bad B3 ?_) (λ aB=>?_))⟩
 ·simp only [BS,hx,hy,AjK];rw [if_neg hm,if_pos Omg]
 have hj:y.2<l.length:=Omg;refine (SH.start (λ _=>False) w3).EL λ w4 B4 _=>?_;have C4:=Ac B3 B4;rw [wrap_i64 (n:=(y.2:Int)+1) Omg Omg,show ((y.2:Int)+1).toNat=y.2+1 by omega];refine⟨⟨Omg,Omg,Omg⟩,⟨Omg,Omg⟩,?_⟩;have iP:=I6 (q:=y.2+1) (hl.grown C4) hc;obtain⟨p,rfl,aE⟩:=byte_at (hl.grown C4) hj;refine⟨_,by rw [Ait];exact aE,?_⟩;have vI:=(l[y.2]).toNat_lt;rw [wrap_i64 (n:=(l[y.2].toNat:Int)) Omg Omg,<- AiT (i:=y.2+1) (l:=l)];refine (F9 iP (n:Int) (l[y.2].toNat:Int) (by rw [AiT];omega)).mono ?_;rintro _ w5 ⟨_,rfl,xs,xa,xc,e,rfl,gq,B5,oQ,aH⟩;have C5:=Ac C4 B5;rw [Ait,Ait] at aH;have hg:l.getD y.2 0=l[y.2]:=Gd hj;refine⟨_,_,_,_,rfl,?_⟩;rcases aH with ⟨h1,h2,rfl,rfl⟩ | ⟨aP,rfl,he⟩
 case inr =>
  refine Ai (λ _=>bad C5 ?_) (λ h=>by rw [he] at h;split at h <;> cases h);simp only [BS,hx,hy,AjK,hg];rw [if_neg hm,if_neg Omg,if_neg aP]
 refine Ai (λ h=>absurd rfl h) (λ _=>?_);obtain⟨xs,bU⟩:∃ xs,xs=BL (l.drop (y.2+1)) n l[y.2].toNat:=⟨_,rfl⟩;have dE:xs.length=n:=by rw [bU,Cd]
 have bS:BS l n=Zc x.1 y.1 xs:=by
  simp only [BS,hx,hy,AjK,hg];rw [if_neg hm,if_neg Omg,if_pos ⟨h1,h2⟩,bU]
 rw [<- bU] at gq ⊢;refine⟨λ s w6=>∃(i:Nat) (oa:Option Addr) (oc:Nat),s=[.slice oa i oc,.int .i64 (i:Int)]/\i<=xs.length/\(∀ p∈xs.take i,p<x.1)/\Row w6 9 1 oa i oc (strs ((xs.take i).map λ p=>y.1.getD p []))/\(∀ k,AF oa=some k->w5.heap.size<=k)/\Below w5.heap.size w5 w6,λ s _=>match s with
   | [_,.int _ i]=>xs.length-i.toNat
   | _=>0,⟨0,none,0,rfl,Omg,Osi,Row.nil _ _ _,by simp [AF],.refl _ _⟩,?_⟩
 rintro oa i oc _ w6 ⟨_,_,_,aA,hi,aF,R6,N6,B6⟩;cases aA;have C6:=Ac C5 B6;refine Aa (λ av=>⟨⟨Omg,Omg⟩,?_⟩) (λ aJ=>?_)
 ·have dR:i<xs.length:=Omg;obtain⟨p2,rfl,hcx⟩:=Gw (gq.grown B6) dR;refine⟨_,by rw [Ait];exact hcx,Aa (λ gM=>?_) (λ d'=>?_)⟩
  ·refine bad C6 ?_;rw [bS];unfold Zc;rw [if_neg (λ h=>by have:=h _ (Ai7 dR);omega)]
  ·have oE:xs[i]<x.1:=Omg;have r8:xs[i]<y.1.length:=Omg;refine⟨⟨Omg,Omg⟩,_,by rw [Ait];exact hcx,⟨Omg,Omg⟩,?_⟩;have bF:xs[i]<(y.1.map Bu).length:=by simpa using r8
   obtain⟨p3,rfl,kz⟩:=ES (ls:=y.1.map Bu) (((jP.grown B4).grown B5).grown B6) bF;refine⟨_,by rw [Ait];exact kz,(SH.start (λ _=>False) w6).An λ b7 w7 qP B7 S7=>?_⟩;have vn:y.1.getD xs[i] []=y.1[xs[i]]:=by simp [r8]
   have aY:Rd w7 (some ⟨b7,0,none⟩) (strs [y.1.getD xs[i] []]):=by
    have:=Rd.Al (S7.get 0 rfl);rw [vn];simpa [strs] using this
   have el:i=((xs.take i).map λ p=>y.1.getD p []).length:=by simp;omega
   have R7:=R6.grown B7;obtain⟨u,hu⟩:∃ u,u=(xs.take i).map λ p=>y.1.getD p []:=⟨_,rfl⟩;rw [<- hu] at R7 el;have af:(xs.take (i+1)).map (λ p=>y.1.getD p [])=u++[y.1.getD xs[i] []]:=by rw [hu];exact V7 (many:=0) dR
   have jR:=@Ek w7 oa oc u [y.1.getD xs[i] []] (by rw [<- el];exact R7) (some ⟨b7,0,none⟩) 1 1 rfl aY (by rw [<- el];simp;omega);rw [<- el] at jR;refine jR λ a8 c8 w8 R8 K8 N8=>⟨_,_,_,rfl,?_⟩;have uE:(u++[y.1.getD xs[i] []]).length=i+1:=by rw [Aiq,<- el];rfl
   rw [uE] at R8 ⊢;rw [Ae Omg];have mM:Below w5.heap.size w5 w7:=B6.trans (B7.mono B6.size);refine⟨⟨i+1,a8,c8,rfl,Omg,?_,by rw [af];exact R8,λ k hk=>?_,mM.trans (K8.below mM.size λ k hk he=>by have:=N6 k he;omega)⟩,?_⟩
   ·intro q hq;rw [Ajl dR] at hq;rcases Ajn.1 hq with h | h
    ·exact aF q h
    ·rw [Ajo.1 h];exact oE
   ·rcases N8 k hk with h | h
    ·exact N6 k h
    ·exact AiI mM.size h
   ·simp only [Ait];omega
 ·have bK:xs.take i=xs:=AiZ Omg;have aD:i=xs.length:=Omg;rw [bK] at aF R6;have el:(xs.map λ p=>y.1.getD p []).length=i:=by simp [aD]
  have hv:BS l n=some (xs.map λ p=>y.1.getD p []):=by
   rw [bS];unfold Zc;rw [if_pos aF]
  rw [hv];exact⟨oa,oc,by rw [AjL,el],R6.rd,C6⟩
end
def Ce(n:Int):Prop:=0<=n/\n<=4096
def J6(l:List UInt8)(n:Int)(w w':World)(v:Value):Prop :=
 ∃(ls:List ByteArray) (a:Option Addr) (c:Nat) (e:Int),v=.tuple #[.slice a ls.length c,.int .i64 e]/\Rd w' a (ls.map Value.string)/\Below w.heap.size w w'/\ls.length<=4096 /\
  ((¬ Ce n/\ls=[]/\e=2)\/(Ce n/\HR l n.toNat ls/\e=0/\0<l.length)\/(Ce n/\(∀ ms,¬ (HR l n.toNat ms/\0<l.length))/\ls=[]/\e=70))
theorem J6.bad{l:List UInt8}{n:Int}{w w':World}(hb:Below w.heap.size w w')(hn:Ce n)(h:∀ ms,¬ (HR l n.toNat ms/\0<l.length)):J6 l n w w' (.tuple #[.slice none 0 0,.int .i64 70]) :=
 ⟨[],none,0,70,rfl,Rd.nil _ _,hb,Osi,.inr (.inr ⟨hn,h,rfl,rfl⟩)⟩
theorem J6.arg{l:List UInt8}{n:Int}{w w':World}(hb:Below w.heap.size w w')(hn:¬ Ce n):J6 l n w w' (.tuple #[.slice none 0 0,.int .i64 2]) :=
 ⟨[],none,0,2,rfl,Rd.nil _ _,hb,Osi,.inl ⟨hn,rfl,rfl⟩⟩
theorem HR.head{l:List UInt8}{n:Nat}{ls:List ByteArray}(h:HR l n ls):(l.getD 0 0).toNat<=1:=by
 have:=h.ok.2.1;omega
section
variable {w:World}{a:Option Addr}{c:Nat}{l:List UInt8}
theorem Hd{a2:Option Addr}{c2:Nat}{m:List UInt8}(hl:Rd w a (l.map Ag))(hm:Rd w a2 (m.map Ag)) :
  Cw 199 #[.slice a l.length c,.slice a2 m.length c2] w λ v w'=>w'=w/\v=.bool (decide (l=m)):=by
 apply Oe
 delta G Rt S;try dsimp only [Ps]
 refine Aw Ca rfl hl ⟨_,rfl,Aw Ca rfl hm ⟨_,rfl,rfl,?_⟩⟩;rw [AU];congr 1;rw [decide_eq_decide];exact⟨λ h=>by have:=congrArg bl h;rwa [Bn,Bn] at this,λ h=>by rw [h]⟩
theorem Dr(hl:Rd w a (l.map Ag))(h0:0<l.length):∃ p,a=some p/\w.cell? p=some (.int .u8 ((l.getD 0 0).toNat:Int)):=by
 obtain⟨p,hp,hc⟩:=byte_at hl h0;refine⟨p,hp,?_⟩;rw [Nat.zero_mul,CS] at hc;rw [hc,Gd h0]
theorem VU{n:Nat}{ms:List (List UInt8)}(h0:0<l.length){bs:List UInt8}{e:Int}
  (hq:(EM ((l.getD 0 0).toNat:Int) (ms.map Bu)/\FK (ms.map Bu) ((l.getD 0 0).toNat:Int) bs/\e=0)\/(¬ EM ((l.getD 0 0).toNat:Int) (ms.map Bu)/\bs=[]/\e=2)) (hlen:ms.length=n)
  (iu:ms=(GG l n).getD []):(bs=l->HR l n (ms.map Bu))/\(bs≠l->∀ xs,¬ (HR l n xs/\0<l.length)):=by
 constructor
 ·rintro rfl;rcases hq with ⟨h1,h2,_⟩ | ⟨_,h2,_⟩
  ·exact⟨by simpa using hlen,h1,h2⟩
  ·subst h2;simp at h0
 ·rintro aQ xs ⟨hx,_⟩;have hr:=hx.reads;rw [hr] at iu;simp only [AjL] at iu;have he:ms.map Bu=xs:=by rw [iu,Hp]
  rw [he] at hq;rcases hq with ⟨h1,h2,_⟩ | ⟨h1,_⟩
  ·exact aQ (h2.one hx.enc)
  ·exact h1 hx.ok
theorem To(hl:Rd w a (l.map Ag))(hc:l.length<=c)(hs:l.length<=9223372036854775807)(n:Int) :
  Cw 265 #[.slice a l.length c,.int .i64 n] w λ v w'=>J6 l n w w' v:=by
 apply Om
 delta ZE AM Cb Cf F G H I Ly O S U W Wu X Zb Zsb;try dsimp only [Ps]
 refine⟨λ s w1=>∃ b:Bool,s=[.bool b]/\w1=w/\(b=true↔¬ Ce n),?_,?_⟩
 ·refine Aa (λ h=>⟨true,rfl,rfl,?_⟩) (λ h=>⟨_,rfl,rfl,?_⟩)
  ·unfold Ce;simp;omega
  ·unfold Ce;simp;omega
 rintro _ w1 ⟨b,aA,rfl,hb⟩;cases aA;refine Aq (λ h=>J6.arg (.refl _ _) (hb.1 h)) (λ h=>?_);have aU:Ce n:=by
  rcases Classical.em (Ce n) with h1 | h1
  ·exact h1
  ·rw [hb.2 h1] at h;cases h
 obtain⟨n,rfl⟩:∃ m:Nat,n=(m:Int):=⟨n.toNat,by have:=aU.1;omega⟩;have hn:n<=4096:=by have:=aU.2;omega
 refine Ap (λ h=>J6.bad (.refl _ _) aU λ ms hm=>by have:=hm.2;omega) (λ aQ=>?_);have h0:0<l.length:=Omg;obtain⟨p,rfl,aE⟩:=Dr hl h0;have bZ:=(l.getD 0 0).toNat_lt;refine⟨⟨Omg,Omg⟩,_,aE,Aa (λ h=>J6.bad (.refl _ _) aU λ ms hm=>by have:=hm.1.head;omega) (λ hle=>?_)⟩;refine⟨λ s w5=>∃(ms:List (List UInt8)) (a':Option Addr) (c':Nat) (ok:Bool),s=[.slice a' ms.length c',.bool ok]/\Rd w5 a' (strs ms)/\Below w1.heap.size w1 w5/\((ok=false/\GG l n=none)\/(ok=true/\GG l n=some ms)),?_,?_⟩
 ·refine⟨⟨Omg,Omg⟩,_,aE,Ap (λ hz=>?_) (λ hz=>?_)⟩
  ·have eM:l.getD 0 0=0:=UInt8.toNat_inj.1 (by show _=0;omega);refine (Mq (at_:=1)).mono ?_;rintro _ w2 ⟨_,rfl,b1,b2,rfl,S2⟩;refine⟨_,_,_,rfl,?_⟩;rw [Ot,Aj Omg Omg];refine (Rw (at_:=1) (n:=n) S2 hl hc hs hn).mono ?_;rintro _ w3 ⟨_,rfl,hM,B3⟩;unfold Mh at hM;have hr:GG l n=(AQ l 1 n).map (·.1):=by unfold GG;rw [if_pos eM]
   cases hy:AQ l 1 n with
   | none =>
    rw [hy] at hM hr;subst hM;exact⟨_,_,_,_,_,rfl,[],none,0,false,rfl,Rd.nil _ _,B3,.inl ⟨rfl,hr⟩⟩
   | some y =>
    rw [hy] at hM hr;obtain⟨ta,tc,rfl,jP⟩:=hM;exact⟨_,_,_,_,_,rfl,y.1,ta,tc,true,rfl,jP,B3,.inr ⟨rfl,hr⟩⟩
  ·have eM:¬ l.getD 0 0=0:=λ h=>hz (by rw [h];rfl);refine (WK hl hc hs hn).mono ?_;rintro _ w3 ⟨_,rfl,ms,a',c',ok,rfl,jP,B3,aH⟩;have hr:GG l n=BS l n:=by unfold GG;rw [if_neg eM]
   rw [<- hr] at aH;exact⟨_,_,_,_,rfl,ms,a',c',ok,rfl,jP,B3,aH⟩
 rintro a' _ c' _ w5 ⟨ms,_,_,ok,aA,qB,B5,aH⟩;cases aA;rcases aH with ⟨rfl,hr⟩ | ⟨rfl,hr⟩
 ·refine CG (J6.bad B5 aU ?_);rintro xs ⟨hx,_⟩;rw [Ait,] at hx;rw [hx.reads] at hr;cases hr
 have hmn:=VT hr;refine AN ⟨⟨Omg,Omg⟩,?_⟩;obtain⟨p',hp',hcell5⟩:=Dr (hl.grown B5) h0;cases hp';refine⟨_,hcell5,?_⟩;rw [wrap_i64 Omg Omg];have hE:=Fs (c:=c') ((l.getD 0 0).toNat:Int) (ls:=ms.map Bu) qB (by rw [AiH];omega);rw [AiH] at hE;refine hE.mono ?_;rintro _ w6 ⟨_,rfl,h6⟩;obtain⟨bs,a6,c6,e6,rfl,hR6,B6,q6⟩:=IA h6;have C6:=Ac B5 B6;refine⟨_,_,_,_,rfl,(Hd hR6 (hl.grown C6)).mono ?_⟩;rintro _ w7 ⟨_,rfl,rfl,rfl⟩;obtain⟨g1,g2⟩:=VU h0 q6 hmn (by rw [hr];rfl);refine⟨_,rfl,As (Aa (λ he=>?_) (λ he=>J6.bad C6 aU (by rw [Ait];exact g2 he)))⟩;refine⟨ms.map Bu,a',c',0,by rw [AiH],qB.grown B6,C6,by rw [AiH];omega,.inr (.inl ⟨aU,by rw [Ait];exact g1 he,rfl,h0⟩)⟩
theorem U1(hl:Rd w a (l.map Ag))(hc:l.length<=c)(hs:l.length<=9223372036854775807)(n:Int) :
  Cw 201 #[.slice a l.length c,.int .i64 n] w λ v w'=>J6 l n w w' v:=by
 apply Nj
 delta AM AaJ Cs F H I Ly O Rt S W X Zs;try dsimp only [Ps]
 refine Aa (λ h=>J6.arg (.refl _ _) (by unfold Ce;omega)) (λ h1=>Aa (λ h=>J6.arg (.refl _ _) (by unfold Ce;omega)) (λ h2=>?_));have aU:Ce n:=⟨Omg,Omg⟩;obtain⟨n,rfl⟩:∃ m:Nat,n=(m:Int):=⟨n.toNat,Omg⟩;have hn:n<=4096:=Omg;refine Ap (λ h=>J6.bad (.refl _ _) aU λ ms hm=>by have:=hm.2;omega) (λ aQ=>?_);have h0:0<l.length:=Omg;obtain⟨p,rfl,aE⟩:=Dr hl h0;have bZ:=(l.getD 0 0).toNat_lt;refine⟨⟨Omg,Omg⟩,_,aE,Aa (λ h=>J6.bad (.refl _ _) aU λ ms hm=>by have:=hm.1.head;omega) (λ hle=>?_)⟩;refine⟨λ s w5=>∃(ms:List (List UInt8)) (a':Option Addr) (c':Nat),s=[.slice a' ms.length c']/\Rd w5 a' (strs ms)/\Below w.heap.size w w5/\ms=(GG l n).getD [],?_,?_⟩
 ·refine⟨⟨Omg,Omg⟩,_,aE,Ap (λ hz=>?_) (λ hz=>?_)⟩
  ·have eM:l.getD 0 0=0:=UInt8.toNat_inj.1 (by show _=0;omega);refine (Pb (at_:=1) (n:=n) hl hc hs hn Ode).mono ?_;rintro _ w3 ⟨_,rfl,hM,B3⟩;unfold Mh at hM;have hr:GG l n=(AQ l 1 n).map (·.1):=by unfold GG;rw [if_pos eM]
   cases hy:AQ l 1 n with
   | none =>
    rw [hy] at hM hr;subst hM;exact⟨_,_,_,_,_,rfl,[],none,0,rfl,Rd.nil _ _,B3,by rw [hr];rfl⟩
   | some y =>
    rw [hy] at hM hr;obtain⟨ta,tc,rfl,jP⟩:=hM;exact⟨_,_,_,_,_,rfl,y.1,ta,tc,rfl,jP,B3,by rw [hr];rfl⟩
  ·have eM:¬ l.getD 0 0=0:=λ h=>hz (by rw [h];rfl);refine (Acx hl hc hs hn).mono ?_;rintro _ w3 ⟨_,rfl,a',c',rfl,jP,B3⟩;have hr:GG l n=BS l n:=by unfold GG;rw [if_neg eM]
   exact⟨_,_,_,rfl,_,a',c',rfl,jP,B3,by rw [hr]⟩
 rintro a' _ c' w5 ⟨ms,_,_,aA,qB,B5,iu⟩;cases aA;refine Ai (λ hlen=>J6.bad B5 aU ?_) (λ hlen=>?_)
 ·rintro xs ⟨hx,_⟩;rw [Ait] at hx;have hr:=hx.reads;have:=VT hr;rw [hr,AjL] at iu;rw [<- iu] at this;omega
 refine⟨⟨Omg,Omg⟩,?_⟩;obtain⟨p',hp',hcell5⟩:=Dr (hl.grown B5) h0;cases hp';refine⟨_,hcell5,?_⟩;rw [wrap_i64 Omg Omg];have hE:=F8 (c:=c') ((l.getD 0 0).toNat:Int) (ls:=ms.map Bu) qB (by rw [AiH];omega);rw [AiH] at hE;refine hE.mono ?_;rintro _ w6 ⟨_,rfl,h6⟩;obtain⟨bs,a6,c6,e6,rfl,hR6,B6,q6⟩:=IA h6;have C6:=Ac B5 B6;refine⟨_,_,_,_,rfl,Aw Ca rfl hR6 ⟨_,rfl,Aw Ca rfl (hl.grown C6) ⟨_,rfl,?_⟩⟩⟩;rw [AU];obtain⟨g1,g2⟩:=VU h0 q6 (n:=n) Omg iu;refine As (Aa (λ he=>?_) (λ he=>J6.bad C6 aU (by rw [Ait];exact g2 (λ h=>he (by rw [h])))));have kO:bs=l:=by have:=congrArg bl he;rwa [Bn,Bn] at this
 refine⟨ms.map Bu,a',c',0,by rw [AiH],qB.grown B6,C6,by rw [AiH];omega,.inr (.inl ⟨aU,by rw [Ait];exact g1 kO,rfl,h0⟩)⟩
end
structure Fm(w w':World)(xs:List Int)(a:Option Addr)(c:Nat):Prop where
 row:Row w' 2 1 a xs.length c (xs.map Ep)
 new:∀ k,AF a=some k->w.heap.size<=k
 Ar:Below w.heap.size w w'
theorem Fm.nil(w:World):Fm w w [] none 0:=⟨Row.nil _ _ _,by simp [AF],.refl _ _⟩
theorem Fm.grown{w w1 w2:World}{xs:List Int}{a:Option Addr}{c:Nat}(h:Fm w w1 xs a c)(hb:Below w1.heap.size w1 w2):Fm w w2 xs a c:=⟨h.row.grown hb,h.new,Ac h.Ar hb⟩
theorem AeE:Me Aix 103=some (2,1,8,.int .i64 0):=by kernel_rfl
theorem FP{w w1:World}{a:Option Addr}{c:Nat}{xs:List Int}(h:Fm w w1 xs a c)(hl:xs.length+1<=1000000){x:Int}{b:Nat}{t:TypeId}(hb:w1.heap[b]?=some (.cells #[.int .i64 x] t (0,0))){f:Value->World->Prop}
  (hf:∀ a' c' w',Fm w w' (xs++[x]) a' c'->f (.slice a' (xs++[x]).length c') w'):De Aix (Builtin.append_ #[103,103] 103 #[.slice a xs.length c,.slice (some ⟨b,0,none⟩) 1 1]) f w1:=by
 have aY:Rd w1 (some ⟨b,0,none⟩) ([x].map Ep):=by
  have:=Rd.Al hb;simpa [Ep] using this
 obtain⟨a5,c5,w2,aG,aI,cw,hnw⟩:=BV (ty:=103) (mc:=1) AeE rfl Omg Omg h.row aY (m:=1) rfl (by simp [Ep];rfl) Omg;unfold De;rw [aG];have e:xs.length+1=(xs++[x]).length:=Osi;rw [e] at aI ⊢;refine hf a5 c5 w2 ⟨by rw [AiK];exact aI,λ k hk=>?_,h.Ar.trans (cw.below h.Ar.size λ k hk he=>by have:=h.new k he;omega)⟩;rcases hnw k hk with h1 | h1
 ·exact h.new k h1
 ·exact AiI h.Ar.size h1
def Gh(f:Nat)(r:List Int):List UInt8:=if f=0 then r.flatMap D8 else EP r
structure Ds(l:List UInt8)(n:Nat)(ls:List Int):Prop where
 len:ls.length=n
 num:∀ x∈ls,E9 x
 form:(l.getD 0 0).toNat<=3
 enc:l=DA (l.getD 0 0).toNat ls
def Gq(l:List UInt8)(n:Nat)(w w':World)(v:Value):Prop :=
 ∃(ms:List Int) (a:Option Addr) (c:Nat) (ok:Bool),v=.tuple #[.slice a ms.length c,.bool ok]/\Fm w w' ms a c/\(∀ x∈ms,E9 x)/\ms.length<=4096/\(ok=true->ms.length=n)/\∀ ls,Ds l n ls->ok=true/\ms=ls
theorem Gq.bad{l:List UInt8}{n:Nat}{w w':World}(hb:Below w.heap.size w w')(h:∀ ls,¬ Ds l n ls):Gq l n w w' (.tuple #[.slice none 0 0,.bool false]) :=
 ⟨[],none,0,false,rfl,⟨Row.nil _ _ _,by simp [AF],hb⟩,Osi,Osi,(λ h=>by cases h),λ ls aM=>absurd aM (h ls)⟩
theorem Bo{l r:List UInt8}{at_ m:Nat}(hm:m<18446744073709551616)(h:l.drop at_=Af m++r):takeN l (at_:Int)=some (m,at_+(Af m).length):=by
 unfold takeN;rw [if_neg Omg,Ait,h,OQ m 0 0 r (by simpa using hm) Omg (by intro;rfl)];simp
theorem CJ{l r d:List UInt8}{at_:Nat}(h:l.drop at_=d++r):l.drop (at_+d.length)=r:=by
 rw [<- AjM,h,List.drop_left]
structure Step(l:List UInt8)(f at_:Nat)(ls:List Int)(k many aL nx:Nat)(x:Int):Prop where
 num:f=1->takeN l (at_:Int)=some (many,aL)
 one:f=0->many=1/\aL=at_
 sgn:takeN l (aL:Int)=some (DQ x,nx)
 pos:0<many
 le:k+many<=ls.length
 take:ls.take (k+many)=ls.take k++Aio many x
 rest:l.drop nx=Gh f (ls.drop (k+many))
 i64:E9 x
theorem Abp{l:List UInt8}{f at_:Nat}{ls:List Int}{k:Nat}(hf:f<=1)(hx:∀ x∈ls,E9 x)(hn:ls.length<=4096)(hr:l.drop at_=Gh f (ls.drop k))(hk:k<ls.length):∃ many aL nx x,Step l f at_ ls k many aL nx x:=by
 have hd:ls.drop k=ls[k] :: ls.drop (k+1):=List.drop_eq_getElem_cons hk;have ia:=hx _ (Ai7 hk);have hz:=FE ia.1 ia.2;rcases (by omega:f=0\/f=1) with rfl | rfl
 ·have e:l.drop at_=D8 ls[k]++Gh 0 (ls.drop (k+1)):=by rw [hr,hd];unfold Gh;rw [if_pos rfl,if_pos rfl,List.flatMap_cons]
  refine⟨1,at_,at_+(D8 ls[k]).length,ls[k],λ h=>Omg,λ _=>⟨rfl,rfl⟩,Bo hz e,Omg,Omg,?_,CJ e,ia⟩;rw [Ajl hk];rfl
 ·obtain⟨t,ht⟩:∃ t,t=((ls.drop (k+1)).takeWhile (·==ls[k])).length:=⟨_,rfl⟩;have fD:t<=(ls.drop (k+1)).length:=by rw [ht];exact (List.takeWhile_sublist _).length_le
  rw [AiT] at fD;have e0:EP (ls.drop k)=Af (t+1)++(D8 ls[k]++EP ((ls.drop (k+1)).drop t)):=by
   rw [hd]
   conv=>lhs;unfold EP
   rw [ht]
  have e:l.drop at_=Af (t+1)++(D8 ls[k]++EP ((ls.drop (k+1)).drop t)):=by
   rw [hr];unfold Gh;rw [if_neg Omg,e0]
  have e1:=CJ e;refine⟨t+1,at_+(Af (t+1)).length,at_+(Af (t+1)).length+(D8 ls[k]).length,ls[k],λ _=>Bo Omg e,λ h=>Omg,Bo hz e1,Omg,Omg,?_,?_,ia⟩
  ·rw [List.take_add,hd,List.take_succ_cons];congr 1;rw [AjN];congr 1;have h1:(ls.drop (k+1)).take t=(ls.drop (k+1)).takeWhile (·==ls[k]):=by
    rw [ht];exact (List.prefix_iff_eq_take.1 (List.takeWhile_prefix _)).symm
   rw [h1,List.eq_replicate_iff];refine⟨ht.symm,λ y hy=>?_⟩;have:=List.all_eq_true.1 List.all_takeWhile y hy;simpa using this
  ·rw [CJ e1];unfold Gh;rw [if_neg Omg,AjM];congr 2;omega
theorem AcC{f:Nat}{r:List Int}(h:Gh f r=[]):r=[]:=by
 cases r with
 | nil=>rfl
 | cons x r =>
  exfalso;unfold Gh at h;split at h
  ·have:=congrArg AjO h;have hp:=Ajw.2 (HU (DQ x));simp only [List.flatMap_cons,Aiq,AjE,D8] at this;omega
  ·unfold EP at h;have:=congrArg AjO h;have hp:=Ajw.2 (HU ((r.takeWhile (·==x)).length+1));simp only [Aiq,AjE] at this;omega
theorem Pl{x:Nat × Nat}:Aeq (some x)=.tuple #[.int .i64 (Cq x.1),.int .i64 (x.2:Int),.int .i64 0]:=rfl
section
variable {w:World}{a:Option Addr}{c:Nat}{l:List UInt8}
def Tr(l:List UInt8)(f n:Nat)(out:List Int)(at_:Nat):Prop:=∀ ls,Ds l n ls->∃ k,k<=ls.length/\out=ls.take k/\l.drop at_=Gh f (ls.drop k)
theorem Tr.step{f n:Nat}{out:List Int}{at_:Nat}(h:Tr l f n out at_)(hf:f<=1)(hn:n<=4096)(cV:at_<l.length){ls:List Int}(aM:Ds l n ls):∃ k many aL nx x,out=ls.take k/\k<=ls.length/\Step l f at_ ls k many aL nx x:=by
 obtain⟨k,hk,ho,hr⟩:=h ls aM;have aO:k<ls.length:=by
  rcases Nat.lt_or_ge k ls.length with h | h
  ·exact h
  ·exfalso;have:ls.drop k=[]:=List.drop_of_length_le h;rw [this] at hr;have e:Gh f []=[]:=by unfold Gh;split <;> simp [IM]
   rw [e] at hr;have:=congrArg AjO hr;rw [AiT,AjE] at this;omega
 obtain⟨many,aL,nx,x,hs⟩:=Abp hf aM.num (by have:=aM.len;omega) hr aO;exact⟨k,many,aL,nx,x,ho,hk,hs⟩
theorem UQ(hl:Rd w a (l.map Ag))(hc:l.length<=c)(hs:l.length<=9223372036854775807)(h0:0<l.length){fm:Nat}(cX:fm=(l.getD 0 0).toNat)(hf:fm<=1){n:Nat}(hn:n<=4096) :
  Cw 279 #[.slice a l.length c,.int .i64 (n:Int)] w λ v w'=>Gq l n w w' v:=by
 apply Qb
 delta JD Bz F G H I J Ks Ly N O Eg Qsu S U W Wu X Ae2;try dsimp only [Ps]
 have xh:Tr l fm n [] 1:=by
  intro ls aM;refine⟨0,Omg,rfl,?_⟩;have:=aM.enc;rw [<- cX] at this;rw [List.drop_zero];rcases (by omega:fm=0\/fm=1) with rfl | rfl
  ·rw [this];simp [DA,Gh]
  ·rw [this];simp [DA,Gh]
 refine⟨λ s w1=>∃(at_:Nat) (out:List Int) (oa:Option Addr) (oc:Nat),s=[.slice oa out.length oc,.int .i64 (at_:Int)]/\Fm w w1 out oa oc/\(∀ x∈out,E9 x)/\out.length<=n/\at_<=9223372036854775807/\Tr l fm n out at_,λ s _=>match s with
   | [_,.int _ i]=>l.length-i.toNat
   | _=>0,⟨1,[],none,0,rfl,Fm.nil w,Osi,Osi,Omg,xh⟩,?_⟩
 rintro oa _ oc _ w1 ⟨at_,out,_,_,aA,h1,hI,cC,ur,hT⟩;cases aA;refine Aa (λ aB=>?_) (λ aJ=>?_)
 case refine_2 =>
  have uN:((out.length:Int)==(n:Int))=true->out.length=n:=λ h=>by
   have:(out.length:Int)=n:=by simpa using h
   omega
  refine⟨out,oa,oc,_,rfl,h1,hI,Omg,uN,λ ls aM=>?_⟩;obtain⟨k,hk,ho,hr⟩:=hT ls aM;have hd:l.drop at_=[]:=List.drop_of_length_le Omg;rw [hd] at hr;have wU:=AcC hr.symm;have aO:ls.length<=k:=List.drop_eq_nil_iff.1 wU;have:ls.take k=ls:=AiZ aO;rw [this] at ho;subst ho;exact⟨by have:=aM.len;simp [this],rfl⟩
 have cV:at_<l.length:=Omg;obtain⟨p,rfl,aE⟩:=Dr (hl.grown h1.Ar) h0;have bZ:=(l.getD 0 0).toNat_lt;refine⟨λ s w3=>w3=w1/\∃(aL many:Nat) (e:Int),s=[.int .i64 (aL:Int),.int .u64 (many:Int),.int .i64 e]/\aL<=9223372036854775807/\((e≠0/\fm=1/\takeN l (at_:Int)=none)\/(e=0/\at_<=aL/\many<18446744073709551616/\((fm=1/\takeN l (at_:Int)=some (many,aL))\/(fm=0/\many=1/\aL=at_)))),?_,?_⟩
 ·refine⟨⟨Omg,Omg⟩,_,aE,Ap (λ h1'=>?_) (λ aQ=>?_)⟩
  ·refine (AL (hl.grown h1.Ar) hc hs (at_:Int)).mono ?_;rintro _ w2 ⟨_,rfl,rfl,rfl⟩;cases hx:takeN l (at_:Int) with
   | none=>exact⟨_,_,_,rfl,rfl,0,0,20,rfl,Omg,.inl ⟨Ode,Omg,rfl⟩⟩
   | some x =>
    have hb:=AA (n:=x.1) (k:=x.2) hx;exact⟨_,_,_,rfl,rfl,x.2,x.1,0,rfl,Omg,.inr ⟨rfl,Omg,Omg,.inl ⟨Omg,rfl⟩⟩⟩
  ·exact⟨rfl,at_,1,0,rfl,Omg,.inr ⟨rfl,Omg,Omg,.inr ⟨Omg,rfl,rfl⟩⟩⟩
 rintro _ _ e w3 ⟨rfl,aL,many,_,aA,nF,aH⟩;cases aA;refine (Ff (hl.grown h1.Ar) hc hs (aL:Int)).mono ?_;rintro _ w4 ⟨_,rfl,rfl,rfl⟩;have key:∀ ls,Ds l n ls->∃ k nx x,out=ls.take k/\e=0/\takeN l (aL:Int)=some (DQ x,nx)/\0<many/\k+many<=ls.length/\k<=ls.length/\ls.take (k+many)=ls.take k++Aio many x/\l.drop nx=Gh fm (ls.drop (k+many)):=by
  intro ls aM;obtain⟨k,m,a1,nx,x,ho,aO,hs⟩:=hT.step hf hn cV aM;rcases aH with ⟨_,gv,aP⟩ | ⟨he,_,_,⟨gv,hso⟩ | ⟨fY,hm1,ha1⟩⟩
  ·rw [hs.num gv] at aP;cases aP
  ·have:=hs.num gv;rw [hso] at this;obtain⟨rfl,rfl⟩:=Prod.mk.injEq .. ▸ Ajx this;exact⟨k,nx,x,ho,he,hs.sgn,hs.pos,hs.le,aO,hs.take,hs.rest⟩
  ·obtain⟨q1,q2⟩:=hs.one fY;subst q1 q2 hm1 ha1;exact⟨k,nx,x,ho,he,hs.sgn,hs.pos,hs.le,aO,hs.take,hs.rest⟩
 cases hy:takeN l (aL:Int) with
 | none =>
  have aP:∀ ls,¬ Ds l n ls:=λ ls aM=>by
   obtain⟨k,nx,x,_,_,h,_⟩:=key ls aM;rw [hy] at h;cases h
  refine⟨_,_,_,rfl,Ai (λ _=>Gq.bad h1.Ar aP) (λ _=>Ai (λ _=>Gq.bad h1.Ar aP) (λ h=>absurd h Ode))⟩
 | some y =>
 rw [Pl];have oS:=AA (n:=y.1) (k:=y.2) hy;have lQ:=Gn oS.1;have ew:IntKind.u64.wrap (IntKind.i64.wrap ((n:Int)-(out.length:Int)))=((n-out.length:Nat):Int):=by
  rw [wrap_i64 Omg Omg,Aj Omg Omg];omega
 rw [ew];refine⟨_,_,_,rfl,Ai (λ nS=>Gq.bad h1.Ar λ ls aM=>?_) (λ p9=>Ai (λ h=>absurd rfl h) (λ _=>Ap (λ fg=>Gq.bad h1.Ar λ ls aM=>?_) (λ fg=>Aa (λ gM=>Gq.bad h1.Ar λ ls aM=>?_) (λ d'=>?_))))⟩
 ·obtain⟨_,_,_,_,h,_⟩:=key ls aM;exact nS h
 ·obtain⟨_,_,_,_,_,_,h,_⟩:=key ls aM;omega
 ·obtain⟨k,_,_,ho,_,_,_,h,_⟩:=key ls aM;have:=aM.len;have e2:out.length=k:=by rw [ho,Ajm];omega
  omega
 have eQ:many<=n-out.length:=Omg;have y':at_<y.2:=by
  rcases aH with ⟨h,_⟩ | ⟨_,h,_⟩
  ·exact absurd p9 h
  ·omega
 refine⟨λ s w5=>∃(j:Nat) (o2:List Int) (oa:Option Addr) (oc:Nat),s=[.slice oa o2.length oc,.int .u64 (j:Int)]/\j<=many/\o2=out++Aio j (Cq y.1)/\Fm w w5 o2 oa oc,λ s _=>match s with
   | [_,.int _ i]=>many-i.toNat
   | _=>0,⟨0,out,oa,oc,rfl,Omg,Osi,h1⟩,?_⟩
 rintro so _ sq _ w5 ⟨j,o2,_,_,aA,hj,iS,h5⟩;cases aA;have wb:o2.length=out.length+j:=by rw [iS];simp
 refine Aa (λ av=>?_) (λ bz=>?_)
 ·refine (SH.start (λ _=>False) w5).An λ b6 w6 ky B6 S6=>FP (h5.grown B6) Omg (S6.get 0 rfl) λ a7 c7 w7 h7=>⟨_,_,_,rfl,?_⟩;rw [show IntKind.u64.wrap ((j:Int)+1)=((j+1:Nat):Int) by rw [Aj Omg Omg];omega];refine⟨⟨j+1,_,a7,c7,rfl,Omg,?_,h7⟩,?_⟩
  ·rw [iS,List.replicate_succ',Air]
  ·simp only [Ait];omega
 ·have vx:j=many:=Omg;subst vx;refine⟨⟨y.2,o2,so,sq,rfl,h5,?_,Omg,Omg,?_⟩,?_⟩
  ·intro x hx;rw [iS] at hx;rcases Ajn.1 hx with h | h
   ·exact hI x h
   ·rw [(List.mem_replicate.1 h).2];exact lQ
  ·intro ls aM;obtain⟨k,nx,x,g1,_,g3,g4,g5,g6,g7,g8⟩:=key ls aM;rw [hy] at g3;have lf:=Ajx g3;have ex:Cq y.1=x:=by rw [lf];exact F6
   have uL:y.2=nx:=by rw [lf]
   refine⟨k+j,g5,?_,by rw [uL];exact g8⟩;rw [iS,g7,g1,ex]
  ·simp only [Ait];omega
end
theorem XG{w w1:World}{a:Option Addr}{c:Nat}{xs:List Int}(h:Fm w w1 xs a c)(hl:xs.length+1<=1000000){x:Int}{b:Nat}{t:TypeId}(hb:w1.heap[b]?=some (.cells #[.int .i64 x] t (0,0))){f:Value->World->Prop}
  (hf:∀ a' c' w',Fm w w' (xs++[x]) a' c'->Ak (λ k=>AF a=some k) w1 w'->(∀ k,AF a'=some k->AF a=some k\/w1.heap.size<=k)->f (.slice a' (xs++[x]).length c') w'):De Aix (Builtin.append_ #[103,103] 103 #[.slice a xs.length c,.slice (some ⟨b,0,none⟩) 1 1]) f w1:=by
 have aY:Rd w1 (some ⟨b,0,none⟩) ([x].map Ep):=by
  have:=Rd.Al hb;simpa [Ep] using this
 obtain⟨a5,c5,w2,aG,aI,cw,hnw⟩:=BV (ty:=103) (mc:=1) AeE rfl Omg Omg h.row aY (m:=1) rfl (by simp [Ep];rfl) Omg;unfold De;rw [aG];have e:xs.length+1=(xs++[x]).length:=Osi;rw [e] at aI ⊢;refine hf a5 c5 w2 ⟨by rw [AiK];exact aI,λ k hk=>?_,h.Ar.trans (cw.below h.Ar.size λ k hk he=>by have:=h.new k he;omega)⟩ cw hnw;rcases hnw k hk with h1 | h1
 ·exact h.new k h1
 ·exact AiI h.Ar.size h1
theorem ED{c0:UInt8}{first:Int}{s:List Nat}{l:List UInt8}(hl:l=c0 :: CF first s)(hf:E9 first)(hx:∀ x∈s,x<18446744073709551616) :
  takeN l 1=some (DQ first,1+(D8 first).length)/\1+(D8 first).length<l.length/\(l.getD (1+(D8 first).length) 0).toNat=EY (HL s)/\l.drop (1+(D8 first).length+1)=AZ s (EY (HL s)):=by
 have im:=Qf hx;have e:l.drop 1=Af (DQ first)++(Aiz (EY (HL s)) :: AZ s (EY (HL s))):=by rw [hl];rfl
 have e2:=CJ e;have hlen:l.length=1+(D8 first).length+1+(AZ s (EY (HL s))).length:=by rw [hl];simp [CF];omega
 refine⟨Bo (at_:=1) (FE hf.1 hf.2) e,Omg,?_,?_⟩
 ·have:(l.drop (1+(D8 first).length))[0]?=some (Aiz (EY (HL s))):=by
   have e3:l.drop (1+(D8 first).length)=Aiz (EY (HL s)) :: AZ s (EY (HL s)):=e2;rw [e3];rfl
  rw [List.getElem?_drop,Nat.add_zero] at this;rw [List.getD,this];exact EC Omg
 ·rw [<- AjM];have e3:l.drop (1+(D8 first).length)=Aiz (EY (HL s)) :: AZ s (EY (HL s)):=e2;rw [e3];rfl
theorem Wa{s:List Nat}{m:Nat}(hm:s.length=m)(hn:m<=4096)(hx:∀ x∈s,x<18446744073709551616):Gm (m:Int) (EY (HL s):Int)/\QY (AZ s (EY (HL s))) m (EY (HL s))/\BL (AZ s (EY (HL s))) m (EY (HL s))=s:=by
 have im:=Qf hx;have aB:=(Hr s _).1 (Sw (HL s)).1;have hu:=H0 aB;rw [hm] at hu;exact⟨⟨Omg,Omg,Omg,Omg⟩,⟨by rw [BP,hm],by rw [hu]⟩,hu⟩
theorem Wg{x y:Int}(hx:E9 x)(hy:E9 y):IntKind.i64.wrap (x+IntKind.i64.wrap (y-x))=y:=by
 unfold E9 at hx hy;rw [CQ,CQ];split <;> split <;> omega
theorem Tw{x m:Int}(hx:E9 x)(hm:E9 m)(hle:m<=x):IntKind.i64.wrap (IntKind.u64.wrap (IntKind.u64.wrap m+((x-m).toNat:Int)))=x:=by
 unfold E9 at hx hm;rw [CQ,wrap_u64,wrap_u64];split <;> omega
theorem Um{ls:List Int}{i:Nat}(h:i+1<ls.length):(BB ls)[i]?=some (DQ (IntKind.i64.wrap (ls[i+1]-ls[i]))):=by
 have hr:i<ls.length-1:=Omg;simp only [BB,List.getElem?_map,List.getElem?_range hr,AjP];rw [EU h,EU Omg]
theorem Tv{ls:List Int}{i:Nat}(h:i<ls.length):(BK ls)[i]?=some ((ls[i]-Fo ls).toNat):=by simp [BK,h]
theorem Tz{α:Type}{xs ys:List α}{i:Nat}{y:α}(h:xs=ys)(hy:ys[i]?=some y)(hi:i<xs.length):xs[i]=y:=by
 subst h;rw [List.getElem?_eq_getElem hi] at hy;exact Ajx hy
def Dx(fm:Nat)(ls:List Int):Int:=if fm=2 then ls.headD 0 else Fo ls
def KR(fm:Nat)(ls:List Int):List Nat:=if fm=2 then BB ls else BK ls
theorem G9{l:List UInt8}{n fm:Nat}{ls:List Int}(h:Ds l n ls)(cX:fm=(l.getD 0 0).toNat)(hf:fm=2\/fm=3)(hn:0<n) :
  E9 (Dx fm ls)/\(∀ x∈KR fm ls,x<18446744073709551616)/\l=Aiz fm :: CF (Dx fm ls) (KR fm ls)/\(KR fm ls).length=(if fm=2 then n-1 else n):=by
 have hp:0<ls.length:=by have:=h.len;omega
 have aQ:ls≠[]:=Ajw.1 hp;have he:=h.enc;rw [<- cX] at he;have hlen:=h.len;rcases hf with rfl | rfl
 ·refine⟨?_,LS,?_,?_⟩
  ·have:=DC h.num hp 0;simpa [EN,Dx] using this
  ·rw [he];simp only [DA];rw [if_neg aQ];rfl
  ·simp [KR,BB,hlen]
 ·refine⟨DC h.num hp _,LI h.num,?_,?_⟩
  ·rw [he];simp only [DA];rw [if_neg aQ];rfl
  ·simp [KR,BK,hlen]
section
variable {w:World}{a:Option Addr}{c:Nat}{l:List UInt8}
theorem Yi{u:Nat}(hu:u<18446744073709551616):Cw 287 #[.int .u64 (u:Int)] w λ v w'=>w'=w/\v=.int .i64 (Cq u):=by
 apply TJ
 delta I W Wu;try dsimp only [Ps]
 rw [Ut hu];exact⟨rfl,rfl⟩
theorem UR(hl:Rd w a (l.map Ag))(hc:l.length<=c)(hs:l.length<=9223372036854775807)(h0:0<l.length){fm:Nat}(cX:fm=(l.getD 0 0).toNat)(hf:fm=2\/fm=3){n:Nat}(hn:n<=4096) :
  Cw 280 #[.slice a l.length c,.int .i64 (n:Int)] w λ v w'=>Gq l n w w' v:=by
 apply Qc
 delta Ad JD AM Ci D F G H I J Ks Lu Ly N O J8 Rs S U W Wu X Y Zis;try dsimp only [Ps]
 refine Ap (λ hz=>?_) (λ ju=>?_)
 ·have cY:n=0:=Omg;subst cY;refine⟨[],none,0,_,rfl,Fm.nil w,Osi,Osi,λ _=>rfl,λ ls aM=>?_⟩;have wL:ls=[]:=List.eq_nil_of_length_eq_zero aM.len;subst wL;have he:=aM.enc;rw [<- cX] at he;have h1:l.length=1:=by
   rw [he];rcases hf with rfl | rfl <;> simp [DA]
  exact⟨by simp [h1],rfl⟩
 have cY:0<n:=Omg;refine (Ff hl hc hs 1).mono ?_;rintro _ w ⟨_,rfl,rfl,rfl⟩;cases hy:takeN l 1 with
 | none =>
  refine⟨_,_,_,rfl,Ai (λ _=>Gq.bad (.refl _ _) λ ls aM=>?_) (λ h=>absurd h Ode)⟩;obtain⟨k1,k2,k3,_⟩:=G9 aM cX hf cY;have:=(ED k3 k1 k2).1;rw [hy] at this;cases this
 | some y =>
 rw [Pl];have oS:=AA (n:=y.1) (k:=y.2) hy;have lQ:E9 (Cq y.1):=Gn oS.1;refine⟨_,_,_,rfl,Ai (λ h=>absurd rfl h) (λ _=>Aa (λ gM=>Gq.bad (.refl _ _) λ ls aM=>?_) (λ aB=>?_))⟩
 ·obtain⟨k1,k2,k3,_⟩:=G9 aM cX hf cY;obtain⟨q1,q2,_⟩:=ED k3 k1 k2;rw [hy] at q1;have:=Ajx q1;have:y.2=1+(D8 (Dx fm ls)).length:=by rw [this]
  omega
 have hj:y.2<l.length:=Omg;refine G7 AeE (c:=n) Omg Omg λ b2 w2 cW B2 R2=>⟨_,_,_,rfl,?_⟩;have h2:Fm w w2 [] (some ⟨b2,0,none⟩) n:=⟨R2,λ k hk=>by cases hk;exact cW,B2⟩;obtain⟨p,rfl,aE⟩:=Dr (hl.grown B2) h0;have bZ:=(l.getD 0 0).toNat_lt;obtain⟨m,hm⟩:∃ m,m=(if fm=2 then n-1 else n):=⟨_,rfl⟩;obtain⟨o0,ho0⟩:∃ o:List Int,o=(if fm=2 then [Cq y.1] else []):=⟨_,rfl⟩;have ho0l:o0.length+m=n:=by
  rw [ho0,hm];rcases hf with rfl | rfl
  ·simp;omega
  ·simp
 have wa:∀ x∈o0,E9 x:=by
  rw [ho0];split
  ·intro x hx;rw [Ajo.1 hx];exact lQ
  ·simp
 refine⟨λ s w5=>∃(oa:Option Addr) (oc:Nat),s=[.int .i64 (m:Int),.slice oa o0.length oc]/\Fm w w5 o0 oa oc,?_,?_⟩
 ·refine⟨⟨Omg,Omg⟩,_,aE,Ap (λ he=>?_) (λ he=>?_)⟩
  ·have bY:fm=2:=Omg;refine (SH.start (λ _=>False) w2).An λ b3 w3 dI B3 S3=>FP (h2.grown B3) Osi (S3.get 0 rfl) λ a4 c4 w4 h4=>⟨_,_,_,rfl,a4,c4,?_,?_⟩
   ·rw [wrap_i64 Omg Omg,hm,ho0,if_pos bY,if_pos bY];simp;omega
   ·rw [ho0,if_pos bY];exact h4
  ·have bY:¬ fm=2:=Omg;refine⟨some ⟨b2,0,none⟩,n,?_,?_⟩
   ·rw [hm,ho0,if_neg bY,if_neg bY];rfl
   ·rw [ho0,if_neg bY];exact h2
 rintro _ oa _ oc w5 ⟨_,_,aA,h5⟩;cases aA;refine (SH.start (λ _=>False) w5).EL λ w6 B6 _=>?_;have C6:=Ac h5.Ar B6;have h6:=h5.grown B6;rw [wrap_i64 (n:=(y.2:Int)+1) Omg Omg,show ((y.2:Int)+1).toNat=y.2+1 by omega];refine⟨⟨Omg,Omg,Omg⟩,⟨Omg,Omg⟩,?_⟩;have iP:=I6 (q:=y.2+1) (hl.grown C6) hc;obtain⟨p',hp',hcellj⟩:=byte_at (hl.grown C6) hj;cases hp';refine⟨_,by rw [Ait];exact hcellj,?_⟩;have vI:=(l[y.2]).toNat_lt;rw [wrap_i64 (n:=(l[y.2].toNat:Int)) Omg Omg,<- AiT (i:=y.2+1) (l:=l)];have lD:m<=4096:=Omg;refine (Hs iP (m:Int) (l[y.2].toNat:Int) (by rw [AiT];omega)).mono ?_;rintro _ w7 ⟨_,rfl,xs,xa,xc,e,rfl,gq,B7,oQ,aH⟩;rw [Ait,Ait] at aH;have h7:=h6.grown B7;have hg:l.getD y.2 0=l[y.2]:=Gd hj;have hxm:xs.length<=m/\(e=0->xs.length=m)/\∀ x∈xs,x<18446744073709551616:=by
  rcases aH with ⟨ha,_,rfl,rfl⟩ | ⟨_,rfl,he⟩
  ·refine⟨by rw [Cd];omega,λ _=>Cd _ _ _,λ x hx=>?_⟩;have:=NN _ _ _ x hx;have im:l[y.2].toNat<=64:=by have:=ha.2.2.2;omega
   exact Nat.lt_of_lt_of_le this (Nat.pow_le_pow_right (n:=2) Omg im)
  ·refine⟨Osi,λ h=>?_,Osi⟩;rw [h] at he;split at he <;> cases he
 obtain⟨hxm1,hxm2,fu⟩:=hxm;have key:∀ ls,Ds l n ls->e=0/\xs=KR fm ls/\Cq y.1=Dx fm ls:=by
  intro ls aM;obtain⟨k1,k2,k3,k4⟩:=G9 aM cX hf cY;obtain⟨q1,q2,q3,q4⟩:=ED k3 k1 k2;rw [hy] at q1;have rP:=Ajx q1;have rN:y.2=1+(D8 (Dx fm ls)).length:=by rw [rP]
  have kA:y.1=DQ (Dx fm ls):=by rw [rP]
  rw [<- rN,hg] at q3;rw [<- rN] at q4;rw [<- hm] at k4;obtain⟨u1,u2,u3⟩:=Wa k4 lD k2;rw [q3,q4] at aH;rcases aH with ⟨_,_,bU,he⟩ | ⟨aP,_⟩
  ·exact⟨he,by rw [bU,u3],by rw [kA];exact F6⟩
  ·exact absurd ⟨u1,u2⟩ aP
 refine⟨_,_,_,_,rfl,?_⟩;refine⟨λ s w8=>∃(i:Nat) (fi:Int) (out:List Int) (oa:Option Addr) (oc:Nat),s=[.int .i64 fi,.slice oa out.length oc,.int .i64 (i:Int)]/\i<=xs.length/\E9 fi/\out.length=o0.length+i/\(∀ x∈out,E9 x)/\Fm w w8 out oa oc/\Rd w8 xa (xs.map EI)/\(∀ k p,AF oa=some k->xa=some p->p.block≠k) /\
   (∀ ls,Ds l n ls->out=ls.take (o0.length+i)/\fi=(if fm=2 then ls.getD i 0 else Dx fm ls)),λ s _=>match s with
   | [_,_,.int _ i]=>xs.length-i.toNat
   | _=>0,⟨0,Cq y.1,o0,oa,oc,rfl,Omg,lQ,rfl,wa,h7,gq,λ k p hk hp=>(by have:=h6.row.lt hk;have:=oQ p hp;omega),λ ls aM=>?_⟩,?_⟩
 ·obtain⟨_,_,k3⟩:=key ls aM;have hp:0<ls.length:=by have:=aM.len;omega
  have yj:ls.headD 0=ls.getD 0 0:=by cases ls <;> rfl
  refine⟨?_,?_⟩
  ·rw [ho0];rcases hf with rfl | rfl
   ·simp only [if_pos,Ais,AjE];rw [k3];cases ls with
    | nil=>simp at hp
    | cons x r=>rfl
   ·simp
  ·rw [k3];rcases hf with rfl | rfl
   ·simp only [Dx,if_pos];exact yj
   ·rfl
 rintro fi zI _ zK _ w8 ⟨i,_,out,_,_,aA,hi,l8,cC,m9,h8,qG,je,hT⟩;cases aA;refine Aa (λ av=>⟨⟨Omg,av⟩,?_⟩) (λ aJ=>?_)
 ·have dR:i<xs.length:=Omg;have hu:=fu _ (Ai7 dR);obtain⟨p2,iD,hcx⟩:=Gw qG dR;have yv:p2.block<w8.heap.size:=by
   have:=World.block_lt_of_cell? w8 _ hcx;rwa [Dv] at this
  subst iD;obtain⟨p3,pI,hcell3⟩:=Dr (hl.grown h8.Ar) h0;cases pI;refine⟨_,by rw [Ait];exact hcx,⟨Omg,Omg⟩,_,hcell3,?_⟩;have cP:xs.length-((i+1:Nat):Int).toNat<xs.length-((i:Nat):Int).toNat:=by
   simp only [Ait];omega
  rw [Ae Omg];have next:∀ {v pt:Int} {wx:World} {b:Nat} {t:TypeId},Below w8.heap.size w8 wx->wx.heap[b]?=some (.cells #[.int .i64 v] t (0,0))->E9 v->E9 pt ->
    (∀ ls,Ds l n ls->ls.take (o0.length+(i+1))=ls.take (o0.length+i)++[v]/\pt=(if fm=2 then ls.getD (i+1) 0 else Dx fm ls)) ->
    De Aix (Builtin.append_ #[103,103] 103 #[.slice zI out.length zK,.slice (some ⟨b,0,none⟩) 1 1]) (λ r aZ=>∃(t77:Option Addr) (rZ rY:Nat),r=.slice t77 rZ rY /\
     (∃(i_1:Nat) (fi:Int) (out:List Int) (oa:Option Addr) (oc:Nat),[Value.int .i64 pt,.slice t77 rZ rY,.int .i64 ((i+1:Nat):Int)]=[.int .i64 fi,.slice oa out.length oc,.int .i64 (i_1:Int)]/\i_1<=xs.length/\E9 fi/\out.length=o0.length+i_1/\(∀ x∈out,E9 x)/\Fm w aZ out oa oc/\Rd aZ (some p2) (xs.map EI)/\(∀ k p,AF oa=some k->some p2=some p->p.block≠k) /\
      (∀ ls,Ds l n ls->out=ls.take (o0.length+i_1)/\fi=(if fm=2 then ls.getD i_1 0 else Dx fm ls)))/\xs.length-((i+1:Nat):Int).toNat<xs.length-((i:Nat):Int).toNat) wx:=by
   intro v pt wx b t Bx hb hv vf hP;refine XG (h8.grown Bx) Omg hb λ pU pg aZ mj eV zl=>⟨_,_,_,rfl,⟨i+1,pt,_,pU,pg,rfl,Omg,vf,by simp [cC];omega,?_,mj,?_,?_,λ ls aM=>?_⟩,cP⟩
   ·intro x hx;rcases Ajn.1 hx with h | h
    ·exact m9 x h
    ·rw [Ajo.1 h];exact hv
   ·exact (qG.grown Bx).keeps eV λ q hq hr=>je _ q hr hq rfl
   ·intro k q hk hq;rcases zl k hk with h | h
    ·exact je k q h hq
    ·have:=Bx.size;cases hq;omega
   ·obtain⟨t1,_⟩:=hT ls aM;obtain⟨g1,g2⟩:=hP ls aM;exact⟨by rw [g1,t1],g2⟩
  refine Ap (λ he=>?_) (λ he=>?_)
  ·have bY:fm=2:=Omg;have oA:o0.length=1:=by rw [ho0,if_pos bY];rfl
   refine (Yi hu).mono ?_;rintro _ w9 ⟨_,rfl,rfl,rfl⟩;refine⟨_,rfl,(SH.start (λ _=>False) w9).An λ dN bX kt bu kG=>next bu (kG.get 0 rfl) (FD _) (FD _) λ ls aM=>?_⟩;obtain⟨_,k2,_⟩:=key ls aM;obtain⟨_,t2⟩:=hT ls aM;rw [if_pos bY] at t2;have bF:(BB ls).length=ls.length-1:=by simp [BB]
   have bU:xs=BB ls:=by rw [k2];simp [KR,bY]
   have dW:i+1<ls.length:=by rw [bU,bF] at dR;omega
   have dM:=Tz bU (Um dW) dR;have bS:IntKind.i64.wrap (fi+Cq xs[i])=ls[i+1]:=by
    rw [dM,F6,t2,EU Omg];exact Wg (aM.num _ (Ai7 _)) (aM.num _ (Ai7 _))
   rw [bS,oA,if_pos bY,EU dW,show 1+(i+1)=(i+1)+1 by omega,show 1+i=i+1 by omega];exact⟨Ajl dW,rfl⟩
  ·have bY:¬ fm=2:=Omg;have uS:fm=3:=Omg;have oA:o0.length=0:=by rw [ho0,if_neg bY];rfl
   refine (SH.start (λ _=>False) w8).An λ dN bX kt bu kG=>next bu (kG.get 0 rfl) (FD _) l8 λ ls aM=>?_;obtain⟨_,k2,_⟩:=key ls aM;obtain⟨_,t2⟩:=hT ls aM;rw [if_neg bY] at t2 ⊢;have bU:xs=BK ls:=by rw [k2];simp [KR,bY]
   have dW:i<ls.length:=by rw [bU] at dR;simpa [BK] using dR
   have aV:=Ai7 dW;have nV:Dx fm ls=Fo ls:=by simp [Dx,bY]
   have dM:=Tz bU (Tv dW) dR;have bS:IntKind.i64.wrap (IntKind.u64.wrap (IntKind.u64.wrap fi+(xs[i]:Int)))=ls[i]:=by
    rw [dM,t2,nV];exact Tw (aM.num _ aV) (DC aM.num Omg _) (LM aV)
   rw [bS,oA,Nat.zero_add,Nat.zero_add];exact⟨Ajl dW,t2⟩
 ·have bK:i=xs.length:=Omg;have uN:(e==0)=true->out.length=n:=λ h=>by
   have he:e=0:=by simpa using h
   have:=hxm2 he;omega
  refine⟨out,zI,zK,_,rfl,h8,m9,Omg,uN,λ ls aM=>?_⟩;obtain⟨k1,_,_⟩:=key ls aM;obtain⟨t1,_⟩:=hT ls aM;have dE:=hxm2 k1;refine⟨by simp [k1],?_⟩;rw [t1,AiZ (by have:=aM.len;omega)]
end
def Gc(l:List UInt8)(n:Int)(w w':World)(v:Value):Prop :=
 ∃(ls:List Int) (a:Option Addr) (c:Nat) (e:Int),v=.tuple #[.slice a ls.length c,.int .i64 e]/\Rd w' a (ls.map Ep)/\Below w.heap.size w w'/\ls.length<=4096/\(∀ x∈ls,E9 x) /\
  ((¬ Ce n/\ls=[]/\e=2)\/(Ce n/\Ds l n.toNat ls/\0<l.length/\(∀ ms,Ds l n.toNat ms->ms=ls)/\e=0)\/(Ce n/\(∀ ms,¬ (Ds l n.toNat ms/\0<l.length))/\ls=[]/\e=60))
theorem Gc.bad{l:List UInt8}{n:Int}{w w':World}(hb:Below w.heap.size w w')(hn:Ce n)(h:∀ ms,¬ (Ds l n.toNat ms/\0<l.length)):Gc l n w w' (.tuple #[.slice none 0 0,.int .i64 60]) :=
 ⟨[],none,0,60,rfl,Rd.nil _ _,hb,Osi,Osi,.inr (.inr ⟨hn,h,rfl,rfl⟩)⟩
theorem Gc.arg{l:List UInt8}{n:Int}{w w':World}(hb:Below w.heap.size w w')(hn:¬ Ce n):Gc l n w w' (.tuple #[.slice none 0 0,.int .i64 2]) :=
 ⟨[],none,0,2,rfl,Rd.nil _ _,hb,Osi,Osi,.inl ⟨hn,rfl,rfl⟩⟩
theorem WG:enters Aix 279=true:=by kernel_rfl
theorem WH:enters Aix 280=true:=by kernel_rfl
section
variable {w:World}{a:Option Addr}{c:Nat}{l:List UInt8}
theorem TG(hl:Rd w a (l.map Ag))(hc:l.length<=c)(hs:l.length<=9223372036854775807)(n:Int) :
  Cw 266 #[.slice a l.length c,.int .i64 n] w λ v w'=>Gc l n w w' v:=by
 apply OC
 delta AM Cb F G H I Ly O S W X Zb Zf;try dsimp only [Ps]
 refine⟨λ s w1=>∃ b:Bool,s=[.bool b]/\w1=w/\(b=true↔¬ Ce n),?_,?_⟩
 ·refine Aa (λ h=>⟨true,rfl,rfl,?_⟩) (λ h=>⟨_,rfl,rfl,?_⟩)
  ·unfold Ce;simp;omega
  ·unfold Ce;simp;omega
 rintro _ w1 ⟨b,aA,rfl,hb⟩;cases aA;refine Aq (λ h=>Gc.arg (.refl _ _) (hb.1 h)) (λ h=>?_);have aU:Ce n:=by
  rcases Classical.em (Ce n) with h1 | h1
  ·exact h1
  ·rw [hb.2 h1] at h;cases h
 obtain⟨n,rfl⟩:∃ m:Nat,n=(m:Int):=⟨n.toNat,by have:=aU.1;omega⟩;have hn:n<=4096:=by have:=aU.2;omega
 refine Ap (λ h=>Gc.bad (.refl _ _) aU λ ms hm=>by have:=hm.2;omega) (λ aQ=>?_);have h0:0<l.length:=Omg;obtain⟨p,rfl,aE⟩:=Dr hl h0;have bZ:=(l.getD 0 0).toNat_lt;refine⟨⟨Omg,Omg⟩,_,aE,Aa (λ h=>Gc.bad (.refl _ _) aU λ ms hm=>by have:=hm.1.form;omega) (λ hle=>?_)⟩;obtain⟨fm,cX⟩:∃ fm,fm=(l.getD 0 0).toNat:=⟨_,rfl⟩;rw [<- cX] at aE hle;have bO:∀ fn,(fn=279/\fm<=1)\/(fn=280/\(fm=2\/fm=3))->enters Aix fn=true/\Calls Aix fn #[.slice (some p) l.length c,.int .i64 (n:Int)] w1 (SV λ v w'=>Gq l n w1 w' v):=by
  rintro fn (⟨rfl,h⟩ | ⟨rfl,h⟩)
  ·exact⟨WG,UQ hl hc hs h0 cX h hn⟩
  ·exact⟨WH,UR hl hc hs h0 cX h hn⟩
 refine⟨λ s w2=>w2=w1/\∃ fn,s=[.func (.func fn) #[] #[]]/\((fn=279/\fm<=1)\/(fn=280/\(fm=2\/fm=3))),?_,?_⟩
 ·refine⟨⟨Omg,Omg⟩,_,aE,Aa (λ h=>⟨rfl,_,rfl,.inr ⟨rfl,Omg⟩⟩) (λ h=>⟨rfl,_,rfl,.inl ⟨rfl,Omg⟩⟩)⟩
 rintro _ _ _ w2 ⟨rfl,fn,aA,nW⟩;cases aA;obtain⟨hent,bB⟩:=bO _ nW;rw [hent];refine bB.mono ?_;rintro _ w3 ⟨_,rfl,ms,a3,c3,ok,rfl,h3,mr,qp,we,aF⟩;refine⟨_,_,_,_,rfl,As (Aq (λ hk=>?_) (λ hk=>Gc.bad h3.Ar aU λ ls aM=>?_))⟩
 case refine_2 =>
  rw [Ait] at aM;have:=(aF ls aM.1).1;rw [this] at hk;cases hk
 have hlen:=we hk;obtain⟨p',hp',hcell3⟩:=Dr (hl.grown h3.Ar) h0;cases hp';rw [<- cX] at hcell3;refine⟨⟨Omg,Omg⟩,_,hcell3,?_⟩;rw [wrap_i64 Omg Omg];refine (Hn (fm:Int) h3.row.rd h3.row.le mr).mono ?_;rintro _ w4 ⟨_,rfl,hE⟩;obtain⟨a4,c4,rfl,h4⟩:=JE.DN Omg qp hE;have C4:=Ac h3.Ar h4.Ar;refine⟨_,_,_,_,rfl,(Hd (l:=DA fm ms) (c:=c4) h4.rd (hl.grown C4)).mono ?_⟩;rintro _ w5 ⟨_,rfl,rfl,rfl⟩;refine⟨_,rfl,As (Aa (λ he=>?_) (λ he=>Gc.bad C4 aU λ ls aM=>he ?_))⟩
 ·refine⟨ms,a3,c3,0,rfl,h3.row.rd.grown h4.Ar,C4,qp,mr,.inr (.inl ⟨aU,?_,h0,?_,rfl⟩)⟩
  ·rw [Ait];exact⟨hlen,mr,Omg,by rw [<- cX];exact he.symm⟩
  ·intro ls aM;rw [Ait] at aM;exact ((aF ls aM).2).symm
 ·rw [Ait] at aM;have h1:=(aF ls aM.1).2;have h2:=aM.1.enc;rw [<- cX] at h2;rw [h1,<- h2]
end
theorem Abr:Me Aix 68=some (120,3,32,.agg #[.int .i64 0,.int .i64 0,.string ⟨#[]⟩]):=by kernel_rfl
structure NX(w w':World)(vs:List AD)(a:Option Addr)(c:Nat):Prop where
 row:Row w' 120 3 a vs.length c (AR vs)
 new:∀ k,AF a=some k->w.heap.size<=k
 Ar:Below w.heap.size w w'
theorem NX.nil(w:World):NX w w [] none 0:=⟨Row.nil _ _ _,by simp [AF],.refl _ _⟩
theorem NX.grown{w w1 w2:World}{xs:List AD}{a:Option Addr}{c:Nat}(h:NX w w1 xs a c)(hb:Below w1.heap.size w1 w2):NX w w2 xs a c:=⟨h.row.grown hb,h.new,Ac h.Ar hb⟩
theorem Zu(xs ys:List AD):AR (xs++ys)=AR xs++AR ys:=by simp [AR]
theorem MJ{w w1:World}{a:Option Addr}{c:Nat}{xs:List AD}(h:NX w w1 xs a c)(hl:xs.length+1<=1000000){x:AD}{b:Nat}{t:TypeId}(hb:w1.heap[b]?=some (.cells #[.int .i64 x.1,.int .i64 x.2.1,.string x.2.2] t (0,0))){f:Value->World->Prop}
  (hf:∀ a' c' w',NX w w' (xs++[x]) a' c'->f (.slice a' (xs++[x]).length c') w'):De Aix (Builtin.append_ #[68,68] 68 #[.slice a xs.length c,.slice (some ⟨b,0,none⟩) 1 1]) f w1:=by
 have aY:Rd w1 (some ⟨b,0,none⟩) (AR [x]):=by
  have:=Rd.Al hb;simpa [HG] using this
 obtain⟨a5,c5,w2,aG,aI,cw,hnw⟩:=BV (ty:=68) (mc:=1) Abr rfl Omg Omg h.row aY (m:=1) rfl (by simp [HG];exact⟨rfl,rfl,rfl⟩) Omg;unfold De;rw [aG];have e:xs.length+1=(xs++[x]).length:=Osi;rw [e] at aI ⊢;refine hf a5 c5 w2 ⟨by rw [Zu];exact aI,λ k hk=>?_,h.Ar.trans (cw.below h.Ar.size λ k hk he=>by have:=h.new k he;omega)⟩;rcases hnw k hk with h1 | h1
 ·exact h.new k h1
 ·exact AiI h.Ar.size h1
/-! ### the values that are not null -/
theorem P5{kind:Int}{ls:List AD}(hg:Bb kind ls)(h3:kind≠3):AV ls=(CK ls).map λ x=>(kind,x,E0):=by
 unfold CK;rw [List.map_map]
 conv=>lhs;rw [<- List.map_id (AV ls)]
 apply List.map_congr_left;intro v hv;obtain⟨hm,aQ⟩:=List.mem_filter.1 hv;have aK:=hg.all v hm;simp only [okV,Bool.and_eq_true,Bool.or_eq_true,decide_eq_true_eq] at aK;have cu:v.1=kind:=aK.2.resolve_right (by simpa using aQ);have hr:=aK.1;have sF:¬ v.1=3:=by rw [cu];exact h3
 have he:v.2.2=E0:=by
  unfold AK at hr;split at hr
  ·simp at hr;exact hr.2
  ·split at hr
   ·simpa using hr
   ·split at hr
    ·simp at hr;exact hr.2
    ·simp at hr
 show v=(kind,v.2.1,E0);rw [<- cu,<- he]
theorem MV{kind:Int}{ls:List AD}(hg:Bb kind ls)(h3:kind=3):AV ls=(BC ls).map λ s=>(kind,0,s):=by
 unfold BC;rw [List.map_map]
 conv=>lhs;rw [<- List.map_id (AV ls)]
 apply List.map_congr_left;intro v hv;obtain⟨hm,aQ⟩:=List.mem_filter.1 hv;have aK:=hg.all v hm;simp only [okV,Bool.and_eq_true,Bool.or_eq_true,decide_eq_true_eq] at aK;have cu:v.1=kind:=aK.2.resolve_right (by simpa using aQ);have hr:=aK.1;have sF:v.1=3:=by rw [cu];exact h3
 have he:v.2.1=0:=by
  unfold AK at hr;rw [if_neg Omg,if_neg Omg,if_neg Omg,if_pos sF] at hr;simp at hr;exact hr.1
 show v=(kind,0,v.2.2);rw [<- cu,<- he]
theorem VM{ls:List AD}{o:List UInt8}(hg:Bb 3 ls)(h:DR 3 ls o):HR o (BC ls).length (BC ls)/\0<o.length:=by
 have key:∀(f:Int) (b:List UInt8),(0<=f/\f<=1)->FK (BC ls) f b->HR b (BC ls).length (BC ls)/\0<b.length:=by
  intro f b hf hE;have hh:((b.getD 0 0).toNat:Int)=f:=by
   cases hE with
   | plain=>rfl
   | table t wd ht hw=>rfl
  refine⟨⟨rfl,by rw [hh];exact hg.enc f hf,by rw [hh];exact hE⟩,?_⟩;cases hE with
  | plain=>simp
  | table t wd ht hw=>simp
 cases h with
 | text h b0 b1 h0 h1 =>
  split
  ·exact key 1 b1 Omg h1
  ·exact key 0 b0 Omg h0
 | num h=>exact absurd rfl h
theorem Z8{f:Nat}(hf:f<=3)(l:List Int):((DA f l).getD 0 0).toNat=f/\0<(DA f l).length:=by
 rcases (by omega:f=0\/f=1\/f=2\/f=3) with rfl | rfl | rfl | rfl <;> exact⟨rfl,by simp [DA]⟩
theorem YD{kind:Int}{ls:List AD}{o:List UInt8}(hg:Bb kind ls)(h3:kind≠3)(h:DR kind ls o):Ds o (CK ls).length (CK ls)/\0<o.length:=by
 cases h with
 | text h b0 b1 h0 h1=>exact absurd h h3
 | num h =>
  obtain⟨e1,e2⟩:=Z8 (Od (CK ls)) (CK ls);exact⟨⟨rfl,hg.Acu,by rw [e1];exact Od _,by rw [e1]⟩,e2⟩
def AgL(kind:Int)(l:List UInt8)(n:Nat)(w w':World)(v:Value):Prop :=
 ∃(vs:List AD) (a:Option Addr) (c:Nat) (ok:Bool),v=.tuple #[.slice a vs.length c,.bool ok]/\Rd w' a (AR vs)/\Below w.heap.size w w'/\vs.length<=4096/\(∀ v∈vs,BM v) /\
  ∀ ls,Bb kind ls->(AV ls).length=n->(0<n->DR kind ls l)->(n=0->l=[])->ok=true/\vs=AV ls
section
variable {w:World}{a:Option Addr}{c:Nat}{l:List UInt8}
theorem PT(kind:Int)(hl:Rd w a (l.map Ag))(hc:l.length<=c)(hs:l.length<=9223372036854775807){n:Nat}(hn:n<=1024) :
  Cw 239 #[.int .i64 kind,.slice a l.length c,.int .i64 (n:Int)] w λ v w'=>AgL kind l n w w' v:=by
 apply LX
 delta Ad AM F G H I J Ks Li Lt N O Eg S T W X;try dsimp only [Ps]
 refine Ap (λ hz=>?_) (λ ju=>Ap (λ h3=>?_) (λ h3=>?_))
 ·have cY:n=0:=Omg;subst cY;refine⟨[],none,0,_,rfl,Rd.nil _ _,.refl _ _,Osi,Osi,λ ls hg hf _ h0=>?_⟩;rw [h0 rfl];exact⟨rfl,(List.eq_nil_of_length_eq_zero hf).symm⟩
 ·subst h3;have cY:0<n:=Omg;refine (To hl hc hs (n:Int)).mono ?_;rintro _ w1 ⟨_,rfl,ss,a1,c1,e1,rfl,R1,B1,l1,q1⟩;have aU:Ce (n:Int):=⟨Omg,Omg⟩;rw [Ait] at q1;refine⟨_,_,_,_,rfl,?_⟩;refine⟨λ s w2=>∃(i:Nat) (oa:Option Addr) (oc:Nat),s=[.slice oa ((ss.take i).map λ s=>((3:Int),(0:Int),s)).length oc,.int .i64 (i:Int)]/\i<=ss.length/\NX w1 w2 ((ss.take i).map λ s=>((3:Int),(0:Int),s)) oa oc,λ s _=>match s with
    | [_,.int _ i]=>ss.length-i.toNat
    | _=>0,⟨0,none,0,rfl,Omg,NX.nil w1⟩,?_⟩
  rintro oa _ oc _ w2 ⟨i,_,_,aA,hi,h2⟩;cases aA;refine Aa (λ aB=>⟨⟨Omg,aB⟩,?_⟩) (λ aJ=>?_)
  ·have aD:i<ss.length:=Omg;obtain⟨p,rfl,aE⟩:=ES (R1.grown h2.Ar) aD;refine⟨_,by rw [Ait];exact aE,(SH.start (λ _=>False) w2).An λ b3 w3 dI B3 S3=>MJ (x:=(3,0,ss[i])) (h2.grown B3) (by simp;omega) (S3.get 0 rfl) λ a4 c4 w4 h4=>⟨_,_,_,rfl,?_⟩⟩;have e:(ss.take (i+1)).map (λ s=>((3:Int),(0:Int),s))=(ss.take i).map (λ s=>((3:Int),(0:Int),s))++[((3:Int),(0:Int),ss[i])]:=by
    rw [Ajl aD,AiK];rfl
   rw [Ae Omg];refine⟨⟨i+1,a4,c4,by rw [e],Omg,by rw [e];exact h4⟩,?_⟩;simp only [Ait];omega
  ·have bK:ss.take i=ss:=AiZ Omg;rw [bK] at h2 ⊢;refine⟨_,oa,oc,_,rfl,h2.row.rd,Ac B1 h2.Ar,by simp;omega,?_,λ ls hg hf ho _=>?_⟩
   ·intro v hv;obtain⟨s,_,rfl⟩:=Ah9.1 hv;exact⟨Osi,Osi⟩
   ·obtain⟨d1,d2⟩:=VM hg (ho cY);have bV:=MV hg rfl;have fD:(BC ls).length=n:=by rw [<- hf,bV,AiH]
    rw [fD] at d1;rcases q1 with ⟨k1,_⟩ | ⟨_,k2,rfl,_⟩ | ⟨_,k2,_⟩
    ·exact absurd aU k1
    ·rw [bV,k2.one d1];exact⟨rfl,rfl⟩
    ·exact absurd ⟨d1,d2⟩ (k2 _)
 ·have cY:0<n:=Omg;refine (TG hl hc hs (n:Int)).mono ?_;rintro _ w1 ⟨_,rfl,ns,a1,c1,e1,rfl,R1,B1,l1,hI,q1⟩;have aU:Ce (n:Int):=⟨Omg,Omg⟩;rw [Ait] at q1;refine⟨_,_,_,_,rfl,?_⟩;refine⟨λ s w2=>∃(i:Nat) (oa:Option Addr) (oc:Nat),s=[.slice oa ((ns.take i).map λ x=>((kind:Int),(x:Int),E0)).length oc,.int .i64 (i:Int)]/\i<=ns.length/\NX w1 w2 ((ns.take i).map λ x=>((kind:Int),(x:Int),E0)) oa oc,λ s _=>match s with
    | [_,.int _ i]=>ns.length-i.toNat
    | _=>0,⟨0,none,0,rfl,Omg,NX.nil w1⟩,?_⟩
  rintro oa _ oc _ w2 ⟨i,_,_,aA,hi,h2⟩;cases aA;refine Aa (λ aB=>⟨⟨Omg,aB⟩,?_⟩) (λ aJ=>?_)
  ·have aD:i<ns.length:=Omg;obtain⟨p,rfl,aE⟩:=Df (R1.grown h2.Ar) aD;refine⟨_,by rw [Ait];exact aE,(SH.start (λ _=>False) w2).An λ b3 w3 dI B3 S3=>MJ (x:=(kind,ns[i],E0)) (h2.grown B3) (by simp;omega) (S3.get 0 rfl) λ a4 c4 w4 h4=>⟨_,_,_,rfl,?_⟩⟩;have e:(ns.take (i+1)).map (λ x=>((kind:Int),(x:Int),E0))=(ns.take i).map (λ x=>((kind:Int),(x:Int),E0))++[((kind:Int),(ns[i]:Int),E0)]:=by
    rw [Ajl aD,AiK];rfl
   rw [Ae Omg];refine⟨⟨i+1,a4,c4,by rw [e],Omg,by rw [e];exact h4⟩,?_⟩;simp only [Ait];omega
  ·have bK:ns.take i=ns:=AiZ Omg;rw [bK] at h2 ⊢;refine⟨_,oa,oc,_,rfl,h2.row.rd,Ac B1 h2.Ar,by simp;omega,?_,λ ls hg hf ho _=>?_⟩
   ·intro v hv;obtain⟨x,hx,rfl⟩:=Ah9.1 hv;exact⟨(hI x hx).1,(hI x hx).2⟩
   ·obtain⟨d1,d2⟩:=YD hg h3 (ho cY);have bV:=P5 hg h3;have fD:(CK ls).length=n:=by rw [<- hf,bV,AiH]
    rw [fD] at d1;rcases q1 with ⟨k1,_⟩ | ⟨_,_,_,k2,rfl⟩ | ⟨_,k2,_⟩
    ·exact absurd aU k1
    ·rw [bV,k2 _ d1];exact⟨rfl,rfl⟩
    ·exact absurd ⟨d1,d2⟩ (k2 _)
end
/-! ### spread -/
theorem Zv(cur:List AD){i:Nat}(hi:i<cur.length)(v:AD) :
  (((⟨AR cur⟩:Array Value).setIfInBounds (i*3) (.int .i64 v.1)).setIfInBounds (i*3+1) (.int .i64 v.2.1)).setIfInBounds (i*3+2) (.string v.2.2)=⟨AR (cur.set i v)⟩:=by
 apply Array.ext';simp only [Array.toList_setIfInBounds];apply List.ext_getElem?;intro j;have hl:=IX cur;have bA:=IX (cur.set i v);rw [Aiy] at bA;by_cases hj:j<cur.length*3
 ·have hq:j / 3<cur.length:=Omg;have e:j=j / 3*3+j % 3:=Omg;have g1:=HH cur (j / 3) (j % 3) hq Omg;have g2:=HH (cur.set i v) (j / 3) (j % 3) (by rw [Aiy];exact hq) Omg;rw [<- e] at g1 g2;rw [g2];simp only [List.getElem?_set,Aiy,hl];by_cases dX:j / 3=i
  ·subst dX;simp only [List.getElem_set_self];rcases (by omega:j % 3=0\/j % 3=1\/j % 3=2) with h | h | h
   ·rw [h] at e ⊢;rw [if_neg Omg,if_neg Omg,if_pos Omg,if_pos Omg];rfl
   ·rw [h] at e ⊢;rw [if_neg Omg,if_pos Omg,if_pos Omg];rfl
   ·rw [h] at e ⊢;rw [if_pos Omg,if_pos Omg];rfl
  ·rw [if_neg Omg,if_neg Omg,if_neg Omg,g1];rw [List.getElem_set_ne (λ h=>dX h.symm)]
 ·rw [Aji (by simp only [Aiy,hl];omega),Aji (by rw [bA];omega)]
theorem Wf(n:Nat):madeCells (Value.agg #[.int .i64 0,.int .i64 0,.string ⟨#[]⟩]).cells (n*3)=⟨AR (Aio n (0,0,E0))⟩:=by
 apply Array.ext';apply List.ext_getElem?;intro j;by_cases hj:j<n*3
 ·have g2:=HH (Aio n (0,0,E0)) (j / 3) (j % 3) (by rw [List.length_replicate];omega) Omg;have e:j / 3*3+j % 3=j:=Omg;rw [e] at g2;rw [g2,List.getElem_replicate];have hc:(Value.agg #[.int .i64 0,.int .i64 0,.string ⟨#[]⟩]).cells=#[.int .i64 0,.int .i64 0,.string ⟨#[]⟩]:=rfl;rw [hc];have ao:(#[Value.int .i64 0,.int .i64 0,.string ⟨#[]⟩]:Array Value).size=3:=rfl;rcases (by omega:j % 3=0\/j % 3=1\/j % 3=2) with h | h | h <;> simp [madeCells,hj,h,HG]
 ·rw [Aji (by rw [Array.length_toList,KL];omega),Aji (by rw [IX,List.length_replicate];omega)]
structure Vh(w w':World)(a:Option Addr)(xs:List Value):Prop where
 rd:Rd w' a xs
 new:∀ k,AF a=some k->w.heap.size<=k
theorem Vh.nil(w w':World):Vh w w' none []:=⟨Rd.nil _ _,λ k hk=>by cases hk⟩
theorem Vh.grown{w w' w2:World}{a:Option Addr}{xs:List Value}(h:Vh w w' a xs)(B:Below w'.heap.size w' w2):Vh w w2 a xs:=⟨h.rd.grown B,h.new⟩
theorem Vh.before{w0 w w':World}{a:Option Addr}{xs:List Value}(h:Vh w w' a xs)(B:Below w0.heap.size w0 w):Vh w0 w' a xs:=⟨h.rd,λ k hk=>AiI B.size (h.new k hk)⟩
def Ahz(bits:List Nat)(vs:List AD)(w w':World)(v:Value):Prop :=
 ∃(os:List AD) (a:Option Addr) (c:Nat) (ok:Bool),v=.tuple #[.slice a os.length c,.bool ok]/\Vh w w' a (AR os)/\Below w.heap.size w w'/\os.length<=4096/\(∀ v∈os,BM v) /\
  ∀ ls,bits=AY ls->vs=AV ls->(∀ v∈ls,v.1=0->v=(0,0,E0))->ok=true/\os=ls
theorem Un{w:World}{b:Nat}{cs:Array Value}{t:TypeId}(hb:w.heap[b]?=some (.cells cs t (0,0))){p:Addr}{i:Nat}(hp:p=⟨b,i,none⟩){v:Value}{k:World->Prop}(hi:i<cs.size)
  (hk:∀ w',Ak (·=b) w w'->w'.heap[b]?=some (.cells (cs.setIfInBounds i v) t (0,0))->k w'):DG p v k w:=by
 subst hp;exact EH hb hi hk
section
variable {w:World}{a a2:Option Addr}{c c2:Nat}{bits:List Nat}{vs:List AD}
theorem RE(hb:Rd w a (bits.map EI))(hv:Rd w a2 (AR vs))(hn:bits.length<=4096)(oM:vs.length<=4096)(aK:∀ v∈vs,BM v) :
  Cw 240 #[.slice a bits.length c,.slice a2 vs.length c2] w λ v w'=>Ahz bits vs w w' v:=by
 apply MQ
 delta Ad F G H I Li Lt Lu O MH Rs S Am T W X;try dsimp only [Ps]
 refine DS Abr (l:=(bits.length:Int)) (c:=(bits.length:Int)) Omg Omg Omg Omg λ bo w1 fW B1 kn=>?_;rw [Ait,Wf] at kn;rw [Ait];have low:∀ {w':World},Ak (λ k=>k=bo) w1 w'->Below w.heap.size w w':=λ K=>B1.trans (K.below B1.size λ k hk h=>Omg);refine⟨_,_,_,rfl,λ s w2=>∃(at_ i:Nat) (cur:List AD),s=[.int .i64 (at_:Int),.int .i64 (i:Int)]/\i<=bits.length/\at_<=vs.length/\cur.length=bits.length/\(∀ v∈cur,BM v)/\Ak (λ k=>k=bo) w1 w2/\w2.heap[bo]?=some (.cells ⟨AR cur⟩ 120 (0,0)) /\
   (∀ ls,bits=AY ls->vs=AV ls->(∀ v∈ls,v.1=0->v=(0,0,E0))->at_=(AV (ls.take i)).length/\cur=ls.take i++Aio (bits.length-i) (0,0,E0)),λ s _=>match s with
   | [_,.int _ i]=>bits.length-i.toNat
   | _=>0,⟨0,0,_,rfl,Omg,Omg,Osi,?_,.refl _ _,kn,λ ls _ _ _=>⟨rfl,Osi⟩⟩,?_⟩
 ·intro v hv;rw [(List.mem_replicate.1 hv).2];exact⟨Osi,Osi⟩
 rintro _ _ w2 ⟨at_,i,cur,aA,hi,cV,bQ,eJ,K2,ko,hT⟩;cases aA;have B2:=low K2;have ke:∀ {ls:List AD},bits=AY ls->ls.length=bits.length:=λ h=>by rw [h];simp [AY]
 refine Aa (λ aB=>⟨⟨Omg,aB⟩,?_⟩) (λ aJ=>?_)
 ·have aD:i<bits.length:=Omg;have hic:i<cur.length:=Omg;obtain⟨p,rfl,aE⟩:=Gw (hb.grown B2) aD;refine⟨_,by rw [Ait];exact aE,?_⟩;have cP:bits.length-((i+1:Nat):Int).toNat<bits.length-((i:Nat):Int).toNat:=by
   simp only [Ait];omega
  have bit:∀ {ls:List AD} (h:bits=AY ls) (hl:i<ls.length),bits[i]=if ls[i].1=0 then 1 else 0:=by
   intro ls h hl;subst h;simp [AY]
  rw [Ae (k:=i) Omg];refine Ap (λ h1=>?_) (λ h1=>Ap (λ l7=>?_) (λ aQ=>?_))
  ·refine⟨⟨at_,i+1,cur,rfl,Omg,cV,bQ,eJ,K2,ko,λ ls g1 g2 g3=>?_⟩,cP⟩;obtain⟨t1,t2⟩:=hT ls g1 g2 g3;have hl:=ke g1;have cy:i<ls.length:=Omg;have cK:=bit g1 cy;have hz:ls[i].1=0:=by
    by_cases hz:ls[i].1=0
    ·exact hz
    ·rw [if_neg hz] at cK;omega
   refine⟨by rw [t1,CM cy,if_pos hz,Ajr],?_⟩;rw [t2,Ajl cy,g3 _ (Ai7 cy) hz,Air];congr 1;rw [show bits.length-i=(bits.length-(i+1))+1 by omega,AjN];rfl
  ·refine⟨[],none,0,false,rfl,Vh.nil _ _,B2,Osi,Osi,λ ls g1 g2 g3=>?_⟩;exfalso;obtain⟨t1,t2⟩:=hT ls g1 g2 g3;have hl:=ke g1;have cy:i<ls.length:=Omg;have cK:=bit g1 cy;have ju:¬ ls[i].1=0:=λ hz=>by rw [if_pos hz] at cK;omega
   have hle:(AV (ls.take (i+1))).length<=(AV ls).length:=by
    unfold AV;exact ((List.take_sublist (i+1) ls).filter _).length_le
   rw [CM cy,if_neg ju,Aiq,<- t1,<- g2] at hle;simp at hle;omega
  ·have uu:at_<vs.length:=Omg;obtain⟨p2,iD,c0,c1,c2⟩:=Db (hv.grown B2) uu;subst iD;refine⟨⟨Omg,Omg⟩,_,by rw [Ait];exact c0,_,by rw [Ait];exact c1,_,by rw [Ait];exact c2,⟨Omg,Omg⟩,?_⟩;rw [Ait];have ao:(⟨AR cur⟩:Array Value).size=bits.length*3:=by
    show (AR cur).length=_;rw [IX,bQ]
   refine Un ko (p:=(⟨bo,0,none⟩:Addr).add (i*3)) (i:=i*3) (by rw [Ax];simp) Omg λ w3 K3 iK=>?_;refine Un iK (p:=((⟨bo,0,none⟩:Addr).add (i*3)).add 1) (i:=i*3+1) (by rw [Ax,Ax];simp) (by simp only [Array.size_setIfInBounds];omega) λ w4 K4 q9=>?_;refine Un q9 (p:=((⟨bo,0,none⟩:Addr).add (i*3)).add 2) (i:=i*3+2) (by rw [Ax,Ax];simp) (by simp only [Array.size_setIfInBounds];omega) λ w5 K5 fS=>?_;rw [Zv cur hic] at fS;rw [Ae Omg];refine⟨⟨at_+1,i+1,cur.set i vs[at_],rfl,Omg,Omg,by rw [Aiy];exact bQ,?_,((K2.trans K3 (λ _ _ h=>h)).trans K4 (λ _ _ h=>h)).trans K5 (λ _ _ h=>h),fS,λ ls g1 g2 g3=>?_⟩,cP⟩
   ·intro v xU;rcases List.mem_or_eq_of_mem_set xU with h | h
    ·exact eJ v h
    ·rw [h];exact aK _ (Ai7 uu)
   ·obtain⟨t1,t2⟩:=hT ls g1 g2 g3;have hl:=ke g1;have cy:i<ls.length:=Omg;have cK:=bit g1 cy;have ju:¬ ls[i].1=0:=λ hz=>by rw [if_pos hz] at cK;omega
    have bV:=CM cy;rw [if_neg ju] at bV;refine⟨by rw [t1,bV,Aiq];rfl,?_⟩;have iX:vs[at_]=ls[i]:=by
     have cl:AV (ls.take (i+1)) <+: AV ls:=by
      unfold AV;exact (List.take_prefix (i+1) ls).filter _
     rw [bV] at cl;obtain⟨r,hr⟩:=cl;have hv?:vs[at_]?=some ls[i]:=by
      rw [g2,<- hr,Air,t1];simp
     rw [List.getElem?_eq_getElem uu] at hv?;exact Ajx hv?
    rw [iX,t2,Ajl cy];have fD:(ls.take i).length=i:=by rw [Ajm];omega
    rw [List.set_append_right _ _ Omg,fD,Nat.sub_self,show bits.length-i=(bits.length-(i+1))+1 by omega,AjN,List.set_cons_zero,Air];rfl
 ·refine⟨cur,some ⟨bo,0,none⟩,bits.length,_,by rw [bQ],?_,B2,Omg,eJ,λ ls g1 g2 g3=>?_⟩
  ·exact⟨Rd.Al ko,λ k hk=>by cases hk;exact fW⟩
  ·obtain⟨t1,t2⟩:=hT ls g1 g2 g3;have hl:=ke g1;have bK:ls.take i=ls:=AiZ Omg;rw [bK] at t1 t2;refine⟨by rw [g2,t1];simp,?_⟩;rw [t2,show bits.length-i=0 by omega];simp
end
def CD(a:Option Addr)(c:Nat)(cs:List Bv):It:=It.row 102 3 a cs.length c (BF cs)
theorem Af3:Me Aix 27=some (102,3,32,.agg #[.string ⟨#[]⟩,.int .i64 0,.bool false]):=by kernel_rfl
section
variable {w0 w:World}{H:List It}{a:Option Addr}{c:Nat}{cs:List Bv}
theorem Aez(S:ST w0 w H)(n:Nat)(hn:H[n]?=some (CD a c cs)):Rd w a (BF cs):=S.rd n hn
theorem Aew(S:ST w0 w H)(n:Nat)(hn:H[n]?=some (CD a c cs)){x:Bv}{b:Nat}(hs:Rd w (some ⟨b,0,none⟩) (UK x))(hl:cs.length+1<=1000000){f:Value->World->Prop}
  (hf:∀ a' c' w',ST w0 w' (H.set n (CD a' c' (cs++[x])))->f (.slice a' (cs++[x]).length c') w') :
  De Aix (Builtin.append_ #[27,27] 27 #[.slice a cs.length c,.slice (some ⟨b,0,none⟩) 1 1]) f w:=by
 refine S.app n hn Af3 rfl Omg Omg hs (mm:=1) rfl (by simp [UK];exact⟨rfl,rfl,rfl⟩) Omg λ a' c' w' S'=>?_;have e1:(cs++[x]).length=cs.length+1:=Osi;have e2:BF cs++UK x=BF (cs++[x]):=by simp [BF]
 rw [e2] at S';have:=hf a' c' w' (by unfold CD;rw [e1];exact S');rwa [e1] at this
end
def A8(l:List UInt8)(at_:Nat):Nat->Option (List Bv × Nat)
 | 0=>some ([],at_)
 | n+1=>match BG l (at_:Int) 24 with
  | none=>none
  | some x=>if l.length-x.2<2\/1<(l.getD (x.2+1) 0).toNat then none else
   (A8 l (x.2+2) n).map λ r=>((Bu x.1,((l.getD x.2 0).toNat:Int),(l.getD (x.2+1) 0).toNat==1) :: r.1,r.2)
def A7(l:List UInt8)(at_:Int):Option (List Bv × Nat) :=
 match takeN l at_ with
 | none=>none
 | some x=>if 16<x.1 then none else match A8 l x.2 x.1 with
  | none=>none
  | some r=>if Ao r.1 then some r else none
theorem V8{l:List UInt8}{at_:Int}{most:Nat}{s:List UInt8}{k:Nat}(h:BG l at_ most=some (s,k)):s.length<=l.length:=by
 unfold BG at h;split at h
 ·split at h
  ·cases h
  ·simp only [Option.some.injEq,Prod.mk.injEq] at h;obtain⟨rfl,_⟩:=h;rw [Ajm,AiT];omega
 ·cases h
def Vi(o:Option (List Bv × Nat))(w w':World)(v:Value):Prop :=
 match o with
 | none=>v=.tuple #[.slice none 0 0,.int .i64 0,.int .i64 52]/\Below w.heap.size w w'
 | some r=>∃ a c,v=.tuple #[.slice a r.1.length c,.int .i64 (r.2:Int),.int .i64 0]/\ST w w' [CD a c r.1]
theorem Vi.bad{o:Option (List Bv × Nat)}{w w':World}(h:o=none)(B:Below w.heap.size w w'):Vi o w w' (.tuple #[.slice none 0 0,.int .i64 0,.int .i64 52]):=by
 subst h;exact⟨rfl,B⟩
section
variable {w:World}{a:Option Addr}{c:Nat}{l:List UInt8}
theorem LH(hl:Rd w a (l.map Ag)){k:Nat}(h:2<=l.length-k):∃ p,a=some p/\w.cell? (p.add (k*1))=some (.int .u8 ((l.getD k 0).toNat:Int))/\w.cell? (p.add ((k+1)*1))=some (.int .u8 ((l.getD (k+1) 0).toNat:Int)):=by
 have h1:k<l.length:=Omg;have h2:k+1<l.length:=Omg;obtain⟨p,rfl,c1⟩:=byte_at hl h1;obtain⟨p',hp,c2⟩:=byte_at hl h2;cases hp;exact⟨p,rfl,by rw [c1];simp [List.getD,h1],by rw [c2];simp [List.getD,h2]⟩
theorem Lg(hl:Rd w a (l.map Ag))(hc:l.length<=c)(hs:l.length<=140737488355328)(at_:Int) :
  Cw 107 #[.slice a l.length c,.int .i64 at_] w λ v w'=>Vi (A7 l at_) w w' v:=by
 apply Pe
 delta Ad Gb Bz Cb D F G H I J Ks Ly N O Ae0 S T U W Wu X;try dsimp only [Ps]
 refine (AL hl hc Omg at_).mono ?_;rintro _ w1 ⟨_,rfl,rfl,rfl⟩;cases hx:takeN l at_ with
 | none=>exact⟨_,_,_,rfl,Ai (λ _=>.bad (by simp [A7,hx]) (.refl _ _)) (λ h=>by cases h)⟩
 | some x =>
  obtain⟨n,at0⟩:=x;obtain⟨hn,_,_,cW,_⟩:=AA hx;refine⟨_,_,_,rfl,Ai (λ h=>absurd rfl h) (λ _=>Aa (λ h=>.bad ?_ (.refl _ _)) (λ gi=>?_))⟩
  ·have:16<n:=by simp only at h;omega
   simp [A7,hx,this]
  have uQ:n<=16:=by simp only at gi;omega
  have hT:A7 l at_=match A8 l at0 n with
   | none=>none
   | some r=>if Ao r.1 then some r else none:=by
   have:¬ 16<n:=Omg;simp [A7,hx,this]
  rw [hT];refine⟨λ s w2=>∃(i aL:Nat) (cs:List Bv) (ca:Option Addr) (cc:Nat),s=[.int .i64 (aL:Int),.slice ca cs.length cc,.int .u64 (i:Int)]/\i<=n/\cs.length=i/\aL<=l.length/\(∀ c∈cs,c.1.size<=9223372036854775807) /\
    A8 l at0 n=((A8 l aL (n-i)).map λ r=>(cs++r.1,r.2))/\ST w1 w2 [CD ca cc cs],λ s _=>match s with
   | [_,_,.int _ i]=>n-i.toNat
   | _=>0,⟨0,at0,[],none,0,rfl,Omg,rfl,Omg,Osi,Osi,(ST.start w1).nil _ _⟩,?_⟩
  rintro _ ca _ cc _ w2 ⟨i,aL,cs,_,_,aA,hi,p8,cV,hq,aW,S⟩;cases aA;refine Aa (λ aB=>?_) (λ aJ=>?_)
  ·obtain⟨m,hm⟩:∃ m,n-i=m+1:=⟨n-i-1,by simp only at aB;omega⟩;rw [hm] at aW;have bA:=hl.grown S.Ar;refine (Ef bA hc Omg (aL:Int) 24).mono ?_;rintro _ w3 ⟨_,rfl,rfl,rfl⟩;cases ht:BG l (aL:Int) 24 with
   | none =>
    refine⟨_,_,_,rfl,Ai (λ _=>.bad ?_ S.Ar) (λ h=>by cases h)⟩;rw [aW];simp [A8,ht]
   | some x =>
    obtain⟨nm,k⟩:=x;have hk:=Lw ht;have cB:=V8 ht;refine⟨_,_,_,rfl,Ai (λ h=>absurd rfl h) (λ _=>?_)⟩;simp only;rw [wrap_i64 (n:=(l.length:Int)-(k:Int)) Omg Omg,Ae (k:=k) Omg];refine Aa (λ h2=>.bad ?_ S.Ar) (λ h2=>?_)
    ·rw [aW];have:l.length-k<2:=Omg;simp [A8,ht,this]
    obtain⟨p,rfl,d0,d1⟩:=LH bA (k:=k) Omg;refine⟨⟨Omg,Omg⟩,_,by rw [Ait];exact d1,Aa (λ h3=>.bad ?_ S.Ar) (λ h3=>S.draw λ w4 B4 S=>?_)⟩
    ·rw [aW];have:l.length-k<2\/1<(l.getD (k+1) 0).toNat:=.inr Omg;simp only [A8,ht,if_pos this,Option.map_none]
    have pF:=bA.grown B4;obtain⟨p',hp',d0,d1⟩:=LH pF (k:=k) Omg;cases hp';have df:=(l.getD k 0).toNat_lt;refine⟨⟨Omg,Omg⟩,⟨Omg,Omg⟩,_,by rw [Ait];exact d0,_,by rw [Ait];exact d1,?_⟩;rw [wrap_i64 (n:=((l.getD k 0).toNat:Int)) Omg Omg,wrap_i64 (n:=(k:Int)+2) Omg Omg,Aj (n:=(i:Int)+1) Omg (by simp only at aB;omega)];obtain⟨x,hx⟩:∃ x:Bv,x=(Bu nm,((l.getD k 0).toNat:Int),(l.getD (k+1) 0).toNat==1):=⟨_,rfl⟩;refine S.An λ fH w5 _ _ S=>?_;have aY:Rd w5 (some ⟨fH,0,none⟩) (UK x):=by
     have h:=S.F0 0 rfl;have e:(((l.getD (k+1) 0).toNat:Int)==1)=((l.getD (k+1) 0).toNat==1):=by rw [Bool.eq_iff_iff];simp;omega
     rw [e] at h;rw [hx];exact h
    refine Aew S 1 rfl aY (by simp only at aB;omega) λ a6 c6 w6 S=>⟨_,_,_,rfl,?_⟩;refine⟨⟨i+1,k+2,cs++[x],a6,c6,?_,by simp only at aB;omega,by simp [p8],Omg,?_,?_,S.drop 1⟩,?_⟩
    ·simp only [Aiq,Ais,AjE,List.cons.injEq,Value.int.injEq,true_and,and_true];constructor <;> omega
    ·intro c hc;rcases Ajn.1 hc with h | h
     ·exact hq c h
     ·rw [Ajo.1 h,hx];show (Bu nm).size<=_;rw [AP];omega
    ·rw [aW,show n-(i+1)=m by omega];have bY:¬ (l.length-k<2\/1<(l.getD (k+1) 0).toNat):=Omg;simp only [A8,ht,bY,if_false,Option.map_map];congr 1;funext r;simp [hx]
    ·show n-((i:Int)+1).toNat<n-(i:Int).toNat;simp only at aB;omega
  ·have:n-i=0:=by simp only at aJ;omega
   rw [this] at aW;simp only [A8,AjP,Ajr] at aW;rw [aW];refine (DV (Aez S 0 rfl) Omg hq).mono ?_;rintro _ w7 ⟨_,rfl,rfl,B7⟩;refine⟨_,rfl,As (Aq (λ hR=>?_) (λ hR=>.bad (by simp [hR]) (S.grown B7).Ar))⟩;simp only [hR,if_true];exact⟨ca,cc,rfl,S.grown B7⟩
theorem Ii(hl:Rd w a (l.map Ag))(hc:l.length<=c)(hs:l.length<=140737488355328)(at_:Int)(nE:at_<=9223372036854775807) :
  Cw 65 #[.slice a l.length c,.int .i64 at_] w λ v w'=>Vi (A7 l at_) w w' v:=by
 apply QD
 delta Ad Gb Bz Cb D F G H I J Ks Ly N O J8 S T W X;try dsimp only [Ps]
 refine (AJ hl Omg at_ nE).mono ?_;rintro _ w1 ⟨_,rfl,rfl,rfl⟩;cases hx:takeN l at_ with
 | none=>exact⟨_,_,_,rfl,Ai (λ _=>.bad (by simp [A7,hx]) (.refl _ _)) (λ h=>by cases h)⟩
 | some x =>
  obtain⟨n,at0⟩:=x;obtain⟨hn,_,_,cW,_⟩:=AA hx;refine⟨_,_,_,rfl,Ai (λ h=>absurd rfl h) (λ _=>Aa (λ h=>.bad ?_ (.refl _ _)) (λ gi=>?_))⟩
  ·have:16<n:=by simp only at h;omega
   simp [A7,hx,this]
  have uQ:n<=16:=by simp only at gi;omega
  have hT:A7 l at_=match A8 l at0 n with
   | none=>none
   | some r=>if Ao r.1 then some r else none:=by
   have:¬ 16<n:=Omg;simp [A7,hx,this]
  rw [hT];simp only;rw [wrap_i64 (n:=(n:Int)) Omg Omg];refine⟨λ s w2=>∃(i aL:Nat) (cs:List Bv) (ca:Option Addr) (cc:Nat),s=[.int .i64 (aL:Int),.slice ca cs.length cc,.int .i64 (i:Int)]/\i<=n/\cs.length=i/\aL<=l.length/\(∀ c∈cs,c.1.size<=9223372036854775807) /\
    A8 l at0 n=((A8 l aL (n-i)).map λ r=>(cs++r.1,r.2))/\ST w1 w2 [CD ca cc cs],λ s _=>match s with
   | [_,_,.int _ i]=>n-i.toNat
   | _=>0,⟨0,at0,[],none,0,rfl,Omg,rfl,Omg,Osi,Osi,(ST.start w1).nil _ _⟩,?_⟩
  rintro _ ca _ cc _ w2 ⟨i,aL,cs,_,_,aA,hi,p8,cV,hq,aW,S⟩;cases aA;refine Aa (λ aB=>?_) (λ aJ=>?_)
  ·obtain⟨m,hm⟩:∃ m,n-i=m+1:=⟨n-i-1,Omg⟩;rw [hm] at aW;have bA:=hl.grown S.Ar;refine (DU bA hc Omg (aL:Int) Omg 24).mono ?_;rintro _ w3 ⟨_,rfl,rfl,rfl⟩;cases ht:BG l (aL:Int) 24 with
   | none =>
    refine⟨_,_,_,rfl,Ai (λ _=>.bad ?_ S.Ar) (λ h=>by cases h)⟩;rw [aW];simp [A8,ht]
   | some x =>
    obtain⟨nm,k⟩:=x;have hk:=Lw ht;have cB:=V8 ht;refine⟨_,_,_,rfl,Ai (λ h=>absurd rfl h) (λ _=>?_)⟩;simp only;rw [wrap_i64 (n:=(l.length:Int)-(k:Int)) Omg Omg,Ae (k:=k) Omg];refine Aa (λ h2=>.bad ?_ S.Ar) (λ h2=>?_)
    ·rw [aW];have:l.length-k<2:=Omg;simp [A8,ht,this]
    obtain⟨p,rfl,d0,d1⟩:=LH bA (k:=k) Omg;refine⟨⟨Omg,Omg⟩,_,by rw [Ait];exact d1,Aa (λ h3=>.bad ?_ S.Ar) (λ h3=>S.draw λ w4 B4 S=>?_)⟩
    ·rw [aW];have:l.length-k<2\/1<(l.getD (k+1) 0).toNat:=.inr Omg;simp only [A8,ht,if_pos this,Option.map_none]
    have pF:=bA.grown B4;obtain⟨p',hp',d0,d1⟩:=LH pF (k:=k) Omg;cases hp';have df:=(l.getD k 0).toNat_lt;refine⟨⟨Omg,Omg⟩,⟨Omg,Omg⟩,_,by rw [Ait];exact d0,_,by rw [Ait];exact d1,?_⟩;rw [wrap_i64 (n:=((l.getD k 0).toNat:Int)) Omg Omg,wrap_i64 (n:=(k:Int)+2) Omg Omg,Ae (k:=i) Omg];obtain⟨x,hx⟩:∃ x:Bv,x=(Bu nm,((l.getD k 0).toNat:Int),(l.getD (k+1) 0).toNat==1):=⟨_,rfl⟩;refine S.An λ fH w5 _ _ S=>?_;have aY:Rd w5 (some ⟨fH,0,none⟩) (UK x):=by
     have h:=S.F0 0 rfl;have e:(((l.getD (k+1) 0).toNat:Int)==1)=((l.getD (k+1) 0).toNat==1):=by rw [Bool.eq_iff_iff];simp;omega
     rw [e] at h;rw [hx];exact h
    refine Aew S 1 rfl aY Omg λ a6 c6 w6 S=>⟨_,_,_,rfl,?_⟩;refine⟨⟨i+1,k+2,cs++[x],a6,c6,?_,Omg,by simp [p8],Omg,?_,?_,S.drop 1⟩,?_⟩
    ·simp only [Aiq,Ais,AjE,List.cons.injEq,Value.int.injEq,true_and,and_true];omega
    ·intro c hc;rcases Ajn.1 hc with h | h
     ·exact hq c h
     ·rw [Ajo.1 h,hx];show (Bu nm).size<=_;rw [AP];omega
    ·rw [aW,show n-(i+1)=m by omega];have bY:¬ (l.length-k<2\/1<(l.getD (k+1) 0).toNat):=Omg;simp only [A8,ht,bY,if_false,Option.map_map];congr 1;funext r;simp [hx]
    ·show n-((i+1:Nat):Int).toNat<n-(i:Int).toNat;omega
  ·have:n-i=0:=Omg;rw [this] at aW;simp only [A8,AjP,Ajr] at aW;rw [aW];refine (DE (Aez S 0 rfl) Omg hq).mono ?_;rintro _ w7 ⟨_,rfl,rfl,rfl⟩;refine⟨_,rfl,As (Aq (λ hR=>?_) (λ hR=>.bad (by simp [hR]) S.Ar))⟩;simp only [hR,if_true];exact⟨ca,cc,rfl,S⟩
end
end Go.Proofs.YtpnaifmmggnimaaGreatDoor
namespace Go.Proofs.YtpnaifmmggnimaaGreatDoor
open R
set_option maxRecDepth 100000
open Go.Dn Go.Proofs
open Go.RowKit (Below)
set_option linter.unusedVariables false
/-! ### the order -/
def Dc(x y:Int):Int:=if x<y then -1 else if x > y then 1 else 0
def DM(a b:AD):Int :=
 if Dc a.1 b.1≠0 then Dc a.1 b.1 else if Dc a.2.1 b.2.1≠0 then Dc a.2.1 b.2.1 else Lib.compareBytes (bl a.2.2) (bl b.2.2)
theorem Q3(w:World)(x:Int):Cw 216 #[.int .i64 x] w λ r w'=>r=.bool false/\w'=w:=by
 apply JT;exact⟨Osi,rfl⟩
theorem UJ(w:World)(x y:Int):Cw 235 #[.int .i64 x,.int .i64 y] w λ r w'=>r=.int .i64 (Dc x y)/\w'=w:=by
 apply Ix
 delta Cb F I;try dsimp only [Ps]
 refine (Q3 w x).mono ?_;rintro _ w ⟨_,rfl,rfl,rfl⟩;refine⟨_,rfl,(Q3 w y).mono ?_⟩;rintro _ w ⟨_,rfl,rfl,rfl⟩;refine⟨_,rfl,AN (AN (Aa (λ h=>⟨?_,rfl⟩) (λ h=>Aa (λ h2=>⟨?_,rfl⟩) (λ h2=>⟨?_,rfl⟩))))⟩
 ·simp [Dc,h]
 ·simp [Dc,h,h2]
 ·simp [Dc,h,h2]
theorem Ti(w:World)(x:Int):Cw 262 #[.int .i64 x] w λ r w'=>r=.bool false/\w'=w:=by
 apply L1
 delta G;try dsimp only [Ps]
 exact⟨Osi,rfl⟩
theorem Agg(x y:Int)(w:World):Calls Tryz.prog 234 #[.int .i64 x,.int .i64 y] w λ e w'=>e=.returned (.int .i64 (Dc x y))/\w'=w:=by
 have h:Cw 234 #[.int .i64 x,.int .i64 y] w λ r w'=>r=.int .i64 (Dc x y)/\w'=w:=by
  apply JS
  delta Cb F I;try dsimp only [Ps]
  refine (Ti w x).mono ?_;rintro _ w ⟨_,rfl,rfl,rfl⟩;refine⟨_,rfl,(Ti w y).mono ?_⟩;rintro _ w ⟨_,rfl,rfl,rfl⟩;refine⟨_,rfl,AN (AN (Aa (λ h=>⟨?_,rfl⟩) (λ h=>Aa (λ h2=>⟨?_,rfl⟩) (λ h2=>⟨?_,rfl⟩))))⟩
  ·simp [Dc,h]
  ·simp [Dc,h,h2]
  ·simp [Dc,h,h2]
 refine h.mono ?_;rintro _ _ ⟨_,rfl,rfl,rfl⟩;exact⟨rfl,rfl⟩
theorem Ae9{w:World}{b:Nat}{t:TypeId}(x y z:Int)(hb:w.heap[b]?=some (.cells #[.int .i64 x,.int .i64 y,.int .i64 z] t (0,0))) :
  Cw 233 #[.slice (some ⟨b,0,none⟩) 3 3] w λ r w'=>r=.int .i64 (if x≠0 then x else if y≠0 then y else z)/\w'=w:=by
 apply P1
 delta Ad F I Li Qi W X;try dsimp only [Ps]
 have cell:∀(k:Nat) (v:Value),[Value.int .i64 x,.int .i64 y,.int .i64 z][k]?=some v->w.cell? ((⟨b,0,none⟩:Addr).add ((k:Int).toNat*1))=some v:=by
  intro k v hv;rw [Int.toNat_natCast,Nat.mul_one,Ax,Nat.zero_add];simp only [World.cell?,hb];simpa using hv
 refine⟨λ s w1=>w1=w/\(s=[.int .i64 ((0:Nat):Int)]\/(s=[.int .i64 ((1:Nat):Int)]/\x=0)\/(s=[.int .i64 ((2:Nat):Int)]/\x=0/\y=0)\/(s=[.int .i64 ((3:Nat):Int)]/\x=0/\y=0/\z=0)),
  λ s _=>match s with
   | [.int _ i]=>3-i.toNat
   | _=>0,⟨rfl,.inl rfl⟩,?_⟩
 rintro i w1 ⟨rfl,hs⟩;rcases hs with hs | ⟨hs,h0⟩ | ⟨hs,h0,h1⟩ | ⟨hs,h0,h1,h2⟩
 ·cases hs;refine CG ⟨Ode,_,cell 0 _ rfl,Ai (λ h=>⟨by rw [if_pos h],rfl⟩) (λ h=>?_)⟩;rw [Ae Omg];exact⟨⟨rfl,.inr (.inl ⟨rfl,h⟩)⟩,show 2<3 by decide⟩
 ·cases hs;refine CG ⟨Ode,_,cell 1 _ rfl,Ai (λ h=>⟨by rw [if_neg Omg,if_pos h],rfl⟩) (λ h=>?_)⟩;rw [Ae Omg];exact⟨⟨rfl,.inr (.inr (.inl ⟨rfl,h0,h⟩))⟩,show 1<2 by decide⟩
 ·cases hs;refine CG ⟨Ode,_,cell 2 _ rfl,Ai (λ h=>⟨by rw [if_neg Omg,if_neg Omg],rfl⟩) (λ h=>?_)⟩;rw [Ae Omg];exact⟨⟨rfl,.inr (.inr (.inr ⟨rfl,h0,h1,h⟩))⟩,show 0<1 by decide⟩
 ·cases hs;exact AN ⟨by rw [if_neg Omg,if_neg Omg,h2],rfl⟩
theorem IY(w:World)(a b:AD):Cw 195 #[Sk a,Sk b] w λ r w'=>r=.int .i64 (DM a b)/\Below w.heap.size w w':=by
 apply Mf
 delta A Ab Ci D I J Li Lt N S T;try dsimp only [Ps]
 refine (SH.start (λ _=>False) w).An λ b7 w1 qP B1 S1=>S1.An λ b8 w2 qQ B2 S2=>S2.EL λ w3 B3 S3=>?_;refine⟨_,S3.cell 1 rfl rfl,_,S3.cell 0 rfl rfl,_,S3.cell 1 rfl rfl,_,S3.cell 0 rfl rfl,_,S3.cell 1 rfl rfl,_,S3.cell 0 rfl rfl,(Agg _ _ w3).mono ?_⟩;rintro _ w3 ⟨rfl,rfl⟩;refine⟨_,rfl,S3.cell 0 rfl rfl,S3.cell 1 rfl rfl,S3.cell 0 rfl rfl,S3.cell 1 rfl rfl,(UJ w3 _ _).mono ?_⟩;rintro _ w3 ⟨_,rfl,rfl,rfl⟩;refine⟨_,rfl,S3.cell 0 rfl rfl,S3.cell 1 rfl rfl,(Tryz.strings_Compare _ _ w3).mono ?_⟩;rintro _ w3 ⟨rfl,rfl⟩;refine⟨_,rfl,S3.An λ fH w7 jT B7 S7=>(Ae9 _ _ _ (S7.get 0 rfl)).mono ?_⟩;rintro _ w7 ⟨_,rfl,rfl,rfl⟩;exact⟨_,rfl,rfl,S7.below⟩
def IG(a b:AD):Bool:=if a.1≠b.1 then decide (a.1<b.1) else if a.1=3 then Ex a.2.2 b.2.2 else decide (a.2.1<b.2.1)
theorem Rk(w:World)(a b:AD):Cw 186 #[Sk a,Sk b] w λ r w'=>r=.bool (IG a b)/\Below w.heap.size w w':=by
 apply Qy
 delta A Ab F G I Li Lt N T;try dsimp only [Ps]
 refine (SH.start (λ _=>False) w).An λ b7 w1 qP B1 S1=>S1.An λ b8 w2 qQ B2 S2=>?_;refine⟨_,S2.cell 1 rfl rfl,_,S2.cell 0 rfl rfl,Ai (λ h=>⟨_,S2.cell 1 rfl rfl,_,S2.cell 0 rfl rfl,by simp [IG,h],S2.below⟩) (λ h=>⟨_,S2.cell 1 rfl rfl,Ap (λ h3=>⟨_,S2.cell 1 rfl rfl,_,S2.cell 0 rfl rfl,?_,S2.below⟩) (λ h3=>⟨_,S2.cell 1 rfl rfl,_,S2.cell 0 rfl rfl,?_,S2.below⟩)⟩)⟩
 ·simp only [IG];rw [if_neg (by simp [h]),if_pos h3]
 ·simp only [IG];rw [if_neg (by simp [h]),if_neg h3]
def VS(a b:AD):Int:=if IG a b=true then -1 else if IG b a=true then 1 else 0
theorem Lc(w:World)(a b:AD):Cw 146 #[Sk a,Sk b] w λ r w'=>r=.int .i64 (VS a b)/\Below w.heap.size w w':=by
 apply L8
 delta A Ab Cb E F I Li Lt N T;try dsimp only [Ps]
 refine (SH.start (λ _=>False) w).An λ b7 w1 qP B1 S1=>S1.An λ b8 w2 qQ B2 S2=>?_;refine⟨_,S2.cell 1 rfl rfl,_,S2.cell 1 rfl rfl,_,S2.cell 1 rfl rfl,_,S2.cell 0 rfl rfl,_,S2.cell 0 rfl rfl,_,S2.cell 0 rfl rfl,(Rk w2 a b).mono ?_⟩;rintro _ w3 ⟨_,rfl,rfl,B3⟩;have S3:=S2.grown B3;refine⟨_,rfl,_,S3.cell 0 rfl rfl,_,S3.cell 0 rfl rfl,_,S3.cell 0 rfl rfl,_,S3.cell 1 rfl rfl,_,S3.cell 1 rfl rfl,_,S3.cell 1 rfl rfl,(Rk w3 b a).mono ?_⟩;rintro _ w4 ⟨_,rfl,rfl,B4⟩;refine⟨_,rfl,Aq (λ h=>⟨by simp [VS,h],(S3.grown B4).below⟩) (λ h=>Aq (λ h2=>⟨by simp [VS,h,h2],(S3.grown B4).below⟩) (λ h2=>⟨by simp [VS,h,h2],(S3.grown B4).below⟩))⟩
end Go.Proofs.YtpnaifmmggnimaaGreatDoor
