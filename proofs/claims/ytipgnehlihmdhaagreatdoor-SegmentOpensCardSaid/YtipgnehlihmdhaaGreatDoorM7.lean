/-
  Texts of this claim, laid one behind the other by a program of mine (install.py): S.Ch7, S.Ch8, S.Ch9, S.Ch11, S.Ch12, S.ChgE, S.IntsH, S.IntsI, S.Ch13, S.Ch14, S.Seg1, S.Seg2, Dn.Lit, S.Seg3.
-/
import Derived.Test.YtipgnehlihmdhaaGreatDoorM6
import Derived.Test.YtipgnehlihmdhaaGreatDoorM3
import Derived.Test.YtipgnehlihmdhaaGreatDoorM5
namespace Go.Proofs.YtipgnehlihmdhaaGreatDoor
set_option maxRecDepth 100000
open Go.Dn Go.Proofs
open Go.RowKit (Below)
set_option linter.unusedVariables false
theorem if_left{α:Type}{p q:Prop}[Decidable p][Decidable (p∨q)](h:p)(x y:α):(if p∨q then x else y)=x:=if_pos (.inl h)
section
variable {w:World}{a:Option Addr}{c:Nat}{ls:List Val}
theorem chunk_Zone_ok(hl:Rd w a (valsL ls)):Calls Tryz.prog f.chunk_Zone #[.slice a ls.length c] w (Ret fun v w'=>ZoneV ls v∧Below w.heap.size w w'):=by
 apply R.chunk_Zone_calls
 unfold R.chunk_Zone
 refine (SH.start (fun _=>False) w).newB fun b2 w1 hb2 B1 S1=>IFB_dec (fun hbig=>?_) (fun hle=>?_)
 ·exact zone_bad (p:=(Z0,Z0)) (x:=0) S1 (n:=0) rfl (fun h=>by have:=h.1;omega)
 have hlen:ls.length≤1024:=by omega
 refine S1.newB fun b10 w9 hb10 B9 S9=>S9.sto7 0 rfl fun w16 K16 S16=>?_
 refine⟨fun s w17=>∃ i:Nat,i≤ls.length∧s=[.int .i64 (i:Int)]∧SH (fun _=>False) w w17 [(b10,zC 0 (Z0,Z0),ty.api_Zone),(b2,zC 0 (Z0,Z0),ty.api_Zone)]∧∀ v∈ls.take i,rightB v=true,fun s _=>match s with
   | [.int _ i]=>ls.length-i.toNat
   | _=>0,⟨0,by omega,rfl,S16,by simp⟩,?_⟩
 rintro _ w17 ⟨i,hi,hst,S17,hall⟩
 cases hst
 refine IFB_dec (fun hlt=>⟨⟨by omega,hlt⟩,?_⟩) (fun hge=>?_)
 ·have hil:i<ls.length:=by omega
  obtain⟨p,rfl,c0,c1,c2⟩:=val_at (hl.grown S17.below) hil
  refine⟨_,by rw [Int.toNat_natCast];exact c0,_,by rw [Int.toNat_natCast];exact c1,_,by rw [Int.toNat_natCast];exact c2,S17.lit3 fun b17 w21 hb17 B21 S21=>?_⟩
  refine⟨_,S21.cell 0 rfl rfl,_,S21.cell 0 rfl rfl,_,S21.cell 0 rfl rfl,(value_Right_ok w21 ls[i]).mono ?_⟩
  rintro _ w22 ⟨_,rfl,rfl,B22⟩
  have S22:=S21.grown B22
  refine⟨_,rfl,IFB_not (IFB_of (fun hr=>?_) (fun hr=>?_))⟩
  ·rw [wrap_succ (by omega)]
   refine⟨⟨i+1,by omega,rfl,S22.drop 1,fun v hv=>?_⟩,?_⟩
   ·rw [List.take_succ_eq_append_getElem hil] at hv
    rcases List.mem_append.1 hv with h | h
    ·exact hall v h
    ·rw [List.mem_singleton.1 h];exact hr
   ·simp only [Int.toNat_natCast]
    omega
  ·exact zone_bad (p:=(Z0,Z0)) (x:=0) S22 (n:=2) rfl (fun h=>by have:=h.2 _ (List.getElem_mem hil);rw [this] at hr;cases hr)
 have hie:ls.take i=ls:=List.take_of_length_le (by omega)
 rw [hie] at hall
 have hok:zoneOk ls:=⟨hlen,hall⟩
 refine S17.newB fun b30 w30 hb30 B30 S30=>S30.chg 0 rfl (cs':=#[.int .i64 0]) (show 0<1 by decide) rfl fun w31 K31 S31=>chunk_full_ok.mono ?_
 rintro _ w32 ⟨_,rfl,bI,rfl,P32⟩
 have S32:SH (fun _=>False) w w32 [(b30,#[.int .i64 0],ty.int),(b10,zC 0 (Z0,Z0),ty.api_Zone),(b2,zC 0 (Z0,Z0),ty.api_Zone)]:=S31.grown P32.below
 refine⟨_,_,_,rfl,by kernel_rfl,fun rr hst hpe hy=>?_⟩
 obtain⟨W1,hW1⟩:∃ W1,W1=(w32.alloc (.deferred (some []))).alloc (.loop rr):=⟨_,rfl⟩
 rw [← hW1]
 have B91:Below w32.heap.size w32 W1:=by rw [hW1];exact (((Below.refl _ w32).alloc (Nat.le_refl _) _).alloc (by simp) _)
 have sz1:W1.heap.size=w32.heap.size+2:=by rw [hW1];simp
 have hL1:W1.heap[w32.heap.size+1]?=some (.loop rr):=by
  rw [hW1];have:=World.alloc_heap_new (w32.alloc (.deferred (some []))) (.loop rr);rwa [World.size_alloc] at this
 have hD1:W1.heap[w32.heap.size]?=some (.deferred (some [])):=by
  rw [hW1];exact (Below.heap_alloc _ _ _ (by simp)).trans (World.alloc_heap_new w32 _)
 obtain⟨L,hLd⟩:∃ L,L=w32.heap.size+1:=⟨_,rfl⟩
 rw [← hLd] at hL1 hy ⊢
 have l30:=S32.lt (x:=(b30,_,_)) (List.mem_cons_self ..)
 have l10:=S32.lt (x:=(b10,_,_)) (List.mem_cons_of_mem _ (List.mem_cons_self ..))
 have l2:=S32.lt (x:=(b2,_,_)) (List.mem_cons_of_mem _ (List.mem_cons_of_mem _ (List.mem_cons_self ..)))
 have w0le:=S32.below.size
 let H:Nat→List Ent:=fun q=>[(b30,#[.int .i64 ((fullL (ls.take q)).length:Int)],ty.int),(b10,zC 0 (zmm (ls.take q)),ty.api_Zone),(b2,zC 0 (Z0,Z0),ty.api_Zone)]
 let J:Nat→World→Prop:=fun q wx=>SH (fun _=>False) w wx (H q)∧wx.heap[L]?=some (.loop rr)∧wx.heap[w32.heap.size]?=some (.deferred (some []))
 have hI:W1.cell? ⟨bI,0,none⟩=some (.slice a ls.length c):=cell0 ((Keeps.of_below (F:=fun _=>False) B91).at (P32.get 0 rfl) (by simp))
 have hcall:=full_c1_ok (w:=W1) (L:=L) (b:=bI) (by omega) J (fun q wx hj=>hl.grown hj.1.below) (fun q wx wy hj B=>by
   have K:=Keeps.of_below (F:=fun _=>False) B
   exact⟨hj.1.grown B,K.at hj.2.1 (by simp),K.at hj.2.2 (by simp)⟩) (fun q wx hq hz hj=>by
   have e1:H (q+1)=H q:=by
    have:=fullL_take hq
    rw [if_pos hz,List.append_nil] at this
    show [(b30,#[Value.int .i64 ((fullL (ls.take (q+1))).length:Int)],ty.int),(b10,zC 0 (zmm (ls.take (q+1))),ty.api_Zone),(b2,zC 0 (Z0,Z0),ty.api_Zone)]=_
    rw [this,zmm_skip hq hz]
   exact⟨by rw [e1];exact hj.1,hj.2⟩) (by
  rintro q wx hq hne ⟨SJ,hL,hD⟩
  have hfl:(fullL (ls.take q)).length≤1024:=by
   have:(fullL (ls.take q)).length≤(ls.take q).length:=List.length_filter_le ..
   rw [List.length_take] at this
   omega
  have hnext:H (q+1)=[(b30,#[.int .i64 (((fullL (ls.take q)).length+1:Nat):Int)],ty.int),(b10,zC 0 (if (fullL (ls.take q)).length=0∨cmpV ls[q] (zmm (ls.take q)).1<0 then ls[q] else (zmm (ls.take q)).1,if (fullL (ls.take q)).length=0∨0<cmpV ls[q] (zmm (ls.take q)).2 then ls[q] else (zmm (ls.take q)).2),ty.api_Zone),(b2,zC 0 (Z0,Z0),ty.api_Zone)]:=by
   have e1:=fullL_take hq
   rw [if_neg hne] at e1
   show [(b30,#[Value.int .i64 ((fullL (ls.take (q+1))).length:Int)],ty.int),(b10,zC 0 (zmm (ls.take (q+1))),ty.api_Zone),(b2,zC 0 (Z0,Z0),ty.api_Zone)]=_
   rw [zmm_step hq hne,e1,List.length_append]
   rfl
  obtain⟨n,hnd⟩:∃ n,n=(fullL (ls.take q)).length:=⟨_,rfl⟩
  obtain⟨mm,hmm⟩:∃ mm,mm=zmm (ls.take q):=⟨_,rfl⟩
  have SJ':SH (fun _=>False) w wx [(b30,#[.int .i64 (n:Int)],ty.int),(b10,zC 0 mm,ty.api_Zone),(b2,zC 0 (Z0,Z0),ty.api_Zone)]:=by rw [hnd,hmm];exact SJ
  rw [← hnd,← hmm] at hnext
  rw [← hnd] at hfl
  obtain⟨v,hvd⟩:∃ v,v=ls[q]:=⟨_,rfl⟩
  rw [← hvd] at hnext ⊢
  refine hy _ _ _ _ wx hL ?_
  refine SJ'.lit3 fun b37 w37 hb37 B37 S37=>?_
  have K37:=Keeps.of_below (F:=fun _=>False) B37
  have hL37:=K37.at hL (by simp)
  have hD37:=K37.at hD (by simp)
  refine⟨hL37,?_⟩
  obtain⟨wB,hwB⟩:∃ wB,wB=w37.putObj L (.loop { rr with state:=.busy }):=⟨_,rfl⟩
  rw [← hwB]
  have hLlt:L<w37.heap.size:=(Array.getElem?_eq_some_iff.1 hL37).1
  have hLx:L<wx.heap.size:=(Array.getElem?_eq_some_iff.1 hL).1
  have KB:Keeps (fun k=>k=L) w37 wB:=by rw [hwB];exact keeps_putObj _ _ _
  have hLB:wB.heap[L]?=some (.loop { rr with state:=.busy }):=by rw [hwB];exact World.putObj_heap_same hLlt
  have hDB:=KB.at hD37 (show ¬ w32.heap.size=L by omega)
  have SB:SH (fun _=>False) w wB [(b37,#[.int .i64 v.1,.int .i64 v.2.1,.string v.2.2],ty.api_Value),(b30,#[.int .i64 (n:Int)],ty.int),(b10,zC 0 mm,ty.api_Zone),(b2,zC 0 (Z0,Z0),ty.api_Zone)]:=S37.kept KB (by
   intro y hy
   simp only [List.mem_cons,List.not_mem_nil,or_false] at hy
   rcases hy with rfl | rfl | rfl | rfl <;> simp only <;> omega) (fun k hk h=>by omega)
  let G:World→Val→Val→Int→Prop:=fun wy mn mx m=>SH (fun _=>False) w wy [(b37,#[.int .i64 v.1,.int .i64 v.2.1,.string v.2.2],ty.api_Value),(b30,#[.int .i64 m],ty.int),(b10,zC 0 (mn,mx),ty.api_Zone),(b2,zC 0 (Z0,Z0),ty.api_Zone)]∧wy.heap[L]?=some (.loop { rr with state:=.busy })∧wy.heap[w32.heap.size]?=some (.deferred (some []))
  have keepG:∀ {wy wz:World} {b:Nat},Keeps (·=b) wy wz→b≠L→b≠w32.heap.size→wy.heap[L]?=some (.loop { rr with state:=.busy })∧wy.heap[w32.heap.size]?=some (.deferred (some []))→wz.heap[L]?=some (.loop { rr with state:=.busy })∧wz.heap[w32.heap.size]?=some (.deferred (some [])) :=
   fun K h1 h2 h=>⟨K.at h.1 (fun e=>h1 e.symm),K.at h.2 (fun e=>h2 e.symm)⟩
  have growG:∀ {wy wz:World} {mn mx:Val} {m:Int},G wy mn mx m→Below wy.heap.size wy wz→G wz mn mx m:=fun h B=>by
   have K:=Keeps.of_below (F:=fun _=>False) B
   exact⟨h.1.grown B,K.at h.2.1 (by simp),K.at h.2.2 (by simp)⟩
  have fin:∀ {wy:World} {mn mx:Val},G wy mn mx (n:Int)→mn=(if n=0∨cmpV v mm.1<0 then v else mm.1)→mx=(if n=0∨0<cmpV v mm.2 then v else mm.2) →
    ∃ t50:Int,wy.cell? ⟨b30,0,none⟩=some (.int .i64 t50)∧STO ⟨b30,0,none⟩ (.int .i64 (IntKind.i64.wrap (t50+1))) (fun w50=>ENDR rr L (fun y w'=>y=true∧(SH (fun _=>False) w w' (H (q+1))∧w'.heap[L]?=some (.loop rr)∧w'.heap[w32.heap.size]?=some (.deferred (some [])))) none w50) wy:=by
   rintro wy mn mx ⟨Sy,Ly⟩ rfl rfl
   refine⟨_,Sy.cell 1 rfl rfl,?_⟩
   rw [wrap_succ (by omega)]
   refine Sy.chg 1 rfl (cs':=#[.int .i64 ((n+1:Nat):Int)]) (show 0<1 by decide) rfl fun wz Kz Sz=>?_
   obtain⟨Lz,Dz⟩:=keepG Kz (by omega) (by omega) Ly
   refine⟨Lz,rfl,?_⟩
   rw [rr_eta hst hpe]
   have lz:L<wz.heap.size:=(Array.getElem?_eq_some_iff.1 Lz).1
   have KP:=keeps_putObj wz L (.loop rr)
   refine⟨?_,World.putObj_heap_same lz,KP.at Dz (show ¬ w32.heap.size=L by omega)⟩
   rw [hnext]
   exact (Sz.drop 1).kept KP (by
    intro y hy
    simp only [List.set_cons_succ,List.set_cons_zero,List.drop_succ_cons,List.drop_zero,List.mem_cons,List.not_mem_nil,or_false] at hy
    rcases hy with rfl | rfl | rfl <;> simp only <;> omega) (fun k hk h=>by omega)
  have GB:G wB mm.1 mm.2 (n:Int):=⟨SB,hLB,hDB⟩
  refine⟨fun s w46=>s=[]∧G w46 (if n=0∨cmpV v mm.1<0 then v else mm.1) mm.2 (n:Int),?_,?_⟩
  ·refine⟨_,GB.1.cell 1 rfl rfl,IFB_eq (fun h0=>?_) (fun h0=>?_)⟩
   ·have hn0:n=0:=by omega
    refine⟨_,GB.1.cell 0 rfl rfl,_,GB.1.cell 0 rfl rfl,_,GB.1.cell 0 rfl rfl,GB.1.stoMin 2 rfl fun w41 K41 S41=>⟨rfl,?_⟩⟩
    rw [if_left hn0]
    exact⟨S41,keepG K41 (by omega) (by omega) GB.2⟩
   ·have hn0:¬ n=0:=by omega
    refine⟨_,GB.1.cell 0 rfl rfl,_,GB.1.cell 0 rfl rfl,_,GB.1.cell 0 rfl rfl,_,GB.1.cell 2 rfl rfl,_,GB.1.cell 2 rfl rfl,_,GB.1.cell 2 rfl rfl,(value_Compare_ok wB v mm.1).mono ?_⟩
    rintro _ w42 ⟨_,rfl,rfl,B42⟩
    have G42:=growG GB B42
    refine⟨_,rfl,IFB_dec (fun hc=>⟨_,G42.1.cell 0 rfl rfl,_,G42.1.cell 0 rfl rfl,_,G42.1.cell 0 rfl rfl,G42.1.stoMin 2 rfl fun w41 K41 S41=>⟨rfl,?_⟩⟩) (fun hc=>⟨rfl,?_⟩)⟩
    ·rw [if_pos (.inr hc)]
     exact⟨S41,keepG K41 (by omega) (by omega) G42.2⟩
    ·rw [if_neg (by omega)]
     exact G42
  rintro w46 ⟨_,G46⟩
  refine⟨_,G46.1.cell 1 rfl rfl,IFB_eq (fun h0=>?_) (fun h0=>?_)⟩
  ·have hn0:n=0:=by omega
   refine⟨_,G46.1.cell 0 rfl rfl,_,G46.1.cell 0 rfl rfl,_,G46.1.cell 0 rfl rfl,G46.1.stoMax 2 rfl fun w49 K49 S49=>fin (mx:=v) ⟨S49,keepG K49 (by omega) (by omega) G46.2⟩ rfl (by rw [if_left hn0])⟩
  ·have hn0:¬ n=0:=by omega
   refine⟨_,G46.1.cell 0 rfl rfl,_,G46.1.cell 0 rfl rfl,_,G46.1.cell 0 rfl rfl,_,G46.1.cell 2 rfl rfl,_,G46.1.cell 2 rfl rfl,_,G46.1.cell 2 rfl rfl,(value_Compare_ok w46 v mm.2).mono ?_⟩
   rintro _ w51 ⟨_,rfl,rfl,B51⟩
   have G51:=growG G46 B51
   refine⟨_,rfl,IFB_dec (fun hc=>⟨_,G51.1.cell 0 rfl rfl,_,G51.1.cell 0 rfl rfl,_,G51.1.cell 0 rfl rfl,G51.1.stoMax 2 rfl fun w49 K49 S49=>fin (mx:=v) ⟨S49,keepG K49 (by omega) (by omega) G51.2⟩ rfl (by rw [if_pos (.inr (by omega))])⟩) (fun hc=>fin G51 rfl (by rw [if_neg (by omega)]))⟩)
  ⟨S32.grown B91,hL1,hD1⟩ hI
 refine hcall.mono ?_
 rintro _ w57 ⟨_,rfl,SJ,hL57,hD57⟩
 have SJ':SH (fun _=>False) w w57 [(b30,#[.int .i64 ((fullL ls).length:Int)],ty.int),(b10,zC 0 (zmm ls),ty.api_Zone),(b2,zC 0 (Z0,Z0),ty.api_Zone)]:=by
  have:=SJ
  simp only [H,List.take_length] at this
  exact this
 refine⟨⟨_,rfl⟩,none,by rw [rr_eta hst hpe];exact hL57,rfl,?_⟩
 obtain⟨w58,hw58⟩:∃ w58,w58=w57.putObj L (.loop { rr with state:=.exhausted,pending:=none }):=⟨_,rfl⟩
 rw [← hw58]
 have K58:Keeps (fun k=>k=L) w57 w58:=by rw [hw58];exact keeps_putObj _ _ _
 have S58:=SJ'.kept K58 (by
  intro y hy
  simp only [List.mem_cons,List.not_mem_nil,or_false] at hy
  rcases hy with rfl | rfl | rfl <;> simp only <;> omega) (fun k hk h=>by omega)
 have hD58:=K58.at hD57 (show ¬ w32.heap.size=L by omega)
 have hnf:=nulls_full ls
 have en:IntKind.i64.wrap ((ls.length:Int)-((fullL ls).length:Int))=(nullsN ls:Int):=by rw [wrap_i64 (by omega) (by omega)];omega
 refine⟨_,S58.cell 0 rfl rfl,?_⟩
 rw [en]
 refine S58.chg 1 rfl (cs':=zC (nullsN ls:Int) (zmm ls)) (show 0<7 by decide) rfl fun w59 K59 S59=>?_
 refine⟨_,S59.cell 1 rfl rfl,_,S59.cell 1 rfl rfl,_,S59.cell 1 rfl rfl,_,S59.cell 1 rfl rfl,_,S59.cell 1 rfl rfl,_,S59.cell 1 rfl rfl,_,S59.cell 1 rfl rfl,S59.sto7 2 rfl fun w66 K66 S66=>?_⟩
 have hD66:=K66.at (K59.at hD58 (show ¬ w32.heap.size=b10 by omega)) (show ¬ w32.heap.size=b2 by omega)
 have KP:=keeps_putObj w66 w32.heap.size (.deferred none)
 have SP:=S66.kept KP (by
  intro y hy
  simp only [List.set_cons_succ,List.set_cons_zero,List.mem_cons,List.not_mem_nil,or_false] at hy
  rcases hy with rfl | rfl | rfl <;> simp only <;> omega) (fun k hk h=>by omega)
 exact⟨hD66,_,SP.cell 2 rfl rfl,_,SP.cell 2 rfl rfl,_,SP.cell 2 rfl rfl,_,SP.cell 2 rfl rfl,_,SP.cell 2 rfl rfl,_,SP.cell 2 rfl rfl,_,SP.cell 2 rfl rfl,.inl ⟨hok,rfl⟩,SP.below⟩
end
theorem zero_right:rightB Z0=true:=by decide
theorem zmm_right{ls:List Val}(h:∀ v∈ls,rightB v=true):∀ i,i≤ls.length→rightB (zmm (ls.take i)).1=true∧rightB (zmm (ls.take i)).2=true
 | 0,_=>⟨zero_right,zero_right⟩
 | i+1,hi=>by
  have hil:i<ls.length:=by omega
  obtain⟨h1,h2⟩:=zmm_right h i (by omega)
  by_cases h0:ls[i].1=0
  ·rw [zmm_skip hil h0];exact⟨h1,h2⟩
  ·rw [zmm_step hil h0]
   have hv:=h _ (List.getElem_mem hil)
   refine⟨?_,?_⟩
   ·simp only;split
    ·exact hv
    ·exact h1
   ·simp only;split
    ·exact hv
    ·exact h2
theorem mem_take{ls:List Val}{i:Nat}{p:Val→Prop}(hil:i<ls.length)(hall:∀ v∈ls.take i,p v)(hr:p ls[i]):∀ v∈ls.take (i+1),p v:=by
 intro v hv
 rw [List.take_succ_eq_append_getElem hil] at hv
 rcases List.mem_append.1 hv with h | h
 ·exact hall v h
 ·rw [List.mem_singleton.1 h];exact hr
section
variable {w:World}{a:Option Addr}{c:Nat}{ls:List Val}
theorem ref08_Zone_ok(hl:Rd w a (valsL ls)):Calls Tryz.prog f.ref08_Zone #[.slice a ls.length c] w (Ret fun v w'=>ZoneV ls v∧Below w.heap.size w w'):=by
 apply R.ref08_Zone_calls
 unfold R.ref08_Zone
 refine (SH.start (fun _=>False) w).newB fun b2 w1 hb2 B1 S1=>IFB_dec (fun hbig=>?_) (fun hle=>?_)
 ·exact zone_bad (p:=(Z0,Z0)) (x:=0) S1 (n:=0) rfl (fun h=>by have:=h.1;omega)
 have hlen:ls.length≤1024:=by omega
 refine S1.newB fun b10 w9 hb10 B9 S9=>?_
 refine⟨fun s w17=>∃ i:Nat,i≤ls.length∧s=[.bool (decide ((fullL (ls.take i)).length=0)),.int .i64 (i:Int)]∧SH (fun _=>False) w w17 [(b10,zC (nullsN (ls.take i):Int) (zmm (ls.take i)),ty.api_Zone),(b2,zC 0 (Z0,Z0),ty.api_Zone)]∧∀ v∈ls.take i,rightB v=true,fun s _=>match s with
   | [_,.int _ i]=>ls.length-i.toNat
   | _=>0,⟨0,by omega,rfl,S9,by simp⟩,?_⟩
 rintro _ _ w17 ⟨i,hi,hst,S17,hall⟩
 cases hst
 have hnl:=nullsN_le (ls.take i)
 rw [List.length_take] at hnl
 refine IFB_dec (fun hlt=>⟨⟨by omega,hlt⟩,?_⟩) (fun hge=>?_)
 ·have hil:i<ls.length:=by omega
  obtain⟨p,rfl,c0,c1,c2⟩:=val_at (hl.grown S17.below) hil
  refine⟨_,by rw [Int.toNat_natCast];exact c0,_,by rw [Int.toNat_natCast];exact c1,_,by rw [Int.toNat_natCast];exact c2,(ref04_Right_ok w17 ls[i]).mono ?_⟩
  rintro _ w18 ⟨_,rfl,rfl,B18⟩
  have S18:=S17.grown B18
  refine⟨_,rfl,IFB_not (IFB_of (fun hr=>?_) (fun hr=>?_))⟩
  case refine_2=>exact zone_bad (p:=(Z0,Z0)) (x:=0) S18 (n:=1) rfl (fun h=>by have:=h.2 _ (List.getElem_mem hil);rw [this] at hr;cases hr)
  obtain⟨p',hp',d0,d1,d2⟩:=val_at (hl.grown S18.below) hil
  cases hp'
  have hall':=mem_take hil hall hr
  rw [wrap_succ (k:=i) (by omega)]
  have mes:ls.length-((i+1:Nat):Int).toNat<ls.length-((i:Nat):Int).toNat:=by
   simp only [Int.toNat_natCast]
   omega
  refine⟨⟨by omega,hlt⟩,_,by rw [Int.toNat_natCast];exact d0,IFB_eq (fun hz=>?_) (fun hne=>?_)⟩
  ·refine⟨_,S18.cell 0 rfl rfl,?_⟩
   rw [wrap_succ (by omega)]
   refine S18.chg 0 rfl (cs':=zC ((nullsN (ls.take i)+1:Nat):Int) (zmm (ls.take i))) (show 0<7 by decide) rfl fun w26 K26 S26=>⟨⟨i+1,by omega,?_,?_,hall'⟩,mes⟩
   ·rw [fullL_take hil,if_pos hz,List.append_nil]
   ·rw [nullsN_take hil,if_pos hz,zmm_skip hil hz];exact S26
  ·obtain⟨n,hnd⟩:∃ n,n=(fullL (ls.take i)).length:=⟨_,rfl⟩
   obtain⟨mm,hmm⟩:∃ mm,mm=zmm (ls.take i):=⟨_,rfl⟩
   obtain⟨nu,hnu⟩:∃ nu,nu=nullsN (ls.take i):=⟨_,rfl⟩
   have hmr:=zmm_right (ls:=ls.take (i+1)) hall' i (by rw [List.length_take];omega)
   have htt:(ls.take (i+1)).take i=ls.take i:=by rw [List.take_take];congr 1;omega
   rw [htt,← hmm] at hmr
   have hstep:=zmm_step hil hne
   have hfn:(fullL (ls.take (i+1))).length=n+1:=by rw [fullL_take hil,if_neg hne,List.length_append,hnd];rfl
   have hnn:nullsN (ls.take (i+1))=nu:=by rw [nullsN_take hil,if_neg hne,hnu];rfl
   rw [← hnd,← hmm] at hstep
   rw [← hnu,← hmm] at S18
   rw [← hnd]
   obtain⟨v,hvd⟩:∃ v,v=ls[i]:=⟨_,rfl⟩
   rw [← hvd] at hr hstep
   have lat:∀ {wx:World},Below w.heap.size w wx→wx.cell? (p.add (i*3))=some (.int .i64 v.1)∧wx.cell? ((p.add (i*3)).add 1)=some (.int .i64 v.2.1)∧wx.cell? ((p.add (i*3)).add 2)=some (.string v.2.2):=fun B=>by
    obtain⟨q,hq,e0,e1,e2⟩:=val_at (hl.grown B) hil
    cases hq
    rw [hvd];exact⟨e0,e1,e2⟩
   refine S18.drawB fun w27 B27 S27=>⟨⟨by omega,hlt⟩,?_⟩
   obtain⟨e0,e1,e2⟩:=lat S27.below
   refine⟨_,by rw [Int.toNat_natCast];exact e0,_,by rw [Int.toNat_natCast];exact e1,_,by rw [Int.toNat_natCast];exact e2,_,S27.cell 0 rfl rfl,_,S27.cell 0 rfl rfl,_,S27.cell 0 rfl rfl,(ref_Compare_ok w27 v mm.1).mono ?_⟩
   rintro _ w28 ⟨_,rfl,rfl,B28⟩
   have S28:=S27.grown B28
   refine⟨_,rfl,S28.drawB fun w29 B29 S29=>⟨⟨by omega,hlt⟩,?_⟩⟩
   obtain⟨e0,e1,e2⟩:=lat S29.below
   refine⟨_,by rw [Int.toNat_natCast];exact e0,_,by rw [Int.toNat_natCast];exact e1,_,by rw [Int.toNat_natCast];exact e2,_,S29.cell 0 rfl rfl,_,S29.cell 0 rfl rfl,_,S29.cell 0 rfl rfl,(ref_Compare_ok w29 v mm.2).mono ?_⟩
   rintro _ w30 ⟨_,rfl,rfl,B30⟩
   have S30:=S29.grown B30
   rw [← cmp_ref hr hmr.1,← cmp_ref hr hmr.2]
   have fin:∀ {wy:World} {mn mx:Val},SH (fun _=>False) w wy [(b10,zC (nu:Int) (mn,mx),ty.api_Zone),(b2,zC 0 (Z0,Z0),ty.api_Zone)]→mn=(if n=0∨cmpV v mm.1<0 then v else mm.1)→mx=(if n=0∨0<cmpV v mm.2 then v else mm.2) →
     (∃ j:Nat,j≤ls.length∧[Value.bool false,.int .i64 ((i+1:Nat):Int)]=[.bool (decide ((fullL (ls.take j)).length=0)),.int .i64 (j:Int)]∧SH (fun _=>False) w wy [(b10,zC (nullsN (ls.take j):Int) (zmm (ls.take j)),ty.api_Zone),(b2,zC 0 (Z0,Z0),ty.api_Zone)]∧∀ v∈ls.take j,rightB v=true)∧ls.length-((i+1:Nat):Int).toNat<ls.length-((i:Nat):Int).toNat:=by
    rintro wy mn mx Sy rfl rfl
    refine⟨⟨i+1,by omega,?_,?_,hall'⟩,mes⟩
    ·rw [hfn];simp
    ·rw [hnn,hstep];exact Sy
   refine⟨_,rfl,fun s w37=>s=[]∧SH (fun _=>False) w w37 [(b10,zC (nu:Int) (if n=0∨cmpV v mm.1<0 then v else mm.1,mm.2),ty.api_Zone),(b2,zC 0 (Z0,Z0),ty.api_Zone)],?_,?_⟩
   ·obtain⟨e0,e1,e2⟩:=lat S30.below
    refine IFB_dec (fun h0=>⟨⟨by omega,hlt⟩,_,by rw [Int.toNat_natCast];exact e0,_,by rw [Int.toNat_natCast];exact e1,_,by rw [Int.toNat_natCast];exact e2,S30.stoMin 0 rfl fun w33 K33 S33=>⟨rfl,?_⟩⟩)
     (fun h0=>IFB_dec (fun hc=>⟨⟨by omega,hlt⟩,_,by rw [Int.toNat_natCast];exact e0,_,by rw [Int.toNat_natCast];exact e1,_,by rw [Int.toNat_natCast];exact e2,S30.stoMin 0 rfl fun w33 K33 S33=>⟨rfl,?_⟩⟩) (fun hc=>⟨rfl,?_⟩))
    ·rw [if_pos (.inl h0)];exact S33
    ·rw [if_pos (.inr hc)];exact S33
    ·rw [if_neg (by omega)];exact S30
   rintro w37 ⟨_,S37⟩
   obtain⟨e0,e1,e2⟩:=lat S37.below
   refine IFB_dec (fun h0=>⟨⟨by omega,hlt⟩,_,by rw [Int.toNat_natCast];exact e0,_,by rw [Int.toNat_natCast];exact e1,_,by rw [Int.toNat_natCast];exact e2,S37.stoMax 0 rfl fun w33 K33 S33=>fin (mx:=v) S33 rfl (by rw [if_pos (.inl h0)])⟩)
     (fun h0=>IFB_dec (fun hc=>⟨⟨by omega,hlt⟩,_,by rw [Int.toNat_natCast];exact e0,_,by rw [Int.toNat_natCast];exact e1,_,by rw [Int.toNat_natCast];exact e2,S37.stoMax 0 rfl fun w33 K33 S33=>fin (mx:=v) S33 rfl (by rw [if_pos (.inr (by omega))])⟩) (fun hc=>fin S37 rfl (by rw [if_neg (by omega)])))
 ·have hie:ls.take i=ls:=List.take_of_length_le (by omega)
  rw [hie] at hall S17
  have hok:zoneOk ls:=⟨hlen,hall⟩
  refine⟨_,S17.cell 0 rfl rfl,_,S17.cell 0 rfl rfl,_,S17.cell 0 rfl rfl,_,S17.cell 0 rfl rfl,_,S17.cell 0 rfl rfl,_,S17.cell 0 rfl rfl,_,S17.cell 0 rfl rfl,S17.sto7 1 rfl fun w66 K66 SP=>?_⟩
  exact⟨_,SP.cell 1 rfl rfl,_,SP.cell 1 rfl rfl,_,SP.cell 1 rfl rfl,_,SP.cell 1 rfl rfl,_,SP.cell 1 rfl rfl,_,SP.cell 1 rfl rfl,_,SP.cell 1 rfl rfl,.inl ⟨hok,rfl⟩,SP.below⟩
end
theorem ZoneV.open{ls:List Val}{r:Value}(h:ZoneV ls r):∃ n p e,r=zV n p e∧((zoneOk ls∧n=(nullsN ls:Int)∧p=zmm ls∧e=0)∨(¬ zoneOk ls∧e=2)):=by
 rcases h with ⟨h,rfl⟩ | ⟨h,rfl⟩
 ·exact⟨_,_,_,rfl,.inl ⟨h,rfl,rfl,rfl⟩⟩
 ·exact⟨_,_,_,rfl,.inr ⟨h,rfl⟩⟩
structure Within(ls:List Val)(i:Nat):Prop where
 all:∀ v∈ls.take i,v.1≠0→0≤cmpV v (zmm (ls.take i)).1∧cmpV v (zmm (ls.take i)).2≤0
 some:0<(fullL (ls.take i)).length→((zmm (ls.take i)).1∈ls.take i∧(zmm (ls.take i)).1.1≠0)∧((zmm (ls.take i)).2∈ls.take i∧(zmm (ls.take i)).2.1≠0)
 none:(fullL (ls.take i)).length=0→zmm (ls.take i)=(Z0,Z0)
theorem cmp_self(v:Val):cmpV v v=0:=(ord_val.zero v v).2 rfl
theorem full_none{ls:List Val}(h:(fullL ls).length=0):∀ v∈ls,v.1=0:=by
 intro v hv
 have hf:fullL ls=[]:=List.eq_nil_of_length_eq_zero h
 unfold fullL at hf
 have:=List.filter_eq_nil_iff.1 hf v hv
 simpa using this
theorem within{ls:List Val}:∀ i,i≤ls.length→Within ls i
 | 0,_=>⟨by simp,by simp [fullL],fun _=>rfl⟩
 | i+1,hi=>by
  have hil:i<ls.length:=by omega
  obtain⟨h1,h2,h3⟩:=within (ls:=ls) i (by omega)
  have hsub:∀ v,v∈ls.take i→v∈ls.take (i+1):=fun v hv=>by rw [List.take_succ_eq_append_getElem hil];exact List.mem_append_left _ hv
  have hin:ls[i]∈ls.take (i+1):=by rw [List.take_succ_eq_append_getElem hil];exact List.mem_append_right _ (List.mem_singleton.2 rfl)
  by_cases h0:ls[i].1=0
  ·have ef:fullL (ls.take (i+1))=fullL (ls.take i):=by rw [fullL_take hil,if_pos h0,List.append_nil]
   have ez:=zmm_skip hil h0
   refine⟨?_,?_,?_⟩
   ·rw [ez]
    intro v hv hne
    rw [List.take_succ_eq_append_getElem hil] at hv
    rcases List.mem_append.1 hv with h | h
    ·exact h1 v h hne
    ·rw [List.mem_singleton.1 h] at hne;exact absurd h0 hne
   ·rw [ef,ez]
    intro hp
    obtain⟨⟨a1,a2⟩,b1,b2⟩:=h2 hp
    exact⟨⟨hsub _ a1,a2⟩,hsub _ b1,b2⟩
   ·rw [ef,ez];exact h3
  ·have ez:=zmm_step hil h0
   have ef:(fullL (ls.take (i+1))).length=(fullL (ls.take i)).length+1:=by rw [fullL_take hil,if_neg h0,List.length_append];rfl
   obtain⟨mm,hmm⟩:∃ mm,mm=zmm (ls.take i):=⟨_,rfl⟩
   obtain⟨n,hn⟩:∃ n,n=(fullL (ls.take i)).length:=⟨_,rfl⟩
   rw [← hmm,← hn] at ez h2
   rw [← hmm] at h1
   rw [← hn] at ef
   have min_le:0≤cmpV ls[i] (if n=0∨cmpV ls[i] mm.1<0 then ls[i] else mm.1):=by
    split
    ·rw [cmp_self];exact Int.le_refl _
    ·omega
   have max_le:cmpV ls[i] (if n=0∨0<cmpV ls[i] mm.2 then ls[i] else mm.2)≤0:=by
    split
    ·rw [cmp_self];exact Int.le_refl _
    ·omega
   have old:∀ v∈ls.take i,v.1≠0→¬ n=0:=fun v hv hne h=>hne (full_none (by rw [← hn];exact h) v hv)
   refine⟨?_,?_,fun h=>by omega⟩
   ·rw [ez]
    intro v hv hne
    rw [List.take_succ_eq_append_getElem hil] at hv
    rcases List.mem_append.1 hv with h | h
    ·obtain⟨k1,k2⟩:=h1 v h hne
     have hn0:=old v h hne
     refine⟨?_,?_⟩
     ·simp only
      split
      ·rename_i hc
       have hc':cmpV ls[i] mm.1<0:=hc.resolve_left hn0
       have k1':cmpV mm.1 v≤0:=by have:=ord_val.neg v mm.1;omega
       have:=ord_val.strict _ _ _ hc' k1'
       have:=ord_val.neg ls[i] v
       omega
      ·exact k1
     ·simp only
      split
      ·rename_i hc
       have hc':0<cmpV ls[i] mm.2:=hc.resolve_left hn0
       have:cmpV mm.2 ls[i]≤0:=by have:=ord_val.neg ls[i] mm.2;omega
       exact ord_val.trans _ _ _ k2 this
      ·exact k2
    ·rw [List.mem_singleton.1 h];exact⟨min_le,max_le⟩
   ·rw [ez]
    intro _
    refine⟨?_,?_⟩
    ·simp only
     split
     ·exact⟨hin,h0⟩
     ·rename_i hc
      obtain⟨⟨a1,a2⟩,_⟩:=h2 (by omega)
      exact⟨hsub _ a1,a2⟩
    ·simp only
     split
     ·exact⟨hin,h0⟩
     ·rename_i hc
      obtain⟨_,b1,b2⟩:=h2 (by omega)
      exact⟨hsub _ b1,b2⟩
structure ReadP(K:Int)(ls:List Val)(l:List UInt8):Prop where
 good:Good1 K ls
 ex:∃ o,(nullsN ls<ls.length→OthIs K ls o)∧(¬ nullsN ls<ls.length→o=[])∧l=headL K ls++maskL ls++o
theorem bits_none{ls:List Val}(h:nullsN ls=0):bitsN ls=List.replicate ls.length 0:=by
 unfold bitsN
 rw [List.eq_replicate_iff]
 refine⟨by simp,fun b hb=>?_⟩
 obtain⟨v,hv,rfl⟩:=List.mem_map.1 hb
 unfold nullsN at h
 have:=(List.countP_eq_zero.1 h) v hv
 rw [if_neg (by simpa using this)]
theorem bits_all{ls:List Val}(h:nullsN ls=ls.length):bitsN ls=List.replicate ls.length 1:=by
 unfold bitsN
 rw [List.eq_replicate_iff]
 refine⟨by simp,fun b hb=>?_⟩
 obtain⟨v,hv,rfl⟩:=List.mem_map.1 hb
 unfold nullsN at h
 have:=(List.countP_eq_length.1 h) v hv
 rw [if_pos (by simpa using this)]
theorem Good1.null{K:Int}{ls:List Val}(h:Good1 K ls):∀ v∈ls,v.1=0→v=(0,0,E0):=by
 intro v hv h0
 have hok:=h.all v hv
 simp only [okV,Bool.and_eq_true] at hok
 have hr:=hok.1
 unfold rightB at hr
 rw [if_pos h0] at hr
 simp at hr
 obtain⟨v1,v2,v3⟩:=v
 simp only at h0 hr
 rw [h0,hr.1,hr.2]
theorem nulls_full'(ls:List Val):nullsN ls+(fullL ls).length=ls.length:=by
 induction ls with
 | nil=>rfl
 | cons v ls ih =>
  unfold nullsN fullL at ih ⊢
  by_cases h:v.1=0
  ·simp [h];omega
  ·simp [h];omega
structure ReadQ(K:Int)(ls:List Val)(l:List UInt8)(at1 at2:Nat)(o:List UInt8):Prop where
 kind:((l.getD 0 0).toNat:Int)=K
 n1:takeN l 1=some (ls.length,at1)
 n2:takeN l (at1:Int)=some (nullsN ls,at2)
 rest:l.drop at2=maskL ls++o
 oth:nullsN ls<ls.length→OthIs K ls o
 none:¬ nullsN ls<ls.length→o=[]
theorem ReadP.q{K:Int}{ls:List Val}{l:List UInt8}(h:ReadP K ls l):∃ at1 at2 o,ReadQ K ls l at1 at2 o:=by
 obtain⟨o,h1,h2,rfl⟩:=h.ex
 have hlen:=h.good.len
 have hk:=h.good.kind
 have hnl:=nullsN_le ls
 have e1:(headL K ls++maskL ls++o).drop 1=digitsL ls.length++(digitsL (nullsN ls)++(maskL ls++o)):=by simp [headL]
 have e2:=drop_more e1
 have e3:=drop_more e2
 refine⟨_,_,o,?_,takeN_drop (at_:=1) (by omega) e1,takeN_drop (by omega) e2,e3,h1,h2⟩
 have:((headL K ls++maskL ls++o).getD 0 0)=UInt8.ofNat K.toNat:=by simp [headL]
 rw [this,ofNat_toNat8 (by omega)]
 omega
def ReadV(l:List UInt8)(w w':World)(v:Value):Prop :=
 ∃(K:Int) (os:List Val) (a:Option Addr) (c:Nat) (ok:Bool),v=.tuple #[.int .i64 K,.slice a os.length c,.bool ok]∧RdN w w' a (valsL os)∧Below w.heap.size w w'∧os.length≤4096∧(∀ v∈os,ValOk v) ∧
  ∀ K' ls,ReadP K' ls l→ok=true∧K=K'∧os=ls
theorem ReadV.bad{l:List UInt8}{w w':World}(hb:Below w.heap.size w w')(h:∀ K ls,¬ ReadP K ls l):ReadV l w w' (.tuple #[.int .i64 0,.slice none 0 0,.bool false]) :=
 ⟨0,[],none,0,false,rfl,RdN.nil _ _,hb,by simp,by simp,fun K ls hls=>absurd hls (h K ls)⟩
section
variable {w:World}{a:Option Addr}{c:Nat}{l:List UInt8}
theorem chunk_read_ok(hl:Rd w a (l.map byteV))(hc:l.length≤c)(hs:l.length≤9223372036854775807) :
  Calls Tryz.prog f.chunk_read #[.slice a l.length c] w (Ret fun v w'=>ReadV l w w' v):=by
 apply R.chunk_read_calls
 unfold R.chunk_read
 refine IFB_dec (fun h=>ReadV.bad (.refl _ _) fun K ls hp=>?_) (fun hpos=>?_)
 ·obtain⟨_,_,_,q⟩:=hp.q
  have:=takeN_bounds q.n1
  omega
 have h0:0<l.length:=by omega
 refine (wire_TakeNumber_ok hl hc hs 1).mono ?_
 rintro _ w ⟨_,rfl,rfl,rfl⟩
 obtain⟨n,at1,e1,hv1,hb1,hP1⟩:∃(n at1:Nat) (e1:Int),numV (takeN l 1)=.tuple #[.int .u64 (n:Int),.int .i64 (at1:Int),.int .i64 e1]∧(n<18446744073709551616∧at1≤l.length)∧(∀ K ls,ReadP K ls l→e1=0∧n=ls.length∧takeN l 1=some (n,at1)):=by
  cases hx:takeN l 1 with
  | none =>
   refine⟨0,0,20,rfl,by omega,fun K ls hp=>?_⟩
   obtain⟨_,_,_,q⟩:=hp.q
   have:=q.n1
   rw [hx] at this;cases this
  | some x =>
   have hb:=takeN_bounds (n:=x.1) (k:=x.2) hx
   refine⟨x.1,x.2,0,rfl,by omega,fun K ls hp=>?_⟩
   obtain⟨_,_,_,q⟩:=hp.q
   have:=q.n1
   rw [hx] at this
   have:=Option.some.inj this
   exact⟨rfl,by rw [this],rfl⟩
 rw [hv1]
 refine⟨_,_,_,rfl,(wire_TakeNumber_ok hl hc hs (at1:Int)).mono ?_⟩
 rintro _ w ⟨_,rfl,rfl,rfl⟩
 obtain⟨no,at2,e2,hv2,hb2,hP2⟩:∃(no at2:Nat) (e2:Int),numV (takeN l (at1:Int))=.tuple #[.int .u64 (no:Int),.int .i64 (at2:Int),.int .i64 e2]∧(no<18446744073709551616∧at2≤l.length)∧(∀ K ls,ReadP K ls l→e2=0∧no=nullsN ls∧∃ o,ReadQ K ls l at1 at2 o):=by
  have step:∀ K ls,ReadP K ls l→∃ at2 o,ReadQ K ls l at1 at2 o:=by
   intro K ls hp
   obtain⟨a1,a2,o,q⟩:=hp.q
   have h1:=(hP1 K ls hp).2.2
   have h2:=q.n1
   rw [h1] at h2
   obtain rfl:at1=a1:=by have:=Option.some.inj h2;simpa using congrArg Prod.snd this
   exact⟨a2,o,q⟩
  cases hx:takeN l (at1:Int) with
  | none =>
   refine⟨0,0,20,rfl,by omega,fun K ls hp=>?_⟩
   obtain⟨_,_,q⟩:=step K ls hp
   have:=q.n2
   rw [hx] at this;cases this
  | some x =>
   have hb:=takeN_bounds (n:=x.1) (k:=x.2) hx
   refine⟨x.1,x.2,0,rfl,by omega,fun K ls hp=>?_⟩
   obtain⟨a2,o,q⟩:=step K ls hp
   have:=q.n2
   rw [hx] at this
   have hxx:=Option.some.inj this
   obtain rfl:x.2=a2:=by rw [hxx]
   exact⟨rfl,by rw [hxx],o,q⟩
 rw [hv2]
 refine⟨_,_,_,rfl,IFB_ne (fun h=>ReadV.bad (.refl _ _) fun K ls hp=>h (hP1 K ls hp).1) (fun he1=>IFB_ne (fun h=>ReadV.bad (.refl _ _) fun K ls hp=>h (hP2 K ls hp).1) (fun he2=>IFB_dec (fun h=>ReadV.bad (.refl _ _) fun K ls hp=>?_) (fun hn1=>IFB_dec (fun h=>ReadV.bad (.refl _ _) fun K ls hp=>?_) (fun hn2=>?_))))⟩
 ·have:=(hP1 K ls hp).2.1
  have:=hp.good.len
  omega
 ·have:=(hP1 K ls hp).2.1
  have:=(hP2 K ls hp).2.1
  have:=nullsN_le ls
  omega
 have hn:n≤1024:=by omega
 have hno:no≤n:=by omega
 refine make_new tU (l:=(n:Int)) (c:=(n:Int)) (by omega) (by omega) (by omega) (by omega) fun bo w3 hbo B3 hO3=>?_
 rw [Int.toNat_natCast] at hO3 ⊢
 have hO3':w3.heap[bo]?=some (.cells ⟨List.replicate n (.int .u64 0)⟩ ty.uint64 (0,0)):=by
  have e:madeCells (Value.int .u64 0).cells (n*1)=⟨List.replicate n (.int .u64 0)⟩:=by
   apply Array.ext'
   rw [madeCells_one _ rfl,Nat.mul_one]
  rw [← e];exact hO3
 refine⟨_,_,_,rfl,fun s w8=>∃(at3:Nat) (e:Int) (bits:List Nat) (ab:Option Addr) (cb:Nat),s=[.int .i64 (at3:Int),.int .i64 e,.slice ab bits.length cb]∧Rd w8 ab (bits.map u64V)∧Below w.heap.size w w8∧bits.length≤4096∧at3≤l.length ∧
   (∀ K ls,ReadP K ls l→e=0∧bits=bitsN ls∧∃ o,ReadQ K ls l at1 at2 o∧l.drop at3=o),?_,?_⟩
 ·have rep:∀(k:Nat) (x:Nat),(List.replicate k x).map u64V=List.replicate k (.int .u64 (x:Int)):=fun k x=>by rw [List.map_replicate];rfl
  refine IFB_eq (fun hz=>?_) (fun hz=>IFB_eq (fun hall=>?_) (fun hmid=>?_))
  ·refine⟨at2,e1,List.replicate n 0,some ⟨bo,0,none⟩,n,by rw [List.length_replicate],?_,B3,by simp;omega,hb2.2,fun K ls hp=>?_⟩
   ·have:=Rd.of_block0 hO3'
    rw [rep];exact this
   ·obtain⟨_,hno',o,q⟩:=hP2 K ls hp
    have hn':=(hP1 K ls hp).2.1
    have hz':nullsN ls=0:=by omega
    refine⟨he1,by rw [bits_none hz',hn'],o,q,?_⟩
    rw [q.rest]
    unfold maskL
    rw [if_neg (by omega)]
    rfl
  ·refine⟨fun s w4=>∃ i:Nat,i≤n∧s=[.int .i64 (i:Int)]∧Keeps (fun k=>k=bo) w3 w4∧w4.heap[bo]?=some (.cells ⟨List.replicate i (.int .u64 1)++List.replicate (n-i) (.int .u64 0)⟩ ty.uint64 (0,0)),fun s _=>match s with
     | [.int _ i]=>n-i.toNat
     | _=>0,⟨0,by omega,rfl,.refl _ _,by simpa using hO3'⟩,?_⟩
   rintro _ w4 ⟨i,hi,hst,K4,hO4⟩
   cases hst
   refine IFB_dec (fun hlt=>⟨⟨by omega,hlt⟩,?_⟩) (fun hge=>?_)
   ·rw [Int.toNat_natCast]
    unfold PTR
    simp only
    refine sto_at hO4 (p:=(⟨bo,0,none⟩:Addr).add (i*1)) (i:=i) (by rw [addr_add_blk];simp) (by show i<(_++_:List Value).length;simp;omega) fun w5 K5 hO5=>?_
    rw [wrap_succ (by omega)]
    refine⟨⟨i+1,by omega,rfl,K4.trans K5 (fun _ _ h=>h),?_⟩,?_⟩
    ·have e:(⟨List.replicate i (.int .u64 1)++List.replicate (n-i) (.int .u64 0)⟩:Array Value).setIfInBounds i (.int .u64 1)=⟨List.replicate (i+1) (.int .u64 1)++List.replicate (n-(i+1)) (.int .u64 0)⟩:=by
      apply Array.ext'
      simp only [Array.toList_setIfInBounds]
      rw [List.set_append_right _ _ (by simp),List.length_replicate,Nat.sub_self,show n-i=(n-(i+1))+1 by omega,List.replicate_succ (n:=n-(i+1)),List.set_cons_zero,List.replicate_succ' (n:=i),List.append_assoc]
      rfl
     rw [e] at hO5;exact hO5
    ·simp only [Int.toNat_natCast]
     omega
   ·have hin:i=n:=by omega
    subst hin
    rw [Nat.sub_self,List.replicate_zero,List.append_nil] at hO4
    refine⟨at2,e1,List.replicate i 1,some ⟨bo,0,none⟩,i,by rw [List.length_replicate],?_,B3.trans (K4.below B3.size fun k hk h=>by omega),by simp;omega,hb2.2,fun K ls hp=>?_⟩
    ·have:=Rd.of_block0 hO4
     rw [rep];exact this
    ·obtain⟨_,hno',o,q⟩:=hP2 K ls hp
     have hn':=(hP1 K ls hp).2.1
     have hz':nullsN ls=ls.length:=by omega
     refine⟨he1,by rw [bits_all hz',hn'],o,q,?_⟩
     rw [q.rest]
     unfold maskL
     rw [if_neg (by omega)]
     rfl
  ·rw [wrap_i64 (n:=(n:Int)) (by omega) (by omega)]
   refine (pack_Size_ok w3 (n:Int) 1).mono ?_
   rintro _ w6 ⟨_,rfl,rfl,rfl⟩
   rw [if_pos ⟨by omega,by omega,by omega,by omega⟩]
   obtain⟨sz,hsz⟩:∃ sz,sz=sizeN n 1:=⟨_,rfl⟩
   have hszv:sz=(n+7) / 8:=by rw [hsz];unfold sizeN;rw [Nat.mul_one]
   have esz:((n:Int)*1+7) / 8=(sz:Int):=by omega
   rw [esz,wrap_i64 (n:=(l.length:Int)-(at2:Int)) (by omega) (by omega)]
   have hmaskq:∀ K ls,ReadP K ls l→∃ o,ReadQ K ls l at1 at2 o∧l.drop at2=packL (bitsN ls) 1++o∧(packL (bitsN ls) 1).length=sz:=by
    intro K ls hp
    obtain⟨_,hno',o,q⟩:=hP2 K ls hp
    have hn':=(hP1 K ls hp).2.1
    refine⟨o,q,?_,?_⟩
    ·rw [q.rest]
     unfold maskL
     rw [if_pos (by omega)]
    ·rw [packL_len,hsz,hn']
     simp [bitsN]
   refine⟨_,_,rfl,IFB_dec (fun h=>ReadV.bad B3 fun K ls hp=>?_) (fun hge=>?_)⟩
   ·obtain⟨o,_,e,e2⟩:=hmaskq K ls hp
    have:=congrArg List.length e
    rw [List.length_drop,List.length_append] at this
    omega
   rw [wrap_i64 (n:=(at2:Int)+(sz:Int)) (by omega) (by omega)]
   refine⟨⟨by omega,by omega,by omega⟩,?_⟩
   rw [Int.toNat_natCast,show ((at2:Int)+(sz:Int)).toNat=at2+sz by omega,Nat.add_sub_cancel_left]
   have hsl:=(hl.grown B3).sla at2 (at2+sz) c 1 (by omega)
   rw [Nat.mul_one,Nat.mul_one,Nat.add_sub_cancel_left,← List.map_drop,← List.map_take] at hsl
   have hsll:((l.drop at2).take sz).length=sz:=by rw [List.length_take,List.length_drop];omega
   have hU:=pack_Unpack_ok (c:=c-at2) hsl (n:Int) 1 (by omega)
   rw [hsll] at hU
   refine hU.mono ?_
   rintro _ w7 ⟨_,rfl,xs,xa,xc,e,rfl,hRx,B7,hxn,hcase⟩
   have C7:=below_trans B3 B7
   have hxl:xs.length≤4096:=by
    rcases hcase with ⟨_,_,rfl,_⟩ | ⟨_,rfl,_⟩
    ·rw [unpackL_len];omega
    ·simp
   refine⟨_,_,_,_,rfl,at2+sz,e,xs,xa,xc,rfl,hRx,C7,hxl,by omega,fun K ls hp=>?_⟩
   obtain⟨o,q,e3,e4⟩:=hmaskq K ls hp
   have hn':=(hP1 K ls hp).2.1
   have hbl:(bitsN ls).length=n:=by rw [hn'];simp [bitsN]
   have htk:(l.drop at2).take sz=packL (bitsN ls) 1:=by rw [e3,← e4,List.take_left]
   have hup:=unpack_pack (bits_lt ls)
   rw [hbl] at hup
   rw [htk,Int.toNat_natCast,show (1:Int).toNat=1 from rfl] at hcase
   have hok:unArg (n:Int) 1∧unOk (packL (bitsN ls) 1) n 1:=⟨⟨by omega,by omega,by omega,by omega⟩,⟨by rw [packL_len,hbl],by rw [hup]⟩⟩
   rcases hcase with ⟨_,_,hxs,he⟩ | ⟨hno2,_⟩
   ·exact⟨he,by rw [hxs,hup],o,q,by rw [← e4,← List.drop_drop,e3,List.drop_left]⟩
   ·exact absurd hok hno2
 rintro _ e ab _ cb w8 ⟨at3,_,bits,_,_,hst,hRb,B8,hbl,hat3,hP3⟩
 cases hst
 refine (SH.start (fun _=>False) w8).drawB fun w9 B9 _=>⟨⟨by omega,by omega⟩,?_⟩
 have C9:=below_trans B8 B9
 have hdr:=drop_rd (q:=at3) (hl.grown C9) hc
 obtain⟨p,rfl,hcell⟩:=head_at (hl.grown C9) h0
 have hb0:=(l.getD 0 0).toNat_lt
 refine⟨⟨by omega,by omega,by omega⟩,_,hcell,?_⟩
 have en:IntKind.i64.wrap (IntKind.u64.wrap ((n:Int)-(no:Int)))=((n-no:Nat):Int):=by rw [wrap_u64_id (by omega) (by omega),wrap_i64 (by omega) (by omega)];omega
 rw [en,wrap_i64 (n:=((l.getD 0 0).toNat:Int)) (by omega) (by omega),Int.toNat_natCast,← List.length_drop (i:=at3) (l:=l)]
 refine (chunk_decoded_ok ((l.getD 0 0).toNat:Int) hdr (by rw [List.length_drop];omega) (by rw [List.length_drop];omega) (n:=n-no) (by omega)).mono ?_
 rintro _ w10 ⟨_,rfl,vs,a10,c10,ok,rfl,R10,B10,hvl,hvok,hD⟩
 have C10:=below_trans C9 B10
 have hD':∀ K ls,ReadP K ls l→ok=true∧vs=fullL ls:=by
  intro K ls hp
  obtain⟨_,_,o,q,ho⟩:=hP3 K ls hp
  have hn':=(hP1 K ls hp).2.1
  have hno':=(hP2 K ls hp).2.1
  have hnf:=nulls_full' ls
  refine hD ls (by rw [q.kind];exact hp.good) (by omega) (fun h=>?_) (fun h=>?_)
  ·rw [q.kind,ho];exact q.oth (by omega)
  ·rw [ho];exact q.none (by omega)
 refine⟨_,_,_,_,rfl,IFB_ne (fun h=>ReadV.bad C10 fun K ls hp=>h (hP3 K ls hp).1) (fun he=>IFB_not (IFB_of (fun hok=>?_) (fun hok=>ReadV.bad C10 fun K ls hp=>?_)))⟩
 case refine_2 =>
  have:=(hD' K ls hp).1
  rw [this] at hok;cases hok
 refine (chunk_spread_ok ((hRb.grown B9).grown B10) R10 hbl hvl hvok).mono ?_
 rintro _ w11 ⟨_,rfl,os,a11,c11,ok2,rfl,R11,B11,hol,hook,hS⟩
 have C11:=below_trans C10 B11
 obtain⟨p',hp',hcell'⟩:=head_at (hl.grown C11) h0
 cases hp'
 refine⟨_,_,_,_,rfl,⟨by omega,by omega⟩,_,hcell',?_⟩
 rw [wrap_i64 (n:=((l.getD 0 0).toNat:Int)) (by omega) (by omega)]
 refine⟨_,os,a11,c11,ok2,rfl,R11.before C10,C11,hol,hook,fun K ls hp=>?_⟩
 obtain⟨_,hbits,o,q,_⟩:=hP3 K ls hp
 obtain⟨s1,s2⟩:=hS ls hbits (hD' K ls hp).2 hp.good.null
 exact⟨s1,q.kind,s2⟩
end
theorem ChIs.read{K:Int}{ls:List Val}{b:List UInt8}(hg:Good1 K ls)(h:ChIs K ls b):ReadP K ls (b.take (b.length-4))∧5≤b.length∧b=b.take (b.length-4)++sum4 (crc (b.take (b.length-4))):=by
 obtain⟨o,h1,h2,rfl⟩:=h.ex
 have hs:∀ x,(sum4 x).length=4:=fun x=>rfl
 have hhead:1≤(headL K ls).length:=by simp [headL]
 have e:(headL K ls++maskL ls++o++sum4 (crc (headL K ls++maskL ls++o))).take ((headL K ls++maskL ls++o++sum4 (crc (headL K ls++maskL ls++o))).length-4)=headL K ls++maskL ls++o:=by
  rw [List.length_append,hs,Nat.add_sub_cancel,List.take_left]
 rw [e]
 refine⟨⟨hg,o,h1,h2,rfl⟩,?_,rfl⟩
 simp only [List.length_append,hs]
 omega
def ChDV(l:List UInt8)(w w':World)(v:Value):Prop :=
 ∃(K:Int) (ls:List Val) (a:Option Addr) (c:Nat) (e:Int),v=.tuple #[.int .i64 K,.slice a ls.length c,.int .i64 e]∧RdN w w' a (valsL ls)∧Below w.heap.size w w'∧ls.length≤4096 ∧
  ((Good1 K ls∧ChIs K ls l∧e=0∧∀ K' ls',Good1 K' ls'→ChIs K' ls' l→K'=K∧ls'=ls)∨((∀ K' ls',Good1 K' ls'→¬ ChIs K' ls' l)∧K=0∧ls=[]∧e=80))
theorem ChDV.bad{l:List UInt8}{w w':World}(hb:Below w.heap.size w w')(h:∀ K' ls',Good1 K' ls'→¬ ChIs K' ls' l):ChDV l w w' (.tuple #[.int .i64 0,.slice none 0 0,.int .i64 80]) :=
 ⟨0,[],none,0,80,rfl,RdN.nil _ _,hb,by simp,.inr ⟨h,rfl,rfl,rfl⟩⟩
section
variable {w:World}{a:Option Addr}{c:Nat}{l:List UInt8}
theorem chunk_Decode_ok(hl:Rd w a (l.map byteV))(hc:l.length≤c)(hs:l.length≤9223372036854775807) :
  Calls Tryz.prog f.chunk_Decode #[.slice a l.length c] w (Ret fun v w'=>ChDV l w w' v):=by
 apply R.chunk_Decode_calls
 unfold R.chunk_Decode
 refine IFB_dec (fun h=>ChDV.bad (.refl _ _) fun K ls hg hC=>by have:=(hC.read hg).2.1;omega) (fun hge=>?_)
 rw [wrap_i64 (n:=(l.length:Int)-4) (by omega) (by omega),show ((l.length:Int)-4).toNat=l.length-4 by omega]
 refine⟨⟨by omega,by omega,by omega⟩,?_⟩
 have hsl:=hl.sla 0 (l.length-4) c 1 (by omega)
 rw [Nat.mul_one,Nat.sub_zero,Nat.mul_one,List.drop_zero,← List.map_take] at hsl
 have hlt:(l.take (l.length-4)).length=l.length-4:=by rw [List.length_take];omega
 have hR:=chunk_read_ok (c:=c) hsl (by omega) (by omega)
 rw [hlt] at hR
 rw [Nat.sub_zero,Nat.sub_zero]
 refine hR.mono ?_
 rintro _ w1 ⟨_,rfl,K,os,a1,c1,ok,rfl,R1,B1,hol,hook,hP⟩
 refine⟨_,_,_,_,_,rfl,(chunk_Encode_ok K R1.rd (by omega) hook).mono ?_⟩
 rintro _ w2 ⟨_,rfl,h2⟩
 obtain⟨b2,a2,c2,e2,rfl,R2,B2,q2⟩:=h2.open
 have C2:=below_trans B1 B2
 have key:∀ K' ls',Good1 K' ls'→ChIs K' ls' l→ok=true∧K=K'∧os=ls':=fun K' ls' hg hC=>hP K' ls' (hC.read hg).1
 refine⟨_,_,_,_,rfl,IFB_not (IFB_of (fun hok=>?_) (fun hok=>ChDV.bad C2 fun K' ls' hg hC=>?_))⟩
 case refine_2 =>
  have:=(key K' ls' hg hC).1
  rw [this] at hok;cases hok
 rcases q2 with ⟨hr,hI,rfl⟩ | ⟨hr,rfl,rfl⟩
 ·refine IFB_ne (fun h=>absurd rfl h) (fun _=>(bytes_Equal_ok R2 (hl.grown C2)).mono ?_)
  rintro _ w3 ⟨_,rfl,rfl,rfl⟩
  refine⟨_,rfl,IFB_not (IFB_dec (fun he=>?_) (fun he=>ChDV.bad C2 fun K' ls' hg hC=>?_))⟩
  ·subst he
   refine⟨K,os,a1,c1,0,rfl,R1.grown B2,C2,hol,.inl ⟨⟨hr,hook⟩,hI,rfl,fun K' ls' hg hC=>?_⟩⟩
   obtain⟨_,e1,e2⟩:=key K' ls' hg hC
   exact⟨e1.symm,e2.symm⟩
  ·obtain⟨_,rfl,rfl⟩:=key K' ls' hg hC
   exact he (hI.one hC)
 ·refine IFB_ne (fun _=>ChDV.bad C2 fun K' ls' hg hC=>?_) (fun h=>absurd h (by decide))
  obtain⟨_,rfl,rfl⟩:=key K' ls' hg hC
  rw [hg.right] at hr;cases hr
theorem val_beq(u v:Val):((u.1==v.1) && ((u.2.1==v.2.1) && ((u.2.2==v.2.2) && true)))=decide (u=v):=by
 obtain⟨a,b,s⟩:=u
 obtain⟨c,d,t⟩:=v
 rw [Bool.eq_iff_iff]
 simp [beq_str]
theorem ref08_Same_ok{a2:Option Addr}{c2:Nat}{ls ms:List Val}(hl:Rd w a (valsL ls))(hm:Rd w a2 (valsL ms))(hn:ls.length≤9223372036854775807) :
  Calls Tryz.prog f.ref08_Same #[.slice a ls.length c,.slice a2 ms.length c2] w (Ret fun v w'=>Below w.heap.size w w'∧v=.bool (decide (ls=ms))):=by
 apply R.ref08_Same_calls
 unfold R.ref08_Same
 refine IFB_ne (fun h=>⟨.refl _ _,?_⟩) (fun hlen=>?_)
 ·congr 1
  rw [eq_comm,decide_eq_false_iff_not]
  rintro rfl
  exact h rfl
 have hlen':ls.length=ms.length:=by omega
 refine⟨fun s w1=>∃ i:Nat,i≤ls.length∧s=[.int .i64 (i:Int)]∧Below w.heap.size w w1∧ls.take i=ms.take i,fun s _=>match s with
   | [.int _ i]=>ls.length-i.toNat
   | _=>0,⟨0,by omega,rfl,.refl _ _,rfl⟩,?_⟩
 rintro _ w1 ⟨i,hi,hs,B1,hT⟩
 cases hs
 refine IFB_dec (fun hlt=>?_) (fun hge=>⟨B1,?_⟩)
 ·have h1:i<ls.length:=by omega
  have h2:i<ms.length:=by omega
  refine (SH.start (fun _=>False) w1).drawB fun w2 B2 _=>⟨⟨by omega,hlt⟩,?_⟩
  have C2:=below_trans B1 B2
  obtain⟨p1,rfl,c0,c1,c2⟩:=val_at (hl.grown C2) h1
  obtain⟨p2,rfl,d0,d1,d2⟩:=val_at (hm.grown C2) h2
  refine⟨⟨by omega,by omega⟩,_,by rw [Int.toNat_natCast];exact c0,_,by rw [Int.toNat_natCast];exact c1,_,by rw [Int.toNat_natCast];exact c2,_,by rw [Int.toNat_natCast];exact d0,_,by rw [Int.toNat_natCast];exact d1,_,by rw [Int.toNat_natCast];exact d2,?_⟩
  rw [val_beq]
  refine IFB_not (IFB_dec (fun he=>?_) (fun he=>⟨C2,?_⟩))
  ·rw [wrap_succ (by omega)]
   refine⟨⟨i+1,by omega,rfl,C2,?_⟩,?_⟩
   ·rw [List.take_succ_eq_append_getElem h1,List.take_succ_eq_append_getElem h2,hT,he]
   ·simp only [Int.toNat_natCast]
    omega
  ·congr 1
   rw [eq_comm,decide_eq_false_iff_not]
   rintro rfl
   exact he rfl
 ·congr 1
  rw [eq_comm,decide_eq_true_eq]
  rw [List.take_of_length_le (by omega),List.take_of_length_le (by omega)] at hT
  exact hT
end
end Go.Proofs.YtipgnehlihmdhaaGreatDoor

namespace Go.Proofs.YtipgnehlihmdhaaGreatDoor
set_option maxRecDepth 100000
open Go.Dn Go.Proofs
open Go.RowKit (Below)
set_option linter.unusedVariables false
def LooseR(l:List UInt8)(n:Nat)(w w':World)(v:Value):Prop :=
 ∃(ms:List Int) (a:Option Addr) (c:Nat),v=.slice a ms.length c∧NewI w w' ms a c∧(∀ x∈ms,I64 x)∧ms.length≤100000∧∀ ls,IntIs l n ls→ms=ls
theorem LooseR.bad{l:List UInt8}{n:Nat}{w w':World}(hb:Below w.heap.size w w')(h:∀ ls,¬ IntIs l n ls):LooseR l n w w' (.slice none 0 0) :=
 ⟨[],none,0,rfl,⟨Row.nil _ _ _,by simp [rowB],hb⟩,by simp,by simp,fun ls hls=>absurd hls (h ls)⟩
section
variable {w:World}{a:Option Addr}{c:Nat}{l:List UInt8}
theorem Tr.step2{f n:Nat}{out:List Int}{at_:Nat}(h:Tr l f n out at_)(hf:f≤1)(hn:n≤4096)(ho:out.length<n){ls:List Int}(hls:IntIs l n ls):∃ many at1 nx x,out=ls.take out.length∧Step l f at_ ls out.length many at1 nx x:=by
 obtain⟨k,hk,ho',hr⟩:=h ls hls
 have hlen:=hls.len
 have hkl:out.length=k:=by rw [ho',List.length_take];omega
 rw [← hkl] at ho' hr
 obtain⟨many,at1,nx,x,hs⟩:=step_of hf hls.num (by omega) hr (by omega)
 exact⟨many,at1,nx,x,ho',hs⟩
theorem ref_plainly_ok(hl:Rd w a (l.map byteV))(hs:l.length≤9223372036854775807)(h0:0<l.length){fm:Nat}(hfm:fm=(l.getD 0 0).toNat)(hf:fm≤1){n:Nat}(hn:n≤4096) :
  Calls Tryz.prog f.ref06_plainly #[.slice a l.length c,.int .i64 (n:Int)] w (Ret fun v w'=>LooseR l n w w' v):=by
 apply R.ref06_plainly_calls
 unfold R.ref06_plainly
 have tr0:Tr l fm n [] 1:=by
  intro ls hls
  refine⟨0,by omega,rfl,?_⟩
  have:=hls.enc
  rw [← hfm] at this
  rw [List.drop_zero]
  rcases (by omega:fm=0∨fm=1) with rfl | rfl
  ·rw [this];simp [intsL,restL]
  ·rw [this];simp [intsL,restL]
 refine⟨fun s w1=>∃(at_:Nat) (out:List Int) (oa:Option Addr) (oc:Nat),s=[.slice oa out.length oc,.int .i64 (at_:Int)]∧NewI w w1 out oa oc∧(∀ x∈out,I64 x)∧out.length≤10000∧at_≤9223372036854775807∧Tr l fm n out at_,fun s _=>match s with
   | [.slice _ m _,_]=>n-m
   | _=>0,⟨1,[],none,0,rfl,NewI.nil w,by simp,by simp,by omega,tr0⟩,?_⟩
 rintro oa _ oc _ w1 ⟨at_,out,_,_,hst,h1,hI,hol,hat9,hT⟩
 cases hst
 refine IFB_dec (fun hlt=>?_) (fun hge=>?_)
 case refine_2 =>
  refine⟨out,oa,oc,rfl,h1,hI,by omega,fun ls hls=>?_⟩
  obtain⟨k,hk,ho,hr⟩:=hT ls hls
  have:=hls.len
  have hkl:out.length=k:=by rw [ho,List.length_take];omega
  rw [ho,List.take_of_length_le (by omega)]
 have holn:out.length<n:=by omega
 obtain⟨p,rfl,hcell⟩:=head_at (hl.grown h1.bel) h0
 have hb0:=(l.getD 0 0).toNat_lt
 have stay:(∀ ls,¬ IntIs l n ls)→LooseR l n w w1 (.slice oa out.length oc):=fun h=>⟨out,oa,oc,rfl,h1,hI,by omega,fun ls hls=>absurd hls (h ls)⟩
 refine⟨fun s w3=>w3=w1∧∃(at1 many:Nat) (e:Int),s=[.int .i64 (at1:Int),.int .u64 (many:Int),.int .i64 e]∧at1≤9223372036854775807∧((e≠0∧fm=1∧takeN l (at_:Int)=none)∨(e=0∧at_≤at1∧many<18446744073709551616∧((fm=1∧takeN l (at_:Int)=some (many,at1))∨(fm=0∧many=1∧at1=at_)))),?_,?_⟩
 ·refine⟨⟨by omega,by omega⟩,_,hcell,IFB_eq (fun h1'=>?_) (fun hne=>?_)⟩
  ·refine (ref_TakeNumber_ok (hl.grown h1.bel) hs (at_:Int) (by omega)).mono ?_
   rintro _ w2 ⟨_,rfl,rfl,rfl⟩
   cases hx:takeN l (at_:Int) with
   | none=>exact⟨_,_,_,rfl,rfl,0,0,20,rfl,by omega,.inl ⟨by decide,by omega,rfl⟩⟩
   | some x =>
    have hb:=takeN_bounds (n:=x.1) (k:=x.2) hx
    exact⟨_,_,_,rfl,rfl,x.2,x.1,0,rfl,by omega,.inr ⟨rfl,by omega,by omega,.inl ⟨by omega,rfl⟩⟩⟩
  ·exact⟨rfl,at_,1,0,rfl,by omega,.inr ⟨rfl,by omega,by omega,.inr ⟨by omega,rfl,rfl⟩⟩⟩
 rintro _ _ e w3 ⟨rfl,at1,many,_,hst,hat1,hcase⟩
 cases hst
 refine (ref_TakeSigned_ok (hl.grown h1.bel) hs (at1:Int) (by omega)).mono ?_
 rintro _ w4 ⟨_,rfl,rfl,rfl⟩
 have key:∀ ls,IntIs l n ls→∃ nx x,out=ls.take out.length∧e=0∧takeN l (at1:Int)=some (zigN x,nx)∧0<many∧out.length+many≤ls.length∧ls.take (out.length+many)=ls.take out.length++List.replicate many x∧l.drop nx=restL fm (ls.drop (out.length+many)):=by
  intro ls hls
  obtain⟨m,a1,nx,x,ho,hs⟩:=hT.step2 hf hn holn hls
  rcases hcase with ⟨_,hf1,hno⟩ | ⟨he,_,_,⟨hf1,hso⟩ | ⟨hf0,hm1,ha1⟩⟩
  ·rw [hs.num hf1] at hno;cases hno
  ·have:=hs.num hf1
   rw [hso] at this
   obtain⟨rfl,rfl⟩:=Prod.mk.injEq .. ▸ Option.some.inj this
   exact⟨nx,x,ho,he,hs.sgn,hs.pos,hs.le,hs.take,hs.rest⟩
  ·obtain⟨q1,q2⟩:=hs.one hf0
   subst q1 q2 hm1 ha1
   exact⟨nx,x,ho,he,hs.sgn,hs.pos,hs.le,hs.take,hs.rest⟩
 cases hy:takeN l (at1:Int) with
 | none =>
  have hno:∀ ls,¬ IntIs l n ls:=fun ls hls=>by
   obtain⟨nx,x,_,_,h,_⟩:=key ls hls
   rw [hy] at h;cases h
  exact⟨_,_,_,rfl,IFB_ne (fun _=>stay hno) (fun _=>IFB_ne (fun _=>stay hno) (fun h=>absurd h (by decide)))⟩
 | some y =>
 rw [sgn_some]
 have hyb:=takeN_bounds (n:=y.1) (k:=y.2) hy
 have hyI:=unzig_range hyb.1
 rw [wrap_u64_id (n:=(n:Int)) (by omega) (by omega)]
 refine⟨_,_,_,rfl,IFB_ne (fun hene=>stay fun ls hls=>?_) (fun he0=>IFB_ne (fun h=>absurd rfl h) (fun _=>IFB_dec (fun hbig=>stay fun ls hls=>?_) (fun hsm=>?_)))⟩
 ·obtain⟨_,_,_,h,_⟩:=key ls hls
  exact hene h
 ·obtain⟨_,_,_,_,_,_,h,_⟩:=key ls hls
  have:=hls.len
  omega
 have hmany:many≤n:=by omega
 rw [wrap_i64 (n:=(many:Int)) (by omega) (by omega)]
 refine⟨fun s w5=>∃(j:Nat) (o2:List Int) (oa:Option Addr) (oc:Nat),s=[.slice oa o2.length oc,.int .i64 (j:Int)]∧j≤many∧o2=out++List.replicate j (unzig y.1)∧NewI w w5 o2 oa oc,fun s _=>match s with
   | [_,.int _ i]=>many-i.toNat
   | _=>0,⟨0,out,oa,oc,rfl,by omega,by simp,h1⟩,?_⟩
 rintro oa2 _ oc2 _ w5 ⟨j,o2,_,_,hst,hj,ho2,h5⟩
 cases hst
 have ho2l:o2.length=out.length+j:=by rw [ho2];simp
 have hI2:∀ x∈o2,I64 x:=by
  intro x hx
  rw [ho2] at hx
  rcases List.mem_append.1 hx with h | h
  ·exact hI x h
  ·rw [(List.mem_replicate.1 h).2];exact hyI
 refine IFB_dec (fun hlt2=>?_) (fun hge2=>?_)
 ·refine (SH.start (fun _=>False) w5).newB fun b6 w6 hb6 B6 S6=>append_i64 (h5.grown B6) (by omega) (S6.get 0 rfl) fun a7 c7 w7 h7=>⟨_,_,_,rfl,?_⟩
  rw [wrap_succ (by omega)]
  refine⟨⟨j+1,_,a7,c7,rfl,by omega,?_,h7⟩,?_⟩
  ·rw [ho2,List.replicate_succ',List.append_assoc]
  ·simp only [Int.toNat_natCast]
   omega
 ·have hjm:j=many:=by omega
  subst hjm
  refine IFB_eq (fun hm0=>?_) (fun hm0=>?_)
  ·refine⟨o2,oa2,oc2,rfl,h5,hI2,by omega,fun ls hls=>?_⟩
   obtain⟨_,_,_,_,_,h,_⟩:=key ls hls
   omega
  ·refine⟨⟨y.2,o2,oa2,oc2,rfl,h5,hI2,by omega,by omega,?_⟩,?_⟩
   ·intro ls hls
    obtain⟨nx,x,g1,_,g3,g4,g5,g7,g8⟩:=key ls hls
    rw [hy] at g3
    have g3':=Option.some.inj g3
    have ex:unzig y.1=x:=by rw [g3'];exact unzig_zig
    have enx:y.2=nx:=by rw [g3']
    refine⟨out.length+j,g5,?_,by rw [enx];exact g8⟩
    rw [ho2,g7,← g1,ex]
   ·show n-o2.length<n-out.length
    omega
end
theorem unzig_odd{s:Nat}(hs:s<18446744073709551616)(h:s % 2=1):IntKind.i64.wrap (IntKind.i64.wrap (0-IntKind.i64.wrap (IntKind.u64.wrap (Int.tdiv (s:Int) 2)))-1)=unzig s:=by
 have e2:IntKind.u64.wrap (Int.tdiv (s:Int) 2)=((s / 2:Nat):Int):=by rw [Int.tdiv_eq_ediv_of_nonneg (by omega),wrap_u64_id (by omega) (by omega)];omega
 unfold unzig
 rw [if_pos h,e2,wrap_i64 (n:=((s / 2:Nat):Int)) (by omega) (by omega),wrap_i64 (n:=0-((s / 2:Nat):Int)) (by omega) (by omega),wrap_i64 (by omega) (by omega)]
 omega
theorem unzig_even{s:Nat}(hs:s<18446744073709551616)(h:¬ s % 2=1):IntKind.i64.wrap (IntKind.u64.wrap (Int.tdiv (s:Int) 2))=unzig s:=by
 have e2:IntKind.u64.wrap (Int.tdiv (s:Int) 2)=((s / 2:Nat):Int):=by rw [Int.tdiv_eq_ediv_of_nonneg (by omega),wrap_u64_id (by omega) (by omega)];omega
 unfold unzig
 rw [if_neg h,e2,wrap_i64 (by omega) (by omega)]
section
variable {w:World}{a:Option Addr}{c:Nat}{l:List UInt8}
theorem ref_widely_ok(hl:Rd w a (l.map byteV))(hc:l.length≤c)(hs:l.length≤9223372036854775807)(h0:0<l.length){fm:Nat}(hfm:fm=(l.getD 0 0).toNat)(hf:fm=2∨fm=3){n:Nat}(hn:n≤4096) :
  Calls Tryz.prog f.ref06_widely #[.slice a l.length c,.int .i64 (n:Int)] w (Ret fun v w'=>LooseR l n w w' v):=by
 apply R.ref06_widely_calls
 unfold R.ref06_widely
 refine (ref_TakeSigned_ok hl hs 1 (by decide)).mono ?_
 rintro _ w ⟨_,rfl,rfl,rfl⟩
 have zero:n=0→LooseR l n w w (.slice none 0 0):=fun h=>⟨[],none,0,rfl,NewI.nil w,by simp,by simp,fun ls hls=>(List.eq_nil_of_length_eq_zero (by rw [hls.len,h])).symm⟩
 cases hy:takeN l 1 with
 | none =>
  refine⟨_,_,_,rfl,IFB_eq (fun h=>zero (by omega)) (fun hnz=>IFB_ne (fun _=>LooseR.bad (.refl _ _) fun ls hls=>?_) (fun h=>absurd h (by decide)))⟩
  obtain⟨k1,k2,k3,_⟩:=tight_key hls hfm hf (by omega)
  have:=(packed_reads k3 k1 k2).1
  rw [hy] at this;cases this
 | some y =>
 rw [sgn_some]
 have hyb:=takeN_bounds (n:=y.1) (k:=y.2) hy
 have hyI:I64 (unzig y.1):=unzig_range hyb.1
 refine⟨_,_,_,rfl,IFB_eq (fun h=>zero (by omega)) (fun hnz=>IFB_ne (fun h=>absurd rfl h) (fun _=>IFB_dec (fun hbig=>LooseR.bad (.refl _ _) fun ls hls=>?_) (fun hlt=>?_)))⟩
 ·obtain⟨k1,k2,k3,_⟩:=tight_key hls hfm hf (by omega)
  obtain⟨q1,q2,_⟩:=packed_reads k3 k1 k2
  rw [hy] at q1
  have:=Option.some.inj q1
  have:y.2=1+(sigL (firstI fm ls)).length:=by rw [this]
  omega
 have hn0:0<n:=by omega
 have hj:y.2<l.length:=by omega
 have hg:l.getD y.2 0=l[y.2]:=getD_get hj
 have hb0:=(l.getD 0 0).toNat_lt
 have hbt:=(l[y.2]).toNat_lt
 have key0:∀(m:Nat),m=(if fm=2 then n-1 else n)→m≤4096→∀ ls,IntIs l n ls→unArg (m:Int) (l[y.2].toNat:Int)∧unOk (l.drop (y.2+1)) m l[y.2].toNat∧unpackL (l.drop (y.2+1)) m l[y.2].toNat=packI fm ls∧unzig y.1=firstI fm ls:=by
  intro m hm hmle ls hls
  obtain⟨k1,k2,k3,k4⟩:=tight_key hls hfm hf hn0
  obtain⟨q1,q2,q3,q4⟩:=packed_reads k3 k1 k2
  rw [hy] at q1
  have hyy:=Option.some.inj q1
  have hy2:y.2=1+(sigL (firstI fm ls)).length:=by rw [hyy]
  have hy1:y.1=zigN (firstI fm ls):=by rw [hyy]
  rw [← hy2,hg] at q3
  rw [← hy2] at q4
  rw [← hm] at k4
  obtain⟨u1,u2,u3⟩:=unOk_pack k4 hmle k2
  rw [q3,q4]
  exact⟨u1,u2,u3,by rw [hy1];exact unzig_zig⟩
 obtain⟨p,rfl,hcell⟩:=head_at hl h0
 refine⟨⟨by omega,by omega⟩,_,hcell,IFB_eq (fun h3=>?_) (fun h3=>?_)⟩
 ·have h3':fm=3:=by omega
  have h2':¬ fm=2:=by omega
  refine (SH.start (fun _=>False) w).drawB fun w2 B2 _=>?_
  rw [wrap_i64 (n:=(y.2:Int)+1) (by omega) (by omega),show ((y.2:Int)+1).toNat=y.2+1 by omega]
  refine⟨⟨by omega,by omega,by omega⟩,⟨by omega,by omega⟩,?_⟩
  have hdr:=drop_rd (q:=y.2+1) (hl.grown B2) hc
  obtain⟨p',hp',hcellj⟩:=byte_at (hl.grown B2) hj
  cases hp'
  refine⟨_,by rw [Int.toNat_natCast];exact hcellj,?_⟩
  rw [wrap_i64 (n:=(l[y.2].toNat:Int)) (by omega) (by omega),← List.length_drop (i:=y.2+1) (l:=l)]
  refine (ref_Unpack_ok hdr (n:Int) (l[y.2].toNat:Int) (by rw [List.length_drop];omega)).mono ?_
  rintro _ w3 ⟨_,rfl,xs,xa,xc,e,rfl,hRx,B3,hxn,hcase⟩
  rw [Int.toNat_natCast,Int.toNat_natCast] at hcase
  have C3:=below_trans B2 B3
  have key:=key0 n (by rw [if_neg h2']) hn
  refine⟨_,_,_,_,rfl,?_⟩
  rcases hcase with ⟨ha,hu,hxs,rfl⟩ | ⟨hno,rfl,he⟩
  case inr =>
   refine IFB_ne (fun _=>LooseR.bad C3 fun ls hls=>?_) (fun h=>by rw [he] at h;split at h <;> cases h)
   obtain⟨u1,u2,_⟩:=key ls hls
   exact hno ⟨u1,u2⟩
  refine IFB_ne (fun h=>absurd rfl h) (fun _=>?_)
  have hxl:xs.length=n:=by rw [hxs,unpackL_len]
  refine⟨fun s w4=>∃(i:Nat) (out:List Int) (oa:Option Addr) (oc:Nat),s=[.slice oa out.length oc,.int .i64 (i:Int)]∧i≤n∧out.length=i∧(∀ x∈out,I64 x)∧NewI w3 w4 out oa oc∧(∀ ls,IntIs l n ls→out=ls.take i),fun s _=>match s with
    | [_,.int _ i]=>n-i.toNat
    | _=>0,⟨0,[],none,0,rfl,by omega,rfl,by simp,NewI.nil w3,fun _ _=>rfl⟩,?_⟩
  rintro oa _ oc _ w4 ⟨i,out,_,_,hst,hi,hol,hoI,h4,hT⟩
  cases hst
  refine IFB_dec (fun hlt2=>⟨⟨by omega,by omega⟩,?_⟩) (fun hge=>?_)
  ·have hix:i<xs.length:=by omega
   obtain⟨p2,rfl,hcx⟩:=num_at (hRx.grown h4.bel) hix
   refine⟨_,by rw [Int.toNat_natCast];exact hcx,(SH.start (fun _=>False) w4).newB fun b5 w5 hb5 B5 S5=>append_i64 (h4.grown B5) (by omega) (S5.get 0 rfl) fun a6 c6 w6 h6=>⟨_,_,_,rfl,?_⟩⟩
   rw [wrap_succ (by omega)]
   refine⟨⟨i+1,_,a6,c6,rfl,by omega,by simp [hol],?_,h6,fun ls hls=>?_⟩,?_⟩
   ·intro x hx
    rcases List.mem_append.1 hx with h | h
    ·exact hoI x h
    ·rw [List.mem_singleton.1 h];exact wrap_I64 _
   ·obtain⟨_,_,u3,u4⟩:=key ls hls
    have hxs2:xs=frameN ls:=by rw [hxs,u3];simp [packI,h2']
    have hi1:i<ls.length:=by have:=hls.len;omega
    have hmem:=List.getElem_mem hi1
    have hfm':firstI fm ls=minL ls:=by simp [firstI,h2']
    have hxi:=get_of hxs2 (frameN_get hi1) hix
    have hval:IntKind.i64.wrap (IntKind.u64.wrap (IntKind.u64.wrap (minL ls)+((ls[i]-minL ls).toNat:Int)))=ls[i]:=frame_back (hls.num _ hmem) (minTo_I64 hls.num (by omega) _) (minL_le hmem)
    rw [hT ls hls,List.take_succ_eq_append_getElem hi1,u4,hfm',hxi,hval]
   ·simp only [Int.toNat_natCast]
    omega
  ·refine⟨out,oa,oc,rfl,⟨h4.row,fun k hk=>Nat.le_trans C3.size (h4.new k hk),below_trans C3 h4.bel⟩,hoI,by omega,fun ls hls=>?_⟩
   rw [hT ls hls,List.take_of_length_le (by have:=hls.len;omega)]
 ·have h2':fm=2:=by omega
  refine (SH.start (fun _=>False) w).drawB fun w2 B2 _=>?_
  rw [wrap_i64 (n:=(y.2:Int)+1) (by omega) (by omega),show ((y.2:Int)+1).toNat=y.2+1 by omega]
  refine⟨⟨by omega,by omega,by omega⟩,⟨by omega,by omega⟩,?_⟩
  have hdr:=drop_rd (q:=y.2+1) (hl.grown B2) hc
  obtain⟨p',hp',hcellj⟩:=byte_at (hl.grown B2) hj
  cases hp'
  refine⟨_,by rw [Int.toNat_natCast];exact hcellj,?_⟩
  rw [wrap_i64 (n:=(l[y.2].toNat:Int)) (by omega) (by omega),← List.length_drop (i:=y.2+1) (l:=l),wrap_i64 (n:=(n:Int)-1) (by omega) (by omega)]
  obtain⟨m,hm⟩:∃ m,m=n-1:=⟨_,rfl⟩
  have em:(n:Int)-1=(m:Int):=by omega
  rw [em]
  refine (ref_Unpack_ok hdr (m:Int) (l[y.2].toNat:Int) (by rw [List.length_drop];omega)).mono ?_
  rintro _ w3 ⟨_,rfl,xs,xa,xc,e,rfl,hRx,B3,hxn,hcase⟩
  rw [Int.toNat_natCast,Int.toNat_natCast] at hcase
  have C3:=below_trans B2 B3
  have key:=key0 m (by rw [if_pos h2'];exact hm) (by omega)
  refine⟨_,_,_,_,rfl,?_⟩
  rcases hcase with ⟨ha,hu,hxs,rfl⟩ | ⟨hno,rfl,he⟩
  case inr =>
   refine IFB_ne (fun _=>LooseR.bad C3 fun ls hls=>?_) (fun h=>by rw [he] at h;split at h <;> cases h)
   obtain⟨u1,u2,_⟩:=key ls hls
   exact hno ⟨u1,u2⟩
  refine IFB_ne (fun h=>absurd rfl h) (fun _=>?_)
  have hxl:xs.length=m:=by rw [hxs,unpackL_len]
  have hx64:∀ x∈xs,x<18446744073709551616:=fun x hx=>by
   rw [hxs] at hx
   have:=unpackL_lt _ _ _ x hx
   have h64:l[y.2].toNat≤64:=by have:=ha.2.2.2;omega
   exact Nat.lt_of_lt_of_le this (Nat.pow_le_pow_right (n:=2) (by omega) h64)
  refine (SH.start (fun _=>False) w3).newB fun b9 w9 hb9 B9 S9=>?_
  have h9:NewI w3 w9 [unzig y.1] (some ⟨b9,0,none⟩) 1:=⟨⟨rfl,.inr ⟨b9,_,rfl,S9.get 0 rfl,by simp,by omega,rfl,by simp [i64V]⟩⟩,fun k hk=>by cases hk;exact hb9,B9⟩
  refine⟨fun s w4=>∃(i:Nat) (fi:Int) (out:List Int) (oa:Option Addr) (oc:Nat),s=[.int .i64 fi,.slice oa out.length oc,.int .i64 (i:Int)]∧i≤m∧out.length=1+i∧I64 fi∧(∀ x∈out,I64 x)∧NewI w3 w4 out oa oc∧(∀ ls,IntIs l n ls→out=ls.take (i+1)∧fi=ls.getD i 0),fun s _=>match s with
    | [_,_,.int _ i]=>m-i.toNat
    | _=>0,⟨0,unzig y.1,[unzig y.1],_,_,rfl,by omega,rfl,hyI,fun x hx=>(by rw [List.mem_singleton.1 hx];exact hyI),h9,fun ls hls=>?_⟩,?_⟩
  ·obtain⟨_,_,_,u4⟩:=key ls hls
   have hp:0<ls.length:=by have:=hls.len;omega
   rw [u4]
   unfold firstI
   rw [if_pos h2']
   cases ls with
   | nil=>simp at hp
   | cons x r=>exact⟨rfl,rfl⟩
  rintro fi oa _ oc _ w4 ⟨i,_,out,_,_,hst,hi,hol,hfi,hoI,h4,hT⟩
  cases hst
  refine IFB_dec (fun hlt2=>⟨⟨by omega,by omega⟩,?_⟩) (fun hge=>?_)
  ·have hix:i<xs.length:=by omega
   have hu64:=hx64 _ (List.getElem_mem hix)
   obtain⟨p2,rfl,hcx⟩:=num_at (hRx.grown h4.bel) hix
   refine⟨_,by rw [Int.toNat_natCast];exact hcx,⟨by omega,by omega⟩,_,by rw [Int.toNat_natCast];exact hcx,?_⟩
   have em2:Int.tmod (xs[i]:Int) 2=((xs[i] % 2:Nat):Int):=by rw [Int.tmod_eq_emod_of_nonneg (by omega)];omega
   rw [em2,wrap_succ (by omega)]
   have mes:m-((i+1:Nat):Int).toNat<m-((i:Nat):Int).toNat:=by
    simp only [Int.toNat_natCast]
    omega
   have fin:∀ {w6:World} {a6:Option Addr} {c6:Nat},NewI w3 w6 (out++[IntKind.i64.wrap (fi+unzig xs[i])]) a6 c6 →
     (∃(i_1:Nat) (fi_1:Int) (out_1:List Int) (oa:Option Addr) (oc:Nat),[Value.int .i64 (IntKind.i64.wrap (fi+unzig xs[i])),.slice a6 (out++[IntKind.i64.wrap (fi+unzig xs[i])]).length c6,.int .i64 ((i+1:Nat):Int)]=[.int .i64 fi_1,.slice oa out_1.length oc,.int .i64 (i_1:Int)]∧i_1≤m∧out_1.length=1+i_1∧I64 fi_1∧(∀ x∈out_1,I64 x)∧NewI w3 w6 out_1 oa oc∧(∀ ls,IntIs l n ls→out_1=ls.take (i_1+1)∧fi_1=ls.getD i_1 0))∧m-((i+1:Nat):Int).toNat<m-((i:Nat):Int).toNat:=by
    intro w6 a6 c6 h6
    refine⟨⟨i+1,_,_,a6,c6,rfl,by omega,by simp [hol];omega,wrap_I64 _,?_,h6,fun ls hls=>?_⟩,mes⟩
    ·intro x hx
     rcases List.mem_append.1 hx with h | h
     ·exact hoI x h
     ·rw [List.mem_singleton.1 h];exact wrap_I64 _
    ·obtain⟨_,_,u3,_⟩:=key ls hls
     obtain⟨t1,t2⟩:=hT ls hls
     have hxs2:xs=stepsN ls:=by rw [hxs,u3];simp [packI,h2']
     have hi1:i+1<ls.length:=by have:=hls.len;omega
     have hxi:=get_of hxs2 (stepsN_get hi1) hix
     have hval:IntKind.i64.wrap (fi+unzig xs[i])=ls[i+1]:=by
      rw [hxi,unzig_zig,t2,getD_int (by omega)]
      exact wrap_back (hls.num _ (List.getElem_mem _)) (hls.num _ (List.getElem_mem _))
     rw [hval,t1,List.take_succ_eq_append_getElem hi1,getD_int hi1]
     exact⟨rfl,rfl⟩
   refine IFB_eq (fun hodd=>?_) (fun hodd=>?_)
   ·rw [unzig_odd hu64 (by omega)]
    exact (SH.start (fun _=>False) w4).newB fun b5 w5 hb5 B5 S5=>append_i64 (h4.grown B5) (by omega) (S5.get 0 rfl) fun a6 c6 w6 h6=>⟨_,_,_,rfl,fin h6⟩
   ·rw [unzig_even hu64 (by omega)]
    exact (SH.start (fun _=>False) w4).newB fun b5 w5 hb5 B5 S5=>append_i64 (h4.grown B5) (by omega) (S5.get 0 rfl) fun a6 c6 w6 h6=>⟨_,_,_,rfl,fin h6⟩
  ·refine⟨out,oa,oc,rfl,⟨h4.row,fun k hk=>Nat.le_trans C3.size (h4.new k hk),below_trans C3 h4.bel⟩,hoI,by omega,fun ls hls=>?_⟩
   rw [(hT ls hls).1,List.take_of_length_le (by have:=hls.len;omega)]
theorem ref_ints_Decode_ok(hl:Rd w a (l.map byteV))(hc:l.length≤c)(hs:l.length≤9223372036854775807)(n:Int) :
  Calls Tryz.prog f.ref06_Decode #[.slice a l.length c,.int .i64 n] w (Ret fun v w'=>IDecV l n w w' v):=by
 apply R.ref06_Decode_calls
 unfold R.ref06_Decode
 refine IFB_dec (fun h=>IDecV.arg (.refl _ _) (by unfold decArg;omega)) (fun h1=>IFB_dec (fun h=>IDecV.arg (.refl _ _) (by unfold decArg;omega)) (fun h2=>?_))
 have harg:decArg n:=⟨by omega,by omega⟩
 obtain⟨n,rfl⟩:∃ m:Nat,n=(m:Int):=⟨n.toNat,by omega⟩
 have hn:n≤4096:=by omega
 refine IFB_eq (fun h=>IDecV.bad (.refl _ _) harg fun ms hm=>by have:=hm.2;omega) (fun hne=>?_)
 have h0:0<l.length:=by omega
 obtain⟨p,rfl,hcell⟩:=head_at hl h0
 have hb0:=(l.getD 0 0).toNat_lt
 refine⟨⟨by omega,by omega⟩,_,hcell,IFB_dec (fun h=>IDecV.bad (.refl _ _) harg fun ms hm=>by have:=hm.1.form;omega) (fun hle=>?_)⟩
 obtain⟨fm,hfm⟩:∃ fm,fm=(l.getD 0 0).toNat:=⟨_,rfl⟩
 rw [← hfm] at hcell hle
 refine⟨fun s w3=>∃(ms:List Int) (a':Option Addr) (c':Nat),s=[.slice a' ms.length c']∧NewI w w3 ms a' c'∧(∀ x∈ms,I64 x)∧ms.length≤100000∧∀ ls,IntIs l n ls→ms=ls,?_,?_⟩
 ·refine⟨⟨by omega,by omega⟩,_,hcell,IFB_dec (fun h=>?_) (fun h=>?_)⟩
  ·refine (ref_plainly_ok hl hs h0 hfm (by omega) hn).mono ?_
   rintro _ w1 ⟨_,rfl,ms,a1,c1,rfl,q⟩
   exact⟨_,_,_,rfl,ms,a1,c1,rfl,q⟩
  ·refine (ref_widely_ok hl hc hs h0 hfm (by omega) hn).mono ?_
   rintro _ w1 ⟨_,rfl,ms,a1,c1,rfl,q⟩
   exact⟨_,_,_,rfl,ms,a1,c1,rfl,q⟩
 rintro a3 _ c3 w3 ⟨ms,_,_,hst,h3,hI3,hl3,hall⟩
 cases hst
 refine IFB_ne (fun hlen=>IDecV.bad h3.bel harg fun ls hls=>?_) (fun hlen=>?_)
 ·rw [Int.toNat_natCast] at hls
  have:=hall ls hls.1
  have:=hls.1.len
  subst_vars
  omega
 have hl4:ms.length≤4096:=by omega
 obtain⟨p',hp',hcell3⟩:=head_at (hl.grown h3.bel) h0
 cases hp'
 rw [← hfm] at hcell3
 refine⟨⟨by omega,by omega⟩,_,hcell3,?_⟩
 rw [wrap_i64 (by omega) (by omega)]
 refine (ref_ints_Encode_ok (fm:Int) h3.row.rd hI3).mono ?_
 rintro _ w4 ⟨_,rfl,hE⟩
 obtain⟨a4,c4,rfl,h4⟩:=IntsV.good (by omega) hl4 hE
 have C4:=below_trans h3.bel h4.bel
 refine⟨_,_,_,_,rfl,string_of_bytes tbytes (l:=intsL fm ms) rfl h4.rd ⟨_,rfl,string_of_bytes tbytes rfl (hl.grown C4) ⟨_,rfl,?_⟩⟩⟩
 rw [bytesEq_iff]
 refine IFB_not (IFB_dec (fun he=>?_) (fun he=>IDecV.bad C4 harg fun ls hls=>he ?_))
 ·have he':intsL fm ms=l:=by have:=congrArg bl he;rwa [bl_sof,bl_sof] at this
  refine⟨ms,a3,c3,0,rfl,h3.row.rd.grown h4.bel,C4,hl4,hI3,.inr (.inl ⟨harg,?_,h0,?_,rfl⟩)⟩
  ·rw [Int.toNat_natCast]
   exact⟨by omega,hI3,by omega,by rw [← hfm];exact he'.symm⟩
  ·intro ls hls
   rw [Int.toNat_natCast] at hls
   exact (hall ls hls).symm
 ·rw [Int.toNat_natCast] at hls
  have h1:=hall ls hls.1
  have h2:=hls.1.enc
  rw [← hfm] at h2
  rw [h1,← h2]
end
def zerosN(bits:List Nat):Nat:=bits.countP fun b=>decide (b=0)
theorem zeros_take{bits:List Nat}{i:Nat}(hi:i<bits.length):zerosN (bits.take (i+1))=zerosN (bits.take i)+if bits[i]=0 then 1 else 0:=by
 unfold zerosN
 rw [List.take_succ_eq_append_getElem hi,List.countP_append]
 by_cases h:bits[i]=0 <;> simp [h]
theorem zeros_le{bits:List Nat}(i:Nat):zerosN (bits.take i)≤zerosN bits:=by
 unfold zerosN
 exact (List.take_sublist i bits).countP_le
theorem zeros_bits(ls:List Val):zerosN (bitsN ls)=(fullL ls).length:=by
 induction ls with
 | nil=>rfl
 | cons v ls ih =>
  unfold zerosN bitsN fullL at ih ⊢
  by_cases h:v.1=0
  ·simp [h] at ih ⊢;exact ih
  ·simp [h] at ih ⊢;omega
def FillV(kind:Int)(bits:List Nat)(l:List UInt8)(w w':World)(v:Value):Prop :=
 ∃(vs:List Val) (a:Option Addr) (c:Nat) (ok:Bool),v=.tuple #[.slice a vs.length c,.bool ok]∧RdN w w' a (valsL vs)∧Below w.heap.size w w'∧vs.length≤4096∧(∀ v∈vs,ValOk v) ∧
  ∀ ls,Good1 kind ls→bits=bitsN ls→(nullsN ls<ls.length→OthIs kind ls l)→(¬ nullsN ls<ls.length→l=[])→ok=true∧vs=ls
theorem FillV.bad{kind:Int}{bits:List Nat}{l:List UInt8}{w w':World}(hb:Below w.heap.size w w')(h:∀ ls,Good1 kind ls→bits=bitsN ls→(nullsN ls<ls.length→OthIs kind ls l)→(¬ nullsN ls<ls.length→l=[])→False):FillV kind bits l w w' (.tuple #[.slice none 0 0,.bool false]) :=
 ⟨[],none,0,false,rfl,RdN.nil _ _,hb,by simp,by simp,fun ls h1 h2 h3 h4=>(h ls h1 h2 h3 h4).elim⟩
section
variable {w:World}{ab a:Option Addr}{cb c:Nat}{bits:List Nat}{l:List UInt8}
theorem ref08_filled_ok(kind:Int)(hb:Rd w ab (bits.map u64V))(hl:Rd w a (l.map byteV))(hc:l.length≤c)(hs:l.length≤9223372036854775807)(hbl:bits.length≤1024){many:Nat}(hmany:many=zerosN bits) :
  Calls Tryz.prog f.ref08_filled #[.int .i64 kind,.slice ab bits.length cb,.int .i64 (many:Int),.slice a l.length c] w (Ret fun v w'=>FillV kind bits l w w' v):=by
 apply R.ref08_filled_calls
 unfold R.ref08_filled
 have hmle:many≤bits.length:=by rw [hmany];exact List.countP_le_length
 have cnt:∀ ls,bits=bitsN ls→(fullL ls).length=many∧ls.length=bits.length∧(nullsN ls<ls.length↔0<many):=by
  rintro ls rfl
  have h1:=zeros_bits ls
  have h2:=nulls_full' ls
  refine⟨by rw [hmany,h1],by simp [bitsN],by omega⟩
 refine⟨fun s w4=>∃(ns:List Int) (na:Option Addr) (nc:Nat) (ss:List ByteArray) (sa:Option Addr) (sc:Nat) (e:Int),s=[.slice na ns.length nc,.slice sa ss.length sc,.int .i64 e]∧Rd w4 na (ns.map i64V)∧Rd w4 sa (ss.map Value.string)∧Below w.heap.size w w4∧(∀ x∈ns,I64 x) ∧
   (e=0→(kind=3→ss.length=many)∧(kind≠3→ns.length=many)) ∧
   (∀ ls,Good1 kind ls→bits=bitsN ls→(nullsN ls<ls.length→OthIs kind ls l)→(¬ nullsN ls<ls.length→l=[])→e=0∧(kind=3→ss=textsL ls)∧(kind≠3→ns=numsL ls)),?_,?_⟩
 ·refine⟨fun s w1=>∃ t:Bool,s=[.bool t]∧w1=w∧(t=true↔0<many∧kind=3),?_,?_⟩
  ·refine IFB_dec (fun h=>⟨_,rfl,rfl,by simp;omega⟩) (fun h=>⟨_,rfl,rfl,by simp;omega⟩)
  rintro _ w1 ⟨t,hst,rfl,ht⟩
  cases hst
  refine IFB_of (fun h=>?_) (fun h=>?_)
  ·obtain⟨hm0,h3⟩:=ht.1 h
   refine (ref_Decode_ok hl hc hs (many:Int)).mono ?_
   rintro _ w2 ⟨_,rfl,ss,a2,c2,e2,rfl,R2,B2,l2,q2⟩
   have harg:decArg (many:Int):=⟨by omega,by omega⟩
   rw [Int.toNat_natCast] at q2
   refine⟨_,_,_,_,rfl,[],none,0,ss,a2,c2,e2,rfl,Rd.nil _ _,R2,B2,by simp,fun he=>⟨fun _=>?_,fun h=>absurd h3 h⟩,fun ls hg hbits ho hz=>?_⟩
   ·rcases q2 with ⟨k1,_⟩ | ⟨_,k2,_,_⟩ | ⟨_,_,_,k4⟩
    ·exact absurd harg k1
    ·exact k2.len
    ·rw [he] at k4;cases k4
   ·obtain⟨g1,g2,g3⟩:=cnt ls hbits
    subst h3
    obtain⟨d1,d2⟩:=oth_texts hg (ho (g3.2 hm0))
    have hft:=full_texts hg rfl
    have htl:(textsL ls).length=many:=by rw [← g1,hft,List.length_map]
    rw [htl] at d1
    rcases q2 with ⟨k1,_⟩ | ⟨_,k2,k3,_⟩ | ⟨_,k2,_⟩
    ·exact absurd harg k1
    ·exact⟨k3,fun _=>k2.one d1,fun h=>absurd rfl h⟩
    ·exact absurd ⟨d1,d2⟩ (k2 _)
  ·have hno:¬ (0<many∧kind=3):=fun hh=>by rw [ht.2 hh] at h;cases h
   refine IFB_dec (fun hm=>?_) (fun hm=>IFB_dec (fun hlp=>FillV.bad (.refl _ _) fun ls hg hbits ho hz=>?_) (fun hlp=>?_))
   ·have h3:kind≠3:=fun hk=>hno ⟨by omega,hk⟩
    refine (ref_ints_Decode_ok hl hc hs (many:Int)).mono ?_
    rintro _ w2 ⟨_,rfl,ns,a2,c2,e2,rfl,R2,B2,l2,hI,q2⟩
    have harg:decArg (many:Int):=⟨by omega,by omega⟩
    rw [Int.toNat_natCast] at q2
    refine⟨_,_,_,_,rfl,ns,a2,c2,[],none,0,e2,rfl,R2,Rd.nil _ _,B2,hI,fun he=>⟨fun h=>absurd h h3,fun _=>?_⟩,fun ls hg hbits ho hz=>?_⟩
    ·rcases q2 with ⟨k1,_⟩ | ⟨_,k2,_,_,_⟩ | ⟨_,_,_,k4⟩
     ·exact absurd harg k1
     ·exact k2.len
     ·rw [he] at k4;cases k4
    ·obtain⟨g1,g2,g3⟩:=cnt ls hbits
     obtain⟨d1,d2⟩:=oth_nums hg h3 (ho (g3.2 (by omega)))
     have hft:=full_nums hg h3
     have htl:(numsL ls).length=many:=by rw [← g1,hft,List.length_map]
     rw [htl] at d1
     rcases q2 with ⟨k1,_⟩ | ⟨_,_,_,k2,k3⟩ | ⟨_,k2,_⟩
     ·exact absurd harg k1
     ·exact⟨k3,fun h=>absurd h h3,fun _=>(k2 _ d1).symm⟩
     ·exact absurd ⟨d1,d2⟩ (k2 _)
   ·obtain⟨g1,g2,g3⟩:=cnt ls hbits
    have:=hz (fun h=>by have:=g3.1 h;omega)
    subst this
    simp at hlp
   ·have hm0:many=0:=by omega
    refine⟨[],none,0,[],none,0,0,rfl,Rd.nil _ _,Rd.nil _ _,.refl _ _,by simp,fun _=>⟨fun _=>by simp [hm0],fun _=>by simp [hm0]⟩,fun ls hg hbits ho hz=>?_⟩
    obtain⟨g1,g2,g3⟩:=cnt ls hbits
    have hf:fullL ls=[]:=List.eq_nil_of_length_eq_zero (by omega)
    exact⟨rfl,fun _=>by simp [textsL,hf],fun _=>by simp [numsL,hf]⟩
 rintro na _ nc sa _ sc e w4 ⟨ns,_,_,ss,_,_,_,hst,hRn,hRs,B4,hI,hlens,hP⟩
 cases hst
 refine IFB_ne (fun h=>FillV.bad B4 fun ls h1 h2 h3 h4=>h (hP ls h1 h2 h3 h4).1) (fun he=>?_)
 obtain⟨len3,lenN'⟩:=hlens he
 refine⟨fun s w5=>∃(i:Nat) (vs:List Val) (oa:Option Addr) (oc:Nat),s=[.slice oa vs.length oc,.int .i64 (zerosN (bits.take i):Int),.int .i64 (i:Int)]∧i≤bits.length∧vs.length=i∧(∀ v∈vs,ValOk v)∧NewV w4 w5 vs oa oc ∧
   (∀ ls,Good1 kind ls→bits=bitsN ls→(nullsN ls<ls.length→OthIs kind ls l)→(¬ nullsN ls<ls.length→l=[])→vs=ls.take i),fun s _=>match s with
   | [_,_,.int _ i]=>bits.length-i.toNat
   | _=>0,⟨0,[],none,0,rfl,by omega,rfl,by simp,NewV.nil w4,fun _ _ _ _ _=>rfl⟩,?_⟩
 rintro oa _ oc _ _ w5 ⟨i,vs,_,_,hst,hi,hvl,hvok,h5,hT⟩
 cases hst
 have zle:=zeros_le (bits:=bits) i
 refine IFB_dec (fun hlt=>?_) (fun hge=>?_)
 ·have hil:i<bits.length:=by omega
  refine (SH.start (fun _=>False) w5).lit3 fun b21 w9 hb21 B9 S9=>⟨⟨by omega,hlt⟩,?_⟩
  obtain⟨p,rfl,hcell⟩:=num_at ((hb.grown B4).grown (below_trans h5.bel B9)) hil
  have hzt:=zeros_take hil
  have zle2:=zeros_le (bits:=bits) (i+1)
  have mes:bits.length-((i+1:Nat):Int).toNat<bits.length-((i:Nat):Int).toNat:=by
   simp only [Int.toNat_natCast]
   omega
  have hzl:zerosN (bits.take i)≤1024:=by
   have:zerosN bits≤bits.length:=List.countP_le_length
   omega
  have bit:∀ {ls:List Val} (h:bits=bitsN ls) (hl:i<ls.length),bits[i]=if ls[i].1=0 then 1 else 0:=by
   intro ls h hl
   subst h
   simp [bitsN]
  rw [wrap_succ (k:=i) (by omega)]
  have next:∀ {wx:World} {b:Nat} {t:TypeId} {x:Val} {z:Nat},Below w5.heap.size w5 wx→wx.heap[b]?=some (.cells #[.int .i64 x.1,.int .i64 x.2.1,.string x.2.2] t (0,0))→ValOk x→zerosN (bits.take (i+1))=z →
    (∀ ls,Good1 kind ls→bits=bitsN ls→(nullsN ls<ls.length→OthIs kind ls l)→(¬ nullsN ls<ls.length→l=[])→∀ hl:i<ls.length,ls[i]=x) →
    OPR Tryz.prog (Builtin.append_ #[ty.L_api_Value,ty.L_api_Value] ty.L_api_Value #[.slice oa vs.length oc,.slice (some ⟨b,0,none⟩) 1 1]) (fun r w13=>∃(t73:Option Addr) (t73l t73c:Nat),r=.slice t73 t73l t73c ∧
     (∃(i_1:Nat) (vs:List Val) (oa:Option Addr) (oc:Nat),[Value.slice t73 t73l t73c,.int .i64 (z:Int),.int .i64 ((i+1:Nat):Int)]=[.slice oa vs.length oc,.int .i64 (zerosN (bits.take i_1):Int),.int .i64 (i_1:Int)]∧i_1≤bits.length∧vs.length=i_1∧(∀ v∈vs,ValOk v)∧NewV w4 w13 vs oa oc ∧
      (∀ ls,Good1 kind ls→bits=bitsN ls→(nullsN ls<ls.length→OthIs kind ls l)→(¬ nullsN ls<ls.length→l=[])→vs=ls.take i_1))∧bits.length-((i+1:Nat):Int).toNat<bits.length-((i:Nat):Int).toNat) wx:=by
   intro wx b t x z Bx hbx hx hz hPx
   refine append_val (h5.grown Bx) (by omega) hbx fun a7 c7 w7 h7=>⟨_,_,_,rfl,⟨i+1,_,a7,c7,by rw [hz],by omega,by simp [hvl],?_,h7,fun ls g1 g2 g3 g4=>?_⟩,mes⟩
   ·intro v hv
    rcases List.mem_append.1 hv with h | h
    ·exact hvok v h
    ·rw [List.mem_singleton.1 h];exact hx
   ·have hl':i<ls.length:=by have:=(cnt ls g2).2.1;omega
    rw [hT ls g1 g2 g3 g4,List.take_succ_eq_append_getElem hl',hPx ls g1 g2 g3 g4 hl']
  refine⟨_,by rw [Int.toNat_natCast];exact hcell,IFB_eq (fun hz=>?_) (fun hnz=>?_)⟩
  ·have hz':bits[i]=0:=by omega
   rw [if_pos hz'] at hzt
   rw [wrap_succ (by omega)]
   have hzlt:zerosN (bits.take i)<many:=by omega
   have at_of:∀ {ls:List Val},bits=bitsN ls→∀ hl:i<ls.length,(fullL ls)[zerosN (bits.take i)]?=some ls[i]:=by
    intro ls g2 hl
    have hb1:=bit g2 hl
    have hnz:¬ ls[i].1=0:=fun h=>by rw [if_pos h] at hb1;omega
    have hft:=fullL_take hl
    rw [if_neg hnz] at hft
    have hpre:fullL (ls.take (i+1)) <+: fullL ls:=by
     unfold fullL
     exact (List.take_prefix (i+1) ls).filter _
    rw [hft] at hpre
    obtain⟨r,hr⟩:=hpre
    have e1:zerosN (bits.take i)=(fullL (ls.take i)).length:=by
     rw [← zeros_bits]
     congr 1
     rw [g2]
     unfold bitsN
     rw [List.map_take]
    rw [e1,← hr,List.append_assoc]
    simp
   refine S9.chg 0 rfl (cs':=#[.int .i64 kind,.int .i64 0,.string ⟨#[]⟩]) (show 0<3 by decide) rfl fun w10 K10 S10=>?_
   have B10:Below w5.heap.size w5 w10:=S10.below
   refine IFB_eq (fun h3=>⟨⟨by omega,by have:=len3 h3;omega⟩,?_⟩) (fun h3=>⟨⟨by omega,by have:=lenN' h3;omega⟩,?_⟩)
   ·have hsl:zerosN (bits.take i)<ss.length:=by have:=len3 h3;omega
    obtain⟨ps,rfl,hcs⟩:=str_at (hRs.grown (below_trans h5.bel B10)) hsl
    refine⟨_,by rw [Int.toNat_natCast];exact hcs,S10.chg 0 rfl (cs':=#[.int .i64 kind,.int .i64 0,.string ss[zerosN (bits.take i)]]) (show 2<3 by decide) rfl fun w11 K11 S11=>?_⟩
    refine⟨_,S11.cell 0 rfl rfl,_,S11.cell 0 rfl rfl,_,S11.cell 0 rfl rfl,S11.newB fun b29 w12 hb29 B12 S12=>next (x:=(kind,0,ss[zerosN (bits.take i)])) S12.below (S12.get 0 rfl) ⟨by simp,by simp⟩ hzt fun ls g1 g2 g3 g4 hl'=>?_⟩
    have hss:=(hP ls g1 g2 g3 g4).2.1 h3
    have hf:=at_of g2 hl'
    rw [full_texts g1 h3,← hss,List.getElem?_map,List.getElem?_eq_getElem hsl] at hf
    exact (Option.some.inj hf).symm
   ·have hnl:zerosN (bits.take i)<ns.length:=by have:=lenN' h3;omega
    obtain⟨pn,rfl,hcn⟩:=int_at (hRn.grown (below_trans h5.bel B10)) hnl
    have hxI:=hI _ (List.getElem_mem hnl)
    refine⟨_,by rw [Int.toNat_natCast];exact hcn,S10.chg 0 rfl (cs':=#[.int .i64 kind,.int .i64 ns[zerosN (bits.take i)],.string ⟨#[]⟩]) (show 1<3 by decide) rfl fun w11 K11 S11=>?_⟩
    refine⟨_,S11.cell 0 rfl rfl,_,S11.cell 0 rfl rfl,_,S11.cell 0 rfl rfl,S11.newB fun b29 w12 hb29 B12 S12=>next (x:=(kind,ns[zerosN (bits.take i)],E0)) S12.below (S12.get 0 rfl) ⟨hxI.1,hxI.2⟩ hzt fun ls g1 g2 g3 g4 hl'=>?_⟩
    have hss:=(hP ls g1 g2 g3 g4).2.2 h3
    have hf:=at_of g2 hl'
    rw [full_nums g1 h3,← hss,List.getElem?_map,List.getElem?_eq_getElem hnl] at hf
    exact (Option.some.inj hf).symm
  ·have hz':¬ bits[i]=0:=by omega
   rw [if_neg hz',Nat.add_zero] at hzt
   refine⟨_,S9.cell 0 rfl rfl,_,S9.cell 0 rfl rfl,_,S9.cell 0 rfl rfl,S9.newB fun b29 w12 hb29 B12 S12=>next (x:=(0,0,E0)) S12.below (S12.get 0 rfl) ⟨by simp,by simp⟩ hzt fun ls g1 g2 g3 g4 hl'=>?_⟩
   have hb1:=bit g2 hl'
   have hz0:ls[i].1=0:=by
    by_cases h:ls[i].1=0
    ·exact h
    ·rw [if_neg h] at hb1;exact absurd hb1 hz'
   exact g1.null _ (List.getElem_mem hl') hz0
 ·refine⟨vs,oa,oc,true,rfl,⟨h5.row.rd,fun k hk=>Nat.le_trans B4.size (h5.new k hk)⟩,below_trans B4 h5.bel,by omega,hvok,fun ls g1 g2 g3 g4=>⟨rfl,?_⟩⟩
  have:=(cnt ls g2).2.1
  rw [hT ls g1 g2 g3 g4,List.take_of_length_le (by omega)]
end
section
variable {w:World}{a:Option Addr}{c:Nat}{l:List UInt8}
theorem ref08_Decode_ok(hl:Rd w a (l.map byteV))(hc:l.length≤c)(hs:l.length≤9223372036854775807) :
  Calls Tryz.prog f.ref08_Decode #[.slice a l.length c] w (Ret fun v w'=>ChDV l w w' v):=by
 apply R.ref08_Decode_calls
 unfold R.ref08_Decode
 refine IFB_dec (fun h=>ChDV.bad (.refl _ _) fun K ls hg hC=>by have:=(hC.read hg).2.1;omega) (fun hge=>?_)
 have h0:0<l.length:=by omega
 obtain⟨li,hli⟩:∃ li,li=l.take (l.length-4):=⟨_,rfl⟩
 have hlt:li.length=l.length-4:=by rw [hli,List.length_take];omega
 have hP0:∀ K ls,Good1 K ls→ChIs K ls l→ReadP K ls li:=fun K ls hg hC=>by rw [hli];exact (hC.read hg).1
 have hhead:l.getD 0 0=li.getD 0 0:=by
  rw [hli]
  have:0<l.length-4:=by omega
  simp only [List.getD,List.getElem?_take,if_pos this]
 have hsl:=hl.sla 0 (l.length-4) c 1 (by omega)
 rw [Nat.mul_one,Nat.sub_zero,Nat.mul_one,List.drop_zero,← List.map_take,← hli] at hsl
 obtain⟨p,rfl,hcell⟩:=head_at hl h0
 have hb0:=(l.getD 0 0).toNat_lt
 rw [wrap_i64 (n:=(l.length:Int)-4) (by omega) (by omega),show ((l.length:Int)-4).toNat=li.length by omega,Nat.sub_zero,Nat.sub_zero]
 refine⟨⟨by omega,by omega⟩,_,hcell,⟨by omega,by omega,by omega⟩,?_⟩
 obtain⟨ai,hai⟩:∃ ai,ai=SLA (some p) 0 c 1:=⟨_,rfl⟩
 rw [← hai] at hsl ⊢
 have hlic:li.length≤c:=by omega
 have hlis:li.length≤9223372036854775807:=by omega
 refine (ref_TakeNumber_ok hsl hlis 1 (by decide)).mono ?_
 rintro _ w ⟨_,rfl,rfl,rfl⟩
 obtain⟨n,at1,e1,hv1,hb1,hP1⟩:∃(n at1:Nat) (e1:Int),numV (takeN li 1)=.tuple #[.int .u64 (n:Int),.int .i64 (at1:Int),.int .i64 e1]∧(n<18446744073709551616∧at1≤li.length)∧(∀ K ls,ReadP K ls li→e1=0∧n=ls.length∧takeN li 1=some (n,at1)):=by
  cases hx:takeN li 1 with
  | none =>
   refine⟨0,0,20,rfl,by omega,fun K ls hp=>?_⟩
   obtain⟨_,_,_,q⟩:=hp.q
   have:=q.n1
   rw [hx] at this;cases this
  | some x =>
   have hb:=takeN_bounds (n:=x.1) (k:=x.2) hx
   refine⟨x.1,x.2,0,rfl,by omega,fun K ls hp=>?_⟩
   obtain⟨_,_,_,q⟩:=hp.q
   have:=q.n1
   rw [hx] at this
   have:=Option.some.inj this
   exact⟨rfl,by rw [this],rfl⟩
 rw [hv1]
 refine⟨_,_,_,rfl,(ref_TakeNumber_ok hsl hlis (at1:Int) (by omega)).mono ?_⟩
 rintro _ w ⟨_,rfl,rfl,rfl⟩
 obtain⟨no,at2,e2,hv2,hb2,hP2⟩:∃(no at2:Nat) (e2:Int),numV (takeN li (at1:Int))=.tuple #[.int .u64 (no:Int),.int .i64 (at2:Int),.int .i64 e2]∧(no<18446744073709551616∧at2≤li.length)∧(∀ K ls,ReadP K ls li→e2=0∧no=nullsN ls∧∃ o,ReadQ K ls li at1 at2 o):=by
  have step:∀ K ls,ReadP K ls li→∃ at2 o,ReadQ K ls li at1 at2 o:=by
   intro K ls hp
   obtain⟨a1,a2,o,q⟩:=hp.q
   have h1:=(hP1 K ls hp).2.2
   have h2:=q.n1
   rw [h1] at h2
   obtain rfl:at1=a1:=by have:=Option.some.inj h2;simpa using congrArg Prod.snd this
   exact⟨a2,o,q⟩
  cases hx:takeN li (at1:Int) with
  | none =>
   refine⟨0,0,20,rfl,by omega,fun K ls hp=>?_⟩
   obtain⟨_,_,q⟩:=step K ls hp
   have:=q.n2
   rw [hx] at this;cases this
  | some x =>
   have hb:=takeN_bounds (n:=x.1) (k:=x.2) hx
   refine⟨x.1,x.2,0,rfl,by omega,fun K ls hp=>?_⟩
   obtain⟨a2,o,q⟩:=step K ls hp
   have:=q.n2
   rw [hx] at this
   have hxx:=Option.some.inj this
   obtain rfl:x.2=a2:=by rw [hxx]
   exact⟨rfl,by rw [hxx],o,q⟩
 rw [hv2,wrap_i64 (n:=((l.getD 0 0).toNat:Int)) (by omega) (by omega)]
 obtain⟨kd,hkd⟩:∃ kd,kd=((l.getD 0 0).toNat:Int):=⟨_,rfl⟩
 rw [← hkd]
 have hbad:∀ {wx:World},Below w.heap.size w wx→(∀ K ls,¬ ReadP K ls li)→ChDV l w wx (.tuple #[.int .i64 0,.slice none 0 0,.int .i64 80]):=fun B h=>ChDV.bad B fun K ls hg hC=>h K ls (hP0 K ls hg hC)
 have hkind:∀ K ls,ReadP K ls li→kd=K:=fun K ls hp=>by
  obtain⟨_,_,_,q⟩:=hp.q
  rw [hkd,hhead];exact q.kind
 refine⟨_,_,_,rfl,IFB_ne (fun h=>hbad (.refl _ _) fun K ls hp=>h (hP1 K ls hp).1) (fun he1=>IFB_ne (fun h=>hbad (.refl _ _) fun K ls hp=>h (hP2 K ls hp).1) (fun he2=>IFB_dec (fun h=>hbad (.refl _ _) fun K ls hp=>?_) (fun hn1=>IFB_dec (fun h=>hbad (.refl _ _) fun K ls hp=>?_) (fun hn2 =>
  IFB_dec (fun h=>hbad (.refl _ _) fun K ls hp=>?_) (fun hk1=>IFB_dec (fun h=>hbad (.refl _ _) fun K ls hp=>?_) (fun hk2=>?_))))))⟩
 ·have:=(hP1 K ls hp).2.1
  have:=hp.good.len
  omega
 ·have:=(hP1 K ls hp).2.1
  have:=(hP2 K ls hp).2.1
  have:=nullsN_le ls
  omega
 ·have:=hkind K ls hp
  have:=hp.good.kind
  omega
 ·have:=hkind K ls hp
  have:=hp.good.kind
  omega
 have hn:n≤1024:=by omega
 have hno:no≤n:=by omega
 refine make_new tU (l:=(n:Int)) (c:=(n:Int)) (by omega) (by omega) (by omega) (by omega) fun bo w3 hbo B3 hO3=>?_
 rw [Int.toNat_natCast] at hO3 ⊢
 have hO3':w3.heap[bo]?=some (.cells ⟨List.replicate n (.int .u64 0)⟩ ty.uint64 (0,0)):=by
  have e:madeCells (Value.int .u64 0).cells (n*1)=⟨List.replicate n (.int .u64 0)⟩:=by
   apply Array.ext'
   rw [madeCells_one _ rfl,Nat.mul_one]
  rw [← e];exact hO3
 have rep:∀(k:Nat) (x:Nat),(List.replicate k x).map u64V=List.replicate k (.int .u64 (x:Int)):=fun k x=>by rw [List.map_replicate];rfl
 refine⟨_,_,_,rfl,fun s w6=>∃(at3:Nat) (bits:List Nat) (ab:Option Addr) (cb:Nat),s=[.int .i64 (at3:Int),.slice ab bits.length cb]∧Rd w6 ab (bits.map u64V)∧Below w.heap.size w w6∧bits.length≤1024∧at3≤li.length ∧
   (no=n→ab=some ⟨bo,0,none⟩∧bits=List.replicate n 0∧w6.heap[bo]?=some (.cells ⟨List.replicate n (.int .u64 0)⟩ ty.uint64 (0,0))) ∧
   (∀ K ls,ReadP K ls li→(no≠n→bits=bitsN ls)∧∃ o,ReadQ K ls li at1 at2 o∧li.drop at3=o),?_,?_⟩
 ·refine⟨fun s w4=>∃ t:Bool,s=[.bool t]∧w4=w3∧(t=true↔0<no∧no<n),?_,?_⟩
  ·refine IFB_dec (fun h=>⟨_,rfl,rfl,by simp;omega⟩) (fun h=>⟨_,rfl,rfl,by simp;omega⟩)
  rintro _ w4 ⟨t,hst,rfl,ht⟩
  cases hst
  refine IFB_of (fun h=>?_) (fun h=>?_)
  ·obtain⟨hm1,hm2⟩:=ht.1 h
   obtain⟨sz,hsz⟩:∃ sz,sz=sizeN n 1:=⟨_,rfl⟩
   have hszv:sz=(n+7) / 8:=by rw [hsz];unfold sizeN;rw [Nat.mul_one]
   have esz:IntKind.i64.wrap (Int.tdiv (IntKind.i64.wrap (IntKind.i64.wrap (n:Int)+7)) 8)=(sz:Int):=by
    rw [wrap_i64 (n:=(n:Int)) (by omega) (by omega),wrap_i64 (n:=(n:Int)+7) (by omega) (by omega),Int.tdiv_eq_ediv_of_nonneg (by omega),wrap_i64 (by omega) (by omega)]
    omega
   rw [esz,wrap_i64 (n:=(li.length:Int)-(at2:Int)) (by omega) (by omega),wrap_i64 (n:=(n:Int)) (by omega) (by omega)]
   have hmaskq:∀ K ls,ReadP K ls li→∃ o,ReadQ K ls li at1 at2 o∧li.drop at2=packL (bitsN ls) 1++o∧(packL (bitsN ls) 1).length=sz:=by
    intro K ls hp
    obtain⟨_,hno',o,q⟩:=hP2 K ls hp
    have hn':=(hP1 K ls hp).2.1
    refine⟨o,q,?_,?_⟩
    ·rw [q.rest]
     unfold maskL
     rw [if_pos (by omega)]
    ·rw [packL_len,hsz,hn']
     simp [bitsN]
   refine IFB_dec (fun h=>hbad B3 fun K ls hp=>?_) (fun hge=>?_)
   ·obtain⟨o,_,e,e2⟩:=hmaskq K ls hp
    have:=congrArg List.length e
    rw [List.length_drop,List.length_append] at this
    omega
   rw [wrap_i64 (n:=(at2:Int)+(sz:Int)) (by omega) (by omega)]
   refine⟨⟨by omega,by omega,by omega⟩,?_⟩
   rw [Int.toNat_natCast,show ((at2:Int)+(sz:Int)).toNat=at2+sz by omega,Nat.add_sub_cancel_left]
   have hsl2:=(hsl.grown B3).sla at2 (at2+sz) c 1 (by omega)
   rw [Nat.mul_one,Nat.mul_one,Nat.add_sub_cancel_left,← List.map_drop,← List.map_take] at hsl2
   have hsll:((li.drop at2).take sz).length=sz:=by rw [List.length_take,List.length_drop];omega
   have hU:=ref_Unpack_ok (c:=c-at2) hsl2 (n:Int) 1 (by omega)
   rw [hsll] at hU
   refine hU.mono ?_
   rintro _ w7 ⟨_,rfl,xs,xa,xc,e,rfl,hRx,B7,hxn,hcase⟩
   have C7:=below_trans B3 B7
   rw [Int.toNat_natCast,show (1:Int).toNat=1 from rfl] at hcase
   have good:∀ K ls,ReadP K ls li→∃ o,ReadQ K ls li at1 at2 o∧li.drop (at2+sz)=o∧unArg (n:Int) 1∧unOk ((li.drop at2).take sz) n 1∧unpackL ((li.drop at2).take sz) n 1=bitsN ls:=by
    intro K ls hp
    obtain⟨o,q,e3,e4⟩:=hmaskq K ls hp
    have hn':=(hP1 K ls hp).2.1
    have hbl:(bitsN ls).length=n:=by rw [hn'];simp [bitsN]
    have htk:(li.drop at2).take sz=packL (bitsN ls) 1:=by rw [e3,← e4,List.take_left]
    have hup:=unpack_pack (bits_lt ls)
    rw [hbl] at hup
    rw [htk]
    exact⟨o,q,by rw [← e4,← List.drop_drop,e3,List.drop_left],⟨by omega,by omega,by omega,by omega⟩,⟨by rw [packL_len,hbl],by rw [hup]⟩,hup⟩
   rcases hcase with ⟨_,_,hxs,rfl⟩ | ⟨hno2,rfl,he⟩
   ·have hxl:xs.length=n:=by rw [hxs,unpackL_len]
    refine⟨_,_,_,_,rfl,IFB_ne (fun h=>absurd rfl h) (fun _=>⟨at2+sz,xs,xa,xc,by simp,hRx,C7,by omega,by omega,fun h=>absurd h (by omega),fun K ls hp=>?_⟩)⟩
    obtain⟨o,q,g1,_,_,g4⟩:=good K ls hp
    exact⟨fun _=>by rw [hxs,g4],o,q,g1⟩
   ·refine⟨_,_,_,_,rfl,IFB_ne (fun _=>hbad C7 fun K ls hp=>?_) (fun h=>by rw [he] at h;split at h <;> cases h)⟩
    obtain⟨o,_,_,g2,g3,_⟩:=good K ls hp
    exact hno2 ⟨g2,g3⟩
  ·have hcond:¬ (0<no∧no<n):=fun hh=>by rw [ht.2 hh] at h;cases h
   refine⟨at2,List.replicate n 0,some ⟨bo,0,none⟩,n,by rw [List.length_replicate],?_,B3,by simp;omega,hb2.2,fun _=>⟨rfl,rfl,hO3'⟩,fun K ls hp=>?_⟩
   ·have:=Rd.of_block0 hO3'
    rw [rep];exact this
   ·obtain⟨_,hno',o,q⟩:=hP2 K ls hp
    have hn':=(hP1 K ls hp).2.1
    refine⟨fun hne=>?_,o,q,?_⟩
    ·rw [bits_none (by omega),hn']
    ·rw [q.rest]
     unfold maskL
     rw [if_neg (by omega)]
     rfl
 rintro _ ab _ cb w6 ⟨at3,bits,_,_,hst,hRb,B6,hbl,hat3,hall1,hP3⟩
 cases hst
 obtain⟨fin,hfin⟩:∃ fin:List Nat,fin=(if no=n then List.replicate n 1 else bits):=⟨_,rfl⟩
 have hfl:fin.length=bits.length:=by
  rw [hfin]
  split
  ·rename_i h;rw [(hall1 h).2.1];simp
  ·rfl
 have hPf:∀ K ls,ReadP K ls li→fin=bitsN ls:=by
  intro K ls hp
  rw [hfin]
  split
  ·rename_i h
   have hn':=(hP1 K ls hp).2.1
   have hno':=(hP2 K ls hp).2.1
   rw [bits_all (by omega),hn']
  ·rename_i h
   exact (hP3 K ls hp).1 h
 refine⟨fun s w7=>∃ i:Nat,i≤bits.length∧s=[.int .i64 (zerosN (fin.take i):Int),.int .i64 (i:Int)]∧Below w.heap.size w w7∧((no=n∧Keeps (fun k=>k=bo) w6 w7∧w7.heap[bo]?=some (.cells ⟨List.replicate i (.int .u64 1)++List.replicate (n-i) (.int .u64 0)⟩ ty.uint64 (0,0)))∨(no≠n∧w7=w6)),fun s _=>match s with
   | [_,.int _ i]=>bits.length-i.toNat
   | _=>0,⟨0,by omega,rfl,B6,?_⟩,?_⟩
 ·by_cases h:no=n
  ·exact .inl ⟨h,.refl _ _,by simpa using (hall1 h).2.2⟩
  ·exact .inr ⟨h,rfl⟩
 rintro _ _ w7 ⟨i,hi,hst,B7,hcase⟩
 cases hst
 have hzl:zerosN (fin.take i)≤1024:=by
  have h1:zerosN (fin.take i)≤(fin.take i).length:=List.countP_le_length
  rw [List.length_take] at h1
  omega
 refine IFB_dec (fun hlt=>?_) (fun hge=>?_)
 ·have hil:i<bits.length:=by omega
  have hif:i<fin.length:=by omega
  have hnb:no=n→bits.length=n:=fun h=>by rw [(hall1 h).2.1];simp
  refine⟨fun s w9=>s=[]∧Below w.heap.size w w9∧(∃ p,ab=some p∧w9.cell? (p.add (i*1))=some (.int .u64 (fin[i]:Int)))∧((no=n∧Keeps (fun k=>k=bo) w6 w9∧w9.heap[bo]?=some (.cells ⟨List.replicate (i+1) (.int .u64 1)++List.replicate (n-(i+1)) (.int .u64 0)⟩ ty.uint64 (0,0)))∨(no≠n∧w9=w6)),?_,?_⟩
  ·refine IFB_eq (fun heq=>⟨⟨by omega,hlt⟩,?_⟩) (fun hneq=>?_)
   ·have heq':no=n:=by omega
    rcases hcase with ⟨_,K7,hO7⟩ | ⟨h,_⟩
    ·obtain⟨rfl,hbits,_⟩:=hall1 heq'
     have hbn:=hnb heq'
     rw [Int.toNat_natCast]
     unfold PTR
     simp only
     refine sto_at hO7 (p:=(⟨bo,0,none⟩:Addr).add (i*1)) (i:=i) (by rw [addr_add_blk];simp) (by show i<(_++_:List Value).length;simp;omega) fun w8 K8 hO8=>?_
     have e:(⟨List.replicate i (.int .u64 1)++List.replicate (n-i) (.int .u64 0)⟩:Array Value).setIfInBounds i (.int .u64 1)=⟨List.replicate (i+1) (.int .u64 1)++List.replicate (n-(i+1)) (.int .u64 0)⟩:=by
      apply Array.ext'
      simp only [Array.toList_setIfInBounds]
      rw [List.set_append_right _ _ (by simp),List.length_replicate,Nat.sub_self,show n-i=(n-(i+1))+1 by omega,List.replicate_succ (n:=n-(i+1)),List.set_cons_zero,List.replicate_succ' (n:=i),List.append_assoc]
      rfl
     rw [e] at hO8
     have K68:=K7.trans K8 (fun _ _ h=>h)
     refine⟨trivial,B7.trans (K8.below B7.size fun k hk he=>by omega),⟨_,rfl,?_⟩,.inl ⟨heq',K68,hO8⟩⟩
     have hfi:fin[i]=1:=by
      have:fin[i]?=some 1:=by rw [hfin,if_pos heq',List.getElem?_replicate,if_pos (by omega)]
      rw [List.getElem?_eq_getElem hif] at this
      exact Option.some.inj this
     rw [hfi]
     obtain⟨q,hq,hcq⟩:=Rd.of_block0 hO8 i (.int .u64 1) (by
      show (List.replicate (i+1) (Value.int .u64 1)++List.replicate (n-(i+1)) (.int .u64 0))[i]?=_
      rw [List.getElem?_append_left (by simp),List.getElem?_replicate,if_pos (by omega)])
     cases hq
     rw [Nat.mul_one];exact hcq
    ·exact absurd heq' h
   ·have hne:no≠n:=fun h=>hneq (by omega)
    rcases hcase with ⟨h,_⟩ | ⟨_,rfl⟩
    ·exact absurd h hne
    ·refine⟨rfl,B7,?_,.inr ⟨hne,rfl⟩⟩
     obtain⟨p,hp,hc2⟩:=num_at hRb hil
     refine⟨p,hp,?_⟩
     have hfb:fin=bits:=by rw [hfin,if_neg hne]
     have:fin[i]=bits[i]:=get_of hfb (List.getElem?_eq_getElem hil) hif
     rw [this];exact hc2
  rintro w9 ⟨_,B9,⟨pb,rfl,hcb⟩,hcase9⟩
  refine⟨⟨by omega,hlt⟩,_,by rw [Int.toNat_natCast];exact hcb,?_⟩
  have hzt:=zeros_take hif
  have mes:bits.length-((i+1:Nat):Int).toNat<bits.length-((i:Nat):Int).toNat:=by
   simp only [Int.toNat_natCast]
   omega
  rw [wrap_succ (by omega),wrap_succ (by omega)]
  refine IFB_eq (fun hz=>?_) (fun hz=>?_)
  ·rw [if_pos (by omega)] at hzt
   exact⟨⟨i+1,by omega,by rw [hzt],B9,hcase9⟩,mes⟩
  ·rw [if_neg (by omega)] at hzt
   exact⟨⟨i+1,by omega,by rw [hzt];rfl,B9,hcase9⟩,mes⟩
 have hib:i=bits.length:=by omega
 have htk:fin.take i=fin:=List.take_of_length_le (by omega)
 rw [htk]
 have hRf:Rd w7 ab (fin.map u64V):=by
  rcases hcase with ⟨heq,K7,hO7⟩ | ⟨hne,rfl⟩
  ·obtain⟨rfl,hbits,_⟩:=hall1 heq
   have hin:i=n:=by rw [hib,hbits];simp
   rw [hin,Nat.sub_self,List.replicate_zero,List.append_nil] at hO7
   have:=Rd.of_block0 hO7
   rw [hfin,if_pos heq,rep];exact this
  ·rw [hfin,if_neg hne];exact hRb
 refine⟨⟨by omega,by omega,by omega⟩,?_⟩
 rw [Int.toNat_natCast,← List.length_drop (i:=at3) (l:=li)]
 have hdr:=drop_rd (q:=at3) (hsl.grown B7) hlic
 have hF:=ref08_filled_ok (cb:=cb) kd hRf hdr (by rw [List.length_drop];omega:(li.drop at3).length≤c-at3) (by rw [List.length_drop];omega) (by omega) rfl
 rw [hfl] at hF
 refine hF.mono ?_
 rintro _ w10 ⟨_,rfl,vs,a10,c10,ok,rfl,R10,B10,hvl,hvok,hD⟩
 have C10:=below_trans B7 B10
 have hD':∀ K ls,ReadP K ls li→ok=true∧vs=ls:=by
  intro K ls hp
  obtain⟨_,o,q,ho⟩:=hP3 K ls hp
  have hk:=hkind K ls hp
  refine hD ls (by rw [hk];exact hp.good) (hPf K ls hp) (fun h=>?_) (fun h=>?_)
  ·rw [hk,ho];exact q.oth h
  ·rw [ho];exact q.none h
 refine⟨_,_,_,_,rfl,IFB_not (IFB_of (fun hok=>?_) (fun hok=>hbad C10 fun K ls hp=>?_))⟩
 case refine_2 =>
  have:=(hD' K ls hp).1
  rw [this] at hok;cases hok
 refine (ref08_Encode_ok kd R10.rd (by omega) hvok).mono ?_
 rintro _ w11 ⟨_,rfl,h11⟩
 obtain⟨b11,a11,c11,e11,rfl,R11,B11,q11⟩:=h11.open
 have C11:=below_trans C10 B11
 refine⟨_,_,_,_,rfl,?_⟩
 rcases q11 with ⟨hr,hI,rfl⟩ | ⟨hr,rfl,rfl⟩
 ·refine IFB_ne (fun h=>absurd rfl h) (fun _=>string_of_bytes tbytes rfl R11 ⟨_,rfl,string_of_bytes tbytes rfl (hl.grown C11) ⟨_,rfl,?_⟩⟩)
  rw [bytesEq_iff]
  refine IFB_not (IFB_dec (fun he=>?_) (fun he=>ChDV.bad C11 fun K' ls' hg hC=>?_))
  ·have he':b11=l:=by have:=congrArg bl he;rwa [bl_sof,bl_sof] at this
   subst he'
   refine⟨kd,vs,a10,c10,0,rfl,(R10.before B7).grown B11,C11,hvl,.inl ⟨⟨hr,hvok⟩,hI,rfl,fun K' ls' hg hC=>?_⟩⟩
   have hp:=hP0 K' ls' hg hC
   exact⟨(hkind K' ls' hp).symm,((hD' K' ls' hp).2).symm⟩
  ·have hp:=hP0 K' ls' hg hC
   obtain rfl:=hkind K' ls' hp
   obtain rfl:=(hD' _ ls' hp).2
   exact he (by rw [hI.one hC])
 ·refine IFB_ne (fun _=>ChDV.bad C11 fun K' ls' hg hC=>?_) (fun h=>absurd h (by decide))
  have hp:=hP0 K' ls' hg hC
  obtain rfl:=hkind K' ls' hp
  obtain rfl:=(hD' _ ls' hp).2
  rw [hg.right] at hr;cases hr
end
abbrev RowP:=Option Addr × Nat × List Val
def rowV1(p:RowP):Value:=.slice p.1 p.2.2.length p.2.1
abbrev rws(ps:List RowP):List (List Val):=ps.map (·.2.2)
structure RowsAt(w:World)(a:Option Addr)(ps:List RowP):Prop where
 top:Rd w a (ps.map rowV1)
 each:∀ p∈ps,Rd w p.1 (valsL p.2.2)
theorem RowsAt.grown{w w':World}{a:Option Addr}{ps:List RowP}(h:RowsAt w a ps)(B:Below w.heap.size w w'):RowsAt w' a ps:=⟨h.top.grown B,fun p hp=>(h.each p hp).grown B⟩
theorem RowsAt.at{w:World}{a:Option Addr}{ps:List RowP}(h:RowsAt w a ps){i:Nat}(hi:i<ps.length):∃ q,a=some q∧w.cell? (q.add (i*1))=some (.slice ps[i].1 ps[i].2.2.length ps[i].2.1)∧Rd w ps[i].1 (valsL ps[i].2.2):=by
 obtain⟨q,hq,hc⟩:=h.top i (rowV1 ps[i]) (by simp [hi])
 exact⟨q,hq,by rw [Nat.mul_one];exact hc,h.each _ (List.getElem_mem hi)⟩
def colOf(rows:List (List Val))(c:Nat):List Val:=rows.map fun r=>r.getD c Z0
theorem colOf_len(rows:List (List Val))(c:Nat):(colOf rows c).length=rows.length:=by simp [colOf]
theorem colOf_take(ps:List RowP){c i:Nat}(hi:i<ps.length)(hc:c<ps[i].2.2.length):colOf (rws (ps.take (i+1))) c=colOf (rws (ps.take i)) c++[ps[i].2.2[c]]:=by
 unfold colOf rws
 rw [List.take_succ_eq_append_getElem hi,List.map_append,List.map_append]
 simp only [List.map_cons,List.map_nil,List.getD,List.getElem?_eq_getElem hc,Option.getD_some]
def valsI(a:Option Addr)(c:Nat)(vs:List Val):It:=It.row ty.api_Value 3 a vs.length c (valsL vs)
section
variable {w0 w:World}{H:List It}{a:Option Addr}{c:Nat}{vs:List Val}
theorem stRdV(S:ST w0 w H)(n:Nat)(hn:H[n]?=some (valsI a c vs)):Rd w a (valsL vs):=S.rd n hn
theorem stAppV(S:ST w0 w H)(n:Nat){t:TypeId}(ht:slT Tryz.prog t=some (ty.api_Value,3,32,.agg #[.int .i64 0,.int .i64 0,.string ⟨#[]⟩]))(hn:H[n]?=some (valsI a c vs)){x:Val}{b:Nat}(hs:Rd w (some ⟨b,0,none⟩) (valC x))(hl:vs.length+1≤1000000){f:Value→World→Prop}
  (hf:∀ a' c' w',ST w0 w' (H.set n (valsI a' c' (vs++[x])))→f (.slice a' (vs++[x]).length c') w') :
  OPR Tryz.prog (Builtin.append_ #[t,t] t #[.slice a vs.length c,.slice (some ⟨b,0,none⟩) 1 1]) f w:=by
 refine S.app n hn ht rfl (by omega) (by omega) hs (mm:=1) rfl (by simp [valC];exact⟨rfl,rfl,rfl⟩) (by omega) fun a' c' w' S'=>?_
 have e1:(vs++[x]).length=vs.length+1:=by simp
 have e2:valsL vs++valC x=valsL (vs++[x]):=by simp [valsL]
 rw [e2] at S'
 have:=hf a' c' w' (by unfold valsI;rw [e1];exact S')
 rwa [e1] at this
end
section
variable {w:World}{a:Option Addr}{c:Nat}{ps:List RowP}
theorem ref09_Column_ok(hr:RowsAt w a ps)(hn:ps.length≤900000){k:Nat}(hk:∀ p∈ps,k<p.2.2.length) :
  Calls Tryz.prog f.ref09_Column #[.slice a ps.length c,.int .i64 (k:Int)] w (Ret fun v w'=>∃ a' c',v=.slice a' (colOf (rws ps) k).length c'∧ST w w' [valsI a' c' (colOf (rws ps) k)]):=by
 apply R.ref09_Column_calls
 unfold R.ref09_Column
 refine⟨fun s w1=>∃(i:Nat) (oa:Option Addr) (oc:Nat) (os:List Val),s=[.slice oa os.length oc,.int .i64 (i:Int)]∧i≤ps.length∧os=colOf (rws (ps.take i)) k∧ST w w1 [valsI oa oc os],fun s _=>match s with
   | [_,.int _ i]=>ps.length-i.toNat
   | _=>0,⟨0,none,0,[],rfl,by omega,rfl,(ST.start w).nil _ _⟩,?_⟩
 rintro oa _ oc _ w1 ⟨i,_,_,os,hst,hi,ho,S⟩
 cases hst
 have hol:os.length=i:=by rw [ho,colOf_len];simp;omega
 refine IFB_dec (fun hlt=>⟨⟨by omega,hlt⟩,?_⟩) (fun hge=>?_)
 ·have hil:i<ps.length:=by omega
  have hkl:=hk _ (List.getElem_mem hil)
  obtain⟨q,rfl,hq,hv⟩:=(hr.grown S.bel).at hil
  obtain⟨p,hp,c0,c1,c2⟩:=val_at hv hkl
  refine⟨_,_,_,by rw [Int.toNat_natCast];exact hq,⟨by omega,by omega⟩,?_⟩
  rw [hp]
  refine⟨_,by rw [Int.toNat_natCast];exact c0,_,by rw [Int.toNat_natCast];exact c1,_,by rw [Int.toNat_natCast];exact c2,S.newB fun b12 w2 _ _ S=>?_⟩
  have hsrc:Rd w2 (some ⟨b12,0,none⟩) (valC ps[i].2.2[k]):=S.rdc 0 rfl
  refine stAppV S 1 tVals rfl hsrc (by omega) fun a3 c3 w3 S=>⟨_,_,_,rfl,?_⟩
  rw [wrap_succ (by omega)]
  refine⟨⟨i+1,a3,c3,_,rfl,by omega,by rw [colOf_take ps hil hkl,ho],S.drop 1⟩,?_⟩
  show ps.length-((i+1:Nat):Int).toNat<ps.length-((i:Nat):Int).toNat
  simp only [Int.toNat_natCast]
  omega
 ·rw [List.take_of_length_le (by omega)] at ho
  subst ho
  exact⟨oa,oc,rfl,S⟩
theorem segment_byColumns_ok{a2:Option Addr}{c2 n:Nat}:Calls Tryz.prog f.segment_byColumns #[.slice a2 n c2,.slice a ps.length c] w (Ret fun v w'=>∃ b1 b2,v=.func (.func f.segment_byColumns_c1) #[] #[.pointer (some ⟨b1,0,none⟩),.pointer (some ⟨b2,0,none⟩)] ∧
  ST w w' [It.cells b2 #[.slice a ps.length c] ty.L_api_Row,It.cells b1 #[.slice a2 n c2] ty.L_api_Column]):=by
 apply R.segment_byColumns_calls
 unfold R.segment_byColumns
 exact (ST.start w).newB fun b1 w1 _ _ S1=>S1.newB fun b2 w2 _ _ S2=>⟨b1,b2,rfl,S2⟩
theorem byColumns_c1_ok{L b1 b2 n c2:Nat}{a2:Option Addr}(hn:n≤9223372036854775807)(hm:ps.length≤900000)(hk:∀ p∈ps,p.2.2.length=n)(J:Nat→World→Prop)(hrd:∀ k w,J k w→RowsAt w a ps∧w.cell? ⟨b2,0,none⟩=some (.slice a ps.length c))
  (hgrow:∀ k w w',J k w→Below w.heap.size w w'→J k w') (hstep:∀ k w la lc,k<n→J k w→Rd w la (valsL (colOf (rws ps) k))→YLD Tryz.prog L #[.int .i64 (k:Int),.slice la ps.length lc] (fun y w'=>y=true∧J (k+1) w') w)
  (h0:J 0 w) (hb:w.cell? ⟨b1,0,none⟩=some (.slice a2 n c2)) :
  Calls Tryz.prog f.segment_byColumns_c1 #[.func (.yield L) #[] #[],.pointer (some ⟨b1,0,none⟩),.pointer (some ⟨b2,0,none⟩)] w (Ret fun _ w'=>J n w'):=by
 apply R.segment_byColumns_c1_calls
 unfold R.segment_byColumns_c1
 refine⟨_,_,_,hb,fun s w1=>∃ k:Nat,k≤n∧s=[.int .i64 (k:Int)]∧J k w1,fun s _=>match s with
   | [.int _ i]=>n-i.toNat
   | _=>0,⟨0,by omega,rfl,h0⟩,?_⟩
 rintro _ w1 ⟨k,hkn,hst,hj⟩
 cases hst
 refine IFB_dec (fun hlt=>?_) (fun hge=>?_)
 ·have hkl:k<n:=by omega
  refine⟨_,_,_,(hrd _ _ hj).2,?_⟩
  refine⟨fun s w2=>∃(i:Nat) (oa:Option Addr) (oc:Nat) (os:List Val),s=[.slice oa os.length oc,.int .i64 (i:Int)]∧i≤ps.length∧os=colOf (rws (ps.take i)) k∧ST w1 w2 [valsI oa oc os],fun s _=>match s with
   | [_,.int _ i]=>ps.length-i.toNat
   | _=>0,⟨0,none,0,[],rfl,by omega,rfl,(ST.start w1).nil _ _⟩,?_⟩
  rintro oa _ oc _ w2 ⟨i,_,_,os,hst,hi,ho,S⟩
  cases hst
  have hol:os.length=i:=by rw [ho,colOf_len];simp;omega
  refine IFB_dec (fun hlt=>⟨⟨by omega,hlt⟩,?_⟩) (fun hge=>?_)
  ·have hil:i<ps.length:=by omega
   have hkl':k<ps[i].2.2.length:=by rw [hk _ (List.getElem_mem hil)];exact hkl
   obtain⟨q,rfl,hq,hv⟩:=((hrd _ _ hj).1.grown S.bel).at hil
   obtain⟨p,hp,c0,c1,c2⟩:=val_at hv hkl'
   refine⟨_,_,_,by rw [Int.toNat_natCast];exact hq,⟨by omega,by omega⟩,?_⟩
   rw [hp]
   refine⟨_,by rw [Int.toNat_natCast];exact c0,_,by rw [Int.toNat_natCast];exact c1,_,by rw [Int.toNat_natCast];exact c2,S.newB fun b12 w2 _ _ S=>?_⟩
   have hsrc:Rd w2 (some ⟨b12,0,none⟩) (valC ps[i].2.2[k]):=S.rdc 0 rfl
   refine stAppV S 1 tVals rfl hsrc (by omega) fun a3 c3 w3 S=>⟨_,_,_,rfl,?_⟩
   rw [wrap_succ (by omega)]
   refine⟨⟨i+1,a3,c3,_,rfl,by omega,by rw [colOf_take ps hil hkl',ho],S.drop 1⟩,?_⟩
   show ps.length-((i+1:Nat):Int).toNat<ps.length-((i:Nat):Int).toNat
   simp only [Int.toNat_natCast]
   omega
  ·have hie:i=ps.length:=by omega
   rw [List.take_of_length_le (by omega)] at ho
   subst ho
   rw [hol,hie,wrap_succ (by omega)]
   refine (hstep k w2 oa oc hkl (hgrow _ _ _ hj S.bel) (stRdV S 0 rfl)).mono ?_
   rintro y w3 ⟨rfl,h⟩
   refine IFB_false ⟨⟨k+1,by omega,rfl,h⟩,?_⟩
   show n-((k+1:Nat):Int).toNat<n-((k:Nat):Int).toNat
   simp only [Int.toNat_natCast]
   omega
 ·have:k=n:=by omega
  subst this
  exact hj
end
structure SegOk(cs:List Col)(rows:List (List Val)):Prop where
 right:rightCols cs=true
 len:rows.length≤1024
 fits:∀ r∈rows,fitsB cs r=true
 ok:∀ r∈rows,∀ v∈r,ValOk v
section
variable {cs:List Col}{rows:List (List Val)}
theorem fits_len{r:List Val}(h:fitsB cs r=true):r.length=cs.length:=by
 simp only [fitsB,Bool.and_eq_true,decide_eq_true_eq] at h
 exact h.1
theorem fits_at{r:List Val}(h:fitsB cs r=true){k:Nat}(h1:k<cs.length)(h2:k<r.length):fitV cs[k] r[k]=true:=by
 simp only [fitsB,Bool.and_eq_true,fitL,List.all_eq_true] at h
 exact h.2 (cs[k],r[k]) (List.mem_iff_getElem.2 ⟨k,by simp;omega,by simp⟩)
theorem SegOk.rowLen(h:SegOk cs rows){r:List Val}(hr:r∈rows):r.length=cs.length:=fits_len (h.fits r hr)
theorem SegOk.good(h:SegOk cs rows){k:Nat}(hk:k<cs.length):Good1 cs[k].2.1 (colOf rows k):=by
 have key:∀ v∈colOf rows k,okV cs[k].2.1 v=true∧ValOk v:=by
  intro v hv
  obtain⟨r,hr,rfl⟩:=List.mem_map.1 hv
  have hl:=h.rowLen hr
  have hkr:k<r.length:=by omega
  have e:r.getD k Z0=r[k]:=by simp [List.getD,hkr]
  rw [e]
  refine⟨?_,h.ok r hr _ (List.getElem_mem hkr)⟩
  have:=fits_at (h.fits r hr) hk hkr
  simp only [fitV,Bool.and_eq_true,Bool.or_eq_true,decide_eq_true_eq] at this
  simp only [okV,Bool.and_eq_true,Bool.or_eq_true,decide_eq_true_eq]
  exact⟨this.1,this.2.imp id fun h=>h.2⟩
 obtain⟨_,h1,h2,_⟩:=right_col h.right (List.getElem_mem hk)
 refine⟨?_,fun v hv=>(key v hv).2⟩
 have h3:(colOf rows k).all (okV cs[k].2.1)=true:=List.all_eq_true.2 fun v hv=>(key v hv).1
 have h4:1≤cs[k].2.1∧cs[k].2.1≤3∧(colOf rows k).length≤1024:=⟨h1,h2,by rw [colOf_len];exact h.len⟩
 simp [rightL,h3,h4]
end
theorem zmm_all{P:Val→Prop}{ls:List Val}(h0:P Z0)(h:∀ v∈ls,P v):P (zmm ls).1∧P (zmm ls).2:=by
 have key:∀ i,i≤ls.length→∀ p,zoneS (ls.take i)=some p→P p.1∧P p.2:=by
  intro i
  induction i with
  | zero=>intro _ p hp;simp [zoneS] at hp
  | succ i ih =>
   intro hi p hp
   have hil:i<ls.length:=by omega
   have hm:=h _ (List.getElem_mem hil)
   rw [zoneS_take hil] at hp
   unfold zstep at hp
   split at hp
   ·exact ih (by omega) p hp
   ·split at hp
    ·cases hp;exact⟨hm,hm⟩
    ·rename_i q hq
     obtain⟨q1,q2⟩:=ih (by omega) q hq
     cases hp
     refine⟨?_,?_⟩
     ·show P (if _ then _ else _)
      split
      ·exact hm
      ·exact q1
     ·show P (if _ then _ else _)
      split
      ·exact hm
      ·exact q2
 unfold zmm
 cases hz:zoneS ls with
 | none=>exact⟨h0,h0⟩
 | some p =>
  have:=key ls.length (Nat.le_refl _) p (by rw [List.take_length];exact hz)
  exact this
theorem Good1.rights{k:Int}{ls:List Val}(h:Good1 k ls):∀ v∈ls,rightB v=true∧ValOk v:=by
 intro v hv
 have:=h.all v hv
 simp only [okV,Bool.and_eq_true] at this
 exact⟨this.1,h.ok v hv⟩
theorem Good1.zone{k:Int}{ls:List Val}(h:Good1 k ls):(rightB (zmm ls).1=true∧ValOk (zmm ls).1)∧(rightB (zmm ls).2=true∧ValOk (zmm ls).2) :=
 zmm_all (P:=fun v=>rightB v=true∧ValOk v) ⟨by decide,valok_small (by decide) (by decide)⟩ h.rights
theorem Good1.zoneOk{k:Int}{ls:List Val}(h:Good1 k ls):zoneOk ls:=⟨h.len,fun v hv=>(h.rights v hv).1⟩
theorem layL_len{v:Val}(h:rightB v=true)(hv:ValOk v):(layL v).length≤1040:=by
 unfold layL
 split
 ·have:=digitsL_len10 (zigN_lt hv.lo hv.hi)
  simp only [List.length_cons]
  omega
 ·split
  ·simp
  ·split
   ·rename_i h3
    have hs:v.2.2.size≤1024:=by
     rcases right_kind h with h | h | ⟨h,_⟩ | ⟨_,h⟩
     ·omega
     ·omega
     ·omega
     ·exact h
    have:=textL_len hs
    simp only [List.length_cons]
    omega
   ·simp
theorem ChIs.len{k:Int}{ls:List Val}{b:List UInt8}(hg:Good1 k ls)(h:ChIs k ls b):b.length≤2000300:=by
 obtain⟨o,h1,h2,rfl⟩:=h.ex
 have hs:∀ x,(sum4 x).length=4:=fun x=>rfl
 have e1:=headL_len hg
 have e2:=maskL_len hg
 have e3:o.length≤2000000:=by
  by_cases hn:nullsN ls<ls.length
  ·exact (h1 hn).len hg
  ·rw [h2 hn];simp
 simp only [List.length_append,hs]
 omega
def lowB(n:Nat):List UInt8:=[UInt8.ofNat (n % 256),UInt8.ofNat (n / 256 % 256),UInt8.ofNat (n / 65536 % 256),UInt8.ofNat (n / 16777216 % 256)]
def magicB:List UInt8:=[83,89,68,49]
def footC(x:List UInt8)(l:List Val):List UInt8:=digitsL x.length++digitsL (nullsN l)++layL (zmm l).1++layL (zmm l).2
def footsL(rows:List (List Val))(xs:List (List UInt8)):List UInt8:=(xs.mapIdx fun i x=>footC x (colOf rows i)).flatten
theorem footsL_snoc(rows:List (List Val))(xs:List (List UInt8))(x:List UInt8):footsL rows (xs++[x])=footsL rows xs++footC x (colOf rows xs.length):=by
 unfold footsL
 rw [List.mapIdx_concat]
 simp
def footL(cs:List Col)(rows:List (List Val))(xs:List (List UInt8)):List UInt8:=schL cs++digitsL rows.length++footsL rows xs
def preL(cs:List Col)(rows:List (List Val))(xs:List (List UInt8)):List UInt8:=magicB++xs.flatten++footL cs rows xs++lowB (footL cs rows xs).length
def sealD(p:List UInt8):List UInt8:=p++digP p
structure ChsIs(cs:List Col)(rows:List (List Val))(xs:List (List UInt8)):Prop where
 len:xs.length≤cs.length
 each:∀ i (h1:i<cs.length) (h2:i<xs.length),ChIs cs[i].2.1 (colOf rows i) xs[i]
theorem ChsIs.nil(cs:List Col)(rows:List (List Val)):ChsIs cs rows []:=⟨by simp,fun i _ h=>by simp at h⟩
theorem ChsIs.snoc{cs:List Col}{rows:List (List Val)}{xs:List (List UInt8)}(h:ChsIs cs rows xs){x:List UInt8}(h1:xs.length<cs.length)(hx:ChIs cs[xs.length].2.1 (colOf rows xs.length) x):ChsIs cs rows (xs++[x]):=by
 refine⟨by simp;omega,fun i g1 g2=>?_⟩
 rcases Nat.lt_or_ge i xs.length with h3 | h3
 ·rw [List.getElem_append_left h3]
  exact h.each i g1 h3
 ·have:i=xs.length:=by simp at g2;omega
  subst this
  simp only [List.getElem_concat_length]
  exact hx
theorem ChsIs.one{cs:List Col}{rows:List (List Val)}{xs ys:List (List UInt8)}(h:ChsIs cs rows xs)(h':ChsIs cs rows ys)(hl:xs.length=ys.length):xs=ys:=by
 refine List.ext_getElem hl fun i h1 h2=>?_
 have:=h.len
 exact (h.each i (by omega) h1).one (h'.each i (by omega) h2)
theorem flatten_le{xs:List (List UInt8)}{m:Nat}(h:∀ x∈xs,x.length≤m):xs.flatten.length≤xs.length*m:=by
 induction xs with
 | nil=>simp
 | cons x xs ih =>
  have h1:=h x (by simp)
  have h2:=ih fun y hy=>h y (by simp [hy])
  simp only [List.flatten_cons,List.length_append,List.length_cons,Nat.add_mul]
  omega
theorem footC_len{k:Int}{x:List UInt8}{l:List Val}(hg:Good1 k l)(hx:x.length≤2000300):(footC x l).length≤2100:=by
 have h1:=digitsL_len10 (n:=x.length) (by omega)
 have h2:=digitsL_len10 (n:=nullsN l) (by have:=nullsN_le l;have:=hg.len;omega)
 have h3:=layL_len hg.zone.1.1 hg.zone.1.2
 have h4:=layL_len hg.zone.2.1 hg.zone.2.2
 simp only [footC,List.length_append]
 omega
section
variable {cs:List Col}{rows:List (List Val)}{xs:List (List UInt8)}
theorem ChsIs.lens(h:ChsIs cs rows xs)(hs:SegOk cs rows):∀ x∈xs,x.length≤2000300:=by
 intro x hx
 obtain⟨i,hi,rfl⟩:=List.getElem_of_mem hx
 have:=h.len
 exact (h.each i (by omega) hi).len (hs.good (by omega))
theorem ChsIs.flat(h:ChsIs cs rows xs)(hs:SegOk cs rows):xs.flatten.length≤33000000:=by
 have h1:=flatten_le (h.lens hs)
 have h2:=h.len
 have h3:=right_len hs.right
 have:xs.length*2000300≤16*2000300:=Nat.mul_le_mul_right _ (by omega)
 omega
theorem ChsIs.foots(h:ChsIs cs rows xs)(hs:SegOk cs rows):(footsL rows xs).length≤34000:=by
 have h1:(footsL rows xs).length≤(xs.mapIdx fun i x=>footC x (colOf rows i)).length*2100:=by
  refine flatten_le fun x hx=>?_
  obtain⟨i,hi,rfl⟩:=List.mem_mapIdx.1 hx
  have:=h.len
  exact footC_len (hs.good (by omega:i<cs.length)) (h.lens hs _ (List.getElem_mem hi))
 rw [List.length_mapIdx] at h1
 have h2:=h.len
 have h3:=right_len hs.right
 omega
theorem ChsIs.footLen(h:ChsIs cs rows xs)(hs:SegOk cs rows):(footL cs rows xs).length≤35000:=by
 have h1:=h.foots hs
 have h2:=schL_len hs.right
 have h3:=digitsL_len10 (n:=rows.length) (by have:=hs.len;omega)
 simp only [footL,List.length_append]
 omega
theorem ChsIs.preLen(h:ChsIs cs rows xs)(hs:SegOk cs rows):(preL cs rows xs).length≤34000000:=by
 have h1:=h.footLen hs
 have h2:=h.flat hs
 simp only [preL,List.length_append,magicB,lowB,List.length_cons,List.length_nil]
 omega
end
structure SegIs(cs:List Col)(rows:List (List Val))(b:List UInt8):Prop where
 ex:∃ xs,xs.length=cs.length∧ChsIs cs rows xs∧b=sealD (preL cs rows xs)
theorem SegIs.one{cs:List Col}{rows:List (List Val)}{b b':List UInt8}(h:SegIs cs rows b)(h':SegIs cs rows b'):b=b':=by
 obtain⟨xs,h1,h2,rfl⟩:=h.ex
 obtain⟨ys,k1,k2,rfl⟩:=h'.ex
 rw [h2.one k2 (by omega)]
def segE(cs:List Col)(rows:List (List Val)):Int:=if rightCols cs=false then 50 else if 1024<rows.length∨∃ r∈rows,fitsB cs r=false then 51 else 0
def SegV(cs:List Col)(rows:List (List Val))(v:Value):Prop :=
 (¬ SegOk cs rows∧v=.tuple #[.string ⟨#[]⟩,.int .i64 (segE cs rows)]∧segE cs rows≠0)∨(SegOk cs rows∧∃ b,v=.tuple #[.string (sof b),.int .i64 0]∧SegIs cs rows b)
end Go.Proofs.YtipgnehlihmdhaaGreatDoor
namespace Go.Dn
set_option maxRecDepth 100000
open Go.RowKit (Below)
theorem conv_lit{P:Program}{bt el:TypeId}(hb:P.underlying bt=some (.slice el))(he:P.underlying el=some (.int .u8)){w:World}{b n c:Nat}{cs:Array Value}{e:TypeId}(hg:w.heap[b]?=some (.cells cs e (0,0))){f:Value→World→Prop}
  (hf:∀ w',Keeps (·=b) w w'→w'.heap[b]?=some (.cells cs e (cs.size,cs.size+1))→f (.slice (some ⟨b,0,none⟩) n c) w'):OPR P (convert bt bt (.slice (some ⟨b,0,none⟩) n c)) f w:=by
 have hshape:w.shape? b=some (e,cs.size):=by simp [World.shape?,hg]
 have hmark:(markStringish ⟨b,0,none⟩).run P w=.ok () (w.freeze ⟨b,cs.size,none⟩ 1):=by simp [markStringish,hshape]
 have hrun:(convert bt bt (.slice (some ⟨b,0,none⟩) n c)).run P w=.ok (.slice (some ⟨b,0,none⟩) n c) (w.freeze ⟨b,cs.size,none⟩ 1):=by
  simp only [convert,Sem.run_bind,run_underlying hb,run_underlying he,Result.andThen_ok,beq_self_eq_true,hmark,Sem.run_pure]
 unfold OPR
 rw [hrun]
 refine hf _ (freeze_keeps (·=b) w ⟨b,cs.size,none⟩ 1 rfl) ?_
 unfold World.freeze
 simp [Array.getElem?_modify,hg]
theorem append_grow{P:Program}{t ty e:TypeId}{sz bytes:Nat}{z:Value}(hT:slT P t=some (e,sz,bytes,z))(hz:z.cells.size=sz)(hsz:0<sz)(hb0:0<bytes)
  {w:World} {p:Addr} {n c:Nat} {xs:List Value} (hr:Rd w (some p) xs) (hxl:xs.length=n*sz) {b:Option Addr} {m mc:Nat} {news:List Value} (hs:Rd w b news) (hl:news.length=m*sz) (hm:0<m)
  (hc:c<n+m) (_hnc:n≤c) (hby:(n+m)*bytes≤140737488355328) :
  ∃ a' c' w',(Builtin.append_ #[t,t] ty #[.slice (some p) n c,.slice b m mc]).run P w=.ok (.slice a' (n+m) c') w'∧Row w' e sz a' (n+m) c' (xs++news)∧Below w.heap.size w w'∧(∀ k,rowB a'=some k→w.heap.size≤k):=by
 obtain⟨hu,i,hi,hiz,rfl,rfl⟩:=slT_out hT
 have hnm:n+m≤140737488355328:=Nat.le_trans (Nat.le_mul_of_pos_right _ hb0) hby
 have hlen:(xs++news).length=(n+m)*i.size:=by rw [List.length_append,hxl,hl,Nat.add_mul]
 have h0:0<news.length:=by rw [hl];exact Nat.mul_pos hm hsz
 obtain⟨q,rfl,_⟩:=hs 0 news[0] (List.getElem?_eq_getElem h0)
 have hq:∀ j u,news[j]?=some u→w.cell? (q.add j)=some u:=by
  intro j u hu
  obtain⟨q',hq',hc⟩:=hs j u hu
  cases hq'
  exact hc
 have hold:∀ j v,xs[j]?=some v→w.cell? (p.add j)=some v:=by
  intro j v hv
  obtain⟨q',hq',hc⟩:=hr j v hv
  cases hq'
  exact hc
 have hge:=grownCap_ge w (n+m) c e
 have hcm:grownCap w (n+m) c e≤maxLen:=grownCap_le_maxLen w (n+m) c e (by unfold maxLen;omega)
 have hrun:=run_append_grow (P:=P) w t ty e i z hu hi hiz p n c xs hxl hold q m mc news hl hq (by omega) (by omega) (growslice_fits (by omega) hby)
 refine⟨_,_,_,hrun,⟨hlen,.inr ⟨w.heap.size,_,rfl,heap_alloc_new w.drew _,hge,by unfold maxLen at hcm;omega,?_,?_⟩⟩,((Below.refl _ w).drew).alloc (Nat.le_refl _) _,fun k hk=>?_⟩
 ·simp only [Array.size_append,List.size_toArray,size_zeroCells,hz,hxl,hl,← Nat.add_mul]
  congr 1
  omega
 ·simp only [Array.toList_append,List.append_assoc]
  rw [← List.append_assoc,← hlen]
  exact List.take_left
 ·simp [rowB] at hk
  omega
def It.buf(e:TypeId)(sz:Nat)(a:Option Addr)(n c:Nat)(xs:List Value):It where
 blk:=rowB a
 ok:=fun w=>Row w e sz a n c xs∨(∃ p,a=some p∧c=n∧Rd w a xs∧xs.length=n*sz∧p.block<w.heap.size)
 st:=fun w w' h h0=>by
  rcases h0 with h0 | ⟨p,rfl,h1,h2,h3,h4⟩
  ·exact .inl ((It.row e sz a n c xs).st w w' h h0)
  ·refine .inr ⟨p,rfl,h1,?_,h3,?_⟩
   ·intro j v hv
    obtain⟨q,hq,hc⟩:=h2 j v hv
    cases hq
    exact⟨p,rfl,by rw [World.cell?_of_block (w:=w) (by rw [addr_add_block];exact h p.block rfl)];exact hc⟩
   ·have:=h p.block rfl
    rw [Array.getElem?_eq_getElem h4] at this
    exact (Array.getElem?_eq_some_iff.1 this).1
 lt:=fun w h k hk=>by
  rcases h with h | ⟨p,rfl,_,_,_,h4⟩
  ·exact h.lt hk
  ·cases hk;exact h4
section
variable {w0 w:World}{H:List It}
theorem ST.appF(S:ST w0 w H)(n:Nat){P:Program}{t ty e:TypeId}{sz bytes:Nat}{z:Value}{a:Option Addr}{m c:Nat}{xs:List Value}(hn:H[n]?=some (It.buf e sz a m c xs))(hT:slT P t=some (e,sz,bytes,z))(hz:z.cells.size=sz)(hsz:0<sz)(hb0:0<bytes)
  {b:Option Addr} {mm mc:Nat} {news:List Value} (hs:Rd w b news) (hl:news.length=mm*sz) (hmm:0<mm) (h1:∀ u∈news,u.oneCell'=true) (hby:(m+mm)*bytes≤140737488355328) {f:Value→World→Prop}
  (hf:∀ a' c' w',ST w0 w' (H.set n (It.row e sz a' (m+mm) c' (xs++news)))→f (.slice a' (m+mm) c') w'):OPR P (Builtin.append_ #[t,t] ty #[.slice a m c,.slice b mm mc]) f w:=by
 rcases S.get n hn with h | ⟨p,rfl,rfl,h2,h3,h4⟩
 ·obtain⟨a',c',w',hrun,hrow,hk,hnew⟩:=append_row (ty:=ty) (mc:=mc) hT hz hsz hb0 h hs hl h1 hby
  unfold OPR
  rw [hrun]
  exact hf a' c' w' (S.chg n hn hk _ hrow hnew)
 ·obtain⟨a',c',w',hrun,hrow,hB,hnew⟩:=append_grow (ty:=ty) (mc:=mc) hT hz hsz hb0 h2 h3 hs hl hmm (by omega) (Nat.le_refl _) hby
  unfold OPR
  rw [hrun]
  exact hf a' c' w' (S.chg n hn (Keeps.of_below hB) _ hrow (fun k hk=>.inr (hnew k hk)))
theorem ST.rdF(S:ST w0 w H)(n:Nat){e:TypeId}{sz:Nat}{a:Option Addr}{m c:Nat}{xs:List Value}(hn:H[n]?=some (It.buf e sz a m c xs)):Rd w a xs:=by
 rcases S.get n hn with h | ⟨p,rfl,rfl,h2,h3,h4⟩
 ·exact h.rd
 ·exact h2
end
end Go.Dn
namespace Go.Proofs.YtipgnehlihmdhaaGreatDoor
set_option maxRecDepth 100000
open Go.Dn Go.Proofs
open Go.RowKit (Below)
set_option linter.unusedVariables false
theorem und_B:Tryz.prog.underlying ty.L_uint8=some (.slice ty.uint8):=by kernel_rfl
theorem und_u8:Tryz.prog.underlying ty.uint8=some (.int .u8):=by kernel_rfl
theorem LIKEL_by(l:List UInt8){n:Nat}{f:List Value→Prop}(hn:l.length=n)(h:f (l.map byteV)):LIKEL (List.replicate n (.int .u8 0)) f :=
 LIKEL_ints .u8 (l.map uI) (by simpa using hn) (by rw [← map_byteV];exact h)
def bufI(a:Option Addr)(c:Nat)(l:List UInt8):It:=It.buf ty.uint8 1 a l.length c (l.map byteV)
section
variable {w0 w:World}{H:List It}{a:Option Addr}{c:Nat}{l:List UInt8}
theorem stAppF(S:ST w0 w H)(n:Nat)(hn:H[n]?=some (bufI a c l)){m:List UInt8}{b:Option Addr}{mc:Nat}(hs:Rd w b (m.map byteV))(h0:0<m.length)(hl:l.length+m.length≤140737488355328){f:Value→World→Prop}
  (hf:∀ a' c' w',ST w0 w' (H.set n (bytesI a' c' (l++m)))→f (.slice a' (l++m).length c') w') :
  OPR Tryz.prog (Builtin.append_ #[ty.L_uint8,ty.L_uint8] ty.L_uint8 #[.slice a l.length c,.slice b m.length mc]) f w:=by
 refine S.appF n hn tB zB (by omega) (by omega) hs (mm:=m.length) (by simp) h0 (bytes_one _) (by omega) fun a' c' w' S'=>?_
 have e1:(l++m).length=l.length+m.length:=by simp
 rw [← List.map_append] at S'
 have:=hf a' c' w' (by unfold bytesI;rw [e1];exact S')
 rwa [e1] at this
theorem stToBuf(S:ST w0 w H)(n:Nat)(hn:H[n]?=some (bytesI a c l)):ST w0 w (H.set n (bufI a c l)):=S.chg n hn (.refl _ _) _ (.inl (S.get n hn)) (fun k hk=>.inl hk)
theorem stAppK(S:ST w0 w H)(n:Nat)(hn:H[n]?=some (bytesI a c l)){m:List UInt8}{k:Nat}(hk:m.length=k){b:Option Addr}{mc:Nat}(hs:Rd w b (m.map byteV))(hl:l.length+m.length≤140737488355328){f:Value→World→Prop}
  (hf:∀ a' c' w',ST w0 w' (H.set n (bytesI a' c' (l++m)))→f (.slice a' (l++m).length c') w') :
  OPR Tryz.prog (Builtin.append_ #[ty.L_uint8,ty.L_uint8] ty.L_uint8 #[.slice a l.length c,.slice b k mc]) f w:=by
 subst hk
 exact stAppB S n hn hs hl hf
end
section
variable {w:World}{a a2:Option Addr}{c c2:Nat}{cs:List Col}{ps:List RowP}
theorem segment_low_ok(n:Nat)(hn:n<4294967296):Calls Tryz.prog f.segment_low #[.int .i64 (n:Int)] w (Ret fun v w'=>∃ b,v=.slice (some ⟨b,0,none⟩) 4 4∧NewB w w' (lowB n) (some ⟨b,0,none⟩) 4):=by
 apply R.segment_low_calls
 unfold R.segment_low
 refine (ST.start w).newB fun b w1 hb B S=>⟨b,rfl,?_⟩
 have sh:∀ k,Int.fdiv (n:Int) (2 ^ k)=((n / 2 ^ k:Nat):Int):=fun k=>by
  rw [Int.fdiv_eq_ediv_of_nonneg _ (Int.pow_nonneg (by decide))]
  norm_cast
 have by_:∀ m:Nat,Value.int .u8 (IntKind.u8.wrap (m:Int))=byteV (UInt8.ofNat (m % 256)):=fun m=>by
  rw [wrap_u8,← byteV_of (x:=m % 256) (by omega)]
  congr 1
 have e:(#[Value.int .u8 (IntKind.u8.wrap (n:Int)),.int .u8 (IntKind.u8.wrap (Int.fdiv (n:Int) (2 ^ (min 8 64)))),.int .u8 (IntKind.u8.wrap (Int.fdiv (n:Int) (2 ^ (min 16 64)))),.int .u8 (IntKind.u8.wrap (Int.fdiv (n:Int) (2 ^ (min 24 64))))]:Array Value)=((lowB n).map byteV).toArray:=by
  rw [show min 8 64=8 from rfl,show min 16 64=16 from rfl,show min 24 64=24 from rfl,sh,sh,sh,by_,by_,by_,by_]
  rfl
 rw [e] at S
 have hg:=S.blk 0 rfl
 exact⟨⟨rfl,.inr ⟨b,_,rfl,hg,Nat.le_refl _,by decide,rfl,rfl⟩⟩,fun k hk=>by cases hk;exact hb,B⟩
theorem Write_c1_ok{b:Nat}{r:List Val}{ra:Option Addr}{rc:Nat}(hc:w.cell? ⟨b,0,none⟩=some (.slice a cs.length c))(hl:Rd w a (colsL cs))(hn:cs.length≤9223372036854775807)(hq:∀ c∈cs,c.1.size≤9223372036854775807)(hr:Rd w ra (valsL r)) :
  Calls Tryz.prog f.segment_Write_c1 #[.slice ra r.length rc,.pointer (some ⟨b,0,none⟩)] w (Ret fun v w'=>v=.bool (!(rightCols cs && fitsB cs r))∧Below w.heap.size w w'):=by
 apply R.segment_Write_c1_calls
 unfold R.segment_Write_c1
 refine⟨_,_,_,hc,(schema_Fits_ok hl hn hq hr).mono ?_⟩
 rintro _ w1 ⟨_,rfl,rfl,B⟩
 exact⟨_,rfl,rfl,B⟩
theorem IndexRows_ok{b:Nat}(hc:w.cell? ⟨b,0,none⟩=some (.slice a cs.length c))(hl:Rd w a (colsL cs))(hn:cs.length≤9223372036854775807)(hq:∀ c∈cs,c.1.size≤9223372036854775807)(hr:RowsAt w a2 ps)(hm:ps.length≤900000) :
  Calls Tryz.prog f.slices_IndexFunc_api_Row_api_Row #[.slice a2 ps.length c2,.func (.func f.segment_Write_c1) #[] #[.pointer (some ⟨b,0,none⟩)]] w (Ret fun v w'=>∃ z:Int,v=.int .i64 z∧Below w.heap.size w w'∧(0≤z↔∃ r∈rws ps,(rightCols cs && fitsB cs r)=false)):=by
 apply R.slices_IndexFunc_api_Row_api_Row_calls
 unfold R.slices_IndexFunc_api_Row_api_Row
 refine⟨fun st w2=>∃ i:Nat,st=[.int .i64 (i:Int)]∧i≤ps.length∧(∀ r∈rws (ps.take i),(rightCols cs && fitsB cs r)=true)∧Below w.heap.size w w2,fun st _=>match st with | [.int _ t]=>ps.length-t.toNat | _=>0,⟨0,rfl,by omega,by simp,.refl _ _⟩,?_⟩
 rintro t w2 ⟨i,hst,hi,hall,B2⟩
 cases hst
 refine IFB_dec (fun hlt=>⟨⟨by omega,hlt⟩,?_⟩) (fun hge=>⟨_,rfl,B2,?_⟩)
 ·have hil:i<ps.length:=by omega
  obtain⟨q,rfl,hq1,hv⟩:=(hr.grown B2).at hil
  have hc2:w2.cell? ⟨b,0,none⟩=some (.slice a cs.length c):=(Keeps.of_below (F:=fun _=>False) B2).cell hc (by simp)
  refine⟨_,_,_,by rw [Int.toNat_natCast];exact hq1,?_⟩
  rw [show enters Tryz.prog f.segment_Write_c1=true by kernel_rfl]
  refine (Write_c1_ok hc2 (hl.grown B2) hn hq hv).mono ?_
  rintro _ w3 ⟨_,rfl,rfl,B3⟩
  refine⟨_,rfl,IFB_not (IFB_of (fun hf=>?_) (fun hf=>?_))⟩
  ·rw [wrap_succ (by omega)]
   refine⟨⟨i+1,rfl,by omega,fun r hr=>?_,below_trans B2 B3⟩,?_⟩
   ·simp only [rws,List.mem_map] at hr
    obtain⟨p,hp,rfl⟩:=hr
    rw [List.take_succ_eq_append_getElem hil] at hp
    rcases List.mem_append.1 hp with h | h
    ·exact hall _ (List.mem_map.2 ⟨p,h,rfl⟩)
    ·rw [List.mem_singleton.1 h];exact hf
   ·show ps.length-((i+1:Nat):Int).toNat<ps.length-((i:Nat):Int).toNat
    simp only [Int.toNat_natCast]
    omega
  ·exact⟨_,rfl,below_trans B2 B3,⟨fun _=>⟨_,List.mem_map.2 ⟨ps[i],List.getElem_mem hil,rfl⟩,hf⟩,fun _=>by omega⟩⟩
 ·rw [List.take_of_length_le (by omega)] at hall
  constructor
  ·intro h;omega
  ·rintro⟨r,hr,hf⟩
   rw [hall r hr] at hf
   cases hf
theorem ContainsRows_ok{b:Nat}(hc:w.cell? ⟨b,0,none⟩=some (.slice a cs.length c))(hl:Rd w a (colsL cs))(hn:cs.length≤9223372036854775807)(hq:∀ c∈cs,c.1.size≤9223372036854775807)(hr:RowsAt w a2 ps)(hm:ps.length≤900000) :
  Calls Tryz.prog f.slices_ContainsFunc_api_Row_api_Row #[.slice a2 ps.length c2,.func (.func f.segment_Write_c1) #[] #[.pointer (some ⟨b,0,none⟩)]] w (Ret fun v w'=>∃ z:Bool,v=.bool z∧Below w.heap.size w w'∧(z=true↔∃ r∈rws ps,(rightCols cs && fitsB cs r)=false)):=by
 apply R.slices_ContainsFunc_api_Row_api_Row_calls
 unfold R.slices_ContainsFunc_api_Row_api_Row
 refine (IndexRows_ok hc hl hn hq hr hm).mono ?_
 rintro _ w1 ⟨_,rfl,z,rfl,B,h⟩
 exact⟨_,rfl,_,rfl,B,by rw [decide_eq_true_eq];exact h⟩
theorem lay_good{l:List UInt8}{v:Val}{r:Value}{w w':World}(hr:rightB v=true)(h:layV l v r w w'):∃ a c,r=.tuple #[.slice a (l++layL v).length c,.int .i64 0]∧NewB w w' (l++layL v) a c:=by
 rcases h with ⟨h,_⟩ | ⟨_,h⟩
 ·rw [hr] at h;cases h
 ·exact h
set_option maxHeartbeats 1000000 in
theorem segment_Write_ok(T:Tabs w)(hl:Rd w a (colsL cs))(hn:cs.length≤9223372036854775807)(hq:∀ c∈cs,c.1.size≤9223372036854775807)(hr:RowsAt w a2 ps)(hm:ps.length≤9223372036854775807)(hv:∀ r∈rws ps,∀ v∈r,ValOk v) :
  Calls Tryz.prog f.segment_Write #[.slice a cs.length c,.slice a2 ps.length c2] w (Ret fun v w'=>SegV cs (rws ps) v∧Below w.heap.size w w'):=by
 apply R.segment_Write_calls
 unfold R.segment_Write
 refine (ST.start w).newB fun b3 w1 hb3 B1 S=>⟨_,_,_,S.cell 0 rfl rfl,?_⟩
 refine (schema_Lay_ok (l:=[]) (a:=none) (c:=0) (Rd.nil _ _) (by simp) (hl.grown S.bel) hn hq).mono ?_
 rintro _ w2 ⟨_,rfl,h2⟩
 have bad:∀ {wx:World} (e:Int),Below w.heap.size w wx→(segE cs (rws ps)=e)→e≠0→SegV cs (rws ps) (.tuple #[.string ⟨#[]⟩,.int .i64 e])∧Below w.heap.size w wx:=by
  rintro wx e B rfl h0
  refine⟨.inl ⟨fun hs=>h0 ?_,rfl,h0⟩,B⟩
  have h1:¬ (1024<(rws ps).length∨∃ r∈rws ps,fitsB cs r=false):=by
   rintro (h | ⟨r,hr,h⟩)
   ·have:=hs.len;omega
   ·rw [hs.fits r hr] at h;cases h
  have h2:¬ rightCols cs=false:=by rw [hs.right];decide
  rw [segE,if_neg h2,if_neg h1]
 rcases h2 with ⟨hR,rfl,B2⟩ | ⟨hR,a2',c2',rfl,h2⟩
 ·refine⟨_,_,_,_,rfl,(S.grown B2).newB fun b8 w3 _ _ S=>S.sto 0 rfl (by simp) rfl fun w4 S=>IFB_ne (fun _=>bad 50 S.bel ?_ (by decide)) (fun h=>by cases h)⟩
  rw [segE,if_pos hR]
 have hRn:¬ rightCols cs=false:=by rw [hR];decide
 rw [List.nil_append] at h2 ⊢
 have S:=stAddB S h2
 refine⟨_,_,_,_,rfl,S.newB fun b8 w3 _ _ S=>S.sto 0 rfl (cs':=#[.slice a2' (schL cs).length c2']) (by simp) rfl fun w4 S=>IFB_ne (fun h=>absurd rfl h) (fun _=>IFB_dec (fun h=>bad 51 S.bel ?_ (by decide)) (fun hlen=>?_))⟩
 ·have:1024<(rws ps).length:=by simp only [rws,List.length_map];omega
  rw [segE,if_neg hRn,if_pos (.inl this)]
 have hlen':ps.length≤1024:=by omega
 refine (ContainsRows_ok (S.cell 2 rfl rfl) (hl.grown S.bel) hn hq (hr.grown S.bel) (by omega)).mono ?_
 rintro _ w5 ⟨_,rfl,z,rfl,B5,hz⟩
 have S:=S.grown B5
 refine⟨_,rfl,IFB_of (fun h=>bad 51 S.bel ?_ (by decide)) (fun hz0=>?_)⟩
 ·obtain⟨r,hr,hf⟩:=hz.1 h
  rw [hR,Bool.true_and] at hf
  rw [segE,if_neg hRn,if_pos (.inr ⟨r,hr,hf⟩)]
 have hok:SegOk cs (rws ps):=by
  refine⟨hR,by simp only [rws,List.length_map];omega,fun r hr=>?_,hv⟩
  cases hf:fitsB cs r with
  | true=>rfl
  | false =>
   have:=hz.2 ⟨r,hr,by rw [hf,Bool.and_false]⟩
   rw [hz0] at this;cases this
 have hrl:∀ p∈ps,p.2.2.length=cs.length:=fun p hp=>hok.rowLen (List.mem_map.2 ⟨p,hp,rfl⟩)
 have hcl:=right_len hR
 have hsl:=schL_len hR
 have d1:=digitsL_len10 (n:=ps.length) (by omega)
 have hrd5:Rd w5 a2' ((schL cs).map byteV):=stRdB S 1 rfl
 rw [wrap_u64_id (by omega) (by omega)]
 refine⟨_,_,_,S.cell 0 rfl rfl,(wire_Number_ok (schL cs) hrd5 ps.length (by omega) (by omega)).mono ?_⟩
 rintro _ w6 ⟨_,rfl,a6,c6,rfl,h6⟩
 have S:=stAddB S h6
 refine⟨_,_,_,rfl,S.sto 1 rfl (cs':=#[.slice a6 (schL cs++digitsL ps.length).length c6]) (by simp) rfl fun w7 S=>S.newB fun b14 w8 hb14 _ S=>conv_lit und_B und_u8 (S.blk 0 rfl) fun w9 K9 hg9=>⟨_,_,_,rfl,?_⟩⟩
 have S:=S.chg 0 rfl (K9.mono fun k _ h=>by subst h;rfl) (bufI (some ⟨b14,0,none⟩) 4 magicB) (.inr ⟨_,rfl,rfl,Rd.of_block0 hg9,rfl,(Array.getElem?_eq_some_iff.1 hg9).1⟩) (fun k hk=>.inl hk)
 refine S.newB fun b17 w10 _ _ S=>S.sto 0 rfl (cs':=#[.slice (some ⟨b14,0,none⟩) 4 4]) (by simp) rfl fun w11 S=>⟨_,_,_,S.cell 5 rfl rfl,segment_byColumns_ok.mono ?_⟩
 rintro _ w12 ⟨_,rfl,q1,q2,rfl,P⟩
 have S:=S.join P
 refine⟨_,_,_,rfl,by kernel_rfl,fun rr hst hpe hy=>?_⟩
 have S:=S.range rr
 obtain⟨L,hL⟩:∃ L,L=w12.heap.size+1:=⟨_,rfl⟩
 obtain⟨d,hd⟩:∃ d,d=w12.heap.size:=⟨_,rfl⟩
 rw [← hL] at S hy ⊢
 rw [← hd] at S ⊢
 have S:=S.pull 6 rfl
 let Hq:Obj→Option Addr→Nat→List UInt8→Option Addr→Nat→List UInt8→List It:=fun o fa fc ft ba bc bb=>[bytesI fa fc ft,It.obj L o,It.obj d (.deferred (some [])),It.cells q2 #[.slice a2 ps.length c2] ty.L_api_Row,It.cells q1 #[.slice a cs.length c] ty.L_api_Column,
  It.cells b17 #[.slice ba bb.length bc] ty.L_uint8,bufI ba bc bb,It.cells b8 #[.slice fa ft.length fc] ty.L_uint8,bytesI a2' c2' (schL cs),It.cells b3 #[.slice a cs.length c] ty.L_api_Column]
 let J:Nat→World→Prop:=fun q wx=>∃(xs:List (List UInt8)) (fa:Option Addr) (fc:Nat) (ba:Option Addr) (bc:Nat),xs.length=q∧ChsIs cs (rws ps) xs ∧
  ST w wx (Hq (.loop rr) fa fc (schL cs++digitsL ps.length++footsL (rws ps) xs) ba bc (magicB++xs.flatten))
 have hcall:=byColumns_c1_ok (w:=(w12.alloc (.deferred (some []))).alloc (.loop rr)) (c:=c2) (L:=L) (b1:=q1) (b2:=q2) (a:=a2) (c2:=c) (a2:=a) (n:=cs.length) hn (by omega) hrl J (fun q wx hj=>by
   obtain⟨xs,fa,fc,ba,bc,_,_,S⟩:=hj
   exact⟨hr.grown S.bel,S.cell 3 rfl rfl⟩) (fun q wx wy hj B=>by
   obtain⟨xs,fa,fc,ba,bc,h1,h2,S⟩:=hj
   exact⟨xs,fa,fc,ba,bc,h1,h2,S.grown B⟩) (by
  rintro q wx la lc hqn ⟨xs,fa,fc,ba,bc,hxl,hch,S⟩ hla
  subst hxl
  have hg:=hok.good hqn
  have hfl:=hch.flat hok
  have hfo:=hch.foots hok
  obtain⟨⟨z1,z2⟩,z3,z4⟩:=hg.zone
  have hcol:(colOf (rws ps) xs.length).length=ps.length:=by rw [colOf_len];simp [rws]
  refine hy _ _ _ _ _ wx (S.get 1 rfl) ?_
  refine S.begrK 1 rfl fun w14 hk14 S=>?_
  obtain⟨p,hp,c0,c1,c2⟩:=col_at (hl.grown S.bel) hqn
  refine⟨_,_,_,S.cell 9 rfl rfl,⟨by omega,by omega⟩,?_⟩
  rw [hp]
  refine⟨_,by rw [Int.toNat_natCast];exact c1,?_⟩
  have hla14:=hk14 _ _ hla
  have hE:=chunk_Encode_ok (c:=lc) cs[xs.length].2.1 hla14 (by omega) hg.ok
  rw [hcol] at hE
  refine hE.mono ?_
  rintro _ w15 ⟨_,rfl,h15⟩
  rcases h15 with ⟨hno,_⟩ | ⟨_,x,xa,xc,hx,rfl,h15⟩
  ·rw [hg.right] at hno;cases hno
  have hxl:=hx.len hg
  have hx5:0<x.length:=by have:=(hx.read hg).2.1;omega
  have S:=stAddB S h15
  have hZ:=chunk_Zone_ok (c:=lc) (hla14.grown h15.bel)
  rw [hcol] at hZ
  refine⟨_,_,_,_,rfl,hZ.mono ?_⟩
  rintro _ w16 ⟨_,rfl,hzv,B16⟩
  rcases hzv with ⟨_,rfl⟩ | ⟨hno,_⟩
  case inr=>exact absurd hg.zoneOk hno
  have S:=S.grown B16
  refine⟨_,_,_,_,_,_,_,_,rfl,S.newB fun b39 w17 _ _ S=>S.sto7 0 rfl fun w24 S=>⟨_,_,_,S.cell 7 rfl rfl,?_⟩⟩
  have hrx:Rd w24 xa (x.map byteV):=stRdB S 1 rfl
  have hml:magicB.length=4:=rfl
  refine stAppF S 8 rfl hrx hx5 (by rw [List.length_append];omega) fun a25 c25 w25 S=>⟨_,_,_,rfl,S.sto 7 rfl (cs':=#[.slice a25 (magicB++xs.flatten++x).length c25]) (by simp) rfl fun w26 S=>S.draw fun w27 _ S=>⟨_,_,_,S.cell 9 rfl rfl,_,S.cell 0 rfl rfl,?_⟩⟩
  have hnl:nullsN (colOf (rws ps) xs.length)≤1024:=by have:=nullsN_le (colOf (rws ps) xs.length);omega
  obtain⟨ft,hft⟩:∃ ft,ft=schL cs++digitsL ps.length++footsL (rws ps) xs:=⟨_,rfl⟩
  rw [← hft] at S ⊢
  have hftl:ft.length≤40000:=by rw [hft];simp only [List.length_append];omega
  have hrf:Rd w27 fa (ft.map byteV):=stRdB S 2 rfl
  rw [wrap_u64_id (n:=(x.length:Int)) (by omega) (by omega)]
  refine (wire_Number_ok ft hrf x.length (by omega) (by omega)).mono ?_
  rintro _ w28 ⟨_,rfl,a28,c28,rfl,h28⟩
  have S:=stAddB S h28
  have e28:=digitsL_len10 (n:=x.length) (by omega)
  have e29:=digitsL_len10 (n:=nullsN (colOf (rws ps) xs.length)) (by omega)
  have e30:=layL_len z1 z2
  have e31:=layL_len z3 z4
  refine⟨_,_,_,rfl,S.cell 1 rfl rfl,?_⟩
  rw [wrap_u64_id (n:=((nullsN (colOf (rws ps) xs.length):Nat):Int)) (by omega) (by omega)]
  refine (wire_Number_ok _ h28.rd (nullsN (colOf (rws ps) xs.length)) (by omega) (by rw [List.length_append];omega)).mono ?_
  rintro _ w29 ⟨_,rfl,a29,c29,rfl,h29⟩
  have S:=stAddB S h29
  refine⟨_,_,_,rfl,S.sto 11 rfl (cs':=#[.slice a29 (ft++digitsL x.length++digitsL (nullsN (colOf (rws ps) xs.length))).length c29]) (by simp) rfl fun w30 S=>⟨_,_,_,S.cell 11 rfl rfl,_,S.cell 2 rfl rfl,_,S.cell 2 rfl rfl,_,S.cell 2 rfl rfl,?_⟩⟩
  have hr30:Rd w30 a29 ((ft++digitsL x.length++digitsL (nullsN (colOf (rws ps) xs.length))).map byteV):=stRdB S 0 rfl
  refine (value_Lay_ok _ hr30 (zmm (colOf (rws ps) xs.length)).1 z2 (by simp only [List.length_append];omega)).mono ?_
  rintro _ w31 ⟨_,rfl,h31⟩
  obtain⟨a31,c31,rfl,n31⟩:=lay_good z1 h31
  have S:=stAddB S n31
  refine⟨_,_,_,_,rfl,S.sto 12 rfl (cs':=#[.slice a31 (ft++digitsL x.length++digitsL (nullsN (colOf (rws ps) xs.length))++layL (zmm (colOf (rws ps) xs.length)).1).length c31]) (by simp) rfl fun w32 S=>⟨_,_,_,S.cell 12 rfl rfl,_,S.cell 3 rfl rfl,_,S.cell 3 rfl rfl,_,S.cell 3 rfl rfl,?_⟩⟩
  have hr32:Rd w32 a31 ((ft++digitsL x.length++digitsL (nullsN (colOf (rws ps) xs.length))++layL (zmm (colOf (rws ps) xs.length)).1).map byteV):=stRdB S 0 rfl
  refine (value_Lay_ok _ hr32 (zmm (colOf (rws ps) xs.length)).2 z4 (by simp only [List.length_append];omega)).mono ?_
  rintro _ w33 ⟨_,rfl,h33⟩
  obtain⟨a33,c33,rfl,n33⟩:=lay_good z3 h33
  have S:=stAddB S n33
  have efoot:ft++digitsL x.length++digitsL (nullsN (colOf (rws ps) xs.length))++layL (zmm (colOf (rws ps) xs.length)).1++layL (zmm (colOf (rws ps) xs.length)).2=schL cs++digitsL ps.length++footsL (rws ps) (xs++[x]):=by
   rw [footsL_snoc,hft]
   simp [footC]
  have ebody:magicB++xs.flatten++x=magicB++(xs++[x]).flatten:=by simp
  rw [efoot] at S ⊢
  rw [ebody] at S
  refine⟨_,_,_,_,rfl,S.sto 13 rfl (cs':=#[.slice a33 (schL cs++digitsL ps.length++footsL (rws ps) (xs++[x])).length c33]) (by simp) rfl fun w34 S=>S.endr0 7 hst hpe rfl fun w' S=>⟨rfl,xs++[x],a33,c33,a25,c25,by simp,hch.snoc hqn hx,?_⟩⟩
  exact (stToBuf S 12 rfl).keep 6) ⟨[],a6,c6,some ⟨b14,0,none⟩,4,rfl,ChsIs.nil _ _,by
   have e1:schL cs++digitsL ps.length++footsL (rws ps) []=schL cs++digitsL ps.length:=by simp [footsL]
   have e2:magicB++([]:List (List UInt8)).flatten=magicB:=by simp
   rw [e1,e2]
   exact S⟩ (S.cell 4 rfl rfl)
 refine hcall.mono ?_
 rintro _ w35 ⟨_,rfl,xs,fa,fc,ba,bc,hxl,hch,S⟩
 refine⟨⟨_,rfl⟩,S.endl0 1 hst hpe rfl fun w36 S=>⟨rfl,S.draw fun w37 _ S=>⟨_,_,_,S.cell 5 rfl rfl,_,_,_,S.cell 7 rfl rfl,_,_,_,S.cell 7 rfl rfl,?_⟩⟩⟩
 have hfl:=hch.flat hok
 have hfo:=hch.footLen hok
 have hpl:=hch.preLen hok
 have efl:schL cs++digitsL ps.length++footsL (rws ps) xs=footL cs (rws ps) xs:=by
  unfold footL
  rw [show (rws ps).length=ps.length by simp [rws]]
 rw [efl] at S ⊢
 obtain⟨ft,hft⟩:∃ ft,ft=footL cs (rws ps) xs:=⟨_,rfl⟩
 rw [← hft] at S hfo ⊢
 obtain⟨bb,hbb⟩:∃ bb,bb=magicB++xs.flatten:=⟨_,rfl⟩
 rw [← hbb] at S ⊢
 refine (segment_low_ok ft.length (by omega)).mono ?_
 rintro _ w38 ⟨_,rfl,blo,rfl,h38⟩
 have S:=stAddB S h38
 refine⟨_,_,_,rfl,S.cell 8 rfl rfl,S.cell 6 rfl rfl,S.newB fun b69 w39 _ _ S=>?_⟩
 have hrb:Rd w39 ba (bb.map byteV):=S.rdF 8 rfl
 have hrf:Rd w39 fa (ft.map byteV):=stRdB S 2 rfl
 have hrl2:Rd w39 (some ⟨blo,0,none⟩) ((lowB ft.length).map byteV):=stRdB S 1 rfl
 have hp39:Rd w39 (some ⟨b69,0,none⟩) ([(ba,bc,bb),(fa,fc,ft),(some ⟨blo,0,none⟩,4,lowB ft.length)].map partV1):=S.rdc 0 rfl
 have ebl:bb.length≤33000004:=by rw [hbb];simp only [List.length_append,magicB,List.length_cons,List.length_nil];omega
 refine (slices_Concat_ok (c:=3) [(ba,bc,bb),(fa,fc,ft),(some ⟨blo,0,none⟩,4,lowB ft.length)] hp39 (by
   intro p hp
   simp only [List.mem_cons,List.not_mem_nil,or_false] at hp
   rcases hp with rfl | rfl | rfl
   ·exact hrb
   ·exact hrf
   ·exact hrl2) (by simp) (by rw [flat3];simp only [List.length_append,lowB,List.length_cons,List.length_nil];omega)).mono ?_
 rintro _ w40 ⟨_,rfl,a40,c40,rfl,h40⟩
 have epre:flatB [(ba,bc,bb),(fa,fc,ft),(some ⟨blo,0,none⟩,4,lowB ft.length)]=preL cs (rws ps) xs:=by
  rw [flat3,hbb,hft]
  simp [preL]
 rw [epre] at h40 ⊢
 have S:=stAddB S h40
 obtain⟨pre,hpre⟩:∃ pre,pre=preL cs (rws ps) xs:=⟨_,rfl⟩
 rw [← hpre] at S hpl ⊢
 refine⟨_,_,_,rfl,S.sto 8 rfl (cs':=#[.slice a40 pre.length c40]) (by simp) rfl fun w41 S=>⟨_,_,_,S.cell 8 rfl rfl,S.newB fun b73 w42 _ _ S=>?_⟩⟩
 have hr42:Rd w42 a40 (pre.map byteV):=stRdB S 1 rfl
 have hp42:Rd w42 (some ⟨b73,0,none⟩) ([(a40,c40,pre)].map partV1):=S.rdc 0 rfl
 have e42:flatB [(a40,c40,pre)]=pre:=by simp [flatB]
 refine (hash_Sum_ok (c:=1) (T.grown S.bel) [(a40,c40,pre)] hp42 (by
   intro p hp
   simp only [List.mem_cons,List.not_mem_nil,or_false] at hp
   subst hp
   exact hr42) (by simp) (by rw [e42];omega)).mono ?_
 rw [e42]
 rintro _ w43 ⟨_,rfl,rfl,B43⟩
 have S:=S.grown B43
 have hdl:(digP pre).length=32:=digP_len _
 obtain⟨dg,hdg⟩:∃ dg,dg=digP pre:=⟨_,rfl⟩
 rw [← hdg] at hdl ⊢
 refine LIKEL_by (dg) hdl ⟨rfl,?_⟩
 refine S.newB fun b76 w44 _ _ S=>?_
 have hdm:((dg).map byteV).length=32:=by rw [List.length_map];exact hdl
 refine BIF_len hdm ?_
 refine S.stoAll 0 rfl hdm (bytes_one _) fun w45 S=>?_
 refine S.draw fun w46 _ S=>?_
 refine⟨⟨by omega,by omega,by omega⟩,_,_,_,S.cell 10 rfl rfl,?_⟩
 have hr46:Rd w46 (SLA (some ⟨b76,0,none⟩) 0 32 1) ((dg).map byteV):=by
  have h:=(S.rdc 0 rfl).sla 0 32 32 1 (by omega)
  have e:(List.take ((32-0)*1) (List.drop (0*1) ((dg).map byteV)))=(dg).map byteV:=by
   rw [Nat.zero_mul,List.drop_zero]
   exact List.take_of_length_le (by rw [List.length_map];omega)
  have h':Rd w46 (SLA (some ⟨b76,0,none⟩) 0 32 1) (List.take ((32-0)*1) (List.drop (0*1) ((dg).map byteV))):=h
  rwa [e] at h'
 refine stAppK S 2 rfl hdl hr46 (by omega) fun a47 c47 w47 S=>⟨_,_,_,rfl,?_⟩
 have hr47:Rd w47 a47 ((pre++dg).map byteV):=stRdB S 2 rfl
 refine string_of_bytes tbytes rfl hr47 ⟨_,rfl,S.get 7 rfl,.inr ⟨hok,_,rfl,⟨xs,hxl,hch,?_⟩⟩,(S.put 7 rfl _).bel⟩
 rw [sealD,hdg,hpre]
end
end Go.Proofs.YtipgnehlihmdhaaGreatDoor
