/-
  Texts of this claim, laid one behind the other by a program of mine (install.py): Y.Sh8, Y.ShZ, Y.Tr17, Y.TopArg.
-/
import Derived.Test.YtoepjfblppfabaaGreatDoorM11
import Derived.Test.YtoepjfblppfabaaGreatDoorM10
import Derived.Test.YtoepjfblppfabaaGreatDoorM6
import Derived.Test.YtoepjfblppfabaaGreatDoorM4
namespace Go.Proofs.YtoepjfblppfabaaGreatDoor
open Go.Dn Go.Proofs
set_option maxRecDepth 100000
namespace Ru
def a8:List Value:=[.agg #[.slice (J 68627 0) 1 18446744073709551616,.slice (J 67165 0) 1 18446744073709551616,.slice (J 67292 0) 1 1,.slice none 0 0,.slice none 0 0,I (-1),.slice (J 68830 0) 1 18446744073709551616,.bool false],.slice (J 68836 0) 1 1]
def s8:AS:=⟨3301,[.row 68836 42 1 1 [.pointer (J 67005 0)] (some 1),.cells 68834 [.slice (J 68627 0) 1 18446744073709551616,.slice (J 67165 0) 1 18446744073709551616,.slice (J 67292 0) 1 1,.slice none 0 0,.slice none 0 0,I (-1),.slice (J 68830 0) 1 18446744073709551616,.bool false] 46,.row 68830 35 3 1 [T [120],I 1,.bool true] (none),.row 68627 35 3 1 [T [97],I 1,.bool false] (none),.cells 67730 [.slice (J 67165 0) 1 18446744073709551616,.slice (J 67292 0) 1 1,.slice none 0 0,.slice none 0 0,I (-1)] 32,.row 67292 39 6 1 [I 10,T [],I 0,I 0,T [],.slice (J 67282 0) 2 2] (some 1),.row 67282 39 6 2 [I 2,T [],I 1,I 5,T [],.slice none 0 0,I 1,T [97],I 0,I 0,T [],.slice none 0 0] (some 2),.row 67165 41 8 1 [T [120],I 0,I 1,T [97],I 0,I 0,T [],.slice none 0 0] (none),.cells 67005 [.pointer (J 66157 0)] 89,.row 66461 71 7 1 [I 0,I 1,I 5,T [],I 1,I 6,T []] (none),.row 66454 54 1 1 [.slice (J 66186 0) 2 2] (none),.row 66186 37 3 2 [I 1,I 5,T [],I 1,I 6,T []] (some 2),.cells 66157 [.slice (J 66086 0) 1 18446744073709551616,.slice (J 66454 0) 1 18446744073709551616,.slice (J 66461 0) 1 18446744073709551616,I 2] 86,.row 66086 35 3 1 [T [97],I 1,.bool false] (none),.row 65543 55 1 2 [.slice (J 65539 0) 1 1,.slice (J 65542 0) 1 1] (some 2),.row 65542 37 3 1 [I 1,I 6,T []] (some 1),.cells 65540 [I 1,I 6,T []] 37,.row 65539 37 3 1 [I 1,I 5,T []] (some 1),.cells 65537 [I 1,I 5,T []] 37,.row 65536 35 3 1 [T [97],I 1,.bool false] (some 1)]⟩
def v8:Value:=.tuple #[.slice (J 71403 0) 1 18446744073709551616,I 0]
def t8:AS:=⟨5868,[.row 71403 55 1 1 [.slice (J 71401 0) 1 18446744073709551616] (none),.row 71401 37 3 1 [I 1,I 6,T []] (none),.row 68836 42 1 1 [.pointer (J 67005 0)] (some 1),.cells 68834 [.slice (J 68627 0) 1 18446744073709551616,.slice (J 67165 0) 1 18446744073709551616,.slice (J 67292 0) 1 1,.slice none 0 0,.slice none 0 0,I (-1),.slice (J 68830 0) 1 18446744073709551616,.bool false] 46,.row 68830 35 3 1 [T [120],I 1,.bool true] (none),.row 68627 35 3 1 [T [97],I 1,.bool false] (none),.cells 67730 [.slice (J 67165 0) 1 18446744073709551616,.slice (J 67292 0) 1 1,.slice none 0 0,.slice none 0 0,I (-1)] 32,.row 67292 39 6 1 [I 10,T [],I 0,I 0,T [],.slice (J 67282 0) 2 2] (some 1),.row 67282 39 6 2 [I 2,T [],I 1,I 5,T [],.slice none 0 0,I 1,T [97],I 0,I 0,T [],.slice none 0 0] (some 2),.row 67165 41 8 1 [T [120],I 0,I 1,T [97],I 0,I 0,T [],.slice none 0 0] (none),.cells 67005 [.pointer (J 66157 0)] 89,.row 66461 71 7 1 [I 0,I 1,I 5,T [],I 1,I 6,T []] (none),.row 66454 54 1 1 [.slice (J 66186 0) 2 2] (none),.row 66186 37 3 2 [I 1,I 5,T [],I 1,I 6,T []] (some 2),.cells 66157 [.slice (J 66086 0) 1 18446744073709551616,.slice (J 66454 0) 1 18446744073709551616,.slice (J 66461 0) 1 18446744073709551616,I 2] 86,.row 66086 35 3 1 [T [97],I 1,.bool false] (none),.row 65543 55 1 2 [.slice (J 65539 0) 1 1,.slice (J 65542 0) 1 1] (some 2),.row 65542 37 3 1 [I 1,I 6,T []] (some 1),.cells 65540 [I 1,I 6,T []] 37,.row 65539 37 3 1 [I 1,I 5,T []] (some 1),.cells 65537 [I 1,I 5,T []] 37,.row 65536 35 3 1 [T [97],I 1,.bool false] (some 1)]⟩
noncomputable def O3:OF:=(Hk (Hk (Hk OR f.PN (XG a5 s5 (v5,t5))) f.EZ (XG a6 s6 (v6,t6))) f.Et (XG a7 s7 (v7,t7)))
theorem AlG:OOK Tryz.prog G1 O3:=(Df (Df (Df NT (HJ mixed NT p5)) (HJ mixed NT p6)) (HJ mixed NT p7))
theorem p8:evX Tryz.prog G1 O3 100000 300 (.fn f.TB) a8 [] s8=some (v8,t8):=Jk (by kernel_rfl)
end Ru
end Go.Proofs.YtoepjfblppfabaaGreatDoor
namespace Go.Proofs.YtoepjfblppfabaaGreatDoor
open Go.Dn Go.Proofs
set_option maxRecDepth 100000
namespace Ru
noncomputable def O2:OF:=(Hk (Hk (Hk (Hk (Hk OR f.H8 (XG a1 s1 (v1,t1))) f.Jv (XG a2 s2 (v2,t2))) f.Rc (XG a3 s3 (v3,t3))) f.Qg (XG a4 s4 (v4,t4))) f.TB (XG a8 s8 (v8,t8)))
theorem AlF:OOK Tryz.prog G1 O2:=(Df (Df (Df (Df (Df NT (HJ mixed NT p1)) (HJ mixed NT p2)) (HJ mixed NT p3)) (HJ mixed NT p4)) (HJ mixed AlG p8))
theorem whole:∃ t,evX Tryz.prog G1 O2 100000 300 (.fn f.WD) [] [] ⟨0,[]⟩=some (.bool true,t):=⟨_,Jk (v:=.bool true) (T:=⟨5870,[]⟩) (by kernel_rfl)⟩
end Ru
theorem Yg{w:World}(hG:Ka Ru.G1 w):Calls Tryz.prog f.WD #[] w (AB λ v w'=>v=.bool true/\Go.RowKit.Below w.heap.size w w'):=by
 obtain⟨t,h⟩:=Ru.whole;refine (Aew mixed Ru.AlF h rfl hG).mono ?_;rintro _ w' ⟨rfl,B⟩;exact⟨_,rfl,rfl,B⟩
end Go.Proofs.YtoepjfblppfabaaGreatDoor
namespace Go.Proofs.YtoepjfblppfabaaGreatDoor
open _root_.Nat renaming le_trans -> AnJ
set_option maxRecDepth 100000
open Go.Dn Go.Proofs
open Go.RowKit (Below)
set_option linter.unusedVariables false
section
variable {w:World}{cs:List A0}
theorem Ab3(s:ByteArray):Calls Tryz.prog f.AaV #[.string s] w (AB λ r w'=>r=.bool (Nf s)/\Below w.heap.size w w'):=by
 apply R.Pe
 delta R.A R.F R.G R.I R.Lt R.N R.Qi R.T R.W R.X;try dsimp only [R.Ps]
 refine (ST.start w).Aj λ b w1 _ _ S1=>?_;have aU:Rd w1 (some ⟨b,0,none⟩) (Ch.map Value.string):=S1.rdc 0 rfl;refine FO 20 (λ i w2=>(∀ k∈Ch.take i,k≠s)/\w2=w1) (by omega) ⟨by simp,rfl⟩ λ I M i w2 hi h next=>?_;obtain⟨aE,rfl⟩:=h;refine Aa (λ aB=>⟨⟨by omega,aB⟩,?_⟩) (λ aL=>?_)
 ·have gM:i<20:=by omega
  have hl:i<Ch.length:=by rw [CM];exact gM
  refine⟨Ch[i],Acs aU (by simp [hl]),?_⟩;rw [AK];exact Aa (λ h=>⟨by rw [V7 gM h],S1.An⟩) (λ h=>next _ gM ⟨Adk gM aE h,rfl⟩)
 ·rw [List.take_of_length_le (by rw [CM];omega)] at aE;exact⟨by rw [TZ aE],S1.An⟩
theorem Afb(h:Ao cs=true):Agf cs:=by
 have hn:(cs.map (·.1)).Nodup:=by
  simp only [Ao,Bool.and_eq_true,decide_eq_true_eq] at h;exact h.2
 intro i j hi hj e;have key:∀ i j (hi:i<cs.length) (hj:j<cs.length),i<j->cs[i].1≠cs[j].1:=λ i j hi hj h=>List.pairwise_iff_getElem.1 (List.pairwise_map.1 hn) i j hi hj h;rcases Nat.lt_trichotomy i j with h | h | h
 ·exact absurd e (key i j hi hj h)
 ·exact h
 ·exact absurd e.symm (key j i hj hi h)
theorem Zz(h:Agf cs)(i:Nat)(hi:i<cs.length):JN cs cs[i].1=some i:=by
 unfold JN;rw [List.findIdx?_eq_some_iff_getElem];refine⟨hi,by simp,λ j hj=>?_⟩;simp only [decide_eq_true_eq];intro e;have:=h j i (by omega) hi e;omega
theorem WT(E:Env w)(T:PB w)(hG:Ka Ru.G1 w){a a2:Option Addr}{c c2:Nat}{ps:List AV}(hl:Rd w a (A9 cs))(hn:cs.length<=9223372036854775807)(hq:∀ c∈cs,c.1.size<=9223372036854775807)(hr:Bc w a2 ps)(hm:ps.length<=9223372036854775807)(hv:∀ r∈rws ps,∀ v∈r,Eb v)(hz:∀ p∈ps,p.2.2.length<=9223372036854775807) :
  Calls Tryz.prog f.Rk #[.slice a cs.length c,.slice a2 ps.length c2] w (AB λ r w'=>r=.bool true/\Below w.heap.size w w'):=by
 apply R.Pd
 delta R.A R.Ab R.FI R.Ah3 R.BL R.WL R.Cb R.D R.E R.F R.G R.I R.J R.Ks R.Lb R.Li R.Ls R.Lt R.N R.O R.P R.Qi R.S R.Ah R.T R.W R.X;try dsimp only [R.Ps]
 refine (ST.start w).call (Yg hG) λ w1 _ S1=>⟨_,rfl,?_⟩;refine (ID (T.grown S1.An) (hl.grown S1.An) hn hq (hr.grown S1.An) hm hv).mono ?_;rintro _ w2 ⟨_,rfl,hW,B2⟩;have S2:=S1.grown B2;rcases hW with ⟨_,rfl,he⟩ | ⟨hs,b,rfl,hI⟩
 ·exact⟨_,_,rfl,Bb (by simpa using he) ⟨rfl,S2.An⟩⟩
 obtain⟨h1,hn16⟩:=Be hs.right;refine⟨_,_,rfl,Ap rfl (S2.Aj λ bq w3 _ _ S3=>S3.Am1 0 rfl λ w4 S4=>?_)⟩;have S4:ST w w4 [It.cells bq (Yq none 0 0) ty.CF]:=S4;refine FO cs.length (λ i w5=>(∀ c∈cs.take i,Nf c.1=false)/\∃ ia ic,ST w w5 [It.row ty.Tc 8 ia i ic (JZ (cs.take i)),It.cells bq (Yq ia i ic) ty.CF]) hn ⟨by simp,none,0,S4.nil _ _⟩ λ I M i w5 hi h next=>?_;obtain⟨hk,ia,ic,S5⟩:=h;refine Aa (λ aB=>⟨⟨by omega,aB⟩,?_⟩) (λ aL=>?_)
 ·have aF:i<cs.length:=by omega
  obtain⟨p,rfl,k0,_,_⟩:=I3 hl aF;have oD:∀ {w'},Below w.heap.size w w'->w'.cell? (p.add (((i:Int).toNat)*3))=some (.string cs[i].1):=λ B=>by
   rw [Int.toNat_natCast];exact (Ae.Al (F:=λ _=>False) B).cell k0 (by simp)
  refine⟨_,oD S5.An,S5.call (Ab3 cs[i].1) λ w6 _ S6=>⟨_,rfl,AU (λ h=>⟨rfl,S6.An⟩) (λ h=>S6.draw λ w7 _ S7=>⟨⟨by omega,aB⟩,⟨by omega,aB⟩,_,_,_,S7.cell 1 rfl rfl,_,oD S7.An,_,oD S7.An,S7.Aj λ b8 w8 _ _ S8=>⟨S8.cell 2 rfl rfl,?_⟩⟩)⟩⟩;refine S8.app 1 rfl (show Ia Tryz.prog ty.Abj=some (ty.Tc,8,104,.agg #[.string ⟨#[]⟩,.int .i64 0,.int .i64 0,.string ⟨#[]⟩,.int .i64 0,.int .i64 0,.string ⟨#[]⟩,.slice none 0 0]) by kernel_rfl) rfl (by omega) (by omega) (S8.rdc 0 rfl) (mm:=1) rfl (by intro u hu;simp at hu;rcases hu with rfl | rfl | rfl | rfl | rfl | rfl | rfl | rfl <;> rfl) (by omega) λ a' c' w9 S9=>⟨_,_,_,rfl,S9.Cr 2 rfl (aC:=Yq a' (i+1) c') (by simp) rfl λ cX cP=>next _ aF ⟨?_,a',c',?_⟩⟩
  ·intro x hx;rw [List.take_succ_eq_append_getElem aF] at hx;rcases List.mem_append.1 hx with hx | hx
   ·exact hk x hx
   ·rw [List.mem_singleton.1 hx];exact h
  ·rw [List.take_succ_eq_append_getElem aF,show JZ (cs.take i++[cs[i]])=JZ (cs.take i)++Ae1 cs[i] by simp only [JZ,List.flatMap_append,List.flatMap_cons,List.flatMap_nil,List.append_nil]];exact cP.drop 1
 ·obtain rfl:i=cs.length:=by omega
  rw [List.take_length] at hk S5;have ir:Aab cs:=λ x hx=>by
   obtain⟨k1,_,_,k2⟩:=EH hs.right hx;exact⟨by simp [Jn,k1,hk x hx],k2⟩
  have hd:=Afb hs.right;have jx:(CA b).size<=140737488355328:=by
   have:=hI.len hs;have e:(CA b).size=b.length:=by simp [CA,ByteArray.size]
   omega
  have aG:=λ r bK=>hs.XT (r:=r) bK;have k5:cs.length<=ic:=(S5.rw 0 rfl).le;refine (Sb (T.grown S5.An) (CA b) jx).mono ?_;rintro _ w6 ⟨_,rfl,hO⟩;rw [Dq] at hO;obtain⟨g,p,aH,rfl,hg,hC,dS,B6⟩:=hO.F9 hs hI;have S6:=S5.grown B6;refine⟨_,_,rfl,AaM S6 1 rfl ?_⟩;have A6:LQ w6 cs a ia ic:=⟨E.grown S6.An,hl.grown S6.An,hs.right,S6.rd 0 rfl,k5,ir,hd,Zz hd⟩;refine (AjN A6).mono ?_;rintro _ w7 ⟨_,rfl,a0,c0,a6,c6,rfl,T7⟩;refine⟨_,_,_,_,_,_,_,_,_,_,_,_,_,_,_,_,_,_,_,_,_,rfl,T7.Aj λ b8 w8 _ _ T8=>T8.Alf 0 rfl λ w9 T9=>⟨_,_,_,T9.cell 0 rfl rfl,_,_,_,T9.cell 0 rfl rfl,_,_,_,T9.cell 0 rfl rfl,_,_,_,T9.cell 0 rfl rfl,_,_,_,T9.cell 0 rfl rfl,_,T9.cell 0 rfl rfl,_,_,_,T9.cell 0 rfl rfl,_,T9.cell 0 rfl rfl,T9.Aj λ bW cX _ _ lP=>?_⟩⟩;have cP:=S6.grown lP.An;have kQ:=Rf (cs:=cs) (rows:=rws ps) aG;have aO:∀ r∈rws ps,∀ v∈r,AL v=true:=λ r bK v j8=>by
   have hf:=hs.fits r bK;obtain⟨k,cr,rfl⟩:=List.mem_iff_getElem.1 j8;have h:=Ade hf (by rw [<- ZD hf];exact cr) cr;simp only [Om,Bool.and_eq_true] at h;exact h.1
  refine (AmS (n:=(rws ps).length) ⟨E.grown cP.An,lP.rd 2 rfl,hs.right,cP.rd 0 rfl,k5,ir,hd,Zz hd⟩ (lP.rdc 0 rfl) ((Ae.Al (F:=λ _=>False) lP.An).cell hg (by simp)) (hC.grown lP.An) ?_ ?_).mono ?_
  ·intro i hi;have h:=List.getElem_of_eq kQ (i:=i) (by rw [kQ];exact hi);have e:rowAt (rws aH) i=(rws ps)[i]:=by
    rw [dS,<- h];simp only [rowsOf,List.getElem_map,List.getElem_range]
   rw [e];exact hs.fits _ (List.getElem_mem hi)
  ·intro r bK;rw [dS,kQ] at bK;exact⟨by rw [aG r bK];omega,aO r bK⟩
  ·rintro _ aW ⟨_,rfl,oa,oc,ks,rfl,im,hK,dO⟩;rw [dS,kQ] at im;have cF:=cP.grown dO;have aq:ks.length=ps.length:=by
    have:=congrArg List.length im;simpa [rws] using this
   refine⟨_,_,_,_,rfl,Bb rfl (Bb rfl (Bb rfl (Bb rfl ((OW hK (hr.grown cF.An) (by omega) λ x hx=>?_).mono ?_))))⟩
   ·have h:x.2.2∈rws ps:=by rw [<- im];exact List.mem_map.2 ⟨x,hx,rfl⟩
    rw [aG _ h];exact hn
   ·rintro _ dN ⟨_,rfl,nv,rfl⟩;exact⟨_,rfl,by simp [im],(cF.grown nv).An⟩
end
def Akm(c:A0):Prop:=c.1.size<=maxLen
def rwC(p:AV):List Value:=[Bl p]
structure Aj9(w:World)(p:AV):Prop where
 len:p.2.2.length<=maxLen
 rd:Rd w p.1 (AW p.2.2)
 ok:∀ v∈p.2.2,Eb v
theorem Abq:Tryz.prog.cellsOf ty.bool=1:=by kernel_rfl
theorem Ajs:Ja Tryz.prog ty.BX=some [(ty.string,0),(ty.int,1),(ty.bool,2)]:=by kernel_rfl
theorem AhT:Tryz.prog.underlying ty.string=some .string:=by kernel_rfl
theorem Afr:Tryz.prog.underlying ty.bool=some .bool:=by kernel_rfl
theorem Ajt:Tryz.prog.underlying ty.AM=some (.slice ty.AD):=by kernel_rfl
theorem Ad9:Tryz.prog.cellsOf ty.BX=3:=by kernel_rfl
theorem RP{w:World}:∀ m r,r.length=Tryz.prog.cellsOf ty.BX->Go.Dn.Good Tryz.prog w m ty.BX r->∃ x,r=I1 x/\Akm x:=by
 intro m r hl h;obtain⟨_,n,hf⟩:=h.fields Ajs;rw [Ad9] at hl
 match r,hl with
 | [v0,v1,v2],_ =>
  simp only [List.mem_cons,List.not_mem_nil,or_false,forall_eq_or_imp,forall_eq,VO,Abq,VP] at hf;obtain⟨h0,h1,h2⟩:=hf;obtain⟨x0,e0,q0⟩:=h0.str AhT;obtain⟨x1,e1,q1⟩:=h1.int AdP;obtain⟨x2,e2⟩:=h2.bool Afr;refine⟨(x0,x1,x2),?_,q0⟩;simp only [List.drop_zero,List.take_succ_cons,List.take_zero,List.drop_succ_cons,List.cons.injEq,and_true] at e0 e1 e2;rw [e0,e1,e2];rfl
theorem Xu{w:World}:∀ m r,r.length=Tryz.prog.cellsOf ty.AM->Go.Dn.Good Tryz.prog w m ty.AM r->∃ x,r=rwC x/\Aj9 w x:=by
 intro m r hl h;obtain⟨a,c,xs,rfl,h1,h2,h3,h4,h5⟩:=h.list Ajt _ _ TK;exact⟨(a,c,xs),rfl,AnJ h1 h2,h4,λ v hv=>(h5 v hv).1⟩
theorem Agb{w:World}{a:Option Addr}{cs:List A0}{c:Nat}(g:GL w I1 Akm a cs c):Rd w a (A9 cs)/\cs.length<=9223372036854775807/\∀ c∈cs,c.1.size<=9223372036854775807 :=
 ⟨g.2.2.2.1,AnJ (AnJ g.1 g.2.1) (by decide),λ v hv=>AnJ (g.2.2.2.2 v hv) (by decide)⟩
theorem Ahs{w:World}{a:Option Addr}{ps:List AV}{c:Nat}(g:GL w rwC (Aj9 w) a ps c):Bc w a ps/\ps.length<=9223372036854775807/\(∀ r∈rws ps,∀ v∈r,Eb v)/\∀ p∈ps,p.2.2.length<=9223372036854775807:=by
 refine⟨⟨?_,λ p hp=>(g.2.2.2.2 p hp).rd⟩,AnJ (AnJ g.1 g.2.1) (by decide),λ r hr=>?_,λ p hp=>AnJ (g.2.2.2.2 p hp).len (by decide)⟩
 ·have:=g.2.2.2.1;rw [show ps.flatMap rwC=ps.map Bl from AjI Bl ps] at this;exact this
 ·obtain⟨p,hp,rfl⟩:=List.mem_map.1 hr;exact (g.2.2.2.2 p hp).ok
theorem SY{w:World}(E:XE w)(a:Option Addr)(cs:List A0)(c:Nat)(g:GL w I1 Akm a cs c)(_y:c*Tryz.prog.bytesOf ty.BX<=reachBytes)(a2:Option Addr)(ps:List AV)(c2:Nat)(g2:GL w rwC (Aj9 w) a2 ps c2)(_y2:c2*Tryz.prog.bytesOf ty.AM<=reachBytes) :
  Calls Tryz.prog f.Rk #[.slice a cs.length c,.slice a2 ps.length c2] w (AB λ r w'=>r=.bool true/\Below w.heap.size w w'):=by
 obtain⟨k1,k2,k3⟩:=Agb g;obtain⟨r1,r2,r3,r4⟩:=Ahs g2;exact WT E.E E.T E.G k1 k2 k3 r1 r2 r3 r4
end Go.Proofs.YtoepjfblppfabaaGreatDoor
