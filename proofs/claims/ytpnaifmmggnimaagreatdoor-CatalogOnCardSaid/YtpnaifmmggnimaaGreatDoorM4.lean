/- Texts of this claim, laid one behind the other by a program of mine. -/
import Derived.Test.YtpnaifmmggnimaaGreatDoorM3
import Derived.Shelf.Small.Strs
import Derived.Shelf.Strings.Search1
import Derived.Shelf.Strings.AsciiSet
import Derived.Test.YtpnaifmmggnimaaGreatDoorProg
import Derived.ChangeArms
import Derived.Deep.Slices
import Derived.OpenShut
import Derived.Shelf.SlIter.Nil
import Derived.Shelf.SortM.Plain
import Derived.Shelf.SortM.SortNone
import Derived.Ground.GgzProg
import Derived.Ground.SlgmProg
import Derived.Maps.Own
import Derived.Maps.Views
import Derived.Sort.KeysCollected
namespace Go.Proofs.YtpnaifmmggnimaaGreatDoor
open R
open _root_.BitVec renaming ofInt -> AhZ, ofNat -> AiG
open _root_.Bool renaming eq_iff_iff -> AiY
open _root_.Int renaming toNat_natCast -> Ait
open _root_.List renaming length_map -> AiH, length_set -> Aiy, range -> Ai0, replicate -> Aio, take_of_length_le -> AiZ
open _root_.Nat renaming le_trans -> AiI, mul_one -> Aiw
set_option maxRecDepth 100000
open Go.Dn Go.Proofs
open Go.RowKit (Below)
set_option linter.unusedVariables false
theorem _root_.Go.Dn.SH.Adk{F:Nat->Prop}{w0 w:World}{H:List Xm}(S:SH F w0 w H){w':World}(B:Below w.heap.size w w'){b:Nat}{cs:Array Value}{t:TypeId}(hb:w.heap.size<=b)(hc:w'.heap[b]?=some (.cells cs t (0,0))) :
  SH F w0 w' ((b,cs,t) :: H) where
 keeps:=(S.grown B).keeps
 mem:=by
  intro x hx;rcases List.mem_cons.1 hx with rfl | hx
  ·exact hc
  ·exact (S.grown B).mem x hx
 nodup:=by
  rw [List.map_cons,List.nodup_cons];refine⟨λ hm=>?_,S.nodup⟩;obtain⟨x,hx,he⟩:=List.mem_map.1 hm;have h1:=S.lt hx;have h2:x.1=b:=he;omega
 own:=by
  intro x hx;rcases List.mem_cons.1 hx with rfl | hx
  ·exact .inr (AiI S.keeps.size hb)
  ·exact S.own x hx
theorem Vj(w:World):Cw 125 #[] w λ v w'=>∃ b,v=.slice (some ⟨b,0,none⟩) 8 8/\w.heap.size<=b/\w'.heap[b]?=some (.cells ⟨BX.map wV⟩ 184 (0,0))/\Below w.heap.size w w':=by
 apply OT
 delta J N S V;try dsimp only [Ps]
 refine (SH.start (λ _=>False) w).An λ b1 w1 hb B S=>⟨b1,rfl,hb,?_,B⟩;exact S.get 0 rfl
theorem Acb{w:World}{b:Nat}{cs:List Value}(h:Rd w (some ⟨b,0,none⟩) cs):holds (Kt ⟨b,0,none⟩ cs 0) w:=by
 refine (Ez _ w cs 0).2 λ j v hj=>?_;obtain⟨p,hp,hc⟩:=h j v hj;cases hp;rw [Nat.zero_add];exact hc
set_option maxHeartbeats 1000000 in
theorem Adm{w:World}(h:List Wd)(hh:h.length=8){a:Option Addr}{c:Nat}(CA:List UInt8)(hb:CA.length=64)(hr:Rd w a (CA.map Ag))(n:Nat)(hn:n<18446744073709551616)(last:Bool) :
  Cw 126 #[.agg ⟨h.map wV⟩,.slice a 64 c,.int .u64 (n:Int),.bool last] w λ r w'=>r=.agg ⟨(TU h CA n last).map wV⟩/\Below w.heap.size w w':=by
 obtain⟨p,rfl,_⟩:=hr 0 (Ag (CA.getD 0 0)) (by simp [hb]);apply OU
 delta A Ab Ad Cs Ct D F I Lv Ly Qi Am T V W Wb Wu Wv X Z;try dsimp only [Ps]
 refine (SH.start (λ _=>False) w).An λ b5 w1 _ _ S=>S.An λ b6 w2 _ _ S=>(Vj w2).mono ?_;rintro _ w3 ⟨_,rfl,bw,rfl,vJ,vU,B3⟩
 replace S:=S.Adk B3 vJ vU
 refine⟨_,_,_,rfl,S.An λ b9 w4 _ _ S=>?_⟩;refine⟨λ st w'=>∃ i:Nat,st=[.int .i64 (i:Int)]/\i<=64/\SH (λ _=>False) w w' [(b9,⟨(mA CA i).map wV⟩,224),(bw,⟨BX.map wV⟩,184),(b6,⟨Aio 8 (.int .u32 0)⟩,185),(b5,⟨h.map wV⟩,185)],
  λ st _=>match st with | [.int _ t]=>(64-t).toNat | _=>0,⟨0,rfl,Omg,S⟩,?_⟩
 rintro t w5 ⟨i,aA,hi,S⟩;cases L5 aA;have m7:=Ad2 CA i;refine Aa (λ aB=>?_) (λ aJ=>?_)
 ·have di:i<64:=Omg;refine S.draw λ w6 S=>?_;rw [Abt i di,Abu i di];have df:w6.cell? (p.add ((i:Int).toNat*1))=some (.int .u8 (uI (CA.getD i 0))):=by
   obtain⟨q,hq,hc⟩:=(hr.grown S.below) i (Ag (CA.getD i 0)) (by simp [hb,di]);cases hq;rw [Ait,Aiw];exact hc
  refine⟨⟨Omg,Omg⟩,⟨Omg,Omg⟩,⟨_,S.wd 0 rfl Omg (Ait _),_,df,Omg,⟨Omg,Omg⟩,?_⟩⟩;have e3:IntKind.u32.wrap ((((mA CA i).getD (i / 4) 0).toNat:Int)+(IntKind.u32.wrap ((IntKind.u32.wrap (uI (CA.getD i 0)))*2 ^ (min ((((8*(i % 4):Nat):Int)).toNat) 32))))
    = (((mA CA i).getD (i / 4) 0+(byW (CA.getD i 0) <<< (8*(i % 4)))).toNat:Int):=by
   have e4:IntKind.u32.wrap (((byW (CA.getD i 0)).toNat:Int)*2 ^ (8*(i % 4)))=((byW (CA.getD i 0) <<< (8*(i % 4))).toNat:Int):=by
    rw [<- Abi,Cn,wrap_u32,BitVec.toNat_ofInt];omega
   rw [Ait,Nat.min_eq_left Omg,uI,Aa2,e4,Mj]
  rw [e3];refine S.E8 0 rfl Omg (Ait _) λ w8 S=>?_;rw [Ae Omg];exact⟨⟨i+1,rfl,Omg,S⟩,by show (64-((i+1:Nat):Int)).toNat<(64-(i:Int)).toNat;omega⟩
 ·have di:i=64:=Omg;refine S.An λ kH w8 _ _ S=>?_;refine⟨λ st w'=>∃ j:Nat,st=[.int .i64 (j:Int)]/\j<=8/\SH (λ _=>False) w w' [(kH,⟨(vR h j).map wV⟩,224),(b9,⟨(mA CA i).map wV⟩,224),(bw,⟨BX.map wV⟩,184),(b6,⟨Aio 8 (.int .u32 0)⟩,185),(b5,⟨h.map wV⟩,185)],
   λ st _=>match st with | [.int _ t]=>(8-t).toNat | _=>0,⟨0,rfl,Omg,S⟩,?_⟩
  rintro t w9 ⟨j,aA,hj,S⟩;cases L5 aA;have iY:=AeO h j;refine Aa (λ aB=>⟨⟨Omg,aB⟩,?_⟩) (λ aJ=>?_)
  ·have nj:j<8:=Omg;have ct:BX.length=8:=rfl;have e8:IntKind.i64.wrap (8+(j:Int))=((8+j:Nat):Int):=by rw [wrap_i64 Omg Omg];omega
   rw [e8];refine⟨_,S.wd 4 rfl Omg (Ait _),⟨Omg,Omg⟩,S.E8 0 rfl Omg (Ait _) λ bX S=>?_⟩;refine⟨⟨Omg,Omg⟩,⟨_,S.wd 2 rfl Omg (Ait _),⟨Omg,Omg⟩,S.E8 0 rfl (by simp only [Aiy];omega) (Ait _) λ aZ S=>?_⟩⟩;rw [Ae Omg];exact⟨⟨j+1,rfl,Omg,S⟩,by show (8-((j+1:Nat):Int)).toNat<(8-(j:Int)).toNat;omega⟩
  ·have nj:j=8:=Omg;have uG:∀ x:Wd,IntKind.u32.wrap (((AhZ 32 (x.toNat:Int) ^^^ AhZ 32 (IntKind.u32.wrap (Int.tmod (n:Int) 4294967296))).toNat:Int))=((x ^^^ AiG 32 n).toNat:Int):=by
    intro x;have:AhZ 32 (Int.tmod (n:Int) 4294967296)=AiG 32 n:=by
     rw [Int.tmod_eq_emod_of_nonneg Omg];apply BitVec.eq_of_toNat_eq;rw [BitVec.toNat_ofInt,BitVec.toNat_ofNat];omega
    rw [Cn,this,Bk,Bp]
   have uH:∀ x:Wd,IntKind.u32.wrap (((AhZ 32 (x.toNat:Int) ^^^ AhZ 32 (IntKind.u32.wrap (IntKind.u64.wrap (Int.tdiv (n:Int) 4294967296)))).toNat:Int))=((x ^^^ AiG 32 (n / 4294967296)).toNat:Int):=by
    intro x;have:IntKind.u64.wrap (Int.tdiv (n:Int) 4294967296)=((n / 4294967296:Nat):Int):=by
     rw [Int.tdiv_eq_ediv_of_nonneg Omg,Aj Omg Omg];omega
    rw [this,Cn,Bk,Bp,BitVec.ofInt_natCast]
   have uJ:∀ x:Wd,IntKind.u32.wrap (((AhZ 32 (x.toNat:Int) ^^^ AhZ 32 4294967295).toNat:Int))=((4294967295 ^^^ x).toNat:Int):=by
    intro x;rw [Bk,Bp,BitVec.xor_comm];rfl
   refine⟨_,S.wd' 0 rfl Omg,?_⟩;rw [uG];refine S.LA 0 rfl Omg λ al S=>⟨_,S.wd' 0 rfl (by simp only [Aiy];omega),?_⟩;rw [uH];refine S.LA 0 rfl (by simp only [Aiy];omega) λ au S=>?_;have oM:(vN (vR h j) n last).length=16:=by rw [AeN];exact iY
   refine⟨λ _ w'=>SH (λ _=>False) w w' [(kH,⟨(vN (vR h j) n last).map wV⟩,224),(b9,⟨(mA CA i).map wV⟩,224),(bw,⟨BX.map wV⟩,184),(b6,⟨Aio 8 (.int .u32 0)⟩,185),(b5,⟨h.map wV⟩,185)],?_,?_⟩
   ·refine Aq (λ hl=>?_) (λ hl=>?_)
    ·subst hl;refine⟨_,S.wd' 0 rfl (by simp only [Aiy];omega),?_⟩;rw [uJ];exact S.LA 0 rfl (by simp only [Aiy];omega) λ ah S=>S
    ·subst hl;exact S
   ·intro ah S;generalize hV0:vN (vR h j) n last=V0 at *;generalize fg:mA CA i=m0 at *;refine⟨λ st w'=>∃ r:Nat,st=[.int .i64 (r:Int)]/\r<=10/\SH (λ _=>False) w w' [(kH,⟨(Dp m0 V0 r).map wV⟩,224),(b9,⟨m0.map wV⟩,224),(bw,⟨BX.map wV⟩,184),(b6,⟨Aio 8 (.int .u32 0)⟩,185),(b5,⟨h.map wV⟩,185)],
     λ st _=>match st with | [.int _ t]=>(10-t).toNat | _=>0,⟨0,rfl,Omg,S⟩,?_⟩
    rintro t cd ⟨r,aA,dC,S⟩;cases L5 aA;have cC:=(Jo m0 V0 r).trans oM;refine Aa (λ aB=>?_) (λ aJ=>?_)
    ·have dS:r<10:=Omg;refine (Adf r dS cd).mono ?_;rintro _ cF ⟨_,rfl,rfl,ob⟩
     replace S:=S.grown ob
     refine⟨_,rfl,λ st w'=>∃ q:Nat,st=[.int .i64 (q:Int)]/\q<=8/\SH (λ _=>False) w w' [(kH,⟨(Jf m0 r (Dp m0 V0 r) q).map wV⟩,224),(b9,⟨m0.map wV⟩,224),(bw,⟨BX.map wV⟩,184),(b6,⟨Aio 8 (.int .u32 0)⟩,185),(b5,⟨h.map wV⟩,185)],
      λ st _=>match st with | [.int _ t]=>(8-t).toNat | _=>0,⟨0,rfl,Omg,S⟩,?_⟩
     rintro t fG ⟨q,aA,hq,S⟩;cases L5 aA;have aD:=(Hm m0 r (Dp m0 V0 r) q).trans cC;refine Aa (λ av=>S.draw λ gb S=>?_) (λ bz=>?_)
     ·have fq:q<8:=Omg;have e2:IntKind.i64.wrap (2*(q:Int))=((2*q:Nat):Int):=by rw [wrap_i64 Omg Omg];omega
      have e3:IntKind.i64.wrap (((2*q:Nat):Int)+1)=((2*q+1:Nat):Int):=Ae Omg;have o0:=W0 r dS (2*q) Omg;have o1:=W0 r dS (2*q+1) Omg;rw [e2,e3,Ait,Ait,YC r dS (2*q) Omg,YC r dS (2*q+1) Omg,Acv r dS];refine⟨⟨Omg,Omg⟩,⟨Omg,Omg⟩,⟨Omg,Omg⟩,⟨Omg,Omg⟩,CY _ aD (Rd.Al (S.get 0 rfl)) ?_⟩;refine⟨_,S.wd 1 rfl Omg (Ait _),_,S.wd 1 rfl Omg (Ait _),(AbM q fq gb).mono ?_⟩;rintro _ eT ⟨_,rfl,rfl,zS⟩
      replace S:=S.grown zS
      refine⟨_,rfl,S.wd 1 rfl Omg (Ait _),S.wd 1 rfl Omg (Ait _),Acb (Rd.Al (S.get 0 rfl)),?_⟩;refine (Ad9 _ aD (Aej q) (Acy q fq) (JM q 0) (JM q 1) (JM q 2) (JM q 3) (OP q fq 0 Omg) (OP q fq 1 Omg) (OP q fq 2 Omg) (OP q fq 3 Omg)
       (Gx q fq 0 Omg) (Gx q fq 1 Omg) (Gx q fq 2 Omg) (Gx q fq 3 Omg) _ _ eT).mono ?_
      rintro _ gG ⟨_,rfl,rfl,kE⟩
      replace S:=S.grown kE
      have hx:=Ad8 m0 r q (Jf m0 r (Dp m0 V0 r) q) aD fq;rw [hx];have bF:(V6 m0 r q (Jf m0 r (Dp m0 V0 r) q)).length=16:=(Hm m0 r (Dp m0 V0 r) (q+1)).trans cC;have eS:((V6 m0 r q (Jf m0 r (Dp m0 V0 r) q)).map wV).length=16:=by rw [AiH];exact bF
      refine NV _ bF ⟨rfl,Dg eS (S.Eb 0 rfl (by rw [eS];simp [aD]) (Ir _) λ gd _ S=>?_)⟩;rw [Ae Omg];exact⟨⟨q+1,rfl,Omg,S⟩,by show (8-((q+1:Nat):Int)).toNat<(8-(q:Int)).toNat;omega⟩
     ·have fq:q=8:=Omg;subst fq;rw [Ae Omg];exact⟨⟨r+1,rfl,Omg,S⟩,by show (10-((r+1:Nat):Int)).toNat<(10-(r:Int)).toNat;omega⟩
    ·have dS:r=10:=Omg;generalize hV:Dp m0 V0 r=V at *;refine⟨λ st w'=>∃ q:Nat,st=[.int .i64 (q:Int)]/\q<=8/\SH (λ _=>False) w w' [(kH,⟨V.map wV⟩,224),(b9,⟨m0.map wV⟩,224),(bw,⟨BX.map wV⟩,184),(b6,⟨Aio 8 (.int .u32 0)⟩,185),(b5,⟨(hF h V q).map wV⟩,185)],
      λ st _=>match st with | [.int _ t]=>(8-t).toNat | _=>0,⟨0,rfl,Omg,S⟩,?_⟩
     rintro t fN ⟨q,aA,hq,S⟩;cases L5 aA;have lA:=(WM h V q).trans hh;refine Aa (λ aB=>S.draw λ eA S=>?_) (λ aJ=>?_)
     ·have e8:IntKind.i64.wrap (8+(q:Int))=((q+8:Nat):Int):=by rw [wrap_i64 Omg Omg];omega
      rw [e8];refine⟨⟨Omg,aB⟩,⟨Omg,Omg⟩,⟨Omg,Omg⟩,_,S.wd 4 rfl Omg (Ait _),_,S.wd 0 rfl Omg (Ait _),_,S.wd 0 rfl Omg (Ait _),⟨Omg,aB⟩,?_⟩;rw [ME,ME,BitVec.xor_assoc];refine S.E8 4 rfl Omg (Ait _) λ ie S=>?_;rw [Ae Omg];exact⟨⟨q+1,rfl,Omg,S⟩,by show (8-((q+1:Nat):Int)).toNat<(8-(q:Int)).toNat;omega⟩
     ·have fq:q=8:=Omg;have bA:((hF h V q).map wV).length=8:=by rw [AiH];exact lA
      refine CY (hF h V q) lA (Rd.Al (S.get 4 rfl)) (Dg bA (S.Eb 3 rfl bA (Ir _) λ du _ S=>?_));refine CY (hF h V q) lA (Rd.Al (S.get 3 rfl)) ⟨?_,S.below⟩;have ev:vN (vF h 8) n last=V0:=by rw [<- Ahs h hh,<- nj,hV0]
      have em:mO CA 64=m0:=by rw [<- Ahf,<- di,fg]
      unfold TU;rw [ev,em,<- dS,hV,fq]
def wR:Nat->List Wd
 | 0=>Aio 8 0
 | i+1=>(wR i).set i (BX.getD i 0)
theorem AeP:∀ i,(wR i).length=8
 | 0=>rfl
 | i+1=>by simp [wR,AeP i]
theorem AhY:wR 8=BX:=Ode
theorem Ahl:Me Tryz.prog 77=some (5,1,1,.int .u8 0):=by kernel_rfl
set_option maxHeartbeats 1000000 in
theorem Ju{w:World}{a:Option Addr}{c:Nat}(l:List UInt8)(hr:Rd w a (l.map Ag))(hc:l.length<=c)(hl:l.length<=140737488355328) :
  Cw 91 #[.slice a l.length c] w λ v w'=>v=.agg ⟨(H9 l).map Ag⟩/\Below w.heap.size w w':=by
 apply RV
 delta A Ad B Cs F G I Lv Qi Ri Rs S Am U V W Wb Wu Wv X Y;try dsimp only [Ps]
 refine (SH.start (λ _=>False) w).An λ b2 w1 _ _ S=>(Vj w1).mono ?_;rintro _ w2 ⟨_,rfl,bw,rfl,vJ,vU,B2⟩
 replace S:=S.Adk B2 vJ vU
 refine⟨_,_,_,rfl,S.An λ b5 w3 _ _ S=>?_⟩;refine⟨λ st w'=>∃ i:Nat,st=[.int .i64 (i:Int)]/\i<=8/\SH (λ _=>False) w w' [(b5,⟨(wR i).map wV⟩,185),(bw,⟨BX.map wV⟩,184),(b2,⟨Aio 32 (.int .u8 0)⟩,142)],
  λ st _=>match st with | [.int _ t]=>(8-t).toNat | _=>0,⟨0,rfl,Omg,S⟩,?_⟩
 rintro t w4 ⟨i,aA,hi,S⟩;cases L5 aA;have sj:=AeP i;have ct:BX.length=8:=rfl;refine Aa (λ aB=>?_) (λ aJ=>?_)
 ·refine⟨⟨Omg,Omg⟩,⟨_,S.wd 1 rfl Omg (Ait _),⟨Omg,Omg⟩,S.E8 0 rfl Omg (Ait _) λ w5 S=>?_⟩⟩;rw [Ae Omg];exact⟨⟨i+1,rfl,Omg,S⟩,by show (8-((i+1:Nat):Int)).toNat<(8-(i:Int)).toNat;omega⟩
 ·have kQ:i=8:=Omg;have hw8:wR i=BX:=by rw [kQ,AhY]
  rw [hw8] at S;refine⟨_,S.wd' 0 rfl Omg,?_⟩;have e0:∀ x:Wd,IntKind.u32.wrap (((AhZ 32 (x.toNat:Int) ^^^ AhZ 32 16842784).toNat:Int))=((x ^^^ 16842784).toNat:Int):=by
   intro x;rw [Bk,Bp];rfl
  rw [e0];refine S.LA 0 rfl Omg λ w6 S=>?_;refine⟨λ st w'=>∃ k:Nat,st=[.int .i64 ((64*k:Nat):Int)]/\(k=0\/64*k<l.length)/\SH (λ _=>False) w w' [(b5,⟨(F4 l k).map wV⟩,185),(bw,⟨BX.map wV⟩,184),(b2,⟨Aio 32 (.int .u8 0)⟩,142)],
   λ st _=>match st with | [.int _ t]=>((l.length:Int)+64-t).toNat | _=>0,⟨0,rfl,.inl rfl,S⟩,?_⟩
  rintro t w7 ⟨k,aA,hk,S⟩;cases L5 aA;have bF:=IU l k;refine DS Ahl (l:=64) (c:=64) Omg Omg Omg Omg λ b8 w8 qQ B8 yd=>?_;have hz:(madeCells (Value.int .u8 0).cells ((64:Int).toNat*1))=⟨Aio 64 (.int .u8 0)⟩:=by
   apply Array.ext';exact D5 (.int .u8 0) rfl 64
  rw [hz] at yd
  replace S:=S.Adk B8 qQ yd
  refine⟨_,_,_,rfl,⟨Omg,Omg,Omg⟩,?_⟩;have cm:Rd w8 (Ch a (64*k) c 1) ((l.drop (64*k)).map Ag):=by
   have:=(hr.grown S.below).NQ (64*k) l.length c 1 hc;rw [AiZ Osi,Aiw,<- List.map_drop] at this;exact this
  rw [Ait];refine S.copy 0 rfl (P:=Tryz.prog) (elem:=5) (dLen:=64) (by kernel_rfl) (by kernel_rfl) (a:=Ch a (64*k) c 1) (xs:=(l.drop (64*k)).map Ag) Osi Osi cm (WB _) λ w9 _ S=>?_;have eb:(⟨((l.drop (64*k)).map Ag).take 64++(Aio 64 (Value.int .u8 0)).drop (min (l.length-64*k) 64)⟩:Array Value)=⟨(Mk l (64*k)).map Ag⟩:=by
   rw [List.drop_replicate];simp only [Mk,Wh,List.map_append,List.map_replicate,List.map_take];rfl
  replace S:=eb ▸ S
  have ele:DI l (64*k)<=l.length:=by unfold DI;omega
  have ee:IntKind.i64.wrap (((64*k:Nat):Int)+((min (l.length-64*k) 64:Nat):Int))=((DI l (64*k):Nat):Int):=by
   unfold DI;rw [wrap_i64 Omg Omg];omega
  have eu:IntKind.u64.wrap ((DI l (64*k):Nat):Int)=((DI l (64*k):Nat):Int):=by
   rw [Aj Omg Omg]
  have uM:(((DI l (64*k):Nat):Int)==((l.length:Nat):Int))=(DI l (64*k)==l.length):=by
   rw [AiY];simp;omega
  refine⟨_,rfl,CY (F4 l k) bF (Rd.Al (S.get 1 rfl)) ?_⟩;rw [ee,eu,uM];refine (Adm (F4 l k) bF (c:=64) (Mk l (64*k)) (PN _ _) (Rd.Al (S.get 0 rfl)) (DI l (64*k)) Omg _).mono ?_;rintro _ bX ⟨_,rfl,rfl,bu⟩;have br:=IU l (k+1);rw [F4] at br;refine NV _ br ⟨rfl,Dg (by rw [AiH];exact br) ?_⟩;refine (S.grown bu).Eb 1 rfl (by simp only [AiH,br,List.size_toArray,bF]) (Ir _) λ aZ _ S=>?_
  replace S:=S.drop 1
  change SH (λ _=>False) w aZ [(b5,⟨(F4 l (k+1)).map wV⟩,185),(bw,⟨BX.map wV⟩,184),(b2,⟨Aio 32 (.int .u8 0)⟩,142)] at S;refine Aq (λ hJ=>?_) (λ hJ=>?_)
  ·have l7:DI l (64*k)=l.length:=by simpa using hJ
   have sW:Aea l=k+1:=by
    unfold Aea;unfold DI at l7;omega
   have jy:=IU l (k+1);refine S.An λ kI bL _ _ S=>?_;refine⟨λ st w'=>∃ i:Nat,st=[.int .i64 (i:Int)]/\i<=32/\SH (λ _=>False) w w' [(kI,⟨(Qo (F4 l (k+1)) i).map Ag⟩,142),(b5,⟨(F4 l (k+1)).map wV⟩,185),(bw,⟨BX.map wV⟩,184),(b2,⟨Aio 32 (.int .u8 0)⟩,142)],
    λ st _=>match st with | [.int _ t]=>(32-t).toNat | _=>0,⟨0,rfl,Omg,S⟩,?_⟩
   rintro t al ⟨i,aA,hi,S⟩;cases L5 aA;have cC:=OL (F4 l (k+1)) i;refine Aa (λ aB=>?_) (λ aJ=>?_)
   ·have dh:i<32:=Omg;rw [Abt i Omg,Abu i Omg];refine⟨⟨Omg,Omg⟩,_,S.wd 1 rfl Omg (Ait _),Omg,⟨Omg,aB⟩,?_⟩;rw [Ait,VN _ _ Omg];refine S.AfY 0 rfl Omg (Ait _) λ ah S=>?_;rw [Ae Omg];exact⟨⟨i+1,rfl,Omg,S⟩,by show (32-((i+1:Nat):Int)).toNat<(32-(i:Int)).toNat;omega⟩
   ·have dh:i=32:=Omg;have bA:((Qo (F4 l (k+1)) i).map Ag).length=32:=by rw [AiH];exact cC
    refine Ha (Qo (F4 l (k+1)) i) cC (Rd.Al (S.get 0 rfl)) (Dg bA ?_);refine S.Eb 3 rfl bA (WB _) λ au _ S=>?_;refine Ha (Qo (F4 l (k+1)) i) cC (Rd.Al (S.get 3 rfl)) ⟨?_,S.below⟩;unfold H9;rw [sW,dh]
  ·have l7:DI l (64*k)≠l.length:=by simpa using hJ
   have nQ:DI l (64*k)=64*(k+1):=by
    unfold DI at l7 ⊢;omega
   rw [nQ];exact⟨⟨k+1,rfl,Omg,S⟩,by show ((l.length:Int)+64-((64*(k+1):Nat):Int)).toNat<((l.length:Int)+64-((64*k:Nat):Int)).toNat;omega⟩
def Ahb:ByteArray:=⟨#[48,49,50,51,52,53,54,55,56,57,97,98,99,100,101,102]⟩
def AdQ(c:UInt8):List UInt8:=[Az Ahb (c.toNat / 16),Az Ahb (c.toNat % 16)]
def RL(d:List UInt8):List UInt8:=d.flatMap AdQ
theorem TD(d:List UInt8):(RL d).length=2*d.length:=by
 induction d with
 | nil=>rfl
 | cons c d ih=>simp [RL,AdQ] at ih ⊢;omega
theorem VB(d:List UInt8)(i:Nat)(h:i<d.length):RL (d.take (i+1))=RL (d.take i)++AdQ (d.getD i 0):=by
 unfold RL;rw [List.take_succ_eq_append_getElem h,List.flatMap_append];simp [h]
theorem AgX:∀ c:UInt8,IntKind.u8.wrap (((AhZ 8 (c.toNat:Int) &&& AhZ 8 15).toNat:Int))=((c.toNat % 16:Nat):Int):=by
 intro c;have h:=c.toNat_lt;have e:(AhZ 8 (c.toNat:Int) &&& AhZ 8 15).toNat=c.toNat % 16:=by
  rw [BitVec.toNat_and,BitVec.ofInt_natCast,BitVec.toNat_ofNat,Nat.mod_eq_of_lt Omg,show (AhZ 8 15).toNat=2 ^ 4-1 by rfl,Nat.and_two_pow_sub_one_eq_mod]
 rw [e,AG Omg Omg]
theorem AhS(c:UInt8):Int.fdiv (c.toNat:Int) (2 ^ (min 4 8))=((c.toNat / 16:Nat):Int):=by
 rw [show (2:Int) ^ (min 4 8)=16 by rfl,Int.fdiv_eq_ediv_of_nonneg _ Omg];omega
theorem Yg(d:List UInt8)(hd:d.length=32)(w:World) :
  Cw 120 #[.agg ⟨d.map Ag⟩] w λ v w'=>v=.string (Bu (RL d))/\Below w.heap.size w w':=by
 apply TB
 delta A B D F I J Ks N O Eg Rt S T W Wb X;try dsimp only [Ps]
 refine (SH.start (λ _=>False) w).An λ b2 w1 _ B1 S=>Ha d hd (Rd.Al (S.get 0 rfl)) ?_;refine⟨λ s w'=>∃(i:Nat) (a:Option Addr) (c:Nat),s=[.slice a (RL (d.take i)).length c,.int .i64 (i:Int)]/\i<=32/\Bj w1 w' (RL (d.take i)) a c,
  λ s _=>match s with | [_,.int _ t]=>(32-t).toNat | _=>0,⟨0,none,0,rfl,Omg,Row.nil _ _ _,by simp [AF],.refl _ _⟩,?_⟩
 rintro _ _ c _ w2 ⟨i,a,_,hs,hi,h1⟩;cases hs;refine Aa (λ aB=>⟨⟨Omg,aB⟩,?_⟩) (λ aJ=>?_)
 ·have dh:i<32:=Omg;have hx:=(d.getD i 0).toNat_lt;refine⟨((d.getD i 0).toNat:Int),?_,?_⟩
  ·rw [Ait,Aiw];simp [hd,dh,Ag]
  ·rw [AgX,AhS,Ait,Ait];refine (SH.start (λ _=>False) w2).EL λ w4 B4 S4=>⟨⟨Omg,?_⟩,⟨Omg,?_⟩,S4.An λ dN w5 _ B5 S5=>?_⟩
   ·show (((d.getD i 0).toNat / 16:Nat):Int)<16;omega
   ·show (((d.getD i 0).toNat % 16:Nat):Int)<16;omega
   have h5:=(h1.grown B4).grown B5;have hl:=TD (d.take i);rw [List.length_take] at hl;refine A0 h5.row (m:=AdQ (d.getD i 0)) (b:=some ⟨dN,0,none⟩) (mc:=2) (Rd.Al (S5.get 0 rfl)) (by show _+2<=_;omega) λ a' c' w6 R6 K6 N6=>⟨_,_,_,rfl,?_⟩;rw [<- VB d i Omg] at R6 ⊢;rw [Ae Omg];refine⟨⟨i+1,a',c',rfl,Omg,R6,λ k hk=>?_,h5.Ar.trans (K6.below h5.Ar.size λ k hk he=>by have:=h5.new k he;omega)⟩,by show (32-((i+1:Nat):Int)).toNat<(32-(i:Int)).toNat;omega⟩;rcases N6 k hk with h | h
   ·exact h5.new k h
   ·exact AiI h5.Ar.size h
 ·have dh:i=32:=Omg;have ht:d.take i=d:=by rw [AiZ Omg]
  rw [ht] at h1 ⊢;exact Aw (by kernel_rfl) rfl h1.rd ⟨_,rfl,rfl,Ac B1 h1.Ar⟩
theorem AgB(c:UInt8):IntKind.u8.wrap (Int.tdiv (c.toNat:Int) 16)=((c.toNat / 16:Nat):Int):=by
 have:=c.toNat_lt;rw [Int.tdiv_eq_ediv_of_nonneg Omg,AG Omg Omg];omega
theorem AgC(c:UInt8):Int.tmod (c.toNat:Int) 16=((c.toNat % 16:Nat):Int):=by
 rw [Int.tmod_eq_emod_of_nonneg Omg];omega
theorem W6(d:List UInt8)(hd:d.length=32)(w:World) :
  Cw 124 #[.agg ⟨d.map Ag⟩] w λ v w'=>v=.string (Bu (RL d))/\Below w.heap.size w w':=by
 apply RU
 delta A B D F I J Ks Ly N O Eg Rt S T W Wb X;try dsimp only [Ps]
 refine (SH.start (λ _=>False) w).An λ b2 w1 _ B1 S=>?_;refine⟨λ s w'=>∃(i:Nat) (a:Option Addr) (c:Nat),s=[.slice a (RL (d.take i)).length c,.int .i64 (i:Int)]/\i<=32/\Bj w1 w' (RL (d.take i)) a c,
  λ s _=>match s with | [_,.int _ t]=>(32-t).toNat | _=>0,⟨0,none,0,rfl,Omg,Row.nil _ _ _,by simp [AF],.refl _ _⟩,?_⟩
 rintro _ _ c _ w2 ⟨i,a,_,hs,hi,h1⟩;cases hs;refine Aa (λ aB=>?_) (λ aJ=>?_)
 ·have dh:i<32:=Omg;have hx:=(d.getD i 0).toNat_lt;refine (SH.start (λ _=>False) w2).EL λ w4 B4 S4=>?_;have df:w4.cell? ((⟨b2,0,none⟩:Addr).add ((i:Int).toNat*1))=some (.int .u8 ((d.getD i 0).toNat:Int)):=by
   rw [Ait,Ax,Nat.zero_add,Aiw];refine ((S.grown h1.Ar).grown B4).cell 0 rfl ?_;simp [hd,dh,Ag]
  refine⟨⟨Omg,aB⟩,⟨Omg,aB⟩,_,df,?_⟩;rw [AgB];refine⟨⟨Omg,?_⟩,_,df,?_⟩
  ·show (((d.getD i 0).toNat / 16:Nat):Int)<16;omega
  rw [AgC,Ait,Ait];refine⟨⟨Omg,?_⟩,S4.An λ dN w5 _ B5 S5=>?_⟩
  ·show (((d.getD i 0).toNat % 16:Nat):Int)<16;omega
  have h5:=(h1.grown B4).grown B5;have hl:=TD (d.take i);rw [List.length_take] at hl;refine A0 h5.row (m:=AdQ (d.getD i 0)) (b:=some ⟨dN,0,none⟩) (mc:=2) (Rd.Al (S5.get 0 rfl)) (by show _+2<=_;omega) λ a' c' w6 R6 K6 N6=>⟨_,_,_,rfl,?_⟩;rw [<- VB d i Omg] at R6 ⊢;rw [Ae Omg];refine⟨⟨i+1,a',c',rfl,Omg,R6,λ k hk=>?_,h5.Ar.trans (K6.below h5.Ar.size λ k hk he=>by have:=h5.new k he;omega)⟩,by show (32-((i+1:Nat):Int)).toNat<(32-(i:Int)).toNat;omega⟩;rcases N6 k hk with h | h
  ·exact h5.new k h
  ·exact AiI h5.Ar.size h
 ·have dh:i=32:=Omg;have ht:d.take i=d:=by rw [AiZ Omg]
  rw [ht] at h1 ⊢;exact Aw (by kernel_rfl) rfl h1.rd ⟨_,rfl,rfl,Ac B1 h1.Ar⟩
theorem Fu(l:List UInt8):(H9 l).length=32:=OL _ _
def TP(c:UInt8):Bool:=decide (97<=c.toNat) && decide (c.toNat<=122)
def W2(c:UInt8):Bool:=(decide (48<=c.toNat) && decide (c.toNat<=57)) || c.toNat==95
def nameAt(s:ByteArray)(i:Nat):Bool:=TP (Az s i) || (W2 (Az s i) && i != 0)
def Fb(s:ByteArray):Bool:=(Ai0 s.size).all (nameAt s) && decide (1<=s.size) && decide (s.size<=24)
theorem RX(s:ByteArray)(hs:s.size<=9223372036854775807)(w:World):Cw 130 #[.string s] w λ r w'=>r=.bool (Fb s)/\w'=w:=by
 apply Nd
 delta F G I Qi W X Zb;try dsimp only [Ps]
 refine⟨λ st w'=>∃ i:Nat,st=[.int .i64 (i:Int)]/\i<=s.size/\(∀ j,j<i->nameAt s j=true)/\w'=w,
  λ st _=>match st with | [.int _ t]=>((s.size:Int)-t).toNat | _=>0,⟨0,rfl,Omg,λ j hj=>Omg,rfl⟩,?_⟩
 rintro t w1 ⟨i,aA,hi,aF,rfl⟩;cases L5 aA;refine Aa (λ aB=>?_) (λ aJ=>?_)
 ·have hb:(0:Int)<=(i:Int)/\(i:Int)<(s.size:Int):=⟨Omg,aB⟩;rw [Ait];refine⟨λ st w'=>st=[.bool (TP (Az s i))]/\w'=w1,⟨hb,Aa (λ h=>⟨hb,?_⟩) (λ h=>?_)⟩,?_⟩
  ·have uX:97<=(Az s i).toNat:=Omg;refine⟨?_,rfl⟩;congr 2;rw [AiY];simp [TP,uX];omega
  ·have uX:¬ 97<=(Az s i).toNat:=Omg;refine⟨?_,rfl⟩;simp [TP,uX]
  ·rintro letter w2 ⟨hl,rfl⟩;have hle:letter=TP (Az s i):=by simpa using hl
   subst hle;refine⟨λ st w'=>st=[.bool (W2 (Az s i))]/\w'=w2,⟨hb,Aa (λ h=>⟨hb,Aa (λ h2=>?_) (λ h2=>⟨hb,?_⟩)⟩) (λ h=>⟨hb,?_⟩)⟩,?_⟩
   ·have uT:48<=(Az s i).toNat:=Omg;have uV:(Az s i).toNat<=57:=Omg;refine⟨?_,rfl⟩;simp [W2,uT,uV]
   ·have uV:¬ (Az s i).toNat<=57:=Omg;refine⟨?_,rfl⟩;congr 2;rw [AiY];simp [W2,uV];omega
   ·have uT:¬ 48<=(Az s i).toNat:=Omg;refine⟨?_,rfl⟩;congr 2;rw [AiY];simp [W2,uT];omega
   ·rintro other w3 ⟨ho,rfl⟩;have hoe:other=W2 (Az s i):=by simpa using ho
    subst hoe;have aP:nameAt s i=false->Fb s=false:=by
     intro h;have:(Ai0 s.size).all (nameAt s)=false:=by
      rw [List.all_eq_false];exact⟨i,List.mem_range.2 Omg,by simp [h]⟩
     simp [Fb,this]
    have af:nameAt s i=true->(∃ k:Nat,[Value.int .i64 (IntKind.i64.wrap ((i:Int)+1))]=[.int .i64 (k:Int)]/\k<=s.size/\(∀ j,j<k->nameAt s j=true)/\w3=w3) /\
      ((s.size:Int)-IntKind.i64.wrap ((i:Int)+1)).toNat<((s.size:Int)-(i:Int)).toNat:=by
     intro h;rw [Ae Omg];refine⟨⟨i+1,rfl,Omg,λ j hj=>?_,rfl⟩,Omg⟩;rcases Nat.lt_or_ge j i with h2 | h2
     ·exact aF j h2
     ·rw [show j=i by omega];exact h
    refine Aq (λ h1=>Aq (λ h2=>?_) (λ h2=>Ap (λ h3=>?_) (λ h3=>?_))) (λ h1=>?_)
    ·exact⟨by rw [aP (by simp_all [nameAt])],rfl⟩
    ·have h0:i=0:=Omg;exact⟨by rw [aP (by simp_all [nameAt])],rfl⟩
    ·have:i≠0:=Omg;exact af (by simp_all [nameAt])
    ·exact af (by simp_all [nameAt])
 ·have bK:i=s.size:=Omg;have ha:(Ai0 s.size).all (nameAt s)=true:=by
   rw [List.all_eq_true];intro j hj;exact aF j (by have:=List.mem_range.1 hj;omega)
  refine Aa (λ h=>⟨?_,rfl⟩) (λ h=>⟨?_,rfl⟩)
  ·have h1:1<=s.size:=Omg;congr 1;rw [AiY];simp [Fb,ha,h1];omega
  ·have h1:¬ 1<=s.size:=Omg;simp [Fb,h1]
end Go.Proofs.YtpnaifmmggnimaaGreatDoor
namespace Go.Proofs
open _root_.Go.Proofs.Tryz renaming prog -> Aix
set_option linter.unusedVariables false
set_option maxRecDepth 100000
open Go.Shelf
def Tryz.Yn:Go.Shelf.Ren:=⟨fun | 106=>236 | 213=>263 | 265=>276 | n=>n,fun | 9=>9 | 3=>3 | n=>n,fun | n=>n⟩
theorem Tryz.Afn:Go.Proofs.Lays.n106 Aix Tryz.Yn:={
 mixed:=by kernel_rfl
 f106:=Tryz.func236.trans (congrArg some (by kernel_rfl))
 f213:=Tryz.func263.trans (congrArg some (by kernel_rfl))
 f265:=Tryz.func276.trans (congrArg some (by kernel_rfl))
 t3:=Tryz.underlying3
 a3:=Tryz.isAgg3
 z3:=Tryz.sizeOf3
 v3:=Tryz.zeroValue3
 t9:=Tryz.underlying9
 a9:=Tryz.isAgg9
 z9:=Tryz.sizeOf9
 v9:=Tryz.zeroValue9 }
open Go.RowKit in
theorem Tryz.strings_Compare(a b:ByteArray)(w:World) :
  Calls Aix 236 #[.string a,.string b] w λ e w'=>e=.returned (.int .i64 (Lib.compareBytes a.data.toList b.data.toList))/\w'=w:=Any.strings_Compare Tryz.Afn a b w
def Tryz.Yo:Go.Shelf.Ren:=⟨fun | 137=>165 | 217=>203 | 266=>245 | n=>n,fun | 9=>9 | 5=>5 | 3=>3 | n=>n,fun | n=>n⟩
theorem Tryz.Afo:Go.Proofs.Lays.n137 Aix Tryz.Yo:={
 mixed:=by kernel_rfl
 f137:=Tryz.func165.trans (congrArg some (by kernel_rfl))
 f217:=Tryz.func203.trans (congrArg some (by kernel_rfl))
 f266:=Tryz.func245.trans (congrArg some (by kernel_rfl))
 t3:=Tryz.underlying3
 a3:=Tryz.isAgg3
 z3:=Tryz.sizeOf3
 v3:=Tryz.zeroValue3
 t5:=Tryz.underlying5
 a5:=Tryz.isAgg5
 z5:=Tryz.sizeOf5
 v5:=Tryz.zeroValue5
 t9:=Tryz.underlying9
 a9:=Tryz.isAgg9
 z9:=Tryz.sizeOf9
 v9:=Tryz.zeroValue9 }
open Go.RowKit in
theorem Tryz.strings_IndexByte(s:ByteArray)(c:Int)(w:World) :
  Calls Aix 165 #[.string s,.int .u8 c] w λ e w'=>e=.returned (.int .i64 (Lib.indexByte s.data.toList c.toNat.toUInt8))/\w'=w:=Any.strings_IndexByte Tryz.Afo s c w
def Tryz.Yp:Go.Shelf.Ren:=⟨fun | 227=>206 | n=>n,fun | 9=>9 | 116=>269 | 4=>4 | 0=>0 | 3=>3 | 5=>5 | n=>n,fun | n=>n⟩
theorem Tryz.Afp:Go.Proofs.Lays.n227 Aix Tryz.Yp:={
 mixed:=by kernel_rfl
 f227:=Tryz.func206.trans (congrArg some (by kernel_rfl))
 t0:=Tryz.underlying0
 a0:=Tryz.isAgg0
 z0:=Tryz.sizeOf0
 v0:=Tryz.zeroValue0
 t3:=Tryz.underlying3
 a3:=Tryz.isAgg3
 z3:=Tryz.sizeOf3
 v3:=Tryz.zeroValue3
 t4:=Tryz.underlying4
 a4:=Tryz.isAgg4
 z4:=Tryz.sizeOf4
 v4:=Tryz.zeroValue4
 t5:=Tryz.underlying5
 a5:=Tryz.isAgg5
 z5:=Tryz.sizeOf5
 v5:=Tryz.zeroValue5
 t9:=Tryz.underlying9
 a9:=Tryz.isAgg9
 z9:=Tryz.sizeOf9
 v9:=Tryz.zeroValue9
 t116:=Tryz.underlying269
 a116:=Tryz.isAgg269
 z116:=Tryz.sizeOf269 }
open Go.RowKit Go.Lib in
theorem Tryz.strings_makeASCIISet(rI:∀ w,(zeroValue 269).run Aix w=.ok (.agg (Array.replicate 256 (.bool false))) w)(chars:ByteArray)(w:World)(hs:chars.size<4294967281)(nD:∀(j:Nat) b,chars.data.toList[j]?=some b->b.toNat<128) :
  Calls Aix 206 #[.string chars] w λ e w'=>e=.returned (.tuple #[.agg (Lib.setCells chars.data.toList),.bool true])/\w'=w.alloc (.cells (Lib.setCells chars.data.toList) 269):=Any.strings_makeASCIISet Tryz.Afp rI (by kernel_rfl) chars w hs nD
def Tryz.Yq:Go.Shelf.Ren:=⟨fun | 228=>246 | n=>n,fun | 124=>273 | 5=>5 | 4=>4 | 0=>0 | 116=>269 | n=>n,fun | n=>n⟩
theorem Tryz.Afq:Go.Proofs.Lays.n228 Aix Tryz.Yq:={
 mixed:=by kernel_rfl
 f228:=Tryz.func246.trans (congrArg some (by kernel_rfl))
 t0:=Tryz.underlying0
 a0:=Tryz.isAgg0
 z0:=Tryz.sizeOf0
 v0:=Tryz.zeroValue0
 t4:=Tryz.underlying4
 a4:=Tryz.isAgg4
 z4:=Tryz.sizeOf4
 v4:=Tryz.zeroValue4
 t5:=Tryz.underlying5
 a5:=Tryz.isAgg5
 z5:=Tryz.sizeOf5
 v5:=Tryz.zeroValue5
 t116:=Tryz.underlying269
 a116:=Tryz.isAgg269
 z116:=Tryz.sizeOf269
 t124:=Tryz.underlying273
 a124:=Tryz.isAgg273
 z124:=Tryz.sizeOf273
 v124:=Tryz.zeroValue273 }
open Go.RowKit Go.Lib in
theorem Tryz.asciiSet_contains(b:Nat)(x:UInt8)(v:Bool)(w:World)(hc:w.cell? ⟨b,x.toNat,none⟩=some (.bool v)) :
  Calls Aix 246 #[.pointer (some ⟨b,0,none⟩),.int .u8 x.toNat] w λ e w'=>e=.returned (.bool v)/\w'=w:=Any.asciiSet_contains Tryz.Afq b x v w hc
end Go.Proofs
namespace Go.Proofs.YtpnaifmmggnimaaGreatDoor
open R
open _root_.Bool renaming and_eq_true -> Ah1
open _root_.List renaming all_eq_true -> Ai1, eq_nil_of_length_eq_zero -> Aii
set_option maxRecDepth 100000
open Go.Dn Go.Proofs
open Go.RowKit (Below)
set_option linter.unusedVariables false
theorem Xj(mem:UInt8->Bool){w:World}{b:Nat}(hc:∀ x:UInt8,w.cell? ⟨b,x.toNat,none⟩=some (.bool (mem x)))(s:ByteArray)(hs:s.size<=9223372036854775807) :
  Cw 208 #[.string s,.pointer (some ⟨b,0,none⟩)] w λ r w'=>∃ l m,r=.string (Bu l)/\bl s=l++m/\m.all mem=true/\(l=[]\/∃ p c,l=p++[c]/\mem c=false)/\w'=w:=by
 apply GA
 delta B Cb F P Qt T W X Y;try dsimp only [Ps]
 refine⟨λ st w'=>∃ l m,st=[.string (Bu l)]/\bl s=l++m/\m.all mem=true/\w'=w,λ st _=>match st with | [.string t]=>t.size | _=>0,⟨bl s,[],by rw [DP],Osi,rfl,rfl⟩,?_⟩;rintro t w1 ⟨l,m,aA,hl,hm,rfl⟩;have ht:t=Bu l:=by simpa using aA
 subst ht;rw [AP];have hlen:l.length<=9223372036854775807:=by
  have:=congrArg List.length hl;rw [AW,List.length_append] at this;omega
 refine Aa (λ h=>?_) (λ h=>?_)
 ·have aQ:l≠[]:=by intro h2;subst h2;simp at h
  obtain⟨p,c,rfl⟩:∃ p c,l=p++[c]:=⟨l.dropLast,l.getLast aQ,(List.dropLast_concat_getLast aQ).symm⟩;simp only [List.length_append,List.length_cons,List.length_nil] at h hlen ⊢;have e1:IntKind.i64.wrap (((p.length+(0+1):Nat):Int)-1)=(p.length:Int):=by rw [wrap_i64 Omg Omg];omega
  rw [e1,Int.toNat_natCast,LQ,Bn,show (p++[c]).getD p.length 0=c by simp];refine⟨⟨Omg,Omg⟩,(Tryz.asciiSet_contains b c (mem c) w1 (hc c)).mono ?_⟩;rintro _ w2 ⟨rfl,rfl⟩;refine⟨_,rfl,Aq (λ h2=>?_) (λ h2=>?_)⟩
  ·exact⟨p++[c],m,rfl,hl,hm,.inr ⟨p,c,rfl,by simpa using h2⟩,rfl⟩
  ·have wM:mem c=true:=by simpa using h2
   have e2:ByteArray.extract (Bu (p++[c])) 0 p.length=Bu p:=by
    rw [extract_eq,Bn];simp
   refine⟨⟨Omg,Omg,Omg⟩,?_⟩;rw [e2];exact⟨⟨p,c :: m,rfl,by rw [hl];simp,by simp [wM,hm],rfl⟩,by show (Bu p).size<(Bu (p++[c])).size;rw [AP,AP];simp⟩
 ·have:l=[]:=Aii Omg;exact⟨l,m,rfl,hl,hm,.inl this,rfl⟩
theorem Zm(mem:UInt8->Bool){w:World}{b:Nat}(hc:∀ x:UInt8,w.cell? ⟨b,x.toNat,none⟩=some (.bool (mem x)))(s:ByteArray) :
  Cw 207 #[.string s,.pointer (some ⟨b,0,none⟩)] w λ r w'=>∃ l m,r=.string (Bu l)/\bl s=m++l/\m.all mem=true/\(l=[]\/∃ c p,l=c :: p/\mem c=false)/\w'=w:=by
 apply GU
 delta B Cb F P Qt T X Y;try dsimp only [Ps]
 refine⟨λ st w'=>∃ l m,st=[.string (Bu l)]/\bl s=m++l/\m.all mem=true/\w'=w,λ st _=>match st with | [.string t]=>t.size | _=>0,⟨bl s,[],by rw [DP],Osi,rfl,rfl⟩,?_⟩;rintro t w1 ⟨l,m,aA,hl,hm,rfl⟩;have ht:t=Bu l:=by simpa using aA
 subst ht;rw [AP];refine Aa (λ h=>?_) (λ h=>?_)
 ·cases l with
  | nil=>simp at h
  | cons c p =>
   simp only [List.length_cons] at h ⊢;rw [LQ,Bn,show (c :: p).getD 0 0=c by rfl];refine⟨⟨Omg,Omg⟩,(Tryz.asciiSet_contains b c (mem c) w1 (hc c)).mono ?_⟩;rintro _ w2 ⟨rfl,rfl⟩;refine⟨_,rfl,Aq (λ h2=>?_) (λ h2=>?_)⟩
   ·exact⟨c :: p,m,rfl,hl,hm,.inr ⟨c,p,rfl,by simpa using h2⟩,rfl⟩
   ·have wM:mem c=true:=by simpa using h2
    have e2:ByteArray.extract (Bu (c :: p)) 1 (p.length+1)=Bu p:=by
     rw [extract_eq,Bn];simp
    refine⟨⟨Omg,Omg,Omg⟩,?_⟩;rw [e2];exact⟨⟨p,m++[c],rfl,by rw [hl];simp,by simp [wM,hm],rfl⟩,by show (Bu p).size<(Bu (c :: p)).size;rw [AP,AP];simp⟩
 ·have:l=[]:=Aii Omg;exact⟨l,m,rfl,hl,hm,.inl this,rfl⟩
theorem Q1:∀(us:List Bool) {n:Nat} {f:List Value->Prop},us.length=n->f (us.map .bool)->Fh (List.replicate n (.bool false)) f
 | [],_,_,hn,h=>by subst hn;exact h
 | u :: us,_,_,hn,h=>by subst hn;exact⟨u,Q1 us rfl h⟩
def Y1(l:List UInt8):List Bool:=(List.range 256).map λ j=>l.contains (UInt8.ofNat j)
theorem Uh(l:List UInt8):Lib.setCells l=⟨(Y1 l).map .bool⟩:=by
 rw [Lib.setCells_eq];apply Array.ext';simp [Y1,List.map_map,Function.comp_def]
theorem Si(s cut:ByteArray)(hs:s.size<=9223372036854775807)(h2:2<=cut.size)(hz:cut.size<4294967281)(ha:∀(j:Nat) b,cut.data.toList[j]?=some b->b.toNat<128)(w:World) :
  Cw 166 #[.string s,.string cut] w λ r w'=>∃ q,r=.string q/\(q=⟨#[]⟩↔(bl s).all (bl cut).contains=true)/\Below w.heap.size w w':=by
 apply NI
 delta A B Ct D F G H J P T X Zb;try dsimp only [Ps]
 have he:∀ x:ByteArray,A1 x ⟨#[]⟩=true->x=⟨#[]⟩:=λ x h=>by rw [AU] at h;simpa using h
 refine Aq (λ h=>?_) (λ h0=>Aq (λ h=>?_) (λ h1=>?_))
 ·have:=he s h;subst this;exact⟨_,rfl,by simp [bl],.refl _ _⟩
 ·have:=he cut h;subst this;exact absurd h2 Ode
 ·refine⟨λ st w'=>st=[.bool false]/\w'=w,Ap (λ h=>Omg) (λ _=>⟨rfl,rfl⟩),?_⟩;rintro t w1 ⟨ht,rfl⟩;have:t=false:=by simpa using ht
  subst this;refine AN ((Tryz.strings_makeASCIISet (λ _=>by kernel_rfl) cut w1 hz ha).mono ?_);rintro _ w5 ⟨rfl,rfl⟩;rw [Uh];have an:(Y1 cut.data.toList).length=256:=by simp [Y1]
  refine Q1 (Y1 cut.data.toList) an ⟨true,rfl,?_⟩;have B0:Below w1.heap.size w1 (w1.alloc (.cells ⟨(Y1 cut.data.toList).map .bool⟩ 269)):=(Below.refl _ w1).alloc (Nat.le_refl _) _;have S0:=(SH.start (λ _=>False) w1).grown B0;have h1:∀ v∈(Y1 cut.data.toList).map Value.bool,v.oneCell'=true:=by
   intro v hv;obtain⟨u,_,rfl⟩:=List.mem_map.1 hv;rfl
  have bA:((Y1 cut.data.toList).map Value.bool).length=256:=by rw [List.length_map];exact an
  refine S0.An λ dv w6 _ _ S=>Dg bA (S.Eb 0 rfl bA h1 λ w7 _ S=>CG ?_);have hc:∀ x:UInt8,w7.cell? ⟨dv,x.toNat,none⟩=some (.bool ((bl cut).contains x)):=λ x=>S.cell 0 rfl (by
   rw [<- Uh];exact Lib.setCells_at _ _)
  refine (Xj (bl cut).contains hc s hs).mono ?_;rintro _ w8 ⟨_,rfl,l,m,rfl,hl,hm,hJ,rfl⟩;refine⟨_,rfl,(Zm (bl cut).contains hc (Bu l)).mono ?_⟩;rintro _ w9 ⟨_,rfl,q,p,rfl,hq,hp,nT,rfl⟩;refine⟨_,rfl,_,rfl,?_,S.below⟩;rw [Bn] at hq;rw [hl,hq,List.all_append,List.all_append,hm,hp];rcases nT with rfl | ⟨c,r,rfl,hcf⟩
  ·simp [Bu]
  ·simp [Bu];intro iq;simp_all
theorem XM{p:UInt8->Bool}(h:(List.range 256).all (λ n=>p (UInt8.ofNat n))=true)(c:UInt8):p c=true:=by
 have:=Ai1.1 h c.toNat (List.mem_range.2 c.toNat_lt);simpa using this
def TQ:ByteArray:=⟨#[97,98,99,100,101,102,103,104,105,106,107,108,109,110,111,112,113,114,115,116,117,118,119,120,121,122]⟩
def SA:ByteArray:=⟨#[97,98,99,100,101,102,103,104,105,106,107,108,109,110,111,112,113,114,115,116,117,118,119,120,121,122,48,49,50,51,52,53,54,55,56,57,95]⟩
theorem Afs(c:UInt8):decide (Lib.indexByte TQ.data.toList c>=0)=TP c:=by
 have:=XM (p:=λ c=>decide (Lib.indexByte TQ.data.toList c>=0)==TP c) (by kernel_rfl) c;simpa using this
theorem AfC(c:UInt8):(bl SA).contains c=(TP c || W2 c):=by
 have:=XM (p:=λ c=>(bl SA).contains c==(TP c || W2 c)) (by kernel_rfl) c;simpa using this
theorem VG{s:ByteArray}(h1:1<=s.size)(h2:s.size<=24):Fb s=(TP (Az s 0) && (bl s).all λ c=>TP c || W2 c):=by
 have hl:(bl s).length=s.size:=AW s;have he:∀ i (hi:i<(bl s).length),Az s i=(bl s)[i]:=λ i hi=>by rw [LQ];simp [List.getD,hi]
 rw [Bool.eq_iff_iff];simp only [Fb,Ah1,Ai1,List.mem_range,decide_eq_true_eq,h1,h2,and_true];constructor
 ·intro h;refine⟨?_,λ c hc=>?_⟩
  ·have:=h 0 Omg;simpa [nameAt] using this
  ·obtain⟨i,hi,rfl⟩:=List.getElem_of_mem hc;have:=h i Omg;rw [nameAt,he i hi] at this;simp only [Bool.or_eq_true,Ah1] at this ⊢;rcases this with h | h
   ·exact .inl h
   ·exact .inr h.1
 ·rintro⟨h0,h⟩ i hi;have yk:i<(bl s).length:=Omg;have:=h _ (List.getElem_mem yk);rw [nameAt];by_cases hz:i=0
  ·subst hz;simp [h0]
  ·rw [he i yk];simp only [Bool.or_eq_true,Ah1] at this ⊢;rcases this with h | h
   ·exact .inl h
   ·exact .inr ⟨h,by simpa using hz⟩
theorem QR(s:ByteArray)(hs:s.size<=9223372036854775807)(w:World):Cw 129 #[.string s] w λ r w'=>r=.bool (Fb s)/\Below w.heap.size w w':=by
 apply Mc
 delta B Ci Ct F G T X;try dsimp only [Ps]
 refine As (Aq (λ h=>?_) (λ h0=>?_))
 ·rw [AU] at h;have:s=⟨#[]⟩:=by simpa using h
  subst this;exact⟨rfl,.refl _ _⟩
 rw [AU] at h0;have aQ:s≠⟨#[]⟩:=by simpa using h0
 have h1:1<=s.size:=by
  rcases Nat.eq_zero_or_pos s.size with h | h
  ·exact absurd (PM (by rw [Aii ((AW s).trans h)];rfl)) aQ
  ·exact h
 refine Aa (λ h2=>?_) (λ h2=>⟨?_,.refl _ _⟩)
 case refine_2 =>
  have bY:¬ s.size<=24:=Omg;simp [Fb,bY]
 have bY:s.size<=24:=Omg;have hb:=(Az s 0).toNat_lt;refine⟨⟨Omg,Omg⟩,(Tryz.strings_IndexByte TQ ((Az s 0).toNat:Int) w).mono ?_⟩;rintro _ w1 ⟨rfl,rfl⟩;refine⟨_,rfl,?_⟩;have e:((Az s 0).toNat:Int).toNat.toUInt8=Az s 0:=Osi;rw [e,Afs];refine Aq (λ h3=>?_) (λ h3=>⟨?_,.refl _ _⟩)
 ·refine (Si s SA hs Ode Ode ?_ w1).mono ?_
  ·intro j b hj;have h:SA.data.toList.all (λ b=>decide (b.toNat<128))=true:=Ode;exact of_decide_eq_true (Ai1.1 h b (List.mem_of_getElem? hj))
  rintro _ w2 ⟨_,rfl,q,rfl,hq,B⟩;refine⟨_,rfl,?_,B⟩;congr 1;rw [AU,VG h1 bY,h3,Bool.true_and,Bool.eq_iff_iff,decide_eq_true_eq,hq];simp only [Ai1,AfC]
 ·rw [VG h1 bY,h3,Bool.false_and]
end Go.Proofs.YtpnaifmmggnimaaGreatDoor
namespace Go.Dn
set_option linter.unusedVariables false
set_option maxRecDepth 100000
def Good(P:Program)(w:World):Nat->TypeId->List Value->Prop
 | 0,_,_=>False
 | n+1,t,cs =>
  match P.underlying t with
  | some .bool=>∃ b,cs=[.bool b]
  | some (.int k)=>∃ x,cs=[.int k x]/\(Lit.int k x).wf=true
  | some .string=>∃ s:ByteArray,cs=[.string s]/\s.size<=maxLen
  | some (.slice e)=>∃ a len cap,cs=[.slice a len cap]/\len<=cap/\cap<=maxLen/\(a=none->cap=0) /\
    ∃ rows:List (List Value),rows.length=len/\Rd w a rows.flatten/\∀ r∈rows,r.length=P.cellsOf e/\Good P w n e r
  | some (.struct fs)=>cs.length=P.cellsOf t/\∀ f∈fs.toList,Good P w n f.type ((cs.drop f.offset).take (P.cellsOf f.type))
  | _=>True
section
variable {P:Program}{w:World}
theorem Good.bool{n:Nat}{t:TypeId}{cs:List Value}(h:Good P w n t cs)(ht:P.underlying t=some .bool):∃ b,cs=[.bool b]:=by
 cases n with
 | zero=>exact h.elim
 | succ n=>unfold Good at h;rw [ht] at h;exact h
theorem Good.int{n:Nat}{t:TypeId}{cs:List Value}{k:IntKind}(h:Good P w n t cs)(ht:P.underlying t=some (.int k)):∃ x,cs=[.int k x]/\(Lit.int k x).wf=true:=by
 cases n with
 | zero=>exact h.elim
 | succ n=>unfold Good at h;rw [ht] at h;exact h
theorem Good.str{n:Nat}{t:TypeId}{cs:List Value}(h:Good P w n t cs)(ht:P.underlying t=some .string):∃ s:ByteArray,cs=[.string s]/\s.size<=maxLen:=by
 cases n with
 | zero=>exact h.elim
 | succ n=>unfold Good at h;rw [ht] at h;exact h
theorem Good.slice{n:Nat}{t e:TypeId}{cs:List Value}(h:Good P w n t cs)(ht:P.underlying t=some (.slice e)):∃ a len cap,cs=[.slice a len cap]/\len<=cap/\cap<=maxLen/\(a=none->cap=0) /\
    ∃(m:Nat) (rows:List (List Value)),rows.length=len/\Rd w a rows.flatten/\∀ r∈rows,r.length=P.cellsOf e/\Good P w m e r:=by
 cases n with
 | zero=>exact h.elim
 | succ n =>
  unfold Good at h;rw [ht] at h;obtain⟨a,len,cap,h1,h2,h3,h4,rows,h5⟩:=h;exact⟨a,len,cap,h1,h2,h3,h4,n,rows,h5⟩
theorem Good.struct{n:Nat}{t:TypeId}{cs:List Value}{fs:Array Field}(h:Good P w n t cs)(ht:P.underlying t=some (.struct fs)) :
  cs.length=P.cellsOf t/\∃ m,∀ f∈fs.toList,Good P w m f.type ((cs.drop f.offset).take (P.cellsOf f.type)):=by
 cases n with
 | zero=>exact h.elim
 | succ n =>
  unfold Good at h;rw [ht] at h;exact⟨h.1,n,h.2⟩
def Ou(P:Program)(t:TypeId):Option (List (TypeId × Nat)) :=
 match P.underlying t with
 | some (.struct fs)=>some (fs.toList.map λ f=>(f.type,f.offset))
 | _=>none
theorem Good.fields{n:Nat}{t:TypeId}{cs:List Value}{l:List (TypeId × Nat)}(h:Good P w n t cs)(ht:Ou P t=some l) :
  cs.length=P.cellsOf t/\∃ m,∀ x∈l,Good P w m x.1 ((cs.drop x.2).take (P.cellsOf x.1)):=by
 unfold Ou at ht;split at ht
 ·rename_i fs hu;obtain⟨h1,m,h2⟩:=h.struct hu;cases ht;refine⟨h1,m,λ x hx=>?_⟩;obtain⟨f,hf,rfl⟩:=List.mem_map.1 hx;exact h2 f hf
 ·cases ht
theorem Q6(sz:Nat):∀(rows:List (List Value)),(∀ r∈rows,r.length=sz)->∀ j v,rows.flatten[j]?=some v->0<sz/\j / sz<rows.length/\∃ r,rows[j / sz]?=some r/\r[j % sz]?=some v
 | [],_,j,v,h=>by simp at h
 | r :: rows,hl,j,v,h=>by
  have hr:r.length=sz:=hl r Osi;rw [List.flatten_cons] at h;by_cases hj:j<sz
  ·rw [List.getElem?_append_left Omg] at h;refine⟨Omg,by rw [Nat.div_eq_of_lt hj];simp,r,by rw [Nat.div_eq_of_lt hj];rfl,by rw [Nat.mod_eq_of_lt hj];exact h⟩
  ·rw [List.getElem?_append_right Omg,hr] at h;obtain⟨h0,h1,r',h2,h3⟩:=Q6 sz rows (λ r hr=>hl r (by simp [hr])) (j-sz) v h;have e:j / sz=(j-sz) / sz+1:=by
    have:=Nat.add_div_right (j-sz) h0;rw [show j-sz+sz=j by omega] at this;exact this
   have e2:j % sz=(j-sz) % sz:=Nat.mod_eq_sub_mod Omg;refine⟨h0,by rw [e];simp;exact h1,r',by rw [e];simpa using h2,by rw [e2];exact h3⟩
theorem Jb{H:Type}{enc:TypeId × Value->H}{spare:Nat->Bool}{held:Bool}{base:Nat}:∀(n:Nat) (t:TypeId) (cs:List Value) (x:DataW H × List MemPlace),DataW.trod enc P w base spare held n t cs=some x->Good P w n t cs
 | 0,_,_,_,h=>by simp [DataW.trod] at h
 | n+1,t,cs,x,h=>by
  unfold Good;split
  ·rename_i ht;obtain⟨b,rfl,_⟩:=DataW.trod_bool ht h;exact⟨b,rfl⟩
  ·rename_i k ht;obtain⟨z,rfl,_,hw⟩:=DataW.trod_int ht h;exact⟨z,rfl,hw⟩
  ·rename_i ht;obtain⟨s,rfl,_,hw⟩:=DataW.trod_string ht h;exact⟨s,rfl,hw⟩
  ·rename_i e ht;rcases DataW.trod_slice ht h with ⟨rfl,_⟩ | ⟨a,len,cap,elems,rest,m,hn,rfl,_,hb,hl,hm,hlen,hel,_,_⟩
   ·exact⟨none,0,0,rfl,Nat.le_refl _,Nat.zero_le _,λ _=>rfl,[],rfl,Rd.nil _ _,Osi⟩
   ·have cB:n=m:=Omg;subst cB;have hx:∀ i,i<len->∃ aC:List Value,w.cells? base (a.add (i*P.cellsOf e)) (P.cellsOf e)=some aC/\Good P w n e aC:=by
     intro i hi;have:=hel i hi;rw [List.getElem?_eq_getElem Omg] at this;obtain⟨aC,h1,h2⟩:=Option.bind_eq_some_iff.1 this;exact⟨aC,h1,Jb n e aC _ h2⟩
    obtain⟨V,hV⟩:=Deep.choose_lt (α:=List Value) hx;have cO:∀ r∈(List.range len).map V,r.length=P.cellsOf e/\Good P w n e r:=by
     intro r hr;obtain⟨i,hi,rfl⟩:=List.mem_map.1 hr;have:=hV i (by simpa using hi);exact⟨(World.cells?_some this.1).2.1,this.2⟩
    refine⟨some a,len,cap,rfl,hl,hm,(λ h=>nomatch h),(List.range len).map V,Osi,?_,cO⟩;intro j v hv;obtain⟨h0,h1,r,h2,h3⟩:=Q6 (P.cellsOf e) _ (λ r hr=>(cO r hr).1) j v hv;refine⟨a,rfl,?_⟩;simp only [List.length_map,List.length_range] at h1;simp only [List.getElem?_map,List.getElem?_range h1,Option.map_some,Option.some.injEq] at h2;subst h2;obtain⟨hc,hg⟩:=hV _ h1;have aB:j % P.cellsOf e<P.cellsOf e:=Nat.mod_lt _ h0;have:=(World.cells?_some hc).2.2 _ aB;rw [BJ,h3] at this;rw [<- this];congr 2;rw [Nat.mul_comm];exact (Nat.div_add_mod j _).symm
  ·rename_i fs ht;unfold DataW.trod at h;rw [ht] at h;simp only at h;split at h
   ·rename_i hlen;refine⟨hlen,λ f hf=>?_⟩;obtain⟨xs,bU,_⟩:=Option.map_eq_some_iff.1 h;obtain⟨i,hi⟩:=List.getElem?_of_mem hf;have hl:=mapM_some_length bU;have aB:=(List.getElem?_eq_some_iff.1 hi).1;have hg:=mapM_some_get bU i f hi;rw [List.getElem?_eq_getElem Omg] at hg;exact Jb n _ _ _ hg
   ·cases h
  ·trivial
theorem AfF{α:Type}{rows:List (List Value)}{g:α->List Value}{q:α->Prop}(h:∀ r∈rows,∃ x,r=g x/\q x):∃ xs:List α,rows=xs.map g/\∀ x∈xs,q x:=by
 induction rows with
 | nil=>exact⟨[],rfl,Osi⟩
 | cons r rows ih =>
  obtain⟨x,rfl,hx⟩:=h r Osi;obtain⟨xs,rfl,bU⟩:=ih λ r hr=>h r (by simp [hr]);exact⟨x :: xs,rfl,by simpa using ⟨hx,bU⟩⟩
theorem Good.list{α:Type}{n:Nat}{t e:TypeId}{cs:List Value}(h:Good P w n t cs)(ht:P.underlying t=some (.slice e))(g:α->List Value)(q:α->Prop)(hg:∀ m r,r.length=P.cellsOf e->Good P w m e r->∃ x,r=g x/\q x) :
  ∃ a cap,∃ xs:List α,cs=[.slice a xs.length cap]/\xs.length<=cap/\cap<=maxLen/\(a=none->cap=0)/\Rd w a (xs.flatMap g)/\∀ x∈xs,q x:=by
 obtain⟨a,len,cap,rfl,h1,h2,h3,m,rows,rfl,hr,hrs⟩:=h.slice ht;obtain⟨xs,rfl,hq⟩:=AfF (λ r hr=>hg m r (hrs r hr).1 (hrs r hr).2);simp only [List.length_map] at h1 ⊢;exact⟨a,cap,xs,rfl,h1,h2,h3,by rw [List.flatMap_def];exact hr,hq⟩
def GL{α:Type}(w:World)(g:α->List Value)(q:α->Prop)(a:Option Addr)(xs:List α)(c:Nat):Prop :=
 xs.length<=c/\c<=maxLen/\(a=none->c=0)/\Rd w a (xs.flatMap g)/\∀ x∈xs,q x
theorem Good.gl{α:Type}{n:Nat}{t e:TypeId}{a0:Option Addr}{l0 c0:Nat}(h:Good P w n t (Value.slice a0 l0 c0).cells.toList)(ht:P.underlying t=some (.slice e))(g:α->List Value)(q:α->Prop)(hg:∀ m r,r.length=P.cellsOf e->Good P w m e r->∃ x,r=g x/\q x) :
  ∃ xs:List α,l0=xs.length/\GL w g q a0 xs c0:=by
 obtain⟨a,c,xs,he,h1⟩:=h.list ht g q hg;have kO:[Value.slice a0 l0 c0]=[.slice a xs.length c]:=he;simp only [List.cons.injEq,Value.slice.injEq,and_true] at kO;obtain⟨rfl,rfl,rfl⟩:=kO;exact⟨xs,rfl,h1⟩
theorem AdJ{α β:Type}(f:α->β):∀ l:List α,(l.flatMap λ x=>[f x])=l.map f
 | []=>rfl
 | x :: l=>by rw [List.flatMap_cons,AdJ f l];rfl
end
end Go.Dn
namespace Go.Proofs.YtpnaifmmggnimaaGreatDoor
open R
open _root_.BitVec renaming ofInt -> AhZ
open _root_.Prod.mk renaming injEq -> Ah3
set_option maxRecDepth 100000
open Go.Dn Go.Proofs
open Go.RowKit (Below)
set_option linter.unusedVariables false
abbrev AD:=Int × Int × ByteArray
def Sk(v:AD):Value:=.agg #[.int .i64 v.1,.int .i64 v.2.1,.string v.2.2]
abbrev E0:ByteArray:=⟨#[]⟩
def AK(v:AD):Bool :=
 if v.1=0 then decide (v.2.1=0/\v.2.2=E0) else if v.1=1 then decide (v.2.2=E0) else if v.1=2 then decide ((v.2.1=0\/v.2.1=1)/\v.2.2=E0) else
 if v.1=3 then decide (v.2.1=0/\v.2.2.size<=1024) else false
theorem AhA(n:Int):n=IntKind.i64.wrap (((AhZ 64 n &&& AhZ 64 1).toNat:Int))↔(n=0\/n=1):=by
 have h:(AhZ 64 n &&& AhZ 64 1).toNat=0\/(AhZ 64 n &&& AhZ 64 1).toNat=1:=by
  rw [BitVec.toNat_and];have h1:(AhZ 64 1).toNat=2 ^ 1-1:=Ode;rw [h1,Nat.and_two_pow_sub_one_eq_mod];omega
 constructor
 ·intro e;rcases h with h | h
  ·rw [h] at e;left;rw [e];decide
  ·rw [h] at e;right;rw [e];decide
 ·rintro (rfl | rfl) <;> decide
theorem Ev(w:World)(v:AD):Cw 134 #[Sk v] w λ r w'=>r=.bool (AK v)/\Below w.heap.size w w':=by
 obtain⟨k,n,s⟩:=v;apply Pr
 delta A Ab F G I Li Lt N Am T W Z;try dsimp only [Ps]
 refine (SH.start (λ _=>False) w).An λ b4 w1 kM B1 S1=>⟨_,S1.cell 0 rfl rfl,S1.Ic λ b6 w5 ky B5 S5=>?_⟩;refine⟨λ _ w9=>∃ p:AD,SH (λ _=>False) w w9 [(b6,#[.int .i64 p.1,.int .i64 p.2.1,.string p.2.2],120),(b4,#[.int .i64 k,.int .i64 n,.string s],120)]/\p.1=k /\
   (0<=k->k<4->(((k,n,s):AD)=p/\s.size<=1024↔AK (k,n,s)=true)),?_,?_⟩
 ·refine⟨_,S5.cell 1 rfl rfl,Ap (λ h=>?_) (λ h0=>Ap (λ h=>⟨_,S5.cell 1 rfl rfl,?_⟩) (λ h1=>Ap (λ h=>⟨_,S5.cell 1 rfl rfl,?_⟩) (λ h2=>Ap (λ h=>⟨_,S5.cell 1 rfl rfl,?_⟩) (λ h3=>?_))))⟩
  ·subst h;refine⟨(0,0,E0),S5,rfl,λ _ _=>?_⟩;simp only [AK,if_pos,decide_eq_true_eq,Ah3,true_and];constructor
   ·rintro⟨⟨h1,h2⟩,_⟩;exact⟨h1,h2⟩
   ·rintro⟨h1,rfl⟩;exact⟨⟨h1,rfl⟩,Ode⟩
  ·subst h;refine S5.BD 0 rfl (show 1<3 by decide) λ w6 S6=>⟨(1,n,E0),S6,rfl,λ _ _=>?_⟩;simp only [AK,if_neg (show ¬ (1:Int)=0 by decide),if_pos,decide_eq_true_eq,Ah3,true_and];constructor
   ·rintro⟨h1,_⟩;exact h1
   ·rintro rfl;exact⟨rfl,Ode⟩
  ·subst h;refine S5.BD 0 rfl (show 1<3 by decide) λ w6 S6=>⟨(2,IntKind.i64.wrap (((AhZ 64 n &&& AhZ 64 1).toNat:Int)),E0),S6,rfl,λ _ _=>?_⟩;simp only [AK,if_neg (show ¬ (2:Int)=0 by decide),if_neg (show ¬ (2:Int)=1 by decide),if_pos,decide_eq_true_eq,Ah3,true_and];rw [AhA];constructor
   ·rintro⟨⟨h1,h2⟩,_⟩;exact⟨h1,h2⟩
   ·rintro⟨h1,rfl⟩;exact⟨⟨h1,rfl⟩,Ode⟩
  ·subst h;refine S5.BD 0 rfl (show 2<3 by decide) λ w6 S6=>⟨(3,0,s),S6,rfl,λ _ _=>?_⟩;simp only [AK,if_neg (show ¬ (3:Int)=0 by decide),if_neg (show ¬ (3:Int)=1 by decide),if_neg (show ¬ (3:Int)=2 by decide),if_pos,decide_eq_true_eq,Ah3,true_and,and_true]
  ·exact⟨(k,0,E0),S5,rfl,λ _ _=>Omg⟩
 ·rintro w9 ⟨p,S9,hp,vq⟩;have no:¬ (0<=k/\k<4)->Value.bool false=.bool (AK (k,n,s)):=by
   intro hk;simp only [AK];rw [if_neg Omg,if_neg Omg,if_neg Omg,if_neg Omg]
  refine⟨_,S9.cell 1 rfl rfl,Aa (λ h0=>⟨_,S9.cell 1 rfl rfl,Aa (λ h4=>?_) (λ h4=>⟨no Omg,S9.below⟩)⟩) (λ h0=>⟨no Omg,S9.below⟩)⟩;refine⟨_,S9.cell 1 rfl rfl,_,S9.cell 1 rfl rfl,_,S9.cell 1 rfl rfl,_,S9.cell 0 rfl rfl,_,S9.cell 0 rfl rfl,_,S9.cell 0 rfl rfl,?_⟩;have hi:=vq h0 h4;rw [WA];refine Aq (λ he=>⟨_,S9.cell 1 rfl rfl,?_,S9.below⟩) (λ he=>⟨?_,S9.below⟩)
  ·simp only [Bool.and_true,Bool.and_eq_true,beq_iff_eq,decide_eq_true_eq] at he;have e:((k,n,s):AD)=p:=by
    obtain⟨p1,p2,p3⟩:=p;simp only at he;rw [he.1,he.2.1,he.2.2]
   congr 1;rw [Bool.eq_iff_iff];rw [<- hi];simp only [e,true_and,decide_eq_true_eq];omega
  ·have hn:¬ (AK (k,n,s)=true):=by
    rw [<- hi];rintro⟨e,_⟩;rw [<- e] at he;simp at he
   simp [Bool.eq_false_iff.2 hn]
theorem Fv(w:World)(v:AD):Cw 136 #[Sk v] w λ r w'=>r=.bool (AK v)/\Below w.heap.size w w':=by
 obtain⟨k,n,s⟩:=v;apply OW
 delta A Ab F G I Li Lt N T;try dsimp only [Ps]
 refine (SH.start (λ _=>False) w).An λ b4 w1 kM B1 S1=>⟨_,S1.cell 0 rfl rfl,?_⟩;simp only [AU,AK];refine Ap (λ h=>⟨_,S1.cell 0 rfl rfl,Ap (λ hn=>⟨_,S1.cell 0 rfl rfl,?_,B1⟩) (λ hn=>⟨?_,B1⟩)⟩) (λ h0=>Ap (λ h=>⟨_,S1.cell 0 rfl rfl,?_,B1⟩) (λ h1=>Ap (λ h=>⟨_,S1.cell 0 rfl rfl,?_⟩) (λ h2=>Ap (λ h=>⟨_,S1.cell 0 rfl rfl,Ap (λ hn=>⟨_,S1.cell 0 rfl rfl,?_,B1⟩) (λ hn=>⟨?_,B1⟩)⟩) (λ h3=>⟨?_,B1⟩))))
 ·simp [h,hn]
 ·simp [h,hn]
 ·simp [h]
 ·refine Ap (λ hn=>⟨_,S1.cell 0 rfl rfl,?_,B1⟩) (λ hn=>⟨_,S1.cell 0 rfl rfl,Ap (λ fB=>⟨_,S1.cell 0 rfl rfl,?_,B1⟩) (λ fB=>⟨?_,B1⟩)⟩)
  ·simp [h,hn]
  ·simp [h,fB]
  ·simp [h,hn,fB]
 ·simp [h,hn];omega
 ·simp [h,hn]
 ·simp [h0,h1,h2,h3]
/-! ### the order -/
end Go.Proofs.YtpnaifmmggnimaaGreatDoor
namespace Go.Proofs.YtpnaifmmggnimaaGreatDoor
set_option maxRecDepth 100000
open Go.Dn Go.Proofs
open Go.RowKit (Below)
set_option linter.unusedVariables false
/-! ### what package-level variables hold -/
/-! ### Number, Signed, Text -/
/-! ### Lay -/
structure BM(v:AD):Prop where
 lo : -9223372036854775808<=v.2.1
 hi:v.2.1<=9223372036854775807
theorem F3{v:AD}(h:AK v=true):v.1=0\/v.1=1\/(v.1=2/\(v.2.1=0\/v.2.1=1))\/(v.1=3/\v.2.2.size<=1024):=by
 unfold AK at h;split at h
 ·left;assumption
 ·split at h
  ·right;left;assumption
  ·split at h
   ·right;right;left;simp at h;exact⟨by assumption,h.1⟩
   ·split at h
    ·right;right;right;simp at h;exact⟨by assumption,h.2⟩
    ·cases h
/-! ### Show -/
end Go.Proofs.YtpnaifmmggnimaaGreatDoor
namespace Go.Proofs.YtpnaifmmggnimaaGreatDoor
open R
open _root_.Array renaming getElem?_eq_some_iff -> Ai5
open _root_.BitVec renaming ofInt -> AhZ, ofInt_natCast -> AiC, toNat_ofNat -> AiB
open _root_.Bool renaming toNat_true -> Ajd
open _root_.ByteArray renaming size -> Ajc
open _root_.Int renaming natCast_mul -> Ajg, natCast_nonneg -> Ajh, tdiv -> Ai8, tdiv_eq_ediv_of_nonneg -> Ai4, tmod_eq_emod_of_nonneg -> AiN, toNat_natCast -> Ait
open _root_.List renaming getElem_mem -> Ai7, length_map -> AiH, mem_cons_of_mem -> Ai3, mem_cons_self -> Ai2, range -> Ai0
open _root_.Nat renaming div_le_self -> Ai9, le_refl -> Ain, lt_of_lt_of_le -> Aid, lt_or_ge -> Ai6, mod_eq_of_lt -> AiA, mod_lt -> AiR, mul_comm -> AiF, mul_le_mul -> Ajf, mul_one -> Aiw, one_mul -> Aje, pow_le_pow_right -> AiL, pow_lt_pow_right -> Aja, two_pow_pos -> Ajb
set_option maxRecDepth 100000
open Go.Dn Go.Proofs
open Go.RowKit (Below)
set_option linter.unusedVariables false
def Dt(x r:Nat):Prop:=x<2 ^ r/\(r=0\/2 ^ (r-1)<=x)
theorem Dt.one{x r s:Nat}(h:Dt x r)(h':Dt x s):r=s:=by
 have key:∀ {a b:Nat},Dt x a->Dt x b->a<=b:=by
  intro a b ha hb;rcases ha.2 with h0 | h0
  ·omega
  ·rcases Ai6 b a with aB | aJ
   ·have:2 ^ b<=2 ^ (a-1):=AiL Omg Omg;have:=hb.1;omega
   ·exact aJ
 exact Nat.le_antisymm (key h h') (key h' h)
theorem Dt.le{x r w:Nat}(h:Dt x r):r<=w↔x<2 ^ w:=by
 constructor
 ·intro hle;exact Aid h.1 (AiL Omg hle)
 ·intro aB;rcases h.2 with h0 | h0
  ·omega
  ·rcases Ai6 w r with av | aJ
   ·have:2 ^ w<=2 ^ (r-1):=AiL Omg Omg;omega
   ·exact aJ
theorem Dt.of_le{x r:Nat}(h:∀ w,r<=w↔x<2 ^ w):Dt x r:=by
 refine⟨(h r).1 (Ain _),?_⟩;rcases Nat.eq_zero_or_pos r with h0 | h0
 ·exact .inl h0
 ·right;rcases Ai6 x (2 ^ (r-1)) with aB | aJ
  ·have:=(h (r-1)).2 aB;omega
  ·exact aJ
theorem Dt.shift{x r s:Nat}(h:Dt (x / 2 ^ s) r)(hx:2 ^ s<=x):Dt x (r+s):=by
 have hp:0<2 ^ s:=Ajb s;have h1:1<=x / 2 ^ s:=(Nat.le_div_iff_mul_le hp).2 Omg;have hr:r≠0:=by
  rintro rfl;have:=h.1;simp at this;omega
 refine⟨?_,.inr ?_⟩
 ·rw [Nat.pow_add];exact (Nat.div_lt_iff_lt_mul hp).1 h.1
 ·rcases h.2 with h0 | h0
  ·exact absurd h0 hr
  ·rw [show r+s-1=(r-1)+s by omega,Nat.pow_add];exact (Nat.le_div_iff_mul_le hp).1 h0
def KH:ByteArray:=⟨#[0,1,2,2,3,3,3,3,4,4,4,4,4,4,4,4,5,5,5,5,5,5,5,5,5,5,5,5,5,5,5,5,6,6,6,6,6,6,6,6,6,6,6,6,6,6,6,6,6,6,6,6,6,6,6,6,6,6,6,6,6,6,6,6,7,7,7,7,7,7,7,7,7,7,7,7,7,7,7,7,7,7,7,7,7,7,7,7,7,7,7,7,7,7,7,7,7,7,7,7,7,7,7,7,7,7,7,7,7,7,7,7,7,7,7,7,7,7,7,7,7,7,7,7,7,7,7,7,8,8,8,8,8,8,8,8,8,8,8,8,8,8,8,8,8,8,8,8,8,8,8,8,8,8,8,8,8,8,8,8,8,8,8,8,8,8,8,8,8,8,8,8,8,8,8,8,8,8,8,8,8,8,8,8,8,8,8,8,8,8,8,8,8,8,8,8,8,8,8,8,8,8,8,8,8,8,8,8,8,8,8,8,8,8,8,8,8,8,8,8,8,8,8,8,8,8,8,8,8,8,8,8,8,8,8,8,8,8,8,8,8,8,8,8,8,8,8,8,8,8,8,8,8,8,8,8]⟩
theorem Ack:KH.size=256:=Ode
theorem AdY:((Ai0 256).all λ i=>decide (i<2 ^ (Az KH i).toNat) && ((Az KH i).toNat==0 || decide (2 ^ ((Az KH i).toNat-1)<=i)) && decide ((Az KH i).toNat<=8))=true:=by decide +kernel
theorem Aa7{i:Nat}(h:i<256):Dt i (Az KH i).toNat/\(Az KH i).toNat<=8:=by
 have:=List.all_eq_true.1 AdY i (List.mem_range.2 h);simp only [Bool.and_eq_true,decide_eq_true_eq,Bool.or_eq_true,beq_iff_eq] at this;exact⟨⟨this.1.1,this.1.2⟩,this.2⟩
theorem fdiv_pow(x s:Nat):Int.fdiv (x:Int) (2 ^ s)=((x / 2 ^ s:Nat):Int):=by
 rw [Int.fdiv_eq_ediv_of_nonneg _ (Int.le_of_lt (Int.pow_pos Omg))]
 norm_cast
theorem Ac9(w:World)(x:Nat)(hx:x<18446744073709551616):Cw 179 #[.int .u64 (x:Int)] w λ v w'=>∃ r:Nat,v=.int .i64 (r:Int)/\Dt x r/\r<=64/\w'=w:=by
 apply JW
 delta F I U W Wb X Zui;try dsimp only [Ps]
 refine⟨λ st w1=>w1=w/\∃ y n:Nat,st=[.int .u64 (y:Int),.int .i64 (n:Int)]/\y<4294967296/\n<=32/\(∀ r,Dt y r->r<=32->Dt x (r+n)\/(n=0/\x=y)),?_,?_⟩
 ·refine Aa (λ h=>⟨rfl,x / 2 ^ 32,32,?_,?_,Omg,λ r hr _=>.inl (hr.shift Omg)⟩) (λ h=>⟨rfl,x,0,rfl,Omg,Omg,λ r _ _=>.inr ⟨rfl,rfl⟩⟩)
  ·rw [show min 32 64=32 from rfl,fdiv_pow];rfl
  ·omega
 rintro _ _ w1 ⟨rfl,y,n,aA,hy,hn,hyx⟩;cases aA;refine⟨λ st w2=>w2=w1/\∃ z m:Nat,st=[.int .u64 (z:Int),.int .i64 (m:Int)]/\z<65536/\m<=48/\(∀ r,Dt z r->r<=16->Dt x (r+m)),?_,?_⟩
 ·have fin:∀ r,Dt y r->r<=32->Dt x (r+n):=by
   intro r hr yP;rcases hyx r hr yP with h | ⟨rfl,rfl⟩
   ·exact h
   ·exact hr
  refine Aa (λ h=>⟨rfl,y / 2 ^ 16,n+16,?_,Omg,Omg,λ r hr gi=>?_⟩) (λ h=>⟨rfl,y,n,rfl,Omg,Omg,λ r hr gi=>fin r hr Omg⟩)
  ·rw [show min 16 64=16 from rfl,fdiv_pow,wrap_i64 Omg Omg];rfl
  ·have:=fin _ (hr.shift (s:=16) Omg) Omg;rwa [Nat.add_assoc,Nat.add_comm 16] at this
 rintro _ _ w2 ⟨rfl,z,m,aA,hz,hm,zG⟩;cases aA;have e256:((Ajc KH:Nat):Int)=256:=by rw [Ack];rfl
 refine Aa (λ h=>?_) (λ h=>?_)
 ·rw [show min 8 64=8 from rfl,fdiv_pow,AG Omg Omg];have aB:z / 2 ^ 8<256:=Omg;have ht:=Aa7 aB;refine⟨⟨Omg,by show _<((Ajc KH:Nat):Int);omega⟩,(Az KH (z / 2 ^ 8)).toNat+8+m,?_,?_,Omg,rfl⟩
  ·have hT:∀ i,(Az KH i).toNat<256:=λ i=>UInt8.toNat_lt _;show Value.int .i64 (IntKind.i64.wrap (IntKind.i64.wrap ((m:Int)+8)+IntKind.i64.wrap ((Az KH ((z / 2 ^ 8:Nat):Int).toNat).toNat:Int)))=_;rw [Ait,wrap_i64 (n:=(m:Int)+8) Omg Omg,wrap_i64 (n:=((Az KH (z / 2 ^ 8)).toNat:Int)) Omg Omg,wrap_i64 Omg Omg];congr 1;omega
  ·exact zG _ (ht.1.shift (s:=8) Omg) Omg
 ·have aB:z<256:=Omg;have ht:=Aa7 aB;rw [AG Omg Omg];refine⟨⟨Omg,by show _<((Ajc KH:Nat):Int);omega⟩,(Az KH z).toNat+m,?_,?_,Omg,rfl⟩
  ·show Value.int .i64 (IntKind.i64.wrap ((m:Int)+IntKind.i64.wrap ((Az KH ((z:Nat):Int).toNat).toNat:Int)))=_;rw [Ait,wrap_i64 (n:=((Az KH z).toNat:Int)) Omg Omg,wrap_i64 Omg Omg];congr 1;omega
  ·exact zG _ ht.1 Omg
def EI(x:Nat):Value:=.int .u64 (x:Int)
def HL(xs:List Nat):Nat:=xs.foldl (· ||| ·) 0
theorem YB{a b w:Nat}:a ||| b<2 ^ w↔a<2 ^ w/\b<2 ^ w :=
 ⟨λ h=>⟨Nat.lt_of_le_of_lt Nat.left_le_or h,Nat.lt_of_le_of_lt Nat.right_le_or h⟩,λ h=>Nat.or_lt_two_pow h.1 h.2⟩
theorem AdL(xs:List Nat)(a w:Nat):xs.foldl (· ||| ·) a<2 ^ w↔a<2 ^ w/\∀ x∈xs,x<2 ^ w:=by
 induction xs generalizing a with
 | nil=>simp
 | cons x xs ih=>rw [List.foldl_cons,ih,YB];simp [and_assoc]
theorem Hr(xs:List Nat)(w:Nat):HL xs<2 ^ w↔∀ x∈xs,x<2 ^ w:=by
 unfold HL;rw [AdL];simp [Ajb]
theorem YA{xs:List Nat}{k:Nat}(hk:k<xs.length):HL (xs.take (k+1))=HL (xs.take k) ||| xs[k]:=by
 unfold HL;rw [List.take_succ_eq_append_getElem hk,List.foldl_append];rfl
theorem Agq{a b:Nat}(ha:a<18446744073709551616)(hb:b<18446744073709551616):IntKind.u64.wrap (((AhZ 64 (a:Int) ||| AhZ 64 (b:Int)).toNat:Int))=((a ||| b:Nat):Int):=by
 have e:(AhZ 64 (a:Int) ||| AhZ 64 (b:Int)).toNat=a ||| b:=by
  rw [BitVec.toNat_or,AiC,AiC,AiB,AiB,AiA Omg,AiA Omg]
 have:=(YB (w:=64)).2 ⟨ha,hb⟩;rw [e,Aj Omg Omg]
theorem Gw{w:World}{a:Option Addr}{xs:List Nat}(hl:Rd w a (xs.map EI)){i:Nat}(hi:i<xs.length):∃ p,a=some p/\w.cell? (p.add (i*1))=some (.int .u64 (xs[i]:Int)):=by
 obtain⟨p,hp,hc⟩:=hl i (EI xs[i]) (by simp [hi]);exact⟨p,hp,by rw [Aiw];exact hc⟩
section
variable {w:World}{a:Option Addr}{c:Nat}{xs:List Nat}
theorem Ie(hl:Rd w a (xs.map EI))(hn:xs.length<=140737488355328)(hx:∀ x∈xs,x<18446744073709551616) :
  Cw 226 #[.slice a xs.length c] w λ v w'=>∃ r:Nat,v=.int .i64 (r:Int)/\Dt (HL xs) r/\r<=64/\w'=w:=by
 apply Qp
 delta Ad Ci F I Lu Qui U W Wu X;try dsimp only [Ps]
 refine⟨λ s w1=>w1=w/\∃ k:Nat,k<=xs.length/\s=[.int .u64 (HL (xs.take k):Int),.int .i64 (k:Int)],λ s _=>match s with
   | [_,.int _ i]=>xs.length-i.toNat
   | _=>0,⟨rfl,0,Omg,rfl⟩,?_⟩
 rintro _ _ w1 ⟨rfl,k,hk,hs⟩;cases hs;have aF:HL (xs.take k)<18446744073709551616:=(Hr (xs.take k) 64).2 λ x h=>hx x (List.mem_of_mem_take h);refine Aa (λ aB=>⟨⟨Omg,aB⟩,?_⟩) (λ aJ=>?_)
 ·have aO:k<xs.length:=Omg;obtain⟨p,rfl,hc⟩:=Gw hl aO;refine⟨_,by rw [Ait];exact hc,?_⟩;have ia:=hx _ (Ai7 aO);rw [Agq aF ia,Ae Omg,<- YA aO];refine⟨⟨rfl,k+1,Omg,rfl⟩,?_⟩;simp only [Ait];omega
 ·have fA:xs.take k=xs:=List.take_of_length_le Omg;rw [fA] at aF ⊢;refine (Ac9 w1 (HL xs) aF).mono ?_;rintro _ w2 ⟨_,rfl,r,rfl,h1,h2,rfl⟩;exact⟨_,rfl,r,rfl,h1,h2,rfl⟩
end
theorem Jq(w:World)(n wd:Int):Cw 225 #[.int .i64 n,.int .i64 wd] w λ v w'=>w'=w/\v=(if 0<=n/\n<=4096/\0<=wd/\wd<=64 then .tuple #[.int .i64 ((n*wd+7) / 8),.int .i64 0] else .tuple #[.int .i64 0,.int .i64 2]):=by
 apply RR
 delta F H I W;try dsimp only [Ps]
 refine Aa (λ h=>⟨rfl,by rw [if_neg Omg]⟩) (λ h1=>Aa (λ h=>⟨rfl,by rw [if_neg Omg]⟩) (λ h2=>Aa (λ h=>⟨rfl,by rw [if_neg Omg]⟩) (λ h3=>Aa (λ h=>⟨rfl,by rw [if_neg Omg]⟩) (λ h4=>⟨rfl,?_⟩))));have hm:0<=n*wd:=Int.mul_nonneg Omg Omg;have pG:n*wd<=4096*64:=Int.mul_le_mul Omg Omg Omg Omg;rw [if_pos Omg,wrap_i64 (n:=n*wd) Omg Omg,wrap_i64 (n:=n*wd+7) Omg Omg,Ai4 Omg,wrap_i64 Omg Omg]
theorem Rj(w:World)(n wd:Int):Cw 180 #[.int .i64 n,.int .i64 wd] w λ v w'=>w'=w/\v=(if 0<=n/\n<=4096/\0<=wd/\wd<=64 then .tuple #[.int .i64 ((n*wd+7) / 8),.int .i64 0] else .tuple #[.int .i64 0,.int .i64 2]):=by
 apply Qu
 delta Cb F H I W;try dsimp only [Ps]
 have hw:Cw 217 #[.int .i64 wd] w λ v w'=>w'=w/\v=.bool (decide (0<=wd/\wd<=64)):=by
  apply L7
  delta F G;try dsimp only [Ps]
  refine Aa (λ h=>⟨rfl,?_⟩) (λ h=>⟨rfl,?_⟩)
  ·congr 1;simp;omega
  ·congr 1;simp;omega
 refine hw.mono ?_;rintro _ w1 ⟨_,rfl,rfl,rfl⟩;refine⟨_,rfl,As (Aa (λ h0=>?_) (λ h=>⟨rfl,by rw [if_neg Omg]⟩))⟩;refine Aa (λ h=>⟨rfl,by rw [if_neg Omg]⟩) (λ h1=>Aa (λ h=>⟨rfl,by rw [if_neg Omg]⟩) (λ h2=>⟨rfl,?_⟩));have hm:0<=n*wd:=Int.mul_nonneg Omg Omg;have pG:n*wd<=4096*64:=Int.mul_le_mul Omg Omg Omg Omg;rw [if_pos Omg,wrap_i64 (n:=n*wd) Omg Omg,wrap_i64 (n:=n*wd+7) Omg Omg,Ai4 Omg,wrap_i64 Omg Omg]
theorem QM(w:World)(x wd:Nat)(hx:x<18446744073709551616)(hw:wd<=64):Cw 181 #[.int .u64 (x:Int),.int .i64 (wd:Int)] w λ v w'=>w'=w/\v=.bool (decide (x<2 ^ wd)):=by
 apply T0
 delta F G I Qui U W Wu;try dsimp only [Ps]
 refine⟨λ s w1=>w1=w/\∃ k:Nat,k<=wd/\s=[.int .u64 ((x / 2 ^ k:Nat):Int),.int .i64 (k:Int)],λ s _=>match s with
   | [_,.int _ i]=>wd-i.toNat
   | _=>0,⟨rfl,0,Omg,Osi⟩,?_⟩
 rintro _ _ w1 ⟨rfl,k,hk,hs⟩;cases hs;have hle:x / 2 ^ k<=x:=Ai9 _ _;refine Aa (λ aB=>?_) (λ aJ=>⟨rfl,?_⟩)
 ·have e:IntKind.u64.wrap (Ai8 ((x / 2 ^ k:Nat):Int) 2)=((x / 2 ^ k / 2:Nat):Int):=by
   generalize x / 2 ^ k=y at hle;rw [Ai4 Omg,Aj Omg Omg];omega
  rw [e,Ae Omg];refine⟨⟨rfl,k+1,Omg,?_⟩,?_⟩
  ·rw [Nat.pow_succ,<- Nat.div_div_eq_div_mul]
  ·simp only [Ait];omega
 ·have:k=wd:=Omg;subst this;congr 1;rw [Bool.eq_iff_iff];simp only [beq_iff_eq,decide_eq_true_eq];have hp:0<2 ^ k:=Ajb k;constructor
  ·intro h;have h0:x / 2 ^ k=0:=Omg;exact (Nat.div_eq_zero_iff_lt hp).1 h0
  ·intro h;have h0:=(Nat.div_eq_zero_iff_lt hp).2 h;omega
section
variable {w:World}{a:Option Addr}{c:Nat}{xs:List Nat}
theorem O9(hl:Rd w a (xs.map EI))(hn:xs.length<=140737488355328)(hx:∀ x∈xs,x<18446744073709551616) :
  Cw 221 #[.slice a xs.length c] w λ v w'=>∃ r:Nat,v=.int .i64 (r:Int)/\Dt (HL xs) r/\r<=64/\w'=w:=by
 apply OR
 delta Ad Cb F G I Lu Qib MH U W X;try dsimp only [Ps]
 refine⟨λ s w1=>w1=w/\∃ k r:Nat,k<=xs.length/\r<=64/\Dt (HL (xs.take k)) r/\s=[.int .i64 (r:Int),.int .i64 (k:Int)],λ s _=>match s with
   | [_,.int _ i]=>xs.length-i.toNat
   | _=>0,⟨rfl,0,0,Omg,Omg,⟨by simp [HL],.inl rfl⟩,rfl⟩,?_⟩
 rintro _ _ w1 ⟨rfl,k,r,hk,hr,hlen,hs⟩;cases hs;refine Aa (λ aB=>⟨⟨Omg,aB⟩,?_⟩) (λ aJ=>?_)
 ·have aO:k<xs.length:=Omg;have ia:=hx _ (Ai7 aO);obtain⟨p,rfl,hc⟩:=Gw hl aO;refine⟨_,by rw [Ait];exact hc,(QM w1 xs[k] r ia hr).mono ?_⟩;rintro _ w2 ⟨_,rfl,rfl,rfl⟩;refine⟨_,rfl,?_⟩;refine⟨λ s w3=>w3=w2/\∃ q:Nat,r<=q/\q<=64/\(q=r\/¬ xs[k]<2 ^ (q-1))/\s=[.int .i64 (q:Int),.bool (decide (xs[k]<2 ^ q))],λ s _=>match s with
    | [.int _ i,_]=>64-i.toNat
    | _=>0,⟨rfl,r,Omg,Omg,.inl rfl,rfl⟩,?_⟩
  rintro _ _ w3 ⟨rfl,q,mB,iV,hq3,hs⟩;cases hs;refine As (Aa (λ aK=>?_) (λ aP=>⟨⟨Omg,aB⟩,_,by rw [Ait];exact hc,?_⟩))
  ·rw [Ae Omg];refine⟨⟨rfl,k+1,q,Omg,iV,?_,rfl⟩,?_⟩
   ·rw [YA aO];refine Dt.of_le λ wd=>?_;rw [YB,<- hlen.le (w:=wd)];constructor
    ·intro h;exact⟨Omg,Aid aK (AiL Omg h)⟩
    ·rintro⟨h1,h2⟩;rcases hq3 with h | h
     ·omega
     ·rcases Ai6 wd q with av | aJ
      ·exact absurd (Aid h2 (AiL Omg Omg)) h
      ·exact aJ
   ·simp only [Ait];omega
  ·have hq64:q<64:=by
    rcases Ai6 q 64 with h | h
    ·exact h
    ·have:q=64:=Omg;subst this;exact absurd ia aP
   rw [Ae Omg];refine (QM w3 xs[k] (q+1) ia Omg).mono ?_;rintro _ w4 ⟨_,rfl,rfl,rfl⟩;refine⟨_,rfl,⟨rfl,q+1,Omg,Omg,.inr aP,rfl⟩,?_⟩;simp only [Ait];omega
 ·have fA:xs.take k=xs:=List.take_of_length_le Omg;rw [fA] at hlen;exact⟨r,rfl,hlen,hr,rfl⟩
end
theorem AO(w:World)(l:Nat)(o:Obj):Ak (·=l) w (w.putObj l o) :=
 ⟨rfl,rfl,rfl,Osi,λ k _ hn=>World.putObj_heap_other hn⟩
def SL(f:Nat->Bool):Nat->Nat->Nat
 | 0,_=>0
 | t+1,j=>if j=t / 8/\f t=true then SL f t j ||| 2 ^ (t % 8) else SL f t j
theorem Xf(f:Nat->Bool)(t j:Nat):SL f t j<256:=by
 induction t with
 | zero=>simp [SL]
 | succ t ih =>
  unfold SL;split
  ·exact (YB (w:=8)).2 ⟨ih,Aja Omg Omg⟩
  ·exact ih
def Eh(xs:List Nat)(w t:Nat):Bool:=(xs.getD (t / w) 0).testBit (t % w)
def Dl(n w:Nat):Nat:=(n*w+7) / 8
def AZ(xs:List Nat)(w:Nat):List UInt8:=(Ai0 (Dl xs.length w)).map λ j=>UInt8.ofNat (SL (Eh xs w) (xs.length*w) j)
theorem BP(xs:List Nat)(w:Nat):(AZ xs w).length=Dl xs.length w:=by simp [AZ]
def Gi(f:Nat->Bool)(m t:Nat):Array Value:=⟨(Ai0 m).map λ j=>.int .u8 (SL f t j:Int)⟩
theorem LN(f:Nat->Bool)(m t:Nat):(Gi f m t).size=m:=by simp [Gi]
theorem YP{f:Nat->Bool}{m t j:Nat}(h:j<m):(Gi f m t)[j]?=some (.int .u8 (SL f t j:Int)):=by simp [Gi,h]
theorem YQ{f:Nat->Bool}{m t:Nat}(v:Nat)(hv:v=SL f (t+1) (t / 8)):(Gi f m t).setIfInBounds (t / 8) (.int .u8 (v:Int))=Gi f m (t+1):=by
 apply Array.ext';apply List.ext_getElem?;intro i;simp only [Array.toList_setIfInBounds,Gi,List.getElem?_set,AiH,List.length_range];by_cases h:t / 8=i
 ·subst h;by_cases h2:t / 8<m
  ·simp [h2,hv]
  ·simp [h2]
 ·have e:SL f (t+1) i=SL f t i:=by
   conv=>lhs;unfold SL
   rw [if_neg Omg]
  by_cases h2:i<m
  ·simp [h,h2,e]
  ·simp [h,h2]
theorem VY(f:Nat->Bool)(m:Nat):madeCells (Value.int .u8 0).cells (m*1)=Gi f m 0:=by
 apply Array.ext';rw [D5 _ rfl];simp [Gi,SL,List.map_const']
theorem YO(xs:List Nat)(w:Nat):(Gi (Eh xs w) (Dl xs.length w) (xs.length*w)).toList=(AZ xs w).map Ag:=by
 simp only [Gi,AZ,List.map_map];apply List.map_congr_left;intro j _;have:=Xf (Eh xs w) (xs.length*w) j;exact Ck this
/-! ### words of the program -/
theorem Adl{x k:Nat}(hx:x<18446744073709551616)(hk:k<64):IntKind.u8.wrap (IntKind.u64.wrap (((AhZ 64 (Int.fdiv (x:Int) (2 ^ (min k 64))) &&& AhZ 64 1).toNat:Int)))=((x.testBit k).toNat:Int):=by
 rw [show min k 64=k by omega,fdiv_pow];have hle:x / 2 ^ k<=x:=Ai9 _ _;have e:(AhZ 64 ((x / 2 ^ k:Nat):Int) &&& AhZ 64 1).toNat=x / 2 ^ k % 2:=by
  rw [BitVec.toNat_and,AiC,AiB,AiA Omg];exact Nat.and_two_pow_sub_one_eq_mod _ 1
 rw [e];have hm:x / 2 ^ k % 2<2:=AiR _ Omg;rw [Nat.testBit_eq_decide_div_mod_eq];generalize x / 2 ^ k % 2=y at hm;rw [Aj Omg Omg,AG Omg Omg];rcases (by omega:y=0\/y=1) with rfl | rfl <;> rfl
theorem AgY{t:Nat}(ht:t<9223372036854775808):IntKind.i64.wrap (((AhZ 64 (t:Int) &&& AhZ 64 7).toNat:Int))=((t % 8:Nat):Int):=by
 have e:(AhZ 64 (t:Int) &&& AhZ 64 7).toNat=t % 8:=by
  rw [BitVec.toNat_and,AiC,AiB,AiA Omg];exact Nat.and_two_pow_sub_one_eq_mod _ 3
 rw [e,wrap_i64 Omg Omg]
theorem or8{a b:Nat}(ha:a<256)(hb:b<256):IntKind.u8.wrap (((AhZ 8 (a:Int) ||| AhZ 8 (b:Int)).toNat:Int))=((a ||| b:Nat):Int):=by
 have e:(AhZ 8 (a:Int) ||| AhZ 8 (b:Int)).toNat=a ||| b:=by
  rw [BitVec.toNat_or,AiC,AiC,AiB,AiB,AiA Omg,AiA Omg]
 have:=(YB (w:=8)).2 ⟨ha,hb⟩;rw [e,AG Omg Omg]
theorem Abj{b:Bool}{s:Nat}(hs:s<8):IntKind.u8.wrap ((b.toNat:Int)*2 ^ (min s 8))=((b.toNat*2 ^ s:Nat):Int):=by
 have hp:2 ^ s<2 ^ 8:=Aja Omg hs;rw [show min s 8=s by omega];have e:((b.toNat:Int)*2 ^ s)=((b.toNat*2 ^ s:Nat):Int):=by norm_cast
 rw [e];cases b
 ·simp;decide
 ·simp only [Ajd,Aje];generalize 2 ^ s=y at hp;rw [AG Omg Omg]
theorem Y4(f:Nat->Bool)(t:Nat):SL f t (t / 8) ||| (f t).toNat*2 ^ (t % 8)=SL f (t+1) (t / 8):=by
 conv=>rhs;unfold SL
 cases h:f t
 ·simp
 ·simp
/-! ### the iterator -/
theorem KU(w:World)(n wd:Int):Cw 227 #[.int .i64 n,.int .i64 wd] w λ v w'=>∃ b1 b2,v=.func (.func 252) #[] #[.pointer (some ⟨b1,0,none⟩),.pointer (some ⟨b2,0,none⟩)]/\SH (λ _=>False) w w' [(b2,#[.int .i64 wd],3),(b1,#[.int .i64 n],3)]:=by
 apply ON
 delta I J N P;try dsimp only [Ps]
 exact (SH.start (λ _=>False) w).An λ b1 w1 _ _ S1=>S1.An λ b2 w2 _ _ S2=>⟨b1,b2,rfl,S2⟩
theorem VR{n wd l b1 b2:Nat}(hn:n<=4096)(hw:wd<=64)(J:Nat->World->Prop)
  (aE:∀ t w,J t w->w.cell? ⟨b1,0,none⟩=some (.int .i64 (n:Int))/\w.cell? ⟨b2,0,none⟩=some (.int .i64 (wd:Int))) (qW:∀ t w,J t w->J t w.drew)
  (af:∀ t,t<n*wd->∀ w,J t w->N0 Tryz.prog l #[.int .i64 ((t / wd:Nat):Int),.int .i64 ((t % wd:Nat):Int)] (λ y w'=>y=true/\J (t+1) w') w)
  {w:World} (h0:J 0 w):Cw 252 #[.func (.yield l) #[] #[],.pointer (some ⟨b1,0,none⟩),.pointer (some ⟨b2,0,none⟩)] w λ _ w'=>J (n*wd) w':=by
 have hm:n*wd<=4096*64:=Ajf hn hw;apply KT
 delta A D F H I Li Qi W;try dsimp only [Ps]
 refine⟨λ s w1=>∃ t:Nat,t<=n*wd/\s=[.int .i64 (t:Int)]/\J t w1,λ s _=>match s with
   | [.int _ i]=>n*wd-i.toNat
   | _=>0,⟨0,Omg,rfl,h0⟩,?_⟩
 rintro _ w1 ⟨t,ht,hs,hj⟩;cases hs;obtain⟨c1,c2⟩:=aE t w1 hj;refine⟨_,c1,_,c2,?_⟩;have em:IntKind.i64.wrap ((n:Int)*(wd:Int))=((n*wd:Nat):Int):=by rw [<- Ajg,wrap_i64 Omg Omg]
 rw [em];refine Aa (λ aB=>?_) (λ aJ=>?_)
 ·have lC:t<n*wd:=Omg;have oN:wd≠0:=by rintro rfl;simp at lC
  have qk:=qW t w1 hj;obtain⟨d1,d2⟩:=aE t _ qk;refine⟨_,d2,Omg,_,d2,Omg,?_⟩;have e1:IntKind.i64.wrap (Ai8 (t:Int) (wd:Int))=((t / wd:Nat):Int):=by
   have hle:t / wd<=t:=Ai9 _ _;have:Ai8 (t:Int) (wd:Int)=((t / wd:Nat):Int):=by rw [Ai4 Omg];norm_cast
   rw [this];generalize t / wd=q at hle;rw [wrap_i64 Omg Omg]
  have e2:Int.tmod (t:Int) (wd:Int)=((t % wd:Nat):Int):=by rw [AiN Omg];norm_cast
  rw [e1,e2];obtain⟨fn,tm,asg,bo,hy,hr⟩:=af t lC _ qk;refine⟨fn,tm,asg,bo,hy,hr.mono ?_⟩;rintro e w3 ⟨y,he,rfl,pD⟩;refine⟨true,he,AN ?_⟩;rw [Ae Omg];refine⟨⟨t+1,Omg,rfl,pD⟩,?_⟩;simp only [Ait];omega
 ·have:t=n*wd:=Omg;rw [this] at hj;exact hj
theorem Il{rr:Loop}(h1:rr.state=.ready)(h2:rr.pending=none):({ rr with state:=if (none:Option Code).isNone then .ready else .done,pending:=none }:Loop)=rr:=by
 cases rr;simp_all
section
variable {w:World}{a:Option Addr}{c:Nat}{xs:List Nat}
theorem Jp(hl:Rd w a (xs.map EI))(hn:xs.length<=4096){wd:Nat}(hw:wd<=64)(hx:∀ x∈xs,x<2 ^ wd) :
  Cw 191 #[.int .i64 (wd:Int),.slice a xs.length c] w λ v w'=>∃ a' c',v=.tuple #[.slice a' (AZ xs wd).length c',.int .i64 0]/\Bj w w' (AZ xs wd) a' c':=by
 have im:(2:Nat) ^ wd<=2 ^ 64:=AiL Omg hw;have fu:∀ x∈xs,x<18446744073709551616:=λ x h=>Aid (hx x h) im;have hm:xs.length*wd<=4096*64:=Ajf hn hw;obtain⟨m,hmd⟩:∃ m,m=Dl xs.length wd:=⟨_,rfl⟩;have o7:m=(xs.length*wd+7) / 8:=hmd;apply RQ
 delta A Ad B LV Cf Ci D F H I Li Ls Lu Ly N O Rs S Am W Wb Wu X;try dsimp only [Ps]
 refine (SH.start (λ _=>False) w).An λ b3 w1 dI B1 S1=>S1.An λ b4 w2 kM B2 S2=>⟨_,_,_,S2.cell 0 rfl rfl,_,S2.cell 1 rfl rfl,(Jq w2 (xs.length:Int) (wd:Int)).mono ?_⟩;rintro _ w3 ⟨_,rfl,rfl,rfl⟩;rw [if_pos ⟨Omg,Omg,Omg,Omg⟩];refine⟨_,_,rfl,S2.EL λ w4 B4 S4=>Ai (λ h=>absurd rfl h) (λ _=>⟨_,_,_,S4.cell 0 rfl rfl,_,S4.cell 1 rfl rfl,(Ie (hl.grown S4.below) Omg fu).mono ?_⟩)⟩;rintro _ w5 ⟨_,rfl,r,rfl,hr,hr64,rfl⟩;have si:r<=wd:=hr.le.2 ((Hr xs wd).2 hx);refine⟨_,rfl,S4.cell 1 rfl rfl,Aa (λ h=>Omg) (λ _=>?_)⟩;have em:((xs.length:Int)*(wd:Int)+7) / 8=(m:Int):=by
  rw [o7];have:((xs.length:Int)*(wd:Int))=((xs.length*wd:Nat):Int):=by norm_cast
  rw [this];omega
 rw [em];refine DS tB (l:=(m:Int)) (c:=(m:Int)) Omg Omg Omg Omg λ bo w6 fW B6 nA=>?_;rw [Ait,VY (Eh xs wd) m] at nA;rw [Ait];have S6:=S4.grown B6;refine⟨_,_,_,rfl,S6.An λ dH w7 iL B7 S7=>S7.Y8 0 rfl (show 0<1 by decide) λ w8 K8 S8=>⟨_,_,_,S8.cell 1 rfl rfl,_,S8.cell 2 rfl rfl,(KU w8 (xs.length:Int) (wd:Int)).mono ?_⟩⟩;rintro _ w9 ⟨_,rfl,b1,b2,rfl,P9⟩;have S9:=S8.grown P9.below;have vE:bo<w6.heap.size:=(Ai5.1 nA).1;have gn:=(Ak.AB (F:=λ _=>False) B7).at nA Osi;have kq:=K8.at gn (show ¬ bo=dH by omega);have qA:=(Ak.AB (F:=λ _=>False) P9.below).at kq Osi;have nO:w.heap.size<=bo:=Nat.le_trans S4.below.size fW;have vH:bo<w9.heap.size:=(Ai5.1 qA).1;have vB:=S9.lt (x:=(b4,_,_)) (Ai3 _ (Ai2 ..));have nL:=S9.lt (x:=(b3,_,_)) (Ai3 _ (Ai3 _ (Ai2 ..)));have qK:=S9.lt (x:=(dH,_,_)) (Ai2 ..);have kv:=P9.own (b2,_,_) (Ai2 ..);have nK:=P9.own (b1,_,_) (Ai3 _ (Ai2 ..));have kx:=P9.lt (x:=(b2,_,_)) (Ai2 ..)
 have qM:=P9.lt (x:=(b1,_,_)) (Ai3 _ (Ai2 ..));refine⟨_,_,_,rfl,by kernel_rfl,λ rr aA dZ hy=>?_⟩;obtain⟨W1,hW1⟩:∃ W1,W1=(w9.alloc (.deferred (some []))).alloc (.loop rr):=⟨_,rfl⟩;rw [<- hW1];have gH:Below w9.heap.size w9 W1:=by rw [hW1];exact (((Below.refl _ w9).alloc (Ain _) _).alloc Osi _)
 have sy:W1.heap.size=w9.heap.size+2:=by rw [hW1];simp
 have gm:W1.heap[w9.heap.size+1]?=some (.loop rr):=by
  rw [hW1];have:=World.alloc_heap_new (w9.alloc (.deferred (some []))) (.loop rr);rwa [World.size_alloc] at this
 have kh:W1.heap[w9.heap.size]?=some (.deferred (some [])):=by
  rw [hW1];exact (Below.heap_alloc _ _ _ Osi).trans (World.alloc_heap_new w9 _)
 have eN:=Ak.AB (F:=λ _=>False) gH;have kn:=eN.at qA Osi;obtain⟨L,hLd⟩:∃ L,L=w9.heap.size+1:=⟨_,rfl⟩;rw [<- hLd] at gm hy ⊢;have Bw1:Below w.heap.size w W1:=S9.below.trans (gH.mono S9.below.size);have zN:=S9.below.size;have low:∀ {w':World},Ak (λ k=>k=bo\/k=L) W1 w'->Below w.heap.size w w':=λ K=>Bw1.trans (K.below Bw1.size λ k hk h=>Omg);have vL:∀ {w':World},Ak (λ k=>k=bo\/k=L) W1 w'->w'.cell? ⟨b3,0,none⟩=some (.int .i64 (wd:Int)):=λ K=>K.cell (eN.cell (S9.cell 2 rfl rfl) Osi) (by
  have:=S6.lt (x:=(b3,_,_)) (Ai3 _ (Ai2 ..));have h4:=S4.lt (x:=(b3,_,_)) (Ai3 _ (Ai2 ..));show ¬ (b3=bo\/b3=L);omega)
 have vM:∀ {w':World},Ak (λ k=>k=bo\/k=L) W1 w'->w'.cell? ⟨b4,0,none⟩=some (.slice a xs.length c):=λ K=>K.cell (eN.cell (S9.cell 1 rfl rfl) Osi) (by
  have h4:=S4.lt (x:=(b4,_,_)) (Ai2 ..);show ¬ (b4=bo\/b4=L);omega)
 have jX:∀ {w':World},Ak (λ k=>k=bo\/k=L) W1 w'->w'.cell? ⟨dH,0,none⟩=some (.slice (some ⟨bo,0,none⟩) m m):=λ K=>K.cell (eN.cell (S9.cell 0 rfl rfl) Osi) (by
  show ¬ (dH=bo\/dH=L);omega)
 have vG:bo<w8.heap.size:=(Ai5.1 kq).1;have e18:w8.heap.size<=b1:=by simpa using nK
 have yD:w8.heap.size<=b2:=by simpa using kv
 have cK:∀ {w':World},Ak (λ k=>k=bo\/k=L) W1 w'->w'.cell? ⟨b1,0,none⟩=some (.int .i64 (xs.length:Int))/\w'.cell? ⟨b2,0,none⟩=some (.int .i64 (wd:Int)):=λ K =>
  ⟨K.cell (eN.cell (P9.cell 1 rfl rfl) Osi) (by show ¬ (b1=bo\/b1=L);omega),K.cell (eN.cell (P9.cell 0 rfl rfl) Osi) (by show ¬ (b2=bo\/b2=L);omega)⟩
 have hyp:∀ t,t<xs.length*wd->∀ wx,(Ak (λ k=>k=bo\/k=L) W1 wx/\wx.heap[bo]?=some (.cells (Gi (Eh xs wd) m t) 5 (0,0))/\wx.heap[L]?=some (.loop rr)) ->
   N0 Tryz.prog L #[.int .i64 ((t / wd:Nat):Int),.int .i64 ((t % wd:Nat):Int)] (λ y w'=>y=true/\(Ak (λ k=>k=bo\/k=L) W1 w'/\w'.heap[bo]?=some (.cells (Gi (Eh xs wd) m (t+1)) 5 (0,0))/\w'.heap[L]?=some (.loop rr))) wx:=by
  rintro t ht wx ⟨K,hO,hL⟩;have oN:0<wd:=Nat.pos_of_ne_zero (by rintro rfl;simp at ht);have gD:t / wd<xs.length:=(Nat.div_lt_iff_lt_mul oN).2 ht;have cZ:t % wd<wd:=AiR _ oN;have iE:t / 8<m:=Omg;refine hy _ _ _ wx hL ⟨hL,?_⟩;obtain⟨aZ,hw11⟩:∃ aZ,aZ=wx.putObj L (.loop { rr with state:=.busy }):=⟨_,rfl⟩;rw [<- hw11];have eZ:L<wx.heap.size:=(Ai5.1 hL).1;have eV:Ak (λ k=>k=L) wx aZ:=by rw [hw11];exact AO _ _ _
  have jL:aZ.heap[L]?=some (.loop { rr with state:=.busy }):=by rw [hw11];exact World.putObj_heap_same eZ
  have K2:Ak (λ k=>k=bo\/k=L) W1 aZ.drew:=(K.trans eV (λ k _ h=>.inr h)).drew;have fR:aZ.drew.heap[bo]?=some (.cells (Gi (Eh xs wd) m t) 5 (0,0)):=eV.at hO (by show ¬ bo=L;omega);refine⟨_,vL (K.trans eV (λ k _ h=>.inr h)),?_⟩;unfold PF;have et:IntKind.i64.wrap (IntKind.i64.wrap (((t / wd:Nat):Int)*(wd:Int))+((t % wd:Nat):Int))=(t:Int):=by
   have h1:((t / wd:Nat):Int)*(wd:Int)=((t / wd*wd:Nat):Int):=by rw [Ajg]
   have h2:=Nat.div_add_mod t wd;rw [AiF] at h2;rw [h1];generalize t / wd*wd=q at h2;generalize t % wd=r' at h2;rw [wrap_i64 (n:=(q:Int)) Omg Omg,wrap_i64 Omg Omg];omega
  have ed:Int.fdiv (t:Int) (2 ^ (min 3 64))=((t / 8:Nat):Int):=fdiv_pow t 3;rw [et,ed];refine⟨_,_,_,jX K2,⟨Omg,Omg⟩,?_⟩;rw [Ait];have ea:(⟨bo,0,none⟩:Addr).add (t / 8*1)=⟨bo,t / 8,none⟩:=by rw [Ax];simp
  obtain⟨p,rfl,hc⟩:=Gw (hl.grown (low K2)) gD;show ∃ n:Int,aZ.drew.cell? ((⟨bo,0,none⟩:Addr).add (t / 8*1))=some (.int .u8 n)/\_;rw [ea];have aE:aZ.drew.cell? ⟨bo,t / 8,none⟩=some (.int .u8 (SL (Eh xs wd) t (t / 8):Int)):=by
   simp only [World.cell?,fR];simpa using YP iE
  refine⟨_,aE,_,_,_,vM K2,⟨Ajh _,by exact_mod_cast gD⟩,_,by rw [Ait];exact hc,Ajh _,?_⟩;rw [AgY Omg,Ait,Ait,Adl (fu _ (Ai7 gD)) Omg,Abj (AiR _ Omg)];have eh:xs[t / wd].testBit (t % wd)=Eh xs wd t:=by simp [Eh,List.getD,gD]
  rw [eh];have lM:(Eh xs wd t).toNat*2 ^ (t % 8)<256:=by
   have:2 ^ (t % 8)<2 ^ 8:=Aja Omg (AiR _ Omg);cases Eh xs wd t
   ·simp
   ·simpa using this
  rw [or8 (Xf _ _ _) lM,Y4];refine⟨Omg,⟨Omg,Omg⟩,?_⟩;show DG ((⟨bo,0,none⟩:Addr).add (t / 8*1)) _ _ _;rw [ea];refine EH fR (by rw [LN];exact iE) λ al kY jN=>?_;have jM:al.heap[L]?=some (.loop { rr with state:=.busy }):=kY.at (show aZ.drew.heap[L]?=_ from jL) (by show ¬ L=bo;omega);refine⟨jM,rfl,?_⟩;rw [Il aA dZ];rw [YQ _ rfl] at jN;have jm:L<al.heap.size:=(Ai5.1 jM).1;refine⟨(K2.trans kY (λ k _ h=>.inl h)).trans (AO _ _ _) (λ k _ h=>.inr h),?_,World.putObj_heap_same jm⟩;exact (World.putObj_heap_other Omg).trans jN
 refine (VR (l:=L) (b1:=b1) (b2:=b2) hn hw (λ t wx=>Ak (λ k=>k=bo\/k=L) W1 wx/\wx.heap[bo]?=some (.cells (Gi (Eh xs wd) m t) 5 (0,0))/\wx.heap[L]?=some (.loop rr))
  (λ t wx hj=>cK hj.1) (λ t wx hj=>⟨hj.1.drew,hj.2.1,hj.2.2⟩) hyp ⟨.refl _ _,kn,gm⟩).mono ?_
 rintro _ au ⟨_,rfl,jB,my,dP⟩;have jn:L<au.heap.size:=(Ai5.1 dP).1;refine⟨⟨_,rfl⟩,none,by rw [Il aA dZ];exact dP,rfl,?_⟩;obtain⟨ah,hw15⟩:∃ ah,ah=au.putObj L (.loop { rr with state:=.exhausted,pending:=none }):=⟨_,rfl⟩;rw [<- hw15];have gI:Ak (λ k=>k=bo\/k=L) W1 ah:=by rw [hw15];exact jB.trans (AO _ _ _) (λ k _ h=>.inr h)
 have mz:ah.heap[bo]?=some (.cells (Gi (Eh xs wd) m (xs.length*wd)) 5 (0,0)):=by rw [hw15];exact (World.putObj_heap_other Omg).trans my
 have gL:ah.heap[w9.heap.size]?=some (.deferred (some [])):=gI.at kh (by show ¬ (w9.heap.size=bo\/w9.heap.size=L);omega);have eB:=low gI;refine⟨_,_,_,jX gI,gL,some ⟨bo,0,none⟩,m,?_,?_⟩
 ·rw [BP,<- hmd]
 ·refine⟨⟨Osi,.inr ⟨bo,Gi (Eh xs wd) m (xs.length*wd),rfl,(World.putObj_heap_other Omg).trans mz,?_,Omg,by rw [LN];omega,?_⟩⟩,λ k hk=>?_,eB.trans ((AO ah w9.heap.size _).below eB.size λ k hk he=>Omg)⟩
  ·rw [BP,<- hmd];exact Ain _
  ·have e:=YO xs wd;rw [<- hmd] at e;rw [e,Aiw,<- AiH (f:=Ag),List.take_length]
  ·cases hk;exact nO
end
theorem AcG{f:Nat->Bool}{m t:Nat}(h:f t=false):Gi f m (t+1)=Gi f m t:=by
 unfold Gi;congr 1;apply List.map_congr_left;intro j _
 conv=>lhs;unfold SL
 rw [if_neg (by simp [h])]
section
variable {w:World}{a:Option Addr}{c:Nat}{xs:List Nat}
theorem HY(hl:Rd w a (xs.map EI))(hn:xs.length<=4096){wd:Nat}(hw:wd<=64)(hx:∀ x∈xs,x<2 ^ wd) :
  Cw 143 #[.int .i64 (wd:Int),.slice a xs.length c] w λ v w'=>∃ a' c',v=.tuple #[.slice a' (AZ xs wd).length c',.int .i64 0]/\Bj w w' (AZ xs wd) a' c':=by
 have im:(2:Nat) ^ wd<=2 ^ 64:=AiL Omg hw;have fu:∀ x∈xs,x<18446744073709551616:=λ x h=>Aid (hx x h) im;have hm:xs.length*wd<=4096*64:=Ajf hn hw;obtain⟨m,hmd⟩:∃ m,m=Dl xs.length wd:=⟨_,rfl⟩;have o7:m=(xs.length*wd+7) / 8:=hmd;apply Qs
 delta Ad B LV Cb D F H I Lu Ly O Qi Qui Rs S Am U W Wb Wu X;try dsimp only [Ps]
 refine (Rj w (xs.length:Int) (wd:Int)).mono ?_;rintro _ w ⟨_,rfl,rfl,rfl⟩;rw [if_pos ⟨Omg,Omg,Omg,Omg⟩];refine⟨_,_,rfl,Ai (λ h=>absurd rfl h) (λ _=>?_)⟩;have em:((xs.length:Int)*(wd:Int)+7) / 8=(m:Int):=by
  rw [o7];have:((xs.length:Int)*(wd:Int))=((xs.length*wd:Nat):Int):=by norm_cast
  rw [this];omega
 rw [em];refine DS tB (l:=(m:Int)) (c:=(m:Int)) Omg Omg Omg Omg λ bo w2 fW B2 ko=>?_;rw [Ait,VY (Eh xs wd) m] at ko;rw [Ait];refine⟨_,_,_,rfl,?_⟩;have low:∀ {w':World},Ak (λ k=>k=bo) w2 w'->Below w.heap.size w w':=λ K=>B2.trans (K.below B2.size λ k hk h=>Omg);refine⟨λ s w3=>∃ i:Nat,i<=xs.length/\s=[.int .i64 (i:Int)]/\Ak (λ k=>k=bo) w2 w3/\w3.heap[bo]?=some (.cells (Gi (Eh xs wd) m (i*wd)) 5 (0,0)),λ s _=>match s with
   | [.int _ i]=>xs.length-i.toNat
   | _=>0,⟨0,Omg,rfl,.refl _ _,by rw [Nat.zero_mul];exact ko⟩,?_⟩
 rintro _ w3 ⟨i,hi,hs,K3,iK⟩;cases hs;refine Aa (λ aB=>⟨⟨Omg,aB⟩,?_⟩) (λ aJ=>?_)
 ·have aD:i<xs.length:=Omg;have dM:=fu _ (Ai7 aD);obtain⟨p,rfl,hc⟩:=Gw (hl.grown (low K3)) aD;refine⟨_,by rw [Ait];exact hc,(QM w3 xs[i] wd dM hw).mono ?_⟩;rintro _ w4 ⟨_,rfl,rfl,rfl⟩;refine⟨_,rfl,As (Aa (λ _=>⟨⟨Omg,aB⟩,_,by rw [Ait];exact hc,?_⟩) (λ h=>absurd (hx _ (Ai7 aD)) h))⟩;refine⟨λ s w5=>∃ k:Nat,k<=wd/\s=[.int .u64 ((xs[i] / 2 ^ k:Nat):Int),.int .i64 (k:Int)]/\Ak (λ k=>k=bo) w2 w5/\w5.heap[bo]?=some (.cells (Gi (Eh xs wd) m (i*wd+k)) 5 (0,0)),λ s _=>match s with
    | [_,.int _ k]=>wd-k.toNat
    | _=>0,⟨0,Omg,Osi,K3,iK⟩,?_⟩
  rintro _ _ w5 ⟨k,hk,hs,K5,fS⟩;cases hs;refine Aa (λ av=>?_) (λ bz=>?_)
  ·have qo:k<wd:=Omg;have pC:i*wd+k<xs.length*wd:=by
    have:(i+1)*wd<=xs.length*wd:=Nat.mul_le_mul_right _ aD;rw [Nat.succ_mul] at this;omega
   have hle:xs[i] / 2 ^ k<=xs[i]:=Ai9 _ _;have e2:IntKind.u64.wrap (Ai8 ((xs[i] / 2 ^ k:Nat):Int) 2)=((xs[i] / 2 ^ (k+1):Nat):Int):=by
    rw [Nat.pow_succ,<- Nat.div_div_eq_div_mul];generalize xs[i] / 2 ^ k=y at hle;rw [Ai4 Omg,Aj Omg Omg];omega
   rw [e2,Ae Omg];have uF:Int.tmod ((xs[i] / 2 ^ k:Nat):Int) 2=((xs[i] / 2 ^ k % 2:Nat):Int):=by
    rw [AiN (Ajh _)]
    norm_cast
   rw [uF];have eh:Eh xs wd (i*wd+k)=decide (xs[i] / 2 ^ k % 2=1):=by
    have h1:(i*wd+k) / wd=i:=by
     rw [AiF,Nat.mul_add_div Omg,Nat.div_eq_of_lt qo,Nat.add_zero]
    have h2:(i*wd+k) % wd=k:=by
     rw [AiF,Nat.mul_add_mod,AiA qo]
    unfold Eh;rw [h1,h2,Nat.testBit_eq_decide_div_mod_eq];simp [List.getD,aD]
   obtain⟨t,ht⟩:∃ t,t=i*wd+k:=⟨_,rfl⟩;rw [<- ht] at eh fS pC;have qw:∀ wx:World,Ak (λ k=>k=bo) w2 wx->wx.heap[bo]?=some (.cells (Gi (Eh xs wd) m (t+1)) 5 (0,0)) ->
     ((∃ k':Nat,k'<=wd/\[Value.int .u64 ((xs[i] / 2 ^ (k+1):Nat):Int),.int .i64 ((k+1:Nat):Int)]=[.int .u64 ((xs[i] / 2 ^ k':Nat):Int),.int .i64 (k':Int)]/\Ak (λ k=>k=bo) w2 wx/\wx.heap[bo]?=some (.cells (Gi (Eh xs wd) m (i*wd+k')) 5 (0,0)))/\wd-((k+1:Nat):Int).toNat<wd-((k:Nat):Int).toNat):=by
    intro wx K hO;refine⟨⟨k+1,Omg,rfl,K,by rw [<- Nat.add_assoc,<- ht];exact hO⟩,?_⟩;simp only [Ait];omega
   refine Ap (λ h1=>?_) (λ h1=>?_)
   ·have cK:Eh xs wd t=true:=by
     rw [eh];exact decide_eq_true (by exact_mod_cast h1)
    unfold PF;have et:IntKind.i64.wrap (IntKind.i64.wrap ((i:Int)*(wd:Int))+(k:Int))=(t:Int):=by
     have h1:(i:Int)*(wd:Int)=((i*wd:Nat):Int):=by rw [Ajg]
     rw [h1,ht];generalize i*wd=q at ht;rw [wrap_i64 (n:=(q:Int)) Omg Omg,wrap_i64 Omg Omg];omega
    have ed:IntKind.i64.wrap (Ai8 (t:Int) 8)=((t / 8:Nat):Int):=by
     rw [Ai4 Omg,wrap_i64 Omg Omg];omega
    have er:Int.tmod (t:Int) 8=((t % 8:Nat):Int):=by
     rw [AiN Omg];omega
    rw [et,ed,er];have iE:t / 8<m:=Omg;refine⟨⟨Omg,Omg⟩,?_⟩;rw [Ait,Ait];have ea:(⟨bo,0,none⟩:Addr).add (t / 8*1)=⟨bo,t / 8,none⟩:=by rw [Ax];simp
    have aE:w5.drew.cell? ((⟨bo,0,none⟩:Addr).add (t / 8*1))=some (.int .u8 (SL (Eh xs wd) t (t / 8):Int)):=by
     rw [ea];have:w5.drew.heap[bo]?=some (.cells (Gi (Eh xs wd) m t) 5 (0,0)):=fS;simp only [World.cell?,this];simpa using YP iE
    refine⟨Omg,_,aE,⟨Omg,Omg⟩,?_⟩;have mg:=Abj (b:=true) (s:=t % 8) (AiR _ Omg);simp only [Ajd,Aje] at mg;rw [show (((1:Nat):Int))=1 from rfl] at mg;rw [mg];have lM:2 ^ (t % 8)<2 ^ 8:=Aja Omg (AiR _ Omg);rw [or8 (Xf _ _ _) lM];have db:=Y4 (Eh xs wd) t;rw [cK] at db;simp only [Ajd,Aje] at db;rw [db];unfold Av;simp only;rw [ea];refine EH (show w5.drew.heap[bo]?=_ from fS) (by rw [LN];exact iE) λ w7 K7 gn=>?_;rw [YQ _ rfl] at gn;exact qw w7 (K5.drew.trans K7 (λ k _ h=>h)) gn
   ·have bZ:Eh xs wd t=false:=by
     rw [eh];exact decide_eq_false (λ h=>h1 (by exact_mod_cast h))
    exact qw w5 K5 (by rw [AcG bZ];exact fS)
  ·have:k=wd:=Omg;subst this;rw [Ae Omg];refine⟨⟨i+1,Omg,rfl,K5,by rw [Nat.succ_mul];exact fS⟩,?_⟩;simp only [Ait];omega
 ·have:i=xs.length:=Omg;subst this;have B3:=low K3;refine⟨some ⟨bo,0,none⟩,m,by rw [BP,<- hmd],⟨Osi,.inr ⟨bo,Gi (Eh xs wd) m (xs.length*wd),rfl,iK,?_,Omg,by rw [LN];omega,?_⟩⟩,λ k hk=>?_,B3⟩
  ·rw [BP,<- hmd];exact Ain _
  ·have e:=YO xs wd;rw [<- hmd] at e;rw [e,Aiw,<- AiH (f:=Ag),List.take_length]
  ·cases hk;exact fW
end
end Go.Proofs.YtpnaifmmggnimaaGreatDoor
namespace Go.Proofs
open _root_.Go.Proofs.Tryz renaming prog -> Aix
set_option linter.unusedVariables false
set_option maxRecDepth 100000
open Go.RowKit Go.Maps Go.Sort Go.Shelf
def Tryz.Rc:Go.Shelf.Ren:=⟨fun | 7=>256 | 10=>272 | n=>n,fun | 23=>318 | 26=>9 | 3=>92 | 28=>321 | 0=>0 | 27=>320 | 33=>60 | 4=>4 | n=>n,fun | n=>n⟩
theorem Tryz.Aa6:Go.Proofs.SlLaysZ.n7 Aix Tryz.Rc:={
 mixed:=by kernel_rfl
 f7:=⟨Tryz.f256.name,by decide,Tryz.func256.trans (congrArg some (by kernel_rfl))⟩
 f10:=⟨Tryz.f272.name,by decide,Tryz.func272.trans (congrArg some (by kernel_rfl))⟩
 t0:=Tryz.underlying0
 a0:=Tryz.isAgg0
 z0:=Tryz.sizeOf0
 v0:=Tryz.zeroValue0
 t4:=Tryz.underlying4
 a4:=Tryz.isAgg4
 z4:=Tryz.sizeOf4
 v4:=Tryz.zeroValue4
 t23:=Tryz.underlying318
 a23:=Tryz.isAgg318
 z23:=Tryz.sizeOf318
 v23:=Tryz.zeroValue318
 t26:=Tryz.underlying9
 a26:=Tryz.isAgg9
 z26:=Tryz.sizeOf9
 v26:=Tryz.zeroValue9
 t27:=Tryz.underlying320
 a27:=Tryz.isAgg320
 z27:=Tryz.sizeOf320
 v27:=Tryz.zeroValue320
 t28:=Tryz.underlying321
 a28:=Tryz.isAgg321
 z28:=Tryz.sizeOf321
 v28:=Tryz.zeroValue321
 t33:=Tryz.underlying60
 a33:=Tryz.isAgg60
 z33:=Tryz.sizeOf60
 v33:=Tryz.zeroValue60 }
def Tryz.Mx:Go.Shelf.Ren:=⟨fun | 6=>255 | 8=>270 | 9=>271 | 11=>284 | 13=>140 | 12=>285 | 23=>178 | 24=>179 | 14=>288 | 15=>289 | 16=>290 | 17=>291 | 18=>292 | 19=>293 | 20=>294 | 21=>295 | 22=>296 | 25=>297 | 26=>212 | 27=>213 | 28=>298 | 29=>299 | 30=>300 | 31=>301 | n=>n,fun | 26=>9 | 28=>321 | 24=>50 | 0=>0 | 3=>3 | 37=>163 | 48=>184 | 50=>92 | 4=>4 | 40=>236 | 39=>235 | 45=>138 | 5=>5 | 9=>9 | 51=>274 | 55=>278 | 57=>312 | 58=>313 | 33=>60 | n=>n,fun | n=>n⟩
theorem Tryz.AcO:Go.Proofs.SlLaysZ.n6 Aix Tryz.Mx:={
 mixed:=by kernel_rfl
 f6:=⟨Tryz.f255.name,by decide,Tryz.func255.trans (congrArg some (by kernel_rfl))⟩
 f8:=⟨Tryz.f270.name,by decide,Tryz.func270.trans (congrArg some (by kernel_rfl))⟩
 f11:=⟨Tryz.f284.name,by decide,Tryz.func284.trans (congrArg some (by kernel_rfl))⟩
 t0:=Tryz.underlying0
 a0:=Tryz.isAgg0
 z0:=Tryz.sizeOf0
 v0:=Tryz.zeroValue0
 t24:=Tryz.underlying50
 a24:=Tryz.isAgg50
 z24:=Tryz.sizeOf50
 v24:=Tryz.zeroValue50
 t26:=Tryz.underlying9
 a26:=Tryz.isAgg9
 z26:=Tryz.sizeOf9
 v26:=Tryz.zeroValue9
 t28:=Tryz.underlying321
 a28:=Tryz.isAgg321
 z28:=Tryz.sizeOf321
 v28:=Tryz.zeroValue321
 i26:=by kernel_rfl }
def Tryz.Y3:Go.Shelf.Ren:=⟨fun | 6=>271 | 8=>140 | 9=>285 | 19=>178 | 20=>179 | 21=>288 | 22=>289 | 23=>290 | 24=>291 | 25=>292 | 26=>293 | 27=>294 | 28=>295 | 29=>296 | 36=>297 | 31=>212 | 32=>213 | 37=>298 | 38=>299 | 39=>300 | 41=>301 | n=>n,fun | 27=>50 | 29=>9 | 3=>3 | 32=>163 | 26=>50 | 0=>0 | 44=>184 | 46=>92 | 4=>4 | 36=>236 | 35=>235 | 41=>138 | 5=>5 | 9=>9 | 53=>274 | 57=>278 | 63=>312 | 64=>313 | n=>n,fun | n=>n⟩
theorem Tryz.Abl:Go.Proofs.SlLaysM.n6 Aix Tryz.Y3:={
 mixed:=by kernel_rfl
 f6:=⟨Tryz.f271.name,by decide,Tryz.func271.trans (congrArg some (by kernel_rfl))⟩
 f8:=Tryz.func140.trans (congrArg some (by kernel_rfl))
 f9:=⟨Tryz.f285.name,by decide,Tryz.func285.trans (congrArg some (by kernel_rfl))⟩
 f19:=Tryz.func178.trans (congrArg some (by kernel_rfl))
 f20:=Tryz.func179.trans (congrArg some (by kernel_rfl))
 f21:=⟨Tryz.f288.name,by decide,Tryz.func288.trans (congrArg some (by kernel_rfl))⟩
 f22:=⟨Tryz.f289.name,by decide,Tryz.func289.trans (congrArg some (by kernel_rfl))⟩
 f23:=⟨Tryz.f290.name,by decide,Tryz.func290.trans (congrArg some (by kernel_rfl))⟩
 f24:=⟨Tryz.f291.name,by decide,Tryz.func291.trans (congrArg some (by kernel_rfl))⟩
 f25:=⟨Tryz.f292.name,by decide,Tryz.func292.trans (congrArg some (by kernel_rfl))⟩
 f26:=⟨Tryz.f293.name,by decide,Tryz.func293.trans (congrArg some (by kernel_rfl))⟩
 f27:=⟨Tryz.f294.name,by decide,Tryz.func294.trans (congrArg some (by kernel_rfl))⟩
 f28:=⟨Tryz.f295.name,by decide,Tryz.func295.trans (congrArg some (by kernel_rfl))⟩
 f29:=⟨Tryz.f296.name,by decide,Tryz.func296.trans (congrArg some (by kernel_rfl))⟩
 f31:=Tryz.func212.trans (congrArg some (by kernel_rfl))
 f32:=Tryz.func213.trans (congrArg some (by kernel_rfl))
 f36:=⟨Tryz.f297.name,by decide,Tryz.func297.trans (congrArg some (by kernel_rfl))⟩
 f37:=⟨Tryz.f298.name,by decide,Tryz.func298.trans (congrArg some (by kernel_rfl))⟩
 f38:=⟨Tryz.f299.name,by decide,Tryz.func299.trans (congrArg some (by kernel_rfl))⟩
 f39:=⟨Tryz.f300.name,by decide,Tryz.func300.trans (congrArg some (by kernel_rfl))⟩
 f41:=⟨Tryz.f301.name,by decide,Tryz.func301.trans (congrArg some (by kernel_rfl))⟩
 t0:=Tryz.underlying0
 a0:=Tryz.isAgg0
 z0:=Tryz.sizeOf0
 v0:=Tryz.zeroValue0
 t3:=Tryz.underlying3
 a3:=Tryz.isAgg3
 z3:=Tryz.sizeOf3
 v3:=Tryz.zeroValue3
 t4:=Tryz.underlying4
 a4:=Tryz.isAgg4
 z4:=Tryz.sizeOf4
 v4:=Tryz.zeroValue4
 t5:=Tryz.underlying5
 a5:=Tryz.isAgg5
 z5:=Tryz.sizeOf5
 v5:=Tryz.zeroValue5
 t9:=Tryz.underlying9
 a9:=Tryz.isAgg9
 z9:=Tryz.sizeOf9
 v9:=Tryz.zeroValue9
 t26:=Tryz.underlying50
 a26:=Tryz.isAgg50
 z26:=Tryz.sizeOf50
 v26:=Tryz.zeroValue50
 t27:=Tryz.underlying50
 a27:=Tryz.isAgg50
 z27:=Tryz.sizeOf50
 v27:=Tryz.zeroValue50
 t29:=Tryz.underlying9
 a29:=Tryz.isAgg9
 z29:=Tryz.sizeOf9
 v29:=Tryz.zeroValue9
 t32:=Tryz.underlying163
 a32:=Tryz.isAgg163
 z32:=Tryz.sizeOf163
 v32:=Tryz.zeroValue163
 t35:=Tryz.underlying235
 a35:=Tryz.isAgg235
 z35:=Tryz.sizeOf235
 v35:=Tryz.zeroValue235
 t36:=Tryz.underlying236
 a36:=Tryz.isAgg236
 z36:=Tryz.sizeOf236
 v36:=Tryz.zeroValue236
 t41:=Tryz.underlying138
 a41:=Tryz.isAgg138
 z41:=Tryz.sizeOf138
 v41:=Tryz.zeroValue138
 t44:=Tryz.underlying184
 a44:=Tryz.isAgg184
 z44:=Tryz.sizeOf184
 v44:=Tryz.zeroValue184
 t46:=Tryz.underlying92
 a46:=Tryz.isAgg92
 z46:=Tryz.sizeOf92
 v46:=Tryz.zeroValue92
 t53:=Tryz.underlying274
 a53:=Tryz.isAgg274
 z53:=Tryz.sizeOf274
 v53:=Tryz.zeroValue274
 t57:=Tryz.underlying278
 a57:=Tryz.isAgg278
 z57:=Tryz.sizeOf278
 v57:=Tryz.zeroValue278
 t63:=Tryz.underlying312
 a63:=Tryz.isAgg312
 z63:=Tryz.sizeOf312
 v63:=Tryz.zeroValue312
 t64:=Tryz.underlying313
 a64:=Tryz.isAgg313
 z64:=Tryz.sizeOf313
 v64:=Tryz.zeroValue313 }
theorem Tryz.Aev(m:Nat):AnyZ.SortsIn Aix Tryz.Mx Fence.wide m :=
 ⟨λ CA off cap ss W hH nN ao=>callsIn_wide.2 (AnyM.slices_Sort_string Tryz.Abl CA off cap ss W hH nN ao),
 λ p cap W=>callsIn_wide.2 (AnyM.slices_Sort_string_none Tryz.Abl p cap W)⟩
theorem Tryz.UT(mb:Option Nat)(W:World):CallsIn Fence.wide 5 Aix 256 #[.map mb] W λ e w'=>e=.returned (.func (.func 272) #[] #[.pointer (some ⟨W.heap.size,0,none⟩)])/\w'=W.alloc (.cells #[.map mb] 318) :=
 AnyZ.keys_in Tryz.Aa6 Fence.wide 5 trivial rfl mb W
set_option maxHeartbeats 1000000 in
theorem Tryz.HF{H:Type}(b nn:Nat)(D0:DataW H)(R:Value->Option (DataW H × List MemPlace))(w:World)(dq:w.ownsMap Aix 9 R b nn D0)(o5:Maps.size D0<=maxLen)(gN:Maps.size D0*16<=140737488355328) :
  CallsIn Fence.wide 5 Aix 255 #[.func (.func 272) #[] #[.pointer (some ⟨w.heap.size,0,none⟩)]] (w.alloc (.cells #[.map (some b)] 318)) λ e w'=>∃(v:Value) (ss:List (List UInt8)),e=.returned v/\ss.Perm (strKeys D0) /\
   w'.ownsRow (w.alloc (.cells #[.map (some b)] 318)).heap.size 9 1 v ss.length ((ss.mergeSort (λ x y=>decide (x<=y))).map encStr)/\(v=.slice none 0 0↔ss=[])/\Below (w.alloc (.cells #[.map (some b)] 318)).heap.size (w.alloc (.cells #[.map (some b)] 318)) w':=by
 have an:=dq.lt;have oH:SeqGives Fence.wide 2 Aix 272 #[.pointer (some ⟨w.heap.size,0,none⟩)] encStr (λ ss=>ss.Perm (strKeys D0)) (Maps.size D0) (w.alloc (.cells #[.map (some b)] 318)) :=
  AnyZ.keys_gives (ρ:=Tryz.Rc) { Tryz.Aa6 with } Fence.wide _ trivial rfl (by omega) w.heap.size b nn D0 _ (by simp) (by simp) (by
   obtain⟨es,clock,hb,Ft,hs,hD⟩:=dq;exact⟨es,clock,(Below.heap_alloc _ _ b an).trans hb,Ft,hs,hD⟩)
 exact AnyZ.sorted_in Tryz.AcO Fence.wide 5 trivial trivial trivial trivial rfl (by omega) (Tryz.Aev _) (enters_of Tryz.func271 (by kernel_rfl) rfl) 272 #[.pointer (some ⟨w.heap.size,0,none⟩)] trivial (enters_of Tryz.func272 (by kernel_rfl) rfl) _ _ o5 gN _ oH
end Go.Proofs
namespace Go.Dn
set_option linter.unusedVariables false
set_option maxRecDepth 100000
open Go.RowKit (Below)
open Go.Maps (has Tidy Keyed)
theorem Ak.of_grownBy{w w':World}{b:Nat}(h:w.grownBy w' (some b)):Ak (·=b) w w' :=
 ⟨h.os,h.tape,h.output,h.size,λ k hk hn=>h.block k hk (λ e=>hn (Option.some.inj e))⟩
def PK(P:Program)(k e:TypeId)(q:IntKind)(w:World)(b n:Nat)(g:List UInt8->Option Int):Prop :=
 ∃ D:DataW Unit,w.ownsMap P k (plainElem P e) b n D/\Tidy D/\∀ x,has D (.string x)=(g x).isSome/\D.atKey (.string x) (.lit (.int q 0))=.lit (.int q ((g x).getD 0))
section
variable {P:Program}{k e t:TypeId}{q:IntKind}{w:World}{b n:Nat}{g:List UInt8->Option Int}
theorem PK.kept(h:PK P k e q w b n g){F:Nat->Prop}{w':World}(K:Ak F w w')(hn:¬ F b):PK P k e q w' b n g:=by
 obtain⟨D,⟨es,clock,hb,r⟩,h2⟩:=h;exact⟨D,⟨es,clock,K.at hb hn,r⟩,h2⟩
theorem PK.lt(h:PK P k e q w b n g):b<w.heap.size:=by
 obtain⟨D,h,_⟩:=h;exact h.lt
theorem PK.put(h:PK P k e q w b n g)(hk:P.underlying k=some .string)(he:P.underlying e=some (.int q))(ht:P.underlying t=some (.map k e))(hn:n<maxLen){s:ByteArray}(hs:s.size<=maxLen){v:Int}(hv:(Lit.int q v).wf=true)
  {f:World->Prop} (hf:∀ w',Ak (·=b) w w'->PK P k e q w' b (n+1) (λ y=>if y=bl s then some v else g y)->f w'):ZD P (Instr.mapUpdate t (.map (some b)) (.string s) (.int q v)) f w:=by
 obtain⟨D,hD,hT,hg⟩:=h;have gR:keyOf P k (.string s)=some (.string (bl s)):=by simp [keyOf,hk,mapKey,hs,bl]
 obtain⟨w',aG,dq,cA⟩:=hD.update (Maps.string_keyed hk) ht hn gR (plainElem_int he hv);unfold ZD;rw [aG];have aO:WideAt.IsKeyLit (.string (bl s)):=by simp [WideAt.IsKeyLit]
 refine hf w' (.of_grownBy cA) ⟨_,dq,hT.put aO _,λ x=>?_⟩;by_cases hx:x=bl s
 ·subst hx;simp only [if_true];exact⟨Maps.has_put_same hT.isMap aO _,Maps.atKey_put_same hT.isMap aO _ _⟩
 ·have aQ:Lit.string x≠.string (bl s):=λ e=>hx (by injection e);simp only [hx,if_false];exact⟨(Maps.has_put_other aQ _).trans (hg x).1,(Maps.atKey_put_other aQ _ _).trans (hg x).2⟩
theorem PK.get(h:PK P k e q w b n g)(hk:P.underlying k=some .string)(he:P.underlying e=some (.int q))(ht:P.underlying t=some (.map k e))(hz:(zeroValue e).run P w=.ok (.int q 0) w){s:ByteArray}(hs:s.size<=maxLen)
  {f:Value->World->Prop} (hf:f (.int q ((g (bl s)).getD 0)) w):De P (Instr.lookup t (.map (some b)) (.string s) false) f w:=by
 obtain⟨D,hD,hT,hg⟩:=h;have gR:keyOf P k (.string s)=some (.string (bl s)):=by simp [keyOf,hk,mapKey,hs,bl]
 obtain⟨c,aG,cV,_⟩:=hD.lookup_int (Maps.string_keyed hk) ht he hz gR;rw [(hg (bl s)).2] at cV;have:c=(g (bl s)).getD 0:=by injection cV with h1;injection h1 with _ h2;exact h2.symm
 unfold De;rw [aG,this];exact hf
theorem PK.keys(h:PK P k e q w b n g)(hk:P.underlying k=some .string):∃ D:DataW Unit,w.ownsMap P k (plainElem P e) b n D/\Maps.size D<=n/\(strKeys D).Nodup/\∀ x,x∈strKeys D↔(g x).isSome=true:=by
 obtain⟨D,hD,hT,hg⟩:=h;obtain⟨es,e1,hpw⟩:=hT;obtain⟨es',gA,iR⟩:=hD.keysOf;obtain rfl:es=es':=by rw [e1] at gA;simpa using gA
 have lO:∀ p∈es,∃ x,p.1=.string x:=λ p hp=>by obtain⟨v,hv⟩:=iR p hp;obtain⟨x,_,hx,_⟩:=Maps.keyOf_str hk hv;exact⟨x,hx⟩
 have dm:(strKeys D).Nodup:=by
  rw [e1];show (es.map λ p=>strOf p.1).Nodup;refine List.pairwise_map.2 (hpw.imp_of_mem λ {p r} hp' lH aQ e=>aQ ?_);obtain⟨a,ha⟩:=lO p hp';obtain⟨c,hc⟩:=lO r lH;rw [ha,hc] at e ⊢;exact congrArg _ e
 refine⟨D,hD,?_,dm,λ x=>?_⟩
 ·obtain⟨es2,clock,_,_,hs,e2⟩:=hD;rw [e2];simp only [Maps.size,length_sorted,List.length_map,Array.length_toList];exact hs
 ·rw [<- (hg x).1,e1,Maps.has_eq,List.any_eq_true];show x∈es.map (λ p=>strOf p.1)↔_;rw [List.mem_map];constructor
  ·rintro⟨p,hp',rfl⟩;obtain⟨a,ha⟩:=lO p hp';exact⟨p,hp',by rw [ha];simp [Lit.sameKey,strOf]⟩
  ·rintro⟨p,hp',hs⟩;obtain⟨a,ha⟩:=lO p hp';rw [ha] at hs;exact⟨p,hp',by rw [ha];simpa [Lit.sameKey,strOf] using hs⟩
end
end Go.Dn
namespace Go.Proofs.YtpnaifmmggnimaaGreatDoor
open _root_.Go.Proofs.Tryz renaming prog -> Aix
open _root_.BitVec renaming ofInt -> AhZ
open _root_.List renaming getElem?_eq_none -> Aji
open _root_.Nat renaming le_of_not_lt -> Ajj, le_trans -> AiI, mod_lt -> AiR, mul_comm -> AiF
set_option maxRecDepth 100000
open Go.Dn Go.Proofs
open Go.RowKit (Below)
set_option linter.unusedVariables false
theorem Rn{w:World}{base:Nat}{e:TypeId}{v:Value}{n:Nat}{xs:List Value}(h:w.ownsRow base e 1 v n xs):∃ a c,v=.slice a n c/\Row w e 1 a n c xs/\∀ k,AF a=some k->base<=k:=by
 obtain⟨hl,⟨rfl,rfl⟩ | ⟨g,cap,cur,rfl,hb,hg,h1,h2,h3,h4⟩⟩:=h
 ·exact⟨none,0,rfl,⟨hl,.inl ⟨rfl,rfl,rfl⟩⟩,by simp [AF]⟩
 ·refine⟨_,cap,rfl,⟨hl,.inr ⟨g,cur,rfl,hg,h1,?_,h3,h4⟩⟩,λ k hk=>?_⟩
  ·exact AiI h2 Ode
  ·cases hk;exact hb
structure D6(ls t:List (List UInt8)):Prop where
 up:t.Pairwise (·<·)
 mem:∀ x,x∈t↔x∈ls
theorem Gf{t:List (List UInt8)}(h:t.Pairwise (·<·)):t.Nodup:=h.imp λ {a b} fM e=>by subst e;exact List.lt_irrefl _ fM
theorem D6.one{ls t u:List (List UInt8)}(h:D6 ls t)(h':D6 ls u):t=u:=by
 have hp:t.Perm u:=(List.perm_ext_iff_of_nodup (Gf h.up) (Gf h'.up)).2 λ x=>(h.mem x).trans (h'.mem x).symm;exact List.Perm.eq_of_pairwise (le:=λ a b=>a<b) (λ a b _ _ h1 h2=>absurd h2 (List.lt_asymm h1)) h.up h'.up hp
theorem AcD{ls ss:List (List UInt8)}(dm:ss.Nodup)(hm:∀ x,x∈ss↔x∈ls):D6 ls (ss.mergeSort (λ x y=>decide (x<=y))):=by
 have tr:∀ a b c:List UInt8,leB a b=true->leB b c=true->leB a c=true:=λ a b c h1 h2=>by simp only [leB,decide_eq_true_eq] at *;exact List.le_trans h1 h2
 have to:∀ a b:List UInt8,(leB a b || leB b a)=true:=λ a b=>by simp only [leB,Bool.or_eq_true,decide_eq_true_eq];exact List.le_total a b
 have hs:=List.pairwise_mergeSort tr to ss;have hp:=List.mergeSort_perm ss leB;have hn:(ss.mergeSort leB).Nodup:=hp.nodup_iff.2 dm;refine⟨?_,λ x=>(hp.mem_iff).trans (hm x)⟩;refine (hs.and hn).imp λ {a b} ⟨h1,h2⟩=>?_;simp only [leB,decide_eq_true_eq] at h1;rcases Decidable.em (a<b) with h | h
 ·exact h
 ·exact absurd (List.le_antisymm h1 (List.not_lt.1 h)) h2
theorem JA:Aix.underlying 9=some .string:=by kernel_rfl
theorem Xl:Aix.underlying 92=some (.int .u64):=by kernel_rfl
abbrev AbK(w:World)(b n:Nat)(g:List UInt8->Option Int):Prop:=PK Aix 9 92 .u64 w b n g
theorem U6{w:World}{b n:Nat}{g:List UInt8->Option Int}(h:AbK w b n g)(hn:n<=4096){ls:List (List UInt8)}(hg:∀ x,(g x).isSome=true↔x∈ls){k:Value->World->Prop}
  (hk:∀ a c t w',D6 ls t->Row w' 9 1 a t.length c (t.map encStr)->(∀ k,AF a=some k->w.heap.size<=k)->Below w.heap.size w w'->k (.slice a t.length c) w') :
  Calls Aix 256 #[.map (some b)] w (λ e w1=>∃(fn:FuncId) (fi ca:Array Value),e=.returned (.func (.func fn) fi ca) /\
   Calls Aix 255 #[.func (.func fn) fi ca] w1 (λ e w2=>∃(a:Option Addr) (l c:Nat),e=.returned (.slice a l c)/\k (.slice a l c) w2)):=by
 obtain⟨D,hD,ao,dm,aV⟩:=h.keys JA;refine (callsIn_wide.1 (Tryz.UT (some b) w)).mono ?_;rintro _ w1 ⟨rfl,rfl⟩;refine⟨_,_,_,rfl,(callsIn_wide.1 (Tryz.HF b n D (plainElem Aix 92) w hD (AiI (AiI ao hn) Ode) Omg)).mono ?_⟩;rintro _ w2 ⟨v,ss,rfl,fp,aI,_,hb⟩;obtain⟨a,c,rfl,hR,ax⟩:=Rn aI;have hr:=AcD (ls:=ls) (fp.nodup_iff.2 dm) (λ x=>(fp.mem_iff).trans ((aV x).trans (hg x)));have hlen:(ss.mergeSort (λ x y=>decide (x<=y))).length=ss.length:=List.length_mergeSort _;have sz:w.heap.size<=(w.alloc (.cells #[.map (some b)] 318)).heap.size:=Osi;refine⟨_,_,_,rfl,?_⟩;have:=hk a c _ w2 hr (by rw [hlen];exact hR) (λ k hk=>AiI sz (ax k hk)) (((Below.refl _ w).alloc (Nat.le_refl _) _).trans (hb.mono sz));rwa [hlen] at this
def HG(v:AD):List Value:=[.int .i64 v.1,.int .i64 v.2.1,.string v.2.2]
def AhX(v:AD):Prop:=BM v/\v.2.2.size<=maxLen
theorem PR:Aix.cellsOf 3=1:=by kernel_rfl
theorem Q2:Aix.cellsOf 2=1:=by kernel_rfl
theorem LG:Aix.cellsOf 9=1:=by kernel_rfl
theorem AfP:Ou Aix 120=some [(3,0),(2,1),(9,2)]:=by kernel_rfl
theorem Pq:Aix.underlying 3=some (.int .i64):=by kernel_rfl
theorem QZ:Aix.underlying 2=some (.int .i64):=by kernel_rfl
theorem AbV:Aix.cellsOf 120=3:=by kernel_rfl
theorem TA{w:World}:∀ m r,r.length=Aix.cellsOf 120->Go.Dn.Good Aix w m 120 r->∃ x,r=HG x/\AhX x:=by
 intro m r hl h;obtain⟨_,n,hf⟩:=h.fields AfP;rw [AbV] at hl
 match r,hl with
 | [v0,v1,v2],_ =>
  simp only [List.mem_cons,List.not_mem_nil,or_false,forall_eq_or_imp,forall_eq,PR,Q2,LG] at hf;obtain⟨h0,h1,h2⟩:=hf;obtain⟨x0,e0,_⟩:=h0.int Pq;obtain⟨x1,e1,q1⟩:=h1.int QZ;obtain⟨x2,e2,q2⟩:=h2.str JA;have zL : -9223372036854775808<=x1/\x1<=9223372036854775807:=by simpa [Lit.wf,IntKind.min,IntKind.max,IntKind.signed,IntKind.bits] using q1
  refine⟨(x0,x1,x2),?_,⟨zL.1,zL.2⟩,q2⟩;simp at e0 e1 e2;simp [HG,e0,e1,e2]
def PC(f:Nat->Bool)(w:Nat):Nat->Nat->Nat
 | 0,_=>0
 | t+1,j=>if j=t / w/\f t=true then PC f w t j ||| 2 ^ (t % w) else PC f w t j
theorem SM(f:Nat->Bool){w:Nat}(hw:0<w)(t i k:Nat):(PC f w t i).testBit k=(decide (k<w/\i*w+k<t) && f (i*w+k)):=by
 induction t with
 | zero=>simp [PC]
 | succ t ih =>
  unfold PC;have hd:=Nat.div_add_mod t w;have hm:=AiR t hw;rw [AiF] at hd;split
  ·rename_i h;obtain⟨rfl,hf⟩:=h;rw [Nat.testBit_or,ih,Nat.testBit_two_pow];by_cases hk:t % w=k
   ·subst hk;rw [hd];simp [hm,hf]
   ·have:¬ (t / w*w+k=t):=Omg;rw [Bool.eq_iff_iff];simp [hk];intro _ _;omega
  ·rename_i h;rw [ih];by_cases hk:k<w/\i*w+k=t
   ·have hi:i=t / w:=by
     rw [<- hk.2,AiF,Nat.mul_add_div hw,Nat.div_eq_of_lt hk.1];rfl
    have hf:f t=false:=by
     cases bV:f t
     ·rfl
     ·exact absurd ⟨hi,bV⟩ h
    rw [hk.2,hf];simp
   ·rw [Bool.eq_iff_iff];simp;intro _ _;omega
theorem Agx(f:Nat->Bool)(t j:Nat):SL f t j=PC f 8 t j:=by
 induction t with
 | zero=>rfl
 | succ t ih=>unfold SL PC;rw [ih]
theorem Aaz(f:Nat->Bool){w:Nat}(hw:0<w)(t i:Nat):PC f w t i<2 ^ w:=by
 apply Nat.lt_pow_two_of_testBit;intro k hk;rw [SM f hw];simp;intro h;omega
def Dq(l:List UInt8)(t:Nat):Bool:=(l.getD (t / 8) 0).toNat.testBit (t % 8)
def BL(l:List UInt8)(n w:Nat):List Nat:=(List.range n).map (PC (Dq l) w (n*w))
theorem Cd(l:List UInt8)(n w:Nat):(BL l n w).length=n:=by simp [BL]
theorem NN(l:List UInt8)(n w:Nat):∀ x∈BL l n w,x<2 ^ w:=by
 intro x hx;obtain⟨i,_,rfl⟩:=List.mem_map.1 hx;by_cases hw:0<w
 ·exact Aaz _ hw _ _
 ·have:w=0:=Omg;subst this;simp [PC]
theorem XK(l:List UInt8){n w t:Nat}(ht:t<n*w):Eh (BL l n w) w t=Dq l t:=by
 have hw:0<w:=Nat.pos_of_ne_zero (by rintro rfl;simp at ht);have hi:t / w<n:=(Nat.div_lt_iff_lt_mul hw).2 ht;have hd:=Nat.div_add_mod t w;have hm:=AiR t hw;rw [AiF] at hd;unfold Eh;have:(BL l n w).getD (t / w) 0=PC (Dq l) w (n*w) (t / w):=by simp [BL,hi]
 rw [this,SM _ hw,hd];simp [hm,ht]
theorem NL{c:UInt8}{k:Nat}(hk:8<=k):c.toNat.testBit k=false :=
 Nat.testBit_lt_two_pow (Nat.lt_of_lt_of_le c.toNat_lt (Nat.pow_le_pow_right Omg hk))
theorem AgE{c d:UInt8}(h:∀ k,k<8->c.toNat.testBit k=d.toNat.testBit k):c=d:=by
 apply UInt8.toNat_inj.1;apply Nat.eq_of_testBit_eq;intro k;by_cases hk:k<8
 ·exact h k hk
 ·rw [NL Omg,NL Omg]
theorem TW{xs:List Nat}{w j:Nat}(hj:j<Dl xs.length w):(AZ xs w)[j]?=some (UInt8.ofNat (SL (Eh xs w) (xs.length*w) j)):=by
 simp [AZ,hj]
theorem TV{xs:List Nat}{w j k:Nat}(hk:k<8):(UInt8.ofNat (SL (Eh xs w) (xs.length*w) j)).toNat.testBit k=(decide (j*8+k<xs.length*w) && Eh xs w (j*8+k)):=by
 rw [EC (Xf _ _ _),Agx,SM _ Omg];simp [hk]
theorem AeF{l:List UInt8}{n w:Nat}(hl:l.length=Dl n w):AZ (BL l n w) w=l↔∀ t,n*w<=t->Dq l t=false:=by
 have hs:Dl (BL l n w).length w=l.length:=by rw [Cd,hl]
 have hN:l.length=(n*w+7) / 8:=hl;constructor
 ·intro h t ht;by_cases hj:t / 8<l.length
  ·have h1:(AZ (BL l n w) w)[t / 8]?=l[t / 8]?:=by rw [h]
   rw [TW Omg,List.getElem?_eq_getElem hj] at h1;have h2:=Option.some.inj h1;unfold Dq;have:l.getD (t / 8) 0=l[t / 8]:=by simp [hj]
   rw [this,<- h2,TV (AiR _ Omg),Cd];have:¬ (t / 8*8+t % 8<n*w):=Omg;simp [this]
  ·unfold Dq;have:l.getD (t / 8) 0=0:=by simp [List.getD,Aji (Ajj hj)]
   rw [this];simp
 ·intro h;apply List.ext_getElem?;intro j;by_cases hj:j<l.length
  ·rw [TW Omg,List.getElem?_eq_getElem hj];congr 1;apply AgE;intro k hk;rw [TV hk,Cd];have hb:Dq l (j*8+k)=l[j].toNat.testBit k:=by
    unfold Dq;rw [show (j*8+k) / 8=j by omega,show (j*8+k) % 8=k by omega];simp [hj]
   by_cases ht:j*8+k<n*w
   ·rw [XK l ht,hb];simp [ht]
   ·have:=h _ (Ajj ht);rw [<- hb,this];simp [ht]
  ·rw [Aji (by rw [BP];omega),Aji Omg]
theorem AcS{l:List UInt8}{T:Nat}(hl:l.length=(T+7) / 8):(∀ t,T<=t->Dq l t=false)↔(0<l.length->T % 8≠0->(l.getD (l.length-1) 0).toNat / 2 ^ (T % 8)=0):=by
 constructor
 ·intro h h0 h8;apply Nat.eq_of_testBit_eq;intro k;rw [Nat.testBit_div_two_pow,Nat.zero_testBit];by_cases hk:T % 8+k<8
  ·have:=h (T+k) Omg;unfold Dq at this;rw [show (T+k) / 8=l.length-1 by omega,show (T+k) % 8=T % 8+k by omega] at this;rw [Nat.add_comm];exact this
  ·exact NL Omg
 ·intro h t ht;unfold Dq;by_cases hj:t / 8<l.length
  ·have h8:T % 8≠0:=Omg;have:=h Omg h8;have e:t / 8=l.length-1:=Omg;rw [e];have h2:((l.getD (l.length-1) 0).toNat / 2 ^ (T % 8)).testBit (t % 8-T % 8)=false:=by rw [this,Nat.zero_testBit]
   rw [Nat.testBit_div_two_pow] at h2;rw [show t % 8-T % 8+T % 8=t % 8 by omega] at h2;exact h2
  ·have:l.getD (t / 8) 0=0:=by simp [List.getD,Aji (Ajj hj)]
   rw [this];simp
/-! ### rows of numbers -/
def GR(f:Nat->Bool)(w m t:Nat):Array Value:=⟨(List.range m).map λ j=>.int .u64 (PC f w t j:Int)⟩
theorem VZ(f:Nat->Bool)(w m t:Nat):(GR f w m t).size=m:=by simp [GR]
theorem YS{f:Nat->Bool}{w m t j:Nat}(h:j<m):(GR f w m t)[j]?=some (.int .u64 (PC f w t j:Int)):=by simp [GR,h]
theorem YT{f:Nat->Bool}{w m t:Nat}(v:Nat)(hv:v=PC f w (t+1) (t / w)):(GR f w m t).setIfInBounds (t / w) (.int .u64 (v:Int))=GR f w m (t+1):=by
 apply Array.ext';apply List.ext_getElem?;intro i;simp only [Array.toList_setIfInBounds,GR,List.getElem?_set,List.length_map,List.length_range];by_cases h:t / w=i
 ·subst h;by_cases h2:t / w<m
  ·simp [h2,hv]
  ·simp [h2]
 ·have e:PC f w (t+1) i=PC f w t i:=by
   conv=>lhs;unfold PC
   rw [if_neg Omg]
  by_cases h2:i<m
  ·simp [h,h2,e]
  ·simp [h,h2]
theorem AcH{f:Nat->Bool}{w m t:Nat}(h:f t=false):GR f w m (t+1)=GR f w m t:=by
 unfold GR;congr 1;apply List.map_congr_left;intro j _
 conv=>lhs;unfold PC
 rw [if_neg (by simp [h])]
theorem V1(f:Nat->Bool)(w m:Nat):madeCells (Value.int .u64 0).cells (m*1)=GR f w m 0:=by
 apply Array.ext';rw [D5 _ rfl];simp [GR,PC,List.map_const']
theorem YR(l:List UInt8)(n w:Nat):(GR (Dq l) w n (n*w)).toList=(BL l n w).map EI:=by
 simp [GR,BL,EI]
theorem Y6(f:Nat->Bool)(w t:Nat):PC f w t (t / w) ||| (f t).toNat*2 ^ (t % w)=PC f w (t+1) (t / w):=by
 conv=>rhs;unfold PC
 cases h:f t
 ·simp
 ·simp
/-! ### words -/
theorem Vk{x k:Nat}(hx:x<256)(hk:k<8):IntKind.u8.wrap (((AhZ 8 (Int.fdiv (x:Int) (2 ^ (min k 8))) &&& AhZ 8 1).toNat:Int))=((x.testBit k).toNat:Int):=by
 rw [show min k 8=k by omega,fdiv_pow];have hle:x / 2 ^ k<=x:=Nat.div_le_self _ _;have e:(AhZ 8 ((x / 2 ^ k:Nat):Int) &&& AhZ 8 1).toNat=x / 2 ^ k % 2:=by
  rw [BitVec.toNat_and,BitVec.ofInt_natCast,BitVec.toNat_ofNat,Nat.mod_eq_of_lt Omg];exact Nat.and_two_pow_sub_one_eq_mod _ 1
 rw [e];have hm:x / 2 ^ k % 2<2:=AiR _ Omg;rw [Nat.testBit_eq_decide_div_mod_eq];generalize x / 2 ^ k % 2=y at hm;rw [AG Omg Omg];rcases (by omega:y=0\/y=1) with rfl | rfl <;> rfl
theorem V5{b:Bool}{s:Nat}(hs:s<64):IntKind.u64.wrap (IntKind.u64.wrap (b.toNat:Int)*2 ^ (min s 64))=((b.toNat*2 ^ s:Nat):Int):=by
 have hp:2 ^ s<2 ^ 64:=Nat.pow_lt_pow_right Omg hs;rw [show min s 64=s by omega,show IntKind.u64.wrap (b.toNat:Int)=(b.toNat:Int) by cases b <;> decide];have e:((b.toNat:Int)*2 ^ s)=((b.toNat*2 ^ s:Nat):Int):=by norm_cast
 rw [e];cases b
 ·simp;decide
 ·simp only [Bool.toNat_true,Nat.one_mul];generalize 2 ^ s=y at hp;rw [Aj Omg Omg]
end Go.Proofs.YtpnaifmmggnimaaGreatDoor
namespace Go.Proofs.YtpnaifmmggnimaaGreatDoor
open R
open _root_.BitVec renaming ofInt -> AhZ
set_option maxRecDepth 100000
open Go.Dn Go.Proofs
open Go.RowKit (Below)
set_option linter.unusedVariables false
/-! ### what package-level variables hold -/
/-! ### Number, Signed, Text -/
def DQ(n:Int):Nat:=if n<0 then (-(2*n)-1).toNat else (2*n).toNat
theorem FE{n:Int}(h1 : -9223372036854775808<=n)(h2:n<=9223372036854775807):DQ n<18446744073709551616:=by unfold DQ;split <;> omega
theorem ZA{n:Int}(h1 : -9223372036854775808<=n)(h2:n<=9223372036854775807) :
  IntKind.u64.wrap (((AhZ 64 (IntKind.u64.wrap (IntKind.i64.wrap (n*2 ^ (min 1 64)))) ^^^ AhZ 64 (IntKind.u64.wrap (Int.fdiv n (2 ^ (min 63 64))))).toNat:Int))=(DQ n:Int):=by
 have e1:IntKind.u64.wrap (IntKind.i64.wrap (n*2 ^ (min 1 64)))=(2*n) % 18446744073709551616:=by
  rw [wrap_u64,CQ];have:n*2 ^ (min 1 64)=2*n:=by rw [show (2:Int) ^ (min 1 64)=2 from rfl];omega
  rw [this];split <;> omega
 rw [e1];by_cases hn:n<0
 ·have e2:Int.fdiv n (2 ^ (min 63 64)) = -1:=by
   rw [Int.fdiv_eq_ediv_of_nonneg _ Ode,show (2:Int) ^ (min 63 64)=9223372036854775808 from rfl];omega
  rw [e2,show IntKind.u64.wrap (-1)=18446744073709551615 by decide];obtain⟨m,hm⟩:∃ m:Nat,(2*n) % 18446744073709551616=(m:Int):=⟨((2*n) % 18446744073709551616).toNat,Omg⟩;have hmlt:m<18446744073709551616:=Omg;rw [hm,show AhZ 64 18446744073709551615=BitVec.allOnes 64 by decide,BitVec.xor_allOnes,BitVec.toNat_not,BitVec.ofInt_natCast,BitVec.toNat_ofNat,Nat.mod_eq_of_lt Omg,Aj Omg Omg];unfold DQ;rw [if_pos hn];omega
 ·have e2:Int.fdiv n (2 ^ (min 63 64))=0:=by
   rw [Int.fdiv_eq_ediv_of_nonneg _ Ode,show (2:Int) ^ (min 63 64)=9223372036854775808 from rfl];omega
  obtain⟨m,rfl⟩:∃ m:Nat,n=(m:Int):=⟨n.toNat,Omg⟩;rw [e2,show IntKind.u64.wrap 0=0 by decide,show AhZ 64 0=0#64 by decide,BitVec.xor_zero];have:(2*(m:Int)) % 18446744073709551616=((2*m:Nat):Int):=Omg;rw [this,BitVec.ofInt_natCast,BitVec.toNat_ofNat,Nat.mod_eq_of_lt Omg,Aj Omg Omg];unfold DQ;rw [if_neg hn];omega
theorem FB{w:World}{a:Option Addr}{c:Nat}(l:List UInt8)(hl:Rd w a (l.map Ag))(n:Int)(h1 : -9223372036854775808<=n)(h2:n<=9223372036854775807)(hs:l.length+10<=140737488355328) :
  Cw 135 #[.slice a l.length c,.int .i64 n] w λ v w'=>∃ a c,v=.slice a (l++Af (DQ n)).length c/\Bj w w' (l++Af (DQ n)) a c:=by
 apply Pu
 delta Cs S U W Wu;try dsimp only [Ps]
 rw [ZA h1 h2];refine (AE l hl (DQ n) (FE h1 h2) hs).mono ?_;rintro _ w1 ⟨_,rfl,a1,c1,rfl,h⟩;exact⟨_,_,_,rfl,a1,c1,rfl,h⟩
/-! ### Lay -/
/-! ### Show -/
end Go.Proofs.YtpnaifmmggnimaaGreatDoor
namespace Go.Proofs.YtpnaifmmggnimaaGreatDoor
open _root_.List renaming length_append -> Aiq, length_cons -> Ais, length_drop -> AiT, mem_cons_of_mem -> Ai3, mem_cons_self -> Ai2
set_option maxRecDepth 100000
open Go.Dn Go.Proofs
open Go.RowKit (Below)
set_option linter.unusedVariables false
def Ep(x:Int):Value:=.int .i64 x
def E9(x:Int):Prop := -9223372036854775808<=x/\x<=9223372036854775807
theorem FD(x:Int):E9 (IntKind.i64.wrap x):=by
 rw [CQ];unfold E9;split <;> omega
def EY(x:Nat):Nat:=if x=0 then 0 else Nat.log2 x+1
theorem Sw(x:Nat):Dt x (EY x):=by
 unfold EY;split
 ·rename_i h;subst h;exact⟨Ode,.inl rfl⟩
 ·rename_i h;exact⟨Nat.lt_log2_self,.inr (by rw [Nat.add_sub_cancel];exact Nat.log2_self_le h)⟩
def D8(x:Int):List UInt8:=Af (DQ x)
theorem Uj{x:Int}(h:E9 x):(D8 x).length<=10:=Ah (FE h.1 h.2)
def EP:List Int->List UInt8
 | []=>[]
 | x :: r=>Af ((r.takeWhile (·==x)).length+1)++(D8 x++EP (r.drop (r.takeWhile (·==x)).length))
termination_by l=>l.length
decreasing_by simp only [AiT,Ais];omega
structure AaN(l:List Int)(k n:Nat):Prop where
 pos:0<n
 le:k+n<=l.length
 all:∀ j,j<n->l[k+j]?=l[k]?
 stop:k+n=l.length\/l[k+n]?≠l[k]?
theorem MD{x:Int}:∀ {r:List Int} {n:Nat},n<=r.length->(∀ j,j<n->r[j]?=some x)->(n=r.length\/r[n]?≠some x)->(r.takeWhile (·==x)).length=n
 | [],n,h1,_,_=>by simp at h1;simp [h1]
 | y :: r,0,_,_,h3=>by
  rcases h3 with h3 | h3
  ·simp at h3
  ·simp only [List.getElem?_cons_zero,ne_eq,Option.some.injEq] at h3;rw [List.takeWhile_cons_of_neg (by simpa using h3)];rfl
 | y :: r,n+1,h1,h2,h3=>by
  have h0:=h2 0 Omg;simp only [List.getElem?_cons_zero,Option.some.injEq] at h0;rw [List.takeWhile_cons_of_pos (by simpa using h0),Ais];rw [MD (r:=r) (n:=n) (by simpa using h1) (λ j hj=>by have:=h2 (j+1) Omg;simpa using this) (by
   rcases h3 with h3 | h3
   ·exact .inl (by simpa using h3)
   ·exact .inr (by simpa using h3))]
theorem YY{l:List Int}{k n:Nat}(h:AaN l k n):EP (l.drop k)=Af n++(D8 (l.getD k 0)++EP (l.drop (k+n))):=by
 have hp:=h.pos;have hl:=h.le;have hk:k<l.length:=Omg;have hg:l.getD k 0=l[k]:=by simp [hk]
 have hk?:l[k]?=some l[k]:=List.getElem?_eq_getElem hk;rw [List.drop_eq_getElem_cons hk,hg]
 conv=>lhs;unfold EP
 have hT:((l.drop (k+1)).takeWhile (·==l[k])).length=n-1:=by
  apply MD
  ·rw [AiT];omega
  ·intro j hj;rw [List.getElem?_drop,<- hk?,<- h.all (j+1) Omg];congr 1;omega
  ·rcases h.stop with h3 | h3
   ·left;rw [AiT];omega
   ·right;rw [List.getElem?_drop,<- hk?];have e:k+1+(n-1)=k+n:=Omg;rw [e];exact h3
 rw [hT,List.drop_drop,show n-1+1=n by omega,show k+1+(n-1)=k+n by omega]
theorem IM:EP []=[]:=by unfold EP;rfl
def BB(l:List Int):List Nat:=(List.range (l.length-1)).map λ i=>DQ (IntKind.i64.wrap (l.getD (i+1) 0-l.getD i 0))
def EN(l:List Int)(k:Nat):Int:=(l.take k).foldl (λ m x=>if x<m then x else m) (l.headD 0)
def Fo(l:List Int):Int:=EN l l.length
def BK(l:List Int):List Nat:=l.map λ x=>(x-Fo l).toNat
theorem M3{l:List Int}{k:Nat}(hk:k<l.length):EN l (k+1)=if l[k]<EN l k then l[k] else EN l k:=by
 unfold EN;rw [List.take_succ_eq_append_getElem hk,List.foldl_append];rfl
theorem Ja(l:List Int):∀ m:Int,l.foldl (λ m x=>if x<m then x else m) m<=m/\(∀ x∈l,l.foldl (λ m x=>if x<m then x else m) m<=x)/\(l.foldl (λ m x=>if x<m then x else m) m=m\/l.foldl (λ m x=>if x<m then x else m) m∈l):=by
 induction l with
 | nil=>intro m;simp
 | cons y l ih =>
  intro m;obtain⟨h1,h2,h3⟩:=ih (if y<m then y else m);rw [List.foldl_cons];refine⟨?_,?_,?_⟩
  ·refine Int.le_trans h1 ?_;split <;> omega
  ·intro x hx;rcases List.mem_cons.1 hx with rfl | hx
   ·refine Int.le_trans h1 ?_;split <;> omega
   ·exact h2 x hx
  ·rcases h3 with h3 | h3
   ·rw [h3];split
    ·right;exact Ai2 ..
    ·left;rfl
   ·right;exact Ai3 _ h3
theorem LM{l:List Int}{x:Int}(h:x∈l):Fo l<=x:=by
 unfold Fo EN;rw [List.take_length];exact (Ja l _).2.1 x h
theorem DC{l:List Int}(h:∀ x∈l,E9 x)(h0:0<l.length)(k:Nat):E9 (EN l k):=by
 unfold EN;have hh:E9 (l.headD 0):=by
  cases l with
  | nil=>simp at h0
  | cons y l=>exact h y (Ai2 ..)
 rcases (Ja (l.take k) (l.headD 0)).2.2 with e | e
 ·rw [e];exact hh
 ·exact h _ (List.mem_of_mem_take e)
theorem LS{l:List Int}:∀ x∈BB l,x<18446744073709551616:=by
 intro x hx;obtain⟨i,_,rfl⟩:=List.mem_map.1 hx;have:=FD (l.getD (i+1) 0-l.getD i 0);exact FE this.1 this.2
theorem LI{l:List Int}(h:∀ x∈l,E9 x):∀ x∈BK l,x<18446744073709551616:=by
 intro x hx;obtain⟨y,hy,rfl⟩:=List.mem_map.1 hx;have h1:=h y hy;have h2:=DC h (List.length_pos_of_mem hy) l.length;have h3:=LM hy;unfold Fo at h3 ⊢;unfold E9 at h1 h2;omega
def CF(first:Int)(s:List Nat):List UInt8:=D8 first++(UInt8.ofNat (EY (HL s)) :: AZ s (EY (HL s)))
def DA(form:Nat)(l:List Int):List UInt8 :=
 match form with
 | 0=>0 :: l.flatMap D8
 | 1=>1 :: EP l
 | 2=>2 :: (if l=[] then [] else CF (l.headD 0) (BB l))
 | _=>3 :: (if l=[] then [] else CF (Fo l) (BK l))
theorem Qf{s:List Nat}(h:∀ x∈s,x<18446744073709551616):EY (HL s)<=64:=(Sw _).le.2 ((Hr s 64).2 h)
theorem Rg{f:Int}{s:List Nat}(hf:E9 f)(h:∀ x∈s,x<18446744073709551616):(CF f s).length<=12+s.length*8:=by
 have h1:=Uj hf;have h2:=BP s (EY (HL s));have h3:=Qf h;unfold CF;simp only [Aiq,Ais];unfold Dl at h2;have h4:s.length*EY (HL s)<=s.length*64:=Nat.mul_le_mul_left _ h3;omega
theorem Ko{l:List Int}(h:∀ x∈l,E9 x):(l.flatMap D8).length<=l.length*10:=by
 induction l with
 | nil=>simp
 | cons x l ih =>
  have h1:=Uj (h x (Ai2 ..));have h2:=ih λ y hy=>h y (Ai3 _ hy);simp only [List.flatMap_cons,Aiq,Ais];omega
theorem LP:∀(n:Nat) (l:List Int),l.length<=n->n<=4096->(∀ x∈l,E9 x)->(EP l).length<=l.length*20
 | _,[],_,_,_=>by rw [IM];simp
 | 0,x :: l,h,_,_=>by simp at h
 | n+1,x :: l,h,hn,hx=>by
  unfold EP;have h1:=Uj (hx x (Ai2 ..));have hT:(l.takeWhile (·==x)).length<=l.length:=(List.takeWhile_sublist _).length_le;have hl:l.length<=n:=by simpa using h
  have h2:=Ah (n:=(l.takeWhile (·==x)).length+1) Omg;have h3:=LP n (l.drop (l.takeWhile (·==x)).length) (by rw [AiT];omega) Omg (λ y hy=>hx y (Ai3 _ (List.mem_of_mem_drop hy)));rw [AiT] at h3;simp only [Aiq,Ais];omega
theorem Ach{l:List Int}(f:Nat)(hn:l.length<=4096)(h:∀ x∈l,E9 x):(DA f l).length<=13+l.length*20:=by
 unfold DA;split
 ·have:=Ko h;simp only [Ais];omega
 ·have:=LP 4096 l hn Omg h;simp only [Ais];omega
 ·split
  ·simp only [Ais,List.length_nil];omega
  ·rename_i h0;have hp:0<l.length:=List.length_pos_iff.2 h0;have h1:E9 (l.headD 0):=by
    have:=DC h hp 0;simpa [EN] using this
   have:=Rg h1 (LS (l:=l));have e:(BB l).length=l.length-1:=by simp [BB]
   rw [e] at this;simp only [Ais];omega
 ·split
  ·simp only [Ais,List.length_nil];omega
  ·rename_i h0;have hp:0<l.length:=List.length_pos_iff.2 h0;have:=Rg (DC h hp l.length) (LI h);have e:(BK l).length=l.length:=by simp [BK]
   rw [e] at this;unfold Fo;simp only [Ais];omega
end Go.Proofs.YtpnaifmmggnimaaGreatDoor
