/-
  Texts of this claim, laid one behind the other by a program of mine (install.py): G.Hash8, G.Hash9, G.Hash10, G.Hash11, G.Sch1, G.Shelf, G.Sch2, G.Sch3, G.Sch4, G.Sch5, Dn.Open, G.Val, G.ValB, G.Len, G.Width, G.Pack, G.Pack2, G.Pack3, G.Iter, Dn.Maps, G.Rise, G.ValA, G.Bits, G.Sig, G.IntsL.
-/
import Derived.Test.YtpnaifmmggnimaaGreatDoorM3
import Derived.Shelf.Small.Strs
import Derived.Shelf.Strings.Search1
import Derived.Shelf.Strings.AsciiSet
import Derived.Test.YtpnaifmmggnimaaGreatDoorProg
import Derived.ChangeArms
import Derived.Deep.Slices
import Derived.OpenShut
import Derived.Shelf.SlIter.Nil
import Derived.Shelf.SortM.Plain
import Derived.Shelf.SortM.SortNone
import Derived.Ground.GgzProg
import Derived.Ground.SlgmProg
import Derived.Maps.Own
import Derived.Maps.Views
import Derived.Sort.KeysCollected
namespace Go.Proofs.YtpnaifmmggnimaaGreatDoor
open _root_.BitVec renaming ofInt -> AkK, ofNat -> Alq
open _root_.Bool renaming eq_iff_iff -> AlJ
open _root_.Int renaming toNat_natCast -> Ale
open _root_.List renaming length_map -> Alr, length_set -> Ali, range -> AlL, replicate -> Ak9, take_of_length_le -> AlK
open _root_.Nat renaming le_trans -> Als, mul_one -> Alh
set_option maxRecDepth 100000
open Go.Dn Go.Proofs
open Go.RowKit (Below)
set_option linter.unusedVariables false
theorem _root_.Go.Dn.SH.Af0{F:Nat->Prop}{w0 w:World}{H:List Zh}(S:SH F w0 w H){w':World}(B:Below w.heap.size w w'){b:Nat}{cs:Array Value}{t:TypeId}(hb:w.heap.size<=b)(hc:w'.heap[b]?=some (.cells cs t (0,0))) :
  SH F w0 w' ((b,cs,t) :: H) where
 keeps:=(S.grown B).keeps
 mem:=by
  intro x hx;rcases List.mem_cons.1 hx with rfl | hx
  ·exact hc
  ·exact (S.grown B).mem x hx
 nodup:=by
  rw [List.map_cons,List.nodup_cons];refine⟨λ hm=>?_,S.nodup⟩;obtain⟨x,hx,he⟩:=List.mem_map.1 hm;have h1:=S.lt hx;have h2:x.1=b:=he;omega
 own:=by
  intro x hx;rcases List.mem_cons.1 hx with rfl | hx
  ·exact .inr (Als S.keeps.size hb)
  ·exact S.own x hx
theorem WM(w:World):Calls Tryz.prog f.AaL #[] w (AG λ v w'=>∃ b,v=.slice (some ⟨b,0,none⟩) 8 8/\w.heap.size<=b/\w'.heap[b]?=some (.cells ⟨Ca.map wV⟩ 184 (0,0))/\Below w.heap.size w w'):=by
 apply R.PS
 delta R.J R.N R.S R.V;try dsimp only [R.Ps]
 refine (SH.start (λ _=>False) w).An λ b1 w1 hb B S=>⟨b1,rfl,hb,?_,B⟩;exact S.get 0 rfl
theorem AeO{w:World}{b:Nat}{cs:List Value}(h:Rd w (some ⟨b,0,none⟩) cs):holds (LB ⟨b,0,none⟩ cs 0) w:=by
 refine (ER _ w cs 0).2 λ j v hj=>?_;obtain⟨p,hp,hc⟩:=h j v hj;cases hp;rw [Nat.zero_add];exact hc
set_option maxHeartbeats 1000000 in
theorem Af2{w:World}(h:List Wd)(hh:h.length=8){a:Option Addr}{c:Nat}(CJ:List UInt8)(hb:CJ.length=64)(hr:Rd w a (CJ.map Ag))(n:Nat)(hn:n<18446744073709551616)(last:Bool) :
  Calls Tryz.prog f.AaM #[.agg ⟨h.map wV⟩,.slice a 64 c,.int .u64 (n:Int),.bool last] w (AG λ r w'=>r=.agg ⟨(U5 h CJ n last).map wV⟩/\Below w.heap.size w w'):=by
 obtain⟨p,rfl,_⟩:=hr 0 (Ag (CJ.getD 0 0)) (by simp [hb]);apply R.PT
 delta R.A R.Ab R.Ad R.Cs R.Ct R.D R.F R.I R.Lv R.Ly R.Qi R.Am R.T R.V R.W R.Wb R.Wu R.Wv R.X R.Z;try dsimp only [R.Ps]
 refine (SH.start (λ _=>False) w).An λ b5 w1 _ _ S=>S.An λ b6 w2 _ _ S=>(WM w2).mono ?_;rintro _ w3 ⟨_,rfl,bw,rfl,ue,uv,B3⟩
 replace S:=S.Af0 B3 ue uv
 refine⟨_,_,_,rfl,S.An λ b9 w4 _ _ S=>?_⟩;refine⟨λ st w'=>∃ i:Nat,st=[.int .i64 (i:Int)]/\i<=64/\SH (λ _=>False) w w' [(b9,⟨(mA CJ i).map wV⟩,224),(bw,⟨Ca.map wV⟩,184),(b6,⟨Ak9 8 (.int .u32 0)⟩,185),(b5,⟨h.map wV⟩,185)],
  λ st _=>match st with | [.int _ t]=>(64-t).toNat | _=>0,⟨0,rfl,by omega,S⟩,?_⟩
 rintro t w5 ⟨i,aA,hi,S⟩;cases MR aA;have lW:=AgK CJ i;refine Aa (λ aB=>?_) (λ aI=>?_)
 ·have df:i<64:=by omega
  refine S.draw λ w6 S=>?_;rw [Ad5 i df,Ad6 i df];have db:w6.cell? (p.add ((i:Int).toNat*1))=some (.int .u8 (uI (CJ.getD i 0))):=by
   obtain⟨q,hq,hc⟩:=(hr.grown S.below) i (Ag (CJ.getD i 0)) (by simp [hb,df]);cases hq;rw [Ale,Alh];exact hc
  refine⟨⟨by omega,by omega⟩,⟨by omega,by omega⟩,⟨_,S.wd 0 rfl (by omega) (Ale _),_,db,by omega,⟨by omega,by omega⟩,?_⟩⟩;have e3:IntKind.u32.wrap ((((mA CJ i).getD (i / 4) 0).toNat:Int)+(IntKind.u32.wrap ((IntKind.u32.wrap (uI (CJ.getD i 0)))*2 ^ (min ((((8*(i % 4):Nat):Int)).toNat) 32))))
    = (((mA CJ i).getD (i / 4) 0+(byW (CJ.getD i 0) <<< (8*(i % 4)))).toNat:Int):=by
   have e4:IntKind.u32.wrap (((byW (CJ.getD i 0)).toNat:Int)*2 ^ (8*(i % 4)))=((byW (CJ.getD i 0) <<< (8*(i % 4))).toNat:Int):=by
    rw [<- AdV,Cx,wrap_u32,BitVec.toNat_ofInt];omega
   rw [Ale,Nat.min_eq_left (by omega),uI,AdF,e4,Nh]
  rw [e3];refine S.Fq 0 rfl (by omega) (Ale _) λ w8 S=>?_;rw [Ae (by omega)];exact⟨⟨i+1,rfl,by omega,S⟩,by show (64-((i+1:Nat):Int)).toNat<(64-(i:Int)).toNat;omega⟩
 ·have df:i=64:=by omega
  refine S.An λ jt w8 _ _ S=>?_;refine⟨λ st w'=>∃ j:Nat,st=[.int .i64 (j:Int)]/\j<=8/\SH (λ _=>False) w w' [(jt,⟨(vR h j).map wV⟩,224),(b9,⟨(mA CJ i).map wV⟩,224),(bw,⟨Ca.map wV⟩,184),(b6,⟨Ak9 8 (.int .u32 0)⟩,185),(b5,⟨h.map wV⟩,185)],
   λ st _=>match st with | [.int _ t]=>(8-t).toNat | _=>0,⟨0,rfl,by omega,S⟩,?_⟩
  rintro t w9 ⟨j,aA,hj,S⟩;cases MR aA;have iI:=Ahz h j;refine Aa (λ aB=>⟨⟨by omega,aB⟩,?_⟩) (λ aI=>?_)
  ·have nI:j<8:=by omega
   have cd:Ca.length=8:=rfl;have e8:IntKind.i64.wrap (8+(j:Int))=((8+j:Nat):Int):=by rw [wrap_i64 (by omega) (by omega)];omega
   rw [e8];refine⟨_,S.wd 4 rfl (by omega) (Ale _),⟨by omega,by omega⟩,S.Fq 0 rfl (by omega) (Ale _) λ bV S=>?_⟩;refine⟨⟨by omega,by omega⟩,⟨_,S.wd 2 rfl (by omega) (Ale _),⟨by omega,by omega⟩,S.Fq 0 rfl (by simp only [Ali];omega) (Ale _) λ aY S=>?_⟩⟩;rw [Ae (by omega)];exact⟨⟨j+1,rfl,by omega,S⟩,by show (8-((j+1:Nat):Int)).toNat<(8-(j:Int)).toNat;omega⟩
  ·have nI:j=8:=by omega
   have tb:∀ x:Wd,IntKind.u32.wrap (((AkK 32 (x.toNat:Int) ^^^ AkK 32 (IntKind.u32.wrap (Int.tmod (n:Int) 4294967296))).toNat:Int))=((x ^^^ Alq 32 n).toNat:Int):=by
    intro x;have:AkK 32 (Int.tmod (n:Int) 4294967296)=Alq 32 n:=by
     rw [Int.tmod_eq_emod_of_nonneg (by omega)];apply BitVec.eq_of_toNat_eq;rw [BitVec.toNat_ofInt,BitVec.toNat_ofNat];omega
    rw [Cx,this,Bn,Bq]
   have td:∀ x:Wd,IntKind.u32.wrap (((AkK 32 (x.toNat:Int) ^^^ AkK 32 (IntKind.u32.wrap (IntKind.u64.wrap (Int.tdiv (n:Int) 4294967296)))).toNat:Int))=((x ^^^ Alq 32 (n / 4294967296)).toNat:Int):=by
    intro x;have:IntKind.u64.wrap (Int.tdiv (n:Int) 4294967296)=((n / 4294967296:Nat):Int):=by
     rw [Int.tdiv_eq_ediv_of_nonneg (by omega),Aj (by omega) (by omega)];omega
    rw [this,Cx,Bn,Bq,BitVec.ofInt_natCast]
   have te:∀ x:Wd,IntKind.u32.wrap (((AkK 32 (x.toNat:Int) ^^^ AkK 32 4294967295).toNat:Int))=((4294967295 ^^^ x).toNat:Int):=by
    intro x;rw [Bn,Bq,BitVec.xor_comm];rfl
   refine⟨_,S.wd' 0 rfl (by omega),?_⟩;rw [tb];refine S.Mq 0 rfl (by omega) λ al S=>⟨_,S.wd' 0 rfl (by simp only [Ali];omega),?_⟩;rw [td];refine S.Mq 0 rfl (by simp only [Ali];omega) λ an S=>?_;have nj:(vN (vR h j) n last).length=16:=by rw [Ahy];exact iI
   refine⟨λ _ w'=>SH (λ _=>False) w w' [(jt,⟨(vN (vR h j) n last).map wV⟩,224),(b9,⟨(mA CJ i).map wV⟩,224),(bw,⟨Ca.map wV⟩,184),(b6,⟨Ak9 8 (.int .u32 0)⟩,185),(b5,⟨h.map wV⟩,185)],?_,?_⟩
   ·refine Aq (λ hl=>?_) (λ hl=>?_)
    ·subst hl;refine⟨_,S.wd' 0 rfl (by simp only [Ali];omega),?_⟩;rw [te];exact S.Mq 0 rfl (by simp only [Ali];omega) λ ah S=>S
    ·subst hl;exact S
   ·intro ah S;generalize hV0:vN (vR h j) n last=V0 at *;generalize fU:mA CJ i=m0 at *;refine⟨λ st w'=>∃ r:Nat,st=[.int .i64 (r:Int)]/\r<=10/\SH (λ _=>False) w w' [(jt,⟨(DF m0 V0 r).map wV⟩,224),(b9,⟨m0.map wV⟩,224),(bw,⟨Ca.map wV⟩,184),(b6,⟨Ak9 8 (.int .u32 0)⟩,185),(b5,⟨h.map wV⟩,185)],
     λ st _=>match st with | [.int _ t]=>(10-t).toNat | _=>0,⟨0,rfl,by omega,S⟩,?_⟩
    rintro t cp ⟨r,aA,cu,S⟩;cases MR aA;have cE:=(JQ m0 V0 r).trans nj;refine Aa (λ aB=>?_) (λ aI=>?_)
    ·have dQ:r<10:=by omega
     refine (AfX r dQ cp).mono ?_;rintro _ cP ⟨_,rfl,rfl,oC⟩
     replace S:=S.grown oC
     refine⟨_,rfl,λ st w'=>∃ q:Nat,st=[.int .i64 (q:Int)]/\q<=8/\SH (λ _=>False) w w' [(jt,⟨(JH m0 r (DF m0 V0 r) q).map wV⟩,224),(b9,⟨m0.map wV⟩,224),(bw,⟨Ca.map wV⟩,184),(b6,⟨Ak9 8 (.int .u32 0)⟩,185),(b5,⟨h.map wV⟩,185)],
      λ st _=>match st with | [.int _ t]=>(8-t).toNat | _=>0,⟨0,rfl,by omega,S⟩,?_⟩
     rintro t eZ ⟨q,aA,hq,S⟩;cases MR aA;have aD:=(HJ m0 r (DF m0 V0 r) q).trans cE;refine Aa (λ ao=>S.draw λ fB S=>?_) (λ br=>?_)
     ·have fX:q<8:=by omega
      have e2:IntKind.i64.wrap (2*(q:Int))=((2*q:Nat):Int):=by rw [wrap_i64 (by omega) (by omega)];omega
      have e3:IntKind.i64.wrap (((2*q:Nat):Int)+1)=((2*q+1:Nat):Int):=Ae (by omega);have o0:=Yv r dQ (2*q) (by omega);have o1:=Yv r dQ (2*q+1) (by omega);rw [e2,e3,Ale,Ale,AaA r dQ (2*q) (by omega),AaA r dQ (2*q+1) (by omega),Ae9 r dQ];refine⟨⟨by omega,by omega⟩,⟨by omega,by omega⟩,⟨by omega,by omega⟩,⟨by omega,by omega⟩,Dd _ aD (Rd.Ak (S.get 0 rfl)) ?_⟩;refine⟨_,S.wd 1 rfl (by omega) (Ale _),_,S.wd 1 rfl (by omega) (Ale _),(Aeq q fX fB).mono ?_⟩;rintro _ fC ⟨_,rfl,rfl,yu⟩
      replace S:=S.grown yu
      refine⟨_,rfl,S.wd 1 rfl (by omega) (Ale _),S.wd 1 rfl (by omega) (Ale _),AeO (Rd.Ak (S.get 0 rfl)),?_⟩;refine (AgR _ aD (Ag0 q) (Afd q fX) (Kl q 0) (Kl q 1) (Kl q 2) (Kl q 3) (PN q fX 0 (by omega)) (PN q fX 1 (by omega)) (PN q fX 2 (by omega)) (PN q fX 3 (by omega))
       (G0 q fX 0 (by omega)) (G0 q fX 1 (by omega)) (G0 q fX 2 (by omega)) (G0 q fX 3 (by omega)) _ _ fC).mono ?_
      rintro _ fD ⟨_,rfl,rfl,iN⟩
      replace S:=S.grown iN
      have hx:=AgQ m0 r q (JH m0 r (DF m0 V0 r) q) aD fX;rw [hx];have bD:(Xw m0 r q (JH m0 r (DF m0 V0 r) q)).length=16:=(HJ m0 r (DF m0 V0 r) (q+1)).trans cE;have eJ:((Xw m0 r q (JH m0 r (DF m0 V0 r) q)).map wV).length=16:=by rw [Alr];exact bD
      refine O3 _ bD ⟨rfl,Ds eJ (S.Er 0 rfl (by rw [eJ];simp [aD]) (IZ _) λ iM _ S=>?_)⟩;rw [Ae (by omega)];exact⟨⟨q+1,rfl,by omega,S⟩,by show (8-((q+1:Nat):Int)).toNat<(8-(q:Int)).toNat;omega⟩
     ·have fX:q=8:=by omega
      subst fX;rw [Ae (by omega)];exact⟨⟨r+1,rfl,by omega,S⟩,by show (10-((r+1:Nat):Int)).toNat<(10-(r:Int)).toNat;omega⟩
    ·have dQ:r=10:=by omega
     generalize hV:DF m0 V0 r=V at *;refine⟨λ st w'=>∃ q:Nat,st=[.int .i64 (q:Int)]/\q<=8/\SH (λ _=>False) w w' [(jt,⟨V.map wV⟩,224),(b9,⟨m0.map wV⟩,224),(bw,⟨Ca.map wV⟩,184),(b6,⟨Ak9 8 (.int .u32 0)⟩,185),(b5,⟨(hF h V q).map wV⟩,185)],
      λ st _=>match st with | [.int _ t]=>(8-t).toNat | _=>0,⟨0,rfl,by omega,S⟩,?_⟩
     rintro t fp ⟨q,aA,hq,S⟩;cases MR aA;have ki:=(Yi h V q).trans hh;refine Aa (λ aB=>S.draw λ gQ S=>?_) (λ aI=>?_)
     ·have e8:IntKind.i64.wrap (8+(q:Int))=((q+8:Nat):Int):=by rw [wrap_i64 (by omega) (by omega)];omega
      rw [e8];refine⟨⟨by omega,aB⟩,⟨by omega,by omega⟩,⟨by omega,by omega⟩,_,S.wd 4 rfl (by omega) (Ale _),_,S.wd 0 rfl (by omega) (Ale _),_,S.wd 0 rfl (by omega) (Ale _),⟨by omega,aB⟩,?_⟩;rw [NG,NG,BitVec.xor_assoc];refine S.Fq 4 rfl (by omega) (Ale _) λ kE S=>?_;rw [Ae (by omega)];exact⟨⟨q+1,rfl,by omega,S⟩,by show (8-((q+1:Nat):Int)).toNat<(8-(q:Int)).toNat;omega⟩
     ·have fX:q=8:=by omega
      have ax:((hF h V q).map wV).length=8:=by rw [Alr];exact ki
      refine Dd (hF h V q) ki (Rd.Ak (S.get 4 rfl)) (Ds ax (S.Er 3 rfl ax (IZ _) λ fE _ S=>?_));refine Dd (hF h V q) ki (Rd.Ak (S.get 3 rfl)) ⟨?_,S.below⟩;have ev:vN (vF h 8) n last=V0:=by rw [<- Akf h hh,<- nI,hV0]
      have em:mO CJ 64=m0:=by rw [<- Aj2,<- df,fU]
      unfold U5;rw [ev,em,<- dQ,hV,fX]
def wR:Nat->List Wd
 | 0=>Ak9 8 0
 | i+1=>(wR i).set i (Ca.getD i 0)
theorem AhA:∀ i,(wR i).length=8
 | 0=>rfl
 | i+1=>by simp [wR,AhA i]
theorem AkJ:wR 8=Ca:=by decide
theorem Aj8:M9 Tryz.prog 77=some (5,1,1,.int .u8 0):=by kernel_rfl
set_option maxHeartbeats 1000000 in
theorem JX{w:World}{a:Option Addr}{c:Nat}(l:List UInt8)(hr:Rd w a (l.map Ag))(hc:l.length<=c)(hl:l.length<=140737488355328) :
  Calls Tryz.prog f.Afj #[.slice a l.length c] w (AG λ v w'=>v=.agg ⟨(IE l).map Ag⟩/\Below w.heap.size w w'):=by
 apply R.Tw
 delta R.A R.Ad R.B R.Cs R.F R.G R.I R.Lv R.Qi R.Ri R.Rs R.S R.Am R.U R.V R.W R.Wb R.Wu R.Wv R.X R.Y;try dsimp only [R.Ps]
 refine (SH.start (λ _=>False) w).An λ b2 w1 _ _ S=>(WM w1).mono ?_;rintro _ w2 ⟨_,rfl,bw,rfl,ue,uv,B2⟩
 replace S:=S.Af0 B2 ue uv
 refine⟨_,_,_,rfl,S.An λ b5 w3 _ _ S=>?_⟩;refine⟨λ st w'=>∃ i:Nat,st=[.int .i64 (i:Int)]/\i<=8/\SH (λ _=>False) w w' [(b5,⟨(wR i).map wV⟩,185),(bw,⟨Ca.map wV⟩,184),(b2,⟨Ak9 32 (.int .u8 0)⟩,142)],
  λ st _=>match st with | [.int _ t]=>(8-t).toNat | _=>0,⟨0,rfl,by omega,S⟩,?_⟩
 rintro t w4 ⟨i,aA,hi,S⟩;cases MR aA;have s3:=AhA i;have cd:Ca.length=8:=rfl;refine Aa (λ aB=>?_) (λ aI=>?_)
 ·refine⟨⟨by omega,by omega⟩,⟨_,S.wd 1 rfl (by omega) (Ale _),⟨by omega,by omega⟩,S.Fq 0 rfl (by omega) (Ale _) λ w5 S=>?_⟩⟩;rw [Ae (by omega)];exact⟨⟨i+1,rfl,by omega,S⟩,by show (8-((i+1:Nat):Int)).toNat<(8-(i:Int)).toNat;omega⟩
 ·have k8:i=8:=by omega
  have hw8:wR i=Ca:=by rw [k8,AkJ]
  rw [hw8] at S;refine⟨_,S.wd' 0 rfl (by omega),?_⟩;have e0:∀ x:Wd,IntKind.u32.wrap (((AkK 32 (x.toNat:Int) ^^^ AkK 32 16842784).toNat:Int))=((x ^^^ 16842784).toNat:Int):=by
   intro x;rw [Bn,Bq];rfl
  rw [e0];refine S.Mq 0 rfl (by omega) λ w6 S=>?_;refine⟨λ st w'=>∃ k:Nat,st=[.int .i64 ((64*k:Nat):Int)]/\(k=0\/64*k<l.length)/\SH (λ _=>False) w w' [(b5,⟨(Gn l k).map wV⟩,185),(bw,⟨Ca.map wV⟩,184),(b2,⟨Ak9 32 (.int .u8 0)⟩,142)],
   λ st _=>match st with | [.int _ t]=>((l.length:Int)+64-t).toNat | _=>0,⟨0,rfl,.inl rfl,S⟩,?_⟩
  rintro t w7 ⟨k,aA,hk,S⟩;cases MR aA;have bD:=Jm l k;refine Ea Aj8 (l:=64) (c:=64) (by omega) (by omega) (by omega) (by omega) λ b8 w8 pr B8 yA=>?_;have hz:(madeCells (Value.int .u8 0).cells ((64:Int).toNat*1))=⟨Ak9 64 (.int .u8 0)⟩:=by
   apply Array.ext';exact El (.int .u8 0) rfl 64
  rw [hz] at yA
  replace S:=S.Af0 B8 pr yA
  refine⟨_,_,_,rfl,⟨by omega,by omega,by omega⟩,?_⟩;have cw:Rd w8 (Cm a (64*k) c 1) ((l.drop (64*k)).map Ag):=by
   have:=(hr.grown S.below).OY (64*k) l.length c 1 hc;rw [AlK (by simp),Alh,<- List.map_drop] at this;exact this
  rw [Ale];refine S.copy 0 rfl (P:=Tryz.prog) (elem:=5) (dLen:=64) (by kernel_rfl) (by kernel_rfl) (a:=Cm a (64*k) c 1) (xs:=(l.drop (64*k)).map Ag) (by simp) (by simp) cw (XW _) λ w9 _ S=>?_;have eb:(⟨((l.drop (64*k)).map Ag).take 64++(Ak9 64 (Value.int .u8 0)).drop (min (l.length-64*k) 64)⟩:Array Value)=⟨(Ni l (64*k)).map Ag⟩:=by
   rw [List.drop_replicate];simp only [Ni,XF,List.map_append,List.map_replicate,List.map_take];rfl
  replace S:=eb ▸ S
  have ele:D3 l (64*k)<=l.length:=by unfold D3;omega
  have ee:IntKind.i64.wrap (((64*k:Nat):Int)+((min (l.length-64*k) 64:Nat):Int))=((D3 l (64*k):Nat):Int):=by
   unfold D3;rw [wrap_i64 (by omega) (by omega)];omega
  have eu:IntKind.u64.wrap ((D3 l (64*k):Nat):Int)=((D3 l (64*k):Nat):Int):=by
   rw [Aj (by omega) (by omega)]
  have th:(((D3 l (64*k):Nat):Int)==((l.length:Nat):Int))=(D3 l (64*k)==l.length):=by
   rw [AlJ];simp;omega
  refine⟨_,rfl,Dd (Gn l k) bD (Rd.Ak (S.get 1 rfl)) ?_⟩;rw [ee,eu,th];refine (Af2 (Gn l k) bD (c:=64) (Ni l (64*k)) (QQ _ _) (Rd.Ak (S.get 0 rfl)) (D3 l (64*k)) (by omega) _).mono ?_;rintro _ bV ⟨_,rfl,rfl,bp⟩;have bn:=Jm l (k+1);rw [Gn] at bn;refine O3 _ bn ⟨rfl,Ds (by rw [Alr];exact bn) ?_⟩;refine (S.grown bp).Er 1 rfl (by simp only [Alr,bn,List.size_toArray,bD]) (IZ _) λ aY _ S=>?_
  replace S:=S.drop 1
  change SH (λ _=>False) w aY [(b5,⟨(Gn l (k+1)).map wV⟩,185),(bw,⟨Ca.map wV⟩,184),(b2,⟨Ak9 32 (.int .u8 0)⟩,142)] at S;refine Aq (λ gj=>?_) (λ gj=>?_)
  ·have kf:D3 l (64*k)=l.length:=by simpa using gj
   have rp:AgS l=k+1:=by
    unfold AgS;unfold D3 at kf;omega
   have je:=Jm l (k+1);refine S.An λ ju bK _ _ S=>?_;refine⟨λ st w'=>∃ i:Nat,st=[.int .i64 (i:Int)]/\i<=32/\SH (λ _=>False) w w' [(ju,⟨(Ro (Gn l (k+1)) i).map Ag⟩,142),(b5,⟨(Gn l (k+1)).map wV⟩,185),(bw,⟨Ca.map wV⟩,184),(b2,⟨Ak9 32 (.int .u8 0)⟩,142)],
    λ st _=>match st with | [.int _ t]=>(32-t).toNat | _=>0,⟨0,rfl,by omega,S⟩,?_⟩
   rintro t al ⟨i,aA,hi,S⟩;cases MR aA;have cE:=PJ (Gn l (k+1)) i;refine Aa (λ aB=>?_) (λ aI=>?_)
   ·have de:i<32:=by omega
    rw [Ad5 i (by omega),Ad6 i (by omega)];refine⟨⟨by omega,by omega⟩,_,S.wd 1 rfl (by omega) (Ale _),by omega,⟨by omega,aB⟩,?_⟩;rw [Ale,Xf _ _ (by omega)];refine S.AiF 0 rfl (by omega) (Ale _) λ ah S=>?_;rw [Ae (by omega)];exact⟨⟨i+1,rfl,by omega,S⟩,by show (32-((i+1:Nat):Int)).toNat<(32-(i:Int)).toNat;omega⟩
   ·have de:i=32:=by omega
    have ax:((Ro (Gn l (k+1)) i).map Ag).length=32:=by rw [Alr];exact cE
    refine Hz (Ro (Gn l (k+1)) i) cE (Rd.Ak (S.get 0 rfl)) (Ds ax ?_);refine S.Er 3 rfl ax (XW _) λ an _ S=>?_;refine Hz (Ro (Gn l (k+1)) i) cE (Rd.Ak (S.get 3 rfl)) ⟨?_,S.below⟩;unfold IE;rw [rp,de]
  ·have kf:D3 l (64*k)≠l.length:=by simpa using gj
   have mq:D3 l (64*k)=64*(k+1):=by
    unfold D3 at kf ⊢;omega
   rw [mq];exact⟨⟨k+1,rfl,by omega,S⟩,by show ((l.length:Int)+64-((64*(k+1):Nat):Int)).toNat<((l.length:Int)+64-((64*k:Nat):Int)).toNat;omega⟩
def AjY:ByteArray:=⟨#[48,49,50,51,52,53,54,55,56,57,97,98,99,100,101,102]⟩
def Agv(c:UInt8):List UInt8:=[Aw AjY (c.toNat / 16),Aw AjY (c.toNat % 16)]
def Tj(d:List UInt8):List UInt8:=d.flatMap Agv
theorem UP(d:List UInt8):(Tj d).length=2*d.length:=by
 induction d with
 | nil=>rfl
 | cons c d ih=>simp [Tj,Agv] at ih ⊢;omega
theorem W4(d:List UInt8)(i:Nat)(h:i<d.length):Tj (d.take (i+1))=Tj (d.take i)++Agv (d.getD i 0):=by
 unfold Tj;rw [List.take_succ_eq_append_getElem h,List.flatMap_append];simp [h]
theorem AjL:∀ c:UInt8,IntKind.u8.wrap (((AkK 8 (c.toNat:Int) &&& AkK 8 15).toNat:Int))=((c.toNat % 16:Nat):Int):=by
 intro c;have h:=c.toNat_lt;have e:(AkK 8 (c.toNat:Int) &&& AkK 8 15).toNat=c.toNat % 16:=by
  rw [BitVec.toNat_and,BitVec.ofInt_natCast,BitVec.toNat_ofNat,Nat.mod_eq_of_lt (by omega),show (AkK 8 15).toNat=2 ^ 4-1 by rfl,Nat.and_two_pow_sub_one_eq_mod]
 rw [e,AE (by omega) (by omega)]
theorem AkD(c:UInt8):Int.fdiv (c.toNat:Int) (2 ^ (min 4 8))=((c.toNat / 16:Nat):Int):=by
 rw [show (2:Int) ^ (min 4 8)=16 by rfl,Int.fdiv_eq_ediv_of_nonneg _ (by omega)];omega
theorem Z9(d:List UInt8)(hd:d.length=32)(w:World) :
  Calls Tryz.prog f.Agt #[.agg ⟨d.map Ag⟩] w (AG λ v w'=>v=.string (BC (Tj d))/\Below w.heap.size w w'):=by
 apply R.UN
 delta R.A R.B R.D R.F R.I R.J R.Ks R.N R.O R.EM R.Rt R.S R.T R.W R.Wb R.X;try dsimp only [R.Ps]
 refine (SH.start (λ _=>False) w).An λ b2 w1 _ B1 S=>Hz d hd (Rd.Ak (S.get 0 rfl)) ?_;refine⟨λ s w'=>∃(i:Nat) (a:Option Addr) (c:Nat),s=[.slice a (Tj (d.take i)).length c,.int .i64 (i:Int)]/\i<=32/\Bm w1 w' (Tj (d.take i)) a c,
  λ s _=>match s with | [_,.int _ t]=>(32-t).toNat | _=>0,⟨0,none,0,rfl,by omega,Row.nil _ _ _,by simp [AD],.refl _ _⟩,?_⟩
 rintro _ _ c _ w2 ⟨i,a,_,hs,hi,h1⟩;cases hs;refine Aa (λ aB=>⟨⟨by omega,aB⟩,?_⟩) (λ aI=>?_)
 ·have de:i<32:=by omega
  have hx:=(d.getD i 0).toNat_lt;refine⟨((d.getD i 0).toNat:Int),?_,?_⟩
  ·rw [Ale,Alh];simp [hd,de,Ag]
  ·rw [AjL,AkD,Ale,Ale];refine (SH.start (λ _=>False) w2).E5 λ w4 B4 S4=>⟨⟨by omega,?_⟩,⟨by omega,?_⟩,S4.An λ dJ w5 _ B5 S5=>?_⟩
   ·show (((d.getD i 0).toNat / 16:Nat):Int)<16;omega
   ·show (((d.getD i 0).toNat % 16:Nat):Int)<16;omega
   have h5:=(h1.grown B4).grown B5;have hl:=UP (d.take i);rw [List.length_take] at hl;refine A8 h5.row (m:=Agv (d.getD i 0)) (b:=some ⟨dJ,0,none⟩) (mc:=2) (Rd.Ak (S5.get 0 rfl)) (by show _+2<=_;omega) λ a' c' w6 R6 K6 N6=>⟨_,_,_,rfl,?_⟩;rw [<- W4 d i (by omega)] at R6 ⊢;rw [Ae (by omega)];refine⟨⟨i+1,a',c',rfl,by omega,R6,λ k hk=>?_,h5.Ar.trans (K6.below h5.Ar.size λ k hk he=>by have:=h5.new k he;omega)⟩,by show (32-((i+1:Nat):Int)).toNat<(32-(i:Int)).toNat;omega⟩;rcases N6 k hk with h | h
   ·exact h5.new k h
   ·exact Als h5.Ar.size h
 ·have de:i=32:=by omega
  have ht:d.take i=d:=by rw [AlK (by omega)]
  rw [ht] at h1 ⊢;exact Ax (by kernel_rfl) rfl h1.rd ⟨_,rfl,rfl,Ac B1 h1.Ar⟩
theorem Ajl(c:UInt8):IntKind.u8.wrap (Int.tdiv (c.toNat:Int) 16)=((c.toNat / 16:Nat):Int):=by
 have:=c.toNat_lt;rw [Int.tdiv_eq_ediv_of_nonneg (by omega),AE (by omega) (by omega)];omega
theorem Ajm(c:UInt8):Int.tmod (c.toNat:Int) 16=((c.toNat % 16:Nat):Int):=by
 rw [Int.tmod_eq_emod_of_nonneg (by omega)];omega
theorem YE(d:List UInt8)(hd:d.length=32)(w:World) :
  Calls Tryz.prog f.Afi #[.agg ⟨d.map Ag⟩] w (AG λ v w'=>v=.string (BC (Tj d))/\Below w.heap.size w w'):=by
 apply R.Tv
 delta R.A R.B R.D R.F R.I R.J R.Ks R.Ly R.N R.O R.EM R.Rt R.S R.T R.W R.Wb R.X;try dsimp only [R.Ps]
 refine (SH.start (λ _=>False) w).An λ b2 w1 _ B1 S=>?_;refine⟨λ s w'=>∃(i:Nat) (a:Option Addr) (c:Nat),s=[.slice a (Tj (d.take i)).length c,.int .i64 (i:Int)]/\i<=32/\Bm w1 w' (Tj (d.take i)) a c,
  λ s _=>match s with | [_,.int _ t]=>(32-t).toNat | _=>0,⟨0,none,0,rfl,by omega,Row.nil _ _ _,by simp [AD],.refl _ _⟩,?_⟩
 rintro _ _ c _ w2 ⟨i,a,_,hs,hi,h1⟩;cases hs;refine Aa (λ aB=>?_) (λ aI=>?_)
 ·have de:i<32:=by omega
  have hx:=(d.getD i 0).toNat_lt;refine (SH.start (λ _=>False) w2).E5 λ w4 B4 S4=>?_;have db:w4.cell? ((⟨b2,0,none⟩:Addr).add ((i:Int).toNat*1))=some (.int .u8 ((d.getD i 0).toNat:Int)):=by
   rw [Ale,Ay,Nat.zero_add,Alh];refine ((S.grown h1.Ar).grown B4).cell 0 rfl ?_;simp [hd,de,Ag]
  refine⟨⟨by omega,aB⟩,⟨by omega,aB⟩,_,db,?_⟩;rw [Ajl];refine⟨⟨by omega,?_⟩,_,db,?_⟩
  ·show (((d.getD i 0).toNat / 16:Nat):Int)<16;omega
  rw [Ajm,Ale,Ale];refine⟨⟨by omega,?_⟩,S4.An λ dJ w5 _ B5 S5=>?_⟩
  ·show (((d.getD i 0).toNat % 16:Nat):Int)<16;omega
  have h5:=(h1.grown B4).grown B5;have hl:=UP (d.take i);rw [List.length_take] at hl;refine A8 h5.row (m:=Agv (d.getD i 0)) (b:=some ⟨dJ,0,none⟩) (mc:=2) (Rd.Ak (S5.get 0 rfl)) (by show _+2<=_;omega) λ a' c' w6 R6 K6 N6=>⟨_,_,_,rfl,?_⟩;rw [<- W4 d i (by omega)] at R6 ⊢;rw [Ae (by omega)];refine⟨⟨i+1,a',c',rfl,by omega,R6,λ k hk=>?_,h5.Ar.trans (K6.below h5.Ar.size λ k hk he=>by have:=h5.new k he;omega)⟩,by show (32-((i+1:Nat):Int)).toNat<(32-(i:Int)).toNat;omega⟩;rcases N6 k hk with h | h
  ·exact h5.new k h
  ·exact Als h5.Ar.size h
 ·have de:i=32:=by omega
  have ht:d.take i=d:=by rw [AlK (by omega)]
  rw [ht] at h1 ⊢;exact Ax (by kernel_rfl) rfl h1.rd ⟨_,rfl,rfl,Ac B1 h1.Ar⟩
theorem FU(l:List UInt8):(IE l).length=32:=PJ _ _
def U1(c:UInt8):Bool:=decide (97<=c.toNat) && decide (c.toNat<=122)
def Yw(c:UInt8):Bool:=(decide (48<=c.toNat) && decide (c.toNat<=57)) || c.toNat==95
def nameAt(s:ByteArray)(i:Nat):Bool:=U1 (Aw s i) || (Yw (Aw s i) && i != 0)
def Fw(s:ByteArray):Bool:=(AlL s.size).all (nameAt s) && decide (1<=s.size) && decide (s.size<=24)
theorem Tz(s:ByteArray)(hs:s.size<=9223372036854775807)(w:World):Calls Tryz.prog f.YG #[.string s] w (AG λ r w'=>r=.bool (Fw s)/\w'=w):=by
 apply R.Oh
 delta R.F R.G R.I R.Qi R.W R.X R.Zb;try dsimp only [R.Ps]
 refine⟨λ st w'=>∃ i:Nat,st=[.int .i64 (i:Int)]/\i<=s.size/\(∀ j,j<i->nameAt s j=true)/\w'=w,
  λ st _=>match st with | [.int _ t]=>((s.size:Int)-t).toNat | _=>0,⟨0,rfl,by omega,λ j hj=>by omega,rfl⟩,?_⟩
 rintro t w1 ⟨i,aA,hi,aF,rfl⟩;cases MR aA;refine Aa (λ aB=>?_) (λ aI=>?_)
 ·have hb:(0:Int)<=(i:Int)/\(i:Int)<(s.size:Int):=⟨by omega,aB⟩;rw [Ale];refine⟨λ st w'=>st=[.bool (U1 (Aw s i))]/\w'=w1,⟨hb,Aa (λ h=>⟨hb,?_⟩) (λ h=>?_)⟩,?_⟩
  ·have u0:97<=(Aw s i).toNat:=by omega
   refine⟨?_,rfl⟩;congr 2;rw [AlJ];simp [U1,u0];omega
  ·have u0:¬ 97<=(Aw s i).toNat:=by omega
   refine⟨?_,rfl⟩;simp [U1,u0]
  ·rintro letter w2 ⟨hl,rfl⟩;have hle:letter=U1 (Aw s i):=by simpa using hl
   subst hle;refine⟨λ st w'=>st=[.bool (Yw (Aw s i))]/\w'=w2,⟨hb,Aa (λ h=>⟨hb,Aa (λ h2=>?_) (λ h2=>⟨hb,?_⟩)⟩) (λ h=>⟨hb,?_⟩)⟩,?_⟩
   ·have tu:48<=(Aw s i).toNat:=by omega
    have tw:(Aw s i).toNat<=57:=by omega
    refine⟨?_,rfl⟩;simp [Yw,tu,tw]
   ·have tw:¬ (Aw s i).toNat<=57:=by omega
    refine⟨?_,rfl⟩;congr 2;rw [AlJ];simp [Yw,tw];omega
   ·have tu:¬ 48<=(Aw s i).toNat:=by omega
    refine⟨?_,rfl⟩;congr 2;rw [AlJ];simp [Yw,tu];omega
   ·rintro other w3 ⟨ho,rfl⟩;have hoe:other=Yw (Aw s i):=by simpa using ho
    subst hoe;have aP:nameAt s i=false->Fw s=false:=by
     intro h;have:(AlL s.size).all (nameAt s)=false:=by
      rw [List.all_eq_false];exact⟨i,List.mem_range.2 (by omega),by simp [h]⟩
     simp [Fw,this]
    have ae:nameAt s i=true->(∃ k:Nat,[Value.int .i64 (IntKind.i64.wrap ((i:Int)+1))]=[.int .i64 (k:Int)]/\k<=s.size/\(∀ j,j<k->nameAt s j=true)/\w3=w3) /\
      ((s.size:Int)-IntKind.i64.wrap ((i:Int)+1)).toNat<((s.size:Int)-(i:Int)).toNat:=by
     intro h;rw [Ae (by omega)];refine⟨⟨i+1,rfl,by omega,λ j hj=>?_,rfl⟩,by omega⟩;rcases Nat.lt_or_ge j i with h2 | h2
     ·exact aF j h2
     ·rw [show j=i by omega];exact h
    refine Aq (λ h1=>Aq (λ h2=>?_) (λ h2=>Ao (λ h3=>?_) (λ h3=>?_))) (λ h1=>?_)
    ·exact⟨by rw [aP (by simp_all [nameAt])],rfl⟩
    ·have h0:i=0:=by omega
     exact⟨by rw [aP (by simp_all [nameAt])],rfl⟩
    ·have:i≠0:=by omega
     exact ae (by simp_all [nameAt])
    ·exact ae (by simp_all [nameAt])
 ·have bF:i=s.size:=by omega
  have ha:(AlL s.size).all (nameAt s)=true:=by
   rw [List.all_eq_true];intro j hj;exact aF j (by have:=List.mem_range.1 hj;omega)
  refine Aa (λ h=>⟨?_,rfl⟩) (λ h=>⟨?_,rfl⟩)
  ·have h1:1<=s.size:=by omega
   congr 1;rw [AlJ];simp [Fw,ha,h1];omega
  ·have h1:¬ 1<=s.size:=by omega
   simp [Fw,h1]
end Go.Proofs.YtpnaifmmggnimaaGreatDoor
namespace Go.Proofs
set_option linter.unusedVariables false
set_option maxRecDepth 100000
open Go.Shelf
def Tryz.Aal:Go.Shelf.Ren:=⟨fun | 106=>236 | 213=>263 | 265=>276 | n=>n,fun | 9=>9 | 3=>3 | n=>n,fun | n=>n⟩
theorem Tryz.Ah6:Go.Proofs.Lays.n106 Tryz.prog Tryz.Aal:={
 mixed:=by kernel_rfl
 f106:=Tryz.func236.trans (congrArg some (by kernel_rfl))
 f213:=Tryz.func263.trans (congrArg some (by kernel_rfl))
 f265:=Tryz.func276.trans (congrArg some (by kernel_rfl))
 t3:=Tryz.underlying3
 a3:=Tryz.isAgg3
 z3:=Tryz.sizeOf3
 v3:=Tryz.zeroValue3
 t9:=Tryz.underlying9
 a9:=Tryz.isAgg9
 z9:=Tryz.sizeOf9
 v9:=Tryz.zeroValue9 }
open Go.RowKit in
theorem Tryz.strings_Compare(a b:ByteArray)(w:World) :
  Calls Tryz.prog 236 #[.string a,.string b] w λ e w'=>e=.returned (.int .i64 (Lib.compareBytes a.data.toList b.data.toList))/\w'=w:=Any.strings_Compare Tryz.Ah6 a b w
def Tryz.Aam:Go.Shelf.Ren:=⟨fun | 137=>165 | 217=>203 | 266=>245 | n=>n,fun | 9=>9 | 5=>5 | 3=>3 | n=>n,fun | n=>n⟩
theorem Tryz.Ah7:Go.Proofs.Lays.n137 Tryz.prog Tryz.Aam:={
 mixed:=by kernel_rfl
 f137:=Tryz.func165.trans (congrArg some (by kernel_rfl))
 f217:=Tryz.func203.trans (congrArg some (by kernel_rfl))
 f266:=Tryz.func245.trans (congrArg some (by kernel_rfl))
 t3:=Tryz.underlying3
 a3:=Tryz.isAgg3
 z3:=Tryz.sizeOf3
 v3:=Tryz.zeroValue3
 t5:=Tryz.underlying5
 a5:=Tryz.isAgg5
 z5:=Tryz.sizeOf5
 v5:=Tryz.zeroValue5
 t9:=Tryz.underlying9
 a9:=Tryz.isAgg9
 z9:=Tryz.sizeOf9
 v9:=Tryz.zeroValue9 }
open Go.RowKit in
theorem Tryz.strings_IndexByte(s:ByteArray)(c:Int)(w:World) :
  Calls Tryz.prog 165 #[.string s,.int .u8 c] w λ e w'=>e=.returned (.int .i64 (Lib.indexByte s.data.toList c.toNat.toUInt8))/\w'=w:=Any.strings_IndexByte Tryz.Ah7 s c w
def Tryz.Aan:Go.Shelf.Ren:=⟨fun | 227=>206 | n=>n,fun | 9=>9 | 116=>269 | 4=>4 | 0=>0 | 3=>3 | 5=>5 | n=>n,fun | n=>n⟩
theorem Tryz.Ah8:Go.Proofs.Lays.n227 Tryz.prog Tryz.Aan:={
 mixed:=by kernel_rfl
 f227:=Tryz.func206.trans (congrArg some (by kernel_rfl))
 t0:=Tryz.underlying0
 a0:=Tryz.isAgg0
 z0:=Tryz.sizeOf0
 v0:=Tryz.zeroValue0
 t3:=Tryz.underlying3
 a3:=Tryz.isAgg3
 z3:=Tryz.sizeOf3
 v3:=Tryz.zeroValue3
 t4:=Tryz.underlying4
 a4:=Tryz.isAgg4
 z4:=Tryz.sizeOf4
 v4:=Tryz.zeroValue4
 t5:=Tryz.underlying5
 a5:=Tryz.isAgg5
 z5:=Tryz.sizeOf5
 v5:=Tryz.zeroValue5
 t9:=Tryz.underlying9
 a9:=Tryz.isAgg9
 z9:=Tryz.sizeOf9
 v9:=Tryz.zeroValue9
 t116:=Tryz.underlying269
 a116:=Tryz.isAgg269
 z116:=Tryz.sizeOf269 }
open Go.RowKit Go.Lib in
theorem Tryz.strings_makeASCIISet(qh:∀ w,(zeroValue 269).run Tryz.prog w=.ok (.agg (Array.replicate 256 (.bool false))) w)(chars:ByteArray)(w:World)(hs:chars.size<4294967281)(mT:∀(j:Nat) b,chars.data.toList[j]?=some b->b.toNat<128) :
  Calls Tryz.prog 206 #[.string chars] w λ e w'=>e=.returned (.tuple #[.agg (Lib.setCells chars.data.toList),.bool true])/\w'=w.alloc (.cells (Lib.setCells chars.data.toList) 269):=Any.strings_makeASCIISet Tryz.Ah8 qh (by kernel_rfl) chars w hs mT
def Tryz.Aao:Go.Shelf.Ren:=⟨fun | 228=>246 | n=>n,fun | 124=>273 | 5=>5 | 4=>4 | 0=>0 | 116=>269 | n=>n,fun | n=>n⟩
theorem Tryz.Ah9:Go.Proofs.Lays.n228 Tryz.prog Tryz.Aao:={
 mixed:=by kernel_rfl
 f228:=Tryz.func246.trans (congrArg some (by kernel_rfl))
 t0:=Tryz.underlying0
 a0:=Tryz.isAgg0
 z0:=Tryz.sizeOf0
 v0:=Tryz.zeroValue0
 t4:=Tryz.underlying4
 a4:=Tryz.isAgg4
 z4:=Tryz.sizeOf4
 v4:=Tryz.zeroValue4
 t5:=Tryz.underlying5
 a5:=Tryz.isAgg5
 z5:=Tryz.sizeOf5
 v5:=Tryz.zeroValue5
 t116:=Tryz.underlying269
 a116:=Tryz.isAgg269
 z116:=Tryz.sizeOf269
 t124:=Tryz.underlying273
 a124:=Tryz.isAgg273
 z124:=Tryz.sizeOf273
 v124:=Tryz.zeroValue273 }
open Go.RowKit Go.Lib in
theorem Tryz.asciiSet_contains(b:Nat)(x:UInt8)(v:Bool)(w:World)(hc:w.cell? ⟨b,x.toNat,none⟩=some (.bool v)) :
  Calls Tryz.prog 246 #[.pointer (some ⟨b,0,none⟩),.int .u8 x.toNat] w λ e w'=>e=.returned (.bool v)/\w'=w:=Any.asciiSet_contains Tryz.Ah9 b x v w hc
end Go.Proofs
namespace Go.Proofs.YtpnaifmmggnimaaGreatDoor
open _root_.Bool renaming and_eq_true -> AkM
open _root_.List renaming all_eq_true -> AlM, eq_nil_of_length_eq_zero -> Ak3
set_option maxRecDepth 100000
open Go.Dn Go.Proofs
open Go.RowKit (Below)
set_option linter.unusedVariables false
theorem Zd(mem:UInt8->Bool){w:World}{b:Nat}(hc:∀ x:UInt8,w.cell? ⟨b,x.toNat,none⟩=some (.bool (mem x)))(s:ByteArray)(hs:s.size<=9223372036854775807) :
  Calls Tryz.prog f.J5 #[.string s,.pointer (some ⟨b,0,none⟩)] w (AG λ r w'=>∃ l m,r=.string (BC l)/\bl s=l++m/\m.all mem=true/\(l=[]\/∃ p c,l=p++[c]/\mem c=false)/\w'=w):=by
 apply R.G8
 delta R.B R.Cb R.F R.P R.Qt R.T R.W R.X R.Y;try dsimp only [R.Ps]
 refine⟨λ st w'=>∃ l m,st=[.string (BC l)]/\bl s=l++m/\m.all mem=true/\w'=w,λ st _=>match st with | [.string t]=>t.size | _=>0,⟨bl s,[],by rw [EJ],by simp,rfl,rfl⟩,?_⟩;rintro t w1 ⟨l,m,aA,hl,hm,rfl⟩;have ht:t=BC l:=by simpa using aA
 subst ht;rw [A1];have hlen:l.length<=9223372036854775807:=by
  have:=congrArg List.length hl;rw [Bb,List.length_append] at this;omega
 refine Aa (λ h=>?_) (λ h=>?_)
 ·have aQ:l≠[]:=by intro h2;subst h2;simp at h
  obtain⟨p,c,rfl⟩:∃ p c,l=p++[c]:=⟨l.dropLast,l.getLast aQ,(List.dropLast_concat_getLast aQ).symm⟩;simp only [List.length_append,List.length_cons,List.length_nil] at h hlen ⊢;have e1:IntKind.i64.wrap (((p.length+(0+1):Nat):Int)-1)=(p.length:Int):=by rw [wrap_i64 (by omega) (by omega)];omega
  rw [e1,Int.toNat_natCast,ME,BN,show (p++[c]).getD p.length 0=c by simp];refine⟨⟨by omega,by omega⟩,(Tryz.asciiSet_contains b c (mem c) w1 (hc c)).mono ?_⟩;rintro _ w2 ⟨rfl,rfl⟩;refine⟨_,rfl,Aq (λ h2=>?_) (λ h2=>?_)⟩
  ·exact⟨p++[c],m,rfl,hl,hm,.inr ⟨p,c,rfl,by simpa using h2⟩,rfl⟩
  ·have vk:mem c=true:=by simpa using h2
   have e2:ByteArray.extract (BC (p++[c])) 0 p.length=BC p:=by
    rw [extract_eq,BN];simp
   refine⟨⟨by omega,by omega,by omega⟩,?_⟩;rw [e2];exact⟨⟨p,c :: m,rfl,by rw [hl];simp,by simp [vk,hm],rfl⟩,by show (BC p).size<(BC (p++[c])).size;rw [A1,A1];simp⟩
 ·have:l=[]:=Ak3 (by omega);exact⟨l,m,rfl,hl,hm,.inl this,rfl⟩
theorem AbC(mem:UInt8->Bool){w:World}{b:Nat}(hc:∀ x:UInt8,w.cell? ⟨b,x.toNat,none⟩=some (.bool (mem x)))(s:ByteArray) :
  Calls Tryz.prog f.KL #[.string s,.pointer (some ⟨b,0,none⟩)] w (AG λ r w'=>∃ l m,r=.string (BC l)/\bl s=m++l/\m.all mem=true/\(l=[]\/∃ c p,l=c :: p/\mem c=false)/\w'=w):=by
 apply R.Ho
 delta R.B R.Cb R.F R.P R.Qt R.T R.X R.Y;try dsimp only [R.Ps]
 refine⟨λ st w'=>∃ l m,st=[.string (BC l)]/\bl s=m++l/\m.all mem=true/\w'=w,λ st _=>match st with | [.string t]=>t.size | _=>0,⟨bl s,[],by rw [EJ],by simp,rfl,rfl⟩,?_⟩;rintro t w1 ⟨l,m,aA,hl,hm,rfl⟩;have ht:t=BC l:=by simpa using aA
 subst ht;rw [A1];refine Aa (λ h=>?_) (λ h=>?_)
 ·cases l with
  | nil=>simp at h
  | cons c p =>
   simp only [List.length_cons] at h ⊢;rw [ME,BN,show (c :: p).getD 0 0=c by rfl];refine⟨⟨by omega,by omega⟩,(Tryz.asciiSet_contains b c (mem c) w1 (hc c)).mono ?_⟩;rintro _ w2 ⟨rfl,rfl⟩;refine⟨_,rfl,Aq (λ h2=>?_) (λ h2=>?_)⟩
   ·exact⟨c :: p,m,rfl,hl,hm,.inr ⟨c,p,rfl,by simpa using h2⟩,rfl⟩
   ·have vk:mem c=true:=by simpa using h2
    have e2:ByteArray.extract (BC (c :: p)) 1 (p.length+1)=BC p:=by
     rw [extract_eq,BN];simp
    refine⟨⟨by omega,by omega,by omega⟩,?_⟩;rw [e2];exact⟨⟨p,m++[c],rfl,by rw [hl];simp,by simp [vk,hm],rfl⟩,by show (BC p).size<(BC (c :: p)).size;rw [A1,A1];simp⟩
 ·have:l=[]:=Ak3 (by omega);exact⟨l,m,rfl,hl,hm,.inl this,rfl⟩
theorem Sg:∀(us:List Bool) {n:Nat} {f:List Value->Prop},us.length=n->f (us.map .bool)->FC (List.replicate n (.bool false)) f
 | [],_,_,hn,h=>by subst hn;exact h
 | u :: us,_,_,hn,h=>by subst hn;exact⟨u,Sg us rfl h⟩
def Abn(l:List UInt8):List Bool:=(List.range 256).map λ j=>l.contains (UInt8.ofNat j)
theorem Vu(l:List UInt8):Lib.setCells l=⟨(Abn l).map .bool⟩:=by
 rw [Lib.setCells_eq];apply Array.ext';simp [Abn,List.map_map,Function.comp_def]
theorem TP(s cut:ByteArray)(hs:s.size<=9223372036854775807)(h2:2<=cut.size)(hz:cut.size<4294967281)(ha:∀(j:Nat) b,cut.data.toList[j]?=some b->b.toNat<128)(w:World) :
  Calls Tryz.prog f.Za #[.string s,.string cut] w (AG λ r w'=>∃ q,r=.string q/\(q=⟨#[]⟩↔(bl s).all (bl cut).contains=true)/\Below w.heap.size w w'):=by
 apply R.OR
 delta R.A R.B R.Ct R.D R.F R.G R.H R.J R.P R.T R.X R.Zb;try dsimp only [R.Ps]
 have he:∀ x:ByteArray,AY x ⟨#[]⟩=true->x=⟨#[]⟩:=λ x h=>by rw [A0] at h;simpa using h
 refine Aq (λ h=>?_) (λ h0=>Aq (λ h=>?_) (λ h1=>?_))
 ·have:=he s h;subst this;exact⟨_,rfl,by simp [bl],.refl _ _⟩
 ·have:=he cut h;subst this;exact absurd h2 (by decide)
 ·refine⟨λ st w'=>st=[.bool false]/\w'=w,Ao (λ h=>by omega) (λ _=>⟨rfl,rfl⟩),?_⟩;rintro t w1 ⟨ht,rfl⟩;have:t=false:=by simpa using ht
  subst this;refine AV ((Tryz.strings_makeASCIISet (λ _=>by kernel_rfl) cut w1 hz ha).mono ?_);rintro _ w5 ⟨rfl,rfl⟩;rw [Vu];have au:(Abn cut.data.toList).length=256:=by simp [Abn]
  refine Sg (Abn cut.data.toList) au ⟨true,rfl,?_⟩;have B0:Below w1.heap.size w1 (w1.alloc (.cells ⟨(Abn cut.data.toList).map .bool⟩ ty.RZ)):=(Below.refl _ w1).alloc (Nat.le_refl _) _;have S0:=(SH.start (λ _=>False) w1).grown B0;have h1:∀ v∈(Abn cut.data.toList).map Value.bool,v.oneCell'=true:=by
   intro v hv;obtain⟨u,_,rfl⟩:=List.mem_map.1 hv;rfl
  have ax:((Abn cut.data.toList).map Value.bool).length=256:=by rw [List.length_map];exact au
  refine S0.An λ dk w6 _ _ S=>Ds ax (S.Er 0 rfl ax h1 λ w7 _ S=>CN ?_);have hc:∀ x:UInt8,w7.cell? ⟨dk,x.toNat,none⟩=some (.bool ((bl cut).contains x)):=λ x=>S.cell 0 rfl (by
   rw [<- Vu];exact Lib.setCells_at _ _)
  refine (Zd (bl cut).contains hc s hs).mono ?_;rintro _ w8 ⟨_,rfl,l,m,rfl,hl,hm,gj,rfl⟩;refine⟨_,rfl,(AbC (bl cut).contains hc (BC l)).mono ?_⟩;rintro _ w9 ⟨_,rfl,q,p,rfl,hq,hp,my,rfl⟩;refine⟨_,rfl,_,rfl,?_,S.below⟩;rw [BN] at hq;rw [hl,hq,List.all_append,List.all_append,hm,hp];rcases my with rfl | ⟨c,r,rfl,hcf⟩
  ·simp [BC]
  ·simp [BC];intro iT;simp_all
theorem ZL{p:UInt8->Bool}(h:(List.range 256).all (λ n=>p (UInt8.ofNat n))=true)(c:UInt8):p c=true:=by
 have:=AlM.1 h c.toNat (List.mem_range.2 c.toNat_lt);simpa using this
def U2:ByteArray:=⟨#[97,98,99,100,101,102,103,104,105,106,107,108,109,110,111,112,113,114,115,116,117,118,119,120,121,122]⟩
def T4:ByteArray:=⟨#[97,98,99,100,101,102,103,104,105,106,107,108,109,110,111,112,113,114,115,116,117,118,119,120,121,122,48,49,50,51,52,53,54,55,56,57,95]⟩
theorem Aib(c:UInt8):decide (Lib.indexByte U2.data.toList c>=0)=U1 c:=by
 have:=ZL (p:=λ c=>decide (Lib.indexByte U2.data.toList c>=0)==U1 c) (by kernel_rfl) c;simpa using this
theorem Ail(c:UInt8):(bl T4).contains c=(U1 c || Yw c):=by
 have:=ZL (p:=λ c=>(bl T4).contains c==(U1 c || Yw c)) (by kernel_rfl) c;simpa using this
theorem W8{s:ByteArray}(h1:1<=s.size)(h2:s.size<=24):Fw s=(U1 (Aw s 0) && (bl s).all λ c=>U1 c || Yw c):=by
 have hl:(bl s).length=s.size:=Bb s;have he:∀ i (hi:i<(bl s).length),Aw s i=(bl s)[i]:=λ i hi=>by rw [ME];simp [List.getD,hi]
 rw [Bool.eq_iff_iff];simp only [Fw,AkM,AlM,List.mem_range,decide_eq_true_eq,h1,h2,and_true];constructor
 ·intro h;refine⟨?_,λ c hc=>?_⟩
  ·have:=h 0 (by omega);simpa [nameAt] using this
  ·obtain⟨i,hi,rfl⟩:=List.getElem_of_mem hc;have:=h i (by omega);rw [nameAt,he i hi] at this;simp only [Bool.or_eq_true,AkM] at this ⊢;rcases this with h | h
   ·exact .inl h
   ·exact .inr h.1
 ·rintro⟨h0,h⟩ i hi;have yG:i<(bl s).length:=by omega
  have:=h _ (List.getElem_mem yG);rw [nameAt];by_cases hz:i=0
  ·subst hz;simp [h0]
  ·rw [he i yG];simp only [Bool.or_eq_true,AkM] at this ⊢;rcases this with h | h
   ·exact .inl h
   ·exact .inr ⟨h,by simpa using hz⟩
theorem RW(s:ByteArray)(hs:s.size<=9223372036854775807)(w:World):Calls Tryz.prog f.Wp #[.string s] w (AG λ r w'=>r=.bool (Fw s)/\Below w.heap.size w w'):=by
 apply R.M3
 delta R.B R.Ci R.Ct R.F R.G R.T R.X;try dsimp only [R.Ps]
 refine As (Aq (λ h=>?_) (λ h0=>?_))
 ·rw [A0] at h;have:s=⟨#[]⟩:=by simpa using h
  subst this;exact⟨rfl,.refl _ _⟩
 rw [A0] at h0;have aQ:s≠⟨#[]⟩:=by simpa using h0
 have h1:1<=s.size:=by
  rcases Nat.eq_zero_or_pos s.size with h | h
  ·exact absurd (QP (by rw [Ak3 ((Bb s).trans h)];rfl)) aQ
  ·exact h
 refine Aa (λ h2=>?_) (λ h2=>⟨?_,.refl _ _⟩)
 case refine_2 =>
  have bW:¬ s.size<=24:=by omega
  simp [Fw,bW]
 have bW:s.size<=24:=by omega
 have hb:=(Aw s 0).toNat_lt;refine⟨⟨by omega,by omega⟩,(Tryz.strings_IndexByte U2 ((Aw s 0).toNat:Int) w).mono ?_⟩;rintro _ w1 ⟨rfl,rfl⟩;refine⟨_,rfl,?_⟩;have e:((Aw s 0).toNat:Int).toNat.toUInt8=Aw s 0:=by simp
 rw [e,Aib];refine Aq (λ h3=>?_) (λ h3=>⟨?_,.refl _ _⟩)
 ·refine (TP s T4 hs (by decide) (by decide) ?_ w1).mono ?_
  ·intro j b hj;have h:T4.data.toList.all (λ b=>decide (b.toNat<128))=true:=by decide
   exact of_decide_eq_true (AlM.1 h b (List.mem_of_getElem? hj))
  rintro _ w2 ⟨_,rfl,q,rfl,hq,B⟩;refine⟨_,rfl,?_,B⟩;congr 1;rw [A0,W8 h1 bW,h3,Bool.true_and,Bool.eq_iff_iff,decide_eq_true_eq,hq];simp only [AlM,Ail]
 ·rw [W8 h1 bW,h3,Bool.false_and]
end Go.Proofs.YtpnaifmmggnimaaGreatDoor
namespace Go.Dn
set_option linter.unusedVariables false
set_option maxRecDepth 100000
def Good(P:Program)(w:World):Nat->TypeId->List Value->Prop
 | 0,_,_=>False
 | n+1,t,cs =>
  match P.underlying t with
  | some .bool=>∃ b,cs=[.bool b]
  | some (.int k)=>∃ x,cs=[.int k x]/\(Lit.int k x).wf=true
  | some .string=>∃ s:ByteArray,cs=[.string s]/\s.size<=maxLen
  | some (.slice e)=>∃ a len cap,cs=[.slice a len cap]/\len<=cap/\cap<=maxLen/\(a=none->cap=0) /\
    ∃ rows:List (List Value),rows.length=len/\Rd w a rows.flatten/\∀ r∈rows,r.length=P.cellsOf e/\Good P w n e r
  | some (.struct fs)=>cs.length=P.cellsOf t/\∀ f∈fs.toList,Good P w n f.type ((cs.drop f.offset).take (P.cellsOf f.type))
  | _=>True
section
variable {P:Program}{w:World}
theorem Good.bool{n:Nat}{t:TypeId}{cs:List Value}(h:Good P w n t cs)(ht:P.underlying t=some .bool):∃ b,cs=[.bool b]:=by
 cases n with
 | zero=>exact h.elim
 | succ n=>unfold Good at h;rw [ht] at h;exact h
theorem Good.int{n:Nat}{t:TypeId}{cs:List Value}{k:IntKind}(h:Good P w n t cs)(ht:P.underlying t=some (.int k)):∃ x,cs=[.int k x]/\(Lit.int k x).wf=true:=by
 cases n with
 | zero=>exact h.elim
 | succ n=>unfold Good at h;rw [ht] at h;exact h
theorem Good.str{n:Nat}{t:TypeId}{cs:List Value}(h:Good P w n t cs)(ht:P.underlying t=some .string):∃ s:ByteArray,cs=[.string s]/\s.size<=maxLen:=by
 cases n with
 | zero=>exact h.elim
 | succ n=>unfold Good at h;rw [ht] at h;exact h
theorem Good.slice{n:Nat}{t e:TypeId}{cs:List Value}(h:Good P w n t cs)(ht:P.underlying t=some (.slice e)):∃ a len cap,cs=[.slice a len cap]/\len<=cap/\cap<=maxLen/\(a=none->cap=0) /\
    ∃(m:Nat) (rows:List (List Value)),rows.length=len/\Rd w a rows.flatten/\∀ r∈rows,r.length=P.cellsOf e/\Good P w m e r:=by
 cases n with
 | zero=>exact h.elim
 | succ n =>
  unfold Good at h;rw [ht] at h;obtain⟨a,len,cap,h1,h2,h3,h4,rows,h5⟩:=h;exact⟨a,len,cap,h1,h2,h3,h4,n,rows,h5⟩
theorem Good.struct{n:Nat}{t:TypeId}{cs:List Value}{fs:Array Field}(h:Good P w n t cs)(ht:P.underlying t=some (.struct fs)) :
  cs.length=P.cellsOf t/\∃ m,∀ f∈fs.toList,Good P w m f.type ((cs.drop f.offset).take (P.cellsOf f.type)):=by
 cases n with
 | zero=>exact h.elim
 | succ n =>
  unfold Good at h;rw [ht] at h;exact⟨h.1,n,h.2⟩
def Pu(P:Program)(t:TypeId):Option (List (TypeId × Nat)) :=
 match P.underlying t with
 | some (.struct fs)=>some (fs.toList.map λ f=>(f.type,f.offset))
 | _=>none
theorem Good.fields{n:Nat}{t:TypeId}{cs:List Value}{l:List (TypeId × Nat)}(h:Good P w n t cs)(ht:Pu P t=some l) :
  cs.length=P.cellsOf t/\∃ m,∀ x∈l,Good P w m x.1 ((cs.drop x.2).take (P.cellsOf x.1)):=by
 unfold Pu at ht;split at ht
 ·rename_i fs hu;obtain⟨h1,m,h2⟩:=h.struct hu;cases ht;refine⟨h1,m,λ x hx=>?_⟩;obtain⟨f,hf,rfl⟩:=List.mem_map.1 hx;exact h2 f hf
 ·cases ht
theorem Sm(sz:Nat):∀(rows:List (List Value)),(∀ r∈rows,r.length=sz)->∀ j v,rows.flatten[j]?=some v->0<sz/\j / sz<rows.length/\∃ r,rows[j / sz]?=some r/\r[j % sz]?=some v
 | [],_,j,v,h=>by simp at h
 | r :: rows,hl,j,v,h=>by
  have hr:r.length=sz:=hl r (by simp);rw [List.flatten_cons] at h;by_cases hj:j<sz
  ·rw [List.getElem?_append_left (by omega)] at h;refine⟨by omega,by rw [Nat.div_eq_of_lt hj];simp,r,by rw [Nat.div_eq_of_lt hj];rfl,by rw [Nat.mod_eq_of_lt hj];exact h⟩
  ·rw [List.getElem?_append_right (by omega),hr] at h;obtain⟨h0,h1,r',h2,h3⟩:=Sm sz rows (λ r hr=>hl r (by simp [hr])) (j-sz) v h;have e:j / sz=(j-sz) / sz+1:=by
    have:=Nat.add_div_right (j-sz) h0;rw [show j-sz+sz=j by omega] at this;exact this
   have e2:j % sz=(j-sz) % sz:=Nat.mod_eq_sub_mod (by omega);refine⟨h0,by rw [e];simp;exact h1,r',by rw [e];simpa using h2,by rw [e2];exact h3⟩
theorem JD{H:Type}{enc:TypeId × Value->H}{spare:Nat->Bool}{held:Bool}{base:Nat}:∀(n:Nat) (t:TypeId) (cs:List Value) (x:DataW H × List MemPlace),DataW.trod enc P w base spare held n t cs=some x->Good P w n t cs
 | 0,_,_,_,h=>by simp [DataW.trod] at h
 | n+1,t,cs,x,h=>by
  unfold Good;split
  ·rename_i ht;obtain⟨b,rfl,_⟩:=DataW.trod_bool ht h;exact⟨b,rfl⟩
  ·rename_i k ht;obtain⟨z,rfl,_,hw⟩:=DataW.trod_int ht h;exact⟨z,rfl,hw⟩
  ·rename_i ht;obtain⟨s,rfl,_,hw⟩:=DataW.trod_string ht h;exact⟨s,rfl,hw⟩
  ·rename_i e ht;rcases DataW.trod_slice ht h with ⟨rfl,_⟩ | ⟨a,len,cap,elems,rest,m,hn,rfl,_,hb,hl,hm,hlen,hel,_,_⟩
   ·exact⟨none,0,0,rfl,Nat.le_refl _,Nat.zero_le _,λ _=>rfl,[],rfl,Rd.nil _ _,by simp⟩
   ·have bz:n=m:=by omega
    subst bz;have hx:∀ i,i<len->∃ aC:List Value,w.cells? base (a.add (i*P.cellsOf e)) (P.cellsOf e)=some aC/\Good P w n e aC:=by
     intro i hi;have:=hel i hi;rw [List.getElem?_eq_getElem (by omega)] at this;obtain⟨aC,h1,h2⟩:=Option.bind_eq_some_iff.1 this;exact⟨aC,h1,JD n e aC _ h2⟩
    obtain⟨V,hV⟩:=Deep.choose_lt (α:=List Value) hx;have cL:∀ r∈(List.range len).map V,r.length=P.cellsOf e/\Good P w n e r:=by
     intro r hr;obtain⟨i,hi,rfl⟩:=List.mem_map.1 hr;have:=hV i (by simpa using hi);exact⟨(World.cells?_some this.1).2.1,this.2⟩
    refine⟨some a,len,cap,rfl,hl,hm,(λ h=>nomatch h),(List.range len).map V,by simp,?_,cL⟩;intro j v hv;obtain⟨h0,h1,r,h2,h3⟩:=Sm (P.cellsOf e) _ (λ r hr=>(cL r hr).1) j v hv;refine⟨a,rfl,?_⟩;simp only [List.length_map,List.length_range] at h1;simp only [List.getElem?_map,List.getElem?_range h1,Option.map_some,Option.some.injEq] at h2;subst h2;obtain⟨hc,hg⟩:=hV _ h1;have aB:j % P.cellsOf e<P.cellsOf e:=Nat.mod_lt _ h0;have:=(World.cells?_some hc).2.2 _ aB;rw [BH,h3] at this;rw [<- this];congr 2;rw [Nat.mul_comm];exact (Nat.div_add_mod j _).symm
  ·rename_i fs ht;unfold DataW.trod at h;rw [ht] at h;simp only at h;split at h
   ·rename_i hlen;refine⟨hlen,λ f hf=>?_⟩;obtain⟨xs,bP,_⟩:=Option.map_eq_some_iff.1 h;obtain⟨i,hi⟩:=List.getElem?_of_mem hf;have hl:=mapM_some_length bP;have aB:=(List.getElem?_eq_some_iff.1 hi).1;have hg:=mapM_some_get bP i f hi;rw [List.getElem?_eq_getElem (by omega)] at hg;exact JD n _ _ _ hg
   ·cases h
  ·trivial
theorem Aip{α:Type}{rows:List (List Value)}{g:α->List Value}{q:α->Prop}(h:∀ r∈rows,∃ x,r=g x/\q x):∃ xs:List α,rows=xs.map g/\∀ x∈xs,q x:=by
 induction rows with
 | nil=>exact⟨[],rfl,by simp⟩
 | cons r rows ih =>
  obtain⟨x,rfl,hx⟩:=h r (by simp);obtain⟨xs,rfl,bP⟩:=ih λ r hr=>h r (by simp [hr]);exact⟨x :: xs,rfl,by simpa using ⟨hx,bP⟩⟩
theorem Good.list{α:Type}{n:Nat}{t e:TypeId}{cs:List Value}(h:Good P w n t cs)(ht:P.underlying t=some (.slice e))(g:α->List Value)(q:α->Prop)(hg:∀ m r,r.length=P.cellsOf e->Good P w m e r->∃ x,r=g x/\q x) :
  ∃ a cap,∃ xs:List α,cs=[.slice a xs.length cap]/\xs.length<=cap/\cap<=maxLen/\(a=none->cap=0)/\Rd w a (xs.flatMap g)/\∀ x∈xs,q x:=by
 obtain⟨a,len,cap,rfl,h1,h2,h3,m,rows,rfl,hr,hrs⟩:=h.slice ht;obtain⟨xs,rfl,hq⟩:=Aip (λ r hr=>hg m r (hrs r hr).1 (hrs r hr).2);simp only [List.length_map] at h1 ⊢;exact⟨a,cap,xs,rfl,h1,h2,h3,by rw [List.flatMap_def];exact hr,hq⟩
def GL{α:Type}(w:World)(g:α->List Value)(q:α->Prop)(a:Option Addr)(xs:List α)(c:Nat):Prop :=
 xs.length<=c/\c<=maxLen/\(a=none->c=0)/\Rd w a (xs.flatMap g)/\∀ x∈xs,q x
theorem Good.gl{α:Type}{n:Nat}{t e:TypeId}{a0:Option Addr}{l0 c0:Nat}(h:Good P w n t (Value.slice a0 l0 c0).cells.toList)(ht:P.underlying t=some (.slice e))(g:α->List Value)(q:α->Prop)(hg:∀ m r,r.length=P.cellsOf e->Good P w m e r->∃ x,r=g x/\q x) :
  ∃ xs:List α,l0=xs.length/\GL w g q a0 xs c0:=by
 obtain⟨a,c,xs,he,h1⟩:=h.list ht g q hg;have k6:[Value.slice a0 l0 c0]=[.slice a xs.length c]:=he;simp only [List.cons.injEq,Value.slice.injEq,and_true] at k6;obtain⟨rfl,rfl,rfl⟩:=k6;exact⟨xs,rfl,h1⟩
theorem Agk{α β:Type}(f:α->β):∀ l:List α,(l.flatMap λ x=>[f x])=l.map f
 | []=>rfl
 | x :: l=>by rw [List.flatMap_cons,Agk f l];rfl
end
end Go.Dn
namespace Go.Proofs.YtpnaifmmggnimaaGreatDoor
open _root_.BitVec renaming ofInt -> AkK
open _root_.Prod.mk renaming injEq -> AkO
set_option maxRecDepth 100000
open Go.Dn Go.Proofs
open Go.RowKit (Below)
set_option linter.unusedVariables false
abbrev AB:=Int × Int × ByteArray
def TQ(v:AB):Value:=.agg #[.int .i64 v.1,.int .i64 v.2.1,.string v.2.2]
abbrev E0:ByteArray:=⟨#[]⟩
def AK(v:AB):Bool :=
 if v.1=0 then decide (v.2.1=0/\v.2.2=E0) else if v.1=1 then decide (v.2.2=E0) else if v.1=2 then decide ((v.2.1=0\/v.2.1=1)/\v.2.2=E0) else
 if v.1=3 then decide (v.2.1=0/\v.2.2.size<=1024) else false
theorem Akn(n:Int):n=IntKind.i64.wrap (((AkK 64 n &&& AkK 64 1).toNat:Int))↔(n=0\/n=1):=by
 have h:(AkK 64 n &&& AkK 64 1).toNat=0\/(AkK 64 n &&& AkK 64 1).toNat=1:=by
  rw [BitVec.toNat_and];have h1:(AkK 64 1).toNat=2 ^ 1-1:=by decide
  rw [h1,Nat.and_two_pow_sub_one_eq_mod];omega
 constructor
 ·intro e;rcases h with h | h
  ·rw [h] at e;left;rw [e];decide
  ·rw [h] at e;right;rw [e];decide
 ·rintro (rfl | rfl) <;> decide
theorem EK(w:World)(v:AB):Calls Tryz.prog f.AbK #[TQ v] w (AG λ r w'=>r=.bool (AK v)/\Below w.heap.size w w'):=by
 obtain⟨k,n,s⟩:=v;apply R.Qv
 delta R.A R.Ab R.F R.G R.I R.Li R.Lt R.N R.Am R.T R.W R.Z;try dsimp only [R.Ps]
 refine (SH.start (λ _=>False) w).An λ b4 w1 jy B1 S1=>⟨_,S1.cell 0 rfl rfl,S1.II λ b6 w5 kb B5 S5=>?_⟩;refine⟨λ _ w9=>∃ p:AB,SH (λ _=>False) w w9 [(b6,#[.int .i64 p.1,.int .i64 p.2.1,.string p.2.2],ty.AW),(b4,#[.int .i64 k,.int .i64 n,.string s],ty.AW)]/\p.1=k /\
   (0<=k->k<4->(((k,n,s):AB)=p/\s.size<=1024↔AK (k,n,s)=true)),?_,?_⟩
 ·refine⟨_,S5.cell 1 rfl rfl,Ao (λ h=>?_) (λ h0=>Ao (λ h=>⟨_,S5.cell 1 rfl rfl,?_⟩) (λ h1=>Ao (λ h=>⟨_,S5.cell 1 rfl rfl,?_⟩) (λ h2=>Ao (λ h=>⟨_,S5.cell 1 rfl rfl,?_⟩) (λ h3=>?_))))⟩
  ·subst h;refine⟨(0,0,E0),S5,rfl,λ _ _=>?_⟩;simp only [AK,if_pos,decide_eq_true_eq,AkO,true_and];constructor
   ·rintro⟨⟨h1,h2⟩,_⟩;exact⟨h1,h2⟩
   ·rintro⟨h1,rfl⟩;exact⟨⟨h1,rfl⟩,by decide⟩
  ·subst h;refine S5.BP 0 rfl (show 1<3 by decide) λ w6 S6=>⟨(1,n,E0),S6,rfl,λ _ _=>?_⟩;simp only [AK,if_neg (show ¬ (1:Int)=0 by decide),if_pos,decide_eq_true_eq,AkO,true_and];constructor
   ·rintro⟨h1,_⟩;exact h1
   ·rintro rfl;exact⟨rfl,by decide⟩
  ·subst h;refine S5.BP 0 rfl (show 1<3 by decide) λ w6 S6=>⟨(2,IntKind.i64.wrap (((AkK 64 n &&& AkK 64 1).toNat:Int)),E0),S6,rfl,λ _ _=>?_⟩;simp only [AK,if_neg (show ¬ (2:Int)=0 by decide),if_neg (show ¬ (2:Int)=1 by decide),if_pos,decide_eq_true_eq,AkO,true_and];rw [Akn];constructor
   ·rintro⟨⟨h1,h2⟩,_⟩;exact⟨h1,h2⟩
   ·rintro⟨h1,rfl⟩;exact⟨⟨h1,rfl⟩,by decide⟩
  ·subst h;refine S5.BP 0 rfl (show 2<3 by decide) λ w6 S6=>⟨(3,0,s),S6,rfl,λ _ _=>?_⟩;simp only [AK,if_neg (show ¬ (3:Int)=0 by decide),if_neg (show ¬ (3:Int)=1 by decide),if_neg (show ¬ (3:Int)=2 by decide),if_pos,decide_eq_true_eq,AkO,true_and,and_true]
  ·exact⟨(k,0,E0),S5,rfl,λ _ _=>by omega⟩
 ·rintro w9 ⟨p,S9,hp,vQ⟩;have no:¬ (0<=k/\k<4)->Value.bool false=.bool (AK (k,n,s)):=by
   intro hk;simp only [AK];rw [if_neg (by omega),if_neg (by omega),if_neg (by omega),if_neg (by omega)]
  refine⟨_,S9.cell 1 rfl rfl,Aa (λ h0=>⟨_,S9.cell 1 rfl rfl,Aa (λ h4=>?_) (λ h4=>⟨no (by omega),S9.below⟩)⟩) (λ h0=>⟨no (by omega),S9.below⟩)⟩;refine⟨_,S9.cell 1 rfl rfl,_,S9.cell 1 rfl rfl,_,S9.cell 1 rfl rfl,_,S9.cell 0 rfl rfl,_,S9.cell 0 rfl rfl,_,S9.cell 0 rfl rfl,?_⟩;have hi:=vQ h0 h4;rw [XV];refine Aq (λ he=>⟨_,S9.cell 1 rfl rfl,?_,S9.below⟩) (λ he=>⟨?_,S9.below⟩)
  ·simp only [Bool.and_true,Bool.and_eq_true,beq_iff_eq,decide_eq_true_eq] at he;have e:((k,n,s):AB)=p:=by
    obtain⟨p1,p2,p3⟩:=p;simp only at he;rw [he.1,he.2.1,he.2.2]
   congr 1;rw [Bool.eq_iff_iff];rw [<- hi];simp only [e,true_and,decide_eq_true_eq];omega
  ·have hn:¬ (AK (k,n,s)=true):=by
    rw [<- hi];rintro⟨e,_⟩;rw [<- e] at he;simp at he
   simp [Bool.eq_false_iff.2 hn]
theorem FV(w:World)(v:AB):Calls Tryz.prog f.AaO #[TQ v] w (AG λ r w'=>r=.bool (AK v)/\Below w.heap.size w w'):=by
 obtain⟨k,n,s⟩:=v;apply R.PV
 delta R.A R.Ab R.F R.G R.I R.Li R.Lt R.N R.T;try dsimp only [R.Ps]
 refine (SH.start (λ _=>False) w).An λ b4 w1 jy B1 S1=>⟨_,S1.cell 0 rfl rfl,?_⟩;simp only [A0,AK];refine Ao (λ h=>⟨_,S1.cell 0 rfl rfl,Ao (λ hn=>⟨_,S1.cell 0 rfl rfl,?_,B1⟩) (λ hn=>⟨?_,B1⟩)⟩) (λ h0=>Ao (λ h=>⟨_,S1.cell 0 rfl rfl,?_,B1⟩) (λ h1=>Ao (λ h=>⟨_,S1.cell 0 rfl rfl,?_⟩) (λ h2=>Ao (λ h=>⟨_,S1.cell 0 rfl rfl,Ao (λ hn=>⟨_,S1.cell 0 rfl rfl,?_,B1⟩) (λ hn=>⟨?_,B1⟩)⟩) (λ h3=>⟨?_,B1⟩))))
 ·simp [h,hn]
 ·simp [h,hn]
 ·simp [h]
 ·refine Ao (λ hn=>⟨_,S1.cell 0 rfl rfl,?_,B1⟩) (λ hn=>⟨_,S1.cell 0 rfl rfl,Ao (λ eR=>⟨_,S1.cell 0 rfl rfl,?_,B1⟩) (λ eR=>⟨?_,B1⟩)⟩)
  ·simp [h,hn]
  ·simp [h,eR]
  ·simp [h,hn,eR]
 ·simp [h,hn];omega
 ·simp [h,hn]
 ·simp [h0,h1,h2,h3]
/-! ### the order -/
end Go.Proofs.YtpnaifmmggnimaaGreatDoor
namespace Go.Proofs.YtpnaifmmggnimaaGreatDoor
set_option maxRecDepth 100000
open Go.Dn Go.Proofs
open Go.RowKit (Below)
set_option linter.unusedVariables false
/-! ### what package-level variables hold -/
/-! ### Number, Signed, Text -/
/-! ### Lay -/
structure BL(v:AB):Prop where
 lo : -9223372036854775808<=v.2.1
 hi:v.2.1<=9223372036854775807
theorem Gl{v:AB}(h:AK v=true):v.1=0\/v.1=1\/(v.1=2/\(v.2.1=0\/v.2.1=1))\/(v.1=3/\v.2.2.size<=1024):=by
 unfold AK at h;split at h
 ·left;assumption
 ·split at h
  ·right;left;assumption
  ·split at h
   ·right;right;left;simp at h;exact⟨by assumption,h.1⟩
   ·split at h
    ·right;right;right;simp at h;exact⟨by assumption,h.2⟩
    ·cases h
/-! ### Show -/
end Go.Proofs.YtpnaifmmggnimaaGreatDoor
namespace Go.Proofs.YtpnaifmmggnimaaGreatDoor
open _root_.Array renaming getElem?_eq_some_iff -> AlQ
open _root_.BitVec renaming ofInt -> AkK, ofInt_natCast -> Alm, toNat_ofNat -> All
open _root_.Bool renaming toNat_true -> AlY
open _root_.ByteArray renaming size -> AlX
open _root_.Int renaming natCast_mul -> Al1, natCast_nonneg -> Al2, tdiv -> AlT, tdiv_eq_ediv_of_nonneg -> AlP, tmod_eq_emod_of_nonneg -> Aly, toNat_natCast -> Ale
open _root_.List renaming getElem_mem -> AlS, length_map -> Alr, mem_cons_of_mem -> AlO, mem_cons_self -> AlN, range -> AlL
open _root_.Nat renaming div_le_self -> AlU, le_refl -> Ak8, lt_of_lt_of_le -> AkY, lt_or_ge -> AlR, mod_eq_of_lt -> Alk, mod_lt -> AlC, mul_comm -> Alp, mul_le_mul -> Al0, mul_one -> Alh, one_mul -> AlZ, pow_le_pow_right -> Alw, pow_lt_pow_right -> AlV, two_pow_pos -> AlW
set_option maxRecDepth 100000
open Go.Dn Go.Proofs
open Go.RowKit (Below)
set_option linter.unusedVariables false
def DL(x r:Nat):Prop:=x<2 ^ r/\(r=0\/2 ^ (r-1)<=x)
theorem DL.one{x r s:Nat}(h:DL x r)(h':DL x s):r=s:=by
 have key:∀ {a b:Nat},DL x a->DL x b->a<=b:=by
  intro a b ha hb;rcases ha.2 with h0 | h0
  ·omega
  ·rcases AlR b a with aB | aI
   ·have:2 ^ b<=2 ^ (a-1):=Alw (by omega) (by omega);have:=hb.1;omega
   ·exact aI
 exact Nat.le_antisymm (key h h') (key h' h)
theorem DL.le{x r w:Nat}(h:DL x r):r<=w↔x<2 ^ w:=by
 constructor
 ·intro hle;exact AkY h.1 (Alw (by omega) hle)
 ·intro aB;rcases h.2 with h0 | h0
  ·omega
  ·rcases AlR w r with ao | aI
   ·have:2 ^ w<=2 ^ (r-1):=Alw (by omega) (by omega);omega
   ·exact aI
theorem DL.of_le{x r:Nat}(h:∀ w,r<=w↔x<2 ^ w):DL x r:=by
 refine⟨(h r).1 (Ak8 _),?_⟩;rcases Nat.eq_zero_or_pos r with h0 | h0
 ·exact .inl h0
 ·right;rcases AlR x (2 ^ (r-1)) with aB | aI
  ·have:=(h (r-1)).2 aB;omega
  ·exact aI
theorem DL.shift{x r s:Nat}(h:DL (x / 2 ^ s) r)(hx:2 ^ s<=x):DL x (r+s):=by
 have hp:0<2 ^ s:=AlW s;have h1:1<=x / 2 ^ s:=(Nat.le_div_iff_mul_le hp).2 (by omega);have hr:r≠0:=by
  rintro rfl;have:=h.1;simp at this;omega
 refine⟨?_,.inr ?_⟩
 ·rw [Nat.pow_add];exact (Nat.div_lt_iff_lt_mul hp).1 h.1
 ·rcases h.2 with h0 | h0
  ·exact absurd h0 hr
  ·rw [show r+s-1=(r-1)+s by omega,Nat.pow_add];exact (Nat.le_div_iff_mul_le hp).1 h0
def LN:ByteArray:=⟨#[0,1,2,2,3,3,3,3,4,4,4,4,4,4,4,4,5,5,5,5,5,5,5,5,5,5,5,5,5,5,5,5,6,6,6,6,6,6,6,6,6,6,6,6,6,6,6,6,6,6,6,6,6,6,6,6,6,6,6,6,6,6,6,6,7,7,7,7,7,7,7,7,7,7,7,7,7,7,7,7,7,7,7,7,7,7,7,7,7,7,7,7,7,7,7,7,7,7,7,7,7,7,7,7,7,7,7,7,7,7,7,7,7,7,7,7,7,7,7,7,7,7,7,7,7,7,7,7,8,8,8,8,8,8,8,8,8,8,8,8,8,8,8,8,8,8,8,8,8,8,8,8,8,8,8,8,8,8,8,8,8,8,8,8,8,8,8,8,8,8,8,8,8,8,8,8,8,8,8,8,8,8,8,8,8,8,8,8,8,8,8,8,8,8,8,8,8,8,8,8,8,8,8,8,8,8,8,8,8,8,8,8,8,8,8,8,8,8,8,8,8,8,8,8,8,8,8,8,8,8,8,8,8,8,8,8,8,8,8,8,8,8,8,8,8,8,8,8,8,8,8,8,8,8,8,8]⟩
theorem Ae0:LN.size=256:=by decide
theorem AgH:((AlL 256).all λ i=>decide (i<2 ^ (Aw LN i).toNat) && ((Aw LN i).toNat==0 || decide (2 ^ ((Aw LN i).toNat-1)<=i)) && decide ((Aw LN i).toNat<=8))=true:=by decide +kernel
theorem AdL{i:Nat}(h:i<256):DL i (Aw LN i).toNat/\(Aw LN i).toNat<=8:=by
 have:=List.all_eq_true.1 AgH i (List.mem_range.2 h);simp only [Bool.and_eq_true,decide_eq_true_eq,Bool.or_eq_true,beq_iff_eq] at this;exact⟨⟨this.1.1,this.1.2⟩,this.2⟩
theorem fdiv_pow(x s:Nat):Int.fdiv (x:Int) (2 ^ s)=((x / 2 ^ s:Nat):Int):=by
 rw [Int.fdiv_eq_ediv_of_nonneg _ (Int.le_of_lt (Int.pow_pos (by omega)))]
 norm_cast
theorem AfS(w:World)(x:Nat)(hx:x<18446744073709551616):Calls Tryz.prog f.Tm #[.int .u64 (x:Int)] w (AG λ v w'=>∃ r:Nat,v=.int .i64 (r:Int)/\DL x r/\r<=64/\w'=w):=by
 apply R.KA
 delta R.F R.I R.U R.W R.Wb R.X R.Zui;try dsimp only [R.Ps]
 refine⟨λ st w1=>w1=w/\∃ y n:Nat,st=[.int .u64 (y:Int),.int .i64 (n:Int)]/\y<4294967296/\n<=32/\(∀ r,DL y r->r<=32->DL x (r+n)\/(n=0/\x=y)),?_,?_⟩
 ·refine Aa (λ h=>⟨rfl,x / 2 ^ 32,32,?_,?_,by omega,λ r hr _=>.inl (hr.shift (by omega))⟩) (λ h=>⟨rfl,x,0,rfl,by omega,by omega,λ r _ _=>.inr ⟨rfl,rfl⟩⟩)
  ·rw [show min 32 64=32 from rfl,fdiv_pow];rfl
  ·omega
 rintro _ _ w1 ⟨rfl,y,n,aA,hy,hn,hyx⟩;cases aA;refine⟨λ st w2=>w2=w1/\∃ z m:Nat,st=[.int .u64 (z:Int),.int .i64 (m:Int)]/\z<65536/\m<=48/\(∀ r,DL z r->r<=16->DL x (r+m)),?_,?_⟩
 ·have fin:∀ r,DL y r->r<=32->DL x (r+n):=by
   intro r hr xr;rcases hyx r hr xr with h | ⟨rfl,rfl⟩
   ·exact h
   ·exact hr
  refine Aa (λ h=>⟨rfl,y / 2 ^ 16,n+16,?_,by omega,by omega,λ r hr gU=>?_⟩) (λ h=>⟨rfl,y,n,rfl,by omega,by omega,λ r hr gU=>fin r hr (by omega)⟩)
  ·rw [show min 16 64=16 from rfl,fdiv_pow,wrap_i64 (by omega) (by omega)];rfl
  ·have:=fin _ (hr.shift (s:=16) (by omega)) (by omega);rwa [Nat.add_assoc,Nat.add_comm 16] at this
 rintro _ _ w2 ⟨rfl,z,m,aA,hz,hm,yf⟩;cases aA;have e256:((AlX LN:Nat):Int)=256:=by rw [Ae0];rfl
 refine Aa (λ h=>?_) (λ h=>?_)
 ·rw [show min 8 64=8 from rfl,fdiv_pow,AE (by omega) (by omega)];have aB:z / 2 ^ 8<256:=by omega
  have ht:=AdL aB;refine⟨⟨by omega,by show _<((AlX LN:Nat):Int);omega⟩,(Aw LN (z / 2 ^ 8)).toNat+8+m,?_,?_,by omega,rfl⟩
  ·have hT:∀ i,(Aw LN i).toNat<256:=λ i=>UInt8.toNat_lt _;show Value.int .i64 (IntKind.i64.wrap (IntKind.i64.wrap ((m:Int)+8)+IntKind.i64.wrap ((Aw LN ((z / 2 ^ 8:Nat):Int).toNat).toNat:Int)))=_;rw [Ale,wrap_i64 (n:=(m:Int)+8) (by omega) (by omega),wrap_i64 (n:=((Aw LN (z / 2 ^ 8)).toNat:Int)) (by omega) (by omega),wrap_i64 (by omega) (by omega)];congr 1;omega
  ·exact yf _ (ht.1.shift (s:=8) (by omega)) (by omega)
 ·have aB:z<256:=by omega
  have ht:=AdL aB;rw [AE (by omega) (by omega)];refine⟨⟨by omega,by show _<((AlX LN:Nat):Int);omega⟩,(Aw LN z).toNat+m,?_,?_,by omega,rfl⟩
  ·show Value.int .i64 (IntKind.i64.wrap ((m:Int)+IntKind.i64.wrap ((Aw LN ((z:Nat):Int).toNat).toNat:Int)))=_;rw [Ale,wrap_i64 (n:=((Aw LN z).toNat:Int)) (by omega) (by omega),wrap_i64 (by omega) (by omega)];congr 1;omega
  ·exact yf _ ht.1 (by omega)
def E1(x:Nat):Value:=.int .u64 (x:Int)
def Ic(xs:List Nat):Nat:=xs.foldl (· ||| ·) 0
theorem Aaz{a b w:Nat}:a ||| b<2 ^ w↔a<2 ^ w/\b<2 ^ w :=
 ⟨λ h=>⟨Nat.lt_of_le_of_lt Nat.left_le_or h,Nat.lt_of_le_of_lt Nat.right_le_or h⟩,λ h=>Nat.or_lt_two_pow h.1 h.2⟩
theorem Agm(xs:List Nat)(a w:Nat):xs.foldl (· ||| ·) a<2 ^ w↔a<2 ^ w/\∀ x∈xs,x<2 ^ w:=by
 induction xs generalizing a with
 | nil=>simp
 | cons x xs ih=>rw [List.foldl_cons,ih,Aaz];simp [and_assoc]
theorem HQ(xs:List Nat)(w:Nat):Ic xs<2 ^ w↔∀ x∈xs,x<2 ^ w:=by
 unfold Ic;rw [Agm];simp [AlW]
theorem Aay{xs:List Nat}{k:Nat}(hk:k<xs.length):Ic (xs.take (k+1))=Ic (xs.take k) ||| xs[k]:=by
 unfold Ic;rw [List.take_succ_eq_append_getElem hk,List.foldl_append];rfl
theorem Aja{a b:Nat}(ha:a<18446744073709551616)(hb:b<18446744073709551616):IntKind.u64.wrap (((AkK 64 (a:Int) ||| AkK 64 (b:Int)).toNat:Int))=((a ||| b:Nat):Int):=by
 have e:(AkK 64 (a:Int) ||| AkK 64 (b:Int)).toNat=a ||| b:=by
  rw [BitVec.toNat_or,Alm,Alm,All,All,Alk (by omega),Alk (by omega)]
 have:=(Aaz (w:=64)).2 ⟨ha,hb⟩;rw [e,Aj (by omega) (by omega)]
theorem GZ{w:World}{a:Option Addr}{xs:List Nat}(hl:Rd w a (xs.map E1)){i:Nat}(hi:i<xs.length):∃ p,a=some p/\w.cell? (p.add (i*1))=some (.int .u64 (xs[i]:Int)):=by
 obtain⟨p,hp,hc⟩:=hl i (E1 xs[i]) (by simp [hi]);exact⟨p,hp,by rw [Alh];exact hc⟩
section
variable {w:World}{a:Option Addr}{c:Nat}{xs:List Nat}
theorem IJ(hl:Rd w a (xs.map E1))(hn:xs.length<=140737488355328)(hx:∀ x∈xs,x<18446744073709551616) :
  Calls Tryz.prog f.AcC #[.slice a xs.length c] w (AG λ v w'=>∃ r:Nat,v=.int .i64 (r:Int)/\DL (Ic xs) r/\r<=64/\w'=w):=by
 apply R.Rp
 delta R.Ad R.Ci R.F R.I R.Lu R.Qui R.U R.W R.Wu R.X;try dsimp only [R.Ps]
 refine⟨λ s w1=>w1=w/\∃ k:Nat,k<=xs.length/\s=[.int .u64 (Ic (xs.take k):Int),.int .i64 (k:Int)],λ s _=>match s with
   | [_,.int _ i]=>xs.length-i.toNat
   | _=>0,⟨rfl,0,by omega,rfl⟩,?_⟩
 rintro _ _ w1 ⟨rfl,k,hk,hs⟩;cases hs;have aF:Ic (xs.take k)<18446744073709551616:=(HQ (xs.take k) 64).2 λ x h=>hx x (List.mem_of_mem_take h);refine Aa (λ aB=>⟨⟨by omega,aB⟩,?_⟩) (λ aI=>?_)
 ·have aO:k<xs.length:=by omega
  obtain⟨p,rfl,hc⟩:=GZ hl aO;refine⟨_,by rw [Ale];exact hc,?_⟩;have iK:=hx _ (AlS aO);rw [Aja aF iK,Ae (by omega),<- Aay aO];refine⟨⟨rfl,k+1,by omega,rfl⟩,?_⟩;simp only [Ale];omega
 ·have eQ:xs.take k=xs:=List.take_of_length_le (by omega);rw [eQ] at aF ⊢;refine (AfS w1 (Ic xs) aF).mono ?_;rintro _ w2 ⟨_,rfl,r,rfl,h1,h2,rfl⟩;exact⟨_,rfl,r,rfl,h1,h2,rfl⟩
end
theorem JS(w:World)(n wd:Int):Calls Tryz.prog f.Afb #[.int .i64 n,.int .i64 wd] w (AG λ v w'=>w'=w/\v=(if 0<=n/\n<=4096/\0<=wd/\wd<=64 then .tuple #[.int .i64 ((n*wd+7) / 8),.int .i64 0] else .tuple #[.int .i64 0,.int .i64 2])):=by
 apply R.Tq
 delta R.F R.H R.I R.W;try dsimp only [R.Ps]
 refine Aa (λ h=>⟨rfl,by rw [if_neg (by omega)]⟩) (λ h1=>Aa (λ h=>⟨rfl,by rw [if_neg (by omega)]⟩) (λ h2=>Aa (λ h=>⟨rfl,by rw [if_neg (by omega)]⟩) (λ h3=>Aa (λ h=>⟨rfl,by rw [if_neg (by omega)]⟩) (λ h4=>⟨rfl,?_⟩))));have hm:0<=n*wd:=Int.mul_nonneg (by omega) (by omega);have om:n*wd<=4096*64:=Int.mul_le_mul (by omega) (by omega) (by omega) (by omega);rw [if_pos (by omega),wrap_i64 (n:=n*wd) (by omega) (by omega),wrap_i64 (n:=n*wd+7) (by omega) (by omega),AlP (by omega),wrap_i64 (by omega) (by omega)]
theorem SF(w:World)(n wd:Int):Calls Tryz.prog f.AcK #[.int .i64 n,.int .i64 wd] w (AG λ v w'=>w'=w/\v=(if 0<=n/\n<=4096/\0<=wd/\wd<=64 then .tuple #[.int .i64 ((n*wd+7) / 8),.int .i64 0] else .tuple #[.int .i64 0,.int .i64 2])):=by
 apply R.Rw
 delta R.Cb R.F R.H R.I R.W;try dsimp only [R.Ps]
 have hw:Calls Tryz.prog f.We #[.int .i64 wd] w (AG λ v w'=>w'=w/\v=.bool (decide (0<=wd/\wd<=64))):=by
  apply R.MT
  delta R.F R.G;try dsimp only [R.Ps]
  refine Aa (λ h=>⟨rfl,?_⟩) (λ h=>⟨rfl,?_⟩)
  ·congr 1;simp;omega
  ·congr 1;simp;omega
 refine hw.mono ?_;rintro _ w1 ⟨_,rfl,rfl,rfl⟩;refine⟨_,rfl,As (Aa (λ h0=>?_) (λ h=>⟨rfl,by rw [if_neg (by omega)]⟩))⟩;refine Aa (λ h=>⟨rfl,by rw [if_neg (by omega)]⟩) (λ h1=>Aa (λ h=>⟨rfl,by rw [if_neg (by omega)]⟩) (λ h2=>⟨rfl,?_⟩));have hm:0<=n*wd:=Int.mul_nonneg (by omega) (by omega);have om:n*wd<=4096*64:=Int.mul_le_mul (by omega) (by omega) (by omega) (by omega);rw [if_pos (by omega),wrap_i64 (n:=n*wd) (by omega) (by omega),wrap_i64 (n:=n*wd+7) (by omega) (by omega),AlP (by omega),wrap_i64 (by omega) (by omega)]
theorem RR(w:World)(x wd:Nat)(hx:x<18446744073709551616)(hw:wd<=64):Calls Tryz.prog f.Ag3 #[.int .u64 (x:Int),.int .i64 (wd:Int)] w (AG λ v w'=>w'=w/\v=.bool (decide (x<2 ^ wd))):=by
 apply R.Vb
 delta R.F R.G R.I R.Qui R.U R.W R.Wu;try dsimp only [R.Ps]
 refine⟨λ s w1=>w1=w/\∃ k:Nat,k<=wd/\s=[.int .u64 ((x / 2 ^ k:Nat):Int),.int .i64 (k:Int)],λ s _=>match s with
   | [_,.int _ i]=>wd-i.toNat
   | _=>0,⟨rfl,0,by omega,by simp⟩,?_⟩
 rintro _ _ w1 ⟨rfl,k,hk,hs⟩;cases hs;have hle:x / 2 ^ k<=x:=AlU _ _;refine Aa (λ aB=>?_) (λ aI=>⟨rfl,?_⟩)
 ·have e:IntKind.u64.wrap (AlT ((x / 2 ^ k:Nat):Int) 2)=((x / 2 ^ k / 2:Nat):Int):=by
   generalize x / 2 ^ k=y at hle;rw [AlP (by omega),Aj (by omega) (by omega)];omega
  rw [e,Ae (by omega)];refine⟨⟨rfl,k+1,by omega,?_⟩,?_⟩
  ·rw [Nat.pow_succ,<- Nat.div_div_eq_div_mul]
  ·simp only [Ale];omega
 ·have:k=wd:=by omega
  subst this;congr 1;rw [Bool.eq_iff_iff];simp only [beq_iff_eq,decide_eq_true_eq];have hp:0<2 ^ k:=AlW k;constructor
  ·intro h;have h0:x / 2 ^ k=0:=by omega
   exact (Nat.div_eq_zero_iff_lt hp).1 h0
  ·intro h;have h0:=(Nat.div_eq_zero_iff_lt hp).2 h;omega
section
variable {w:World}{a:Option Addr}{c:Nat}{xs:List Nat}
theorem Qa(hl:Rd w a (xs.map E1))(hn:xs.length<=140737488355328)(hx:∀ x∈xs,x<18446744073709551616) :
  Calls Tryz.prog f.AaJ #[.slice a xs.length c] w (AG λ v w'=>∃ r:Nat,v=.int .i64 (r:Int)/\DL (Ic xs) r/\r<=64/\w'=w):=by
 apply R.PQ
 delta R.Ad R.Cb R.F R.G R.I R.Lu R.Qib R.NH R.U R.W R.X;try dsimp only [R.Ps]
 refine⟨λ s w1=>w1=w/\∃ k r:Nat,k<=xs.length/\r<=64/\DL (Ic (xs.take k)) r/\s=[.int .i64 (r:Int),.int .i64 (k:Int)],λ s _=>match s with
   | [_,.int _ i]=>xs.length-i.toNat
   | _=>0,⟨rfl,0,0,by omega,by omega,⟨by simp [Ic],.inl rfl⟩,rfl⟩,?_⟩
 rintro _ _ w1 ⟨rfl,k,r,hk,hr,hlen,hs⟩;cases hs;refine Aa (λ aB=>⟨⟨by omega,aB⟩,?_⟩) (λ aI=>?_)
 ·have aO:k<xs.length:=by omega
  have iK:=hx _ (AlS aO);obtain⟨p,rfl,hc⟩:=GZ hl aO;refine⟨_,by rw [Ale];exact hc,(RR w1 xs[k] r iK hr).mono ?_⟩;rintro _ w2 ⟨_,rfl,rfl,rfl⟩;refine⟨_,rfl,?_⟩;refine⟨λ s w3=>w3=w2/\∃ q:Nat,r<=q/\q<=64/\(q=r\/¬ xs[k]<2 ^ (q-1))/\s=[.int .i64 (q:Int),.bool (decide (xs[k]<2 ^ q))],λ s _=>match s with
    | [.int _ i,_]=>64-i.toNat
    | _=>0,⟨rfl,r,by omega,by omega,.inl rfl,rfl⟩,?_⟩
  rintro _ _ w3 ⟨rfl,q,ld,iF,hq3,hs⟩;cases hs;refine As (Aa (λ aK=>?_) (λ aP=>⟨⟨by omega,aB⟩,_,by rw [Ale];exact hc,?_⟩))
  ·rw [Ae (by omega)];refine⟨⟨rfl,k+1,q,by omega,iF,?_,rfl⟩,?_⟩
   ·rw [Aay aO];refine DL.of_le λ wd=>?_;rw [Aaz,<- hlen.le (w:=wd)];constructor
    ·intro h;exact⟨by omega,AkY aK (Alw (by omega) h)⟩
    ·rintro⟨h1,h2⟩;rcases hq3 with h | h
     ·omega
     ·rcases AlR wd q with ao | aI
      ·exact absurd (AkY h2 (Alw (by omega) (by omega))) h
      ·exact aI
   ·simp only [Ale];omega
  ·have hq64:q<64:=by
    rcases AlR q 64 with h | h
    ·exact h
    ·have:q=64:=by omega
     subst this;exact absurd iK aP
   rw [Ae (by omega)];refine (RR w3 xs[k] (q+1) iK (by omega)).mono ?_;rintro _ w4 ⟨_,rfl,rfl,rfl⟩;refine⟨_,rfl,⟨rfl,q+1,by omega,by omega,.inr aP,rfl⟩,?_⟩;simp only [Ale];omega
 ·have eQ:xs.take k=xs:=List.take_of_length_le (by omega);rw [eQ] at hlen;exact⟨r,rfl,hlen,hr,rfl⟩
end
theorem AN(w:World)(l:Nat)(o:Obj):Ai (·=l) w (w.putObj l o) :=
 ⟨rfl,rfl,rfl,by simp,λ k _ hn=>World.putObj_heap_other hn⟩
def Ub(f:Nat->Bool):Nat->Nat->Nat
 | 0,_=>0
 | t+1,j=>if j=t / 8/\f t=true then Ub f t j ||| 2 ^ (t % 8) else Ub f t j
theorem Y7(f:Nat->Bool)(t j:Nat):Ub f t j<256:=by
 induction t with
 | zero=>simp [Ub]
 | succ t ih =>
  unfold Ub;split
  ·exact (Aaz (w:=8)).2 ⟨ih,AlV (by omega) (by omega)⟩
  ·exact ih
def Ey(xs:List Nat)(w t:Nat):Bool:=(xs.getD (t / w) 0).testBit (t % w)
def DA(n w:Nat):Nat:=(n*w+7) / 8
def A5(xs:List Nat)(w:Nat):List UInt8:=(AlL (DA xs.length w)).map λ j=>UInt8.ofNat (Ub (Ey xs w) (xs.length*w) j)
theorem BR(xs:List Nat)(w:Nat):(A5 xs w).length=DA xs.length w:=by simp [A5]
def GH(f:Nat->Bool)(m t:Nat):Array Value:=⟨(AlL m).map λ j=>.int .u8 (Ub f t j:Int)⟩
theorem MC(f:Nat->Bool)(m t:Nat):(GH f m t).size=m:=by simp [GH]
theorem Aa6{f:Nat->Bool}{m t j:Nat}(h:j<m):(GH f m t)[j]?=some (.int .u8 (Ub f t j:Int)):=by simp [GH,h]
theorem Aa7{f:Nat->Bool}{m t:Nat}(v:Nat)(hv:v=Ub f (t+1) (t / 8)):(GH f m t).setIfInBounds (t / 8) (.int .u8 (v:Int))=GH f m (t+1):=by
 apply Array.ext';apply List.ext_getElem?;intro i;simp only [Array.toList_setIfInBounds,GH,List.getElem?_set,Alr,List.length_range];by_cases h:t / 8=i
 ·subst h;by_cases h2:t / 8<m
  ·simp [h2,hv]
  ·simp [h2]
 ·have e:Ub f (t+1) i=Ub f t i:=by
   conv=>lhs;unfold Ub
   rw [if_neg (by omega)]
  by_cases h2:i<m
  ·simp [h,h2,e]
  ·simp [h,h2]
theorem Xq(f:Nat->Bool)(m:Nat):madeCells (Value.int .u8 0).cells (m*1)=GH f m 0:=by
 apply Array.ext';rw [El _ rfl];simp [GH,Ub,List.map_const']
theorem Aa5(xs:List Nat)(w:Nat):(GH (Ey xs w) (DA xs.length w) (xs.length*w)).toList=(A5 xs w).map Ag:=by
 simp only [GH,A5,List.map_map];apply List.map_congr_left;intro j _;have:=Y7 (Ey xs w) (xs.length*w) j;exact Cq this
/-! ### words of the program -/
theorem Af1{x k:Nat}(hx:x<18446744073709551616)(hk:k<64):IntKind.u8.wrap (IntKind.u64.wrap (((AkK 64 (Int.fdiv (x:Int) (2 ^ (min k 64))) &&& AkK 64 1).toNat:Int)))=((x.testBit k).toNat:Int):=by
 rw [show min k 64=k by omega,fdiv_pow];have hle:x / 2 ^ k<=x:=AlU _ _;have e:(AkK 64 ((x / 2 ^ k:Nat):Int) &&& AkK 64 1).toNat=x / 2 ^ k % 2:=by
  rw [BitVec.toNat_and,Alm,All,Alk (by omega)];exact Nat.and_two_pow_sub_one_eq_mod _ 1
 rw [e];have hm:x / 2 ^ k % 2<2:=AlC _ (by omega);rw [Nat.testBit_eq_decide_div_mod_eq];generalize x / 2 ^ k % 2=y at hm;rw [Aj (by omega) (by omega),AE (by omega) (by omega)];rcases (by omega:y=0\/y=1) with rfl | rfl <;> rfl
theorem AjM{t:Nat}(ht:t<9223372036854775808):IntKind.i64.wrap (((AkK 64 (t:Int) &&& AkK 64 7).toNat:Int))=((t % 8:Nat):Int):=by
 have e:(AkK 64 (t:Int) &&& AkK 64 7).toNat=t % 8:=by
  rw [BitVec.toNat_and,Alm,All,Alk (by omega)];exact Nat.and_two_pow_sub_one_eq_mod _ 3
 rw [e,wrap_i64 (by omega) (by omega)]
theorem or8{a b:Nat}(ha:a<256)(hb:b<256):IntKind.u8.wrap (((AkK 8 (a:Int) ||| AkK 8 (b:Int)).toNat:Int))=((a ||| b:Nat):Int):=by
 have e:(AkK 8 (a:Int) ||| AkK 8 (b:Int)).toNat=a ||| b:=by
  rw [BitVec.toNat_or,Alm,Alm,All,All,Alk (by omega),Alk (by omega)]
 have:=(Aaz (w:=8)).2 ⟨ha,hb⟩;rw [e,AE (by omega) (by omega)]
theorem AdW{b:Bool}{s:Nat}(hs:s<8):IntKind.u8.wrap ((b.toNat:Int)*2 ^ (min s 8))=((b.toNat*2 ^ s:Nat):Int):=by
 have hp:2 ^ s<2 ^ 8:=AlV (by omega) hs;rw [show min s 8=s by omega];have e:((b.toNat:Int)*2 ^ s)=((b.toNat*2 ^ s:Nat):Int):=by norm_cast
 rw [e];cases b
 ·simp;decide
 ·simp only [AlY,AlZ];generalize 2 ^ s=y at hp;rw [AE (by omega) (by omega)]
theorem Abp(f:Nat->Bool)(t:Nat):Ub f t (t / 8) ||| (f t).toNat*2 ^ (t % 8)=Ub f (t+1) (t / 8):=by
 conv=>rhs;unfold Ub
 cases h:f t
 ·simp
 ·simp
/-! ### the iterator -/
theorem LX(w:World)(n wd:Int):Calls Tryz.prog f.AaD #[.int .i64 n,.int .i64 wd] w (AG λ v w'=>∃ b1 b2,v=.func (.func f.LV) #[] #[.pointer (some ⟨b1,0,none⟩),.pointer (some ⟨b2,0,none⟩)]/\SH (λ _=>False) w w' [(b2,#[.int .i64 wd],ty.int),(b1,#[.int .i64 n],ty.int)]):=by
 apply R.PL
 delta R.I R.J R.N R.P;try dsimp only [R.Ps]
 exact (SH.start (λ _=>False) w).An λ b1 w1 _ _ S1=>S1.An λ b2 w2 _ _ S2=>⟨b1,b2,rfl,S2⟩
theorem Xj{n wd l b1 b2:Nat}(hn:n<=4096)(hw:wd<=64)(J:Nat->World->Prop)
  (aE:∀ t w,J t w->w.cell? ⟨b1,0,none⟩=some (.int .i64 (n:Int))/\w.cell? ⟨b2,0,none⟩=some (.int .i64 (wd:Int))) (pw:∀ t w,J t w->J t w.drew)
  (ae:∀ t,t<n*wd->∀ w,J t w->O8 Tryz.prog l #[.int .i64 ((t / wd:Nat):Int),.int .i64 ((t % wd:Nat):Int)] (λ y w'=>y=true/\J (t+1) w') w)
  {w:World} (h0:J 0 w):Calls Tryz.prog f.LV #[.func (.yield l) #[] #[],.pointer (some ⟨b1,0,none⟩),.pointer (some ⟨b2,0,none⟩)] w (AG λ _ w'=>J (n*wd) w'):=by
 have hm:n*wd<=4096*64:=Al0 hn hw;apply R.LW
 delta R.A R.D R.F R.H R.I R.Li R.Qi R.W;try dsimp only [R.Ps]
 refine⟨λ s w1=>∃ t:Nat,t<=n*wd/\s=[.int .i64 (t:Int)]/\J t w1,λ s _=>match s with
   | [.int _ i]=>n*wd-i.toNat
   | _=>0,⟨0,by omega,rfl,h0⟩,?_⟩
 rintro _ w1 ⟨t,ht,hs,hj⟩;cases hs;obtain⟨c1,c2⟩:=aE t w1 hj;refine⟨_,c1,_,c2,?_⟩;have em:IntKind.i64.wrap ((n:Int)*(wd:Int))=((n*wd:Nat):Int):=by rw [<- Al1,wrap_i64 (by omega) (by omega)]
 rw [em];refine Aa (λ aB=>?_) (λ aI=>?_)
 ·have kn:t<n*wd:=by omega
  have nk:wd≠0:=by rintro rfl;simp at kn
  have qG:=pw t w1 hj;obtain⟨d1,d2⟩:=aE t _ qG;refine⟨_,d2,by omega,_,d2,by omega,?_⟩;have e1:IntKind.i64.wrap (AlT (t:Int) (wd:Int))=((t / wd:Nat):Int):=by
   have hle:t / wd<=t:=AlU _ _;have:AlT (t:Int) (wd:Int)=((t / wd:Nat):Int):=by rw [AlP (by omega)];norm_cast
   rw [this];generalize t / wd=q at hle;rw [wrap_i64 (by omega) (by omega)]
  have e2:Int.tmod (t:Int) (wd:Int)=((t % wd:Nat):Int):=by rw [Aly (by omega)];norm_cast
  rw [e1,e2];obtain⟨fn,tm,asg,bo,hy,hr⟩:=ae t kn _ qG;refine⟨fn,tm,asg,bo,hy,hr.mono ?_⟩;rintro e w3 ⟨y,he,rfl,od⟩;refine⟨true,he,AV ?_⟩;rw [Ae (by omega)];refine⟨⟨t+1,by omega,rfl,od⟩,?_⟩;simp only [Ale];omega
 ·have:t=n*wd:=by omega
  rw [this] at hj;exact hj
theorem IU{rr:Loop}(h1:rr.state=.ready)(h2:rr.pending=none):({ rr with state:=if (none:Option Code).isNone then .ready else .done,pending:=none }:Loop)=rr:=by
 cases rr;simp_all
section
variable {w:World}{a:Option Addr}{c:Nat}{xs:List Nat}
theorem JR(hl:Rd w a (xs.map E1))(hn:xs.length<=4096){wd:Nat}(hw:wd<=64)(hx:∀ x∈xs,x<2 ^ wd) :
  Calls Tryz.prog f.Afa #[.int .i64 (wd:Int),.slice a xs.length c] w (AG λ v w'=>∃ a' c',v=.tuple #[.slice a' (A5 xs wd).length c',.int .i64 0]/\Bm w w' (A5 xs wd) a' c'):=by
 have iS:(2:Nat) ^ wd<=2 ^ 64:=Alw (by omega) hw;have fY:∀ x∈xs,x<18446744073709551616:=λ x h=>AkY (hx x h) iS;have hm:xs.length*wd<=4096*64:=Al0 hn hw;obtain⟨m,hmd⟩:∃ m,m=DA xs.length wd:=⟨_,rfl⟩;have nR:m=(xs.length*wd+7) / 8:=hmd;apply R.Tp
 delta R.A R.Ad R.B R.MG R.Cf R.Ci R.D R.F R.H R.I R.Li R.Ls R.Lu R.Ly R.N R.O R.Rs R.S R.Am R.W R.Wb R.Wu R.X;try dsimp only [R.Ps]
 refine (SH.start (λ _=>False) w).An λ b3 w1 dG B1 S1=>S1.An λ b4 w2 jy B2 S2=>⟨_,_,_,S2.cell 0 rfl rfl,_,S2.cell 1 rfl rfl,(JS w2 (xs.length:Int) (wd:Int)).mono ?_⟩;rintro _ w3 ⟨_,rfl,rfl,rfl⟩;rw [if_pos ⟨by omega,by omega,by omega,by omega⟩];refine⟨_,_,rfl,S2.E5 λ w4 B4 S4=>Ah (λ h=>absurd rfl h) (λ _=>⟨_,_,_,S4.cell 0 rfl rfl,_,S4.cell 1 rfl rfl,(IJ (hl.grown S4.below) (by omega) fY).mono ?_⟩)⟩;rintro _ w5 ⟨_,rfl,r,rfl,hr,hr64,rfl⟩;have rz:r<=wd:=hr.le.2 ((HQ xs wd).2 hx);refine⟨_,rfl,S4.cell 1 rfl rfl,Aa (λ h=>by omega) (λ _=>?_)⟩;have em:((xs.length:Int)*(wd:Int)+7) / 8=(m:Int):=by
  rw [nR];have:((xs.length:Int)*(wd:Int))=((xs.length*wd:Nat):Int):=by norm_cast
  rw [this];omega
 rw [em];refine Ea tB (l:=(m:Int)) (c:=(m:Int)) (by omega) (by omega) (by omega) (by omega) λ bo w6 fO B6 mQ=>?_;rw [Ale,Xq (Ey xs wd) m] at mQ;rw [Ale];have S6:=S4.grown B6;refine⟨_,_,_,rfl,S6.An λ dE w7 gw B7 S7=>S7.Abt 0 rfl (show 0<1 by decide) λ w8 K8 S8=>⟨_,_,_,S8.cell 1 rfl rfl,_,S8.cell 2 rfl rfl,(LX w8 (xs.length:Int) (wd:Int)).mono ?_⟩⟩;rintro _ w9 ⟨_,rfl,b1,b2,rfl,P9⟩;have S9:=S8.grown P9.below;have ua:bo<w6.heap.size:=(AlQ.1 mQ).1;have gY:=(Ai.AA (F:=λ _=>False) B7).at mQ (by simp);have kU:=K8.at gY (show ¬ bo=dE by omega);have pQ:=(Ai.AA (F:=λ _=>False) P9.below).at kU (by simp);have mh:w.heap.size<=bo:=Nat.le_trans S4.below.size fO;have uc:bo<w9.heap.size:=(AlQ.1 pQ).1;have uX:=S9.lt (x:=(b4,_,_)) (AlO _ (AlN ..));have mf:=S9.lt (x:=(b3,_,_)) (AlO _ (AlO _ (AlN ..)));have pZ:=S9.lt (x:=(dE,_,_)) (AlN ..);have kY:=P9.own (b2,_,_) (AlN ..);have me:=P9.own (b1,_,_) (AlO _ (AlN ..))
 have kZ:=P9.lt (x:=(b2,_,_)) (AlN ..);have pj:=P9.lt (x:=(b1,_,_)) (AlO _ (AlN ..));refine⟨_,_,_,rfl,by kernel_rfl,λ rr aA dW hy=>?_⟩;obtain⟨W1,hW1⟩:∃ W1,W1=(w9.alloc (.deferred (some []))).alloc (.loop rr):=⟨_,rfl⟩;rw [<- hW1];have fq:Below w9.heap.size w9 W1:=by rw [hW1];exact (((Below.refl _ w9).alloc (Ak8 _) _).alloc (by simp) _)
 have sL:W1.heap.size=w9.heap.size+2:=by rw [hW1];simp
 have gX:W1.heap[w9.heap.size+1]?=some (.loop rr):=by
  rw [hW1];have:=World.alloc_heap_new (w9.alloc (.deferred (some []))) (.loop rr);rwa [World.size_alloc] at this
 have kP:W1.heap[w9.heap.size]?=some (.deferred (some [])):=by
  rw [hW1];exact (Below.heap_alloc _ _ _ (by simp)).trans (World.alloc_heap_new w9 _)
 have eB:=Ai.AA (F:=λ _=>False) fq;have kS:=eB.at pQ (by simp);obtain⟨L,hLd⟩:∃ L,L=w9.heap.size+1:=⟨_,rfl⟩;rw [<- hLd] at gX hy ⊢;have Bw1:Below w.heap.size w W1:=S9.below.trans (fq.mono S9.below.size);have ym:=S9.below.size;have low:∀ {w':World},Ai (λ k=>k=bo\/k=L) W1 w'->Below w.heap.size w w':=λ K=>Bw1.trans (K.below Bw1.size λ k hk h=>by omega);have ug:∀ {w':World},Ai (λ k=>k=bo\/k=L) W1 w'->w'.cell? ⟨b3,0,none⟩=some (.int .i64 (wd:Int)):=λ K=>K.cell (eB.cell (S9.cell 2 rfl rfl) (by simp)) (by
  have:=S6.lt (x:=(b3,_,_)) (AlO _ (AlN ..));have h4:=S4.lt (x:=(b3,_,_)) (AlO _ (AlN ..));show ¬ (b3=bo\/b3=L);omega)
 have uh:∀ {w':World},Ai (λ k=>k=bo\/k=L) W1 w'->w'.cell? ⟨b4,0,none⟩=some (.slice a xs.length c):=λ K=>K.cell (eB.cell (S9.cell 1 rfl rfl) (by simp)) (by
  have h4:=S4.lt (x:=(b4,_,_)) (AlN ..);show ¬ (b4=bo\/b4=L);omega)
 have jG:∀ {w':World},Ai (λ k=>k=bo\/k=L) W1 w'->w'.cell? ⟨dE,0,none⟩=some (.slice (some ⟨bo,0,none⟩) m m):=λ K=>K.cell (eB.cell (S9.cell 0 rfl rfl) (by simp)) (by
  show ¬ (dE=bo\/dE=L);omega)
 have ub:bo<w8.heap.size:=(AlQ.1 kU).1;have e18:w8.heap.size<=b1:=by simpa using me
 have xi:w8.heap.size<=b2:=by simpa using kY
 have cI:∀ {w':World},Ai (λ k=>k=bo\/k=L) W1 w'->w'.cell? ⟨b1,0,none⟩=some (.int .i64 (xs.length:Int))/\w'.cell? ⟨b2,0,none⟩=some (.int .i64 (wd:Int)):=λ K =>
  ⟨K.cell (eB.cell (P9.cell 1 rfl rfl) (by simp)) (by show ¬ (b1=bo\/b1=L);omega),K.cell (eB.cell (P9.cell 0 rfl rfl) (by simp)) (by show ¬ (b2=bo\/b2=L);omega)⟩
 have hyp:∀ t,t<xs.length*wd->∀ wx,(Ai (λ k=>k=bo\/k=L) W1 wx/\wx.heap[bo]?=some (.cells (GH (Ey xs wd) m t) ty.uint8 (0,0))/\wx.heap[L]?=some (.loop rr)) ->
   O8 Tryz.prog L #[.int .i64 ((t / wd:Nat):Int),.int .i64 ((t % wd:Nat):Int)] (λ y w'=>y=true/\(Ai (λ k=>k=bo\/k=L) W1 w'/\w'.heap[bo]?=some (.cells (GH (Ey xs wd) m (t+1)) ty.uint8 (0,0))/\w'.heap[L]?=some (.loop rr))) wx:=by
  rintro t ht wx ⟨K,hO,hL⟩;have nk:0<wd:=Nat.pos_of_ne_zero (by rintro rfl;simp at ht);have fo:t / wd<xs.length:=(Nat.div_lt_iff_lt_mul nk).2 ht;have dA:t % wd<wd:=AlC _ nk;have gn:t / 8<m:=by omega
  refine hy _ _ _ wx hL ⟨hL,?_⟩;obtain⟨aY,hw11⟩:∃ aY,aY=wx.putObj L (.loop { rr with state:=.busy }):=⟨_,rfl⟩;rw [<- hw11];have eM:L<wx.heap.size:=(AlQ.1 hL).1;have eL:Ai (λ k=>k=L) wx aY:=by rw [hw11];exact AN _ _ _
  have iy:aY.heap[L]?=some (.loop { rr with state:=.busy }):=by rw [hw11];exact World.putObj_heap_same eM
  have K2:Ai (λ k=>k=bo\/k=L) W1 aY.drew:=(K.trans eL (λ k _ h=>.inr h)).drew;have fI:aY.drew.heap[bo]?=some (.cells (GH (Ey xs wd) m t) ty.uint8 (0,0)):=eL.at hO (by show ¬ bo=L;omega);refine⟨_,ug (K.trans eL (λ k _ h=>.inr h)),?_⟩;unfold QI;have et:IntKind.i64.wrap (IntKind.i64.wrap (((t / wd:Nat):Int)*(wd:Int))+((t % wd:Nat):Int))=(t:Int):=by
   have h1:((t / wd:Nat):Int)*(wd:Int)=((t / wd*wd:Nat):Int):=by rw [Al1]
   have h2:=Nat.div_add_mod t wd;rw [Alp] at h2;rw [h1];generalize t / wd*wd=q at h2;generalize t % wd=r' at h2;rw [wrap_i64 (n:=(q:Int)) (by omega) (by omega),wrap_i64 (by omega) (by omega)];omega
  have ed:Int.fdiv (t:Int) (2 ^ (min 3 64))=((t / 8:Nat):Int):=fdiv_pow t 3;rw [et,ed];refine⟨_,_,_,jG K2,⟨by omega,by omega⟩,?_⟩;rw [Ale];have ea:(⟨bo,0,none⟩:Addr).add (t / 8*1)=⟨bo,t / 8,none⟩:=by rw [Ay];simp
  obtain⟨p,rfl,hc⟩:=GZ (hl.grown (low K2)) fo;show ∃ n:Int,aY.drew.cell? ((⟨bo,0,none⟩:Addr).add (t / 8*1))=some (.int .u8 n)/\_;rw [ea];have aE:aY.drew.cell? ⟨bo,t / 8,none⟩=some (.int .u8 (Ub (Ey xs wd) t (t / 8):Int)):=by
   simp only [World.cell?,fI];simpa using Aa6 gn
  refine⟨_,aE,_,_,_,uh K2,⟨Al2 _,by exact_mod_cast fo⟩,_,by rw [Ale];exact hc,Al2 _,?_⟩;rw [AjM (by omega),Ale,Ale,Af1 (fY _ (AlS fo)) (by omega),AdW (AlC _ (by omega))];have eN:xs[t / wd].testBit (t % wd)=Ey xs wd t:=by simp [Ey,List.getD,fo]
  rw [eN];have ky:(Ey xs wd t).toNat*2 ^ (t % 8)<256:=by
   have:2 ^ (t % 8)<2 ^ 8:=AlV (by omega) (AlC _ (by omega));cases Ey xs wd t
   ·simp
   ·simpa using this
  rw [or8 (Y7 _ _ _) ky,Abp];refine⟨by omega,⟨by omega,by omega⟩,?_⟩;show DY ((⟨bo,0,none⟩:Addr).add (t / 8*1)) _ _ _;rw [ea];refine EZ fI (by rw [MC];exact gn) λ al kI j0=>?_;have iz:al.heap[L]?=some (.loop { rr with state:=.busy }):=kI.at (show aY.drew.heap[L]?=_ from iy) (by show ¬ L=bo;omega);refine⟨iz,rfl,?_⟩;rw [IU aA dW];rw [Aa7 _ rfl] at j0;have jV:L<al.heap.size:=(AlQ.1 iz).1;refine⟨(K2.trans kI (λ k _ h=>.inl h)).trans (AN _ _ _) (λ k _ h=>.inr h),?_,World.putObj_heap_same jV⟩;exact (World.putObj_heap_other (by omega)).trans j0
 refine (Xj (l:=L) (b1:=b1) (b2:=b2) hn hw (λ t wx=>Ai (λ k=>k=bo\/k=L) W1 wx/\wx.heap[bo]?=some (.cells (GH (Ey xs wd) m t) ty.uint8 (0,0))/\wx.heap[L]?=some (.loop rr))
  (λ t wx hj=>cI hj.1) (λ t wx hj=>⟨hj.1.drew,hj.2.1,hj.2.2⟩) hyp ⟨.refl _ _,kS,gX⟩).mono ?_
 rintro _ an ⟨_,rfl,il,mN,dN⟩;have jW:L<an.heap.size:=(AlQ.1 dN).1;refine⟨⟨_,rfl⟩,none,by rw [IU aA dW];exact dN,rfl,?_⟩;obtain⟨ah,hw15⟩:∃ ah,ah=an.putObj L (.loop { rr with state:=.exhausted,pending:=none }):=⟨_,rfl⟩;rw [<- hw15];have fu:Ai (λ k=>k=bo\/k=L) W1 ah:=by rw [hw15];exact il.trans (AN _ _ _) (λ k _ h=>.inr h)
 have mP:ah.heap[bo]?=some (.cells (GH (Ey xs wd) m (xs.length*wd)) ty.uint8 (0,0)):=by rw [hw15];exact (World.putObj_heap_other (by omega)).trans mN
 have gA:ah.heap[w9.heap.size]?=some (.deferred (some [])):=fu.at kP (by show ¬ (w9.heap.size=bo\/w9.heap.size=L);omega);have dm:=low fu;refine⟨_,_,_,jG fu,gA,some ⟨bo,0,none⟩,m,?_,?_⟩
 ·rw [BR,<- hmd]
 ·refine⟨⟨by simp,.inr ⟨bo,GH (Ey xs wd) m (xs.length*wd),rfl,(World.putObj_heap_other (by omega)).trans mP,?_,by omega,by rw [MC];omega,?_⟩⟩,λ k hk=>?_,dm.trans ((AN ah w9.heap.size _).below dm.size λ k hk he=>by omega)⟩
  ·rw [BR,<- hmd];exact Ak8 _
  ·have e:=Aa5 xs wd;rw [<- hmd] at e;rw [e,Alh,<- Alr (f:=Ag),List.take_length]
  ·cases hk;exact mh
end
theorem Afr{f:Nat->Bool}{m t:Nat}(h:f t=false):GH f m (t+1)=GH f m t:=by
 unfold GH;congr 1;apply List.map_congr_left;intro j _
 conv=>lhs;unfold Ub
 rw [if_neg (by simp [h])]
section
variable {w:World}{a:Option Addr}{c:Nat}{xs:List Nat}
theorem Is(hl:Rd w a (xs.map E1))(hn:xs.length<=4096){wd:Nat}(hw:wd<=64)(hx:∀ x∈xs,x<2 ^ wd) :
  Calls Tryz.prog f.AcJ #[.int .i64 (wd:Int),.slice a xs.length c] w (AG λ v w'=>∃ a' c',v=.tuple #[.slice a' (A5 xs wd).length c',.int .i64 0]/\Bm w w' (A5 xs wd) a' c'):=by
 have iS:(2:Nat) ^ wd<=2 ^ 64:=Alw (by omega) hw;have fY:∀ x∈xs,x<18446744073709551616:=λ x h=>AkY (hx x h) iS;have hm:xs.length*wd<=4096*64:=Al0 hn hw;obtain⟨m,hmd⟩:∃ m,m=DA xs.length wd:=⟨_,rfl⟩;have nR:m=(xs.length*wd+7) / 8:=hmd;apply R.Rv
 delta R.Ad R.B R.MG R.Cb R.D R.F R.H R.I R.Lu R.Ly R.O R.Qi R.Qui R.Rs R.S R.Am R.U R.W R.Wb R.Wu R.X;try dsimp only [R.Ps]
 refine (SF w (xs.length:Int) (wd:Int)).mono ?_;rintro _ w ⟨_,rfl,rfl,rfl⟩;rw [if_pos ⟨by omega,by omega,by omega,by omega⟩];refine⟨_,_,rfl,Ah (λ h=>absurd rfl h) (λ _=>?_)⟩;have em:((xs.length:Int)*(wd:Int)+7) / 8=(m:Int):=by
  rw [nR];have:((xs.length:Int)*(wd:Int))=((xs.length*wd:Nat):Int):=by norm_cast
  rw [this];omega
 rw [em];refine Ea tB (l:=(m:Int)) (c:=(m:Int)) (by omega) (by omega) (by omega) (by omega) λ bo w2 fO B2 kT=>?_;rw [Ale,Xq (Ey xs wd) m] at kT;rw [Ale];refine⟨_,_,_,rfl,?_⟩;have low:∀ {w':World},Ai (λ k=>k=bo) w2 w'->Below w.heap.size w w':=λ K=>B2.trans (K.below B2.size λ k hk h=>by omega);refine⟨λ s w3=>∃ i:Nat,i<=xs.length/\s=[.int .i64 (i:Int)]/\Ai (λ k=>k=bo) w2 w3/\w3.heap[bo]?=some (.cells (GH (Ey xs wd) m (i*wd)) ty.uint8 (0,0)),λ s _=>match s with
   | [.int _ i]=>xs.length-i.toNat
   | _=>0,⟨0,by omega,rfl,.refl _ _,by rw [Nat.zero_mul];exact kT⟩,?_⟩
 rintro _ w3 ⟨i,hi,hs,K3,gv⟩;cases hs;refine Aa (λ aB=>⟨⟨by omega,aB⟩,?_⟩) (λ aI=>?_)
 ·have aD:i<xs.length:=by omega
  have dI:=fY _ (AlS aD);obtain⟨p,rfl,hc⟩:=GZ (hl.grown (low K3)) aD;refine⟨_,by rw [Ale];exact hc,(RR w3 xs[i] wd dI hw).mono ?_⟩;rintro _ w4 ⟨_,rfl,rfl,rfl⟩;refine⟨_,rfl,As (Aa (λ _=>⟨⟨by omega,aB⟩,_,by rw [Ale];exact hc,?_⟩) (λ h=>absurd (hx _ (AlS aD)) h))⟩;refine⟨λ s w5=>∃ k:Nat,k<=wd/\s=[.int .u64 ((xs[i] / 2 ^ k:Nat):Int),.int .i64 (k:Int)]/\Ai (λ k=>k=bo) w2 w5/\w5.heap[bo]?=some (.cells (GH (Ey xs wd) m (i*wd+k)) ty.uint8 (0,0)),λ s _=>match s with
    | [_,.int _ k]=>wd-k.toNat
    | _=>0,⟨0,by omega,by simp,K3,gv⟩,?_⟩
  rintro _ _ w5 ⟨k,hk,hs,K5,fJ⟩;cases hs;refine Aa (λ ao=>?_) (λ br=>?_)
  ·have qJ:k<wd:=by omega
   have ob:i*wd+k<xs.length*wd:=by
    have:(i+1)*wd<=xs.length*wd:=Nat.mul_le_mul_right _ aD;rw [Nat.succ_mul] at this;omega
   have hle:xs[i] / 2 ^ k<=xs[i]:=AlU _ _;have e2:IntKind.u64.wrap (AlT ((xs[i] / 2 ^ k:Nat):Int) 2)=((xs[i] / 2 ^ (k+1):Nat):Int):=by
    rw [Nat.pow_succ,<- Nat.div_div_eq_div_mul];generalize xs[i] / 2 ^ k=y at hle;rw [AlP (by omega),Aj (by omega) (by omega)];omega
   rw [e2,Ae (by omega)];have tZ:Int.tmod ((xs[i] / 2 ^ k:Nat):Int) 2=((xs[i] / 2 ^ k % 2:Nat):Int):=by
    rw [Aly (Al2 _)]
    norm_cast
   rw [tZ];have eN:Ey xs wd (i*wd+k)=decide (xs[i] / 2 ^ k % 2=1):=by
    have h1:(i*wd+k) / wd=i:=by
     rw [Alp,Nat.mul_add_div (by omega),Nat.div_eq_of_lt qJ,Nat.add_zero]
    have h2:(i*wd+k) % wd=k:=by
     rw [Alp,Nat.mul_add_mod,Alk qJ]
    unfold Ey;rw [h1,h2,Nat.testBit_eq_decide_div_mod_eq];simp [List.getD,aD]
   obtain⟨t,ht⟩:∃ t,t=i*wd+k:=⟨_,rfl⟩;rw [<- ht] at eN fJ ob;have qO:∀ wx:World,Ai (λ k=>k=bo) w2 wx->wx.heap[bo]?=some (.cells (GH (Ey xs wd) m (t+1)) ty.uint8 (0,0)) ->
     ((∃ k':Nat,k'<=wd/\[Value.int .u64 ((xs[i] / 2 ^ (k+1):Nat):Int),.int .i64 ((k+1:Nat):Int)]=[.int .u64 ((xs[i] / 2 ^ k':Nat):Int),.int .i64 (k':Int)]/\Ai (λ k=>k=bo) w2 wx/\wx.heap[bo]?=some (.cells (GH (Ey xs wd) m (i*wd+k')) ty.uint8 (0,0)))/\wd-((k+1:Nat):Int).toNat<wd-((k:Nat):Int).toNat):=by
    intro wx K hO;refine⟨⟨k+1,by omega,rfl,K,by rw [<- Nat.add_assoc,<- ht];exact hO⟩,?_⟩;simp only [Ale];omega
   refine Ao (λ h1=>?_) (λ h1=>?_)
   ·have cI:Ey xs wd t=true:=by
     rw [eN];exact decide_eq_true (by exact_mod_cast h1)
    unfold QI;have et:IntKind.i64.wrap (IntKind.i64.wrap ((i:Int)*(wd:Int))+(k:Int))=(t:Int):=by
     have h1:(i:Int)*(wd:Int)=((i*wd:Nat):Int):=by rw [Al1]
     rw [h1,ht];generalize i*wd=q at ht;rw [wrap_i64 (n:=(q:Int)) (by omega) (by omega),wrap_i64 (by omega) (by omega)];omega
    have ed:IntKind.i64.wrap (AlT (t:Int) 8)=((t / 8:Nat):Int):=by
     rw [AlP (by omega),wrap_i64 (by omega) (by omega)];omega
    have er:Int.tmod (t:Int) 8=((t % 8:Nat):Int):=by
     rw [Aly (by omega)];omega
    rw [et,ed,er];have gn:t / 8<m:=by omega
    refine⟨⟨by omega,by omega⟩,?_⟩;rw [Ale,Ale];have ea:(⟨bo,0,none⟩:Addr).add (t / 8*1)=⟨bo,t / 8,none⟩:=by rw [Ay];simp
    have aE:w5.drew.cell? ((⟨bo,0,none⟩:Addr).add (t / 8*1))=some (.int .u8 (Ub (Ey xs wd) t (t / 8):Int)):=by
     rw [ea];have:w5.drew.heap[bo]?=some (.cells (GH (Ey xs wd) m t) ty.uint8 (0,0)):=fJ;simp only [World.cell?,this];simpa using Aa6 gn
    refine⟨by omega,_,aE,⟨by omega,by omega⟩,?_⟩;have mG:=AdW (b:=true) (s:=t % 8) (AlC _ (by omega));simp only [AlY,AlZ] at mG;rw [show (((1:Nat):Int))=1 from rfl] at mG;rw [mG];have ky:2 ^ (t % 8)<2 ^ 8:=AlV (by omega) (AlC _ (by omega));rw [or8 (Y7 _ _ _) ky];have dY:=Abp (Ey xs wd) t;rw [cI] at dY;simp only [AlY,AlZ] at dY;rw [dY];unfold Av;simp only;rw [ea];refine EZ (show w5.drew.heap[bo]?=_ from fJ) (by rw [MC];exact gn) λ w7 K7 gY=>?_;rw [Aa7 _ rfl] at gY;exact qO w7 (K5.drew.trans K7 (λ k _ h=>h)) gY
   ·have bg:Ey xs wd t=false:=by
     rw [eN];exact decide_eq_false (λ h=>h1 (by exact_mod_cast h))
    exact qO w5 K5 (by rw [Afr bg];exact fJ)
  ·have:k=wd:=by omega
   subst this;rw [Ae (by omega)];refine⟨⟨i+1,by omega,rfl,K5,by rw [Nat.succ_mul];exact fJ⟩,?_⟩;simp only [Ale];omega
 ·have:i=xs.length:=by omega
  subst this;have B3:=low K3;refine⟨some ⟨bo,0,none⟩,m,by rw [BR,<- hmd],⟨by simp,.inr ⟨bo,GH (Ey xs wd) m (xs.length*wd),rfl,gv,?_,by omega,by rw [MC];omega,?_⟩⟩,λ k hk=>?_,B3⟩
  ·rw [BR,<- hmd];exact Ak8 _
  ·have e:=Aa5 xs wd;rw [<- hmd] at e;rw [e,Alh,<- Alr (f:=Ag),List.take_length]
  ·cases hk;exact fO
end
end Go.Proofs.YtpnaifmmggnimaaGreatDoor
namespace Go.Proofs
set_option linter.unusedVariables false
set_option maxRecDepth 100000
open Go.RowKit Go.Maps Go.Sort Go.Shelf
def Tryz.Sv:Go.Shelf.Ren:=⟨fun | 7=>256 | 10=>272 | n=>n,fun | 23=>318 | 26=>9 | 3=>92 | 28=>321 | 0=>0 | 27=>320 | 33=>60 | 4=>4 | n=>n,fun | n=>n⟩
theorem Tryz.AdK:Go.Proofs.SlLaysZ.n7 Tryz.prog Tryz.Sv:={
 mixed:=by kernel_rfl
 f7:=⟨Tryz.f256.name,by decide,Tryz.func256.trans (congrArg some (by kernel_rfl))⟩
 f10:=⟨Tryz.f272.name,by decide,Tryz.func272.trans (congrArg some (by kernel_rfl))⟩
 t0:=Tryz.underlying0
 a0:=Tryz.isAgg0
 z0:=Tryz.sizeOf0
 v0:=Tryz.zeroValue0
 t4:=Tryz.underlying4
 a4:=Tryz.isAgg4
 z4:=Tryz.sizeOf4
 v4:=Tryz.zeroValue4
 t23:=Tryz.underlying318
 a23:=Tryz.isAgg318
 z23:=Tryz.sizeOf318
 v23:=Tryz.zeroValue318
 t26:=Tryz.underlying9
 a26:=Tryz.isAgg9
 z26:=Tryz.sizeOf9
 v26:=Tryz.zeroValue9
 t27:=Tryz.underlying320
 a27:=Tryz.isAgg320
 z27:=Tryz.sizeOf320
 v27:=Tryz.zeroValue320
 t28:=Tryz.underlying321
 a28:=Tryz.isAgg321
 z28:=Tryz.sizeOf321
 v28:=Tryz.zeroValue321
 t33:=Tryz.underlying60
 a33:=Tryz.isAgg60
 z33:=Tryz.sizeOf60
 v33:=Tryz.zeroValue60 }
def Tryz.Ny:Go.Shelf.Ren:=⟨fun | 6=>255 | 8=>270 | 9=>271 | 11=>284 | 13=>140 | 12=>285 | 23=>178 | 24=>179 | 14=>288 | 15=>289 | 16=>290 | 17=>291 | 18=>292 | 19=>293 | 20=>294 | 21=>295 | 22=>296 | 25=>297 | 26=>212 | 27=>213 | 28=>298 | 29=>299 | 30=>300 | 31=>301 | n=>n,fun | 26=>9 | 28=>321 | 24=>50 | 0=>0 | 3=>3 | 37=>163 | 48=>184 | 50=>92 | 4=>4 | 40=>236 | 39=>235 | 45=>138 | 5=>5 | 9=>9 | 51=>274 | 55=>278 | 57=>312 | 58=>313 | 33=>60 | n=>n,fun | n=>n⟩
theorem Tryz.Afx:Go.Proofs.SlLaysZ.n6 Tryz.prog Tryz.Ny:={
 mixed:=by kernel_rfl
 f6:=⟨Tryz.f255.name,by decide,Tryz.func255.trans (congrArg some (by kernel_rfl))⟩
 f8:=⟨Tryz.f270.name,by decide,Tryz.func270.trans (congrArg some (by kernel_rfl))⟩
 f11:=⟨Tryz.f284.name,by decide,Tryz.func284.trans (congrArg some (by kernel_rfl))⟩
 t0:=Tryz.underlying0
 a0:=Tryz.isAgg0
 z0:=Tryz.sizeOf0
 v0:=Tryz.zeroValue0
 t24:=Tryz.underlying50
 a24:=Tryz.isAgg50
 z24:=Tryz.sizeOf50
 v24:=Tryz.zeroValue50
 t26:=Tryz.underlying9
 a26:=Tryz.isAgg9
 z26:=Tryz.sizeOf9
 v26:=Tryz.zeroValue9
 t28:=Tryz.underlying321
 a28:=Tryz.isAgg321
 z28:=Tryz.sizeOf321
 v28:=Tryz.zeroValue321
 i26:=by kernel_rfl }
def Tryz.Abo:Go.Shelf.Ren:=⟨fun | 6=>271 | 8=>140 | 9=>285 | 19=>178 | 20=>179 | 21=>288 | 22=>289 | 23=>290 | 24=>291 | 25=>292 | 26=>293 | 27=>294 | 28=>295 | 29=>296 | 36=>297 | 31=>212 | 32=>213 | 37=>298 | 38=>299 | 39=>300 | 41=>301 | n=>n,fun | 27=>50 | 29=>9 | 3=>3 | 32=>163 | 26=>50 | 0=>0 | 44=>184 | 46=>92 | 4=>4 | 36=>236 | 35=>235 | 41=>138 | 5=>5 | 9=>9 | 53=>274 | 57=>278 | 63=>312 | 64=>313 | n=>n,fun | n=>n⟩
theorem Tryz.AdX:Go.Proofs.SlLaysM.n6 Tryz.prog Tryz.Abo:={
 mixed:=by kernel_rfl
 f6:=⟨Tryz.f271.name,by decide,Tryz.func271.trans (congrArg some (by kernel_rfl))⟩
 f8:=Tryz.func140.trans (congrArg some (by kernel_rfl))
 f9:=⟨Tryz.f285.name,by decide,Tryz.func285.trans (congrArg some (by kernel_rfl))⟩
 f19:=Tryz.func178.trans (congrArg some (by kernel_rfl))
 f20:=Tryz.func179.trans (congrArg some (by kernel_rfl))
 f21:=⟨Tryz.f288.name,by decide,Tryz.func288.trans (congrArg some (by kernel_rfl))⟩
 f22:=⟨Tryz.f289.name,by decide,Tryz.func289.trans (congrArg some (by kernel_rfl))⟩
 f23:=⟨Tryz.f290.name,by decide,Tryz.func290.trans (congrArg some (by kernel_rfl))⟩
 f24:=⟨Tryz.f291.name,by decide,Tryz.func291.trans (congrArg some (by kernel_rfl))⟩
 f25:=⟨Tryz.f292.name,by decide,Tryz.func292.trans (congrArg some (by kernel_rfl))⟩
 f26:=⟨Tryz.f293.name,by decide,Tryz.func293.trans (congrArg some (by kernel_rfl))⟩
 f27:=⟨Tryz.f294.name,by decide,Tryz.func294.trans (congrArg some (by kernel_rfl))⟩
 f28:=⟨Tryz.f295.name,by decide,Tryz.func295.trans (congrArg some (by kernel_rfl))⟩
 f29:=⟨Tryz.f296.name,by decide,Tryz.func296.trans (congrArg some (by kernel_rfl))⟩
 f31:=Tryz.func212.trans (congrArg some (by kernel_rfl))
 f32:=Tryz.func213.trans (congrArg some (by kernel_rfl))
 f36:=⟨Tryz.f297.name,by decide,Tryz.func297.trans (congrArg some (by kernel_rfl))⟩
 f37:=⟨Tryz.f298.name,by decide,Tryz.func298.trans (congrArg some (by kernel_rfl))⟩
 f38:=⟨Tryz.f299.name,by decide,Tryz.func299.trans (congrArg some (by kernel_rfl))⟩
 f39:=⟨Tryz.f300.name,by decide,Tryz.func300.trans (congrArg some (by kernel_rfl))⟩
 f41:=⟨Tryz.f301.name,by decide,Tryz.func301.trans (congrArg some (by kernel_rfl))⟩
 t0:=Tryz.underlying0
 a0:=Tryz.isAgg0
 z0:=Tryz.sizeOf0
 v0:=Tryz.zeroValue0
 t3:=Tryz.underlying3
 a3:=Tryz.isAgg3
 z3:=Tryz.sizeOf3
 v3:=Tryz.zeroValue3
 t4:=Tryz.underlying4
 a4:=Tryz.isAgg4
 z4:=Tryz.sizeOf4
 v4:=Tryz.zeroValue4
 t5:=Tryz.underlying5
 a5:=Tryz.isAgg5
 z5:=Tryz.sizeOf5
 v5:=Tryz.zeroValue5
 t9:=Tryz.underlying9
 a9:=Tryz.isAgg9
 z9:=Tryz.sizeOf9
 v9:=Tryz.zeroValue9
 t26:=Tryz.underlying50
 a26:=Tryz.isAgg50
 z26:=Tryz.sizeOf50
 v26:=Tryz.zeroValue50
 t27:=Tryz.underlying50
 a27:=Tryz.isAgg50
 z27:=Tryz.sizeOf50
 v27:=Tryz.zeroValue50
 t29:=Tryz.underlying9
 a29:=Tryz.isAgg9
 z29:=Tryz.sizeOf9
 v29:=Tryz.zeroValue9
 t32:=Tryz.underlying163
 a32:=Tryz.isAgg163
 z32:=Tryz.sizeOf163
 v32:=Tryz.zeroValue163
 t35:=Tryz.underlying235
 a35:=Tryz.isAgg235
 z35:=Tryz.sizeOf235
 v35:=Tryz.zeroValue235
 t36:=Tryz.underlying236
 a36:=Tryz.isAgg236
 z36:=Tryz.sizeOf236
 v36:=Tryz.zeroValue236
 t41:=Tryz.underlying138
 a41:=Tryz.isAgg138
 z41:=Tryz.sizeOf138
 v41:=Tryz.zeroValue138
 t44:=Tryz.underlying184
 a44:=Tryz.isAgg184
 z44:=Tryz.sizeOf184
 v44:=Tryz.zeroValue184
 t46:=Tryz.underlying92
 a46:=Tryz.isAgg92
 z46:=Tryz.sizeOf92
 v46:=Tryz.zeroValue92
 t53:=Tryz.underlying274
 a53:=Tryz.isAgg274
 z53:=Tryz.sizeOf274
 v53:=Tryz.zeroValue274
 t57:=Tryz.underlying278
 a57:=Tryz.isAgg278
 z57:=Tryz.sizeOf278
 v57:=Tryz.zeroValue278
 t63:=Tryz.underlying312
 a63:=Tryz.isAgg312
 z63:=Tryz.sizeOf312
 v63:=Tryz.zeroValue312
 t64:=Tryz.underlying313
 a64:=Tryz.isAgg313
 z64:=Tryz.sizeOf313
 v64:=Tryz.zeroValue313 }
theorem Tryz.Ahb(m:Nat):AnyZ.SortsIn Tryz.prog Tryz.Ny Fence.wide m :=
 ⟨λ CJ off cap ss W hH u' aw=>callsIn_wide.2 (AnyM.slices_Sort_string Tryz.AdX CJ off cap ss W hH u' aw),
 λ p cap W=>callsIn_wide.2 (AnyM.slices_Sort_string_none Tryz.AdX p cap W)⟩
theorem Tryz.Wa(mb:Option Nat)(W:World):CallsIn Fence.wide 5 Tryz.prog 256 #[.map mb] W λ e w'=>e=.returned (.func (.func 272) #[] #[.pointer (some ⟨W.heap.size,0,none⟩)])/\w'=W.alloc (.cells #[.map mb] 318) :=
 AnyZ.keys_in Tryz.AdK Fence.wide 5 trivial rfl mb W
set_option maxHeartbeats 1000000 in
theorem Tryz.H5{H:Type}(b nn:Nat)(D0:DataW H)(R:Value->Option (DataW H × List MemPlace))(w:World)(fW:w.ownsMap Tryz.prog 9 R b nn D0)(vj:Maps.size D0<=maxLen)(mi:Maps.size D0*16<=140737488355328) :
  CallsIn Fence.wide 5 Tryz.prog 255 #[.func (.func 272) #[] #[.pointer (some ⟨w.heap.size,0,none⟩)]] (w.alloc (.cells #[.map (some b)] 318)) λ e w'=>∃(v:Value) (ss:List (List UInt8)),e=.returned v/\ss.Perm (strKeys D0) /\
   w'.ownsRow (w.alloc (.cells #[.map (some b)] 318)).heap.size 9 1 v ss.length ((ss.mergeSort (λ x y=>decide (x<=y))).map encStr)/\(v=.slice none 0 0↔ss=[])/\Below (w.alloc (.cells #[.map (some b)] 318)).heap.size (w.alloc (.cells #[.map (some b)] 318)) w':=by
 have au:=fW.lt;have we:SeqGives Fence.wide 2 Tryz.prog 272 #[.pointer (some ⟨w.heap.size,0,none⟩)] encStr (λ ss=>ss.Perm (strKeys D0)) (Maps.size D0) (w.alloc (.cells #[.map (some b)] 318)) :=
  AnyZ.keys_gives (ρ:=Tryz.Sv) { Tryz.AdK with } Fence.wide _ trivial rfl (by omega) w.heap.size b nn D0 _ (by simp) (by simp) (by
   obtain⟨es,clock,hb,Ft,hs,hD⟩:=fW;exact⟨es,clock,(Below.heap_alloc _ _ b au).trans hb,Ft,hs,hD⟩)
 exact AnyZ.sorted_in Tryz.Afx Fence.wide 5 trivial trivial trivial trivial rfl (by omega) (Tryz.Ahb _) (enters_of Tryz.func271 (by kernel_rfl) rfl) 272 #[.pointer (some ⟨w.heap.size,0,none⟩)] trivial (enters_of Tryz.func272 (by kernel_rfl) rfl) _ _ vj mi _ we
end Go.Proofs
namespace Go.Dn
set_option linter.unusedVariables false
set_option maxRecDepth 100000
open Go.RowKit (Below)
open Go.Maps (has Tidy Keyed)
theorem Ai.of_grownBy{w w':World}{b:Nat}(h:w.grownBy w' (some b)):Ai (·=b) w w' :=
 ⟨h.os,h.tape,h.output,h.size,λ k hk hn=>h.block k hk (λ e=>hn (Option.some.inj e))⟩
def QN(P:Program)(k e:TypeId)(q:IntKind)(w:World)(b n:Nat)(g:List UInt8->Option Int):Prop :=
 ∃ D:DataW Unit,w.ownsMap P k (plainElem P e) b n D/\Tidy D/\∀ x,has D (.string x)=(g x).isSome/\D.atKey (.string x) (.lit (.int q 0))=.lit (.int q ((g x).getD 0))
section
variable {P:Program}{k e t:TypeId}{q:IntKind}{w:World}{b n:Nat}{g:List UInt8->Option Int}
theorem QN.kept(h:QN P k e q w b n g){F:Nat->Prop}{w':World}(K:Ai F w w')(hn:¬ F b):QN P k e q w' b n g:=by
 obtain⟨D,⟨es,clock,hb,r⟩,h2⟩:=h;exact⟨D,⟨es,clock,K.at hb hn,r⟩,h2⟩
theorem QN.lt(h:QN P k e q w b n g):b<w.heap.size:=by
 obtain⟨D,h,_⟩:=h;exact h.lt
theorem QN.put(h:QN P k e q w b n g)(hk:P.underlying k=some .string)(he:P.underlying e=some (.int q))(ht:P.underlying t=some (.map k e))(hn:n<maxLen){s:ByteArray}(hs:s.size<=maxLen){v:Int}(hv:(Lit.int q v).wf=true)
  {f:World->Prop} (hf:∀ w',Ai (·=b) w w'->QN P k e q w' b (n+1) (λ y=>if y=bl s then some v else g y)->f w'):OPU P (Instr.mapUpdate t (.map (some b)) (.string s) (.int q v)) f w:=by
 obtain⟨D,hD,hT,hg⟩:=h;have gF:keyOf P k (.string s)=some (.string (bl s)):=by simp [keyOf,hk,mapKey,hs,bl]
 obtain⟨w',aH,fW,bu⟩:=hD.update (Maps.string_keyed hk) ht hn gF (plainElem_int he hv);unfold OPU;rw [aH];have aO:WideAt.IsKeyLit (.string (bl s)):=by simp [WideAt.IsKeyLit]
 refine hf w' (.of_grownBy bu) ⟨_,fW,hT.put aO _,λ x=>?_⟩;by_cases hx:x=bl s
 ·subst hx;simp only [if_true];exact⟨Maps.has_put_same hT.isMap aO _,Maps.atKey_put_same hT.isMap aO _ _⟩
 ·have aQ:Lit.string x≠.string (bl s):=λ e=>hx (by injection e);simp only [hx,if_false];exact⟨(Maps.has_put_other aQ _).trans (hg x).1,(Maps.atKey_put_other aQ _ _).trans (hg x).2⟩
theorem QN.get(h:QN P k e q w b n g)(hk:P.underlying k=some .string)(he:P.underlying e=some (.int q))(ht:P.underlying t=some (.map k e))(hz:(zeroValue e).run P w=.ok (.int q 0) w){s:ByteArray}(hs:s.size<=maxLen)
  {f:Value->World->Prop} (hf:f (.int q ((g (bl s)).getD 0)) w):DB P (Instr.lookup t (.map (some b)) (.string s) false) f w:=by
 obtain⟨D,hD,hT,hg⟩:=h;have gF:keyOf P k (.string s)=some (.string (bl s)):=by simp [keyOf,hk,mapKey,hs,bl]
 obtain⟨c,aH,cU,_⟩:=hD.lookup_int (Maps.string_keyed hk) ht he hz gF;rw [(hg (bl s)).2] at cU;have:c=(g (bl s)).getD 0:=by injection cU with h1;injection h1 with _ h2;exact h2.symm
 unfold DB;rw [aH,this];exact hf
theorem QN.keys(h:QN P k e q w b n g)(hk:P.underlying k=some .string):∃ D:DataW Unit,w.ownsMap P k (plainElem P e) b n D/\Maps.size D<=n/\(strKeys D).Nodup/\∀ x,x∈strKeys D↔(g x).isSome=true:=by
 obtain⟨D,hD,hT,hg⟩:=h;obtain⟨es,e1,hpw⟩:=hT;obtain⟨es',fz,iC⟩:=hD.keysOf;obtain rfl:es=es':=by rw [e1] at fz;simpa using fz
 have l7:∀ p∈es,∃ x,p.1=.string x:=λ p hp=>by obtain⟨v,hv⟩:=iC p hp;obtain⟨x,_,hx,_⟩:=Maps.keyOf_str hk hv;exact⟨x,hx⟩
 have eS:(strKeys D).Nodup:=by
  rw [e1];show (es.map λ p=>strOf p.1).Nodup;refine List.pairwise_map.2 (hpw.imp_of_mem λ {p r} hp' kt aQ e=>aQ ?_);obtain⟨a,ha⟩:=l7 p hp';obtain⟨c,hc⟩:=l7 r kt;rw [ha,hc] at e ⊢;exact congrArg _ e
 refine⟨D,hD,?_,eS,λ x=>?_⟩
 ·obtain⟨es2,clock,_,_,hs,e2⟩:=hD;rw [e2];simp only [Maps.size,length_sorted,List.length_map,Array.length_toList];exact hs
 ·rw [<- (hg x).1,e1,Maps.has_eq,List.any_eq_true];show x∈es.map (λ p=>strOf p.1)↔_;rw [List.mem_map];constructor
  ·rintro⟨p,hp',rfl⟩;obtain⟨a,ha⟩:=l7 p hp';exact⟨p,hp',by rw [ha];simp [Lit.sameKey,strOf]⟩
  ·rintro⟨p,hp',hs⟩;obtain⟨a,ha⟩:=l7 p hp';rw [ha] at hs;exact⟨p,hp',by rw [ha];simpa [Lit.sameKey,strOf] using hs⟩
end
end Go.Dn
namespace Go.Proofs.YtpnaifmmggnimaaGreatDoor
open _root_.BitVec renaming ofInt -> AkK
open _root_.List renaming getElem?_eq_none -> Al3
open _root_.Nat renaming le_of_not_lt -> Al4, le_trans -> Als, mod_lt -> AlC, mul_comm -> Alp
set_option maxRecDepth 100000
open Go.Dn Go.Proofs
open Go.RowKit (Below)
set_option linter.unusedVariables false
theorem Abb{w:World}{base:Nat}{e:TypeId}{v:Value}{n:Nat}{xs:List Value}(h:w.ownsRow base e 1 v n xs):∃ a c,v=.slice a n c/\Row w e 1 a n c xs/\∀ k,AD a=some k->base<=k:=by
 obtain⟨hl,⟨rfl,rfl⟩ | ⟨g,cap,cur,rfl,hb,hg,h1,h2,h3,h4⟩⟩:=h
 ·exact⟨none,0,rfl,⟨hl,.inl ⟨rfl,rfl,rfl⟩⟩,by simp [AD]⟩
 ·refine⟨_,cap,rfl,⟨hl,.inr ⟨g,cur,rfl,hg,h1,?_,h3,h4⟩⟩,λ k hk=>?_⟩
  ·exact Als h2 (by decide)
  ·cases hk;exact hb
structure Em(ls t:List (List UInt8)):Prop where
 up:t.Pairwise (·<·)
 mem:∀ x,x∈t↔x∈ls
theorem GA{t:List (List UInt8)}(h:t.Pairwise (·<·)):t.Nodup:=h.imp λ {a b} j8 e=>by subst e;exact List.lt_irrefl _ j8
theorem Em.one{ls t u:List (List UInt8)}(h:Em ls t)(h':Em ls u):t=u:=by
 have hp:t.Perm u:=(List.perm_ext_iff_of_nodup (GA h.up) (GA h'.up)).2 λ x=>(h.mem x).trans (h'.mem x).symm;exact List.Perm.eq_of_pairwise (le:=λ a b=>a<b) (λ a b _ _ h1 h2=>absurd h2 (List.lt_asymm h1)) h.up h'.up hp
theorem Afo{ls ss:List (List UInt8)}(eS:ss.Nodup)(hm:∀ x,x∈ss↔x∈ls):Em ls (ss.mergeSort (λ x y=>decide (x<=y))):=by
 have tr:∀ a b c:List UInt8,leB a b=true->leB b c=true->leB a c=true:=λ a b c h1 h2=>by simp only [leB,decide_eq_true_eq] at *;exact List.le_trans h1 h2
 have to:∀ a b:List UInt8,(leB a b || leB b a)=true:=λ a b=>by simp only [leB,Bool.or_eq_true,decide_eq_true_eq];exact List.le_total a b
 have hs:=List.pairwise_mergeSort tr to ss;have hp:=List.mergeSort_perm ss leB;have hn:(ss.mergeSort leB).Nodup:=hp.nodup_iff.2 eS;refine⟨?_,λ x=>(hp.mem_iff).trans (hm x)⟩;refine (hs.and hn).imp λ {a b} ⟨h1,h2⟩=>?_;simp only [leB,decide_eq_true_eq] at h1;rcases Decidable.em (a<b) with h | h
 ·exact h
 ·exact absurd (List.le_antisymm h1 (List.not_lt.1 h)) h2
theorem J7:Tryz.prog.underlying ty.string=some .string:=by kernel_rfl
theorem Zg:Tryz.prog.underlying ty.uint64=some (.int .u64):=by kernel_rfl
abbrev Aen(w:World)(b n:Nat)(g:List UInt8->Option Int):Prop:=QN Tryz.prog ty.string ty.uint64 .u64 w b n g
theorem Wt{w:World}{b n:Nat}{g:List UInt8->Option Int}(h:Aen w b n g)(hn:n<=4096){ls:List (List UInt8)}(hg:∀ x,(g x).isSome=true↔x∈ls){k:Value->World->Prop}
  (hk:∀ a c t w',Em ls t->Row w' ty.string 1 a t.length c (t.map encStr)->(∀ k,AD a=some k->w.heap.size<=k)->Below w.heap.size w w'->k (.slice a t.length c) w') :
  Calls Tryz.prog f.Eb #[.map (some b)] w (λ e w1=>∃(fn:FuncId) (fi ca:Array Value),e=.returned (.func (.func fn) fi ca) /\
   Calls Tryz.prog f.Mj #[.func (.func fn) fi ca] w1 (λ e w2=>∃(a:Option Addr) (l c:Nat),e=.returned (.slice a l c)/\k (.slice a l c) w2)):=by
 obtain⟨D,hD,aw,eS,ag⟩:=h.keys J7;refine (callsIn_wide.1 (Tryz.Wa (some b) w)).mono ?_;rintro _ w1 ⟨rfl,rfl⟩;refine⟨_,_,_,rfl,(callsIn_wide.1 (Tryz.H5 b n D (plainElem Tryz.prog ty.uint64) w hD (Als (Als aw hn) (by decide)) (by omega))).mono ?_⟩;rintro _ w2 ⟨v,ss,rfl,lZ,aJ,_,hb⟩;obtain⟨a,c,rfl,hR,bG⟩:=Abb aJ;have hr:=Afo (ls:=ls) (lZ.nodup_iff.2 eS) (λ x=>(lZ.mem_iff).trans ((ag x).trans (hg x)));have hlen:(ss.mergeSort (λ x y=>decide (x<=y))).length=ss.length:=List.length_mergeSort _;have sz:w.heap.size<=(w.alloc (.cells #[.map (some b)] ty.Ev)).heap.size:=by simp
 refine⟨_,_,_,rfl,?_⟩;have:=hk a c _ w2 hr (by rw [hlen];exact hR) (λ k hk=>Als sz (bG k hk)) (((Below.refl _ w).alloc (Nat.le_refl _) _).trans (hb.mono sz));rwa [hlen] at this
def H6(v:AB):List Value:=[.int .i64 v.1,.int .i64 v.2.1,.string v.2.2]
def AkI(v:AB):Prop:=BL v/\v.2.2.size<=maxLen
theorem QU:Tryz.prog.cellsOf ty.int=1:=by kernel_rfl
theorem Si:Tryz.prog.cellsOf ty.int64=1:=by kernel_rfl
theorem Mw:Tryz.prog.cellsOf ty.string=1:=by kernel_rfl
theorem Aiy:Pu Tryz.prog ty.AW=some [(ty.int,0),(ty.int64,1),(ty.string,2)]:=by kernel_rfl
theorem Qu:Tryz.prog.underlying ty.int=some (.int .i64):=by kernel_rfl
theorem Sc:Tryz.prog.underlying ty.int64=some (.int .i64):=by kernel_rfl
theorem Aex:Tryz.prog.cellsOf ty.AW=3:=by kernel_rfl
theorem UL{w:World}:∀ m r,r.length=Tryz.prog.cellsOf ty.AW->Go.Dn.Good Tryz.prog w m ty.AW r->∃ x,r=H6 x/\AkI x:=by
 intro m r hl h;obtain⟨_,n,hf⟩:=h.fields Aiy;rw [Aex] at hl
 match r,hl with
 | [v0,v1,v2],_ =>
  simp only [List.mem_cons,List.not_mem_nil,or_false,forall_eq_or_imp,forall_eq,QU,Si,Mw] at hf;obtain⟨h0,h1,h2⟩:=hf;obtain⟨x0,e0,_⟩:=h0.int Qu;obtain⟨x1,e1,q1⟩:=h1.int Sc;obtain⟨x2,e2,q2⟩:=h2.str J7;have yk : -9223372036854775808<=x1/\x1<=9223372036854775807:=by simpa [Lit.wf,IntKind.min,IntKind.max,IntKind.signed,IntKind.bits] using q1
  refine⟨(x0,x1,x2),?_,⟨yk.1,yk.2⟩,q2⟩;simp at e0 e1 e2;simp [H6,e0,e1,e2]
def QF(f:Nat->Bool)(w:Nat):Nat->Nat->Nat
 | 0,_=>0
 | t+1,j=>if j=t / w/\f t=true then QF f w t j ||| 2 ^ (t % w) else QF f w t j
theorem Uc(f:Nat->Bool){w:Nat}(hw:0<w)(t i k:Nat):(QF f w t i).testBit k=(decide (k<w/\i*w+k<t) && f (i*w+k)):=by
 induction t with
 | zero=>simp [QF]
 | succ t ih =>
  unfold QF;have hd:=Nat.div_add_mod t w;have hm:=AlC t hw;rw [Alp] at hd;split
  ·rename_i h;obtain⟨rfl,hf⟩:=h;rw [Nat.testBit_or,ih,Nat.testBit_two_pow];by_cases hk:t % w=k
   ·subst hk;rw [hd];simp [hm,hf]
   ·have:¬ (t / w*w+k=t):=by omega
    rw [Bool.eq_iff_iff];simp [hk];intro _ _;omega
  ·rename_i h;rw [ih];by_cases hk:k<w/\i*w+k=t
   ·have hi:i=t / w:=by
     rw [<- hk.2,Alp,Nat.mul_add_div hw,Nat.div_eq_of_lt hk.1];rfl
    have hf:f t=false:=by
     cases bQ:f t
     ·rfl
     ·exact absurd ⟨hi,bQ⟩ h
    rw [hk.2,hf];simp
   ·rw [Bool.eq_iff_iff];simp;intro _ _;omega
theorem Ajh(f:Nat->Bool)(t j:Nat):Ub f t j=QF f 8 t j:=by
 induction t with
 | zero=>rfl
 | succ t ih=>unfold Ub QF;rw [ih]
theorem Adc(f:Nat->Bool){w:Nat}(hw:0<w)(t i:Nat):QF f w t i<2 ^ w:=by
 apply Nat.lt_pow_two_of_testBit;intro k hk;rw [Uc f hw];simp;intro h;omega
def DH(l:List UInt8)(t:Nat):Bool:=(l.getD (t / 8) 0).toNat.testBit (t % 8)
def BK(l:List UInt8)(n w:Nat):List Nat:=(List.range n).map (QF (DH l) w (n*w))
theorem Ch(l:List UInt8)(n w:Nat):(BK l n w).length=n:=by simp [BK]
theorem OV(l:List UInt8)(n w:Nat):∀ x∈BK l n w,x<2 ^ w:=by
 intro x hx;obtain⟨i,_,rfl⟩:=List.mem_map.1 hx;by_cases hw:0<w
 ·exact Adc _ hw _ _
 ·have:w=0:=by omega
  subst this;simp [QF]
theorem ZJ(l:List UInt8){n w t:Nat}(ht:t<n*w):Ey (BK l n w) w t=DH l t:=by
 have hw:0<w:=Nat.pos_of_ne_zero (by rintro rfl;simp at ht);have hi:t / w<n:=(Nat.div_lt_iff_lt_mul hw).2 ht;have hd:=Nat.div_add_mod t w;have hm:=AlC t hw;rw [Alp] at hd;unfold Ey;have:(BK l n w).getD (t / w) 0=QF (DH l) w (n*w) (t / w):=by simp [BK,hi]
 rw [this,Uc _ hw,hd];simp [hm,ht]
theorem OT{c:UInt8}{k:Nat}(hk:8<=k):c.toNat.testBit k=false :=
 Nat.testBit_lt_two_pow (Nat.lt_of_lt_of_le c.toNat_lt (Nat.pow_le_pow_right (by omega) hk))
theorem Ajo{c d:UInt8}(h:∀ k,k<8->c.toNat.testBit k=d.toNat.testBit k):c=d:=by
 apply UInt8.toNat_inj.1;apply Nat.eq_of_testBit_eq;intro k;by_cases hk:k<8
 ·exact h k hk
 ·rw [OT (by omega),OT (by omega)]
theorem U7{xs:List Nat}{w j:Nat}(hj:j<DA xs.length w):(A5 xs w)[j]?=some (UInt8.ofNat (Ub (Ey xs w) (xs.length*w) j)):=by
 simp [A5,hj]
theorem U6{xs:List Nat}{w j k:Nat}(hk:k<8):(UInt8.ofNat (Ub (Ey xs w) (xs.length*w) j)).toNat.testBit k=(decide (j*8+k<xs.length*w) && Ey xs w (j*8+k)):=by
 rw [ES (Y7 _ _ _),Ajh,Uc _ (by omega)];simp [hk]
theorem Ahl{l:List UInt8}{n w:Nat}(hl:l.length=DA n w):A5 (BK l n w) w=l↔∀ t,n*w<=t->DH l t=false:=by
 have hs:DA (BK l n w).length w=l.length:=by rw [Ch,hl]
 have hN:l.length=(n*w+7) / 8:=hl;constructor
 ·intro h t ht;by_cases hj:t / 8<l.length
  ·have h1:(A5 (BK l n w) w)[t / 8]?=l[t / 8]?:=by rw [h]
   rw [U7 (by omega),List.getElem?_eq_getElem hj] at h1;have h2:=Option.some.inj h1;unfold DH;have:l.getD (t / 8) 0=l[t / 8]:=by simp [hj]
   rw [this,<- h2,U6 (AlC _ (by omega)),Ch];have:¬ (t / 8*8+t % 8<n*w):=by omega
   simp [this]
  ·unfold DH;have:l.getD (t / 8) 0=0:=by simp [List.getD,Al3 (Al4 hj)]
   rw [this];simp
 ·intro h;apply List.ext_getElem?;intro j;by_cases hj:j<l.length
  ·rw [U7 (by omega),List.getElem?_eq_getElem hj];congr 1;apply Ajo;intro k hk;rw [U6 hk,Ch];have hb:DH l (j*8+k)=l[j].toNat.testBit k:=by
    unfold DH;rw [show (j*8+k) / 8=j by omega,show (j*8+k) % 8=k by omega];simp [hj]
   by_cases ht:j*8+k<n*w
   ·rw [ZJ l ht,hb];simp [ht]
   ·have:=h _ (Al4 ht);rw [<- hb,this];simp [ht]
  ·rw [Al3 (by rw [BR];omega),Al3 (by omega)]
theorem AfB{l:List UInt8}{T:Nat}(hl:l.length=(T+7) / 8):(∀ t,T<=t->DH l t=false)↔(0<l.length->T % 8≠0->(l.getD (l.length-1) 0).toNat / 2 ^ (T % 8)=0):=by
 constructor
 ·intro h h0 h8;apply Nat.eq_of_testBit_eq;intro k;rw [Nat.testBit_div_two_pow,Nat.zero_testBit];by_cases hk:T % 8+k<8
  ·have:=h (T+k) (by omega);unfold DH at this;rw [show (T+k) / 8=l.length-1 by omega,show (T+k) % 8=T % 8+k by omega] at this;rw [Nat.add_comm];exact this
  ·exact OT (by omega)
 ·intro h t ht;unfold DH;by_cases hj:t / 8<l.length
  ·have h8:T % 8≠0:=by omega
   have:=h (by omega) h8;have e:t / 8=l.length-1:=by omega
   rw [e];have h2:((l.getD (l.length-1) 0).toNat / 2 ^ (T % 8)).testBit (t % 8-T % 8)=false:=by rw [this,Nat.zero_testBit]
   rw [Nat.testBit_div_two_pow] at h2;rw [show t % 8-T % 8+T % 8=t % 8 by omega] at h2;exact h2
  ·have:l.getD (t / 8) 0=0:=by simp [List.getD,Al3 (Al4 hj)]
   rw [this];simp
/-! ### rows of numbers -/
def Hm(f:Nat->Bool)(w m t:Nat):Array Value:=⟨(List.range m).map λ j=>.int .u64 (QF f w t j:Int)⟩
theorem Xr(f:Nat->Bool)(w m t:Nat):(Hm f w m t).size=m:=by simp [Hm]
theorem Aa9{f:Nat->Bool}{w m t j:Nat}(h:j<m):(Hm f w m t)[j]?=some (.int .u64 (QF f w t j:Int)):=by simp [Hm,h]
theorem Aba{f:Nat->Bool}{w m t:Nat}(v:Nat)(hv:v=QF f w (t+1) (t / w)):(Hm f w m t).setIfInBounds (t / w) (.int .u64 (v:Int))=Hm f w m (t+1):=by
 apply Array.ext';apply List.ext_getElem?;intro i;simp only [Array.toList_setIfInBounds,Hm,List.getElem?_set,List.length_map,List.length_range];by_cases h:t / w=i
 ·subst h;by_cases h2:t / w<m
  ·simp [h2,hv]
  ·simp [h2]
 ·have e:QF f w (t+1) i=QF f w t i:=by
   conv=>lhs;unfold QF
   rw [if_neg (by omega)]
  by_cases h2:i<m
  ·simp [h,h2,e]
  ·simp [h,h2]
theorem Afs{f:Nat->Bool}{w m t:Nat}(h:f t=false):Hm f w m (t+1)=Hm f w m t:=by
 unfold Hm;congr 1;apply List.map_congr_left;intro j _
 conv=>lhs;unfold QF
 rw [if_neg (by simp [h])]
theorem Xs(f:Nat->Bool)(w m:Nat):madeCells (Value.int .u64 0).cells (m*1)=Hm f w m 0:=by
 apply Array.ext';rw [El _ rfl];simp [Hm,QF,List.map_const']
theorem Aa8(l:List UInt8)(n w:Nat):(Hm (DH l) w n (n*w)).toList=(BK l n w).map E1:=by
 simp [Hm,BK,E1]
theorem Abr(f:Nat->Bool)(w t:Nat):QF f w t (t / w) ||| (f t).toNat*2 ^ (t % w)=QF f w (t+1) (t / w):=by
 conv=>rhs;unfold QF
 cases h:f t
 ·simp
 ·simp
/-! ### words -/
theorem WN{x k:Nat}(hx:x<256)(hk:k<8):IntKind.u8.wrap (((AkK 8 (Int.fdiv (x:Int) (2 ^ (min k 8))) &&& AkK 8 1).toNat:Int))=((x.testBit k).toNat:Int):=by
 rw [show min k 8=k by omega,fdiv_pow];have hle:x / 2 ^ k<=x:=Nat.div_le_self _ _;have e:(AkK 8 ((x / 2 ^ k:Nat):Int) &&& AkK 8 1).toNat=x / 2 ^ k % 2:=by
  rw [BitVec.toNat_and,BitVec.ofInt_natCast,BitVec.toNat_ofNat,Nat.mod_eq_of_lt (by omega)];exact Nat.and_two_pow_sub_one_eq_mod _ 1
 rw [e];have hm:x / 2 ^ k % 2<2:=AlC _ (by omega);rw [Nat.testBit_eq_decide_div_mod_eq];generalize x / 2 ^ k % 2=y at hm;rw [AE (by omega) (by omega)];rcases (by omega:y=0\/y=1) with rfl | rfl <;> rfl
theorem Xv{b:Bool}{s:Nat}(hs:s<64):IntKind.u64.wrap (IntKind.u64.wrap (b.toNat:Int)*2 ^ (min s 64))=((b.toNat*2 ^ s:Nat):Int):=by
 have hp:2 ^ s<2 ^ 64:=Nat.pow_lt_pow_right (by omega) hs;rw [show min s 64=s by omega,show IntKind.u64.wrap (b.toNat:Int)=(b.toNat:Int) by cases b <;> decide];have e:((b.toNat:Int)*2 ^ s)=((b.toNat*2 ^ s:Nat):Int):=by norm_cast
 rw [e];cases b
 ·simp;decide
 ·simp only [Bool.toNat_true,Nat.one_mul];generalize 2 ^ s=y at hp;rw [Aj (by omega) (by omega)]
end Go.Proofs.YtpnaifmmggnimaaGreatDoor
namespace Go.Proofs.YtpnaifmmggnimaaGreatDoor
open _root_.BitVec renaming ofInt -> AkK
set_option maxRecDepth 100000
open Go.Dn Go.Proofs
open Go.RowKit (Below)
set_option linter.unusedVariables false
/-! ### what package-level variables hold -/
/-! ### Number, Signed, Text -/
def D8(n:Int):Nat:=if n<0 then (-(2*n)-1).toNat else (2*n).toNat
theorem F2{n:Int}(h1 : -9223372036854775808<=n)(h2:n<=9223372036854775807):D8 n<18446744073709551616:=by unfold D8;split <;> omega
theorem AbQ{n:Int}(h1 : -9223372036854775808<=n)(h2:n<=9223372036854775807) :
  IntKind.u64.wrap (((AkK 64 (IntKind.u64.wrap (IntKind.i64.wrap (n*2 ^ (min 1 64)))) ^^^ AkK 64 (IntKind.u64.wrap (Int.fdiv n (2 ^ (min 63 64))))).toNat:Int))=(D8 n:Int):=by
 have e1:IntKind.u64.wrap (IntKind.i64.wrap (n*2 ^ (min 1 64)))=(2*n) % 18446744073709551616:=by
  rw [wrap_u64,CY];have:n*2 ^ (min 1 64)=2*n:=by rw [show (2:Int) ^ (min 1 64)=2 from rfl];omega
  rw [this];split <;> omega
 rw [e1];by_cases hn:n<0
 ·have e2:Int.fdiv n (2 ^ (min 63 64)) = -1:=by
   rw [Int.fdiv_eq_ediv_of_nonneg _ (by decide),show (2:Int) ^ (min 63 64)=9223372036854775808 from rfl];omega
  rw [e2,show IntKind.u64.wrap (-1)=18446744073709551615 by decide];obtain⟨m,hm⟩:∃ m:Nat,(2*n) % 18446744073709551616=(m:Int):=⟨((2*n) % 18446744073709551616).toNat,by omega⟩;have hmlt:m<18446744073709551616:=by omega
  rw [hm,show AkK 64 18446744073709551615=BitVec.allOnes 64 by decide,BitVec.xor_allOnes,BitVec.toNat_not,BitVec.ofInt_natCast,BitVec.toNat_ofNat,Nat.mod_eq_of_lt (by omega),Aj (by omega) (by omega)];unfold D8;rw [if_pos hn];omega
 ·have e2:Int.fdiv n (2 ^ (min 63 64))=0:=by
   rw [Int.fdiv_eq_ediv_of_nonneg _ (by decide),show (2:Int) ^ (min 63 64)=9223372036854775808 from rfl];omega
  obtain⟨m,rfl⟩:∃ m:Nat,n=(m:Int):=⟨n.toNat,by omega⟩;rw [e2,show IntKind.u64.wrap 0=0 by decide,show AkK 64 0=0#64 by decide,BitVec.xor_zero];have:(2*(m:Int)) % 18446744073709551616=((2*m:Nat):Int):=by omega
  rw [this,BitVec.ofInt_natCast,BitVec.toNat_ofNat,Nat.mod_eq_of_lt (by omega),Aj (by omega) (by omega)];unfold D8;rw [if_neg hn];omega
theorem F0{w:World}{a:Option Addr}{c:Nat}(l:List UInt8)(hl:Rd w a (l.map Ag))(n:Int)(h1 : -9223372036854775808<=n)(h2:n<=9223372036854775807)(hs:l.length+10<=140737488355328) :
  Calls Tryz.prog f.SU #[.slice a l.length c,.int .i64 n] w (AG λ v w'=>∃ a c,v=.slice a (l++Af (D8 n)).length c/\Bm w w' (l++Af (D8 n)) a c):=by
 apply R.Qx
 delta R.Cs R.S R.U R.W R.Wu;try dsimp only [R.Ps]
 rw [AbQ h1 h2];refine (Bg l hl (D8 n) (F2 h1 h2) hs).mono ?_;rintro _ w1 ⟨_,rfl,a1,c1,rfl,h⟩;exact⟨_,_,_,rfl,a1,c1,rfl,h⟩
/-! ### Lay -/
/-! ### Show -/
end Go.Proofs.YtpnaifmmggnimaaGreatDoor
namespace Go.Proofs.YtpnaifmmggnimaaGreatDoor
open _root_.List renaming length_append -> Alb, length_cons -> Ald, length_drop -> AlE, mem_cons_of_mem -> AlO, mem_cons_self -> AlN
set_option maxRecDepth 100000
open Go.Dn Go.Proofs
open Go.RowKit (Below)
set_option linter.unusedVariables false
def EE(x:Int):Value:=.int .i64 x
def Fs(x:Int):Prop := -9223372036854775808<=x/\x<=9223372036854775807
theorem F1(x:Int):Fs (IntKind.i64.wrap x):=by
 rw [CY];unfold Fs;split <;> omega
def Fi(x:Nat):Nat:=if x=0 then 0 else Nat.log2 x+1
theorem T1(x:Nat):DL x (Fi x):=by
 unfold Fi;split
 ·rename_i h;subst h;exact⟨by decide,.inl rfl⟩
 ·rename_i h;exact⟨Nat.lt_log2_self,.inr (by rw [Nat.add_sub_cancel];exact Nat.log2_self_le h)⟩
def En(x:Int):List UInt8:=Af (D8 x)
theorem Vw{x:Int}(h:Fs x):(En x).length<=10:=Al (F2 h.1 h.2)
def E8:List Int->List UInt8
 | []=>[]
 | x :: r=>Af ((r.takeWhile (·==x)).length+1)++(En x++E8 (r.drop (r.takeWhile (·==x)).length))
termination_by l=>l.length
decreasing_by simp only [AlE,Ald];omega
structure Adr(l:List Int)(k n:Nat):Prop where
 pos:0<n
 le:k+n<=l.length
 all:∀ j,j<n->l[k+j]?=l[k]?
 stop:k+n=l.length\/l[k+n]?≠l[k]?
theorem NF{x:Int}:∀ {r:List Int} {n:Nat},n<=r.length->(∀ j,j<n->r[j]?=some x)->(n=r.length\/r[n]?≠some x)->(r.takeWhile (·==x)).length=n
 | [],n,h1,_,_=>by simp at h1;simp [h1]
 | y :: r,0,_,_,h3=>by
  rcases h3 with h3 | h3
  ·simp at h3
  ·simp only [List.getElem?_cons_zero,ne_eq,Option.some.injEq] at h3;rw [List.takeWhile_cons_of_neg (by simpa using h3)];rfl
 | y :: r,n+1,h1,h2,h3=>by
  have h0:=h2 0 (by omega);simp only [List.getElem?_cons_zero,Option.some.injEq] at h0;rw [List.takeWhile_cons_of_pos (by simpa using h0),Ald];rw [NF (r:=r) (n:=n) (by simpa using h1) (λ j hj=>by have:=h2 (j+1) (by omega);simpa using this) (by
   rcases h3 with h3 | h3
   ·exact .inl (by simpa using h3)
   ·exact .inr (by simpa using h3))]
theorem Abg{l:List Int}{k n:Nat}(h:Adr l k n):E8 (l.drop k)=Af n++(En (l.getD k 0)++E8 (l.drop (k+n))):=by
 have hp:=h.pos;have hl:=h.le;have hk:k<l.length:=by omega
 have hg:l.getD k 0=l[k]:=by simp [hk]
 have hk?:l[k]?=some l[k]:=List.getElem?_eq_getElem hk;rw [List.drop_eq_getElem_cons hk,hg]
 conv=>lhs;unfold E8
 have hT:((l.drop (k+1)).takeWhile (·==l[k])).length=n-1:=by
  apply NF
  ·rw [AlE];omega
  ·intro j hj;rw [List.getElem?_drop,<- hk?,<- h.all (j+1) (by omega)];congr 1;omega
  ·rcases h.stop with h3 | h3
   ·left;rw [AlE];omega
   ·right;rw [List.getElem?_drop,<- hk?];have e:k+1+(n-1)=k+n:=by omega
    rw [e];exact h3
 rw [hT,List.drop_drop,show n-1+1=n by omega,show k+1+(n-1)=k+n by omega]
theorem Ji:E8 []=[]:=by unfold E8;rfl
def Bz(l:List Int):List Nat:=(List.range (l.length-1)).map λ i=>D8 (IntKind.i64.wrap (l.getD (i+1) 0-l.getD i 0))
def E7(l:List Int)(k:Nat):Int:=(l.take k).foldl (λ m x=>if x<m then x else m) (l.headD 0)
def FK(l:List Int):Int:=E7 l l.length
def BI(l:List Int):List Nat:=l.map λ x=>(x-FK l).toNat
theorem N0{l:List Int}{k:Nat}(hk:k<l.length):E7 l (k+1)=if l[k]<E7 l k then l[k] else E7 l k:=by
 unfold E7;rw [List.take_succ_eq_append_getElem hk,List.foldl_append];rfl
theorem JC(l:List Int):∀ m:Int,l.foldl (λ m x=>if x<m then x else m) m<=m/\(∀ x∈l,l.foldl (λ m x=>if x<m then x else m) m<=x)/\(l.foldl (λ m x=>if x<m then x else m) m=m\/l.foldl (λ m x=>if x<m then x else m) m∈l):=by
 induction l with
 | nil=>intro m;simp
 | cons y l ih =>
  intro m;obtain⟨h1,h2,h3⟩:=ih (if y<m then y else m);rw [List.foldl_cons];refine⟨?_,?_,?_⟩
  ·refine Int.le_trans h1 ?_;split <;> omega
  ·intro x hx;rcases List.mem_cons.1 hx with rfl | hx
   ·refine Int.le_trans h1 ?_;split <;> omega
   ·exact h2 x hx
  ·rcases h3 with h3 | h3
   ·rw [h3];split
    ·right;exact AlN ..
    ·left;rfl
   ·right;exact AlO _ h3
theorem MB{l:List Int}{x:Int}(h:x∈l):FK l<=x:=by
 unfold FK E7;rw [List.take_length];exact (JC l _).2.1 x h
theorem DT{l:List Int}(h:∀ x∈l,Fs x)(h0:0<l.length)(k:Nat):Fs (E7 l k):=by
 unfold E7;have hh:Fs (l.headD 0):=by
  cases l with
  | nil=>simp at h0
  | cons y l=>exact h y (AlN ..)
 rcases (JC (l.take k) (l.headD 0)).2.2 with e | e
 ·rw [e];exact hh
 ·exact h _ (List.mem_of_mem_take e)
theorem MF{l:List Int}:∀ x∈Bz l,x<18446744073709551616:=by
 intro x hx;obtain⟨i,_,rfl⟩:=List.mem_map.1 hx;have:=F1 (l.getD (i+1) 0-l.getD i 0);exact F2 this.1 this.2
theorem My{l:List Int}(h:∀ x∈l,Fs x):∀ x∈BI l,x<18446744073709551616:=by
 intro x hx;obtain⟨y,hy,rfl⟩:=List.mem_map.1 hx;have h1:=h y hy;have h2:=DT h (List.length_pos_of_mem hy) l.length;have h3:=MB hy;unfold FK at h3 ⊢;unfold Fs at h1 h2;omega
def CM(first:Int)(s:List Nat):List UInt8:=En first++(UInt8.ofNat (Fi (Ic s)) :: A5 s (Fi (Ic s)))
def DR(form:Nat)(l:List Int):List UInt8 :=
 match form with
 | 0=>0 :: l.flatMap En
 | 1=>1 :: E8 l
 | 2=>2 :: (if l=[] then [] else CM (l.headD 0) (Bz l))
 | _=>3 :: (if l=[] then [] else CM (FK l) (BI l))
theorem Rf{s:List Nat}(h:∀ x∈s,x<18446744073709551616):Fi (Ic s)<=64:=(T1 _).le.2 ((HQ s 64).2 h)
theorem SA{f:Int}{s:List Nat}(hf:Fs f)(h:∀ x∈s,x<18446744073709551616):(CM f s).length<=12+s.length*8:=by
 have h1:=Vw hf;have h2:=BR s (Fi (Ic s));have h3:=Rf h;unfold CM;simp only [Alb,Ald];unfold DA at h2;have h4:s.length*Fi (Ic s)<=s.length*64:=Nat.mul_le_mul_left _ h3;omega
theorem Lw{l:List Int}(h:∀ x∈l,Fs x):(l.flatMap En).length<=l.length*10:=by
 induction l with
 | nil=>simp
 | cons x l ih =>
  have h1:=Vw (h x (AlN ..));have h2:=ih λ y hy=>h y (AlO _ hy);simp only [List.flatMap_cons,Alb,Ald];omega
theorem MD:∀(n:Nat) (l:List Int),l.length<=n->n<=4096->(∀ x∈l,Fs x)->(E8 l).length<=l.length*20
 | _,[],_,_,_=>by rw [Ji];simp
 | 0,x :: l,h,_,_=>by simp at h
 | n+1,x :: l,h,hn,hx=>by
  unfold E8;have h1:=Vw (hx x (AlN ..));have hT:(l.takeWhile (·==x)).length<=l.length:=(List.takeWhile_sublist _).length_le;have hl:l.length<=n:=by simpa using h
  have h2:=Al (n:=(l.takeWhile (·==x)).length+1) (by omega);have h3:=MD n (l.drop (l.takeWhile (·==x)).length) (by rw [AlE];omega) (by omega) (λ y hy=>hx y (AlO _ (List.mem_of_mem_drop hy)));rw [AlE] at h3;simp only [Alb,Ald];omega
theorem AeU{l:List Int}(f:Nat)(hn:l.length<=4096)(h:∀ x∈l,Fs x):(DR f l).length<=13+l.length*20:=by
 unfold DR;split
 ·have:=Lw h;simp only [Ald];omega
 ·have:=MD 4096 l hn (by omega) h;simp only [Ald];omega
 ·split
  ·simp only [Ald,List.length_nil];omega
  ·rename_i h0;have hp:0<l.length:=List.length_pos_iff.2 h0;have h1:Fs (l.headD 0):=by
    have:=DT h hp 0;simpa [E7] using this
   have:=SA h1 (MF (l:=l));have e:(Bz l).length=l.length-1:=by simp [Bz]
   rw [e] at this;simp only [Ald];omega
 ·split
  ·simp only [Ald,List.length_nil];omega
  ·rename_i h0;have hp:0<l.length:=List.length_pos_iff.2 h0;have:=SA (DT h hp l.length) (My h);have e:(BI l).length=l.length:=by simp [BI]
   rw [e] at this;unfold FK;simp only [Ald];omega
end Go.Proofs.YtpnaifmmggnimaaGreatDoor
