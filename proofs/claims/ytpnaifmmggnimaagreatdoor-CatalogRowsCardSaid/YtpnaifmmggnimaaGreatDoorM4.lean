/-
  Texts of this claim, laid one behind the other by a program of mine (install.py): G.Hash8, G.Hash9, G.Hash10, G.Hash11, G.Sch1, G.Shelf, G.Sch2, G.Sch3, G.Sch4, G.Sch5, Dn.Open, G.Val, G.ValB, G.Len, G.Width, G.Pack, G.Pack2, G.Pack3, G.Iter, Dn.Maps, G.Rise, G.ValA, G.Bits, G.Sig, G.IntsL.
-/
import Derived.Test.YtpnaifmmggnimaaGreatDoorM3
import Derived.Shelf.Small.Strs
import Derived.Shelf.Strings.Search1
import Derived.Shelf.Strings.AsciiSet
import Derived.Test.YtpnaifmmggnimaaGreatDoorProg
import Derived.ChangeArms
import Derived.Deep.Slices
import Derived.OpenShut
import Derived.Shelf.SlIter.Nil
import Derived.Shelf.SortM.Plain
import Derived.Shelf.SortM.SortNone
import Derived.Ground.GgzProg
import Derived.Ground.SlgmProg
import Derived.Maps.Own
import Derived.Maps.Views
import Derived.Sort.KeysCollected
namespace Go.Proofs.YtpnaifmmggnimaaGreatDoor
open _root_.BitVec renaming ofInt -> AkA, ofNat -> Alg
open _root_.Bool renaming eq_iff_iff -> Alz
open _root_.Int renaming toNat_natCast -> Ak4
open _root_.List renaming length_map -> Alh, length_set -> Ak8, range -> AlB, replicate -> AkZ, take_of_length_le -> AlA
open _root_.Nat renaming le_trans -> Ali, mul_one -> Ak7
set_option maxRecDepth 100000
open Go.Dn Go.Proofs
open Go.RowKit (Below)
set_option linter.unusedVariables false
theorem _root_.Go.Dn.SH.Ag5{F:Nat->Prop}{w0 w:World}{H:List Y9}(S:SH F w0 w H){w':World}(B:Below w.heap.size w w'){b:Nat}{cs:Array Value}{t:TypeId}(hb:w.heap.size<=b)(hc:w'.heap[b]?=some (.cells cs t (0,0))) :
  SH F w0 w' ((b,cs,t) :: H) where
 keeps:=(S.grown B).keeps
 mem:=by
  intro x hx;rcases List.mem_cons.1 hx with rfl | hx
  ·exact hc
  ·exact (S.grown B).mem x hx
 nodup:=by
  rw [List.map_cons,List.nodup_cons];refine⟨λ hm=>?_,S.nodup⟩;obtain⟨x,hx,he⟩:=List.mem_map.1 hm;have h1:=S.lt hx;have h2:x.1=b:=he;omega
 own:=by
  intro x hx;rcases List.mem_cons.1 hx with rfl | hx
  ·exact .inr (Ali S.keeps.size hb)
  ·exact S.own x hx
theorem Xz(w:World):Calls Tryz.prog f.AaP #[] w (AG λ v w'=>∃ b,v=.slice (some ⟨b,0,none⟩) 8 8/\w.heap.size<=b/\w'.heap[b]?=some (.cells ⟨Ca.map wV⟩ 184 (0,0))/\Below w.heap.size w w'):=by
 apply R.Qf
 delta R.J R.N R.S R.V;try dsimp only [R.Ps]
 refine (SH.start (λ _=>False) w).An λ b1 w1 hb B S=>⟨b1,rfl,hb,?_,B⟩;exact S.get 0 rfl
theorem AeY{w:World}{b:Nat}{cs:List Value}(h:Rd w (some ⟨b,0,none⟩) cs):holds (KQ ⟨b,0,none⟩ cs 0) w:=by
 refine (ET _ w cs 0).2 λ j v hj=>?_;obtain⟨p,hp,hc⟩:=h j v hj;cases hp;rw [Nat.zero_add];exact hc
set_option maxHeartbeats 1000000 in
theorem AfH{w:World}(h:List Wd)(hh:h.length=8){a:Option Addr}{c:Nat}(CJ:List UInt8)(hb:CJ.length=64)(hr:Rd w a (CJ.map Ag))(n:Nat)(hn:n<18446744073709551616)(last:Bool) :
  Calls Tryz.prog f.Zx #[.agg ⟨h.map wV⟩,.slice a 64 c,.int .u64 (n:Int),.bool last] w (AG λ r w'=>r=.agg ⟨(Ua h CJ n last).map wV⟩/\Below w.heap.size w w'):=by
 obtain⟨p,rfl,_⟩:=hr 0 (Ag (CJ.getD 0 0)) (by simp [hb]);apply R.Qm
 delta R.A R.Ab R.Ad R.Cs R.Ct R.D R.F R.I R.Lv R.Ly R.Qi R.Am R.T R.V R.W R.Wb R.Wu R.Wv R.X R.Z;try dsimp only [R.Ps]
 refine (SH.start (λ _=>False) w).An λ b5 w1 _ _ S=>S.An λ b6 w2 _ _ S=>(Xz w2).mono ?_;rintro _ w3 ⟨_,rfl,bw,rfl,wc,s9,B3⟩
 replace S:=S.Ag5 B3 wc s9
 refine⟨_,_,_,rfl,S.An λ b9 w4 _ _ S=>?_⟩;refine⟨λ st w'=>∃ i:Nat,st=[.int .i64 (i:Int)]/\i<=64/\SH (λ _=>False) w w' [(b9,⟨(mA CJ i).map wV⟩,224),(bw,⟨Ca.map wV⟩,184),(b6,⟨AkZ 8 (.int .u32 0)⟩,185),(b5,⟨h.map wV⟩,185)],
  λ st _=>match st with | [.int _ t]=>(64-t).toNat | _=>0,⟨0,rfl,by omega,S⟩,?_⟩
 rintro t w5 ⟨i,aA,hi,S⟩;cases MO aA;have lK:=Af4 CJ i;refine Aa (λ aB=>?_) (λ aJ=>?_)
 ·have dW:i<64:=by omega
  refine S.draw λ w6 S=>?_;rw [AdQ i dW,AdR i dW];have dX:w6.cell? (p.add ((i:Int).toNat*1))=some (.int .u8 (uI (CJ.getD i 0))):=by
   obtain⟨q,hq,hc⟩:=(hr.grown S.below) i (Ag (CJ.getD i 0)) (by simp [hb,dW]);cases hq;rw [Ak4,Ak7];exact hc
  refine⟨⟨by omega,by omega⟩,⟨by omega,by omega⟩,⟨_,S.wd 0 rfl (by omega) (Ak4 _),_,dX,by omega,⟨by omega,by omega⟩,?_⟩⟩;have e3:IntKind.u32.wrap ((((mA CJ i).getD (i / 4) 0).toNat:Int)+(IntKind.u32.wrap ((IntKind.u32.wrap (uI (CJ.getD i 0)))*2 ^ (min ((((8*(i % 4):Nat):Int)).toNat) 32))))
    = (((mA CJ i).getD (i / 4) 0+(byW (CJ.getD i 0) <<< (8*(i % 4)))).toNat:Int):=by
   have e4:IntKind.u32.wrap (((byW (CJ.getD i 0)).toNat:Int)*2 ^ (8*(i % 4)))=((byW (CJ.getD i 0) <<< (8*(i % 4))).toNat:Int):=by
    rw [<- AdB,Cw,wrap_u32,BitVec.toNat_ofInt];omega
   rw [Ak4,Nat.min_eq_left (by omega),uI,Adu,e4,Nn]
  rw [e3];refine S.Fk 0 rfl (by omega) (Ak4 _) λ w8 S=>?_;rw [Ae (by omega)];exact⟨⟨i+1,rfl,by omega,S⟩,by show (64-((i+1:Nat):Int)).toNat<(64-(i:Int)).toNat;omega⟩
 ·have dW:i=64:=by omega
  refine S.An λ kC w8 _ _ S=>?_;refine⟨λ st w'=>∃ j:Nat,st=[.int .i64 (j:Int)]/\j<=8/\SH (λ _=>False) w w' [(kC,⟨(vR h j).map wV⟩,224),(b9,⟨(mA CJ i).map wV⟩,224),(bw,⟨Ca.map wV⟩,184),(b6,⟨AkZ 8 (.int .u32 0)⟩,185),(b5,⟨h.map wV⟩,185)],
   λ st _=>match st with | [.int _ t]=>(8-t).toNat | _=>0,⟨0,rfl,by omega,S⟩,?_⟩
  rintro t w9 ⟨j,aA,hj,S⟩;cases MO aA;have gr:=Aga h j;refine Aa (λ aB=>⟨⟨by omega,aB⟩,?_⟩) (λ aJ=>?_)
  ·have mZ:j<8:=by omega
   have cj:Ca.length=8:=rfl;have e8:IntKind.i64.wrap (8+(j:Int))=((8+j:Nat):Int):=by rw [wrap_i64 (by omega) (by omega)];omega
   rw [e8];refine⟨_,S.wd 4 rfl (by omega) (Ak4 _),⟨by omega,by omega⟩,S.Fk 0 rfl (by omega) (Ak4 _) λ bZ S=>?_⟩;refine⟨⟨by omega,by omega⟩,⟨_,S.wd 2 rfl (by omega) (Ak4 _),⟨by omega,by omega⟩,S.Fk 0 rfl (by simp only [Ak8];omega) (Ak4 _) λ aX S=>?_⟩⟩;rw [Ae (by omega)];exact⟨⟨j+1,rfl,by omega,S⟩,by show (8-((j+1:Nat):Int)).toNat<(8-(j:Int)).toNat;omega⟩
  ·have mZ:j=8:=by omega
   have vo:∀ x:Wd,IntKind.u32.wrap (((AkA 32 (x.toNat:Int) ^^^ AkA 32 (IntKind.u32.wrap (Int.tmod (n:Int) 4294967296))).toNat:Int))=((x ^^^ Alg 32 n).toNat:Int):=by
    intro x;have:AkA 32 (Int.tmod (n:Int) 4294967296)=Alg 32 n:=by
     rw [Int.tmod_eq_emod_of_nonneg (by omega)];apply BitVec.eq_of_toNat_eq;rw [BitVec.toNat_ofInt,BitVec.toNat_ofNat];omega
    rw [Cw,this,Bo,Bq]
   have sC:∀ x:Wd,IntKind.u32.wrap (((AkA 32 (x.toNat:Int) ^^^ AkA 32 (IntKind.u32.wrap (IntKind.u64.wrap (Int.tdiv (n:Int) 4294967296)))).toNat:Int))=((x ^^^ Alg 32 (n / 4294967296)).toNat:Int):=by
    intro x;have:IntKind.u64.wrap (Int.tdiv (n:Int) 4294967296)=((n / 4294967296:Nat):Int):=by
     rw [Int.tdiv_eq_ediv_of_nonneg (by omega),Aj (by omega) (by omega)];omega
    rw [this,Cw,Bo,Bq,BitVec.ofInt_natCast]
   have vM:∀ x:Wd,IntKind.u32.wrap (((AkA 32 (x.toNat:Int) ^^^ AkA 32 4294967295).toNat:Int))=((4294967295 ^^^ x).toNat:Int):=by
    intro x;rw [Bo,Bq,BitVec.xor_comm];rfl
   refine⟨_,S.wd' 0 rfl (by omega),?_⟩;rw [vo];refine S.Mi 0 rfl (by omega) λ aj S=>⟨_,S.wd' 0 rfl (by simp only [Ak8];omega),?_⟩;rw [sC];refine S.Mi 0 rfl (by simp only [Ak8];omega) λ an S=>?_;have mB:(vN (vR h j) n last).length=16:=by rw [Agp];exact gr
   refine⟨λ _ w'=>SH (λ _=>False) w w' [(kC,⟨(vN (vR h j) n last).map wV⟩,224),(b9,⟨(mA CJ i).map wV⟩,224),(bw,⟨Ca.map wV⟩,184),(b6,⟨AkZ 8 (.int .u32 0)⟩,185),(b5,⟨h.map wV⟩,185)],?_,?_⟩
   ·refine Ap (λ hl=>?_) (λ hl=>?_)
    ·subst hl;refine⟨_,S.wd' 0 rfl (by simp only [Ak8];omega),?_⟩;rw [vM];exact S.Mi 0 rfl (by simp only [Ak8];omega) λ ah S=>S
    ·subst hl;exact S
   ·intro ah S;generalize zP:vN (vR h j) n last=V0 at *;generalize fM:mA CJ i=m0 at *;refine⟨λ st w'=>∃ r:Nat,st=[.int .i64 (r:Int)]/\r<=10/\SH (λ _=>False) w w' [(kC,⟨(DF m0 V0 r).map wV⟩,224),(b9,⟨m0.map wV⟩,224),(bw,⟨Ca.map wV⟩,184),(b6,⟨AkZ 8 (.int .u32 0)⟩,185),(b5,⟨h.map wV⟩,185)],
     λ st _=>match st with | [.int _ t]=>(10-t).toNat | _=>0,⟨0,rfl,by omega,S⟩,?_⟩
    rintro t cf ⟨r,aA,cu,S⟩;cases MO aA;have cE:=(JS m0 V0 r).trans mB;refine Aa (λ aB=>?_) (λ aJ=>?_)
    ·have dP:r<10:=by omega
     refine (Agh r dP cf).mono ?_;rintro _ cP ⟨_,rfl,rfl,oV⟩
     replace S:=S.grown oV
     refine⟨_,rfl,λ st w'=>∃ q:Nat,st=[.int .i64 (q:Int)]/\q<=8/\SH (λ _=>False) w w' [(kC,⟨(Jv m0 r (DF m0 V0 r) q).map wV⟩,224),(b9,⟨m0.map wV⟩,224),(bw,⟨Ca.map wV⟩,184),(b6,⟨AkZ 8 (.int .u32 0)⟩,185),(b5,⟨h.map wV⟩,185)],
      λ st _=>match st with | [.int _ t]=>(8-t).toNat | _=>0,⟨0,rfl,by omega,S⟩,?_⟩
     rintro t eK ⟨q,aA,hq,S⟩;cases MO aA;have aD:=(Hy m0 r (DF m0 V0 r) q).trans cE;refine Aa (λ ao=>S.draw λ ff S=>?_) (λ cB=>?_)
     ·have fR:q<8:=by omega
      have e2:IntKind.i64.wrap (2*(q:Int))=((2*q:Nat):Int):=by rw [wrap_i64 (by omega) (by omega)];omega
      have e3:IntKind.i64.wrap (((2*q:Nat):Int)+1)=((2*q+1:Nat):Int):=Ae (by omega);have o0:=YB r dP (2*q) (by omega);have o1:=YB r dP (2*q+1) (by omega);rw [e2,e3,Ak4,Ak4,AaT r dP (2*q) (by omega),AaT r dP (2*q+1) (by omega),Afh r dP];refine⟨⟨by omega,by omega⟩,⟨by omega,by omega⟩,⟨by omega,by omega⟩,⟨by omega,by omega⟩,Dd _ aD (Rd.Ak (S.get 0 rfl)) ?_⟩;refine⟨_,S.wd 1 rfl (by omega) (Ak4 _),_,S.wd 1 rfl (by omega) (Ak4 _),(AeV q fR ff).mono ?_⟩;rintro _ eo ⟨_,rfl,rfl,B20⟩
      replace S:=S.grown B20
      refine⟨_,rfl,S.wd 1 rfl (by omega) (Ak4 _),S.wd 1 rfl (by omega) (Ak4 _),AeY (Rd.Ak (S.get 0 rfl)),?_⟩;refine (AgE _ aD (AfC q) (Afr q fR) (Kh q 0) (Kh q 1) (Kh q 2) (Kh q 3) (Pl q fR 0 (by omega)) (Pl q fR 1 (by omega)) (Pl q fR 2 (by omega)) (Pl q fR 3 (by omega))
       (GU q fR 0 (by omega)) (GU q fR 1 (by omega)) (GU q fR 2 (by omega)) (GU q fR 3 (by omega)) _ _ eo).mono ?_
      rintro _ gp ⟨_,rfl,rfl,k7⟩
      replace S:=S.grown k7
      have hx:=AgB m0 r q (Jv m0 r (DF m0 V0 r) q) aD fR;rw [hx];have bD:(Xd m0 r q (Jv m0 r (DF m0 V0 r) q)).length=16:=(Hy m0 r (DF m0 V0 r) (q+1)).trans cE;have eB:((Xd m0 r q (Jv m0 r (DF m0 V0 r) q)).map wV).length=16:=by rw [Alh];exact bD
      refine O1 _ bD ⟨rfl,Ds eB (S.En 0 rfl (by rw [eB];simp [aD]) (IE _) λ iM _ S=>?_)⟩;rw [Ae (by omega)];exact⟨⟨q+1,rfl,by omega,S⟩,by show (8-((q+1:Nat):Int)).toNat<(8-(q:Int)).toNat;omega⟩
     ·have fR:q=8:=by omega
      subst fR;rw [Ae (by omega)];exact⟨⟨r+1,rfl,by omega,S⟩,by show (10-((r+1:Nat):Int)).toNat<(10-(r:Int)).toNat;omega⟩
    ·have dP:r=10:=by omega
     generalize hV:DF m0 V0 r=V at *;refine⟨λ st w'=>∃ q:Nat,st=[.int .i64 (q:Int)]/\q<=8/\SH (λ _=>False) w w' [(kC,⟨V.map wV⟩,224),(b9,⟨m0.map wV⟩,224),(bw,⟨Ca.map wV⟩,184),(b6,⟨AkZ 8 (.int .u32 0)⟩,185),(b5,⟨(hF h V q).map wV⟩,185)],
      λ st _=>match st with | [.int _ t]=>(8-t).toNat | _=>0,⟨0,rfl,by omega,S⟩,?_⟩
     rintro t gW ⟨q,aA,hq,S⟩;cases MO aA;have kJ:=(Ya h V q).trans hh;refine Aa (λ aB=>S.draw λ gG S=>?_) (λ aJ=>?_)
     ·have e8:IntKind.i64.wrap (8+(q:Int))=((q+8:Nat):Int):=by rw [wrap_i64 (by omega) (by omega)];omega
      rw [e8];refine⟨⟨by omega,aB⟩,⟨by omega,by omega⟩,⟨by omega,by omega⟩,_,S.wd 4 rfl (by omega) (Ak4 _),_,S.wd 0 rfl (by omega) (Ak4 _),_,S.wd 0 rfl (by omega) (Ak4 _),⟨by omega,aB⟩,?_⟩;rw [Np,Np,BitVec.xor_assoc];refine S.Fk 4 rfl (by omega) (Ak4 _) λ jl S=>?_;rw [Ae (by omega)];exact⟨⟨q+1,rfl,by omega,S⟩,by show (8-((q+1:Nat):Int)).toNat<(8-(q:Int)).toNat;omega⟩
     ·have fR:q=8:=by omega
      have ay:((hF h V q).map wV).length=8:=by rw [Alh];exact kJ
      refine Dd (hF h V q) kJ (Rd.Ak (S.get 4 rfl)) (Ds ay (S.En 3 rfl ay (IE _) λ fJ _ S=>?_));refine Dd (hF h V q) kJ (Rd.Ak (S.get 3 rfl)) ⟨?_,S.below⟩;have ev:vN (vF h 8) n last=V0:=by rw [<- AjZ h hh,<- mZ,zP]
      have em:mO CJ 64=m0:=by rw [<- Ajh,<- dW,fM]
      unfold Ua;rw [ev,em,<- dP,hV,fR]
def wR:Nat->List Wd
 | 0=>AkZ 8 0
 | i+1=>(wR i).set i (Ca.getD i 0)
theorem Ahb:∀ i,(wR i).length=8
 | 0=>rfl
 | i+1=>by simp [wR,Ahb i]
theorem Akg:wR 8=Ca:=by decide
theorem Ajz:MN Tryz.prog 77=some (5,1,1,.int .u8 0):=by kernel_rfl
set_option maxHeartbeats 1000000 in
theorem JM{w:World}{a:Option Addr}{c:Nat}(l:List UInt8)(hr:Rd w a (l.map Ag))(hc:l.length<=c)(hl:l.length<=140737488355328) :
  Calls Tryz.prog f.Afd #[.slice a l.length c] w (AG λ v w'=>v=.agg ⟨(Iw l).map Ag⟩/\Below w.heap.size w w'):=by
 apply R.Tj
 delta R.A R.Ad R.B R.Cs R.F R.G R.I R.Lv R.Qi R.Ri R.Rs R.S R.Am R.U R.V R.W R.Wb R.Wu R.Wv R.X R.Y;try dsimp only [R.Ps]
 refine (SH.start (λ _=>False) w).An λ b2 w1 _ _ S=>(Xz w1).mono ?_;rintro _ w2 ⟨_,rfl,bw,rfl,wc,s9,B2⟩
 replace S:=S.Ag5 B2 wc s9
 refine⟨_,_,_,rfl,S.An λ b5 w3 _ _ S=>?_⟩;refine⟨λ st w'=>∃ i:Nat,st=[.int .i64 (i:Int)]/\i<=8/\SH (λ _=>False) w w' [(b5,⟨(wR i).map wV⟩,185),(bw,⟨Ca.map wV⟩,184),(b2,⟨AkZ 32 (.int .u8 0)⟩,142)],
  λ st _=>match st with | [.int _ t]=>(8-t).toNat | _=>0,⟨0,rfl,by omega,S⟩,?_⟩
 rintro t w4 ⟨i,aA,hi,S⟩;cases MO aA;have rv:=Ahb i;have cj:Ca.length=8:=rfl;refine Aa (λ aB=>?_) (λ aJ=>?_)
 ·refine⟨⟨by omega,by omega⟩,⟨_,S.wd 1 rfl (by omega) (Ak4 _),⟨by omega,by omega⟩,S.Fk 0 rfl (by omega) (Ak4 _) λ w5 S=>?_⟩⟩;rw [Ae (by omega)];exact⟨⟨i+1,rfl,by omega,S⟩,by show (8-((i+1:Nat):Int)).toNat<(8-(i:Int)).toNat;omega⟩
 ·have jy:i=8:=by omega
  have zT:wR i=Ca:=by rw [jy,Akg]
  rw [zT] at S;refine⟨_,S.wd' 0 rfl (by omega),?_⟩;have e0:∀ x:Wd,IntKind.u32.wrap (((AkA 32 (x.toNat:Int) ^^^ AkA 32 16842784).toNat:Int))=((x ^^^ 16842784).toNat:Int):=by
   intro x;rw [Bo,Bq];rfl
  rw [e0];refine S.Mi 0 rfl (by omega) λ w6 S=>?_;refine⟨λ st w'=>∃ k:Nat,st=[.int .i64 ((64*k:Nat):Int)]/\(k=0\/64*k<l.length)/\SH (λ _=>False) w w' [(b5,⟨(Gh l k).map wV⟩,185),(bw,⟨Ca.map wV⟩,184),(b2,⟨AkZ 32 (.int .u8 0)⟩,142)],
   λ st _=>match st with | [.int _ t]=>((l.length:Int)+64-t).toNat | _=>0,⟨0,rfl,.inl rfl,S⟩,?_⟩
  rintro t w7 ⟨k,aA,hk,S⟩;cases MO aA;have bD:=IY l k;refine Ea Ajz (l:=64) (c:=64) (by omega) (by omega) (by omega) (by omega) λ b8 w8 pt B8 yH=>?_;have hz:(madeCells (Value.int .u8 0).cells ((64:Int).toNat*1))=⟨AkZ 64 (.int .u8 0)⟩:=by
   apply Array.ext';exact Ej (.int .u8 0) rfl 64
  rw [hz] at yH
  replace S:=S.Ag5 B8 pt yH
  refine⟨_,_,_,rfl,⟨by omega,by omega,by omega⟩,?_⟩;have cr:Rd w8 (Ck a (64*k) c 1) ((l.drop (64*k)).map Ag):=by
   have:=(hr.grown S.below).OV (64*k) l.length c 1 hc;rw [AlA (by simp),Ak7,<- List.map_drop] at this;exact this
  rw [Ak4];refine S.copy 0 rfl (P:=Tryz.prog) (elem:=5) (dLen:=64) (by kernel_rfl) (by kernel_rfl) (a:=Ck a (64*k) c 1) (xs:=(l.drop (64*k)).map Ag) (by simp) (by simp) cr (YQ _) λ w9 _ S=>?_;have eb:(⟨((l.drop (64*k)).map Ag).take 64++(AkZ 64 (Value.int .u8 0)).drop (min (l.length-64*k) 64)⟩:Array Value)=⟨(Nw l (64*k)).map Ag⟩:=by
   rw [List.drop_replicate];simp only [Nw,W6,List.map_append,List.map_replicate,List.map_take];rfl
  replace S:=eb ▸ S
  have ele:DX l (64*k)<=l.length:=by unfold DX;omega
  have ee:IntKind.i64.wrap (((64*k:Nat):Int)+((min (l.length-64*k) 64:Nat):Int))=((DX l (64*k):Nat):Int):=by
   unfold DX;rw [wrap_i64 (by omega) (by omega)];omega
  have eu:IntKind.u64.wrap ((DX l (64*k):Nat):Int)=((DX l (64*k):Nat):Int):=by
   rw [Aj (by omega) (by omega)]
  have ua:(((DX l (64*k):Nat):Int)==((l.length:Nat):Int))=(DX l (64*k)==l.length):=by
   rw [Alz];simp;omega
  refine⟨_,rfl,Dd (Gh l k) bD (Rd.Ak (S.get 1 rfl)) ?_⟩;rw [ee,eu,ua];refine (AfH (Gh l k) bD (c:=64) (Nw l (64*k)) (QH _ _) (Rd.Ak (S.get 0 rfl)) (DX l (64*k)) (by omega) _).mono ?_;rintro _ bZ ⟨_,rfl,rfl,cA⟩;have bn:=IY l (k+1);rw [Gh] at bn;refine O1 _ bn ⟨rfl,Ds (by rw [Alh];exact bn) ?_⟩;refine (S.grown cA).En 1 rfl (by simp only [Alh,bn,List.size_toArray,bD]) (IE _) λ aX _ S=>?_
  replace S:=S.drop 1
  change SH (λ _=>False) w aX [(b5,⟨(Gh l (k+1)).map wV⟩,185),(bw,⟨Ca.map wV⟩,184),(b2,⟨AkZ 32 (.int .u8 0)⟩,142)] at S;refine Ap (λ gX=>?_) (λ gX=>?_)
  ·have kz:DX l (64*k)=l.length:=by simpa using gX
   have qx:Agv l=k+1:=by
    unfold Agv;unfold DX at kz;omega
   have im:=IY l (k+1);refine S.An λ jr bJ _ _ S=>?_;refine⟨λ st w'=>∃ i:Nat,st=[.int .i64 (i:Int)]/\i<=32/\SH (λ _=>False) w w' [(jr,⟨(RG (Gh l (k+1)) i).map Ag⟩,142),(b5,⟨(Gh l (k+1)).map wV⟩,185),(bw,⟨Ca.map wV⟩,184),(b2,⟨AkZ 32 (.int .u8 0)⟩,142)],
    λ st _=>match st with | [.int _ t]=>(32-t).toNat | _=>0,⟨0,rfl,by omega,S⟩,?_⟩
   rintro t aj ⟨i,aA,hi,S⟩;cases MO aA;have cE:=Qp (Gh l (k+1)) i;refine Aa (λ aB=>?_) (λ aJ=>?_)
   ·have de:i<32:=by omega
    rw [AdQ i (by omega),AdR i (by omega)];refine⟨⟨by omega,by omega⟩,_,S.wd 1 rfl (by omega) (Ak4 _),by omega,⟨by omega,aB⟩,?_⟩;rw [Ak4,Wy _ _ (by omega)];refine S.AiA 0 rfl (by omega) (Ak4 _) λ ah S=>?_;rw [Ae (by omega)];exact⟨⟨i+1,rfl,by omega,S⟩,by show (32-((i+1:Nat):Int)).toNat<(32-(i:Int)).toNat;omega⟩
   ·have de:i=32:=by omega
    have ay:((RG (Gh l (k+1)) i).map Ag).length=32:=by rw [Alh];exact cE
    refine HA (RG (Gh l (k+1)) i) cE (Rd.Ak (S.get 0 rfl)) (Ds ay ?_);refine S.En 3 rfl ay (YQ _) λ an _ S=>?_;refine HA (RG (Gh l (k+1)) i) cE (Rd.Ak (S.get 3 rfl)) ⟨?_,S.below⟩;unfold Iw;rw [qx,de]
  ·have kz:DX l (64*k)≠l.length:=by simpa using gX
   have ml:DX l (64*k)=64*(k+1):=by
    unfold DX at kz ⊢;omega
   rw [ml];exact⟨⟨k+1,rfl,by omega,S⟩,by show ((l.length:Int)+64-((64*(k+1):Nat):Int)).toNat<((l.length:Int)+64-((64*k:Nat):Int)).toNat;omega⟩
def AjQ:ByteArray:=⟨#[48,49,50,51,52,53,54,55,56,57,97,98,99,100,101,102]⟩
def Ag9(c:UInt8):List UInt8:=[Ay AjQ (c.toNat / 16),Ay AjQ (c.toNat % 16)]
def TK(d:List UInt8):List UInt8:=d.flatMap Ag9
theorem Vt(d:List UInt8):(TK d).length=2*d.length:=by
 induction d with
 | nil=>rfl
 | cons c d ih=>simp [TK,Ag9] at ih ⊢;omega
theorem Xm(d:List UInt8)(i:Nat)(h:i<d.length):TK (d.take (i+1))=TK (d.take i)++Ag9 (d.getD i 0):=by
 unfold TK;rw [List.take_succ_eq_append_getElem h,List.flatMap_append];simp [h]
theorem AjA:∀ c:UInt8,IntKind.u8.wrap (((AkA 8 (c.toNat:Int) &&& AkA 8 15).toNat:Int))=((c.toNat % 16:Nat):Int):=by
 intro c;have h:=c.toNat_lt;have e:(AkA 8 (c.toNat:Int) &&& AkA 8 15).toNat=c.toNat % 16:=by
  rw [BitVec.toNat_and,BitVec.ofInt_natCast,BitVec.toNat_ofNat,Nat.mod_eq_of_lt (by omega),show (AkA 8 15).toNat=2 ^ 4-1 by rfl,Nat.and_two_pow_sub_one_eq_mod]
 rw [e,AE (by omega) (by omega)]
theorem Akk(c:UInt8):Int.fdiv (c.toNat:Int) (2 ^ (min 4 8))=((c.toNat / 16:Nat):Int):=by
 rw [show (2:Int) ^ (min 4 8)=16 by rfl,Int.fdiv_eq_ediv_of_nonneg _ (by omega)];omega
theorem ZM(d:List UInt8)(hd:d.length=32)(w:World) :
  Calls Tryz.prog f.AfE #[.agg ⟨d.map Ag⟩] w (AG λ v w'=>v=.string (BC (TK d))/\Below w.heap.size w w'):=by
 apply R.UR
 delta R.A R.B R.D R.F R.I R.J R.Ks R.N R.O R.ER R.Rt R.S R.T R.W R.Wb R.X;try dsimp only [R.Ps]
 refine (SH.start (λ _=>False) w).An λ b2 w1 _ B1 S=>HA d hd (Rd.Ak (S.get 0 rfl)) ?_;refine⟨λ s w'=>∃(i:Nat) (a:Option Addr) (c:Nat),s=[.slice a (TK (d.take i)).length c,.int .i64 (i:Int)]/\i<=32/\Bn w1 w' (TK (d.take i)) a c,
  λ s _=>match s with | [_,.int _ t]=>(32-t).toNat | _=>0,⟨0,none,0,rfl,by omega,Row.nil _ _ _,by simp [AD],.refl _ _⟩,?_⟩
 rintro _ _ c _ w2 ⟨i,a,_,hs,hi,h1⟩;cases hs;refine Aa (λ aB=>⟨⟨by omega,aB⟩,?_⟩) (λ aJ=>?_)
 ·have de:i<32:=by omega
  have hx:=(d.getD i 0).toNat_lt;refine⟨((d.getD i 0).toNat:Int),?_,?_⟩
  ·rw [Ak4,Ak7];simp [hd,de,Ag]
  ·rw [AjA,Akk,Ak4,Ak4];refine (SH.start (λ _=>False) w2).E9 λ w4 B4 S4=>⟨⟨by omega,?_⟩,⟨by omega,?_⟩,S4.An λ dO w5 _ B5 S5=>?_⟩
   ·show (((d.getD i 0).toNat / 16:Nat):Int)<16;omega
   ·show (((d.getD i 0).toNat % 16:Nat):Int)<16;omega
   have h5:=(h1.grown B4).grown B5;have hl:=Vt (d.take i);rw [List.length_take] at hl;refine A8 h5.row (m:=Ag9 (d.getD i 0)) (b:=some ⟨dO,0,none⟩) (mc:=2) (Rd.Ak (S5.get 0 rfl)) (by show _+2<=_;omega) λ a' c' w6 R6 K6 N6=>⟨_,_,_,rfl,?_⟩;rw [<- Xm d i (by omega)] at R6 ⊢;rw [Ae (by omega)];refine⟨⟨i+1,a',c',rfl,by omega,R6,λ k hk=>?_,h5.Ar.trans (K6.below h5.Ar.size λ k hk he=>by have:=h5.new k he;omega)⟩,by show (32-((i+1:Nat):Int)).toNat<(32-(i:Int)).toNat;omega⟩;rcases N6 k hk with h | h
   ·exact h5.new k h
   ·exact Ali h5.Ar.size h
 ·have de:i=32:=by omega
  have ht:d.take i=d:=by rw [AlA (by omega)]
  rw [ht] at h1 ⊢;exact Aw (by kernel_rfl) rfl h1.rd ⟨_,rfl,rfl,Ac B1 h1.Ar⟩
theorem Ai5(c:UInt8):IntKind.u8.wrap (Int.tdiv (c.toNat:Int) 16)=((c.toNat / 16:Nat):Int):=by
 have:=c.toNat_lt;rw [Int.tdiv_eq_ediv_of_nonneg (by omega),AE (by omega) (by omega)];omega
theorem Ajc(c:UInt8):Int.tmod (c.toNat:Int) 16=((c.toNat % 16:Nat):Int):=by
 rw [Int.tmod_eq_emod_of_nonneg (by omega)];omega
theorem Yd(d:List UInt8)(hd:d.length=32)(w:World) :
  Calls Tryz.prog f.AeC #[.agg ⟨d.map Ag⟩] w (AG λ v w'=>v=.string (BC (TK d))/\Below w.heap.size w w'):=by
 apply R.Tv
 delta R.A R.B R.D R.F R.I R.J R.Ks R.Ly R.N R.O R.ER R.Rt R.S R.T R.W R.Wb R.X;try dsimp only [R.Ps]
 refine (SH.start (λ _=>False) w).An λ b2 w1 _ B1 S=>?_;refine⟨λ s w'=>∃(i:Nat) (a:Option Addr) (c:Nat),s=[.slice a (TK (d.take i)).length c,.int .i64 (i:Int)]/\i<=32/\Bn w1 w' (TK (d.take i)) a c,
  λ s _=>match s with | [_,.int _ t]=>(32-t).toNat | _=>0,⟨0,none,0,rfl,by omega,Row.nil _ _ _,by simp [AD],.refl _ _⟩,?_⟩
 rintro _ _ c _ w2 ⟨i,a,_,hs,hi,h1⟩;cases hs;refine Aa (λ aB=>?_) (λ aJ=>?_)
 ·have de:i<32:=by omega
  have hx:=(d.getD i 0).toNat_lt;refine (SH.start (λ _=>False) w2).E9 λ w4 B4 S4=>?_;have dX:w4.cell? ((⟨b2,0,none⟩:Addr).add ((i:Int).toNat*1))=some (.int .u8 ((d.getD i 0).toNat:Int)):=by
   rw [Ak4,Ax,Nat.zero_add,Ak7];refine ((S.grown h1.Ar).grown B4).cell 0 rfl ?_;simp [hd,de,Ag]
  refine⟨⟨by omega,aB⟩,⟨by omega,aB⟩,_,dX,?_⟩;rw [Ai5];refine⟨⟨by omega,?_⟩,_,dX,?_⟩
  ·show (((d.getD i 0).toNat / 16:Nat):Int)<16;omega
  rw [Ajc,Ak4,Ak4];refine⟨⟨by omega,?_⟩,S4.An λ dO w5 _ B5 S5=>?_⟩
  ·show (((d.getD i 0).toNat % 16:Nat):Int)<16;omega
  have h5:=(h1.grown B4).grown B5;have hl:=Vt (d.take i);rw [List.length_take] at hl;refine A8 h5.row (m:=Ag9 (d.getD i 0)) (b:=some ⟨dO,0,none⟩) (mc:=2) (Rd.Ak (S5.get 0 rfl)) (by show _+2<=_;omega) λ a' c' w6 R6 K6 N6=>⟨_,_,_,rfl,?_⟩;rw [<- Xm d i (by omega)] at R6 ⊢;rw [Ae (by omega)];refine⟨⟨i+1,a',c',rfl,by omega,R6,λ k hk=>?_,h5.Ar.trans (K6.below h5.Ar.size λ k hk he=>by have:=h5.new k he;omega)⟩,by show (32-((i+1:Nat):Int)).toNat<(32-(i:Int)).toNat;omega⟩;rcases N6 k hk with h | h
  ·exact h5.new k h
  ·exact Ali h5.Ar.size h
 ·have de:i=32:=by omega
  have ht:d.take i=d:=by rw [AlA (by omega)]
  rw [ht] at h1 ⊢;exact Aw (by kernel_rfl) rfl h1.rd ⟨_,rfl,rfl,Ac B1 h1.Ar⟩
theorem FK(l:List UInt8):(Iw l).length=32:=Qp _ _
def UZ(c:UInt8):Bool:=decide (97<=c.toNat) && decide (c.toNat<=122)
def YR(c:UInt8):Bool:=(decide (48<=c.toNat) && decide (c.toNat<=57)) || c.toNat==95
def nameAt(s:ByteArray)(i:Nat):Bool:=UZ (Ay s i) || (YR (Ay s i) && i != 0)
def Fv(s:ByteArray):Bool:=(AlB s.size).all (nameAt s) && decide (1<=s.size) && decide (s.size<=24)
theorem Tg(s:ByteArray)(hs:s.size<=9223372036854775807)(w:World):Calls Tryz.prog f.Y7 #[.string s] w (AG λ r w'=>r=.bool (Fv s)/\w'=w):=by
 apply R.NY
 delta R.F R.G R.I R.Qi R.W R.X R.Zb;try dsimp only [R.Ps]
 refine⟨λ st w'=>∃ i:Nat,st=[.int .i64 (i:Int)]/\i<=s.size/\(∀ j,j<i->nameAt s j=true)/\w'=w,
  λ st _=>match st with | [.int _ t]=>((s.size:Int)-t).toNat | _=>0,⟨0,rfl,by omega,λ j hj=>by omega,rfl⟩,?_⟩
 rintro t w1 ⟨i,aA,hi,aF,rfl⟩;cases MO aA;refine Aa (λ aB=>?_) (λ aJ=>?_)
 ·have hb:(0:Int)<=(i:Int)/\(i:Int)<(s.size:Int):=⟨by omega,aB⟩;rw [Ak4];refine⟨λ st w'=>st=[.bool (UZ (Ay s i))]/\w'=w1,⟨hb,Aa (λ h=>⟨hb,?_⟩) (λ h=>?_)⟩,?_⟩
  ·have vP:97<=(Ay s i).toNat:=by omega
   refine⟨?_,rfl⟩;congr 2;rw [Alz];simp [UZ,vP];omega
  ·have vP:¬ 97<=(Ay s i).toNat:=by omega
   refine⟨?_,rfl⟩;simp [UZ,vP]
  ·rintro letter w2 ⟨hl,rfl⟩;have hle:letter=UZ (Ay s i):=by simpa using hl
   subst hle;refine⟨λ st w'=>st=[.bool (YR (Ay s i))]/\w'=w2,⟨hb,Aa (λ h=>⟨hb,Aa (λ h2=>?_) (λ h2=>⟨hb,?_⟩)⟩) (λ h=>⟨hb,?_⟩)⟩,?_⟩
   ·have tK:48<=(Ay s i).toNat:=by omega
    have vU:(Ay s i).toNat<=57:=by omega
    refine⟨?_,rfl⟩;simp [YR,tK,vU]
   ·have vU:¬ (Ay s i).toNat<=57:=by omega
    refine⟨?_,rfl⟩;congr 2;rw [Alz];simp [YR,vU];omega
   ·have tK:¬ 48<=(Ay s i).toNat:=by omega
    refine⟨?_,rfl⟩;congr 2;rw [Alz];simp [YR,tK];omega
   ·rintro other w3 ⟨ho,rfl⟩;have hoe:other=YR (Ay s i):=by simpa using ho
    subst hoe;have aP:nameAt s i=false->Fv s=false:=by
     intro h;have:(AlB s.size).all (nameAt s)=false:=by
      rw [List.all_eq_false];exact⟨i,List.mem_range.2 (by omega),by simp [h]⟩
     simp [Fv,this]
    have ae:nameAt s i=true->(∃ k:Nat,[Value.int .i64 (IntKind.i64.wrap ((i:Int)+1))]=[.int .i64 (k:Int)]/\k<=s.size/\(∀ j,j<k->nameAt s j=true)/\w3=w3) /\
      ((s.size:Int)-IntKind.i64.wrap ((i:Int)+1)).toNat<((s.size:Int)-(i:Int)).toNat:=by
     intro h;rw [Ae (by omega)];refine⟨⟨i+1,rfl,by omega,λ j hj=>?_,rfl⟩,by omega⟩;rcases Nat.lt_or_ge j i with h2 | h2
     ·exact aF j h2
     ·rw [show j=i by omega];exact h
    refine Ap (λ h1=>Ap (λ h2=>?_) (λ h2=>Ao (λ h3=>?_) (λ h3=>?_))) (λ h1=>?_)
    ·exact⟨by rw [aP (by simp_all [nameAt])],rfl⟩
    ·have h0:i=0:=by omega
     exact⟨by rw [aP (by simp_all [nameAt])],rfl⟩
    ·have:i≠0:=by omega
     exact ae (by simp_all [nameAt])
    ·exact ae (by simp_all [nameAt])
 ·have bG:i=s.size:=by omega
  have ha:(AlB s.size).all (nameAt s)=true:=by
   rw [List.all_eq_true];intro j hj;exact aF j (by have:=List.mem_range.1 hj;omega)
  refine Aa (λ h=>⟨?_,rfl⟩) (λ h=>⟨?_,rfl⟩)
  ·have h1:1<=s.size:=by omega
   congr 1;rw [Alz];simp [Fv,ha,h1];omega
  ·have h1:¬ 1<=s.size:=by omega
   simp [Fv,h1]
end Go.Proofs.YtpnaifmmggnimaaGreatDoor
namespace Go.Proofs
set_option linter.unusedVariables false
set_option maxRecDepth 100000
open Go.Shelf
def Tryz.Aaq:Go.Shelf.Ren:=⟨fun | 106=>236 | 213=>263 | 265=>276 | n=>n,fun | 9=>9 | 3=>3 | n=>n,fun | n=>n⟩
theorem Tryz.Ail:Go.Proofs.Lays.n106 Tryz.prog Tryz.Aaq:={
 mixed:=by kernel_rfl
 f106:=Tryz.func236.trans (congrArg some (by kernel_rfl))
 f213:=Tryz.func263.trans (congrArg some (by kernel_rfl))
 f265:=Tryz.func276.trans (congrArg some (by kernel_rfl))
 t3:=Tryz.underlying3
 a3:=Tryz.isAgg3
 z3:=Tryz.sizeOf3
 v3:=Tryz.zeroValue3
 t9:=Tryz.underlying9
 a9:=Tryz.isAgg9
 z9:=Tryz.sizeOf9
 v9:=Tryz.zeroValue9 }
open Go.RowKit in
theorem Tryz.strings_Compare(a b:ByteArray)(w:World) :
  Calls Tryz.prog 236 #[.string a,.string b] w λ e w'=>e=.returned (.int .i64 (Lib.compareBytes a.data.toList b.data.toList))/\w'=w:=Any.strings_Compare Tryz.Ail a b w
def Tryz.Aag:Go.Shelf.Ren:=⟨fun | 137=>165 | 217=>203 | 266=>245 | n=>n,fun | 9=>9 | 5=>5 | 3=>3 | n=>n,fun | n=>n⟩
theorem Tryz.Ah8:Go.Proofs.Lays.n137 Tryz.prog Tryz.Aag:={
 mixed:=by kernel_rfl
 f137:=Tryz.func165.trans (congrArg some (by kernel_rfl))
 f217:=Tryz.func203.trans (congrArg some (by kernel_rfl))
 f266:=Tryz.func245.trans (congrArg some (by kernel_rfl))
 t3:=Tryz.underlying3
 a3:=Tryz.isAgg3
 z3:=Tryz.sizeOf3
 v3:=Tryz.zeroValue3
 t5:=Tryz.underlying5
 a5:=Tryz.isAgg5
 z5:=Tryz.sizeOf5
 v5:=Tryz.zeroValue5
 t9:=Tryz.underlying9
 a9:=Tryz.isAgg9
 z9:=Tryz.sizeOf9
 v9:=Tryz.zeroValue9 }
open Go.RowKit in
theorem Tryz.strings_IndexByte(s:ByteArray)(c:Int)(w:World) :
  Calls Tryz.prog 165 #[.string s,.int .u8 c] w λ e w'=>e=.returned (.int .i64 (Lib.indexByte s.data.toList c.toNat.toUInt8))/\w'=w:=Any.strings_IndexByte Tryz.Ah8 s c w
def Tryz.Abm:Go.Shelf.Ren:=⟨fun | 227=>206 | n=>n,fun | 9=>9 | 116=>269 | 4=>4 | 0=>0 | 3=>3 | 5=>5 | n=>n,fun | n=>n⟩
theorem Tryz.AhN:Go.Proofs.Lays.n227 Tryz.prog Tryz.Abm:={
 mixed:=by kernel_rfl
 f227:=Tryz.func206.trans (congrArg some (by kernel_rfl))
 t0:=Tryz.underlying0
 a0:=Tryz.isAgg0
 z0:=Tryz.sizeOf0
 v0:=Tryz.zeroValue0
 t3:=Tryz.underlying3
 a3:=Tryz.isAgg3
 z3:=Tryz.sizeOf3
 v3:=Tryz.zeroValue3
 t4:=Tryz.underlying4
 a4:=Tryz.isAgg4
 z4:=Tryz.sizeOf4
 v4:=Tryz.zeroValue4
 t5:=Tryz.underlying5
 a5:=Tryz.isAgg5
 z5:=Tryz.sizeOf5
 v5:=Tryz.zeroValue5
 t9:=Tryz.underlying9
 a9:=Tryz.isAgg9
 z9:=Tryz.sizeOf9
 v9:=Tryz.zeroValue9
 t116:=Tryz.underlying269
 a116:=Tryz.isAgg269
 z116:=Tryz.sizeOf269 }
open Go.RowKit Go.Lib in
theorem Tryz.strings_makeASCIISet(pQ:∀ w,(zeroValue 269).run Tryz.prog w=.ok (.agg (Array.replicate 256 (.bool false))) w)(chars:ByteArray)(w:World)(hs:chars.size<4294967281)(mX:∀(j:Nat) b,chars.data.toList[j]?=some b->b.toNat<128) :
  Calls Tryz.prog 206 #[.string chars] w λ e w'=>e=.returned (.tuple #[.agg (Lib.setCells chars.data.toList),.bool true])/\w'=w.alloc (.cells (Lib.setCells chars.data.toList) 269):=Any.strings_makeASCIISet Tryz.AhN pQ (by kernel_rfl) chars w hs mX
def Tryz.ZP:Go.Shelf.Ren:=⟨fun | 228=>246 | n=>n,fun | 124=>273 | 5=>5 | 4=>4 | 0=>0 | 116=>269 | n=>n,fun | n=>n⟩
theorem Tryz.Aic:Go.Proofs.Lays.n228 Tryz.prog Tryz.ZP:={
 mixed:=by kernel_rfl
 f228:=Tryz.func246.trans (congrArg some (by kernel_rfl))
 t0:=Tryz.underlying0
 a0:=Tryz.isAgg0
 z0:=Tryz.sizeOf0
 v0:=Tryz.zeroValue0
 t4:=Tryz.underlying4
 a4:=Tryz.isAgg4
 z4:=Tryz.sizeOf4
 v4:=Tryz.zeroValue4
 t5:=Tryz.underlying5
 a5:=Tryz.isAgg5
 z5:=Tryz.sizeOf5
 v5:=Tryz.zeroValue5
 t116:=Tryz.underlying269
 a116:=Tryz.isAgg269
 z116:=Tryz.sizeOf269
 t124:=Tryz.underlying273
 a124:=Tryz.isAgg273
 z124:=Tryz.sizeOf273
 v124:=Tryz.zeroValue273 }
open Go.RowKit Go.Lib in
theorem Tryz.asciiSet_contains(b:Nat)(x:UInt8)(v:Bool)(w:World)(hc:w.cell? ⟨b,x.toNat,none⟩=some (.bool v)) :
  Calls Tryz.prog 246 #[.pointer (some ⟨b,0,none⟩),.int .u8 x.toNat] w λ e w'=>e=.returned (.bool v)/\w'=w:=Any.asciiSet_contains Tryz.Aic b x v w hc
end Go.Proofs
namespace Go.Proofs.YtpnaifmmggnimaaGreatDoor
open _root_.Bool renaming and_eq_true -> AkC
open _root_.List renaming all_eq_true -> AlC, eq_nil_of_length_eq_zero -> AkT
set_option maxRecDepth 100000
open Go.Dn Go.Proofs
open Go.RowKit (Below)
set_option linter.unusedVariables false
theorem XO(mem:UInt8->Bool){w:World}{b:Nat}(hc:∀ x:UInt8,w.cell? ⟨b,x.toNat,none⟩=some (.bool (mem x)))(s:ByteArray)(hs:s.size<=9223372036854775807) :
  Calls Tryz.prog f.JT #[.string s,.pointer (some ⟨b,0,none⟩)] w (AG λ r w'=>∃ l m,r=.string (BC l)/\bl s=l++m/\m.all mem=true/\(l=[]\/∃ p c,l=p++[c]/\mem c=false)/\w'=w):=by
 apply R.G7
 delta R.B R.Cb R.F R.P R.Qt R.T R.W R.X R.Y;try dsimp only [R.Ps]
 refine⟨λ st w'=>∃ l m,st=[.string (BC l)]/\bl s=l++m/\m.all mem=true/\w'=w,λ st _=>match st with | [.string t]=>t.size | _=>0,⟨bl s,[],by rw [EI],by simp,rfl,rfl⟩,?_⟩;rintro t w1 ⟨l,m,aA,hl,hm,rfl⟩;have ht:t=BC l:=by simpa using aA
 subst ht;rw [AY];have hlen:l.length<=9223372036854775807:=by
  have:=congrArg List.length hl;rw [A9,List.length_append] at this;omega
 refine Aa (λ h=>?_) (λ h=>?_)
 ·have aQ:l≠[]:=by intro h2;subst h2;simp at h
  obtain⟨p,c,rfl⟩:∃ p c,l=p++[c]:=⟨l.dropLast,l.getLast aQ,(List.dropLast_concat_getLast aQ).symm⟩;simp only [List.length_append,List.length_cons,List.length_nil] at h hlen ⊢;have e1:IntKind.i64.wrap (((p.length+(0+1):Nat):Int)-1)=(p.length:Int):=by rw [wrap_i64 (by omega) (by omega)];omega
  rw [e1,Int.toNat_natCast,Mv,BP,show (p++[c]).getD p.length 0=c by simp];refine⟨⟨by omega,by omega⟩,(Tryz.asciiSet_contains b c (mem c) w1 (hc c)).mono ?_⟩;rintro _ w2 ⟨rfl,rfl⟩;refine⟨_,rfl,Ap (λ h2=>?_) (λ h2=>?_)⟩
  ·exact⟨p++[c],m,rfl,hl,hm,.inr ⟨p,c,rfl,by simpa using h2⟩,rfl⟩
  ·have vK:mem c=true:=by simpa using h2
   have e2:ByteArray.extract (BC (p++[c])) 0 p.length=BC p:=by
    rw [extract_eq,BP];simp
   refine⟨⟨by omega,by omega,by omega⟩,?_⟩;rw [e2];exact⟨⟨p,c :: m,rfl,by rw [hl];simp,by simp [vK,hm],rfl⟩,by show (BC p).size<(BC (p++[c])).size;rw [AY,AY];simp⟩
 ·have:l=[]:=AkT (by omega);exact⟨l,m,rfl,hl,hm,.inl this,rfl⟩
theorem ZB(mem:UInt8->Bool){w:World}{b:Nat}(hc:∀ x:UInt8,w.cell? ⟨b,x.toNat,none⟩=some (.bool (mem x)))(s:ByteArray) :
  Calls Tryz.prog f.Kx #[.string s,.pointer (some ⟨b,0,none⟩)] w (AG λ r w'=>∃ l m,r=.string (BC l)/\bl s=m++l/\m.all mem=true/\(l=[]\/∃ c p,l=c :: p/\mem c=false)/\w'=w):=by
 apply R.Hn
 delta R.B R.Cb R.F R.P R.Qt R.T R.X R.Y;try dsimp only [R.Ps]
 refine⟨λ st w'=>∃ l m,st=[.string (BC l)]/\bl s=m++l/\m.all mem=true/\w'=w,λ st _=>match st with | [.string t]=>t.size | _=>0,⟨bl s,[],by rw [EI],by simp,rfl,rfl⟩,?_⟩;rintro t w1 ⟨l,m,aA,hl,hm,rfl⟩;have ht:t=BC l:=by simpa using aA
 subst ht;rw [AY];refine Aa (λ h=>?_) (λ h=>?_)
 ·cases l with
  | nil=>simp at h
  | cons c p =>
   simp only [List.length_cons] at h ⊢;rw [Mv,BP,show (c :: p).getD 0 0=c by rfl];refine⟨⟨by omega,by omega⟩,(Tryz.asciiSet_contains b c (mem c) w1 (hc c)).mono ?_⟩;rintro _ w2 ⟨rfl,rfl⟩;refine⟨_,rfl,Ap (λ h2=>?_) (λ h2=>?_)⟩
   ·exact⟨c :: p,m,rfl,hl,hm,.inr ⟨c,p,rfl,by simpa using h2⟩,rfl⟩
   ·have vK:mem c=true:=by simpa using h2
    have e2:ByteArray.extract (BC (c :: p)) 1 (p.length+1)=BC p:=by
     rw [extract_eq,BP];simp
    refine⟨⟨by omega,by omega,by omega⟩,?_⟩;rw [e2];exact⟨⟨p,m++[c],rfl,by rw [hl];simp,by simp [vK,hm],rfl⟩,by show (BC p).size<(BC (c :: p)).size;rw [AY,AY];simp⟩
 ·have:l=[]:=AkT (by omega);exact⟨l,m,rfl,hl,hm,.inl this,rfl⟩
theorem SA:∀(us:List Bool) {n:Nat} {f:List Value->Prop},us.length=n->f (us.map .bool)->FD (List.replicate n (.bool false)) f
 | [],_,_,hn,h=>by subst hn;exact h
 | u :: us,_,_,hn,h=>by subst hn;exact⟨u,SA us rfl h⟩
def Zg(l:List UInt8):List Bool:=(List.range 256).map λ j=>l.contains (UInt8.ofNat j)
theorem VH(l:List UInt8):Lib.setCells l=⟨(Zg l).map .bool⟩:=by
 rw [Lib.setCells_eq];apply Array.ext';simp [Zg,List.map_map,Function.comp_def]
theorem SW(s cut:ByteArray)(hs:s.size<=9223372036854775807)(h2:2<=cut.size)(hz:cut.size<4294967281)(ha:∀(j:Nat) b,cut.data.toList[j]?=some b->b.toNat<128)(w:World) :
  Calls Tryz.prog f.Yl #[.string s,.string cut] w (AG λ r w'=>∃ q,r=.string q/\(q=⟨#[]⟩↔(bl s).all (bl cut).contains=true)/\Below w.heap.size w w'):=by
 apply R.OI
 delta R.A R.B R.Ct R.D R.F R.G R.H R.J R.P R.T R.X R.Zb;try dsimp only [R.Ps]
 have he:∀ x:ByteArray,Bh x ⟨#[]⟩=true->x=⟨#[]⟩:=λ x h=>by rw [AZ] at h;simpa using h
 refine Ap (λ h=>?_) (λ h0=>Ap (λ h=>?_) (λ h1=>?_))
 ·have:=he s h;subst this;exact⟨_,rfl,by simp [bl],.refl _ _⟩
 ·have:=he cut h;subst this;exact absurd h2 (by decide)
 ·refine⟨λ st w'=>st=[.bool false]/\w'=w,Ao (λ h=>by omega) (λ _=>⟨rfl,rfl⟩),?_⟩;rintro t w1 ⟨ht,rfl⟩;have:t=false:=by simpa using ht
  subst this;refine AV ((Tryz.strings_makeASCIISet (λ _=>by kernel_rfl) cut w1 hz ha).mono ?_);rintro _ w5 ⟨rfl,rfl⟩;rw [VH];have au:(Zg cut.data.toList).length=256:=by simp [Zg]
  refine SA (Zg cut.data.toList) au ⟨true,rfl,?_⟩;have B0:Below w1.heap.size w1 (w1.alloc (.cells ⟨(Zg cut.data.toList).map .bool⟩ ty.QF)):=(Below.refl _ w1).alloc (Nat.le_refl _) _;have S0:=(SH.start (λ _=>False) w1).grown B0;have h1:∀ v∈(Zg cut.data.toList).map Value.bool,v.oneCell'=true:=by
   intro v hv;obtain⟨u,_,rfl⟩:=List.mem_map.1 hv;rfl
  have ay:((Zg cut.data.toList).map Value.bool).length=256:=by rw [List.length_map];exact au
  refine S0.An λ df w6 _ _ S=>Ds ay (S.En 0 rfl ay h1 λ w7 _ S=>CQ ?_);have hc:∀ x:UInt8,w7.cell? ⟨df,x.toNat,none⟩=some (.bool ((bl cut).contains x)):=λ x=>S.cell 0 rfl (by
   rw [<- VH];exact Lib.setCells_at _ _)
  refine (XO (bl cut).contains hc s hs).mono ?_;rintro _ w8 ⟨_,rfl,l,m,rfl,hl,hm,gX,rfl⟩;refine⟨_,rfl,(ZB (bl cut).contains hc (BC l)).mono ?_⟩;rintro _ w9 ⟨_,rfl,q,p,rfl,hq,hp,nO,rfl⟩;refine⟨_,rfl,_,rfl,?_,S.below⟩;rw [BP] at hq;rw [hl,hq,List.all_append,List.all_append,hm,hp];rcases nO with rfl | ⟨c,r,rfl,hcf⟩
  ·simp [BC]
  ·simp [BC];intro iW;simp_all
theorem Aa9{p:UInt8->Bool}(h:(List.range 256).all (λ n=>p (UInt8.ofNat n))=true)(c:UInt8):p c=true:=by
 have:=AlC.1 h c.toNat (List.mem_range.2 c.toNat_lt);simpa using this
def Us:ByteArray:=⟨#[97,98,99,100,101,102,103,104,105,106,107,108,109,110,111,112,113,114,115,116,117,118,119,120,121,122]⟩
def T0:ByteArray:=⟨#[97,98,99,100,101,102,103,104,105,106,107,108,109,110,111,112,113,114,115,116,117,118,119,120,121,122,48,49,50,51,52,53,54,55,56,57,95]⟩
theorem Aia(c:UInt8):decide (Lib.indexByte Us.data.toList c>=0)=UZ c:=by
 have:=Aa9 (p:=λ c=>decide (Lib.indexByte Us.data.toList c>=0)==UZ c) (by kernel_rfl) c;simpa using this
theorem Aib(c:UInt8):(bl T0).contains c=(UZ c || YR c):=by
 have:=Aa9 (p:=λ c=>(bl T0).contains c==(UZ c || YR c)) (by kernel_rfl) c;simpa using this
theorem WY{s:ByteArray}(h1:1<=s.size)(h2:s.size<=24):Fv s=(UZ (Ay s 0) && (bl s).all λ c=>UZ c || YR c):=by
 have hl:(bl s).length=s.size:=A9 s;have he:∀ i (hi:i<(bl s).length),Ay s i=(bl s)[i]:=λ i hi=>by rw [Mv];simp [List.getD,hi]
 rw [Bool.eq_iff_iff];simp only [Fv,AkC,AlC,List.mem_range,decide_eq_true_eq,h1,h2,and_true];constructor
 ·intro h;refine⟨?_,λ c hc=>?_⟩
  ·have:=h 0 (by omega);simpa [nameAt] using this
  ·obtain⟨i,hi,rfl⟩:=List.getElem_of_mem hc;have:=h i (by omega);rw [nameAt,he i hi] at this;simp only [Bool.or_eq_true,AkC] at this ⊢;rcases this with h | h
   ·exact .inl h
   ·exact .inr h.1
 ·rintro⟨h0,h⟩ i hi;have wv:i<(bl s).length:=by omega
  have:=h _ (List.getElem_mem wv);rw [nameAt];by_cases hz:i=0
  ·subst hz;simp [h0]
  ·rw [he i wv];simp only [Bool.or_eq_true,AkC] at this ⊢;rcases this with h | h
   ·exact .inl h
   ·exact .inr ⟨h,by simpa using hz⟩
theorem Q5(s:ByteArray)(hs:s.size<=9223372036854775807)(w:World):Calls Tryz.prog f.VR #[.string s] w (AG λ r w'=>r=.bool (Fv s)/\Below w.heap.size w w'):=by
 apply R.M4
 delta R.B R.Ci R.Ct R.F R.G R.T R.X;try dsimp only [R.Ps]
 refine Au (Ap (λ h=>?_) (λ h0=>?_))
 ·rw [AZ] at h;have:s=⟨#[]⟩:=by simpa using h
  subst this;exact⟨rfl,.refl _ _⟩
 rw [AZ] at h0;have aQ:s≠⟨#[]⟩:=by simpa using h0
 have h1:1<=s.size:=by
  rcases Nat.eq_zero_or_pos s.size with h | h
  ·exact absurd (Rn (by rw [AkT ((A9 s).trans h)];rfl)) aQ
  ·exact h
 refine Aa (λ h2=>?_) (λ h2=>⟨?_,.refl _ _⟩)
 case refine_2 =>
  have bW:¬ s.size<=24:=by omega
  simp [Fv,bW]
 have bW:s.size<=24:=by omega
 have hb:=(Ay s 0).toNat_lt;refine⟨⟨by omega,by omega⟩,(Tryz.strings_IndexByte Us ((Ay s 0).toNat:Int) w).mono ?_⟩;rintro _ w1 ⟨rfl,rfl⟩;refine⟨_,rfl,?_⟩;have e:((Ay s 0).toNat:Int).toNat.toUInt8=Ay s 0:=by simp
 rw [e,Aia];refine Ap (λ h3=>?_) (λ h3=>⟨?_,.refl _ _⟩)
 ·refine (SW s T0 hs (by decide) (by decide) ?_ w1).mono ?_
  ·intro j b hj;have h:T0.data.toList.all (λ b=>decide (b.toNat<128))=true:=by decide
   exact of_decide_eq_true (AlC.1 h b (List.mem_of_getElem? hj))
  rintro _ w2 ⟨_,rfl,q,rfl,hq,B⟩;refine⟨_,rfl,?_,B⟩;congr 1;rw [AZ,WY h1 bW,h3,Bool.true_and,Bool.eq_iff_iff,decide_eq_true_eq,hq];simp only [AlC,Aib]
 ·rw [WY h1 bW,h3,Bool.false_and]
end Go.Proofs.YtpnaifmmggnimaaGreatDoor
namespace Go.Dn
set_option linter.unusedVariables false
set_option maxRecDepth 100000
def Good(P:Program)(w:World):Nat->TypeId->List Value->Prop
 | 0,_,_=>False
 | n+1,t,cs =>
  match P.underlying t with
  | some .bool=>∃ b,cs=[.bool b]
  | some (.int k)=>∃ x,cs=[.int k x]/\(Lit.int k x).wf=true
  | some .string=>∃ s:ByteArray,cs=[.string s]/\s.size<=maxLen
  | some (.slice e)=>∃ a len cap,cs=[.slice a len cap]/\len<=cap/\cap<=maxLen/\(a=none->cap=0) /\
    ∃ rows:List (List Value),rows.length=len/\Rd w a rows.flatten/\∀ r∈rows,r.length=P.cellsOf e/\Good P w n e r
  | some (.struct fs)=>cs.length=P.cellsOf t/\∀ f∈fs.toList,Good P w n f.type ((cs.drop f.offset).take (P.cellsOf f.type))
  | _=>True
section
variable {P:Program}{w:World}
theorem Good.bool{n:Nat}{t:TypeId}{cs:List Value}(h:Good P w n t cs)(ht:P.underlying t=some .bool):∃ b,cs=[.bool b]:=by
 cases n with
 | zero=>exact h.elim
 | succ n=>unfold Good at h;rw [ht] at h;exact h
theorem Good.int{n:Nat}{t:TypeId}{cs:List Value}{k:IntKind}(h:Good P w n t cs)(ht:P.underlying t=some (.int k)):∃ x,cs=[.int k x]/\(Lit.int k x).wf=true:=by
 cases n with
 | zero=>exact h.elim
 | succ n=>unfold Good at h;rw [ht] at h;exact h
theorem Good.str{n:Nat}{t:TypeId}{cs:List Value}(h:Good P w n t cs)(ht:P.underlying t=some .string):∃ s:ByteArray,cs=[.string s]/\s.size<=maxLen:=by
 cases n with
 | zero=>exact h.elim
 | succ n=>unfold Good at h;rw [ht] at h;exact h
theorem Good.slice{n:Nat}{t e:TypeId}{cs:List Value}(h:Good P w n t cs)(ht:P.underlying t=some (.slice e)):∃ a len cap,cs=[.slice a len cap]/\len<=cap/\cap<=maxLen/\(a=none->cap=0) /\
    ∃(m:Nat) (rows:List (List Value)),rows.length=len/\Rd w a rows.flatten/\∀ r∈rows,r.length=P.cellsOf e/\Good P w m e r:=by
 cases n with
 | zero=>exact h.elim
 | succ n =>
  unfold Good at h;rw [ht] at h;obtain⟨a,len,cap,h1,h2,h3,h4,rows,h5⟩:=h;exact⟨a,len,cap,h1,h2,h3,h4,n,rows,h5⟩
theorem Good.struct{n:Nat}{t:TypeId}{cs:List Value}{fs:Array Field}(h:Good P w n t cs)(ht:P.underlying t=some (.struct fs)) :
  cs.length=P.cellsOf t/\∃ m,∀ f∈fs.toList,Good P w m f.type ((cs.drop f.offset).take (P.cellsOf f.type)):=by
 cases n with
 | zero=>exact h.elim
 | succ n =>
  unfold Good at h;rw [ht] at h;exact⟨h.1,n,h.2⟩
def PV(P:Program)(t:TypeId):Option (List (TypeId × Nat)) :=
 match P.underlying t with
 | some (.struct fs)=>some (fs.toList.map λ f=>(f.type,f.offset))
 | _=>none
theorem Good.fields{n:Nat}{t:TypeId}{cs:List Value}{l:List (TypeId × Nat)}(h:Good P w n t cs)(ht:PV P t=some l) :
  cs.length=P.cellsOf t/\∃ m,∀ x∈l,Good P w m x.1 ((cs.drop x.2).take (P.cellsOf x.1)):=by
 unfold PV at ht;split at ht
 ·rename_i fs hu;obtain⟨h1,m,h2⟩:=h.struct hu;cases ht;refine⟨h1,m,λ x hx=>?_⟩;obtain⟨f,hf,rfl⟩:=List.mem_map.1 hx;exact h2 f hf
 ·cases ht
theorem SQ(sz:Nat):∀(rows:List (List Value)),(∀ r∈rows,r.length=sz)->∀ j v,rows.flatten[j]?=some v->0<sz/\j / sz<rows.length/\∃ r,rows[j / sz]?=some r/\r[j % sz]?=some v
 | [],_,j,v,h=>by simp at h
 | r :: rows,hl,j,v,h=>by
  have hr:r.length=sz:=hl r (by simp);rw [List.flatten_cons] at h;by_cases hj:j<sz
  ·rw [List.getElem?_append_left (by omega)] at h;refine⟨by omega,by rw [Nat.div_eq_of_lt hj];simp,r,by rw [Nat.div_eq_of_lt hj];rfl,by rw [Nat.mod_eq_of_lt hj];exact h⟩
  ·rw [List.getElem?_append_right (by omega),hr] at h;obtain⟨h0,h1,r',h2,h3⟩:=SQ sz rows (λ r hr=>hl r (by simp [hr])) (j-sz) v h;have e:j / sz=(j-sz) / sz+1:=by
    have:=Nat.add_div_right (j-sz) h0;rw [show j-sz+sz=j by omega] at this;exact this
   have e2:j % sz=(j-sz) % sz:=Nat.mod_eq_sub_mod (by omega);refine⟨h0,by rw [e];simp;exact h1,r',by rw [e];simpa using h2,by rw [e2];exact h3⟩
theorem JN{H:Type}{enc:TypeId × Value->H}{spare:Nat->Bool}{held:Bool}{base:Nat}:∀(n:Nat) (t:TypeId) (cs:List Value) (x:DataW H × List MemPlace),DataW.trod enc P w base spare held n t cs=some x->Good P w n t cs
 | 0,_,_,_,h=>by simp [DataW.trod] at h
 | n+1,t,cs,x,h=>by
  unfold Good;split
  ·rename_i ht;obtain⟨b,rfl,_⟩:=DataW.trod_bool ht h;exact⟨b,rfl⟩
  ·rename_i k ht;obtain⟨z,rfl,_,hw⟩:=DataW.trod_int ht h;exact⟨z,rfl,hw⟩
  ·rename_i ht;obtain⟨s,rfl,_,hw⟩:=DataW.trod_string ht h;exact⟨s,rfl,hw⟩
  ·rename_i e ht;rcases DataW.trod_slice ht h with ⟨rfl,_⟩ | ⟨a,len,cap,elems,rest,m,hn,rfl,_,hb,hl,hm,hlen,hel,_,_⟩
   ·exact⟨none,0,0,rfl,Nat.le_refl _,Nat.zero_le _,λ _=>rfl,[],rfl,Rd.nil _ _,by simp⟩
   ·have cC:n=m:=by omega
    subst cC;have hx:∀ i,i<len->∃ aC:List Value,w.cells? base (a.add (i*P.cellsOf e)) (P.cellsOf e)=some aC/\Good P w n e aC:=by
     intro i hi;have:=hel i hi;rw [List.getElem?_eq_getElem (by omega)] at this;obtain⟨aC,h1,h2⟩:=Option.bind_eq_some_iff.1 this;exact⟨aC,h1,JN n e aC _ h2⟩
    obtain⟨V,hV⟩:=Deep.choose_lt (α:=List Value) hx;have cM:∀ r∈(List.range len).map V,r.length=P.cellsOf e/\Good P w n e r:=by
     intro r hr;obtain⟨i,hi,rfl⟩:=List.mem_map.1 hr;have:=hV i (by simpa using hi);exact⟨(World.cells?_some this.1).2.1,this.2⟩
    refine⟨some a,len,cap,rfl,hl,hm,(λ h=>nomatch h),(List.range len).map V,by simp,?_,cM⟩;intro j v hv;obtain⟨h0,h1,r,h2,h3⟩:=SQ (P.cellsOf e) _ (λ r hr=>(cM r hr).1) j v hv;refine⟨a,rfl,?_⟩;simp only [List.length_map,List.length_range] at h1;simp only [List.getElem?_map,List.getElem?_range h1,Option.map_some,Option.some.injEq] at h2;subst h2;obtain⟨hc,hg⟩:=hV _ h1;have aB:j % P.cellsOf e<P.cellsOf e:=Nat.mod_lt _ h0;have:=(World.cells?_some hc).2.2 _ aB;rw [BK,h3] at this;rw [<- this];congr 2;rw [Nat.mul_comm];exact (Nat.div_add_mod j _).symm
  ·rename_i fs ht;unfold DataW.trod at h;rw [ht] at h;simp only at h;split at h
   ·rename_i hlen;refine⟨hlen,λ f hf=>?_⟩;obtain⟨xs,bN,_⟩:=Option.map_eq_some_iff.1 h;obtain⟨i,hi⟩:=List.getElem?_of_mem hf;have hl:=mapM_some_length bN;have aB:=(List.getElem?_eq_some_iff.1 hi).1;have hg:=mapM_some_get bN i f hi;rw [List.getElem?_eq_getElem (by omega)] at hg;exact JN n _ _ _ hg
   ·cases h
  ·trivial
theorem Ahw{α:Type}{rows:List (List Value)}{g:α->List Value}{q:α->Prop}(h:∀ r∈rows,∃ x,r=g x/\q x):∃ xs:List α,rows=xs.map g/\∀ x∈xs,q x:=by
 induction rows with
 | nil=>exact⟨[],rfl,by simp⟩
 | cons r rows ih =>
  obtain⟨x,rfl,hx⟩:=h r (by simp);obtain⟨xs,rfl,bN⟩:=ih λ r hr=>h r (by simp [hr]);exact⟨x :: xs,rfl,by simpa using ⟨hx,bN⟩⟩
theorem Good.list{α:Type}{n:Nat}{t e:TypeId}{cs:List Value}(h:Good P w n t cs)(ht:P.underlying t=some (.slice e))(g:α->List Value)(q:α->Prop)(hg:∀ m r,r.length=P.cellsOf e->Good P w m e r->∃ x,r=g x/\q x) :
  ∃ a cap,∃ xs:List α,cs=[.slice a xs.length cap]/\xs.length<=cap/\cap<=maxLen/\(a=none->cap=0)/\Rd w a (xs.flatMap g)/\∀ x∈xs,q x:=by
 obtain⟨a,len,cap,rfl,h1,h2,h3,m,rows,rfl,hr,hrs⟩:=h.slice ht;obtain⟨xs,rfl,hq⟩:=Ahw (λ r hr=>hg m r (hrs r hr).1 (hrs r hr).2);simp only [List.length_map] at h1 ⊢;exact⟨a,cap,xs,rfl,h1,h2,h3,by rw [List.flatMap_def];exact hr,hq⟩
def GL{α:Type}(w:World)(g:α->List Value)(q:α->Prop)(a:Option Addr)(xs:List α)(c:Nat):Prop :=
 xs.length<=c/\c<=maxLen/\(a=none->c=0)/\Rd w a (xs.flatMap g)/\∀ x∈xs,q x
theorem Good.gl{α:Type}{n:Nat}{t e:TypeId}{a0:Option Addr}{l0 c0:Nat}(h:Good P w n t (Value.slice a0 l0 c0).cells.toList)(ht:P.underlying t=some (.slice e))(g:α->List Value)(q:α->Prop)(hg:∀ m r,r.length=P.cellsOf e->Good P w m e r->∃ x,r=g x/\q x) :
  ∃ xs:List α,l0=xs.length/\GL w g q a0 xs c0:=by
 obtain⟨a,c,xs,he,h1⟩:=h.list ht g q hg;have jj:[Value.slice a0 l0 c0]=[.slice a xs.length c]:=he;simp only [List.cons.injEq,Value.slice.injEq,and_true] at jj;obtain⟨rfl,rfl,rfl⟩:=jj;exact⟨xs,rfl,h1⟩
theorem Ags{α β:Type}(f:α->β):∀ l:List α,(l.flatMap λ x=>[f x])=l.map f
 | []=>rfl
 | x :: l=>by rw [List.flatMap_cons,Ags f l];rfl
end
end Go.Dn
namespace Go.Proofs.YtpnaifmmggnimaaGreatDoor
open _root_.BitVec renaming ofInt -> AkA
open _root_.Prod.mk renaming injEq -> AkE
set_option maxRecDepth 100000
open Go.Dn Go.Proofs
open Go.RowKit (Below)
set_option linter.unusedVariables false
abbrev AB:=Int × Int × ByteArray
def Th(v:AB):Value:=.agg #[.int .i64 v.1,.int .i64 v.2.1,.string v.2.2]
abbrev E0:ByteArray:=⟨#[]⟩
def AK(v:AB):Bool :=
 if v.1=0 then decide (v.2.1=0/\v.2.2=E0) else if v.1=1 then decide (v.2.2=E0) else if v.1=2 then decide ((v.2.1=0\/v.2.1=1)/\v.2.2=E0) else
 if v.1=3 then decide (v.2.1=0/\v.2.2.size<=1024) else false
theorem Akz(n:Int):n=IntKind.i64.wrap (((AkA 64 n &&& AkA 64 1).toNat:Int))↔(n=0\/n=1):=by
 have h:(AkA 64 n &&& AkA 64 1).toNat=0\/(AkA 64 n &&& AkA 64 1).toNat=1:=by
  rw [BitVec.toNat_and];have h1:(AkA 64 1).toNat=2 ^ 1-1:=by decide
  rw [h1,Nat.and_two_pow_sub_one_eq_mod];omega
 constructor
 ·intro e;rcases h with h | h
  ·rw [h] at e;left;rw [e];decide
  ·rw [h] at e;right;rw [e];decide
 ·rintro (rfl | rfl) <;> decide
theorem Ex(w:World)(v:AB):Calls Tryz.prog f.Aae #[Th v] w (AG λ r w'=>r=.bool (AK v)/\Below w.heap.size w w'):=by
 obtain⟨k,n,s⟩:=v;apply R.Po
 delta R.A R.Ab R.F R.G R.I R.Li R.Lt R.N R.Am R.T R.W R.Z;try dsimp only [R.Ps]
 refine (SH.start (λ _=>False) w).An λ b4 w1 jx B1 S1=>⟨_,S1.cell 0 rfl rfl,S1.Iz λ b6 w5 kq B5 S5=>?_⟩;refine⟨λ _ w9=>∃ p:AB,SH (λ _=>False) w w9 [(b6,#[.int .i64 p.1,.int .i64 p.2.1,.string p.2.2],ty.AW),(b4,#[.int .i64 k,.int .i64 n,.string s],ty.AW)]/\p.1=k /\
   (0<=k->k<4->(((k,n,s):AB)=p/\s.size<=1024↔AK (k,n,s)=true)),?_,?_⟩
 ·refine⟨_,S5.cell 1 rfl rfl,Ao (λ h=>?_) (λ h0=>Ao (λ h=>⟨_,S5.cell 1 rfl rfl,?_⟩) (λ h1=>Ao (λ h=>⟨_,S5.cell 1 rfl rfl,?_⟩) (λ h2=>Ao (λ h=>⟨_,S5.cell 1 rfl rfl,?_⟩) (λ h3=>?_))))⟩
  ·subst h;refine⟨(0,0,E0),S5,rfl,λ _ _=>?_⟩;simp only [AK,if_pos,decide_eq_true_eq,AkE,true_and];constructor
   ·rintro⟨⟨h1,h2⟩,_⟩;exact⟨h1,h2⟩
   ·rintro⟨h1,rfl⟩;exact⟨⟨h1,rfl⟩,by decide⟩
  ·subst h;refine S5.BR 0 rfl (show 1<3 by decide) λ w6 S6=>⟨(1,n,E0),S6,rfl,λ _ _=>?_⟩;simp only [AK,if_neg (show ¬ (1:Int)=0 by decide),if_pos,decide_eq_true_eq,AkE,true_and];constructor
   ·rintro⟨h1,_⟩;exact h1
   ·rintro rfl;exact⟨rfl,by decide⟩
  ·subst h;refine S5.BR 0 rfl (show 1<3 by decide) λ w6 S6=>⟨(2,IntKind.i64.wrap (((AkA 64 n &&& AkA 64 1).toNat:Int)),E0),S6,rfl,λ _ _=>?_⟩;simp only [AK,if_neg (show ¬ (2:Int)=0 by decide),if_neg (show ¬ (2:Int)=1 by decide),if_pos,decide_eq_true_eq,AkE,true_and];rw [Akz];constructor
   ·rintro⟨⟨h1,h2⟩,_⟩;exact⟨h1,h2⟩
   ·rintro⟨h1,rfl⟩;exact⟨⟨h1,rfl⟩,by decide⟩
  ·subst h;refine S5.BR 0 rfl (show 2<3 by decide) λ w6 S6=>⟨(3,0,s),S6,rfl,λ _ _=>?_⟩;simp only [AK,if_neg (show ¬ (3:Int)=0 by decide),if_neg (show ¬ (3:Int)=1 by decide),if_neg (show ¬ (3:Int)=2 by decide),if_pos,decide_eq_true_eq,AkE,true_and,and_true]
  ·exact⟨(k,0,E0),S5,rfl,λ _ _=>by omega⟩
 ·rintro w9 ⟨p,S9,hp,vC⟩;have no:¬ (0<=k/\k<4)->Value.bool false=.bool (AK (k,n,s)):=by
   intro hk;simp only [AK];rw [if_neg (by omega),if_neg (by omega),if_neg (by omega),if_neg (by omega)]
  refine⟨_,S9.cell 1 rfl rfl,Aa (λ h0=>⟨_,S9.cell 1 rfl rfl,Aa (λ h4=>?_) (λ h4=>⟨no (by omega),S9.below⟩)⟩) (λ h0=>⟨no (by omega),S9.below⟩)⟩;refine⟨_,S9.cell 1 rfl rfl,_,S9.cell 1 rfl rfl,_,S9.cell 1 rfl rfl,_,S9.cell 0 rfl rfl,_,S9.cell 0 rfl rfl,_,S9.cell 0 rfl rfl,?_⟩;have hi:=vC h0 h4;rw [Ads];refine Ap (λ he=>⟨_,S9.cell 1 rfl rfl,?_,S9.below⟩) (λ he=>⟨?_,S9.below⟩)
  ·simp only [Bool.and_true,Bool.and_eq_true,beq_iff_eq,decide_eq_true_eq] at he;have e:((k,n,s):AB)=p:=by
    obtain⟨p1,p2,p3⟩:=p;simp only at he;rw [he.1,he.2.1,he.2.2]
   congr 1;rw [Bool.eq_iff_iff];rw [<- hi];simp only [e,true_and,decide_eq_true_eq];omega
  ·have hn:¬ (AK (k,n,s)=true):=by
    rw [<- hi];rintro⟨e,_⟩;rw [<- e] at he;simp at he
   simp [Bool.eq_false_iff.2 hn]
theorem FX(w:World)(v:AB):Calls Tryz.prog f.Zq #[Th v] w (AG λ r w'=>r=.bool (AK v)/\Below w.heap.size w w'):=by
 obtain⟨k,n,s⟩:=v;apply R.PJ
 delta R.A R.Ab R.F R.G R.I R.Li R.Lt R.N R.T;try dsimp only [R.Ps]
 refine (SH.start (λ _=>False) w).An λ b4 w1 jx B1 S1=>⟨_,S1.cell 0 rfl rfl,?_⟩;simp only [AZ,AK];refine Ao (λ h=>⟨_,S1.cell 0 rfl rfl,Ao (λ hn=>⟨_,S1.cell 0 rfl rfl,?_,B1⟩) (λ hn=>⟨?_,B1⟩)⟩) (λ h0=>Ao (λ h=>⟨_,S1.cell 0 rfl rfl,?_,B1⟩) (λ h1=>Ao (λ h=>⟨_,S1.cell 0 rfl rfl,?_⟩) (λ h2=>Ao (λ h=>⟨_,S1.cell 0 rfl rfl,Ao (λ hn=>⟨_,S1.cell 0 rfl rfl,?_,B1⟩) (λ hn=>⟨?_,B1⟩)⟩) (λ h3=>⟨?_,B1⟩))))
 ·simp [h,hn]
 ·simp [h,hn]
 ·simp [h]
 ·refine Ao (λ hn=>⟨_,S1.cell 0 rfl rfl,?_,B1⟩) (λ hn=>⟨_,S1.cell 0 rfl rfl,Ao (λ eN=>⟨_,S1.cell 0 rfl rfl,?_,B1⟩) (λ eN=>⟨?_,B1⟩)⟩)
  ·simp [h,hn]
  ·simp [h,eN]
  ·simp [h,hn,eN]
 ·simp [h,hn];omega
 ·simp [h,hn]
 ·simp [h0,h1,h2,h3]
/-! ### the order -/
end Go.Proofs.YtpnaifmmggnimaaGreatDoor
namespace Go.Proofs.YtpnaifmmggnimaaGreatDoor
set_option maxRecDepth 100000
open Go.Dn Go.Proofs
open Go.RowKit (Below)
set_option linter.unusedVariables false
/-! ### what package-level variables hold -/
/-! ### Number, Signed, Text -/
/-! ### Lay -/
structure BN(v:AB):Prop where
 lo : -9223372036854775808<=v.2.1
 hi:v.2.1<=9223372036854775807
theorem Gf{v:AB}(h:AK v=true):v.1=0\/v.1=1\/(v.1=2/\(v.2.1=0\/v.2.1=1))\/(v.1=3/\v.2.2.size<=1024):=by
 unfold AK at h;split at h
 ·left;assumption
 ·split at h
  ·right;left;assumption
  ·split at h
   ·right;right;left;simp at h;exact⟨by assumption,h.1⟩
   ·split at h
    ·right;right;right;simp at h;exact⟨by assumption,h.2⟩
    ·cases h
/-! ### Show -/
end Go.Proofs.YtpnaifmmggnimaaGreatDoor
namespace Go.Proofs.YtpnaifmmggnimaaGreatDoor
open _root_.Array renaming getElem?_eq_some_iff -> AlG
open _root_.BitVec renaming ofInt -> AkA, ofInt_natCast -> Alc, toNat_ofNat -> Alb
open _root_.Bool renaming toNat_true -> AlO
open _root_.ByteArray renaming size -> AlN
open _root_.Int renaming natCast_mul -> AlR, natCast_nonneg -> AlS, tdiv -> AlJ, tdiv_eq_ediv_of_nonneg -> AlF, tmod_eq_emod_of_nonneg -> Aln, toNat_natCast -> Ak4
open _root_.List renaming getElem_mem -> AlI, length_map -> Alh, mem_cons_of_mem -> AlE, mem_cons_self -> AlD, range -> AlB
open _root_.Nat renaming div_le_self -> AlK, le_refl -> AkY, lt_of_lt_of_le -> AkO, lt_or_ge -> AlH, mod_eq_of_lt -> Ala, mod_lt -> Alr, mul_comm -> Alf, mul_le_mul -> AlQ, mul_one -> Ak7, one_mul -> AlP, pow_le_pow_right -> All, pow_lt_pow_right -> AlL, two_pow_pos -> AlM
set_option maxRecDepth 100000
open Go.Dn Go.Proofs
open Go.RowKit (Below)
set_option linter.unusedVariables false
def DR(x r:Nat):Prop:=x<2 ^ r/\(r=0\/2 ^ (r-1)<=x)
theorem DR.one{x r s:Nat}(h:DR x r)(h':DR x s):r=s:=by
 have key:∀ {a b:Nat},DR x a->DR x b->a<=b:=by
  intro a b ha hb;rcases ha.2 with h0 | h0
  ·omega
  ·rcases AlH b a with aB | aJ
   ·have:2 ^ b<=2 ^ (a-1):=All (by omega) (by omega);have:=hb.1;omega
   ·exact aJ
 exact Nat.le_antisymm (key h h') (key h' h)
theorem DR.le{x r w:Nat}(h:DR x r):r<=w↔x<2 ^ w:=by
 constructor
 ·intro hle;exact AkO h.1 (All (by omega) hle)
 ·intro aB;rcases h.2 with h0 | h0
  ·omega
  ·rcases AlH w r with ao | aJ
   ·have:2 ^ w<=2 ^ (r-1):=All (by omega) (by omega);omega
   ·exact aJ
theorem DR.of_le{x r:Nat}(h:∀ w,r<=w↔x<2 ^ w):DR x r:=by
 refine⟨(h r).1 (AkY _),?_⟩;rcases Nat.eq_zero_or_pos r with h0 | h0
 ·exact .inl h0
 ·right;rcases AlH x (2 ^ (r-1)) with aB | aJ
  ·have:=(h (r-1)).2 aB;omega
  ·exact aJ
theorem DR.shift{x r s:Nat}(h:DR (x / 2 ^ s) r)(hx:2 ^ s<=x):DR x (r+s):=by
 have hp:0<2 ^ s:=AlM s;have h1:1<=x / 2 ^ s:=(Nat.le_div_iff_mul_le hp).2 (by omega);have hr:r≠0:=by
  rintro rfl;have:=h.1;simp at this;omega
 refine⟨?_,.inr ?_⟩
 ·rw [Nat.pow_add];exact (Nat.div_lt_iff_lt_mul hp).1 h.1
 ·rcases h.2 with h0 | h0
  ·exact absurd h0 hr
  ·rw [show r+s-1=(r-1)+s by omega,Nat.pow_add];exact (Nat.le_div_iff_mul_le hp).1 h0
def Mj:ByteArray:=⟨#[0,1,2,2,3,3,3,3,4,4,4,4,4,4,4,4,5,5,5,5,5,5,5,5,5,5,5,5,5,5,5,5,6,6,6,6,6,6,6,6,6,6,6,6,6,6,6,6,6,6,6,6,6,6,6,6,6,6,6,6,6,6,6,6,7,7,7,7,7,7,7,7,7,7,7,7,7,7,7,7,7,7,7,7,7,7,7,7,7,7,7,7,7,7,7,7,7,7,7,7,7,7,7,7,7,7,7,7,7,7,7,7,7,7,7,7,7,7,7,7,7,7,7,7,7,7,7,7,8,8,8,8,8,8,8,8,8,8,8,8,8,8,8,8,8,8,8,8,8,8,8,8,8,8,8,8,8,8,8,8,8,8,8,8,8,8,8,8,8,8,8,8,8,8,8,8,8,8,8,8,8,8,8,8,8,8,8,8,8,8,8,8,8,8,8,8,8,8,8,8,8,8,8,8,8,8,8,8,8,8,8,8,8,8,8,8,8,8,8,8,8,8,8,8,8,8,8,8,8,8,8,8,8,8,8,8,8,8,8,8,8,8,8,8,8,8,8,8,8,8,8,8,8,8,8,8]⟩
theorem AeD:Mj.size=256:=by decide
theorem AgW:((AlB 256).all λ i=>decide (i<2 ^ (Ay Mj i).toNat) && ((Ay Mj i).toNat==0 || decide (2 ^ ((Ay Mj i).toNat-1)<=i)) && decide ((Ay Mj i).toNat<=8))=true:=by decide +kernel
theorem Adq{i:Nat}(h:i<256):DR i (Ay Mj i).toNat/\(Ay Mj i).toNat<=8:=by
 have:=List.all_eq_true.1 AgW i (List.mem_range.2 h);simp only [Bool.and_eq_true,decide_eq_true_eq,Bool.or_eq_true,beq_iff_eq] at this;exact⟨⟨this.1.1,this.1.2⟩,this.2⟩
theorem fdiv_pow(x s:Nat):Int.fdiv (x:Int) (2 ^ s)=((x / 2 ^ s:Nat):Int):=by
 rw [Int.fdiv_eq_ediv_of_nonneg _ (Int.le_of_lt (Int.pow_pos (by omega)))]
 norm_cast
theorem Ag6(w:World)(x:Nat)(hx:x<18446744073709551616):Calls Tryz.prog f.TH #[.int .u64 (x:Int)] w (AG λ v w'=>∃ r:Nat,v=.int .i64 (r:Int)/\DR x r/\r<=64/\w'=w):=by
 apply R.Kr
 delta R.F R.I R.U R.W R.Wb R.X R.Zui;try dsimp only [R.Ps]
 refine⟨λ st w1=>w1=w/\∃ y n:Nat,st=[.int .u64 (y:Int),.int .i64 (n:Int)]/\y<4294967296/\n<=32/\(∀ r,DR y r->r<=32->DR x (r+n)\/(n=0/\x=y)),?_,?_⟩
 ·refine Aa (λ h=>⟨rfl,x / 2 ^ 32,32,?_,?_,by omega,λ r hr _=>.inl (hr.shift (by omega))⟩) (λ h=>⟨rfl,x,0,rfl,by omega,by omega,λ r _ _=>.inr ⟨rfl,rfl⟩⟩)
  ·rw [show min 32 64=32 from rfl,fdiv_pow];rfl
  ·omega
 rintro _ _ w1 ⟨rfl,y,n,aA,hy,hn,hyx⟩;cases aA;refine⟨λ st w2=>w2=w1/\∃ z m:Nat,st=[.int .u64 (z:Int),.int .i64 (m:Int)]/\z<65536/\m<=48/\(∀ r,DR z r->r<=16->DR x (r+m)),?_,?_⟩
 ·have fin:∀ r,DR y r->r<=32->DR x (r+n):=by
   intro r hr xG;rcases hyx r hr xG with h | ⟨rfl,rfl⟩
   ·exact h
   ·exact hr
  refine Aa (λ h=>⟨rfl,y / 2 ^ 16,n+16,?_,by omega,by omega,λ r hr gM=>?_⟩) (λ h=>⟨rfl,y,n,rfl,by omega,by omega,λ r hr gM=>fin r hr (by omega)⟩)
  ·rw [show min 16 64=16 from rfl,fdiv_pow,wrap_i64 (by omega) (by omega)];rfl
  ·have:=fin _ (hr.shift (s:=16) (by omega)) (by omega);rwa [Nat.add_assoc,Nat.add_comm 16] at this
 rintro _ _ w2 ⟨rfl,z,m,aA,hz,hm,yb⟩;cases aA;have e256:((AlN Mj:Nat):Int)=256:=by rw [AeD];rfl
 refine Aa (λ h=>?_) (λ h=>?_)
 ·rw [show min 8 64=8 from rfl,fdiv_pow,AE (by omega) (by omega)];have aB:z / 2 ^ 8<256:=by omega
  have ht:=Adq aB;refine⟨⟨by omega,by show _<((AlN Mj:Nat):Int);omega⟩,(Ay Mj (z / 2 ^ 8)).toNat+8+m,?_,?_,by omega,rfl⟩
  ·have hT:∀ i,(Ay Mj i).toNat<256:=λ i=>UInt8.toNat_lt _;show Value.int .i64 (IntKind.i64.wrap (IntKind.i64.wrap ((m:Int)+8)+IntKind.i64.wrap ((Ay Mj ((z / 2 ^ 8:Nat):Int).toNat).toNat:Int)))=_;rw [Ak4,wrap_i64 (n:=(m:Int)+8) (by omega) (by omega),wrap_i64 (n:=((Ay Mj (z / 2 ^ 8)).toNat:Int)) (by omega) (by omega),wrap_i64 (by omega) (by omega)];congr 1;omega
  ·exact yb _ (ht.1.shift (s:=8) (by omega)) (by omega)
 ·have aB:z<256:=by omega
  have ht:=Adq aB;rw [AE (by omega) (by omega)];refine⟨⟨by omega,by show _<((AlN Mj:Nat):Int);omega⟩,(Ay Mj z).toNat+m,?_,?_,by omega,rfl⟩
  ·show Value.int .i64 (IntKind.i64.wrap ((m:Int)+IntKind.i64.wrap ((Ay Mj ((z:Nat):Int).toNat).toNat:Int)))=_;rw [Ak4,wrap_i64 (n:=((Ay Mj z).toNat:Int)) (by omega) (by omega),wrap_i64 (by omega) (by omega)];congr 1;omega
  ·exact yb _ ht.1 (by omega)
def ES(x:Nat):Value:=.int .u64 (x:Int)
def Ie(xs:List Nat):Nat:=xs.foldl (· ||| ·) 0
theorem Aan{a b w:Nat}:a ||| b<2 ^ w↔a<2 ^ w/\b<2 ^ w :=
 ⟨λ h=>⟨Nat.lt_of_le_of_lt Nat.left_le_or h,Nat.lt_of_le_of_lt Nat.right_le_or h⟩,λ h=>Nat.or_lt_two_pow h.1 h.2⟩
theorem AgY(xs:List Nat)(a w:Nat):xs.foldl (· ||| ·) a<2 ^ w↔a<2 ^ w/\∀ x∈xs,x<2 ^ w:=by
 induction xs generalizing a with
 | nil=>simp
 | cons x xs ih=>rw [List.foldl_cons,ih,Aan];simp [and_assoc]
theorem H0(xs:List Nat)(w:Nat):Ie xs<2 ^ w↔∀ x∈xs,x<2 ^ w:=by
 unfold Ie;rw [AgY];simp [AlM]
theorem Aa8{xs:List Nat}{k:Nat}(hk:k<xs.length):Ie (xs.take (k+1))=Ie (xs.take k) ||| xs[k]:=by
 unfold Ie;rw [List.take_succ_eq_append_getElem hk,List.foldl_append];rfl
theorem AiD{a b:Nat}(ha:a<18446744073709551616)(hb:b<18446744073709551616):IntKind.u64.wrap (((AkA 64 (a:Int) ||| AkA 64 (b:Int)).toNat:Int))=((a ||| b:Nat):Int):=by
 have e:(AkA 64 (a:Int) ||| AkA 64 (b:Int)).toNat=a ||| b:=by
  rw [BitVec.toNat_or,Alc,Alc,Alb,Alb,Ala (by omega),Ala (by omega)]
 have:=(Aan (w:=64)).2 ⟨ha,hb⟩;rw [e,Aj (by omega) (by omega)]
theorem G8{w:World}{a:Option Addr}{xs:List Nat}(hl:Rd w a (xs.map ES)){i:Nat}(hi:i<xs.length):∃ p,a=some p/\w.cell? (p.add (i*1))=some (.int .u64 (xs[i]:Int)):=by
 obtain⟨p,hp,hc⟩:=hl i (ES xs[i]) (by simp [hi]);exact⟨p,hp,by rw [Ak7];exact hc⟩
section
variable {w:World}{a:Option Addr}{c:Nat}{xs:List Nat}
theorem Ix(hl:Rd w a (xs.map ES))(hn:xs.length<=140737488355328)(hx:∀ x∈xs,x<18446744073709551616) :
  Calls Tryz.prog f.Acd #[.slice a xs.length c] w (AG λ v w'=>∃ r:Nat,v=.int .i64 (r:Int)/\DR (Ie xs) r/\r<=64/\w'=w):=by
 apply R.RI
 delta R.Ad R.Ci R.F R.I R.Lu R.Qui R.U R.W R.Wu R.X;try dsimp only [R.Ps]
 refine⟨λ s w1=>w1=w/\∃ k:Nat,k<=xs.length/\s=[.int .u64 (Ie (xs.take k):Int),.int .i64 (k:Int)],λ s _=>match s with
   | [_,.int _ i]=>xs.length-i.toNat
   | _=>0,⟨rfl,0,by omega,rfl⟩,?_⟩
 rintro _ _ w1 ⟨rfl,k,hk,hs⟩;cases hs;have aF:Ie (xs.take k)<18446744073709551616:=(H0 (xs.take k) 64).2 λ x h=>hx x (List.mem_of_mem_take h);refine Aa (λ aB=>⟨⟨by omega,aB⟩,?_⟩) (λ aJ=>?_)
 ·have aO:k<xs.length:=by omega
  obtain⟨p,rfl,hc⟩:=G8 hl aO;refine⟨_,by rw [Ak4];exact hc,?_⟩;have iG:=hx _ (AlI aO);rw [AiD aF iG,Ae (by omega),<- Aa8 aO];refine⟨⟨rfl,k+1,by omega,rfl⟩,?_⟩;simp only [Ak4];omega
 ·have eQ:xs.take k=xs:=List.take_of_length_le (by omega);rw [eQ] at aF ⊢;refine (Ag6 w1 (Ie xs) aF).mono ?_;rintro _ w2 ⟨_,rfl,r,rfl,h1,h2,rfl⟩;exact⟨_,rfl,r,rfl,h1,h2,rfl⟩
end
theorem JK(w:World)(n wd:Int):Calls Tryz.prog f.Ae1 #[.int .i64 n,.int .i64 wd] w (AG λ v w'=>w'=w/\v=(if 0<=n/\n<=4096/\0<=wd/\wd<=64 then .tuple #[.int .i64 ((n*wd+7) / 8),.int .i64 0] else .tuple #[.int .i64 0,.int .i64 2])):=by
 apply R.Ty
 delta R.F R.H R.I R.W;try dsimp only [R.Ps]
 refine Aa (λ h=>⟨rfl,by rw [if_neg (by omega)]⟩) (λ h1=>Aa (λ h=>⟨rfl,by rw [if_neg (by omega)]⟩) (λ h2=>Aa (λ h=>⟨rfl,by rw [if_neg (by omega)]⟩) (λ h3=>Aa (λ h=>⟨rfl,by rw [if_neg (by omega)]⟩) (λ h4=>⟨rfl,?_⟩))));have hm:0<=n*wd:=Int.mul_nonneg (by omega) (by omega);have od:n*wd<=4096*64:=Int.mul_le_mul (by omega) (by omega) (by omega) (by omega);rw [if_pos (by omega),wrap_i64 (n:=n*wd) (by omega) (by omega),wrap_i64 (n:=n*wd+7) (by omega) (by omega),AlF (by omega),wrap_i64 (by omega) (by omega)]
theorem Sn(w:World)(n wd:Int):Calls Tryz.prog f.Ab5 #[.int .i64 n,.int .i64 wd] w (AG λ v w'=>w'=w/\v=(if 0<=n/\n<=4096/\0<=wd/\wd<=64 then .tuple #[.int .i64 ((n*wd+7) / 8),.int .i64 0] else .tuple #[.int .i64 0,.int .i64 2])):=by
 apply R.QE
 delta R.Cb R.F R.H R.I R.W;try dsimp only [R.Ps]
 have hw:Calls Tryz.prog f.Wc #[.int .i64 wd] w (AG λ v w'=>w'=w/\v=.bool (decide (0<=wd/\wd<=64))):=by
  apply R.MG
  delta R.F R.G;try dsimp only [R.Ps]
  refine Aa (λ h=>⟨rfl,?_⟩) (λ h=>⟨rfl,?_⟩)
  ·congr 1;simp;omega
  ·congr 1;simp;omega
 refine hw.mono ?_;rintro _ w1 ⟨_,rfl,rfl,rfl⟩;refine⟨_,rfl,Au (Aa (λ h0=>?_) (λ h=>⟨rfl,by rw [if_neg (by omega)]⟩))⟩;refine Aa (λ h=>⟨rfl,by rw [if_neg (by omega)]⟩) (λ h1=>Aa (λ h=>⟨rfl,by rw [if_neg (by omega)]⟩) (λ h2=>⟨rfl,?_⟩));have hm:0<=n*wd:=Int.mul_nonneg (by omega) (by omega);have od:n*wd<=4096*64:=Int.mul_le_mul (by omega) (by omega) (by omega) (by omega);rw [if_pos (by omega),wrap_i64 (n:=n*wd) (by omega) (by omega),wrap_i64 (n:=n*wd+7) (by omega) (by omega),AlF (by omega),wrap_i64 (by omega) (by omega)]
theorem QL(w:World)(x wd:Nat)(hx:x<18446744073709551616)(hw:wd<=64):Calls Tryz.prog f.Agz #[.int .u64 (x:Int),.int .i64 (wd:Int)] w (AG λ v w'=>w'=w/\v=.bool (decide (x<2 ^ wd))):=by
 apply R.U7
 delta R.F R.G R.I R.Qui R.U R.W R.Wu;try dsimp only [R.Ps]
 refine⟨λ s w1=>w1=w/\∃ k:Nat,k<=wd/\s=[.int .u64 ((x / 2 ^ k:Nat):Int),.int .i64 (k:Int)],λ s _=>match s with
   | [_,.int _ i]=>wd-i.toNat
   | _=>0,⟨rfl,0,by omega,by simp⟩,?_⟩
 rintro _ _ w1 ⟨rfl,k,hk,hs⟩;cases hs;have hle:x / 2 ^ k<=x:=AlK _ _;refine Aa (λ aB=>?_) (λ aJ=>⟨rfl,?_⟩)
 ·have e:IntKind.u64.wrap (AlJ ((x / 2 ^ k:Nat):Int) 2)=((x / 2 ^ k / 2:Nat):Int):=by
   generalize x / 2 ^ k=y at hle;rw [AlF (by omega),Aj (by omega) (by omega)];omega
  rw [e,Ae (by omega)];refine⟨⟨rfl,k+1,by omega,?_⟩,?_⟩
  ·rw [Nat.pow_succ,<- Nat.div_div_eq_div_mul]
  ·simp only [Ak4];omega
 ·have:k=wd:=by omega
  subst this;congr 1;rw [Bool.eq_iff_iff];simp only [beq_iff_eq,decide_eq_true_eq];have hp:0<2 ^ k:=AlM k;constructor
  ·intro h;have h0:x / 2 ^ k=0:=by omega
   exact (Nat.div_eq_zero_iff_lt hp).1 h0
  ·intro h;have h0:=(Nat.div_eq_zero_iff_lt hp).2 h;omega
section
variable {w:World}{a:Option Addr}{c:Nat}{xs:List Nat}
theorem Qe(hl:Rd w a (xs.map ES))(hn:xs.length<=140737488355328)(hx:∀ x∈xs,x<18446744073709551616) :
  Calls Tryz.prog f.AaW #[.slice a xs.length c] w (AG λ v w'=>∃ r:Nat,v=.int .i64 (r:Int)/\DR (Ie xs) r/\r<=64/\w'=w):=by
 apply R.O5
 delta R.Ad R.Cb R.F R.G R.I R.Lu R.Qib R.MJ R.U R.W R.X;try dsimp only [R.Ps]
 refine⟨λ s w1=>w1=w/\∃ k r:Nat,k<=xs.length/\r<=64/\DR (Ie (xs.take k)) r/\s=[.int .i64 (r:Int),.int .i64 (k:Int)],λ s _=>match s with
   | [_,.int _ i]=>xs.length-i.toNat
   | _=>0,⟨rfl,0,0,by omega,by omega,⟨by simp [Ie],.inl rfl⟩,rfl⟩,?_⟩
 rintro _ _ w1 ⟨rfl,k,r,hk,hr,hlen,hs⟩;cases hs;refine Aa (λ aB=>⟨⟨by omega,aB⟩,?_⟩) (λ aJ=>?_)
 ·have aO:k<xs.length:=by omega
  have iG:=hx _ (AlI aO);obtain⟨p,rfl,hc⟩:=G8 hl aO;refine⟨_,by rw [Ak4];exact hc,(QL w1 xs[k] r iG hr).mono ?_⟩;rintro _ w2 ⟨_,rfl,rfl,rfl⟩;refine⟨_,rfl,?_⟩;refine⟨λ s w3=>w3=w2/\∃ q:Nat,r<=q/\q<=64/\(q=r\/¬ xs[k]<2 ^ (q-1))/\s=[.int .i64 (q:Int),.bool (decide (xs[k]<2 ^ q))],λ s _=>match s with
    | [.int _ i,_]=>64-i.toNat
    | _=>0,⟨rfl,r,by omega,by omega,.inl rfl,rfl⟩,?_⟩
  rintro _ _ w3 ⟨rfl,q,lG,iB,hq3,hs⟩;cases hs;refine Au (Aa (λ aK=>?_) (λ aP=>⟨⟨by omega,aB⟩,_,by rw [Ak4];exact hc,?_⟩))
  ·rw [Ae (by omega)];refine⟨⟨rfl,k+1,q,by omega,iB,?_,rfl⟩,?_⟩
   ·rw [Aa8 aO];refine DR.of_le λ wd=>?_;rw [Aan,<- hlen.le (w:=wd)];constructor
    ·intro h;exact⟨by omega,AkO aK (All (by omega) h)⟩
    ·rintro⟨h1,h2⟩;rcases hq3 with h | h
     ·omega
     ·rcases AlH wd q with ao | aJ
      ·exact absurd (AkO h2 (All (by omega) (by omega))) h
      ·exact aJ
   ·simp only [Ak4];omega
  ·have zq:q<64:=by
    rcases AlH q 64 with h | h
    ·exact h
    ·have:q=64:=by omega
     subst this;exact absurd iG aP
   rw [Ae (by omega)];refine (QL w3 xs[k] (q+1) iG (by omega)).mono ?_;rintro _ w4 ⟨_,rfl,rfl,rfl⟩;refine⟨_,rfl,⟨rfl,q+1,by omega,by omega,.inr aP,rfl⟩,?_⟩;simp only [Ak4];omega
 ·have eQ:xs.take k=xs:=List.take_of_length_le (by omega);rw [eQ] at hlen;exact⟨r,rfl,hlen,hr,rfl⟩
end
theorem AP(w:World)(l:Nat)(o:Obj):Ai (·=l) w (w.putObj l o) :=
 ⟨rfl,rfl,rfl,by simp,λ k _ hn=>World.putObj_heap_other hn⟩
def T3(f:Nat->Bool):Nat->Nat->Nat
 | 0,_=>0
 | t+1,j=>if j=t / 8/\f t=true then T3 f t j ||| 2 ^ (t % 8) else T3 f t j
theorem XZ(f:Nat->Bool)(t j:Nat):T3 f t j<256:=by
 induction t with
 | zero=>simp [T3]
 | succ t ih =>
  unfold T3;split
  ·exact (Aan (w:=8)).2 ⟨ih,AlL (by omega) (by omega)⟩
  ·exact ih
def Ew(xs:List Nat)(w t:Nat):Bool:=(xs.getD (t / w) 0).testBit (t % w)
def Dv(n w:Nat):Nat:=(n*w+7) / 8
def A5(xs:List Nat)(w:Nat):List UInt8:=(AlB (Dv xs.length w)).map λ j=>UInt8.ofNat (T3 (Ew xs w) (xs.length*w) j)
theorem BS(xs:List Nat)(w:Nat):(A5 xs w).length=Dv xs.length w:=by simp [A5]
def Gx(f:Nat->Bool)(m t:Nat):Array Value:=⟨(AlB m).map λ j=>.int .u8 (T3 f t j:Int)⟩
theorem MC(f:Nat->Bool)(m t:Nat):(Gx f m t).size=m:=by simp [Gx]
theorem Zn{f:Nat->Bool}{m t j:Nat}(h:j<m):(Gx f m t)[j]?=some (.int .u8 (T3 f t j:Int)):=by simp [Gx,h]
theorem Abg{f:Nat->Bool}{m t:Nat}(v:Nat)(hv:v=T3 f (t+1) (t / 8)):(Gx f m t).setIfInBounds (t / 8) (.int .u8 (v:Int))=Gx f m (t+1):=by
 apply Array.ext';apply List.ext_getElem?;intro i;simp only [Array.toList_setIfInBounds,Gx,List.getElem?_set,Alh,List.length_range];by_cases h:t / 8=i
 ·subst h;by_cases h2:t / 8<m
  ·simp [h2,hv]
  ·simp [h2]
 ·have e:T3 f (t+1) i=T3 f t i:=by
   conv=>lhs;unfold T3
   rw [if_neg (by omega)]
  by_cases h2:i<m
  ·simp [h,h2,e]
  ·simp [h,h2]
theorem Xj(f:Nat->Bool)(m:Nat):madeCells (Value.int .u8 0).cells (m*1)=Gx f m 0:=by
 apply Array.ext';rw [Ej _ rfl];simp [Gx,T3,List.map_const']
theorem Aad(xs:List Nat)(w:Nat):(Gx (Ew xs w) (Dv xs.length w) (xs.length*w)).toList=(A5 xs w).map Ag:=by
 simp only [Gx,A5,List.map_map];apply List.map_congr_left;intro j _;have:=XZ (Ew xs w) (xs.length*w) j;exact CA this
/-! ### words of the program -/
theorem Ago{x k:Nat}(hx:x<18446744073709551616)(hk:k<64):IntKind.u8.wrap (IntKind.u64.wrap (((AkA 64 (Int.fdiv (x:Int) (2 ^ (min k 64))) &&& AkA 64 1).toNat:Int)))=((x.testBit k).toNat:Int):=by
 rw [show min k 64=k by omega,fdiv_pow];have hle:x / 2 ^ k<=x:=AlK _ _;have e:(AkA 64 ((x / 2 ^ k:Nat):Int) &&& AkA 64 1).toNat=x / 2 ^ k % 2:=by
  rw [BitVec.toNat_and,Alc,Alb,Ala (by omega)];exact Nat.and_two_pow_sub_one_eq_mod _ 1
 rw [e];have hm:x / 2 ^ k % 2<2:=Alr _ (by omega);rw [Nat.testBit_eq_decide_div_mod_eq];generalize x / 2 ^ k % 2=y at hm;rw [Aj (by omega) (by omega),AE (by omega) (by omega)];rcases (by omega:y=0\/y=1) with rfl | rfl <;> rfl
theorem Ajr{t:Nat}(ht:t<9223372036854775808):IntKind.i64.wrap (((AkA 64 (t:Int) &&& AkA 64 7).toNat:Int))=((t % 8:Nat):Int):=by
 have e:(AkA 64 (t:Int) &&& AkA 64 7).toNat=t % 8:=by
  rw [BitVec.toNat_and,Alc,Alb,Ala (by omega)];exact Nat.and_two_pow_sub_one_eq_mod _ 3
 rw [e,wrap_i64 (by omega) (by omega)]
theorem or8{a b:Nat}(ha:a<256)(hb:b<256):IntKind.u8.wrap (((AkA 8 (a:Int) ||| AkA 8 (b:Int)).toNat:Int))=((a ||| b:Nat):Int):=by
 have e:(AkA 8 (a:Int) ||| AkA 8 (b:Int)).toNat=a ||| b:=by
  rw [BitVec.toNat_or,Alc,Alc,Alb,Alb,Ala (by omega),Ala (by omega)]
 have:=(Aan (w:=8)).2 ⟨ha,hb⟩;rw [e,AE (by omega) (by omega)]
theorem Adj{b:Bool}{s:Nat}(hs:s<8):IntKind.u8.wrap ((b.toNat:Int)*2 ^ (min s 8))=((b.toNat*2 ^ s:Nat):Int):=by
 have hp:2 ^ s<2 ^ 8:=AlL (by omega) hs;rw [show min s 8=s by omega];have e:((b.toNat:Int)*2 ^ s)=((b.toNat*2 ^ s:Nat):Int):=by norm_cast
 rw [e];cases b
 ·simp;decide
 ·simp only [AlO,AlP];generalize 2 ^ s=y at hp;rw [AE (by omega) (by omega)]
theorem Abq(f:Nat->Bool)(t:Nat):T3 f t (t / 8) ||| (f t).toNat*2 ^ (t % 8)=T3 f (t+1) (t / 8):=by
 conv=>rhs;unfold T3
 cases h:f t
 ·simp
 ·simp
/-! ### the iterator -/
theorem LI(w:World)(n wd:Int):Calls Tryz.prog f.Zw #[.int .i64 n,.int .i64 wd] w (AG λ v w'=>∃ b1 b2,v=.func (.func f.LN) #[] #[.pointer (some ⟨b1,0,none⟩),.pointer (some ⟨b2,0,none⟩)]/\SH (λ _=>False) w w' [(b2,#[.int .i64 wd],ty.int),(b1,#[.int .i64 n],ty.int)]):=by
 apply R.Qn
 delta R.I R.J R.N R.P;try dsimp only [R.Ps]
 exact (SH.start (λ _=>False) w).An λ b1 w1 _ _ S1=>S1.An λ b2 w2 _ _ S2=>⟨b1,b2,rfl,S2⟩
theorem Xo{n wd l b1 b2:Nat}(hn:n<=4096)(hw:wd<=64)(J:Nat->World->Prop)
  (aE:∀ t w,J t w->w.cell? ⟨b1,0,none⟩=some (.int .i64 (n:Int))/\w.cell? ⟨b2,0,none⟩=some (.int .i64 (wd:Int))) (qH:∀ t w,J t w->J t w.drew)
  (ae:∀ t,t<n*wd->∀ w,J t w->PQ Tryz.prog l #[.int .i64 ((t / wd:Nat):Int),.int .i64 ((t % wd:Nat):Int)] (λ y w'=>y=true/\J (t+1) w') w)
  {w:World} (h0:J 0 w):Calls Tryz.prog f.LN #[.func (.yield l) #[] #[],.pointer (some ⟨b1,0,none⟩),.pointer (some ⟨b2,0,none⟩)] w (AG λ _ w'=>J (n*wd) w'):=by
 have hm:n*wd<=4096*64:=AlQ hn hw;apply R.LL
 delta R.A R.D R.F R.H R.I R.Li R.Qi R.W;try dsimp only [R.Ps]
 refine⟨λ s w1=>∃ t:Nat,t<=n*wd/\s=[.int .i64 (t:Int)]/\J t w1,λ s _=>match s with
   | [.int _ i]=>n*wd-i.toNat
   | _=>0,⟨0,by omega,rfl,h0⟩,?_⟩
 rintro _ w1 ⟨t,ht,hs,hj⟩;cases hs;obtain⟨c1,c2⟩:=aE t w1 hj;refine⟨_,c1,_,c2,?_⟩;have em:IntKind.i64.wrap ((n:Int)*(wd:Int))=((n*wd:Nat):Int):=by rw [<- AlR,wrap_i64 (by omega) (by omega)]
 rw [em];refine Aa (λ aB=>?_) (λ aJ=>?_)
 ·have l9:t<n*wd:=by omega
  have nb:wd≠0:=by rintro rfl;simp at l9
  have qE:=qH t w1 hj;obtain⟨d1,d2⟩:=aE t _ qE;refine⟨_,d2,by omega,_,d2,by omega,?_⟩;have e1:IntKind.i64.wrap (AlJ (t:Int) (wd:Int))=((t / wd:Nat):Int):=by
   have hle:t / wd<=t:=AlK _ _;have:AlJ (t:Int) (wd:Int)=((t / wd:Nat):Int):=by rw [AlF (by omega)];norm_cast
   rw [this];generalize t / wd=q at hle;rw [wrap_i64 (by omega) (by omega)]
  have e2:Int.tmod (t:Int) (wd:Int)=((t % wd:Nat):Int):=by rw [Aln (by omega)];norm_cast
  rw [e1,e2];obtain⟨fn,tm,asg,bo,hy,hr⟩:=ae t l9 _ qE;refine⟨fn,tm,asg,bo,hy,hr.mono ?_⟩;rintro e w3 ⟨y,he,rfl,oW⟩;refine⟨true,he,AV ?_⟩;rw [Ae (by omega)];refine⟨⟨t+1,by omega,rfl,oW⟩,?_⟩;simp only [Ak4];omega
 ·have:t=n*wd:=by omega
  rw [this] at hj;exact hj
theorem IU{rr:Loop}(h1:rr.state=.ready)(h2:rr.pending=none):({ rr with state:=if (none:Option Code).isNone then .ready else .done,pending:=none }:Loop)=rr:=by
 cases rr;simp_all
section
variable {w:World}{a:Option Addr}{c:Nat}{xs:List Nat}
theorem Jo(hl:Rd w a (xs.map ES))(hn:xs.length<=4096){wd:Nat}(hw:wd<=64)(hx:∀ x∈xs,x<2 ^ wd) :
  Calls Tryz.prog f.AfA #[.int .i64 (wd:Int),.slice a xs.length c] w (AG λ v w'=>∃ a' c',v=.tuple #[.slice a' (A5 xs wd).length c',.int .i64 0]/\Bn w w' (A5 xs wd) a' c'):=by
 have iV:(2:Nat) ^ wd<=2 ^ 64:=All (by omega) hw;have fQ:∀ x∈xs,x<18446744073709551616:=λ x h=>AkO (hx x h) iV;have hm:xs.length*wd<=4096*64:=AlQ hn hw;obtain⟨m,hmd⟩:∃ m,m=Dv xs.length wd:=⟨_,rfl⟩;have ni:m=(xs.length*wd+7) / 8:=hmd;apply R.TJ
 delta R.A R.Ad R.B R.MV R.Cf R.Ci R.D R.F R.H R.I R.Li R.Ls R.Lu R.Ly R.N R.O R.Rs R.S R.Am R.W R.Wb R.Wu R.X;try dsimp only [R.Ps]
 refine (SH.start (λ _=>False) w).An λ b3 w1 dE B1 S1=>S1.An λ b4 w2 jx B2 S2=>⟨_,_,_,S2.cell 0 rfl rfl,_,S2.cell 1 rfl rfl,(JK w2 (xs.length:Int) (wd:Int)).mono ?_⟩;rintro _ w3 ⟨_,rfl,rfl,rfl⟩;rw [if_pos ⟨by omega,by omega,by omega,by omega⟩];refine⟨_,_,rfl,S2.E9 λ w4 B4 S4=>Ah (λ h=>absurd rfl h) (λ _=>⟨_,_,_,S4.cell 0 rfl rfl,_,S4.cell 1 rfl rfl,(Ix (hl.grown S4.below) (by omega) fQ).mono ?_⟩)⟩;rintro _ w5 ⟨_,rfl,r,rfl,hr,hr64,rfl⟩;have rL:r<=wd:=hr.le.2 ((H0 xs wd).2 hx);refine⟨_,rfl,S4.cell 1 rfl rfl,Aa (λ h=>by omega) (λ _=>?_)⟩;have em:((xs.length:Int)*(wd:Int)+7) / 8=(m:Int):=by
  rw [ni];have:((xs.length:Int)*(wd:Int))=((xs.length*wd:Nat):Int):=by norm_cast
  rw [this];omega
 rw [em];refine Ea tB (l:=(m:Int)) (c:=(m:Int)) (by omega) (by omega) (by omega) (by omega) λ bo w6 fN B6 nN=>?_;rw [Ak4,Xj (Ew xs wd) m] at nN;rw [Ak4];have S6:=S4.grown B6;refine⟨_,_,_,rfl,S6.An λ dD w7 gv B7 S7=>S7.ZR 0 rfl (show 0<1 by decide) λ w8 K8 S8=>⟨_,_,_,S8.cell 1 rfl rfl,_,S8.cell 2 rfl rfl,(LI w8 (xs.length:Int) (wd:Int)).mono ?_⟩⟩;rintro _ w9 ⟨_,rfl,b1,b2,rfl,P9⟩;have S9:=S8.grown P9.below;have vg:bo<w6.heap.size:=(AlG.1 nN).1;have gg:=(Ai.AA (F:=λ _=>False) B7).at nN (by simp);have kL:=K8.at gg (show ¬ bo=dD by omega);have ph:=(Ai.AA (F:=λ _=>False) P9.below).at kL (by simp);have mh:w.heap.size<=bo:=Nat.le_trans S4.below.size fN;have uX:bo<w9.heap.size:=(AlG.1 ph).1;have tW:=S9.lt (x:=(b4,_,_)) (AlE _ (AlD ..));have mG:=S9.lt (x:=(b3,_,_)) (AlE _ (AlE _ (AlD ..)));have q9:=S9.lt (x:=(dD,_,_)) (AlD ..);have kx:=P9.own (b2,_,_) (AlD ..);have nQ:=P9.own (b1,_,_) (AlE _ (AlD ..))
 have kY:=P9.lt (x:=(b2,_,_)) (AlD ..);have pk:=P9.lt (x:=(b1,_,_)) (AlE _ (AlD ..));refine⟨_,_,_,rfl,by kernel_rfl,λ rr aA dR hy=>?_⟩;obtain⟨W1,hW1⟩:∃ W1,W1=(w9.alloc (.deferred (some []))).alloc (.loop rr):=⟨_,rfl⟩;rw [<- hW1];have gK:Below w9.heap.size w9 W1:=by rw [hW1];exact (((Below.refl _ w9).alloc (AkY _) _).alloc (by simp) _)
 have rR:W1.heap.size=w9.heap.size+2:=by rw [hW1];simp
 have gf:W1.heap[w9.heap.size+1]?=some (.loop rr):=by
  rw [hW1];have:=World.alloc_heap_new (w9.alloc (.deferred (some []))) (.loop rr);rwa [World.size_alloc] at this
 have ku:W1.heap[w9.heap.size]?=some (.deferred (some [])):=by
  rw [hW1];exact (Below.heap_alloc _ _ _ (by simp)).trans (World.alloc_heap_new w9 _)
 have dz:=Ai.AA (F:=λ _=>False) gK;have kH:=dz.at ph (by simp);obtain⟨L,hLd⟩:∃ L,L=w9.heap.size+1:=⟨_,rfl⟩;rw [<- hLd] at gf hy ⊢;have Bw1:Below w.heap.size w W1:=S9.below.trans (gK.mono S9.below.size);have xB:=S9.below.size;have low:∀ {w':World},Ai (λ k=>k=bo\/k=L) W1 w'->Below w.heap.size w w':=λ K=>Bw1.trans (K.below Bw1.size λ k hk h=>by omega);have uK:∀ {w':World},Ai (λ k=>k=bo\/k=L) W1 w'->w'.cell? ⟨b3,0,none⟩=some (.int .i64 (wd:Int)):=λ K=>K.cell (dz.cell (S9.cell 2 rfl rfl) (by simp)) (by
  have:=S6.lt (x:=(b3,_,_)) (AlE _ (AlD ..));have h4:=S4.lt (x:=(b3,_,_)) (AlE _ (AlD ..));show ¬ (b3=bo\/b3=L);omega)
 have sG:∀ {w':World},Ai (λ k=>k=bo\/k=L) W1 w'->w'.cell? ⟨b4,0,none⟩=some (.slice a xs.length c):=λ K=>K.cell (dz.cell (S9.cell 1 rfl rfl) (by simp)) (by
  have h4:=S4.lt (x:=(b4,_,_)) (AlD ..);show ¬ (b4=bo\/b4=L);omega)
 have ic:∀ {w':World},Ai (λ k=>k=bo\/k=L) W1 w'->w'.cell? ⟨dD,0,none⟩=some (.slice (some ⟨bo,0,none⟩) m m):=λ K=>K.cell (dz.cell (S9.cell 0 rfl rfl) (by simp)) (by
  show ¬ (dD=bo\/dD=L);omega)
 have vz:bo<w8.heap.size:=(AlG.1 kL).1;have e18:w8.heap.size<=b1:=by simpa using nQ
 have y6:w8.heap.size<=b2:=by simpa using kx
 have cJ:∀ {w':World},Ai (λ k=>k=bo\/k=L) W1 w'->w'.cell? ⟨b1,0,none⟩=some (.int .i64 (xs.length:Int))/\w'.cell? ⟨b2,0,none⟩=some (.int .i64 (wd:Int)):=λ K =>
  ⟨K.cell (dz.cell (P9.cell 1 rfl rfl) (by simp)) (by show ¬ (b1=bo\/b1=L);omega),K.cell (dz.cell (P9.cell 0 rfl rfl) (by simp)) (by show ¬ (b2=bo\/b2=L);omega)⟩
 have hyp:∀ t,t<xs.length*wd->∀ wx,(Ai (λ k=>k=bo\/k=L) W1 wx/\wx.heap[bo]?=some (.cells (Gx (Ew xs wd) m t) ty.uint8 (0,0))/\wx.heap[L]?=some (.loop rr)) ->
   PQ Tryz.prog L #[.int .i64 ((t / wd:Nat):Int),.int .i64 ((t % wd:Nat):Int)] (λ y w'=>y=true/\(Ai (λ k=>k=bo\/k=L) W1 w'/\w'.heap[bo]?=some (.cells (Gx (Ew xs wd) m (t+1)) ty.uint8 (0,0))/\w'.heap[L]?=some (.loop rr))) wx:=by
  rintro t ht wx ⟨K,hO,hL⟩;have nb:0<wd:=Nat.pos_of_ne_zero (by rintro rfl;simp at ht);have fY:t / wd<xs.length:=(Nat.div_lt_iff_lt_mul nb).2 ht;have dA:t % wd<wd:=Alr _ nb;have gR:t / 8<m:=by omega
  refine hy _ _ _ wx hL ⟨hL,?_⟩;obtain⟨aX,hw11⟩:∃ aX,aX=wx.putObj L (.loop { rr with state:=.busy }):=⟨_,rfl⟩;rw [<- hw11];have eT:L<wx.heap.size:=(AlG.1 hL).1;have eO:Ai (λ k=>k=L) wx aX:=by rw [hw11];exact AP _ _ _
  have ik:aX.heap[L]?=some (.loop { rr with state:=.busy }):=by rw [hw11];exact World.putObj_heap_same eT
  have K2:Ai (λ k=>k=bo\/k=L) W1 aX.drew:=(K.trans eO (λ k _ h=>.inr h)).drew;have fP:aX.drew.heap[bo]?=some (.cells (Gx (Ew xs wd) m t) ty.uint8 (0,0)):=eO.at hO (by show ¬ bo=L;omega);refine⟨_,uK (K.trans eO (λ k _ h=>.inr h)),?_⟩;unfold RR;have et:IntKind.i64.wrap (IntKind.i64.wrap (((t / wd:Nat):Int)*(wd:Int))+((t % wd:Nat):Int))=(t:Int):=by
   have h1:((t / wd:Nat):Int)*(wd:Int)=((t / wd*wd:Nat):Int):=by rw [AlR]
   have h2:=Nat.div_add_mod t wd;rw [Alf] at h2;rw [h1];generalize t / wd*wd=q at h2;generalize t % wd=r' at h2;rw [wrap_i64 (n:=(q:Int)) (by omega) (by omega),wrap_i64 (by omega) (by omega)];omega
  have ed:Int.fdiv (t:Int) (2 ^ (min 3 64))=((t / 8:Nat):Int):=fdiv_pow t 3;rw [et,ed];refine⟨_,_,_,ic K2,⟨by omega,by omega⟩,?_⟩;rw [Ak4];have ea:(⟨bo,0,none⟩:Addr).add (t / 8*1)=⟨bo,t / 8,none⟩:=by rw [Ax];simp
  obtain⟨p,rfl,hc⟩:=G8 (hl.grown (low K2)) fY;show ∃ n:Int,aX.drew.cell? ((⟨bo,0,none⟩:Addr).add (t / 8*1))=some (.int .u8 n)/\_;rw [ea];have aE:aX.drew.cell? ⟨bo,t / 8,none⟩=some (.int .u8 (T3 (Ew xs wd) t (t / 8):Int)):=by
   simp only [World.cell?,fP];simpa using Zn gR
  refine⟨_,aE,_,_,_,sG K2,⟨AlS _,by exact_mod_cast fY⟩,_,by rw [Ak4];exact hc,AlS _,?_⟩;rw [Ajr (by omega),Ak4,Ak4,Ago (fQ _ (AlI fY)) (by omega),Adj (Alr _ (by omega))];have eS:xs[t / wd].testBit (t % wd)=Ew xs wd t:=by simp [Ew,List.getD,fY]
  rw [eS];have kT:(Ew xs wd t).toNat*2 ^ (t % 8)<256:=by
   have:2 ^ (t % 8)<2 ^ 8:=AlL (by omega) (Alr _ (by omega));cases Ew xs wd t
   ·simp
   ·simpa using this
  rw [or8 (XZ _ _ _) kT,Abq];refine⟨by omega,⟨by omega,by omega⟩,?_⟩;show DV ((⟨bo,0,none⟩:Addr).add (t / 8*1)) _ _ _;rw [ea];refine EO fP (by rw [MC];exact gR) λ aj kj j0=>?_;have ji:aj.heap[L]?=some (.loop { rr with state:=.busy }):=kj.at (show aX.drew.heap[L]?=_ from ik) (by show ¬ L=bo;omega);refine⟨ji,rfl,?_⟩;rw [IU aA dR];rw [Abg _ rfl] at j0;have jI:L<aj.heap.size:=(AlG.1 ji).1;refine⟨(K2.trans kj (λ k _ h=>.inl h)).trans (AP _ _ _) (λ k _ h=>.inr h),?_,World.putObj_heap_same jI⟩;exact (World.putObj_heap_other (by omega)).trans j0
 refine (Xo (l:=L) (b1:=b1) (b2:=b2) hn hw (λ t wx=>Ai (λ k=>k=bo\/k=L) W1 wx/\wx.heap[bo]?=some (.cells (Gx (Ew xs wd) m t) ty.uint8 (0,0))/\wx.heap[L]?=some (.loop rr))
  (λ t wx hj=>cJ hj.1) (λ t wx hj=>⟨hj.1.drew,hj.2.1,hj.2.2⟩) hyp ⟨.refl _ _,kH,gf⟩).mono ?_
 rintro _ an ⟨_,rfl,jD,nj,dJ⟩;have ia:L<an.heap.size:=(AlG.1 dJ).1;refine⟨⟨_,rfl⟩,none,by rw [IU aA dR];exact dJ,rfl,?_⟩;obtain⟨ah,hw15⟩:∃ ah,ah=an.putObj L (.loop { rr with state:=.exhausted,pending:=none }):=⟨_,rfl⟩;rw [<- hw15];have gL:Ai (λ k=>k=bo\/k=L) W1 ah:=by rw [hw15];exact jD.trans (AP _ _ _) (λ k _ h=>.inr h)
 have nk:ah.heap[bo]?=some (.cells (Gx (Ew xs wd) m (xs.length*wd)) ty.uint8 (0,0)):=by rw [hw15];exact (World.putObj_heap_other (by omega)).trans nj
 have gI:ah.heap[w9.heap.size]?=some (.deferred (some [])):=gL.at ku (by show ¬ (w9.heap.size=bo\/w9.heap.size=L);omega);have dq:=low gL;refine⟨_,_,_,ic gL,gI,some ⟨bo,0,none⟩,m,?_,?_⟩
 ·rw [BS,<- hmd]
 ·refine⟨⟨by simp,.inr ⟨bo,Gx (Ew xs wd) m (xs.length*wd),rfl,(World.putObj_heap_other (by omega)).trans nk,?_,by omega,by rw [MC];omega,?_⟩⟩,λ k hk=>?_,dq.trans ((AP ah w9.heap.size _).below dq.size λ k hk he=>by omega)⟩
  ·rw [BS,<- hmd];exact AkY _
  ·have e:=Aad xs wd;rw [<- hmd] at e;rw [e,Ak7,<- Alh (f:=Ag),List.take_length]
  ·cases hk;exact mh
end
theorem Aee{f:Nat->Bool}{m t:Nat}(h:f t=false):Gx f m (t+1)=Gx f m t:=by
 unfold Gx;congr 1;apply List.map_congr_left;intro j _
 conv=>lhs;unfold T3
 rw [if_neg (by simp [h])]
section
variable {w:World}{a:Option Addr}{c:Nat}{xs:List Nat}
theorem Ii(hl:Rd w a (xs.map ES))(hn:xs.length<=4096){wd:Nat}(hw:wd<=64)(hx:∀ x∈xs,x<2 ^ wd) :
  Calls Tryz.prog f.Acz #[.int .i64 (wd:Int),.slice a xs.length c] w (AG λ v w'=>∃ a' c',v=.tuple #[.slice a' (A5 xs wd).length c',.int .i64 0]/\Bn w w' (A5 xs wd) a' c'):=by
 have iV:(2:Nat) ^ wd<=2 ^ 64:=All (by omega) hw;have fQ:∀ x∈xs,x<18446744073709551616:=λ x h=>AkO (hx x h) iV;have hm:xs.length*wd<=4096*64:=AlQ hn hw;obtain⟨m,hmd⟩:∃ m,m=Dv xs.length wd:=⟨_,rfl⟩;have ni:m=(xs.length*wd+7) / 8:=hmd;apply R.Q4
 delta R.Ad R.B R.MV R.Cb R.D R.F R.H R.I R.Lu R.Ly R.O R.Qi R.Qui R.Rs R.S R.Am R.U R.W R.Wb R.Wu R.X;try dsimp only [R.Ps]
 refine (Sn w (xs.length:Int) (wd:Int)).mono ?_;rintro _ w ⟨_,rfl,rfl,rfl⟩;rw [if_pos ⟨by omega,by omega,by omega,by omega⟩];refine⟨_,_,rfl,Ah (λ h=>absurd rfl h) (λ _=>?_)⟩;have em:((xs.length:Int)*(wd:Int)+7) / 8=(m:Int):=by
  rw [ni];have:((xs.length:Int)*(wd:Int))=((xs.length*wd:Nat):Int):=by norm_cast
  rw [this];omega
 rw [em];refine Ea tB (l:=(m:Int)) (c:=(m:Int)) (by omega) (by omega) (by omega) (by omega) λ bo w2 fN B2 kr=>?_;rw [Ak4,Xj (Ew xs wd) m] at kr;rw [Ak4];refine⟨_,_,_,rfl,?_⟩;have low:∀ {w':World},Ai (λ k=>k=bo) w2 w'->Below w.heap.size w w':=λ K=>B2.trans (K.below B2.size λ k hk h=>by omega);refine⟨λ s w3=>∃ i:Nat,i<=xs.length/\s=[.int .i64 (i:Int)]/\Ai (λ k=>k=bo) w2 w3/\w3.heap[bo]?=some (.cells (Gx (Ew xs wd) m (i*wd)) ty.uint8 (0,0)),λ s _=>match s with
   | [.int _ i]=>xs.length-i.toNat
   | _=>0,⟨0,by omega,rfl,.refl _ _,by rw [Nat.zero_mul];exact kr⟩,?_⟩
 rintro _ w3 ⟨i,hi,hs,K3,gm⟩;cases hs;refine Aa (λ aB=>⟨⟨by omega,aB⟩,?_⟩) (λ aJ=>?_)
 ·have aD:i<xs.length:=by omega
  have dF:=fQ _ (AlI aD);obtain⟨p,rfl,hc⟩:=G8 (hl.grown (low K3)) aD;refine⟨_,by rw [Ak4];exact hc,(QL w3 xs[i] wd dF hw).mono ?_⟩;rintro _ w4 ⟨_,rfl,rfl,rfl⟩;refine⟨_,rfl,Au (Aa (λ _=>⟨⟨by omega,aB⟩,_,by rw [Ak4];exact hc,?_⟩) (λ h=>absurd (hx _ (AlI aD)) h))⟩;refine⟨λ s w5=>∃ k:Nat,k<=wd/\s=[.int .u64 ((xs[i] / 2 ^ k:Nat):Int),.int .i64 (k:Int)]/\Ai (λ k=>k=bo) w2 w5/\w5.heap[bo]?=some (.cells (Gx (Ew xs wd) m (i*wd+k)) ty.uint8 (0,0)),λ s _=>match s with
    | [_,.int _ k]=>wd-k.toNat
    | _=>0,⟨0,by omega,by simp,K3,gm⟩,?_⟩
  rintro _ _ w5 ⟨k,hk,hs,K5,fD⟩;cases hs;refine Aa (λ ao=>?_) (λ cB=>?_)
  ·have qe:k<wd:=by omega
   have oY:i*wd+k<xs.length*wd:=by
    have:(i+1)*wd<=xs.length*wd:=Nat.mul_le_mul_right _ aD;rw [Nat.succ_mul] at this;omega
   have hle:xs[i] / 2 ^ k<=xs[i]:=AlK _ _;have e2:IntKind.u64.wrap (AlJ ((xs[i] / 2 ^ k:Nat):Int) 2)=((xs[i] / 2 ^ (k+1):Nat):Int):=by
    rw [Nat.pow_succ,<- Nat.div_div_eq_div_mul];generalize xs[i] / 2 ^ k=y at hle;rw [AlF (by omega),Aj (by omega) (by omega)];omega
   rw [e2,Ae (by omega)];have sJ:Int.tmod ((xs[i] / 2 ^ k:Nat):Int) 2=((xs[i] / 2 ^ k % 2:Nat):Int):=by
    rw [Aln (AlS _)]
    norm_cast
   rw [sJ];have eS:Ew xs wd (i*wd+k)=decide (xs[i] / 2 ^ k % 2=1):=by
    have h1:(i*wd+k) / wd=i:=by
     rw [Alf,Nat.mul_add_div (by omega),Nat.div_eq_of_lt qe,Nat.add_zero]
    have h2:(i*wd+k) % wd=k:=by
     rw [Alf,Nat.mul_add_mod,Ala qe]
    unfold Ew;rw [h1,h2,Nat.testBit_eq_decide_div_mod_eq];simp [List.getD,aD]
   obtain⟨t,ht⟩:∃ t,t=i*wd+k:=⟨_,rfl⟩;rw [<- ht] at eS fD oY;have qi:∀ wx:World,Ai (λ k=>k=bo) w2 wx->wx.heap[bo]?=some (.cells (Gx (Ew xs wd) m (t+1)) ty.uint8 (0,0)) ->
     ((∃ k':Nat,k'<=wd/\[Value.int .u64 ((xs[i] / 2 ^ (k+1):Nat):Int),.int .i64 ((k+1:Nat):Int)]=[.int .u64 ((xs[i] / 2 ^ k':Nat):Int),.int .i64 (k':Int)]/\Ai (λ k=>k=bo) w2 wx/\wx.heap[bo]?=some (.cells (Gx (Ew xs wd) m (i*wd+k')) ty.uint8 (0,0)))/\wd-((k+1:Nat):Int).toNat<wd-((k:Nat):Int).toNat):=by
    intro wx K hO;refine⟨⟨k+1,by omega,rfl,K,by rw [<- Nat.add_assoc,<- ht];exact hO⟩,?_⟩;simp only [Ak4];omega
   refine Ao (λ h1=>?_) (λ h1=>?_)
   ·have cJ:Ew xs wd t=true:=by
     rw [eS];exact decide_eq_true (by exact_mod_cast h1)
    unfold RR;have et:IntKind.i64.wrap (IntKind.i64.wrap ((i:Int)*(wd:Int))+(k:Int))=(t:Int):=by
     have h1:(i:Int)*(wd:Int)=((i*wd:Nat):Int):=by rw [AlR]
     rw [h1,ht];generalize i*wd=q at ht;rw [wrap_i64 (n:=(q:Int)) (by omega) (by omega),wrap_i64 (by omega) (by omega)];omega
    have ed:IntKind.i64.wrap (AlJ (t:Int) 8)=((t / 8:Nat):Int):=by
     rw [AlF (by omega),wrap_i64 (by omega) (by omega)];omega
    have er:Int.tmod (t:Int) 8=((t % 8:Nat):Int):=by
     rw [Aln (by omega)];omega
    rw [et,ed,er];have gR:t / 8<m:=by omega
    refine⟨⟨by omega,by omega⟩,?_⟩;rw [Ak4,Ak4];have ea:(⟨bo,0,none⟩:Addr).add (t / 8*1)=⟨bo,t / 8,none⟩:=by rw [Ax];simp
    have aE:w5.drew.cell? ((⟨bo,0,none⟩:Addr).add (t / 8*1))=some (.int .u8 (T3 (Ew xs wd) t (t / 8):Int)):=by
     rw [ea];have:w5.drew.heap[bo]?=some (.cells (Gx (Ew xs wd) m t) ty.uint8 (0,0)):=fD;simp only [World.cell?,this];simpa using Zn gR
    refine⟨by omega,_,aE,⟨by omega,by omega⟩,?_⟩;have nF:=Adj (b:=true) (s:=t % 8) (Alr _ (by omega));simp only [AlO,AlP] at nF;rw [show (((1:Nat):Int))=1 from rfl] at nF;rw [nF];have kT:2 ^ (t % 8)<2 ^ 8:=AlL (by omega) (Alr _ (by omega));rw [or8 (XZ _ _ _) kT];have dd:=Abq (Ew xs wd) t;rw [cJ] at dd;simp only [AlO,AlP] at dd;rw [dd];unfold Av;simp only;rw [ea];refine EO (show w5.drew.heap[bo]?=_ from fD) (by rw [MC];exact gR) λ w7 K7 gg=>?_;rw [Abg _ rfl] at gg;exact qi w7 (K5.drew.trans K7 (λ k _ h=>h)) gg
   ·have bh:Ew xs wd t=false:=by
     rw [eS];exact decide_eq_false (λ h=>h1 (by exact_mod_cast h))
    exact qi w5 K5 (by rw [Aee bh];exact fD)
  ·have:k=wd:=by omega
   subst this;rw [Ae (by omega)];refine⟨⟨i+1,by omega,rfl,K5,by rw [Nat.succ_mul];exact fD⟩,?_⟩;simp only [Ak4];omega
 ·have:i=xs.length:=by omega
  subst this;have B3:=low K3;refine⟨some ⟨bo,0,none⟩,m,by rw [BS,<- hmd],⟨by simp,.inr ⟨bo,Gx (Ew xs wd) m (xs.length*wd),rfl,gm,?_,by omega,by rw [MC];omega,?_⟩⟩,λ k hk=>?_,B3⟩
  ·rw [BS,<- hmd];exact AkY _
  ·have e:=Aad xs wd;rw [<- hmd] at e;rw [e,Ak7,<- Alh (f:=Ag),List.take_length]
  ·cases hk;exact fN
end
end Go.Proofs.YtpnaifmmggnimaaGreatDoor
namespace Go.Proofs
set_option linter.unusedVariables false
set_option maxRecDepth 100000
open Go.RowKit Go.Maps Go.Sort Go.Shelf
def Tryz.Sx:Go.Shelf.Ren:=⟨fun | 7=>256 | 10=>272 | n=>n,fun | 23=>318 | 26=>9 | 3=>92 | 28=>321 | 0=>0 | 27=>320 | 33=>60 | 4=>4 | n=>n,fun | n=>n⟩
theorem Tryz.Adm:Go.Proofs.SlLaysZ.n7 Tryz.prog Tryz.Sx:={
 mixed:=by kernel_rfl
 f7:=⟨Tryz.f256.name,by decide,Tryz.func256.trans (congrArg some (by kernel_rfl))⟩
 f10:=⟨Tryz.f272.name,by decide,Tryz.func272.trans (congrArg some (by kernel_rfl))⟩
 t0:=Tryz.underlying0
 a0:=Tryz.isAgg0
 z0:=Tryz.sizeOf0
 v0:=Tryz.zeroValue0
 t4:=Tryz.underlying4
 a4:=Tryz.isAgg4
 z4:=Tryz.sizeOf4
 v4:=Tryz.zeroValue4
 t23:=Tryz.underlying318
 a23:=Tryz.isAgg318
 z23:=Tryz.sizeOf318
 v23:=Tryz.zeroValue318
 t26:=Tryz.underlying9
 a26:=Tryz.isAgg9
 z26:=Tryz.sizeOf9
 v26:=Tryz.zeroValue9
 t27:=Tryz.underlying320
 a27:=Tryz.isAgg320
 z27:=Tryz.sizeOf320
 v27:=Tryz.zeroValue320
 t28:=Tryz.underlying321
 a28:=Tryz.isAgg321
 z28:=Tryz.sizeOf321
 v28:=Tryz.zeroValue321
 t33:=Tryz.underlying60
 a33:=Tryz.isAgg60
 z33:=Tryz.sizeOf60
 v33:=Tryz.zeroValue60 }
def Tryz.Nq:Go.Shelf.Ren:=⟨fun | 6=>255 | 8=>270 | 9=>271 | 11=>284 | 13=>140 | 12=>285 | 23=>178 | 24=>179 | 14=>288 | 15=>289 | 16=>290 | 17=>291 | 18=>292 | 19=>293 | 20=>294 | 21=>295 | 22=>296 | 25=>297 | 26=>212 | 27=>213 | 28=>298 | 29=>299 | 30=>300 | 31=>301 | n=>n,fun | 26=>9 | 28=>321 | 24=>50 | 0=>0 | 3=>3 | 37=>163 | 48=>184 | 50=>92 | 4=>4 | 40=>236 | 39=>235 | 45=>138 | 5=>5 | 9=>9 | 51=>274 | 55=>278 | 57=>312 | 58=>313 | 33=>60 | n=>n,fun | n=>n⟩
theorem Tryz.Aeh:Go.Proofs.SlLaysZ.n6 Tryz.prog Tryz.Nq:={
 mixed:=by kernel_rfl
 f6:=⟨Tryz.f255.name,by decide,Tryz.func255.trans (congrArg some (by kernel_rfl))⟩
 f8:=⟨Tryz.f270.name,by decide,Tryz.func270.trans (congrArg some (by kernel_rfl))⟩
 f11:=⟨Tryz.f284.name,by decide,Tryz.func284.trans (congrArg some (by kernel_rfl))⟩
 t0:=Tryz.underlying0
 a0:=Tryz.isAgg0
 z0:=Tryz.sizeOf0
 v0:=Tryz.zeroValue0
 t24:=Tryz.underlying50
 a24:=Tryz.isAgg50
 z24:=Tryz.sizeOf50
 v24:=Tryz.zeroValue50
 t26:=Tryz.underlying9
 a26:=Tryz.isAgg9
 z26:=Tryz.sizeOf9
 v26:=Tryz.zeroValue9
 t28:=Tryz.underlying321
 a28:=Tryz.isAgg321
 z28:=Tryz.sizeOf321
 v28:=Tryz.zeroValue321
 i26:=by kernel_rfl }
def Tryz.Za:Go.Shelf.Ren:=⟨fun | 6=>271 | 8=>140 | 9=>285 | 19=>178 | 20=>179 | 21=>288 | 22=>289 | 23=>290 | 24=>291 | 25=>292 | 26=>293 | 27=>294 | 28=>295 | 29=>296 | 36=>297 | 31=>212 | 32=>213 | 37=>298 | 38=>299 | 39=>300 | 41=>301 | n=>n,fun | 27=>50 | 29=>9 | 3=>3 | 32=>163 | 26=>50 | 0=>0 | 44=>184 | 46=>92 | 4=>4 | 36=>236 | 35=>235 | 41=>138 | 5=>5 | 9=>9 | 53=>274 | 57=>278 | 63=>312 | 64=>313 | n=>n,fun | n=>n⟩
theorem Tryz.Adz:Go.Proofs.SlLaysM.n6 Tryz.prog Tryz.Za:={
 mixed:=by kernel_rfl
 f6:=⟨Tryz.f271.name,by decide,Tryz.func271.trans (congrArg some (by kernel_rfl))⟩
 f8:=Tryz.func140.trans (congrArg some (by kernel_rfl))
 f9:=⟨Tryz.f285.name,by decide,Tryz.func285.trans (congrArg some (by kernel_rfl))⟩
 f19:=Tryz.func178.trans (congrArg some (by kernel_rfl))
 f20:=Tryz.func179.trans (congrArg some (by kernel_rfl))
 f21:=⟨Tryz.f288.name,by decide,Tryz.func288.trans (congrArg some (by kernel_rfl))⟩
 f22:=⟨Tryz.f289.name,by decide,Tryz.func289.trans (congrArg some (by kernel_rfl))⟩
 f23:=⟨Tryz.f290.name,by decide,Tryz.func290.trans (congrArg some (by kernel_rfl))⟩
 f24:=⟨Tryz.f291.name,by decide,Tryz.func291.trans (congrArg some (by kernel_rfl))⟩
 f25:=⟨Tryz.f292.name,by decide,Tryz.func292.trans (congrArg some (by kernel_rfl))⟩
 f26:=⟨Tryz.f293.name,by decide,Tryz.func293.trans (congrArg some (by kernel_rfl))⟩
 f27:=⟨Tryz.f294.name,by decide,Tryz.func294.trans (congrArg some (by kernel_rfl))⟩
 f28:=⟨Tryz.f295.name,by decide,Tryz.func295.trans (congrArg some (by kernel_rfl))⟩
 f29:=⟨Tryz.f296.name,by decide,Tryz.func296.trans (congrArg some (by kernel_rfl))⟩
 f31:=Tryz.func212.trans (congrArg some (by kernel_rfl))
 f32:=Tryz.func213.trans (congrArg some (by kernel_rfl))
 f36:=⟨Tryz.f297.name,by decide,Tryz.func297.trans (congrArg some (by kernel_rfl))⟩
 f37:=⟨Tryz.f298.name,by decide,Tryz.func298.trans (congrArg some (by kernel_rfl))⟩
 f38:=⟨Tryz.f299.name,by decide,Tryz.func299.trans (congrArg some (by kernel_rfl))⟩
 f39:=⟨Tryz.f300.name,by decide,Tryz.func300.trans (congrArg some (by kernel_rfl))⟩
 f41:=⟨Tryz.f301.name,by decide,Tryz.func301.trans (congrArg some (by kernel_rfl))⟩
 t0:=Tryz.underlying0
 a0:=Tryz.isAgg0
 z0:=Tryz.sizeOf0
 v0:=Tryz.zeroValue0
 t3:=Tryz.underlying3
 a3:=Tryz.isAgg3
 z3:=Tryz.sizeOf3
 v3:=Tryz.zeroValue3
 t4:=Tryz.underlying4
 a4:=Tryz.isAgg4
 z4:=Tryz.sizeOf4
 v4:=Tryz.zeroValue4
 t5:=Tryz.underlying5
 a5:=Tryz.isAgg5
 z5:=Tryz.sizeOf5
 v5:=Tryz.zeroValue5
 t9:=Tryz.underlying9
 a9:=Tryz.isAgg9
 z9:=Tryz.sizeOf9
 v9:=Tryz.zeroValue9
 t26:=Tryz.underlying50
 a26:=Tryz.isAgg50
 z26:=Tryz.sizeOf50
 v26:=Tryz.zeroValue50
 t27:=Tryz.underlying50
 a27:=Tryz.isAgg50
 z27:=Tryz.sizeOf50
 v27:=Tryz.zeroValue50
 t29:=Tryz.underlying9
 a29:=Tryz.isAgg9
 z29:=Tryz.sizeOf9
 v29:=Tryz.zeroValue9
 t32:=Tryz.underlying163
 a32:=Tryz.isAgg163
 z32:=Tryz.sizeOf163
 v32:=Tryz.zeroValue163
 t35:=Tryz.underlying235
 a35:=Tryz.isAgg235
 z35:=Tryz.sizeOf235
 v35:=Tryz.zeroValue235
 t36:=Tryz.underlying236
 a36:=Tryz.isAgg236
 z36:=Tryz.sizeOf236
 v36:=Tryz.zeroValue236
 t41:=Tryz.underlying138
 a41:=Tryz.isAgg138
 z41:=Tryz.sizeOf138
 v41:=Tryz.zeroValue138
 t44:=Tryz.underlying184
 a44:=Tryz.isAgg184
 z44:=Tryz.sizeOf184
 v44:=Tryz.zeroValue184
 t46:=Tryz.underlying92
 a46:=Tryz.isAgg92
 z46:=Tryz.sizeOf92
 v46:=Tryz.zeroValue92
 t53:=Tryz.underlying274
 a53:=Tryz.isAgg274
 z53:=Tryz.sizeOf274
 v53:=Tryz.zeroValue274
 t57:=Tryz.underlying278
 a57:=Tryz.isAgg278
 z57:=Tryz.sizeOf278
 v57:=Tryz.zeroValue278
 t63:=Tryz.underlying312
 a63:=Tryz.isAgg312
 z63:=Tryz.sizeOf312
 v63:=Tryz.zeroValue312
 t64:=Tryz.underlying313
 a64:=Tryz.isAgg313
 z64:=Tryz.sizeOf313
 v64:=Tryz.zeroValue313 }
theorem Tryz.AfX(m:Nat):AnyZ.SortsIn Tryz.prog Tryz.Nq Fence.wide m :=
 ⟨λ CJ off cap ss W hH wA aw=>callsIn_wide.2 (AnyM.slices_Sort_string Tryz.Adz CJ off cap ss W hH wA aw),
 λ p cap W=>callsIn_wide.2 (AnyM.slices_Sort_string_none Tryz.Adz p cap W)⟩
theorem Tryz.Ws(mb:Option Nat)(W:World):CallsIn Fence.wide 5 Tryz.prog 256 #[.map mb] W λ e w'=>e=.returned (.func (.func 272) #[] #[.pointer (some ⟨W.heap.size,0,none⟩)])/\w'=W.alloc (.cells #[.map mb] 318) :=
 AnyZ.keys_in Tryz.Adm Fence.wide 5 trivial rfl mb W
set_option maxHeartbeats 1000000 in
theorem Tryz.HF{H:Type}(b nn:Nat)(D0:DataW H)(R:Value->Option (DataW H × List MemPlace))(w:World)(fS:w.ownsMap Tryz.prog 9 R b nn D0)(tk:Maps.size D0<=maxLen)(nt:Maps.size D0*16<=140737488355328) :
  CallsIn Fence.wide 5 Tryz.prog 255 #[.func (.func 272) #[] #[.pointer (some ⟨w.heap.size,0,none⟩)]] (w.alloc (.cells #[.map (some b)] 318)) λ e w'=>∃(v:Value) (ss:List (List UInt8)),e=.returned v/\ss.Perm (strKeys D0) /\
   w'.ownsRow (w.alloc (.cells #[.map (some b)] 318)).heap.size 9 1 v ss.length ((ss.mergeSort (λ x y=>decide (x<=y))).map encStr)/\(v=.slice none 0 0↔ss=[])/\Below (w.alloc (.cells #[.map (some b)] 318)).heap.size (w.alloc (.cells #[.map (some b)] 318)) w':=by
 have au:=fS.lt;have sl:SeqGives Fence.wide 2 Tryz.prog 272 #[.pointer (some ⟨w.heap.size,0,none⟩)] encStr (λ ss=>ss.Perm (strKeys D0)) (Maps.size D0) (w.alloc (.cells #[.map (some b)] 318)) :=
  AnyZ.keys_gives (ρ:=Tryz.Sx) { Tryz.Adm with } Fence.wide _ trivial rfl (by omega) w.heap.size b nn D0 _ (by simp) (by simp) (by
   obtain⟨es,clock,hb,Ft,hs,hD⟩:=fS;exact⟨es,clock,(Below.heap_alloc _ _ b au).trans hb,Ft,hs,hD⟩)
 exact AnyZ.sorted_in Tryz.Aeh Fence.wide 5 trivial trivial trivial trivial rfl (by omega) (Tryz.AfX _) (enters_of Tryz.func271 (by kernel_rfl) rfl) 272 #[.pointer (some ⟨w.heap.size,0,none⟩)] trivial (enters_of Tryz.func272 (by kernel_rfl) rfl) _ _ tk nt _ sl
end Go.Proofs
namespace Go.Dn
set_option linter.unusedVariables false
set_option maxRecDepth 100000
open Go.RowKit (Below)
open Go.Maps (has Tidy Keyed)
theorem Ai.of_grownBy{w w':World}{b:Nat}(h:w.grownBy w' (some b)):Ai (·=b) w w' :=
 ⟨h.os,h.tape,h.output,h.size,λ k hk hn=>h.block k hk (λ e=>hn (Option.some.inj e))⟩
def Q6(P:Program)(k e:TypeId)(q:IntKind)(w:World)(b n:Nat)(g:List UInt8->Option Int):Prop :=
 ∃ D:DataW Unit,w.ownsMap P k (plainElem P e) b n D/\Tidy D/\∀ x,has D (.string x)=(g x).isSome/\D.atKey (.string x) (.lit (.int q 0))=.lit (.int q ((g x).getD 0))
section
variable {P:Program}{k e t:TypeId}{q:IntKind}{w:World}{b n:Nat}{g:List UInt8->Option Int}
theorem Q6.kept(h:Q6 P k e q w b n g){F:Nat->Prop}{w':World}(K:Ai F w w')(hn:¬ F b):Q6 P k e q w' b n g:=by
 obtain⟨D,⟨es,clock,hb,r⟩,h2⟩:=h;exact⟨D,⟨es,clock,K.at hb hn,r⟩,h2⟩
theorem Q6.lt(h:Q6 P k e q w b n g):b<w.heap.size:=by
 obtain⟨D,h,_⟩:=h;exact h.lt
theorem Q6.put(h:Q6 P k e q w b n g)(hk:P.underlying k=some .string)(he:P.underlying e=some (.int q))(ht:P.underlying t=some (.map k e))(hn:n<maxLen){s:ByteArray}(hs:s.size<=maxLen){v:Int}(hv:(Lit.int q v).wf=true)
  {f:World->Prop} (hf:∀ w',Ai (·=b) w w'->Q6 P k e q w' b (n+1) (λ y=>if y=bl s then some v else g y)->f w'):OPU P (Instr.mapUpdate t (.map (some b)) (.string s) (.int q v)) f w:=by
 obtain⟨D,hD,hT,hg⟩:=h;have fh:keyOf P k (.string s)=some (.string (bl s)):=by simp [keyOf,hk,mapKey,hs,bl]
 obtain⟨w',aH,fS,bp⟩:=hD.update (Maps.string_keyed hk) ht hn fh (plainElem_int he hv);unfold OPU;rw [aH];have aO:WideAt.IsKeyLit (.string (bl s)):=by simp [WideAt.IsKeyLit]
 refine hf w' (.of_grownBy bp) ⟨_,fS,hT.put aO _,λ x=>?_⟩;by_cases hx:x=bl s
 ·subst hx;simp only [if_true];exact⟨Maps.has_put_same hT.isMap aO _,Maps.atKey_put_same hT.isMap aO _ _⟩
 ·have aQ:Lit.string x≠.string (bl s):=λ e=>hx (by injection e);simp only [hx,if_false];exact⟨(Maps.has_put_other aQ _).trans (hg x).1,(Maps.atKey_put_other aQ _ _).trans (hg x).2⟩
theorem Q6.get(h:Q6 P k e q w b n g)(hk:P.underlying k=some .string)(he:P.underlying e=some (.int q))(ht:P.underlying t=some (.map k e))(hz:(zeroValue e).run P w=.ok (.int q 0) w){s:ByteArray}(hs:s.size<=maxLen)
  {f:Value->World->Prop} (hf:f (.int q ((g (bl s)).getD 0)) w):DE P (Instr.lookup t (.map (some b)) (.string s) false) f w:=by
 obtain⟨D,hD,hT,hg⟩:=h;have fh:keyOf P k (.string s)=some (.string (bl s)):=by simp [keyOf,hk,mapKey,hs,bl]
 obtain⟨c,aH,cU,_⟩:=hD.lookup_int (Maps.string_keyed hk) ht he hz fh;rw [(hg (bl s)).2] at cU;have:c=(g (bl s)).getD 0:=by injection cU with h1;injection h1 with _ h2;exact h2.symm
 unfold DE;rw [aH,this];exact hf
theorem Q6.keys(h:Q6 P k e q w b n g)(hk:P.underlying k=some .string):∃ D:DataW Unit,w.ownsMap P k (plainElem P e) b n D/\Maps.size D<=n/\(strKeys D).Nodup/\∀ x,x∈strKeys D↔(g x).isSome=true:=by
 obtain⟨D,hD,hT,hg⟩:=h;obtain⟨es,e1,hpw⟩:=hT;obtain⟨es',fe,iI⟩:=hD.keysOf;obtain rfl:es=es':=by rw [e1] at fe;simpa using fe
 have kG:∀ p∈es,∃ x,p.1=.string x:=λ p hp=>by obtain⟨v,hv⟩:=iI p hp;obtain⟨x,_,hx,_⟩:=Maps.keyOf_str hk hv;exact⟨x,hx⟩
 have eM:(strKeys D).Nodup:=by
  rw [e1];show (es.map λ p=>strOf p.1).Nodup;refine List.pairwise_map.2 (hpw.imp_of_mem λ {p r} hp' kP aQ e=>aQ ?_);obtain⟨a,ha⟩:=kG p hp';obtain⟨c,hc⟩:=kG r kP;rw [ha,hc] at e ⊢;exact congrArg _ e
 refine⟨D,hD,?_,eM,λ x=>?_⟩
 ·obtain⟨es2,clock,_,_,hs,e2⟩:=hD;rw [e2];simp only [Maps.size,length_sorted,List.length_map,Array.length_toList];exact hs
 ·rw [<- (hg x).1,e1,Maps.has_eq,List.any_eq_true];show x∈es.map (λ p=>strOf p.1)↔_;rw [List.mem_map];constructor
  ·rintro⟨p,hp',rfl⟩;obtain⟨a,ha⟩:=kG p hp';exact⟨p,hp',by rw [ha];simp [Lit.sameKey,strOf]⟩
  ·rintro⟨p,hp',hs⟩;obtain⟨a,ha⟩:=kG p hp';rw [ha] at hs;exact⟨p,hp',by rw [ha];simpa [Lit.sameKey,strOf] using hs⟩
end
end Go.Dn
namespace Go.Proofs.YtpnaifmmggnimaaGreatDoor
open _root_.BitVec renaming ofInt -> AkA
open _root_.List renaming getElem?_eq_none -> AlT
open _root_.Nat renaming le_of_not_lt -> AlU, le_trans -> Ali, mod_lt -> Alr, mul_comm -> Alf
set_option maxRecDepth 100000
open Go.Dn Go.Proofs
open Go.RowKit (Below)
set_option linter.unusedVariables false
theorem ZU{w:World}{base:Nat}{e:TypeId}{v:Value}{n:Nat}{xs:List Value}(h:w.ownsRow base e 1 v n xs):∃ a c,v=.slice a n c/\Row w e 1 a n c xs/\∀ k,AD a=some k->base<=k:=by
 obtain⟨hl,⟨rfl,rfl⟩ | ⟨g,cap,cur,rfl,hb,hg,h1,h2,h3,h4⟩⟩:=h
 ·exact⟨none,0,rfl,⟨hl,.inl ⟨rfl,rfl,rfl⟩⟩,by simp [AD]⟩
 ·refine⟨_,cap,rfl,⟨hl,.inr ⟨g,cur,rfl,hg,h1,?_,h3,h4⟩⟩,λ k hk=>?_⟩
  ·exact Ali h2 (by decide)
  ·cases hk;exact hb
structure Ep(ls t:List (List UInt8)):Prop where
 up:t.Pairwise (·<·)
 mem:∀ x,x∈t↔x∈ls
theorem GP{t:List (List UInt8)}(h:t.Pairwise (·<·)):t.Nodup:=h.imp λ {a b} jP e=>by subst e;exact List.lt_irrefl _ jP
theorem Ep.one{ls t u:List (List UInt8)}(h:Ep ls t)(h':Ep ls u):t=u:=by
 have hp:t.Perm u:=(List.perm_ext_iff_of_nodup (GP h.up) (GP h'.up)).2 λ x=>(h.mem x).trans (h'.mem x).symm;exact List.Perm.eq_of_pairwise (le:=λ a b=>a<b) (λ a b _ _ h1 h2=>absurd h2 (List.lt_asymm h1)) h.up h'.up hp
theorem Ae7{ls ss:List (List UInt8)}(eM:ss.Nodup)(hm:∀ x,x∈ss↔x∈ls):Ep ls (ss.mergeSort (λ x y=>decide (x<=y))):=by
 have tr:∀ a b c:List UInt8,leB a b=true->leB b c=true->leB a c=true:=λ a b c h1 h2=>by simp only [leB,decide_eq_true_eq] at *;exact List.le_trans h1 h2
 have to:∀ a b:List UInt8,(leB a b || leB b a)=true:=λ a b=>by simp only [leB,Bool.or_eq_true,decide_eq_true_eq];exact List.le_total a b
 have hs:=List.pairwise_mergeSort tr to ss;have hp:=List.mergeSort_perm ss leB;have hn:(ss.mergeSort leB).Nodup:=hp.nodup_iff.2 eM;refine⟨?_,λ x=>(hp.mem_iff).trans (hm x)⟩;refine (hs.and hn).imp λ {a b} ⟨h1,h2⟩=>?_;simp only [leB,decide_eq_true_eq] at h1;rcases Decidable.em (a<b) with h | h
 ·exact h
 ·exact absurd (List.le_antisymm h1 (List.not_lt.1 h)) h2
theorem Jt:Tryz.prog.underlying ty.string=some .string:=by kernel_rfl
theorem XJ:Tryz.prog.underlying ty.uint64=some (.int .u64):=by kernel_rfl
abbrev Aek(w:World)(b n:Nat)(g:List UInt8->Option Int):Prop:=Q6 Tryz.prog ty.string ty.uint64 .u64 w b n g
theorem Wr{w:World}{b n:Nat}{g:List UInt8->Option Int}(h:Aek w b n g)(hn:n<=4096){ls:List (List UInt8)}(hg:∀ x,(g x).isSome=true↔x∈ls){k:Value->World->Prop}
  (hk:∀ a c t w',Ep ls t->Row w' ty.string 1 a t.length c (t.map encStr)->(∀ k,AD a=some k->w.heap.size<=k)->Below w.heap.size w w'->k (.slice a t.length c) w') :
  Calls Tryz.prog f.Ef #[.map (some b)] w (λ e w1=>∃(fn:FuncId) (fi ca:Array Value),e=.returned (.func (.func fn) fi ca) /\
   Calls Tryz.prog f.Mr #[.func (.func fn) fi ca] w1 (λ e w2=>∃(a:Option Addr) (l c:Nat),e=.returned (.slice a l c)/\k (.slice a l c) w2)):=by
 obtain⟨D,hD,aw,eM,ag⟩:=h.keys Jt;refine (callsIn_wide.1 (Tryz.Ws (some b) w)).mono ?_;rintro _ w1 ⟨rfl,rfl⟩;refine⟨_,_,_,rfl,(callsIn_wide.1 (Tryz.HF b n D (plainElem Tryz.prog ty.uint64) w hD (Ali (Ali aw hn) (by decide)) (by omega))).mono ?_⟩;rintro _ w2 ⟨v,ss,rfl,lk,aI,_,hb⟩;obtain⟨a,c,rfl,hR,bE⟩:=ZU aI;have hr:=Ae7 (ls:=ls) (lk.nodup_iff.2 eM) (λ x=>(lk.mem_iff).trans ((ag x).trans (hg x)));have hlen:(ss.mergeSort (λ x y=>decide (x<=y))).length=ss.length:=List.length_mergeSort _;have sz:w.heap.size<=(w.alloc (.cells #[.map (some b)] ty.Ev)).heap.size:=by simp
 refine⟨_,_,_,rfl,?_⟩;have:=hk a c _ w2 hr (by rw [hlen];exact hR) (λ k hk=>Ali sz (bE k hk)) (((Below.refl _ w).alloc (Nat.le_refl _) _).trans (hb.mono sz));rwa [hlen] at this
def HE(v:AB):List Value:=[.int .i64 v.1,.int .i64 v.2.1,.string v.2.2]
def Akl(v:AB):Prop:=BN v/\v.2.2.size<=maxLen
theorem RV:Tryz.prog.cellsOf ty.int=1:=by kernel_rfl
theorem Sd:Tryz.prog.cellsOf ty.int64=1:=by kernel_rfl
theorem Ms:Tryz.prog.cellsOf ty.string=1:=by kernel_rfl
theorem Ahv:PV Tryz.prog ty.AW=some [(ty.int,0),(ty.int64,1),(ty.string,2)]:=by kernel_rfl
theorem Qr:Tryz.prog.underlying ty.int=some (.int .i64):=by kernel_rfl
theorem Rr:Tryz.prog.underlying ty.int64=some (.int .i64):=by kernel_rfl
theorem Aeq:Tryz.prog.cellsOf ty.AW=3:=by kernel_rfl
theorem Uh{w:World}:∀ m r,r.length=Tryz.prog.cellsOf ty.AW->Go.Dn.Good Tryz.prog w m ty.AW r->∃ x,r=HE x/\Akl x:=by
 intro m r hl h;obtain⟨_,n,hf⟩:=h.fields Ahv;rw [Aeq] at hl
 match r,hl with
 | [v0,v1,v2],_ =>
  simp only [List.mem_cons,List.not_mem_nil,or_false,forall_eq_or_imp,forall_eq,RV,Sd,Ms] at hf;obtain⟨h0,h1,h2⟩:=hf;obtain⟨x0,e0,_⟩:=h0.int Qr;obtain⟨x1,e1,q1⟩:=h1.int Rr;obtain⟨x2,e2,q2⟩:=h2.str Jt;have xb : -9223372036854775808<=x1/\x1<=9223372036854775807:=by simpa [Lit.wf,IntKind.min,IntKind.max,IntKind.signed,IntKind.bits] using q1
  refine⟨(x0,x1,x2),?_,⟨xb.1,xb.2⟩,q2⟩;simp at e0 e1 e2;simp [HE,e0,e1,e2]
def QC(f:Nat->Bool)(w:Nat):Nat->Nat->Nat
 | 0,_=>0
 | t+1,j=>if j=t / w/\f t=true then QC f w t j ||| 2 ^ (t % w) else QC f w t j
theorem T7(f:Nat->Bool){w:Nat}(hw:0<w)(t i k:Nat):(QC f w t i).testBit k=(decide (k<w/\i*w+k<t) && f (i*w+k)):=by
 induction t with
 | zero=>simp [QC]
 | succ t ih =>
  unfold QC;have hd:=Nat.div_add_mod t w;have hm:=Alr t hw;rw [Alf] at hd;split
  ·rename_i h;obtain⟨rfl,hf⟩:=h;rw [Nat.testBit_or,ih,Nat.testBit_two_pow];by_cases hk:t % w=k
   ·subst hk;rw [hd];simp [hm,hf]
   ·have:¬ (t / w*w+k=t):=by omega
    rw [Bool.eq_iff_iff];simp [hk];intro _ _;omega
  ·rename_i h;rw [ih];by_cases hk:k<w/\i*w+k=t
   ·have hi:i=t / w:=by
     rw [<- hk.2,Alf,Nat.mul_add_div hw,Nat.div_eq_of_lt hk.1];rfl
    have hf:f t=false:=by
     cases bR:f t
     ·rfl
     ·exact absurd ⟨hi,bR⟩ h
    rw [hk.2,hf];simp
   ·rw [Bool.eq_iff_iff];simp;intro _ _;omega
theorem AiY(f:Nat->Bool)(t j:Nat):T3 f t j=QC f 8 t j:=by
 induction t with
 | zero=>rfl
 | succ t ih=>unfold T3 QC;rw [ih]
theorem AcZ(f:Nat->Bool){w:Nat}(hw:0<w)(t i:Nat):QC f w t i<2 ^ w:=by
 apply Nat.lt_pow_two_of_testBit;intro k hk;rw [T7 f hw];simp;intro h;omega
def DG(l:List UInt8)(t:Nat):Bool:=(l.getD (t / 8) 0).toNat.testBit (t % 8)
def BI(l:List UInt8)(n w:Nat):List Nat:=(List.range n).map (QC (DG l) w (n*w))
theorem Ce(l:List UInt8)(n w:Nat):(BI l n w).length=n:=by simp [BI]
theorem NH(l:List UInt8)(n w:Nat):∀ x∈BI l n w,x<2 ^ w:=by
 intro x hx;obtain⟨i,_,rfl⟩:=List.mem_map.1 hx;by_cases hw:0<w
 ·exact AcZ _ hw _ _
 ·have:w=0:=by omega
  subst this;simp [QC]
theorem Zm(l:List UInt8){n w t:Nat}(ht:t<n*w):Ew (BI l n w) w t=DG l t:=by
 have hw:0<w:=Nat.pos_of_ne_zero (by rintro rfl;simp at ht);have hi:t / w<n:=(Nat.div_lt_iff_lt_mul hw).2 ht;have hd:=Nat.div_add_mod t w;have hm:=Alr t hw;rw [Alf] at hd;unfold Ew;have:(BI l n w).getD (t / w) 0=QC (DG l) w (n*w) (t / w):=by simp [BI,hi]
 rw [this,T7 _ hw,hd];simp [hm,ht]
theorem NI{c:UInt8}{k:Nat}(hk:8<=k):c.toNat.testBit k=false :=
 Nat.testBit_lt_two_pow (Nat.lt_of_lt_of_le c.toNat_lt (Nat.pow_le_pow_right (by omega) hk))
theorem AiF{c d:UInt8}(h:∀ k,k<8->c.toNat.testBit k=d.toNat.testBit k):c=d:=by
 apply UInt8.toNat_inj.1;apply Nat.eq_of_testBit_eq;intro k;by_cases hk:k<8
 ·exact h k hk
 ·rw [NI (by omega),NI (by omega)]
theorem UK{xs:List Nat}{w j:Nat}(hj:j<Dv xs.length w):(A5 xs w)[j]?=some (UInt8.ofNat (T3 (Ew xs w) (xs.length*w) j)):=by
 simp [A5,hj]
theorem VA{xs:List Nat}{w j k:Nat}(hk:k<8):(UInt8.ofNat (T3 (Ew xs w) (xs.length*w) j)).toNat.testBit k=(decide (j*8+k<xs.length*w) && Ew xs w (j*8+k)):=by
 rw [EY (XZ _ _ _),AiY,T7 _ (by omega)];simp [hk]
theorem Ahd{l:List UInt8}{n w:Nat}(hl:l.length=Dv n w):A5 (BI l n w) w=l↔∀ t,n*w<=t->DG l t=false:=by
 have hs:Dv (BI l n w).length w=l.length:=by rw [Ce,hl]
 have hN:l.length=(n*w+7) / 8:=hl;constructor
 ·intro h t ht;by_cases hj:t / 8<l.length
  ·have h1:(A5 (BI l n w) w)[t / 8]?=l[t / 8]?:=by rw [h]
   rw [UK (by omega),List.getElem?_eq_getElem hj] at h1;have h2:=Option.some.inj h1;unfold DG;have:l.getD (t / 8) 0=l[t / 8]:=by simp [hj]
   rw [this,<- h2,VA (Alr _ (by omega)),Ce];have:¬ (t / 8*8+t % 8<n*w):=by omega
   simp [this]
  ·unfold DG;have:l.getD (t / 8) 0=0:=by simp [List.getD,AlT (AlU hj)]
   rw [this];simp
 ·intro h;apply List.ext_getElem?;intro j;by_cases hj:j<l.length
  ·rw [UK (by omega),List.getElem?_eq_getElem hj];congr 1;apply AiF;intro k hk;rw [VA hk,Ce];have hb:DG l (j*8+k)=l[j].toNat.testBit k:=by
    unfold DG;rw [show (j*8+k) / 8=j by omega,show (j*8+k) % 8=k by omega];simp [hj]
   by_cases ht:j*8+k<n*w
   ·rw [Zm l ht,hb];simp [ht]
   ·have:=h _ (AlU ht);rw [<- hb,this];simp [ht]
  ·rw [AlT (by rw [BS];omega),AlT (by omega)]
theorem AfB{l:List UInt8}{T:Nat}(hl:l.length=(T+7) / 8):(∀ t,T<=t->DG l t=false)↔(0<l.length->T % 8≠0->(l.getD (l.length-1) 0).toNat / 2 ^ (T % 8)=0):=by
 constructor
 ·intro h h0 h8;apply Nat.eq_of_testBit_eq;intro k;rw [Nat.testBit_div_two_pow,Nat.zero_testBit];by_cases hk:T % 8+k<8
  ·have:=h (T+k) (by omega);unfold DG at this;rw [show (T+k) / 8=l.length-1 by omega,show (T+k) % 8=T % 8+k by omega] at this;rw [Nat.add_comm];exact this
  ·exact NI (by omega)
 ·intro h t ht;unfold DG;by_cases hj:t / 8<l.length
  ·have h8:T % 8≠0:=by omega
   have:=h (by omega) h8;have e:t / 8=l.length-1:=by omega
   rw [e];have h2:((l.getD (l.length-1) 0).toNat / 2 ^ (T % 8)).testBit (t % 8-T % 8)=false:=by rw [this,Nat.zero_testBit]
   rw [Nat.testBit_div_two_pow] at h2;rw [show t % 8-T % 8+T % 8=t % 8 by omega] at h2;exact h2
  ·have:l.getD (t / 8) 0=0:=by simp [List.getD,AlT (AlU hj)]
   rw [this];simp
/-! ### rows of numbers -/
def Ht(f:Nat->Bool)(w m t:Nat):Array Value:=⟨(List.range m).map λ j=>.int .u64 (QC f w t j:Int)⟩
theorem WA(f:Nat->Bool)(w m t:Nat):(Ht f w m t).size=m:=by simp [Ht]
theorem ZJ{f:Nat->Bool}{w m t j:Nat}(h:j<m):(Ht f w m t)[j]?=some (.int .u64 (QC f w t j:Int)):=by simp [Ht,h]
theorem Aa2{f:Nat->Bool}{w m t:Nat}(v:Nat)(hv:v=QC f w (t+1) (t / w)):(Ht f w m t).setIfInBounds (t / w) (.int .u64 (v:Int))=Ht f w m (t+1):=by
 apply Array.ext';apply List.ext_getElem?;intro i;simp only [Array.toList_setIfInBounds,Ht,List.getElem?_set,List.length_map,List.length_range];by_cases h:t / w=i
 ·subst h;by_cases h2:t / w<m
  ·simp [h2,hv]
  ·simp [h2]
 ·have e:QC f w (t+1) i=QC f w t i:=by
   conv=>lhs;unfold QC
   rw [if_neg (by omega)]
  by_cases h2:i<m
  ·simp [h,h2,e]
  ·simp [h,h2]
theorem Ae9{f:Nat->Bool}{w m t:Nat}(h:f t=false):Ht f w m (t+1)=Ht f w m t:=by
 unfold Ht;congr 1;apply List.map_congr_left;intro j _
 conv=>lhs;unfold QC
 rw [if_neg (by simp [h])]
theorem Xq(f:Nat->Bool)(w m:Nat):madeCells (Value.int .u64 0).cells (m*1)=Ht f w m 0:=by
 apply Array.ext';rw [Ej _ rfl];simp [Ht,QC,List.map_const']
theorem Abv(l:List UInt8)(n w:Nat):(Ht (DG l) w n (n*w)).toList=(BI l n w).map ES:=by
 simp [Ht,BI,ES]
theorem Zo(f:Nat->Bool)(w t:Nat):QC f w t (t / w) ||| (f t).toNat*2 ^ (t % w)=QC f w (t+1) (t / w):=by
 conv=>rhs;unfold QC
 cases h:f t
 ·simp
 ·simp
/-! ### words -/
theorem W8{x k:Nat}(hx:x<256)(hk:k<8):IntKind.u8.wrap (((AkA 8 (Int.fdiv (x:Int) (2 ^ (min k 8))) &&& AkA 8 1).toNat:Int))=((x.testBit k).toNat:Int):=by
 rw [show min k 8=k by omega,fdiv_pow];have hle:x / 2 ^ k<=x:=Nat.div_le_self _ _;have e:(AkA 8 ((x / 2 ^ k:Nat):Int) &&& AkA 8 1).toNat=x / 2 ^ k % 2:=by
  rw [BitVec.toNat_and,BitVec.ofInt_natCast,BitVec.toNat_ofNat,Nat.mod_eq_of_lt (by omega)];exact Nat.and_two_pow_sub_one_eq_mod _ 1
 rw [e];have hm:x / 2 ^ k % 2<2:=Alr _ (by omega);rw [Nat.testBit_eq_decide_div_mod_eq];generalize x / 2 ^ k % 2=y at hm;rw [AE (by omega) (by omega)];rcases (by omega:y=0\/y=1) with rfl | rfl <;> rfl
theorem Xw{b:Bool}{s:Nat}(hs:s<64):IntKind.u64.wrap (IntKind.u64.wrap (b.toNat:Int)*2 ^ (min s 64))=((b.toNat*2 ^ s:Nat):Int):=by
 have hp:2 ^ s<2 ^ 64:=Nat.pow_lt_pow_right (by omega) hs;rw [show min s 64=s by omega,show IntKind.u64.wrap (b.toNat:Int)=(b.toNat:Int) by cases b <;> decide];have e:((b.toNat:Int)*2 ^ s)=((b.toNat*2 ^ s:Nat):Int):=by norm_cast
 rw [e];cases b
 ·simp;decide
 ·simp only [Bool.toNat_true,Nat.one_mul];generalize 2 ^ s=y at hp;rw [Aj (by omega) (by omega)]
end Go.Proofs.YtpnaifmmggnimaaGreatDoor
namespace Go.Proofs.YtpnaifmmggnimaaGreatDoor
open _root_.BitVec renaming ofInt -> AkA
set_option maxRecDepth 100000
open Go.Dn Go.Proofs
open Go.RowKit (Below)
set_option linter.unusedVariables false
/-! ### what package-level variables hold -/
/-! ### Number, Signed, Text -/
def D4(n:Int):Nat:=if n<0 then (-(2*n)-1).toNat else (2*n).toNat
theorem FQ{n:Int}(h1 : -9223372036854775808<=n)(h2:n<=9223372036854775807):D4 n<18446744073709551616:=by unfold D4;split <;> omega
theorem AaA{n:Int}(h1 : -9223372036854775808<=n)(h2:n<=9223372036854775807) :
  IntKind.u64.wrap (((AkA 64 (IntKind.u64.wrap (IntKind.i64.wrap (n*2 ^ (min 1 64)))) ^^^ AkA 64 (IntKind.u64.wrap (Int.fdiv n (2 ^ (min 63 64))))).toNat:Int))=(D4 n:Int):=by
 have e1:IntKind.u64.wrap (IntKind.i64.wrap (n*2 ^ (min 1 64)))=(2*n) % 18446744073709551616:=by
  rw [wrap_u64,CX];have:n*2 ^ (min 1 64)=2*n:=by rw [show (2:Int) ^ (min 1 64)=2 from rfl];omega
  rw [this];split <;> omega
 rw [e1];by_cases hn:n<0
 ·have e2:Int.fdiv n (2 ^ (min 63 64)) = -1:=by
   rw [Int.fdiv_eq_ediv_of_nonneg _ (by decide),show (2:Int) ^ (min 63 64)=9223372036854775808 from rfl];omega
  rw [e2,show IntKind.u64.wrap (-1)=18446744073709551615 by decide];obtain⟨m,hm⟩:∃ m:Nat,(2*n) % 18446744073709551616=(m:Int):=⟨((2*n) % 18446744073709551616).toNat,by omega⟩;have hmlt:m<18446744073709551616:=by omega
  rw [hm,show AkA 64 18446744073709551615=BitVec.allOnes 64 by decide,BitVec.xor_allOnes,BitVec.toNat_not,BitVec.ofInt_natCast,BitVec.toNat_ofNat,Nat.mod_eq_of_lt (by omega),Aj (by omega) (by omega)];unfold D4;rw [if_pos hn];omega
 ·have e2:Int.fdiv n (2 ^ (min 63 64))=0:=by
   rw [Int.fdiv_eq_ediv_of_nonneg _ (by decide),show (2:Int) ^ (min 63 64)=9223372036854775808 from rfl];omega
  obtain⟨m,rfl⟩:∃ m:Nat,n=(m:Int):=⟨n.toNat,by omega⟩;rw [e2,show IntKind.u64.wrap 0=0 by decide,show AkA 64 0=0#64 by decide,BitVec.xor_zero];have:(2*(m:Int)) % 18446744073709551616=((2*m:Nat):Int):=by omega
  rw [this,BitVec.ofInt_natCast,BitVec.toNat_ofNat,Nat.mod_eq_of_lt (by omega),Aj (by omega) (by omega)];unfold D4;rw [if_neg hn];omega
theorem F0{w:World}{a:Option Addr}{c:Nat}(l:List UInt8)(hl:Rd w a (l.map Ag))(n:Int)(h1 : -9223372036854775808<=n)(h2:n<=9223372036854775807)(hs:l.length+10<=140737488355328) :
  Calls Tryz.prog f.SC #[.slice a l.length c,.int .i64 n] w (AG λ v w'=>∃ a c,v=.slice a (l++Af (D4 n)).length c/\Bn w w' (l++Af (D4 n)) a c):=by
 apply R.PU
 delta R.Cs R.S R.U R.W R.Wu;try dsimp only [R.Ps]
 rw [AaA h1 h2];refine (Bf l hl (D4 n) (FQ h1 h2) hs).mono ?_;rintro _ w1 ⟨_,rfl,a1,c1,rfl,h⟩;exact⟨_,_,_,rfl,a1,c1,rfl,h⟩
/-! ### Lay -/
/-! ### Show -/
end Go.Proofs.YtpnaifmmggnimaaGreatDoor
namespace Go.Proofs.YtpnaifmmggnimaaGreatDoor
open _root_.List renaming length_append -> Ak1, length_cons -> Ak3, length_drop -> Alu, mem_cons_of_mem -> AlE, mem_cons_self -> AlD
set_option maxRecDepth 100000
open Go.Dn Go.Proofs
open Go.RowKit (Below)
set_option linter.unusedVariables false
def EG(x:Int):Value:=.int .i64 x
def Fs(x:Int):Prop := -9223372036854775808<=x/\x<=9223372036854775807
theorem FY(x:Int):Fs (IntKind.i64.wrap x):=by
 rw [CX];unfold Fs;split <;> omega
def Fh(x:Nat):Nat:=if x=0 then 0 else Nat.log2 x+1
theorem TX(x:Nat):DR x (Fh x):=by
 unfold Fh;split
 ·rename_i h;subst h;exact⟨by decide,.inl rfl⟩
 ·rename_i h;exact⟨Nat.lt_log2_self,.inr (by rw [Nat.add_sub_cancel];exact Nat.log2_self_le h)⟩
def Em(x:Int):List UInt8:=Af (D4 x)
theorem VD{x:Int}(h:Fs x):(Em x).length<=10:=Al (FQ h.1 h.2)
def E3:List Int->List UInt8
 | []=>[]
 | x :: r=>Af ((r.takeWhile (·==x)).length+1)++(Em x++E3 (r.drop (r.takeWhile (·==x)).length))
termination_by l=>l.length
decreasing_by simp only [Alu,Ak3];omega
structure AdE(l:List Int)(k n:Nat):Prop where
 pos:0<n
 le:k+n<=l.length
 all:∀ j,j<n->l[k+j]?=l[k]?
 stop:k+n=l.length\/l[k+n]?≠l[k]?
theorem Nl{x:Int}:∀ {r:List Int} {n:Nat},n<=r.length->(∀ j,j<n->r[j]?=some x)->(n=r.length\/r[n]?≠some x)->(r.takeWhile (·==x)).length=n
 | [],n,h1,_,_=>by simp at h1;simp [h1]
 | y :: r,0,_,_,h3=>by
  rcases h3 with h3 | h3
  ·simp at h3
  ·simp only [List.getElem?_cons_zero,ne_eq,Option.some.injEq] at h3;rw [List.takeWhile_cons_of_neg (by simpa using h3)];rfl
 | y :: r,n+1,h1,h2,h3=>by
  have h0:=h2 0 (by omega);simp only [List.getElem?_cons_zero,Option.some.injEq] at h0;rw [List.takeWhile_cons_of_pos (by simpa using h0),Ak3];rw [Nl (r:=r) (n:=n) (by simpa using h1) (λ j hj=>by have:=h2 (j+1) (by omega);simpa using this) (by
   rcases h3 with h3 | h3
   ·exact .inl (by simpa using h3)
   ·exact .inr (by simpa using h3))]
theorem Zh{l:List Int}{k n:Nat}(h:AdE l k n):E3 (l.drop k)=Af n++(Em (l.getD k 0)++E3 (l.drop (k+n))):=by
 have hp:=h.pos;have hl:=h.le;have hk:k<l.length:=by omega
 have hg:l.getD k 0=l[k]:=by simp [hk]
 have hk?:l[k]?=some l[k]:=List.getElem?_eq_getElem hk;rw [List.drop_eq_getElem_cons hk,hg]
 conv=>lhs;unfold E3
 have hT:((l.drop (k+1)).takeWhile (·==l[k])).length=n-1:=by
  apply Nl
  ·rw [Alu];omega
  ·intro j hj;rw [List.getElem?_drop,<- hk?,<- h.all (j+1) (by omega)];congr 1;omega
  ·rcases h.stop with h3 | h3
   ·left;rw [Alu];omega
   ·right;rw [List.getElem?_drop,<- hk?];have e:k+1+(n-1)=k+n:=by omega
    rw [e];exact h3
 rw [hT,List.drop_drop,show n-1+1=n by omega,show k+1+(n-1)=k+n by omega]
theorem Jh:E3 []=[]:=by unfold E3;rfl
def BB(l:List Int):List Nat:=(List.range (l.length-1)).map λ i=>D4 (IntKind.i64.wrap (l.getD (i+1) 0-l.getD i 0))
def E6(l:List Int)(k:Nat):Int:=(l.take k).foldl (λ m x=>if x<m then x else m) (l.headD 0)
def FJ(l:List Int):Int:=E6 l l.length
def BJ(l:List Int):List Nat:=l.map λ x=>(x-FJ l).toNat
theorem OO{l:List Int}{k:Nat}(hk:k<l.length):E6 l (k+1)=if l[k]<E6 l k then l[k] else E6 l k:=by
 unfold E6;rw [List.take_succ_eq_append_getElem hk,List.foldl_append];rfl
theorem JU(l:List Int):∀ m:Int,l.foldl (λ m x=>if x<m then x else m) m<=m/\(∀ x∈l,l.foldl (λ m x=>if x<m then x else m) m<=x)/\(l.foldl (λ m x=>if x<m then x else m) m=m\/l.foldl (λ m x=>if x<m then x else m) m∈l):=by
 induction l with
 | nil=>intro m;simp
 | cons y l ih =>
  intro m;obtain⟨h1,h2,h3⟩:=ih (if y<m then y else m);rw [List.foldl_cons];refine⟨?_,?_,?_⟩
  ·refine Int.le_trans h1 ?_;split <;> omega
  ·intro x hx;rcases List.mem_cons.1 hx with rfl | hx
   ·refine Int.le_trans h1 ?_;split <;> omega
   ·exact h2 x hx
  ·rcases h3 with h3 | h3
   ·rw [h3];split
    ·right;exact AlD ..
    ·left;rfl
   ·right;exact AlE _ h3
theorem MD{l:List Int}{x:Int}(h:x∈l):FJ l<=x:=by
 unfold FJ E6;rw [List.take_length];exact (JU l _).2.1 x h
theorem DJ{l:List Int}(h:∀ x∈l,Fs x)(h0:0<l.length)(k:Nat):Fs (E6 l k):=by
 unfold E6;have hh:Fs (l.headD 0):=by
  cases l with
  | nil=>simp at h0
  | cons y l=>exact h y (AlD ..)
 rcases (JU (l.take k) (l.headD 0)).2.2 with e | e
 ·rw [e];exact hh
 ·exact h _ (List.mem_of_mem_take e)
theorem MF{l:List Int}:∀ x∈BB l,x<18446744073709551616:=by
 intro x hx;obtain⟨i,_,rfl⟩:=List.mem_map.1 hx;have:=FY (l.getD (i+1) 0-l.getD i 0);exact FQ this.1 this.2
theorem Mt{l:List Int}(h:∀ x∈l,Fs x):∀ x∈BJ l,x<18446744073709551616:=by
 intro x hx;obtain⟨y,hy,rfl⟩:=List.mem_map.1 hx;have h1:=h y hy;have h2:=DJ h (List.length_pos_of_mem hy) l.length;have h3:=MD hy;unfold FJ at h3 ⊢;unfold Fs at h1 h2;omega
def CM(first:Int)(s:List Nat):List UInt8:=Em first++(UInt8.ofNat (Fh (Ie s)) :: A5 s (Fh (Ie s)))
def DS(form:Nat)(l:List Int):List UInt8 :=
 match form with
 | 0=>0 :: l.flatMap Em
 | 1=>1 :: E3 l
 | 2=>2 :: (if l=[] then [] else CM (l.headD 0) (BB l))
 | _=>3 :: (if l=[] then [] else CM (FJ l) (BJ l))
theorem Rv{s:List Nat}(h:∀ x∈s,x<18446744073709551616):Fh (Ie s)<=64:=(TX _).le.2 ((H0 s 64).2 h)
theorem SN{f:Int}{s:List Nat}(hf:Fs f)(h:∀ x∈s,x<18446744073709551616):(CM f s).length<=12+s.length*8:=by
 have h1:=VD hf;have h2:=BS s (Fh (Ie s));have h3:=Rv h;unfold CM;simp only [Ak1,Ak3];unfold Dv at h2;have h4:s.length*Fh (Ie s)<=s.length*64:=Nat.mul_le_mul_left _ h3;omega
theorem KM{l:List Int}(h:∀ x∈l,Fs x):(l.flatMap Em).length<=l.length*10:=by
 induction l with
 | nil=>simp
 | cons x l ih =>
  have h1:=VD (h x (AlD ..));have h2:=ih λ y hy=>h y (AlE _ hy);simp only [List.flatMap_cons,Ak1,Ak3];omega
theorem Mz:∀(n:Nat) (l:List Int),l.length<=n->n<=4096->(∀ x∈l,Fs x)->(E3 l).length<=l.length*20
 | _,[],_,_,_=>by rw [Jh];simp
 | 0,x :: l,h,_,_=>by simp at h
 | n+1,x :: l,h,hn,hx=>by
  unfold E3;have h1:=VD (hx x (AlD ..));have hT:(l.takeWhile (·==x)).length<=l.length:=(List.takeWhile_sublist _).length_le;have hl:l.length<=n:=by simpa using h
  have h2:=Al (n:=(l.takeWhile (·==x)).length+1) (by omega);have h3:=Mz n (l.drop (l.takeWhile (·==x)).length) (by rw [Alu];omega) (by omega) (λ y hy=>hx y (AlE _ (List.mem_of_mem_drop hy)));rw [Alu] at h3;simp only [Ak1,Ak3];omega
theorem AeH{l:List Int}(f:Nat)(hn:l.length<=4096)(h:∀ x∈l,Fs x):(DS f l).length<=13+l.length*20:=by
 unfold DS;split
 ·have:=KM h;simp only [Ak3];omega
 ·have:=Mz 4096 l hn (by omega) h;simp only [Ak3];omega
 ·split
  ·simp only [Ak3,List.length_nil];omega
  ·rename_i h0;have hp:0<l.length:=List.length_pos_iff.2 h0;have h1:Fs (l.headD 0):=by
    have:=DJ h hp 0;simpa [E6] using this
   have:=SN h1 (MF (l:=l));have e:(BB l).length=l.length-1:=by simp [BB]
   rw [e] at this;simp only [Ak3];omega
 ·split
  ·simp only [Ak3,List.length_nil];omega
  ·rename_i h0;have hp:0<l.length:=List.length_pos_iff.2 h0;have:=SN (DJ h hp l.length) (Mt h);have e:(BJ l).length=l.length:=by simp [BJ]
   rw [e] at this;unfold FJ;simp only [Ak3];omega
end Go.Proofs.YtpnaifmmggnimaaGreatDoor
