/-
  Texts of this claim, laid one behind the other by a program of mine (install.py): Z.Hash3, Z.Hash4, Z.Hash5, Z.Hash6, Z.Hash7, Z.Hash8, Z.Hash9, Z.Hash10, Z.Hash11, Z.Sch1, Z.Sch2, Z.Sch3, Z.Sch4, Z.Sig, Z.ValB, Z.Len, Z.Width, Z.Pack, Z.Pack2, Z.Pack3, Z.Iter, Dn.Maps, Z.Rise, Z.ValA, Z.VLay, Z.ReadB, Z.Show, Dn.MapsB, Dn.St, Dn.St2, Dn.St3, Dn.Ld, Dn.Lit, Dn.Ev1, Dn.Ev2, Dn.Ev3, Dn.Ev4, Dn.Ev5.
-/
import Derived.Test.YtegnhfeclchlmaaGreatDoorM3
import Derived.Shelf.SlIter.Nil
import Derived.Shelf.SortM.Plain
import Derived.Shelf.SortM.SortNone
import Derived.Ground.GgzProg
import Derived.Ground.SlgmProg
import Derived.Test.YtegnhfeclchlmaaGreatDoorProg
import Derived.Maps.Own
import Derived.Maps.Views
import Derived.Sort.KeysCollected
import Derived.Test.YtegnhfeclchlmaaGreatDoorRead
import Derived.Test.YtegnhfeclchlmaaGreatDoorM1
import Derived.Test.YtegnhfeclchlmaaGreatDoorM2
namespace Go.Proofs.YtegnhfeclchlmaaGreatDoor
open _root_.BitVec renaming ofInt -> Ai2, ofNat -> AjL
open _root_.Bool renaming eq_iff_iff -> AjN
open _root_.Int renaming toNat_natCast -> Ajz
open _root_.List renaming length_map -> AjM, range -> AjO, replicate -> AjJ
open _root_.Nat renaming mul_one -> AjC, zero_add -> Ajp
open _root_.UInt8 renaming ofNat -> AjA
set_option maxRecDepth 100000
open Go.Dn Go.Proofs
open Go.RowKit (Below)
set_option linter.unusedVariables false
def uI(c:UInt8):Int:=(c.toNat:Int)
theorem JX(l:List UInt8):l.map Af=(l.map uI).map (.int .u8):=by simp [Af,uI,Function.comp_def]
theorem LZ(l:List UInt8){n:Nat}{a:Addr}{k:List Value->Prop}{w:World}(hn:l.length=n)(hr:Rd w (some a) (l.map Af))(h:k (l.map Af)):BT (AjJ n (.int .u8 0)) a 0 k w :=
 L3 .u8 (l.map uI) (by simpa using hn) (by rw [<- JX];exact hr) (by rw [<- JX];exact h)
section
variable {F:Nat->Prop}{w0 w:World}{H:List Ent}
theorem _root_.Go.Dn.SH.wd'(S:SH F w0 w H)(n:Nat){b:Nat}{v:List Wd}{t:TypeId}(hn:H[n]?=some (b,⟨v.map wV⟩,t)){j:Nat}(hj:j<v.length):w.cell? ⟨b,j,none⟩=some (.int .u32 ((v.getD j 0).toNat:Int)):=by
 have:=S.wd n hn hj rfl;rwa [Ar,Ajp,AjC] at this
theorem _root_.Go.Dn.SH.V1(S:SH F w0 w H)(n:Nat){b:Nat}{v:List Wd}{t:TypeId}(hn:H[n]?=some (b,⟨v.map wV⟩,t)){j:Nat}(hj:j<v.length){y:Wd}{k:World->Prop}
  (hk:∀ w',SH F w0 w' (H.set n (b,⟨(v.set j y).map wV⟩,t))->k w'):CI ⟨b,j,none⟩ (.int .u32 (y.toNat:Int)) k w:=by
 have:=S.Pg n hn hj rfl hk;rwa [Ar,Ajp,AjC] at this
end
def byW(c:UInt8):Wd:=AjL 32 c.toNat
def mO(Bu:List UInt8):Nat->List Wd
 | 0=>AjJ 16 0
 | i+1=>(mO Bu i).set (i / 4) ((mO Bu i).getD (i / 4) 0 ||| (byW (Bu.getD i 0) <<< (8*(i % 4))))
theorem Ad9(Bu:List UInt8):∀ i,(mO Bu i).length=16
 | 0=>by simp [mO]
 | i+1=>by simp [mO,Ad9 Bu i]
def vF(h:List Wd):Nat->List Wd
 | 0=>h++AjJ 8 0
 | i+1=>(vF h i).set (8+i) (DJ.getD i 0)
theorem AeK(h:List Wd)(hh:h.length=8):∀ i,(vF h i).length=16
 | 0=>by simp [vF,hh]
 | i+1=>by simp [vF,AeK h hh i]
def vN(v:List Wd)(n:Nat)(last:Bool):List Wd :=
 let v:=v.set 12 (v.getD 12 0 ^^^ AjL 32 n);let v:=v.set 13 (v.getD 13 0 ^^^ AjL 32 (n / 4294967296))
 if last then v.set 14 (4294967295 ^^^ v.getD 14 0) else v
theorem AhB(v:List Wd)(n:Nat)(last:Bool):(vN v n last).length=v.length:=by
 unfold vN;cases last <;> simp
def hF(h v:List Wd):Nat->List Wd
 | 0=>h
 | i+1=>(hF h v i).set i ((hF h v i).getD i 0 ^^^ (v.getD i 0 ^^^ v.getD (i+8) 0))
theorem Zq(h v:List Wd):∀ i,(hF h v i).length=h.length
 | 0=>rfl
 | i+1=>by simp [hF,Zq h v i]
def XD(h:List Wd)(Bu:List UInt8)(n:Nat)(last:Bool):List Wd:=hF h (EB (mO Bu 64) (vN (vF h 8) n last) 10) 8
theorem Agz(i:Nat)(h:i<64):IntKind.i64.wrap (Int.tdiv (i:Int) 4)=((i / 4:Nat):Int):=by
 rw [Int.tdiv_eq_ediv_of_nonneg (by omega),wrap_i64 (by omega) (by omega)];omega
theorem AgA(i:Nat)(h:i<64):IntKind.i64.wrap (8*Int.tmod (i:Int) 4)=((8*(i % 4):Nat):Int):=by
 rw [Int.tmod_eq_emod_of_nonneg (by omega),wrap_i64 (by omega) (by omega)];omega
theorem Afp(c:UInt8):IntKind.u32.wrap (c.toNat:Int)=((byW c).toNat:Int):=by
 have:=c.toNat_lt;rw [Ph (by omega) (by omega),byW,BitVec.toNat_ofNat];omega
theorem AfI{w:World}(T:L6 w)(h:List Wd)(hh:h.length=8)(Bu:List UInt8)(hb:Bu.length=64)(n:Nat)(hn:n<18446744073709551616)(last:Bool) :
  Calls Tryz.prog f.PD #[.agg ⟨h.map wV⟩,.agg ⟨Bu.map Af⟩,.int .u64 (n:Int),.bool last] w (AD λ r w'=>r=.agg ⟨(XD h Bu n last).map wV⟩/\Below w.heap.size w w'):=by
 apply R.IH
 delta R.A R.Ab R.B R.D R.F R.I R.Lv R.Qi R.Ri R.S R.Ae R.V R.W R.Wv R.X R.Y R.Z;try dsimp only [R.Ps]
 refine (SH.start (λ _=>False) w).Ak λ b5 w1 _ _ S=>S.Ak λ b6 w2 _ _ S=>S.Ak λ b7 w3 _ _ S=>S.Ak λ b8 w4 _ _ S=>S.Ak λ b9 w5 _ _ S=>?_;refine LZ Bu hb (Rd.Av (S.get 3 rfl)) ?_;refine⟨λ st w'=>∃ i:Nat,st=[.int .i64 (i:Int)]/\i<=64/\SH (λ _=>False) w w' [(b9,⟨(mO Bu i).map wV⟩,267),(b8,⟨AjJ 16 (.int .u32 0)⟩,267),(b7,⟨AjJ 8 (.int .u32 0)⟩,173),(b6,⟨Bu.map Af⟩,174),(b5,⟨h.map wV⟩,173)],
  λ st _=>match st with | [.int _ t]=>(64-t).toNat | _=>0,⟨0,rfl,by omega,S⟩,?_⟩
 rintro t w6 ⟨i,aA,hi,S⟩;cases Xh aA;have ic:=Ad9 Bu i;refine Aa (λ aB=>⟨⟨by omega,aB⟩,?_⟩) (λ aM=>?_)
 ·have fH:i<64:=by omega
  have e1:=Agz i fH;have e2:=AgA i fH;refine⟨uI (Bu.getD i 0),?_,S.draw λ w7 S=>?_⟩
  ·rw [Ajz,AjC];simp [hb,fH,Af,uI]
  ·rw [e1,e2];refine⟨⟨by omega,by omega⟩,by omega,_,S.wd 0 rfl (by omega) (Ajz _),⟨by omega,by omega⟩,?_⟩;have e3:IntKind.u32.wrap (((Ai2 32 (((mO Bu i).getD (i / 4) 0).toNat:Int) ||| Ai2 32 (IntKind.u32.wrap ((IntKind.u32.wrap (uI (Bu.getD i 0)))*2 ^ (min ((((8*(i % 4):Nat):Int)).toNat) 32)))).toNat:Int))
     = (((mO Bu i).getD (i / 4) 0 ||| (byW (Bu.getD i 0) <<< (8*(i % 4)))).toNat:Int):=by
    rw [Ajz,Nat.min_eq_left (by omega),uI,Afp,Ags,Bl,BQ]
   rw [e3];refine S.Pg 0 rfl (by omega) (Ajz _) λ w8 S=>?_;rw [Ah (by omega)];exact⟨⟨i+1,rfl,by omega,S⟩,by show (64-((i+1:Nat):Int)).toNat<(64-(i:Int)).toNat;omega⟩
 ·have fH:i=64:=by omega
  refine S.draw λ w9 S=>⟨⟨by omega,by omega,by omega⟩,⟨by omega,by omega,by omega⟩,?_⟩;have hz:(AjJ 8 (Value.int .u32 0))=(AjJ 8 (0:Wd)).map wV:=rfl;refine S.copy 1 rfl (P:=Tryz.prog) (elem:=161) (by kernel_rfl) (by kernel_rfl) (a:=some ⟨b5,0,none⟩) (xs:=h.map wV) (by simpa using hh) (by simp) (Rd.Av (S.get 4 rfl)) (OC h) λ dJ _ S=>?_;have ev:(⟨(h.map wV).take 16++(AjJ 16 (Value.int .u32 0)).drop (min 8 16)⟩:Array Value)=⟨(vF h 0).map wV⟩:=by
   rw [List.take_of_length_le (by simp [hh])];simp [vF,wV]
  replace S:=ev ▸ S
  refine⟨_,rfl,D4 DJ rfl (T.first.grown S.below) ?_⟩;refine⟨λ st w'=>∃ j:Nat,st=[.int .i64 (j:Int)]/\j<=8/\SH (λ _=>False) w w' [(b9,⟨(mO Bu i).map wV⟩,267),(b8,⟨(vF h j).map wV⟩,267),(b7,⟨AjJ 8 (.int .u32 0)⟩,173),(b6,⟨Bu.map Af⟩,174),(b5,⟨h.map wV⟩,173)],
   λ st _=>match st with | [.int _ t]=>(8-t).toNat | _=>0,⟨0,rfl,by omega,S⟩,?_⟩
  rintro t bm ⟨j,aA,hj,S⟩;cases Xh aA;have o7:=AeK h hh j;refine Aa (λ aB=>⟨⟨by omega,aB⟩,?_⟩) (λ aM=>?_)
  ·have lR:j<8:=by omega
   have e8:IntKind.i64.wrap (8+(j:Int))=((8+j:Nat):Int):=by rw [wrap_i64 (by omega) (by omega)];omega
   rw [e8];refine⟨((DJ.getD j 0).toNat:Int),?_,⟨by omega,by omega⟩,S.Pg 1 rfl (by omega) (Ajz _) λ cI S=>?_⟩
   ·rw [Ajz,AjC];have:j<DJ.length:=by simpa [DJ] using lR
    simp [this,wV]
   ·rw [Ah (by omega)];exact⟨⟨j+1,rfl,by omega,S⟩,by show (8-((j+1:Nat):Int)).toNat<(8-(j:Int)).toNat;omega⟩
  ·have lR:j=8:=by omega
   have qw:∀ x:Wd,IntKind.u32.wrap (((Ai2 32 (x.toNat:Int) ^^^ Ai2 32 (IntKind.u32.wrap (n:Int))).toNat:Int))=((x ^^^ AjL 32 n).toNat:Int):=by
    intro x;rw [Cq,Bl,BQ,BitVec.ofInt_natCast]
   have qx:∀ x:Wd,IntKind.u32.wrap (((Ai2 32 (x.toNat:Int) ^^^ Ai2 32 (IntKind.u32.wrap (Int.fdiv (n:Int) (2 ^ (min 32 64))))).toNat:Int))=((x ^^^ AjL 32 (n / 4294967296)).toNat:Int):=by
    intro x;have:Int.fdiv (n:Int) (2 ^ (min 32 64))=((n / 4294967296:Nat):Int):=by
     rw [show (2:Int) ^ (min 32 64)=4294967296 by rfl,Int.fdiv_eq_ediv_of_nonneg _ (by omega)];omega
    rw [this,Cq,Bl,BQ,BitVec.ofInt_natCast]
   have qy:∀ x:Wd,IntKind.u32.wrap (((Ai2 32 4294967295 ^^^ Ai2 32 (x.toNat:Int)).toNat:Int))=((4294967295 ^^^ x).toNat:Int):=by
    intro x;rw [Bl,BQ];rfl
   refine⟨_,S.wd' 1 rfl (by omega),?_⟩;rw [qw];refine S.V1 1 rfl (by omega) λ bQ S=>⟨_,S.wd' 1 rfl (by simp;omega),?_⟩;rw [qx];refine S.V1 1 rfl (by simp;omega) λ bG S=>?_;refine⟨λ _ w'=>SH (λ _=>False) w w' [(b9,⟨(mO Bu i).map wV⟩,267),(b8,⟨(vN (vF h j) n last).map wV⟩,267),(b7,⟨AjJ 8 (.int .u32 0)⟩,173),(b6,⟨Bu.map Af⟩,174),(b5,⟨h.map wV⟩,173)],?_,?_⟩
   ·refine Ao (λ hl=>?_) (λ hl=>?_)
    ·subst hl;refine⟨_,S.wd' 1 rfl (by simp;omega),?_⟩;rw [qy];exact S.V1 1 rfl (by simp;omega) λ cB S=>S
    ·subst hl;exact S
   ·intro cZ S;have jR:(vN (vF h j) n last).length=16:=by rw [AhB];exact o7
    refine D4 (vN (vF h j) n last) jR (Rd.Av (S.get 1 rfl)) (D4 (mO Bu i) ic (Rd.Av (S.get 0 rfl)) ?_);refine (Acu (T.grown S.below) _ _ jR ic).mono ?_;rintro _ cM ⟨_,rfl,rfl,iE⟩;have gL:(EB (mO Bu i) (vN (vF h j) n last) 10).length=16:=by rw [Lo];exact jR
    generalize hV:EB (mO Bu i) (vN (vF h j) n last) 10=V at gL ⊢;refine We V gL ⟨rfl,EL (by simpa using gL) ?_⟩;refine (S.grown iE).GA 1 rfl (by simp [jR,gL]) (OC _) λ cR _ S=>?_;refine⟨λ st w'=>∃ q:Nat,st=[.int .i64 (q:Int)]/\q<=8/\SH (λ _=>False) w w' [(b9,⟨(mO Bu i).map wV⟩,267),(b8,⟨V.map wV⟩,267),(b7,⟨AjJ 8 (.int .u32 0)⟩,173),(b6,⟨Bu.map Af⟩,174),(b5,⟨(hF h V q).map wV⟩,173)],
     λ st _=>match st with | [.int _ t]=>(8-t).toNat | _=>0,⟨0,rfl,by omega,S⟩,?_⟩
    rintro t fR ⟨q,aA,hq,S⟩;cases Xh aA;have nC:=(Zq h V q).trans hh;refine Aa (λ aB=>S.draw λ jX S=>?_) (λ aM=>?_)
    ·have e8:IntKind.i64.wrap ((q:Int)+8)=((q+8:Nat):Int):=by rw [wrap_i64 (by omega) (by omega)];omega
     rw [e8];refine⟨⟨by omega,aB⟩,⟨by omega,by omega⟩,⟨by omega,by omega⟩,_,S.wd 4 rfl (by omega) (Ajz _),_,S.wd 1 rfl (by omega) (Ajz _),_,S.wd 1 rfl (by omega) (Ajz _),⟨by omega,aB⟩,?_⟩;rw [Abj,Abj];refine S.Pg 4 rfl (by omega) (Ajz _) λ iy S=>?_;rw [Ah (by omega)];exact⟨⟨q+1,rfl,by omega,S⟩,by show (8-((q+1:Nat):Int)).toNat<(8-(q:Int)).toNat;omega⟩
    ·have pX:q=8:=by omega
     have bC:((hF h V q).map wV).length=8:=by rw [AjM];exact nC
     refine D4 (hF h V q) nC (Rd.Av (S.get 4 rfl)) (EL bC (S.GA 2 rfl bC (OC _) λ fS _ S=>?_));refine D4 (hF h V q) nC (Rd.Av (S.get 2 rfl)) ⟨?_,S.below⟩;unfold XD;rw [<- lR,<- fH,hV];rw [show (hF h V q)=hF h V j by rw [pX,lR]]
def Yz(n:Nat):List UInt8:=AjJ n 0
def QI(l:List UInt8)(p:Nat):List UInt8:=(l.drop p).take 64++Yz (64-min (l.length-p) 64)
theorem Tx(l:List UInt8)(p:Nat):(QI l p).length=64:=by
 simp [QI,Yz];omega
def Ir(l:List UInt8)(p:Nat):Nat:=p+min (l.length-p) 64
def Kh(l:List UInt8):Nat->List Wd
 | 0=>DJ.set 0 (DJ.getD 0 0 ^^^ 16842784)
 | k+1=>XD (Kh l k) (QI l (64*k)) (Ir l (64*k)) (Ir l (64*k)==l.length)
theorem Acj(h:List Wd)(Bu:List UInt8)(n:Nat)(last:Bool):(XD h Bu n last).length=h.length:=by
 unfold XD;rw [Zq]
theorem Sd(l:List UInt8):∀ k,(Kh l k).length=8
 | 0=>by simp [Kh,DJ]
 | k+1=>by rw [Kh,Acj,Sd l k]
def Ahf(l:List UInt8):Nat:=max 1 ((l.length+63) / 64)
def AiT(h:List Wd)(i:Nat):UInt8:=AjA ((h.getD (i / 4) 0) >>> (8*(i % 4))).toNat
def VG(h:List Wd):Nat->List UInt8
 | 0=>Yz 32
 | i+1=>(VG h i).set i (AiT h i)
theorem RD(h:List Wd):∀ i,(VG h i).length=32
 | 0=>by simp [VG,Yz]
 | i+1=>by simp [VG,RD h i]
def Pp(l:List UInt8):List UInt8:=VG (Kh l (Ahf l)) 32
theorem Adn(v:List UInt8):∀ x∈v.map Af,x.oneCell'=true:=by
 rw [JX];exact Q9 _ _
section
variable {F:Nat->Prop}{w0 w:World}{H:List Ent}
theorem _root_.Go.Dn.SH.AhW(S:SH F w0 w H)(n:Nat){b:Nat}{v:List UInt8}{t:TypeId}(hn:H[n]?=some (b,⟨v.map Af⟩,t)){j x:Nat}(hj:j<v.length)(hx:x=j){y:UInt8}{k:World->Prop}
  (hk:∀ w',SH F w0 w' (H.set n (b,⟨(v.set j y).map Af⟩,t))->k w'):CI ((⟨b,0,none⟩:Addr).add (x*1)) (.int .u8 (y.toNat:Int)) k w:=by
 subst hx;rw [Ar,Ajp,AjC];refine S.BA n hn (by simpa using hj) λ w' S'=>hk w' ?_;have e:(⟨v.map Af⟩:Array Value).setIfInBounds x (.int .u8 (y.toNat:Int))=⟨(v.set x y).map Af⟩:=by
  apply Array.ext';simp [Af,List.map_set]
 rw [e] at S';exact S'
end
theorem Aco(x:Wd)(k:Nat)(hk:k<=32):IntKind.u8.wrap (Int.fdiv (x.toNat:Int) (2 ^ (min k 32)))=((AjA (x >>> k).toNat).toNat:Int):=by
 rw [Nat.min_eq_left hk,HW,wrap_u8];simp
theorem Jk{w:World}(T:L6 w){a:Option Addr}{c:Nat}(ps:List Io)(hp:Rd w a (ps.map C1))(hb:∀ p∈ps,Rd w p.1 (p.2.2.map Af))(hn:ps.length<9223372036854775807)(hl:(Bv ps).length<=140737488355328) :
  Calls Tryz.prog f.Q3 #[.slice a ps.length c] w (AD λ v w'=>v=.agg ⟨(Pp (Bv ps)).map Af⟩/\Below w.heap.size w w'):=by
 apply R.Q4
 delta R.A R.B R.Cs R.D R.F R.G R.I R.Lv R.Qi R.Ri R.S R.Ae R.U R.V R.W R.Wb R.Wu R.Wv R.X R.Y R.Z;try dsimp only [R.Ps]
 refine (SH.start (λ _=>False) w).Ak λ b2 w1 _ B1 S=>?_;refine (Ca ps (hp.grown B1) (λ p h=>(hb p h).grown B1) hn hl).mono ?_;rintro _ w2 ⟨_,rfl,a2,c2,rfl,N2⟩;generalize Bv ps=l at *;have S2:=S.grown N2.Ag;have T2:=T.grown S2.below;refine⟨_,_,_,rfl,D4 DJ rfl T2.first ?_⟩;refine (SH.start (λ _=>False) w2).Ak λ b6 w3 _ _ S=>EL rfl (S.GA 0 rfl (vs:=DJ.map wV) rfl (OC _) λ w4 _ S=>?_);refine⟨_,S.wd' 0 rfl (by simp [DJ]),?_⟩;have e0:∀ x:Wd,IntKind.u32.wrap (((Ai2 32 (x.toNat:Int) ^^^ Ai2 32 16842784).toNat:Int))=((x ^^^ 16842784).toNat:Int):=by
  intro x;rw [Bl,BQ];rfl
 rw [e0];refine S.V1 0 rfl (by simp [DJ]) λ w5 S=>?_;refine⟨λ st w'=>∃ k:Nat,st=[.int .i64 ((64*k:Nat):Int)]/\(k<=1\/64*(k-1)<l.length)/\SH (λ _=>False) w2 w' [(b6,⟨(Kh l k).map wV⟩,173)],
  λ st _=>match st with | [.int _ t]=>((l.length:Int)+64-t).toNat | _=>0,⟨0,rfl,.inl (by omega),S⟩,?_⟩
 rintro t w6 ⟨k,aA,hk,S⟩;cases Xh aA;have dU:=Sd l k;refine⟨λ _ w'=>(k=0\/64*k<l.length)/\SH (λ _=>False) w2 w' [(b6,⟨(Kh l k).map wV⟩,173)],?_,?_⟩
 ·refine Aj (λ h=>⟨.inl (by omega),S⟩) (λ h0=>Aa (λ h=>⟨.inr (by omega),S⟩) (λ h=>?_));have bY:Ahf l=k:=by
   unfold Ahf;omega
  have S6:=S2.grown S.below;refine S.Ak λ qY bQ _ kx S=>?_;refine⟨λ st w'=>∃ i:Nat,st=[.int .i64 (i:Int)]/\i<=32/\SH (λ _=>False) w2 w' [(qY,⟨(VG (Kh l k) i).map Af⟩,107),(b6,⟨(Kh l k).map wV⟩,173)],
   λ st _=>match st with | [.int _ t]=>(32-t).toNat | _=>0,⟨0,rfl,by omega,S⟩,?_⟩
  rintro t bG ⟨i,aA,hi,S⟩;cases Xh aA;have gv:=RD (Kh l k) i;refine Aa (λ aB=>?_) (λ aM=>?_)
  ·have k7:i<32:=by omega
   rw [Agz i (by omega),AgA i (by omega)];refine⟨⟨by omega,by omega⟩,_,S.wd 1 rfl (by omega) (Ajz _),by omega,⟨by omega,aB⟩,?_⟩;rw [Ajz,Aco _ _ (by omega)];refine S.AhW 0 rfl (by omega) (Ajz _) λ cZ S=>?_;rw [Ah (by omega)];exact⟨⟨i+1,rfl,by omega,S⟩,by show (32-((i+1:Nat):Int)).toNat<(32-(i:Int)).toNat;omega⟩
  ·have k7:i=32:=by omega
   have bC:((VG (Kh l k) i).map Af).length=32:=by rw [AjM];exact gv
   refine LZ (VG (Kh l k) i) gv (Rd.Av (S.get 0 rfl)) (EL bC ?_);refine (S2.grown S.below).GA 0 rfl bC (Adn _) λ cB _ S'=>?_;refine LZ (VG (Kh l k) i) gv (Rd.Av (S'.get 0 rfl)) ⟨?_,S'.below⟩;unfold Pp;rw [bY,k7]
 ·rintro w7 ⟨bB,S⟩;have ry:64*k<=l.length:=by omega
  refine S.Ak λ lE w8 _ _ S=>S.draw λ w9 S=>⟨⟨by omega,by omega,by omega⟩,⟨by omega,by omega,by have:=N2.row.le;omega⟩,?_⟩;have aP:Rd w9 (BD a2 (64*k) c2 1) ((l.drop (64*k)).map Af):=by
   have:=(N2.rd.grown S.below).YA (64*k) l.length c2 1 N2.row.le;rw [List.take_of_length_le (by simp),AjC,<- List.map_drop] at this;exact this
  rw [Ajz];refine S.copy 0 rfl (P:=Tryz.prog) (elem:=5) (by kernel_rfl) (by kernel_rfl) (a:=BD a2 (64*k) c2 1) (xs:=(l.drop (64*k)).map Af) (by simp) (by simp) aP (Adn _) λ dJ _ S=>?_;have eb:(⟨((l.drop (64*k)).map Af).take 64++(AjJ 64 (Value.int .u8 0)).drop (min (l.length-64*k) 64)⟩:Array Value)=⟨(QI l (64*k)).map Af⟩:=by
   rw [List.drop_replicate];simp only [QI,Yz,List.map_append,List.map_replicate,List.map_take];rfl
  replace S:=eb ▸ S
  have ee:IntKind.i64.wrap (((64*k:Nat):Int)+((min (l.length-64*k) (64-0):Nat):Int))=((Ir l (64*k):Nat):Int):=by
   unfold Ir;rw [wrap_i64 (by omega) (by omega)];omega
  have eu:IntKind.u64.wrap ((Ir l (64*k):Nat):Int)=((Ir l (64*k):Nat):Int):=by
   have:Ir l (64*k)<=l.length:=by unfold Ir;omega
   rw [A8 (by omega) (by omega)]
  have r8:(((Ir l (64*k):Nat):Int)==((l.length:Nat):Int))=(Ir l (64*k)==l.length):=by
   rw [AjN];simp;omega
  refine⟨_,rfl,D4 (Kh l k) dU (Rd.Av (S.get 1 rfl)) (LZ (QI l (64*k)) (Tx _ _) (Rd.Av (S.get 0 rfl)) ?_)⟩;rw [ee,eu,r8];refine (AfI (T2.grown S.below) (Kh l k) dU (QI l (64*k)) (Tx _ _) (Ir l (64*k)) (by unfold Ir;omega) _).mono ?_;rintro _ bm ⟨_,rfl,rfl,dC⟩;have ei:=Sd l (k+1);rw [Kh] at ei;refine We _ ei ⟨rfl,EL (by rw [AjM];exact ei) ?_⟩;refine (S.grown dC).GA 1 rfl (by simp only [AjM,ei,List.size_toArray,dU]) (OC _) λ cI _ S=>?_;have qt:IntKind.i64.wrap (((64*k:Nat):Int)+64)=((64*(k+1):Nat):Int):=by rw [wrap_i64 (by omega) (by omega)];omega
  rw [qt];exact⟨⟨k+1,rfl,by omega,S.drop 1⟩,by show ((l.length:Int)+64-((64*(k+1):Nat):Int)).toNat<((l.length:Int)+64-((64*k:Nat):Int)).toNat;omega⟩
theorem getD_set_ne(v:List Wd){a b:Nat}(h:a≠b)(x:Wd):(v.set a x).getD b 0=v.getD b 0:=by
 rw [List.getD_eq_getElem?_getD,List.getElem?_set_ne h,<- List.getD_eq_getElem?_getD]
theorem Mf(l:List UInt8):(Pp l).length=32:=RD _ _
def Rl(c:UInt8):Bool:=decide (97<=c.toNat) && decide (c.toNat<=122)
def VF(c:UInt8):Bool:=(decide (48<=c.toNat) && decide (c.toNat<=57)) || c.toNat==95
def nameAt(s:ByteArray)(i:Nat):Bool:=Rl (C5 s i) || (VF (C5 s i) && i != 0)
def Cp(s:ByteArray):Bool:=(AjO s.size).all (nameAt s) && decide (1<=s.size) && decide (s.size<=24)
theorem PQ(s:ByteArray)(hs:s.size<=9223372036854775807)(w:World):Calls Tryz.prog f.VM #[.string s] w (AD λ r w'=>r=.bool (Cp s)/\w'=w):=by
 apply R.LA
 delta R.F R.G R.I R.Qi R.W R.X R.Zb;try dsimp only [R.Ps]
 refine⟨λ st w'=>∃ i:Nat,st=[.int .i64 (i:Int)]/\i<=s.size/\(∀ j,j<i->nameAt s j=true)/\w'=w,
  λ st _=>match st with | [.int _ t]=>((s.size:Int)-t).toNat | _=>0,⟨0,rfl,by omega,λ j hj=>by omega,rfl⟩,?_⟩
 rintro t w1 ⟨i,aA,hi,aC,rfl⟩;cases Xh aA;refine Aa (λ aB=>?_) (λ aM=>?_)
 ·have hb:(0:Int)<=(i:Int)/\(i:Int)<(s.size:Int):=⟨by omega,aB⟩;rw [Ajz];refine⟨λ st w'=>st=[.bool (Rl (C5 s i))]/\w'=w1,⟨hb,Aa (λ h=>⟨hb,?_⟩) (λ h=>?_)⟩,?_⟩
  ·have mI:97<=(C5 s i).toNat:=by omega
   refine⟨?_,rfl⟩;congr 2;rw [AjN];simp [Rl,mI];omega
  ·have mI:¬ 97<=(C5 s i).toNat:=by omega
   refine⟨?_,rfl⟩;simp [Rl,mI]
  ·rintro letter w2 ⟨hl,rfl⟩;have hle:letter=Rl (C5 s i):=by simpa using hl
   subst hle;refine⟨λ st w'=>st=[.bool (VF (C5 s i))]/\w'=w2,⟨hb,Aa (λ h=>⟨hb,Aa (λ h2=>?_) (λ h2=>⟨hb,?_⟩)⟩) (λ h=>⟨hb,?_⟩)⟩,?_⟩
   ·have mE:48<=(C5 s i).toNat:=by omega
    have mG:(C5 s i).toNat<=57:=by omega
    refine⟨?_,rfl⟩;simp [VF,mE,mG]
   ·have mG:¬ (C5 s i).toNat<=57:=by omega
    refine⟨?_,rfl⟩;congr 2;rw [AjN];simp [VF,mG];omega
   ·have mE:¬ 48<=(C5 s i).toNat:=by omega
    refine⟨?_,rfl⟩;congr 2;rw [AjN];simp [VF,mE];omega
   ·rintro other w3 ⟨ho,rfl⟩;have sK:other=VF (C5 s i):=by simpa using ho
    subst sK;have aq:nameAt s i=false->Cp s=false:=by
     intro h;have:(AjO s.size).all (nameAt s)=false:=by
      rw [List.all_eq_false];exact⟨i,List.mem_range.2 (by omega),by simp [h]⟩
     simp [Cp,this]
    have cA:nameAt s i=true->(∃ k:Nat,[Value.int .i64 (IntKind.i64.wrap ((i:Int)+1))]=[.int .i64 (k:Int)]/\k<=s.size/\(∀ j,j<k->nameAt s j=true)/\w3=w3) /\
      ((s.size:Int)-IntKind.i64.wrap ((i:Int)+1)).toNat<((s.size:Int)-(i:Int)).toNat:=by
     intro h;rw [Ah (by omega)];refine⟨⟨i+1,rfl,by omega,λ j hj=>?_,rfl⟩,by omega⟩;rcases Nat.lt_or_ge j i with h2 | h2
     ·exact aC j h2
     ·rw [show j=i by omega];exact h
    refine Ao (λ h1=>Ao (λ h2=>?_) (λ h2=>Aj (λ h3=>?_) (λ h3=>?_))) (λ h1=>?_)
    ·exact⟨by rw [aq (by simp_all [nameAt])],rfl⟩
    ·have h0:i=0:=by omega
     exact⟨by rw [aq (by simp_all [nameAt])],rfl⟩
    ·have:i≠0:=by omega
     exact cA (by simp_all [nameAt])
    ·exact cA (by simp_all [nameAt])
 ·have gm:i=s.size:=by omega
  have ha:(AjO s.size).all (nameAt s)=true:=by
   rw [List.all_eq_true];intro j hj;exact aC j (by have:=List.mem_range.1 hj;omega)
  refine Aa (λ h=>⟨?_,rfl⟩) (λ h=>⟨?_,rfl⟩)
  ·have h1:1<=s.size:=by omega
   congr 1;rw [AjN];simp [Cp,ha,h1];omega
  ·have h1:¬ 1<=s.size:=by omega
   simp [Cp,h1]
theorem VX(mem:UInt8->Bool){w:World}{b:Nat}(hc:∀ x:UInt8,w.cell? ⟨b,x.toNat,none⟩=some (.bool (mem x)))(s:ByteArray)(hs:s.size<=9223372036854775807) :
  Calls Tryz.prog f.Il #[.string s,.pointer (some ⟨b,0,none⟩)] w (AD λ r w'=>∃ l m,r=.string (Dz l)/\bl s=l++m/\m.all mem=true/\(l=[]\/∃ p c,l=p++[c]/\mem c=false)/\w'=w):=by
 apply R.Fu
 delta R.B R.Cb R.F R.P R.Qt R.T R.W R.X R.Y;try dsimp only [R.Ps]
 refine⟨λ st w'=>∃ l m,st=[.string (Dz l)]/\bl s=l++m/\m.all mem=true/\w'=w,λ st _=>match st with | [.string t]=>t.size | _=>0,⟨bl s,[],by rw [Fs],by simp,rfl,rfl⟩,?_⟩;rintro t w1 ⟨l,m,aA,hl,hm,rfl⟩;have ht:t=Dz l:=by simpa using aA
 subst ht;rw [BL];have hlen:l.length<=9223372036854775807:=by
  have:=congrArg List.length hl;rw [Bs,List.length_append] at this;omega
 refine Aa (λ h=>?_) (λ h=>?_)
 ·have aV:l≠[]:=by intro h2;subst h2;simp at h
  obtain⟨p,c,rfl⟩:∃ p c,l=p++[c]:=⟨l.dropLast,l.getLast aV,(List.dropLast_concat_getLast aV).symm⟩;simp only [List.length_append,List.length_cons,List.length_nil] at h hlen ⊢;have e1:IntKind.i64.wrap (((p.length+(0+1):Nat):Int)-1)=(p.length:Int):=by rw [wrap_i64 (by omega) (by omega)];omega
  rw [e1,Ajz,VT,CM,show (p++[c]).getD p.length 0=c by simp];refine⟨⟨by omega,by omega⟩,(Tryz.asciiSet_contains b c (mem c) w1 (hc c)).mono ?_⟩;rintro _ w2 ⟨rfl,rfl⟩;refine⟨_,rfl,Ao (λ h2=>?_) (λ h2=>?_)⟩
  ·exact⟨p++[c],m,rfl,hl,hm,.inr ⟨p,c,rfl,by simpa using h2⟩,rfl⟩
  ·have ib:mem c=true:=by simpa using h2
   have e2:ByteArray.extract (Dz (p++[c])) 0 p.length=Dz p:=by
    rw [extract_eq,CM];simp
   refine⟨⟨by omega,by omega,by omega⟩,?_⟩;rw [e2];exact⟨⟨p,c :: m,rfl,by rw [hl];simp,by simp [ib,hm],rfl⟩,by show (Dz p).size<(Dz (p++[c])).size;rw [BL,BL];simp⟩
 ·have:l=[]:=List.eq_nil_of_length_eq_zero (by omega);exact⟨l,m,rfl,hl,hm,.inl this,rfl⟩
theorem Yl(mem:UInt8->Bool){w:World}{b:Nat}(hc:∀ x:UInt8,w.cell? ⟨b,x.toNat,none⟩=some (.bool (mem x)))(s:ByteArray) :
  Calls Tryz.prog f.IQ #[.string s,.pointer (some ⟨b,0,none⟩)] w (AD λ r w'=>∃ l m,r=.string (Dz l)/\bl s=m++l/\m.all mem=true/\(l=[]\/∃ c p,l=c :: p/\mem c=false)/\w'=w):=by
 apply R.FV
 delta R.B R.Cb R.F R.P R.Qt R.T R.X R.Y;try dsimp only [R.Ps]
 refine⟨λ st w'=>∃ l m,st=[.string (Dz l)]/\bl s=m++l/\m.all mem=true/\w'=w,λ st _=>match st with | [.string t]=>t.size | _=>0,⟨bl s,[],by rw [Fs],by simp,rfl,rfl⟩,?_⟩;rintro t w1 ⟨l,m,aA,hl,hm,rfl⟩;have ht:t=Dz l:=by simpa using aA
 subst ht;rw [BL];refine Aa (λ h=>?_) (λ h=>?_)
 ·cases l with
  | nil=>simp at h
  | cons c p =>
   simp only [List.length_cons] at h ⊢;rw [VT,CM,show (c :: p).getD 0 0=c by rfl];refine⟨⟨by omega,by omega⟩,(Tryz.asciiSet_contains b c (mem c) w1 (hc c)).mono ?_⟩;rintro _ w2 ⟨rfl,rfl⟩;refine⟨_,rfl,Ao (λ h2=>?_) (λ h2=>?_)⟩
   ·exact⟨c :: p,m,rfl,hl,hm,.inr ⟨c,p,rfl,by simpa using h2⟩,rfl⟩
   ·have ib:mem c=true:=by simpa using h2
    have e2:ByteArray.extract (Dz (c :: p)) 1 (p.length+1)=Dz p:=by
     rw [extract_eq,CM];simp
    refine⟨⟨by omega,by omega,by omega⟩,?_⟩;rw [e2];exact⟨⟨p,m++[c],rfl,by rw [hl];simp,by simp [ib,hm],rfl⟩,by show (Dz p).size<(Dz (c :: p)).size;rw [BL,BL];simp⟩
 ·have:l=[]:=List.eq_nil_of_length_eq_zero (by omega);exact⟨l,m,rfl,hl,hm,.inl this,rfl⟩
theorem OG:∀(us:List Bool) {n:Nat} {f:List Value->Prop},us.length=n->f (us.map .bool)->Fw (AjJ n (.bool false)) f
 | [],_,_,hn,h=>by subst hn;exact h
 | u :: us,_,_,hn,h=>by subst hn;exact⟨u,OG us rfl h⟩
def Yc(l:List UInt8):List Bool:=(AjO 256).map λ j=>l.contains (AjA j)
theorem R7(l:List UInt8):Lib.setCells l=⟨(Yc l).map .bool⟩:=by
 rw [Lib.setCells_eq];apply Array.ext';simp [Yc,List.map_map,Function.comp_def]
theorem PX(s cut:ByteArray)(hs:s.size<=9223372036854775807)(h2:2<=cut.size)(hz:cut.size<4294967281)(ha:∀(j:Nat) b,cut.data.toList[j]?=some b->b.toNat<128)(w:World) :
  Calls Tryz.prog f.VV #[.string s,.string cut] w (AD λ r w'=>∃ q,r=.string q/\(q=⟨#[]⟩↔(bl s).all (bl cut).contains=true)/\Below w.heap.size w w'):=by
 apply R.LH
 delta R.A R.B R.Ct R.D R.F R.G R.H R.J R.P R.T R.X R.Zb;try dsimp only [R.Ps]
 have he:∀ x:ByteArray,Au x ⟨#[]⟩=true->x=⟨#[]⟩:=λ x h=>by rw [Aw] at h;simpa using h
 refine Ao (λ h=>?_) (λ h0=>Ao (λ h=>?_) (λ h1=>?_))
 ·have:=he s h;subst this;exact⟨_,rfl,by simp [bl],.refl _ _⟩
 ·have:=he cut h;subst this;exact absurd h2 (by decide)
 ·refine⟨λ st w'=>st=[.bool false]/\w'=w,Aj (λ h=>by omega) (λ _=>⟨rfl,rfl⟩),?_⟩;rintro t w1 ⟨ht,rfl⟩;have:t=false:=by simpa using ht
  subst this;refine AN ((Tryz.strings_makeASCIISet (λ _=>by kernel_rfl) cut w1 hz ha).mono ?_);rintro _ w5 ⟨rfl,rfl⟩;rw [R7];have dM:(Yc cut.data.toList).length=256:=by simp [Yc]
  refine OG (Yc cut.data.toList) dM ⟨true,rfl,?_⟩;have B0:Below w1.heap.size w1 (w1.alloc (.cells ⟨(Yc cut.data.toList).map .bool⟩ ty.Oy)):=(Below.refl _ w1).alloc (Nat.le_refl _) _;have S0:=(SH.start (λ _=>False) w1).grown B0;have h1:∀ v∈(Yc cut.data.toList).map Value.bool,v.oneCell'=true:=by
   intro v hv;obtain⟨u,_,rfl⟩:=List.mem_map.1 hv;rfl
  have bC:((Yc cut.data.toList).map Value.bool).length=256:=by rw [AjM];exact dM
  refine S0.Ak λ cU w6 _ _ S=>EL bC (S.GA 0 rfl bC h1 λ w7 _ S=>AZ ?_);have hc:∀ x:UInt8,w7.cell? ⟨cU,x.toNat,none⟩=some (.bool ((bl cut).contains x)):=λ x=>S.cell 0 rfl (by
   rw [<- R7];exact Lib.setCells_at _ _)
  refine (VX (bl cut).contains hc s hs).mono ?_;rintro _ w8 ⟨_,rfl,l,m,rfl,hl,hm,pO,rfl⟩;refine⟨_,rfl,(Yl (bl cut).contains hc (Dz l)).mono ?_⟩;rintro _ w9 ⟨_,rfl,q,p,rfl,hq,hp,iP,rfl⟩;refine⟨_,rfl,_,rfl,?_,S.below⟩;rw [CM] at hq;rw [hl,hq,List.all_append,List.all_append,hm,hp];rcases iP with rfl | ⟨c,r,rfl,hcf⟩
  ·simp [Dz]
  ·simp [Dz];intro cE;simp_all
end Go.Proofs.YtegnhfeclchlmaaGreatDoor
namespace Go.Proofs.YtegnhfeclchlmaaGreatDoor
open _root_.BitVec renaming ofInt -> Ai2
set_option maxRecDepth 100000
open Go.Dn Go.Proofs
open Go.RowKit (Below)
set_option linter.unusedVariables false
/-! ### what package-level variables hold -/
/-! ### Number, Signed, Text -/
def OD(n:Int):Nat:=if n<0 then (-(2*n)-1).toNat else (2*n).toNat
theorem V2{n:Int}(h1 : -9223372036854775808<=n)(h2:n<=9223372036854775807):OD n<18446744073709551616:=by unfold OD;split <;> omega
theorem AeN{n:Int}(h1 : -9223372036854775808<=n)(h2:n<=9223372036854775807) :
  IntKind.u64.wrap (((Ai2 64 (IntKind.u64.wrap (IntKind.i64.wrap (n*2 ^ (min 1 64)))) ^^^ Ai2 64 (IntKind.u64.wrap (Int.fdiv n (2 ^ (min 63 64))))).toNat:Int))=(OD n:Int):=by
 have e1:IntKind.u64.wrap (IntKind.i64.wrap (n*2 ^ (min 1 64)))=(2*n) % 18446744073709551616:=by
  rw [wrap_u64,FZ];have:n*2 ^ (min 1 64)=2*n:=by rw [show (2:Int) ^ (min 1 64)=2 from rfl];omega
  rw [this];split <;> omega
 rw [e1];by_cases hn:n<0
 ·have e2:Int.fdiv n (2 ^ (min 63 64)) = -1:=by
   rw [Int.fdiv_eq_ediv_of_nonneg _ (by decide),show (2:Int) ^ (min 63 64)=9223372036854775808 from rfl];omega
  rw [e2,show IntKind.u64.wrap (-1)=18446744073709551615 by decide];obtain⟨m,hm⟩:∃ m:Nat,(2*n) % 18446744073709551616=(m:Int):=⟨((2*n) % 18446744073709551616).toNat,by omega⟩;have sG:m<18446744073709551616:=by omega
  rw [hm,show Ai2 64 18446744073709551615=BitVec.allOnes 64 by decide,BitVec.xor_allOnes,BitVec.toNat_not,BitVec.ofInt_natCast,BitVec.toNat_ofNat,Nat.mod_eq_of_lt (by omega),A8 (by omega) (by omega)];unfold OD;rw [if_pos hn];omega
 ·have e2:Int.fdiv n (2 ^ (min 63 64))=0:=by
   rw [Int.fdiv_eq_ediv_of_nonneg _ (by decide),show (2:Int) ^ (min 63 64)=9223372036854775808 from rfl];omega
  obtain⟨m,rfl⟩:∃ m:Nat,n=(m:Int):=⟨n.toNat,by omega⟩;rw [e2,show IntKind.u64.wrap 0=0 by decide,show Ai2 64 0=0#64 by decide,BitVec.xor_zero];have:(2*(m:Int)) % 18446744073709551616=((2*m:Nat):Int):=by omega
  rw [this,BitVec.ofInt_natCast,BitVec.toNat_ofNat,Nat.mod_eq_of_lt (by omega),A8 (by omega) (by omega)];unfold OD;rw [if_neg hn];omega
theorem Sm{w:World}{a:Option Addr}{c:Nat}(l:List UInt8)(hl:Rd w a (l.map Af))(n:Int)(h1 : -9223372036854775808<=n)(h2:n<=9223372036854775807)(hs:l.length+10<=140737488355328) :
  Calls Tryz.prog f.Yv #[.slice a l.length c,.int .i64 n] w (AD λ v w'=>∃ a c,v=.slice a (l++Al (OD n)).length c/\EU w w' (l++Al (OD n)) a c):=by
 apply R.Nz
 delta R.Cs R.S R.U R.W R.Wu;try dsimp only [R.Ps]
 rw [AeN h1 h2];refine (BC l hl (OD n) (V2 h1 h2) hs).mono ?_;rintro _ w1 ⟨_,rfl,a1,c1,rfl,h⟩;exact⟨_,_,_,rfl,a1,c1,rfl,h⟩
/-! ### Lay -/
/-! ### Show -/
end Go.Proofs.YtegnhfeclchlmaaGreatDoor
namespace Go.Proofs.YtegnhfeclchlmaaGreatDoor
set_option maxRecDepth 100000
open Go.Dn Go.Proofs
open Go.RowKit (Below)
set_option linter.unusedVariables false
/-! ### what package-level variables hold -/
/-! ### Number, Signed, Text -/
/-! ### Lay -/
structure F5(v:AW):Prop where
 lo : -9223372036854775808<=v.2.1
 hi:v.2.1<=9223372036854775807
theorem DL{v:AW}(h:AG v=true):v.1=0\/v.1=1\/(v.1=2/\(v.2.1=0\/v.2.1=1))\/(v.1=3/\v.2.2.size<=1024):=by
 unfold AG at h;split at h
 ·left;assumption
 ·split at h
  ·right;left;assumption
  ·split at h
   ·right;right;left;simp at h;exact⟨by assumption,h.1⟩
   ·split at h
    ·right;right;right;simp at h;exact⟨by assumption,h.2⟩
    ·cases h
/-! ### Show -/
end Go.Proofs.YtegnhfeclchlmaaGreatDoor
namespace Go.Proofs.YtegnhfeclchlmaaGreatDoor
set_option maxRecDepth 100000
open Go.Dn Go.Proofs
open Go.RowKit (Below)
set_option linter.unusedVariables false
section
variable {w:World}{a:Option Addr}{c:Nat}{xs:List Nat}
end
section
variable {w:World}{a:Option Addr}{c:Nat}{xs:List Nat}
end
def stB(f:Nat->Bool):Nat->Nat->Nat
 | 0,_=>0
 | t+1,j=>if j=t / 8/\f t=true then stB f t j ||| 2 ^ (t % 8) else stB f t j
def AiC(xs:List Nat)(w t:Nat):Bool:=(xs.getD (t / w) 0).testBit (t % w)
def Agt(n w:Nat):Nat:=(n*w+7) / 8
def Aig(xs:List Nat)(w:Nat):List UInt8:=(List.range (Agt xs.length w)).map λ j=>UInt8.ofNat (stB (AiC xs w) (xs.length*w) j)
/-! ### words of the program -/
/-! ### the iterator -/
section
variable {w:World}{a:Option Addr}{c:Nat}{xs:List Nat}
end
section
variable {w:World}{a:Option Addr}{c:Nat}{xs:List Nat}
end
end Go.Proofs.YtegnhfeclchlmaaGreatDoor
namespace Go.Proofs
set_option linter.unusedVariables false
set_option maxRecDepth 100000
open Go.RowKit Go.Maps Go.Sort Go.Shelf
end Go.Proofs
namespace Go.Dn
set_option linter.unusedVariables false
set_option maxRecDepth 100000
open Go.RowKit (Below)
open Go.Maps (has Tidy Keyed)
theorem Aq.of_grownBy{w w':World}{b:Nat}(h:w.grownBy w' (some b)):Aq (·=b) w w' :=
 ⟨h.os,h.tape,h.output,h.size,λ k hk hn=>h.block k hk (λ e=>hn (Option.some.inj e))⟩
section
variable {P:Program}{k e t:TypeId}{q:IntKind}{w:World}{b n:Nat}{g:List UInt8->Option Int}
end
end Go.Dn
namespace Go.Proofs.YtegnhfeclchlmaaGreatDoor
set_option maxRecDepth 100000
open Go.Dn Go.Proofs
open Go.RowKit (Below)
set_option linter.unusedVariables false
structure NI(ls t:List (List UInt8)):Prop where
 up:t.Pairwise (·<·)
 mem:∀ x,x∈t↔x∈ls
theorem Abi:Tryz.prog.underlying ty.string=some .string:=by kernel_rfl
def GH(v:AW):List Value:=[.int .i64 v.1,.int .i64 v.2.1,.string v.2.2]
end Go.Proofs.YtegnhfeclchlmaaGreatDoor
namespace Go.Proofs.YtegnhfeclchlmaaGreatDoor
open _root_.UInt8 renaming ofNat -> AjA
set_option maxRecDepth 100000
open Go.Dn Go.Proofs
open Go.RowKit (Below)
set_option linter.unusedVariables false
/-! ### what package-level variables hold -/
/-! ### Number, Signed, Text -/
/-! ### Lay -/
def E3(v:AW):List UInt8 :=
 if v.1=1 then 1 :: Al (OD v.2.1) else if v.1=2 then [2,AjA v.2.1.toNat] else if v.1=3 then 3 :: Es v.2.2 else [0]
def Ah6(b:List UInt8)(v:AW)(r:Value)(w w':World):Prop :=
 (AG v=false/\r=.tuple #[.slice none 0 0,.int .i64 2]/\Below w.heap.size w w')\/(AG v=true/\∃ a c,r=.tuple #[.slice a (b++E3 v).length c,.int .i64 0]/\EU w w' (b++E3 v) a c)
theorem Nw{w:World}{a:Option Addr}{c:Nat}(l:List UInt8)(hl:Rd w a (l.map Af))(v:AW)(hv:F5 v)(hs:l.length+2000<=140737488355328) :
  Calls Tryz.prog f.AcJ #[.slice a l.length c,Agc v] w (AD λ r w'=>Ah6 l v r w w'):=by
 apply R.PY
 delta R.A R.Ab R.B R.Dd R.Cb R.Cs R.E R.F R.H R.I R.J R.Ks R.Li R.Lt R.N R.O R.S R.T R.Wb;try dsimp only [R.Ps]
 refine (SH.start (λ _=>False) w).Ak λ b5 w1 lL B1 S1=>⟨_,S1.cell 0 rfl rfl,_,S1.cell 0 rfl rfl,_,S1.cell 0 rfl rfl,(BB w1 v).mono ?_⟩;rintro _ w2 ⟨_,rfl,rfl,B2⟩;have S2:=S1.grown B2;refine⟨_,rfl,Ap (Ao (λ hr=>?_) (λ hr=>.inl ⟨hr,rfl,S2.below⟩))⟩;have hk:=DL hr;refine⟨_,S2.cell 0 rfl rfl,S2.Ak λ cU w3 m' B3 S3=>S3.Ak λ gW w4 rU B4 S4=>?_⟩;obtain⟨kk,gn,hkb⟩:∃ kk:Nat,v.1=kk/\kk<4:=⟨v.1.toNat,by omega,by omega⟩;have rz:Value.int .u8 (IntKind.u8.wrap v.1)=Af (AjA kk):=by rw [gn,DS (by omega) (by omega)];exact He (by omega)
 refine (Ca [(a,c,l),(some ⟨cU,0,none⟩,1,[AjA kk])] (by have:=Rd.Av (S4.get 0 rfl);simpa [C1] using this) (by
  intro p hp;simp only [List.mem_cons,List.not_mem_nil,or_false] at hp;rcases hp with rfl | rfl
  ·exact hl.grown S4.below
  ·have:=Rd.Av (S4.get 1 rfl);rw [rz] at this;simpa using this) (by simp) (by rw [AaP];simp;omega)).mono ?_
 rintro _ w5 ⟨_,rfl,a5,c5,rfl,h5⟩;rw [AaP] at h5 ⊢;have S5:=S4.grown h5.Ag;have iI:EU w w5 (l++[AjA kk]) a5 c5:=h5.before S4.below;refine⟨_,_,_,rfl,_,S5.cell 2 rfl rfl,Aj (λ h=>⟨_,S5.cell 2 rfl rfl,?_⟩) (λ h1=>Aj (λ h=>⟨_,S5.cell 2 rfl rfl,?_⟩) (λ h2=>Aj (λ h=>⟨_,S5.cell 2 rfl rfl,?_⟩) (λ h3=>?_)))⟩
 ·refine (Sm _ iI.rd v.2.1 hv.lo hv.hi (by simp;omega)).mono ?_;rintro _ w6 ⟨_,rfl,a6,c6,rfl,h6⟩;have e:(l++[AjA kk])++Al (OD v.2.1)=l++E3 v:=by
   have:kk=1:=by omega
   subst this;simp [E3,h]
  rw [e] at h6 ⊢;exact⟨_,_,_,rfl,.inr ⟨hr,a6,c6,rfl,h6.before iI.Ag⟩⟩
 ·have mZ:v.2.1=0\/v.2.1=1:=by omega
  refine S5.Ak λ eY w7 me B7 S7=>?_;refine I5 (iI.grown B7).row (by simp;omega) (x:=AjA v.2.1.toNat) (by rw [DS (by omega) (by omega)];rcases mZ with h | h <;> rw [h] <;> rfl) (S7.get 0 rfl) λ a8 c8 w8 R8 K8 N8=>⟨_,_,_,rfl,.inr ⟨hr,a8,c8,?_⟩⟩;have e:(l++[AjA kk])++[AjA v.2.1.toNat]=l++E3 v:=by
   have:kk=2:=by omega
   subst this;simp [E3,h]
  rw [e] at R8 ⊢;have h7:=iI.grown B7;refine⟨rfl,R8,λ k hk=>?_,h7.Ag.trans (K8.below h7.Ag.size λ k hk he=>by have:=h7.new k he;omega)⟩;rcases N8 k hk with h | h
  ·exact h7.new k h
  ·exact Nat.le_trans h7.Ag.size h
 ·refine (NA _ iI.rd v.2.2 (by omega) (by simp;omega)).mono ?_;rintro _ w6 ⟨_,rfl,a6,c6,rfl,h6⟩;have e:(l++[AjA kk])++Es v.2.2=l++E3 v:=by
   have:kk=3:=by omega
   subst this;simp [E3,h]
  rw [e] at h6 ⊢;exact⟨_,_,_,_,rfl,.inr ⟨hr,a6,c6,rfl,h6.before iI.Ag⟩⟩
 ·have e:l++[AjA kk]=l++E3 v:=by
   have:kk=0:=by omega
   subst this;simp [E3,h1,h2,h3]
  have h6:=iI;rw [e] at h6;refine .inr ⟨hr,a5,c5,?_,h6⟩;rw [<- e]
/-! ### Show -/
end Go.Proofs.YtegnhfeclchlmaaGreatDoor
namespace Go.Proofs.YtegnhfeclchlmaaGreatDoor
open Go.Dn Go.Proofs
set_option maxRecDepth 100000
set_option linter.unusedVariables false
namespace R
def Be(b_1:Bool)(k:Value->World->Prop)(w0:World):Prop :=
 Calls Tryz.prog f.AY #[.bool b_1] w0 (λ e_3 w1=>∃ t4_2:ByteArray,e_3=.returned (.string t4_2)/\k (.string t4_2) w1)
theorem Hb(b_1:Bool)(k:Value->World->Prop)(w0:World)(h:Be b_1 k w0):Calls Tryz.prog f.Be #[.bool b_1] w0 (λ e w=>∃ v,e=.returned v/\k v w) :=
 KU mixed (L:=[]) (C:=[]) (Eq.mpr (by kernel_rfl) h)
def AY(b_1:Bool)(k:Value->World->Prop)(w0:World):Prop :=
 Tp b_1 (k (.string ⟨#[116,114,117,101]⟩) w0) (k (.string ⟨#[102,97,108,115,101]⟩) w0)
theorem FM(b_1:Bool)(k:Value->World->Prop)(w0:World)(h:AY b_1 k w0):Calls Tryz.prog f.AY #[.bool b_1] w0 (λ e w=>∃ v,e=.returned v/\k v w) :=
 KU mixed (L:=[]) (C:=[]) (Eq.mpr (by kernel_rfl) h)
end R
end Go.Proofs.YtegnhfeclchlmaaGreatDoor
namespace Go.Proofs.YtegnhfeclchlmaaGreatDoor
open _root_.ByteArray renaming mk -> AjP
set_option maxRecDepth 100000
open Go.Dn Go.Proofs
open Go.RowKit (Below)
set_option linter.unusedVariables false
/-! ### what package-level variables hold -/
def EF:List Value:=[(-1,0,0),(0,0,0),(0,0,0),(2,1,1),(2,1,1),(2,1,1),(2,1,1),(2,1,1),(1,1,1),(2,0,2),(2,0,2),(2,0,2),(2,2,2),(2,2,2),(1,2,2),(1,0,2),(1,3,1)].flatMap λ (x:Int × Int × Int)=>[Value.int .i64 x.1,.int .i64 x.2.1,.int .i64 x.2.2]
def Rg:List Value:=([⟨#[115,101,108,101,99,116]⟩,⟨#[119,104,101,114,101]⟩,⟨#[103,114,111,117,112]⟩,⟨#[98,121]⟩,⟨#[111,114,100,101,114]⟩,⟨#[108,105,109,105,116]⟩,⟨#[97,115]⟩,⟨#[97,110,100]⟩,⟨#[111,114]⟩,⟨#[110,111,116]⟩,
 ⟨#[105,115]⟩,⟨#[110,117,108,108]⟩,⟨#[116,114,117,101]⟩,⟨#[102,97,108,115,101]⟩,⟨#[108,101,110]⟩,⟨#[100,101,115,99]⟩,⟨#[99,111,117,110,116]⟩,⟨#[115,117,109]⟩,⟨#[109,105,110]⟩,⟨#[109,97,120]⟩]:List ByteArray).map Value.string
def Jh:List Value:=([⟨#[]⟩,⟨#[]⟩,⟨#[99,111,117,110,116]⟩,⟨#[115,117,109]⟩,⟨#[109,105,110]⟩,⟨#[109,97,120]⟩]:List ByteArray).map Value.string
structure Env(w:World):Prop where
 max:∃ m,w.cell? ⟨5,0,none⟩=some (.int .i64 m)
 pow : Lib.TabIs Tryz.prog w "internal/strconv.uint64pow10" .u64 Lib.pow10Tab
 iB:Rd w (some ⟨2,0,none⟩) EF
 key:Rd w (some ⟨6,0,none⟩) Rg
 gat:Rd w (some ⟨1,0,none⟩) Jh
theorem AcK{P:Program}{w w':World}{n:String}{cs:Array Value}(h:w.var? P n=some cs)(hb:Below w.heap.size w w'):w'.var? P n=some cs:=by
 unfold World.var? at *;cases hg:P.globalNamed n with
 | none=>simp [hg] at h
 | some g =>
  simp only [hg,Option.bind_some] at h ⊢;split at h
  ·rename_i c t fz hh;rw [hb.block g (Array.getElem?_eq_some_iff.1 hh).1,hh];exact h
  ·cases h
theorem Env.grown{w w':World}(h:Env w)(hb:Below w.heap.size w w'):Env w':=by
 refine⟨?_,AcK h.pow hb,h.iB.grown hb,h.key.grown hb,h.gat.grown hb⟩;obtain⟨m,hm⟩:=h.max;exact⟨m,(Aq.AQ (F:=λ _=>False) hb).cell hm (by simp)⟩
theorem IP(b:Bool)(w:World):Calls Tryz.prog f.Be #[.bool b] w λ e w'=>e=.returned (.string ⟨(Lib.formatBool b).toArray⟩)/\w'=w:=by
 have h:Calls Tryz.prog f.Be #[.bool b] w (AD λ v w'=>v=.string ⟨(Lib.formatBool b).toArray⟩/\w'=w):=by
  apply R.Hb;unfold R.Be;have h2:Calls Tryz.prog f.AY #[.bool b] w (AD λ v w'=>v=.string ⟨(Lib.formatBool b).toArray⟩/\w'=w):=by
   apply R.FM;unfold R.AY;cases b
   ·exact⟨rfl,rfl⟩
   ·exact⟨rfl,rfl⟩
  refine h2.mono ?_;rintro _ w' ⟨_,rfl,rfl,rfl⟩;exact⟨_,rfl,rfl,rfl⟩
 refine h.mono ?_;rintro _ w' ⟨_,rfl,rfl,rfl⟩;exact⟨rfl,rfl⟩
theorem QG(w:World)(k:Nat)(os:Array Obj):Below w.heap.size w (Sort.grow (w.drewN k) os):=by
 refine⟨rfl,rfl,rfl,?_,λ j hj=>?_⟩
 ·simp [Sort.grow,World.drewN]
 ·simp [Sort.grow,World.drewN,Array.getElem?_append,hj]
/-! ### Number, Signed, Text -/
/-! ### Lay -/
/-! ### Show -/
def G9(l:List UInt8):List UInt8:=l.flatMap λ c=>if c=39 then [39,39] else [c]
theorem RP(l:List UInt8):(G9 l).length<=2*l.length:=by
 induction l with
 | nil=>simp [G9]
 | cons c l ih =>
  simp only [G9,List.flatMap_cons,List.length_append,List.length_cons] at *;split <;> simp only [List.length_cons,List.length_nil] <;> omega
theorem Xg(l:List UInt8):Lib.index (39 :: l) [39]=0:=by simp [Lib.index,List.isPrefixOf]
theorem Vp(c:UInt8)(l:List UInt8)(h:c≠39):Lib.index (c :: l) [39]=if Lib.index l [39] == -1 then -1 else Lib.index l [39]+1:=by
 have:¬ ((39:UInt8)=c):=λ e=>h e.symm;simp [Lib.index,List.isPrefixOf,this]
theorem Td(c:UInt8)(l:List UInt8)(h:c≠39):∀ k,Lib.replaceK [39] [39,39] k (c :: l)=c :: Lib.replaceK [39] [39,39] k l
 | 0=>rfl
 | k+1=>by
  have aM:=Lib.index_ge l [39];rw [Lib.replaceK,Lib.replaceK,Vp c l h];by_cases hm:Lib.index l [39] = -1
  ·simp [hm]
  ·have h1:¬ (Lib.index l [39] == -1)=true:=by simpa using hm
   rw [if_neg h1,if_neg h1];have h2:¬ (Lib.index l [39]+1 == -1)=true:=by simp;omega
   rw [if_neg h2];obtain⟨i,hi⟩:∃ i:Nat,Lib.index l [39]=i:=⟨(Lib.index l [39]).toNat,by omega⟩;rw [hi];have e:((i:Int)+1).toNat=i+1:=by omega
   rw [e,Int.toNat_natCast];have e2:i+1+[(39:UInt8)].length=(i+[(39:UInt8)].length)+1:=by simp
   rw [e2,List.drop_succ_cons,List.take_succ_cons];rfl
theorem Gq:∀(l:List UInt8) (k:Nat),l.count 39<=k->Lib.replaceK [39] [39,39] k l=G9 l
 | [],k,_=>by
  cases k with
  | zero=>rfl
  | succ k=>simp [Lib.replaceK,Lib.index,G9]
 | c :: l,k,hk=>by
  by_cases hc:c=39
  ·subst hc;simp only [List.count_cons_self] at hk;obtain⟨k,rfl⟩:∃ j,k=j+1:=⟨k-1,by omega⟩;rw [Lib.replaceK_hit _ _ _ _ 0 (Xg l)];have:=Gq l k (by omega);simp [this,G9]
  ·rw [List.count_cons_of_ne (λ e=>hc e)] at hk;rw [Td c l hc,Gq l k hk];simp [G9,hc]
theorem Oq(l:List UInt8):Lib.replaceAll l [39] [39,39]=G9 l:=by
 unfold Lib.replaceAll Lib.replace;rw [if_neg (by decide)];refine Gq l _ ?_;unfold Lib.replaceNum;rw [if_pos (.inl (by decide)),Lib.count_one];exact Nat.le_refl _
def JL(v:AW):List UInt8 :=
 if v.1=0 then [110,117,108,108] else if v.1=1 then Lib.itoa v.2.1 else if v.1=2 then Lib.formatBool (v.2.1==1) else (39 :: G9 (bl v.2.2))++[39]
def Un(v:AW):Value:=if AG v then .tuple #[.string (Dz (JL v)),.int .i64 0] else .tuple #[.string ⟨#[]⟩,.int .i64 2]
theorem Tk{w:World}(he:Env w)(v:AW)(hv:F5 v):Calls Tryz.prog f.Aak #[Agc v] w (AD λ r w'=>r=Un v/\Below w.heap.size w w'):=by
 apply R.OA
 delta R.A R.Ab R.Cb R.Ct R.E R.F R.G R.H R.I R.Li R.Lt R.N R.T;try dsimp only [R.Ps]
 refine (SH.start (λ _=>False) w).Ak λ b5 w1 lL B1 S1=>⟨_,S1.cell 0 rfl rfl,_,S1.cell 0 rfl rfl,_,S1.cell 0 rfl rfl,(BB w1 v).mono ?_⟩;rintro _ w2 ⟨_,rfl,rfl,B2⟩;have S2:=S1.grown B2;have jG:=he.grown S2.below;refine⟨_,rfl,Ap (Ao (λ hr=>?_) (λ hr=>⟨by simp [Un,hr],S2.below⟩))⟩;have hk:=DL hr;have out:∀ l,JL v=l->Value.tuple #[.string (Dz l),.int .i64 0]=Un v:=λ l hl=>by simp [Un,hr,hl]
 refine⟨_,S2.cell 0 rfl rfl,Aj (λ h=>⟨?_,S2.below⟩) (λ h0=>Aj (λ h=>⟨_,S2.cell 0 rfl rfl,?_⟩) (λ h1=>Aj (λ h=>⟨_,S2.cell 0 rfl rfl,?_⟩) (λ h2=>⟨_,S2.cell 0 rfl rfl,?_⟩)))⟩
 ·exact out [110,117,108,108] (by simp [JL,h])
 ·refine (Tryz.strconv_FormatInt_10 v.2.1 hv.lo hv.hi w2 jG.pow).mono ?_;rintro _ w3 ⟨rfl,k,os,rfl⟩;exact⟨_,rfl,out (Lib.itoa v.2.1) (by simp [JL,h]),(S2.grown (QG w2 k os)).below⟩
 ·refine (IP _ w2).mono ?_;rintro _ w2 ⟨rfl,rfl⟩;exact⟨_,rfl,out (Lib.formatBool (v.2.1==1)) (by simp [JL,h]),S2.below⟩
 ·obtain⟨m,hm⟩:=jG.max;have hs:v.2.2.size<=1024:=by omega
  have dM:=Bs v.2.2;have hq:=RP (bl v.2.2);refine (Tryz.strings_ReplaceAll v.2.2 ⟨#[39]⟩ ⟨#[39,39]⟩ m w2 (by omega) hm (by decide) ?_).mono ?_
  ·have h1:=Lib.count_le v.2.2.data.toList [39];have h3:v.2.2.data.toList.length=v.2.2.size:=dM;have h2:Lib.countB v.2.2 ⟨#[39]⟩<=1025:=Nat.le_trans h1 (by omega);have h4:(AjP #[39,39]).size=2:=rfl;rw [h4];omega
  rintro _ w3 ⟨rfl,B3⟩;have e:(AjP (Lib.replaceAll v.2.2.data.toList (AjP #[39]).data.toList (AjP #[39,39]).data.toList).toArray)=Dz (G9 (bl v.2.2)):=by
   have:=Oq (bl v.2.2);show Dz _=_;congr 1
  rw [e];refine⟨_,rfl,?_,?_,?_,(S2.grown B3).below⟩
  ·rw [BL];show 1+_<=_;omega
  ·rw [ByteArray.size_append,BL];show 1+_+1<=_;omega
  ·rw [show (AjP #[39])=Dz [39] from rfl,Gy,Gy];exact out _ (by simp [JL,h0,h1,h2])
end Go.Proofs.YtegnhfeclchlmaaGreatDoor
namespace Go.Dn
set_option linter.unusedVariables false
set_option maxRecDepth 100000
open Go.RowKit (Below)
open Go.Maps (has Tidy Keyed)
def UA(P:Program)(k e:TypeId)(w:World)(b n:Nat)(g:List UInt8->Bool):Prop :=
 ∃ D:DataW Unit,w.ownsMap P k (plainElem P e) b n D/\Tidy D/\∀ x,D.atKey (.string x) (.lit (.bool false))=.lit (.bool (g x))
theorem Lq{H:Type}{P:Program}{e:TypeId}(he:P.underlying e=some .bool){v:Value}{z:DataW H × List MemPlace}(h:plainElem P e v=some z):∃ a,v=.bool a/\z=(.lit (.bool a),[]):=by
 unfold plainElem at h;rw [he] at h;cases v <;> simp at h;exact⟨_,rfl,h.symm⟩
section
variable {P:Program}{k e t:TypeId}{w:World}{b n:Nat}{g:List UInt8->Bool}
theorem UA.kept(h:UA P k e w b n g){F:Nat->Prop}{w':World}(K:Aq F w w')(hn:¬ F b):UA P k e w' b n g:=by
 obtain⟨D,⟨es,clock,hb,r⟩,h2⟩:=h;exact⟨D,⟨es,clock,K.at hb hn,r⟩,h2⟩
theorem UA.put(h:UA P k e w b n g)(hk:P.underlying k=some .string)(he:P.underlying e=some .bool)(ht:P.underlying t=some (.map k e))(hn:n<maxLen){s:ByteArray}(hs:s.size<=maxLen){v:Bool}
  {f:World->Prop} (hf:∀ w',Aq (·=b) w w'->UA P k e w' b (n+1) (λ y=>if y=bl s then v else g y)->f w'):OPU P (Instr.mapUpdate t (.map (some b)) (.string s) (.bool v)) f w:=by
 obtain⟨D,hD,hT,hg⟩:=h;have iW:keyOf P k (.string s)=some (.string (bl s)):=by simp [keyOf,hk,mapKey,hs,bl]
 obtain⟨w',aF,hown,dP⟩:=hD.update (Maps.string_keyed hk) ht hn iW (plainElem_bool he v);unfold OPU;rw [aF];have bX:WideAt.IsKeyLit (.string (bl s)):=by simp [WideAt.IsKeyLit]
 refine hf w' (.of_grownBy dP) ⟨_,hown,hT.put bX _,λ x=>?_⟩;by_cases hx:x=bl s
 ·subst hx;simp only [if_true];exact Maps.atKey_put_same hT.isMap bX _ _
 ·have aV:Lit.string x≠.string (bl s):=λ e=>hx (by injection e);simp only [hx,if_false];exact (Maps.atKey_put_other aV _ _).trans (hg x)
theorem UA.get(h:UA P k e w b n g)(hk:P.underlying k=some .string)(he:P.underlying e=some .bool)(ht:P.underlying t=some (.map k e))(hz:(zeroValue e).run P w=.ok (.bool false) w){s:ByteArray}(hs:s.size<=maxLen)
  {f:Value->World->Prop} (hf:f (.bool (g (bl s))) w):Dc P (Instr.lookup t (.map (some b)) (.string s) false) f w:=by
 obtain⟨D,hD,hT,hg⟩:=h;have iW:keyOf P k (.string s)=some (.string (bl s)):=by simp [keyOf,hk,mapKey,hs,bl]
 obtain⟨v,ps,aF,hv⟩:=hD.lookup (Maps.string_keyed hk) ht hz (plainElem_bool he false) iW;obtain⟨c,rfl,hc⟩:=Lq he hv;simp only [Prod.mk.injEq] at hc;have gb:=hc.1;rw [hg (bl s)] at gb;have:c=g (bl s):=by injection gb with h1;injection h1 with h2;exact h2.symm
 unfold Dc;rw [aF,this];exact hf
end
end Go.Dn
namespace Go.Dn
open _root_.List renaming getElem?_eq_some_iff -> Aje, getElem?_set_self -> Ajg, getElem_set_ne -> AjR, mem_cons -> Ajc, mem_of_getElem? -> Ajd, pairwise_iff_getElem -> AjQ, set_set -> Ajy
open _root_.Nat renaming le_refl -> Ajx, le_trans -> AjD
set_option linter.unusedVariables false
set_option maxRecDepth 100000
open Go.RowKit (Below)
structure It where
 Bu:Option Nat
 ok:World->Prop
 st:∀ w w',(∀ k,Bu=some k->w'.heap[k]?=w.heap[k]?)->ok w->ok w'
 lt:∀ w,ok w->∀ k,Bu=some k->k<w.heap.size
def It.obj(b:Nat)(o:Obj):It where
 Bu:=some b
 ok:=λ w=>w.heap[b]?=some o
 st:=λ w w' h h0=>(h b rfl).trans h0
 lt:=λ w h k hk=>by cases hk;exact (Array.getElem?_eq_some_iff.1 h).1
def It.cells(b:Nat)(cs:Array Value)(t:TypeId):It:=It.obj b (.cells cs t (0,0))
def It.row(e:TypeId)(sz:Nat)(a:Option Addr)(n c:Nat)(xs:List Value):It where
 Bu:=BX a
 ok:=λ w=>Row w e sz a n c xs
 st:=λ w w' h h0=>by
  refine⟨h0.1,?_⟩;rcases h0.2 with h1 | ⟨g,cur,rfl,hg,r⟩
  ·exact .inl h1
  ·exact .inr ⟨g,cur,rfl,(h g rfl).trans hg,r⟩
 lt:=λ w h k hk=>h.lt hk
def It.rd(a:Option Addr)(xs:List Value):It where
 Bu:=match xs with | []=>none | _=>BX a
 ok:=λ w=>Rd w a xs
 st:=λ w w' h h0=>by
  intro j v hv;obtain⟨p,hp,hc⟩:=h0 j v hv;subst hp;refine⟨p,rfl,?_⟩;cases xs with
  | nil=>simp at hv
  | cons x xs =>
   rw [World.cell?_of_block (w:=w) (by rw [Bf];exact h p.block rfl)];exact hc
 lt:=λ w h k hk=>by
  cases xs with
  | nil=>cases hk
  | cons x xs =>
   obtain⟨p,rfl,hc⟩:=h 0 x rfl;have:=World.block_lt_of_cell? _ _ hc;rw [Bf] at this;cases hk;exact this
structure ST(w0 w:World)(H:List It):Prop where
 Ag:Below w0.heap.size w0 w
 ok:∀ x∈H,x.ok w
 nd:H.Pairwise (λ x y=>∀ k,x.Bu=some k->y.Bu≠some k)
 own:∀ x∈H,∀ k,x.Bu=some k->w0.heap.size<=k
section
variable {w0 w:World}{H:List It}
theorem ST.start(w:World):ST w w []:=⟨.refl _ _,by simp,by simp,by simp⟩
theorem ST.get(S:ST w0 w H)(n:Nat){x:It}(hn:H[n]?=some x):x.ok w:=S.ok x (Ajd hn)
theorem ST.grown(S:ST w0 w H){w':World}(h:Below w.heap.size w w'):ST w0 w' H where
 Ag:=S.Ag.trans (h.mono S.Ag.size)
 ok:=λ x hx=>x.st w w' (λ k hk=>h.block k (x.lt w (S.ok x hx) k hk)) (S.ok x hx)
 nd:=S.nd
 own:=S.own
theorem ST.add(S:ST w0 w H){w':World}(h:Below w.heap.size w w')(y:It)(hy:y.ok w')(hb:∀ k,y.Bu=some k->w.heap.size<=k):ST w0 w' (y :: H) where
 Ag:=(S.grown h).Ag
 ok:=λ x hx=>by
  rcases Ajc.1 hx with rfl | hx
  ·exact hy
  ·exact (S.grown h).ok x hx
 nd:=List.pairwise_cons.2 ⟨λ x hx k hk cG=>by have:=x.lt w (S.ok x hx) k cG;have:=hb k hk;omega,S.nd⟩
 own:=λ x hx k hk=>by
  rcases Ajc.1 hx with rfl | hx
  ·exact AjD S.Ag.size (hb k hk)
  ·exact S.own x hx k hk
theorem VH{l:List It}(h:l.Pairwise (λ x y=>∀ k,x.Bu=some k->y.Bu≠some k)){i j:Nat}{x y:It}(hi:l[i]?=some x)(hj:l[j]?=some y)(aV:i≠j){k:Nat}(hk:x.Bu=some k):y.Bu≠some k:=by
 obtain⟨h1,rfl⟩:=Aje.1 hi;obtain⟨h2,rfl⟩:=Aje.1 hj;rcases Nat.lt_or_gt_of_ne aV with aB | aB
 ·exact (AjQ.1 h) i j h1 h2 aB k hk
 ·intro he;exact (AjQ.1 h) j i h2 h1 aB k he hk
theorem ST.Sw(S:ST w0 w H)(n:Nat){x:It}(hn:H[n]?=some x){w':World}(K:Aq (λ k=>x.Bu=some k) w w')(y:It)(hy:y.ok w')(hb:∀ k,y.Bu=some k->x.Bu=some k\/w.heap.size<=k):ST w0 w' (H.set n y) where
 Ag:=S.Ag.trans (K.below S.Ag.size λ k hk h=>by have:=S.own x (Ajd hn) k h;omega)
 ok:=by
  intro z hz;obtain⟨i,hi⟩:=List.mem_iff_getElem?.1 hz;by_cases cj:n=i
  ·subst cj;rw [Ajg (Aje.1 hn).1] at hi;cases hi;exact hy
  ·rw [List.getElem?_set_ne cj] at hi;have pe:=S.ok z (Ajd hi);refine z.st w w' (λ k hk=>K.block k (z.lt w pe k hk) ?_) pe;exact λ h=>VH S.nd hi hn (Ne.symm cj) hk h
 nd:=by
  refine AjQ.2 λ i j hi hj cV k hk cG=>?_;rw [List.length_set] at hi hj;have nS:=(Aje.1 hn).1;have old:∀ {i j:Nat} (hi:i<H.length) (hj:j<H.length),i≠j->H[i].Bu=some k->H[j].Bu≠some k:=λ hi hj aV h=>VH S.nd (List.getElem?_eq_getElem hi) (List.getElem?_eq_getElem hj) aV h;have hx:H[n]=x:=(Aje.1 hn).2;have far:∀ {j:Nat} (hj:j<H.length),j≠n->H[j].Bu=some k->y.Bu≠some k:=λ {j} hj aV h h'=>by
   rcases hb k h' with h2 | h2
   ·rw [<- hx] at h2;exact old nS hj (Ne.symm aV) h2 h
   ·have:=H[j].lt w (S.ok _ (List.getElem_mem hj)) k h;omega
  by_cases h1:n=i
  ·subst h1;rw [List.getElem_set_self] at hk;rw [AjR (by omega)] at cG;exact far hj (by omega) cG hk
  ·rw [AjR h1] at hk;by_cases h2:n=j
   ·subst h2;rw [List.getElem_set_self] at cG;exact far hi (by omega) hk cG
   ·rw [AjR h2] at cG;exact old hi hj (by omega) hk cG
 own:=by
  intro z hz k hk;obtain⟨i,hi⟩:=List.mem_iff_getElem?.1 hz;by_cases cj:n=i
  ·subst cj;rw [Ajg (Aje.1 hn).1] at hi;cases hi;rcases hb k hk with h | h
   ·exact S.own x (Ajd hn) k h
   ·exact AjD S.Ag.size h
  ·rw [List.getElem?_set_ne cj] at hi;exact S.own z (Ajd hi) k hk
theorem ST.sub(S:ST w0 w H){H':List It}(h:H'.Sublist H):ST w0 w H':=⟨S.Ag,λ x hx=>S.ok x (h.subset hx),S.nd.sublist h,λ x hx=>S.own x (h.subset hx)⟩
theorem ST.drop(S:ST w0 w H)(n:Nat):ST w0 w (H.drop n):=S.sub (List.drop_sublist _ _)
theorem ST.perm(S:ST w0 w H){H':List It}(h:H.Perm H'):ST w0 w H' :=
 ⟨S.Ag,λ x hx=>S.ok x (h.mem_iff.2 hx),(h.pairwise_iff (λ h k hk cG=>h k cG hk)).1 S.nd,λ x hx=>S.own x (h.mem_iff.2 hx)⟩
theorem ST.pull(S:ST w0 w H)(n:Nat){x:It}(hn:H[n]?=some x):ST w0 w (x :: H.eraseIdx n) where
 Ag:=S.Ag
 ok:=λ y hy=>by
  rcases Ajc.1 hy with rfl | hy
  ·exact S.get n hn
  ·exact S.ok y (List.mem_of_mem_eraseIdx hy)
 nd:=by
  refine List.pairwise_cons.2 ⟨λ y hy k hk cG=>?_,S.nd.sublist (List.eraseIdx_sublist ..)⟩;obtain⟨i,hi,aV⟩:=List.mem_eraseIdx_iff_getElem?.1 hy;exact VH S.nd hn aV (Ne.symm hi) hk cG
 own:=λ y hy=>by
  rcases Ajc.1 hy with rfl | hy
  ·exact S.own _ (Ajd hn)
  ·exact S.own y (List.mem_of_mem_eraseIdx hy)
theorem ST.before(S:ST w0 w H){wb:World}(h:Below wb.heap.size wb w0):ST wb w H:=⟨h.trans (S.Ag.mono h.size),S.ok,S.nd,λ x hx k hk=>AjD h.size (S.own x hx k hk)⟩
theorem ST.join(S:ST w0 w H){w':World}{P:List It}(T:ST w w' P):ST w0 w' (P++H) where
 Ag:=S.Ag.trans (T.Ag.mono S.Ag.size)
 ok:=λ x hx=>by
  rcases List.mem_append.1 hx with h | h
  ·exact T.ok x h
  ·exact (S.grown T.Ag).ok x h
 nd:=List.pairwise_append.2 ⟨T.nd,S.nd,λ x hx y hy k hk cG=>by have:=T.own x hx k hk;have:=y.lt w (S.ok y hy) k cG;omega⟩
 own:=λ x hx k hk=>by
  rcases List.mem_append.1 hx with h | h
  ·exact AjD S.Ag.size (T.own x h k hk)
  ·exact S.own x h k hk
theorem ST.Ak(S:ST w0 w H){cs:Array Value}{t:TypeId}{k:Nat->World->Prop}(hk:∀ b w',w.heap.size<=b->Below w.heap.size w w'->ST w0 w' (It.cells b cs t :: H)->k b w'):Cu cs t k w :=
 hk _ _ (Ajx _) ((Below.refl _ w).alloc (Ajx _) _) (S.add ((Below.refl _ w).alloc (Ajx _) _) _ (heap_alloc_new w _) (λ k hk=>by cases hk;exact Ajx _))
theorem ST.draw(S:ST w0 w H){k:World->Prop}(hk:∀ w',Below w.heap.size w w'->ST w0 w' H->k w'):AcU k w:=hk _ ((Below.refl _ w).drew) (S.grown ((Below.refl _ w).drew))
theorem ST.cell(S:ST w0 w H)(n:Nat){b:Nat}{cs:Array Value}{t:TypeId}(hn:H[n]?=some (It.cells b cs t)){i:Nat}{v:Value}(hv:cs[i]?=some v):w.cell? ⟨b,i,none⟩=some v:=by
 have:w.heap[b]?=some (.cells cs t (0,0)):=S.get n hn;simp [World.cell?,this,hv]
theorem ST.Bu(S:ST w0 w H)(n:Nat){b:Nat}{cs:Array Value}{t:TypeId}(hn:H[n]?=some (It.cells b cs t)):w.heap[b]?=some (.cells cs t (0,0)):=S.get n hn
theorem ST.rdc(S:ST w0 w H)(n:Nat){b:Nat}{cs:Array Value}{t:TypeId}(hn:H[n]?=some (It.cells b cs t)):Rd w (some ⟨b,0,none⟩) cs.toList:=Rd.Av (S.Bu n hn)
theorem ST.rw(S:ST w0 w H)(n:Nat){e:TypeId}{sz:Nat}{a:Option Addr}{m c:Nat}{xs:List Value}(hn:H[n]?=some (It.row e sz a m c xs)):Row w e sz a m c xs:=S.get n hn
theorem ST.rd(S:ST w0 w H)(n:Nat){e:TypeId}{sz:Nat}{a:Option Addr}{m c:Nat}{xs:List Value}(hn:H[n]?=some (It.row e sz a m c xs)):Rd w a xs:=(S.rw n hn).rd
theorem ST.BA(S:ST w0 w H)(n:Nat){b:Nat}{cs aD:Array Value}{t:TypeId}(hn:H[n]?=some (It.cells b cs t)){i:Nat}{v:Value}{k:World->Prop}(hi:i<cs.size)(hc:cs.setIfInBounds i v=aD)
  (hk:∀ w',ST w0 w' (H.set n (It.cells b aD t))->k w'):CI ⟨b,i,none⟩ v k w:=by
 subst hc;have hb:=S.Bu n hn;refine⟨by rw [S.cell n hn (Array.getElem?_eq_getElem hi)];rfl,by simp [World.frozen?,hb],hk _ (S.Sw n hn ((CK w b i v).mono λ k _ h=>by subst h;rfl) _ (Cz hb v) (λ k hk=>.inl hk))⟩
theorem ST.GA(S:ST w0 w H)(n:Nat){b:Nat}{cs:Array Value}{t:TypeId}(hn:H[n]?=some (It.cells b cs t)){vs:List Value}(hl:vs.length=cs.size)(h1:∀ v∈vs,v.oneCell'=true)
  {k:World->Prop} (hk:∀ w',ST w0 w' (H.set n (It.cells b ⟨vs⟩ t))->k w'):BO vs ⟨b,0,none⟩ 0 k w :=
 KO vs (S.Bu n hn) (by omega) h1 λ w' K hb=>hk w' (S.Sw n hn (K.mono λ k _ h=>by subst h;rfl) _ (by rw [Sb vs cs hl] at hb;exact hb) (λ k hk=>.inl hk))
theorem ST.N5(S:ST w0 w H){z0 z1 z2 v0 v1 v2:Value}{t:TypeId}{k:Nat->World->Prop}(hk:∀ b w',w.heap.size<=b->ST w0 w' (It.cells b #[v0,v1,v2] t :: H)->k b w') :
  Cu #[z0,z1,z2] t (λ b w=>CI ⟨b,0,none⟩ v0 (λ w=>CI ⟨b,1,none⟩ v1 (λ w=>CI ⟨b,2,none⟩ v2 (λ w=>k b w) w) w) w) w :=
 S.Ak λ b w1 hb _ S1=>S1.BA 0 rfl (aD:=#[v0,z1,z2]) (by simp) rfl λ w2 S2=>S2.BA 0 rfl (aD:=#[v0,v1,z2]) (by simp) rfl λ w3 S3=>S3.BA 0 rfl (aD:=#[v0,v1,v2]) (by simp) rfl λ w4 S4=>hk b w4 hb S4
theorem ST.Af0(S:ST w0 w H)(n:Nat){b:Nat}{x0 x1 x2 x3 x4 x5 x6 v0 v1 v2 v3 v4 v5 v6:Value}{t:TypeId}(hn:H[n]?=some (It.cells b #[x0,x1,x2,x3,x4,x5,x6] t)){k:World->Prop}
  (hk:∀ w',ST w0 w' (H.set n (It.cells b #[v0,v1,v2,v3,v4,v5,v6] t))->k w') :
  CI ⟨b,0,none⟩ v0 (λ w=>CI ⟨b,1,none⟩ v1 (λ w=>CI ⟨b,2,none⟩ v2 (λ w=>CI ⟨b,3,none⟩ v3 (λ w=>CI ⟨b,4,none⟩ v4 (λ w=>CI ⟨b,5,none⟩ v5 (λ w=>CI ⟨b,6,none⟩ v6 k w) w) w) w) w) w) w:=by
 have aB:=(Aje.1 hn).1;refine S.BA n hn (aD:=#[v0,x1,x2,x3,x4,x5,x6]) (by simp) rfl λ w1 S1=>?_;refine S1.BA n (Ajg aB) (aD:=#[v0,v1,x2,x3,x4,x5,x6]) (by simp) rfl λ w2 S2=>?_;rw [Ajy] at S2;refine S2.BA n (Ajg aB) (aD:=#[v0,v1,v2,x3,x4,x5,x6]) (by simp) rfl λ w3 S3=>?_;rw [Ajy] at S3;refine S3.BA n (Ajg aB) (aD:=#[v0,v1,v2,v3,x4,x5,x6]) (by simp) rfl λ w4 S4=>?_;rw [Ajy] at S4;refine S4.BA n (Ajg aB) (aD:=#[v0,v1,v2,v3,v4,x5,x6]) (by simp) rfl λ w5 S5=>?_;rw [Ajy] at S5;refine S5.BA n (Ajg aB) (aD:=#[v0,v1,v2,v3,v4,v5,x6]) (by simp) rfl λ w6 S6=>?_;rw [Ajy] at S6;refine S6.BA n (Ajg aB) (aD:=#[v0,v1,v2,v3,v4,v5,v6]) (by simp) rfl λ w7 S7=>?_;rw [Ajy] at S7;exact hk w7 S7
theorem ST.nil(S:ST w0 w H)(e:TypeId)(sz:Nat):ST w0 w (It.row e sz none 0 0 [] :: H):=S.add (.refl _ _) _ (Row.nil w e sz) (λ k hk=>by cases hk)
theorem ST.app(S:ST w0 w H)(n:Nat){P:Program}{t ty e:TypeId}{sz bytes:Nat}{z:Value}{a:Option Addr}{m c:Nat}{xs:List Value}(hn:H[n]?=some (It.row e sz a m c xs))(hT:LO P t=some (e,sz,bytes,z))(hz:z.cells.size=sz)(aU:0<sz)(dL:0<bytes)
  {b:Option Addr} {mm mc:Nat} {news:List Value} (hs:Rd w b news) (hl:news.length=mm*sz) (h1:∀ u∈news,u.oneCell'=true) (cP:(m+mm)*bytes<=140737488355328) {f:Value->World->Prop}
  (hf:∀ a' c' w',ST w0 w' (H.set n (It.row e sz a' (m+mm) c' (xs++news)))->f (.slice a' (m+mm) c') w'):Dc P (Builtin.append_ #[t,t] ty #[.slice a m c,.slice b mm mc]) f w:=by
 obtain⟨a',c',w',aF,aI,hk,bK⟩:=HH (ty:=ty) (mc:=mc) hT hz aU dL (S.rw n hn) hs hl h1 cP;unfold Dc;rw [aF];exact hf a' c' w' (S.Sw n hn hk _ aI bK)
theorem ST.range(S:ST w0 w H)(rr:Loop):ST w0 ((w.alloc (.deferred (some []))).alloc (.loop rr)) (It.obj (w.heap.size+1) (.loop rr) :: It.obj w.heap.size (.deferred (some [])) :: H):=by
 have B1:Below w.heap.size w (w.alloc (.deferred (some []))):=(Below.refl _ w).alloc (Ajx _) _;have S1:=S.add B1 (It.obj w.heap.size (.deferred (some []))) (heap_alloc_new w _) (λ k hk=>by cases hk;exact Ajx _);have S2:=S1.add ((Below.refl _ _).alloc (Ajx _) (.loop rr)) (It.obj (w.alloc (.deferred (some []))).heap.size (.loop rr)) (heap_alloc_new _ _) (λ k hk=>by cases hk;exact Ajx _);rwa [World.size_alloc] at S2
theorem TP(w:World)(l:Nat)(o:Obj):Aq (·=l) w (w.putObj l o):=⟨rfl,rfl,rfl,by simp,λ k _ hn=>World.putObj_heap_other hn⟩
theorem ST.put(S:ST w0 w H)(n:Nat){b:Nat}{o:Obj}(hn:H[n]?=some (It.obj b o))(o':Obj):ST w0 (w.putObj b o') (H.set n (It.obj b o')) :=
 S.Sw n hn ((TP w b o').mono λ k _ h=>by subst h;rfl) _ (World.putObj_heap_same (Array.getElem?_eq_some_iff.1 (S.get n hn)).1) (λ k hk=>.inl hk)
theorem ST.YL(S:ST w0 w H)(n:Nat){L:Nat}{rr:Loop}(hn:H[n]?=some (It.obj L (.loop rr))){k:World->Prop}(hk:∀ w',ST w0 w' (H.set n (It.obj L (.loop { rr with state:=.busy })))->k w'):LQ rr L k w :=
 ⟨S.get n hn,hk _ (S.put n hn _)⟩
theorem Rd.AfU{w:World}{a:Option Addr}{xs:List Value}(h:Rd w a xs){L:Nat}{rr:Loop}(hL:w.heap[L]?=some (.loop rr))(o:Obj):Rd (w.putObj L o) a xs:=by
 intro j v hv;obtain⟨p,hp,hc⟩:=h j v hv;refine⟨p,hp,(TP w L o).cell hc ?_⟩;intro he;have lN:(p.add j).block=L:=he;simp [World.cell?,lN,hL] at hc
theorem ST.AhU(S:ST w0 w H)(n:Nat){L:Nat}{rr:Loop}(hn:H[n]?=some (It.obj L (.loop rr))){k:World->Prop}(hk:∀ w',(∀ a xs,Rd w a xs->Rd w' a xs)->ST w0 w' (H.set n (It.obj L (.loop { rr with state:=.busy })))->k w'):LQ rr L k w :=
 ⟨S.get n hn,hk _ (λ _ _ h=>h.AfU (S.get n hn) _) (S.put n hn _)⟩
theorem ST.keep{x:It}(S:ST w0 w (x :: H))(n:Nat):ST w0 w (x :: H.drop n):=S.sub ((List.drop_sublist n H).cons_cons x)
theorem Aba{rr:Loop}(h1:rr.state=.ready)(h2:rr.pending=none):({ rr with state:=if (none:Option Code).isNone then .ready else .done,pending:=none }:Loop)=rr:=by
 cases rr;simp_all
theorem ST.Mi(S:ST w0 w H)(n:Nat){L:Nat}{rr:Loop}(h1:rr.state=.ready)(h2:rr.pending=none)(hn:H[n]?=some (It.obj L (.loop { rr with state:=.busy }))){k:Bool->World->Prop}(hk:∀ w',ST w0 w' (H.set n (It.obj L (.loop rr)))->k true w'):Bk rr L k none w:=by
 refine⟨S.get n hn,?_⟩;have:=S.put n hn (.loop { rr with state:=if (none:Option Code).isNone then .ready else .done,pending:=none });rw [Aba h1 h2] at this ⊢;exact hk _ this
theorem ST.AaL(S:ST w0 w H)(n:Nat){L:Nat}{rr:Loop}{j:Code}(hn:H[n]?=some (It.obj L (.loop { rr with state:=.busy }))){k:Bool->World->Prop}(hk:∀ w',ST w0 w' (H.set n (It.obj L (.loop { rr with state:=.done,pending:=some j })))->k false w'):Bk rr L k (some j) w :=
 ⟨S.get n hn,hk _ (S.put n hn _)⟩
theorem ST.Kq(S:ST w0 w H)(n:Nat){L:Nat}{rr:Loop}(h1:rr.state=.ready)(h2:rr.pending=none)(hn:H[n]?=some (It.obj L (.loop rr))){k:Option Code->World->Prop}(hk:∀ w',ST w0 w' (H.set n (It.obj L (.loop { rr with state:=.exhausted,pending:=none })))->k none w'):LU rr L k w :=
 ⟨none,by rw [Aba h1 h2];exact S.get n hn,hk _ (S.put n hn _)⟩
theorem ST.AaK(S:ST w0 w H)(n:Nat){L:Nat}{rr:Loop}{j:Code}(hn:H[n]?=some (It.obj L (.loop { rr with state:=.done,pending:=some j }))){k:Option Code->World->Prop}(hk:∀ w',ST w0 w' (H.set n (It.obj L (.loop { rr with state:=.exhausted,pending:=some j })))->k (some j) w'):LU rr L k w :=
 ⟨some j,S.get n hn,hk _ (S.put n hn _)⟩
theorem J3.mono{P:Program}{l:Nat}{args:Array Value}{k k':Bool->World->Prop}{w:World}(h:J3 P l args k w)(hk:∀ y w',k y w'->k' y w'):J3 P l args k' w:=by
 obtain⟨f,tm,UH,bo,hy,hr⟩:=h;refine⟨f,tm,UH,bo,hy,hr.mono ?_⟩;rintro e w' ⟨t,he,h⟩;exact⟨t,he,hk t w' h⟩
end
section
variable {w0 w:World}{H:List It}
theorem ST.PG(S:ST w0 w H){z0 z1 z2 z3 z4 z5 v0 v1 v2 v3 v4 v5:Value}{t:TypeId}{k:Nat->World->Prop}(hk:∀ b w',w.heap.size<=b->ST w0 w' (It.cells b #[v0,v1,v2,v3,v4,v5] t :: H)->k b w') :
  Cu #[z0,z1,z2,z3,z4,z5] t (λ b w=>CI ⟨b,0,none⟩ v0 (λ w=>CI ⟨b,1,none⟩ v1 (λ w=>CI ⟨b,2,none⟩ v2 (λ w=>CI ⟨b,3,none⟩ v3 (λ w=>CI ⟨b,4,none⟩ v4 (λ w=>CI ⟨b,5,none⟩ v5 (λ w=>k b w) w) w) w) w) w) w) w :=
 S.Ak λ b w1 hb _ S1=>S1.BA 0 rfl (aD:=#[v0,z1,z2,z3,z4,z5]) (by simp) rfl λ w2 S2=>S2.BA 0 rfl (aD:=#[v0,v1,z2,z3,z4,z5]) (by simp) rfl λ w3 S3=>S3.BA 0 rfl (aD:=#[v0,v1,v2,z3,z4,z5]) (by simp) rfl λ w4 S4 =>
  S4.BA 0 rfl (aD:=#[v0,v1,v2,v3,z4,z5]) (by simp) rfl λ w5 S5=>S5.BA 0 rfl (aD:=#[v0,v1,v2,v3,v4,z5]) (by simp) rfl λ w6 S6=>S6.BA 0 rfl (aD:=#[v0,v1,v2,v3,v4,v5]) (by simp) rfl λ w7 S7=>hk b w7 hb S7
def msI(ms:List Nat):List It:=ms.map λ m=>It.obj m (.deferred (some []))
theorem ST.shut:∀ {ms:List Nat} {w:World} {k:World->Prop},ST w0 w (msI ms++H)->(∀ w',ST w0 w' H->k w')->Qz ms k w
 | [],w,k,S,hk=>hk w S
 | m :: ms,w,k,S,hk=>⟨S.get 0 rfl,ST.shut ((S.put 0 rfl (.deferred none)).drop 1) hk⟩
theorem ST.mid(l:List It){X B:List It}(S:ST w0 w (X++(l++B))):ST w0 w (l++(X++B)):=S.perm (List.perm_append_comm_assoc X l B)
theorem ST.Ns(l:List It){X B:List It}(S:ST w0 w (l++(X++B))):ST w0 w (X++(l++B)):=S.perm (List.perm_append_comm_assoc l X B)
end
end Go.Dn
namespace Go.Dn
set_option linter.unusedVariables false
set_option maxRecDepth 100000
section
variable {w0 w:World}{H:List It}
theorem ST.Vz(S:ST w0 w H){z0 z1 z2 z3 z4 z5 z6 z7 v0 v1 v2 v3 v4 v5 v6 v7:Value}{t:TypeId}{k:Nat->World->Prop}(hk:∀ b w',w.heap.size<=b->ST w0 w' (It.cells b #[v0,v1,v2,v3,v4,v5,v6,v7] t :: H)->k b w') :
  Cu #[z0,z1,z2,z3,z4,z5,z6,z7] t (λ b w=>CI ⟨b,0,none⟩ v0 (λ w=>CI ⟨b,1,none⟩ v1 (λ w=>CI ⟨b,2,none⟩ v2 (λ w=>CI ⟨b,3,none⟩ v3 (λ w=>CI ⟨b,4,none⟩ v4 (λ w=>CI ⟨b,5,none⟩ v5 (λ w=>CI ⟨b,6,none⟩ v6 (λ w=>CI ⟨b,7,none⟩ v7 (λ w=>k b w) w) w) w) w) w) w) w) w) w :=
 S.Ak λ b w1 hb _ S1=>S1.BA 0 rfl (aD:=#[v0,z1,z2,z3,z4,z5,z6,z7]) (by simp) rfl λ w2 S2=>S2.BA 0 rfl (aD:=#[v0,v1,z2,z3,z4,z5,z6,z7]) (by simp) rfl λ w3 S3=>S3.BA 0 rfl (aD:=#[v0,v1,v2,z3,z4,z5,z6,z7]) (by simp) rfl λ w4 S4 =>
  S4.BA 0 rfl (aD:=#[v0,v1,v2,v3,z4,z5,z6,z7]) (by simp) rfl λ w5 S5=>S5.BA 0 rfl (aD:=#[v0,v1,v2,v3,v4,z5,z6,z7]) (by simp) rfl λ w6 S6=>S6.BA 0 rfl (aD:=#[v0,v1,v2,v3,v4,v5,z6,z7]) (by simp) rfl λ w7 S7=>S7.BA 0 rfl (aD:=#[v0,v1,v2,v3,v4,v5,v6,z7]) (by simp) rfl λ w8 S8 =>
  S8.BA 0 rfl (aD:=#[v0,v1,v2,v3,v4,v5,v6,v7]) (by simp) rfl λ w9 S9=>hk b w9 hb S9
end
end Go.Dn
namespace Go.Dn
open _root_.List renaming getElem?_set_self -> Ajg, set_set -> Ajy
set_option linter.unusedVariables false
set_option maxRecDepth 100000
open Go.RowKit (Below)
section
variable {w0 w:World}{H:List It}{P:Program}{f:FuncId}{args:Array Value}{Q:Ending->World->Prop}
theorem ST.call(S:ST w0 w H){v:Value}(h:Calls P f args w (AD λ r w'=>r=v/\Below w.heap.size w w'))(hk:∀ w',Below w.heap.size w w'->ST w0 w' H->Q (.returned v) w'):Calls P f args w Q :=
 h.mono (by rintro _ w' ⟨_,rfl,rfl,B⟩;exact hk w' B (S.grown B))
theorem ST.Ado(S:ST w0 w H){v:Value}(h:Calls P f args w (AD λ r w'=>r=v/\w'=w))(hk:Q (.returned v) w):Calls P f args w Q :=
 h.mono (by rintro _ w' ⟨_,rfl,rfl,rfl⟩;exact hk)
theorem ST.one{x:It}(S:ST w0 w (x :: H)):ST w0 w [x]:=S.sub (List.Sublist.cons_cons x (List.nil_sublist H))
theorem Ae2{w w1 w2:World}(h:Below w.heap.size w w1)(h':Below w1.heap.size w1 w2):Below w.heap.size w w2:=h.trans (h'.mono h.size)
end
theorem Gc{i n:Nat}(h:i<n)(hn:n<=9223372036854775807):IntKind.i64.wrap ((i:Int)+1)=((i+1:Nat):Int):=Ah (by omega)
theorem Mv{w:World}{B:(List Value->World->Prop)->(List Value->World->Nat)->Int->World->Prop}(n:Nat)(Inv:Nat->World->Prop)(hn:n<=9223372036854775807)(h0:Inv 0 w)
  (hb:∀(I:List Value->World->Prop) (M:List Value->World->Nat) (i:Nat) (w2:World),i<=n->Inv i w2->(∀ w',i<n->Inv (i+1) w'->I [.int .i64 (IntKind.i64.wrap ((i:Int)+1))] w'/\M [.int .i64 (IntKind.i64.wrap ((i:Int)+1))] w'<M [.int .i64 (i:Int)] w2)->B I M (i:Int) w2) :
  ∃(I:List Value->World->Prop) (M:List Value->World->Nat),I [.int .i64 0] w/\∀(i:Int) (w2:World),I [.int .i64 i] w2->B I M i w2:=by
 refine⟨λ st w=>∃ i:Nat,st=[.int .i64 (i:Int)]/\i<=n/\Inv i w,λ st _=>match st with | [.int _ t]=>n-t.toNat | _=>0,⟨0,rfl,Nat.zero_le _,h0⟩,?_⟩;rintro t w2 ⟨i,aA,hi,hI⟩;cases aA;refine hb _ _ i w2 hi hI λ w' aB h=>?_;rw [Gc aB hn];exact⟨⟨i+1,rfl,aB,h⟩,by simp only [Int.toNat_natCast];omega⟩
theorem Vk{w:World}{a0:Option Addr}{l0 c0:Nat}{B:(List Value->World->Prop)->(List Value->World->Nat)->Option Addr->Nat->Nat->Int->World->Prop}(n:Nat)(Inv:Nat->Option Addr->Nat->Nat->World->Prop)(hn:n<=9223372036854775807)(h0:Inv 0 a0 l0 c0 w)
  (hb:∀(I:List Value->World->Prop) (M:List Value->World->Nat) (a:Option Addr) (l c:Nat) (i:Nat) (w2:World),i<=n->Inv i a l c w2->(∀ a' l' c' w',i<n->Inv (i+1) a' l' c' w'->I [.slice a' l' c',.int .i64 (IntKind.i64.wrap ((i:Int)+1))] w'/\M [.slice a' l' c',.int .i64 (IntKind.i64.wrap ((i:Int)+1))] w'<M [.slice a l c,.int .i64 (i:Int)] w2)->B I M a l c (i:Int) w2) :
  ∃(I:List Value->World->Prop) (M:List Value->World->Nat),I [.slice a0 l0 c0,.int .i64 0] w/\∀(a:Option Addr) (l c:Nat) (i:Int) (w2:World),I [.slice a l c,.int .i64 i] w2->B I M a l c i w2:=by
 refine⟨λ st w=>∃(a:Option Addr) (l c:Nat) (i:Nat),st=[.slice a l c,.int .i64 (i:Int)]/\i<=n/\Inv i a l c w,λ st _=>match st with | [_,.int _ t]=>n-t.toNat | _=>0,⟨a0,l0,c0,0,rfl,Nat.zero_le _,h0⟩,?_⟩;rintro a l c t w2 ⟨a,l,c,i,aA,hi,hI⟩;cases aA;refine hb _ _ a l c i w2 hi hI λ a' l' c' w' aB h=>?_;rw [Gc aB hn];exact⟨⟨a',l',c',i+1,rfl,aB,h⟩,by simp only [Int.toNat_natCast];omega⟩
section
variable {w0 w:World}{H:List It}
theorem ST.Aex(S:ST w0 w H)(n:Nat){b:Nat}{x0 x1 x2 x3 x4 x5 x6 x7 v0 v1 v2 v3 v4 v5 v6 v7:Value}{t:TypeId}(hn:H[n]?=some (It.cells b #[x0,x1,x2,x3,x4,x5,x6,x7] t)){k:World->Prop}(hk:∀ w',ST w0 w' (H.set n (It.cells b #[v0,v1,v2,v3,v4,v5,v6,v7] t))->k w') :
  CI ⟨b,0,none⟩ v0 (λ w=>CI ⟨b,1,none⟩ v1 (λ w=>CI ⟨b,2,none⟩ v2 (λ w=>CI ⟨b,3,none⟩ v3 (λ w=>CI ⟨b,4,none⟩ v4 (λ w=>CI ⟨b,5,none⟩ v5 (λ w=>CI ⟨b,6,none⟩ v6 (λ w=>CI ⟨b,7,none⟩ v7 k w) w) w) w) w) w) w) w:=by
 have aB:=(List.getElem?_eq_some_iff.1 hn).1;refine S.BA n hn (aD:=#[v0,x1,x2,x3,x4,x5,x6,x7]) (by simp) rfl λ w1 S1=>?_;refine S1.BA n (Ajg aB) (aD:=#[v0,v1,x2,x3,x4,x5,x6,x7]) (by simp) rfl λ w2 S2=>?_;rw [Ajy] at S2;refine S2.BA n (Ajg aB) (aD:=#[v0,v1,v2,x3,x4,x5,x6,x7]) (by simp) rfl λ w3 S3=>?_;rw [Ajy] at S3;refine S3.BA n (Ajg aB) (aD:=#[v0,v1,v2,v3,x4,x5,x6,x7]) (by simp) rfl λ w4 S4=>?_;rw [Ajy] at S4;refine S4.BA n (Ajg aB) (aD:=#[v0,v1,v2,v3,v4,x5,x6,x7]) (by simp) rfl λ w5 S5=>?_;rw [Ajy] at S5;refine S5.BA n (Ajg aB) (aD:=#[v0,v1,v2,v3,v4,v5,x6,x7]) (by simp) rfl λ w6 S6=>?_;rw [Ajy] at S6;refine S6.BA n (Ajg aB) (aD:=#[v0,v1,v2,v3,v4,v5,v6,x7]) (by simp) rfl λ w7 S7=>?_;rw [Ajy] at S7;refine S7.BA n (Ajg aB) (aD:=#[v0,v1,v2,v3,v4,v5,v6,v7]) (by simp) rfl λ w8 S8=>?_;rw [Ajy] at S8;exact hk w8 S8
theorem ST.Ai0(S:ST w0 w H)(n:Nat){b:Nat}{x0 x1 x2 v0 v1 v2:Value}{t:TypeId}(hn:H[n]?=some (It.cells b #[x0,x1,x2] t)){k:World->Prop}(hk:∀ w',ST w0 w' (H.set n (It.cells b #[v0,v1,v2] t))->k w') :
  CI ⟨b,0,none⟩ v0 (λ w=>CI ⟨b,1,none⟩ v1 (λ w=>CI ⟨b,2,none⟩ v2 k w) w) w:=by
 have aB:=(List.getElem?_eq_some_iff.1 hn).1;refine S.BA n hn (aD:=#[v0,x1,x2]) (by simp) rfl λ w1 S1=>?_;refine S1.BA n (Ajg aB) (aD:=#[v0,v1,x2]) (by simp) rfl λ w2 S2=>?_;rw [Ajy] at S2;refine S2.BA n (Ajg aB) (aD:=#[v0,v1,v2]) (by simp) rfl λ w3 S3=>?_;rw [Ajy] at S3;exact hk w3 S3
theorem ST.Ai1(S:ST w0 w H)(n:Nat){e:TypeId}{sz g m c:Nat}{xs:List Value}(hn:H[n]?=some (It.row e sz (some ⟨g,0,none⟩) m c xs)){j:Nat}(hj:j<m*sz){v:Value}{k:World->Prop}
  (hk:∀ w',ST w0 w' (H.set n (It.row e sz (some ⟨g,0,none⟩) m c (xs.set j v)))->k w'):CI ⟨g,j,none⟩ v k w :=
 (S.rw n hn).BA hj λ w' hr K=>hk w' (S.Sw n hn (K.mono λ k _ h=>by subst h;rfl) _ hr (λ k hk=>.inl hk))
theorem ST.empty(S:ST w0 w H){sz:Nat}{t:TypeId}{k:Nat->World->Prop}(hk:∀ b w',Below w.heap.size w w'->ST w0 w' (It.row t sz (some ⟨b,0,none⟩) 0 0 [] :: H)->k b w'):Cu #[] t k w :=
 S.Ak λ b w1 _ B S1=>hk b w1 B (S1.Sw 0 rfl (.refl _ _) _ (⟨by simp,.inr ⟨b,#[],rfl,S1.Bu 0 rfl,by omega,by omega,by simp,by simp⟩⟩:Row w1 t sz (some ⟨b,0,none⟩) 0 0 []) λ k hk=>.inl hk)
end
theorem WJ{P:Program}{bt el:TypeId}(hb:P.underlying bt=some (.slice el))(he:P.underlying el=some (.int .u8)){w:World}{b n c:Nat}{cs:Array Value}{e:TypeId}(hg:w.heap[b]?=some (.cells cs e (0,0))){f:Value->World->Prop}
  (hf:∀ w',Aq (·=b) w w'->w'.heap[b]?=some (.cells cs e (cs.size,cs.size+1))->f (.slice (some ⟨b,0,none⟩) n c) w'):Dc P (convert bt bt (.slice (some ⟨b,0,none⟩) n c)) f w:=by
 have dj:w.shape? b=some (e,cs.size):=by simp [World.shape?,hg]
 have fJ:(markStringish ⟨b,0,none⟩).run P w=.ok () (w.freeze ⟨b,cs.size,none⟩ 1):=by simp [markStringish,dj]
 have aF:(convert bt bt (.slice (some ⟨b,0,none⟩) n c)).run P w=.ok (.slice (some ⟨b,0,none⟩) n c) (w.freeze ⟨b,cs.size,none⟩ 1):=by
  simp only [convert,Sem.run_bind,run_underlying hb,run_underlying he,Result.andThen_ok,beq_self_eq_true,fJ,Sem.run_pure]
 unfold Dc;rw [aF];refine hf _ (Mx (·=b) w ⟨b,cs.size,none⟩ 1 rfl) ?_;unfold World.freeze;simp [Array.getElem?_modify,hg]
theorem OJ{P:Program}{t ty e:TypeId}{sz bytes:Nat}{z:Value}(hT:LO P t=some (e,sz,bytes,z))(hz:z.cells.size=sz)(aU:0<sz)(dL:0<bytes)
  {w:World} {p:Addr} {n c:Nat} {xs:List Value} (hr:Rd w (some p) xs) (dm:xs.length=n*sz) {b:Option Addr} {m mc:Nat} {news:List Value} (hs:Rd w b news) (hl:news.length=m*sz) (hm:0<m)
  (hc:c<n+m) (_hnc:n<=c) (cP:(n+m)*bytes<=140737488355328) :
  ∃ a' c' w',(Builtin.append_ #[t,t] ty #[.slice (some p) n c,.slice b m mc]).run P w=.ok (.slice a' (n+m) c') w'/\Row w' e sz a' (n+m) c' (xs++news)/\Below w.heap.size w w'/\(∀ k,BX a'=some k->w.heap.size<=k):=by
 obtain⟨hu,i,hi,hiz,rfl,rfl⟩:=Ik hT;have jL:n+m<=140737488355328:=Nat.le_trans (Nat.le_mul_of_pos_right _ dL) cP;have hlen:(xs++news).length=(n+m)*i.size:=by rw [List.length_append,dm,hl,Nat.add_mul]
 have h0:0<news.length:=by rw [hl];exact Nat.mul_pos hm aU
 obtain⟨q,rfl,_⟩:=hs 0 news[0] (List.getElem?_eq_getElem h0);have hq:∀ j u,news[j]?=some u->w.cell? (q.add j)=some u:=by
  intro j u hu;obtain⟨q',gO,hc⟩:=hs j u hu;cases gO;exact hc
 have hold:∀ j v,xs[j]?=some v->w.cell? (p.add j)=some v:=by
  intro j v hv;obtain⟨q',gO,hc⟩:=hr j v hv;cases gO;exact hc
 have aM:=grownCap_ge w (n+m) c e;have cm:grownCap w (n+m) c e<=maxLen:=grownCap_le_maxLen w (n+m) c e (by unfold maxLen;omega);have aF:=run_append_grow (P:=P) w t ty e i z hu hi hiz p n c xs dm hold q m mc news hl hq (by omega) (by omega) (growslice_fits (by omega) cP);refine⟨_,_,_,aF,⟨hlen,.inr ⟨w.heap.size,_,rfl,heap_alloc_new w.drew _,aM,by unfold maxLen at cm;omega,?_,?_⟩⟩,((Below.refl _ w).drew).alloc (Nat.le_refl _) _,λ k hk=>?_⟩
 ·simp only [Array.size_append,List.size_toArray,size_zeroCells,hz,dm,hl,<- Nat.add_mul];congr 1;omega
 ·simp only [Array.toList_append,List.append_assoc];rw [<- List.append_assoc,<- hlen];exact List.take_left
 ·simp [BX] at hk;omega
def It.buf(e:TypeId)(sz:Nat)(a:Option Addr)(n c:Nat)(xs:List Value):It where
 Bu:=BX a
 ok:=λ w=>Row w e sz a n c xs\/(∃ p,a=some p/\c=n/\Rd w a xs/\xs.length=n*sz/\p.block<w.heap.size)
 st:=λ w w' h h0=>by
  rcases h0 with h0 | ⟨p,rfl,h1,h2,h3,h4⟩
  ·exact .inl ((It.row e sz a n c xs).st w w' h h0)
  ·refine .inr ⟨p,rfl,h1,?_,h3,?_⟩
   ·intro j v hv;obtain⟨q,hq,hc⟩:=h2 j v hv;cases hq;exact⟨p,rfl,by rw [World.cell?_of_block (w:=w) (by rw [Bf];exact h p.block rfl)];exact hc⟩
   ·have:=h p.block rfl;rw [Array.getElem?_eq_getElem h4] at this;exact (Array.getElem?_eq_some_iff.1 this).1
 lt:=λ w h k hk=>by
  rcases h with h | ⟨p,rfl,_,_,_,h4⟩
  ·exact h.lt hk
  ·cases hk;exact h4
section
variable {w0 w:World}{H:List It}
theorem ST.AiB(S:ST w0 w H)(n:Nat){P:Program}{t ty e:TypeId}{sz bytes:Nat}{z:Value}{a:Option Addr}{m c:Nat}{xs:List Value}(hn:H[n]?=some (It.buf e sz a m c xs))(hT:LO P t=some (e,sz,bytes,z))(hz:z.cells.size=sz)(aU:0<sz)(dL:0<bytes)
  {b:Option Addr} {mm mc:Nat} {news:List Value} (hs:Rd w b news) (hl:news.length=mm*sz) (sH:0<mm) (h1:∀ u∈news,u.oneCell'=true) (cP:(m+mm)*bytes<=140737488355328) {f:Value->World->Prop}
  (hf:∀ a' c' w',ST w0 w' (H.set n (It.row e sz a' (m+mm) c' (xs++news)))->f (.slice a' (m+mm) c') w'):Dc P (Builtin.append_ #[t,t] ty #[.slice a m c,.slice b mm mc]) f w:=by
 rcases S.get n hn with h | ⟨p,rfl,rfl,h2,h3,h4⟩
 ·obtain⟨a',c',w',aF,aI,hk,bK⟩:=HH (ty:=ty) (mc:=mc) hT hz aU dL h hs hl h1 cP;unfold Dc;rw [aF];exact hf a' c' w' (S.Sw n hn hk _ aI bK)
 ·obtain⟨a',c',w',aF,aI,hB,bK⟩:=OJ (ty:=ty) (mc:=mc) hT hz aU dL h2 h3 hs hl sH (by omega) (Nat.le_refl _) cP;unfold Dc;rw [aF];exact hf a' c' w' (S.Sw n hn (Aq.AQ hB) _ aI (λ k hk=>.inr (bK k hk)))
theorem ST.rdF(S:ST w0 w H)(n:Nat){e:TypeId}{sz:Nat}{a:Option Addr}{m c:Nat}{xs:List Value}(hn:H[n]?=some (It.buf e sz a m c xs)):Rd w a xs:=by
 rcases S.get n hn with h | ⟨p,rfl,rfl,h2,h3,h4⟩
 ·exact h.rd
 ·exact h2
end
end Go.Dn
set_option linter.unusedVariables false
set_option maxRecDepth 100000
namespace Go.Dn
open _root_.BitVec renaming ofInt -> Ai2
open _root_.Bool renaming and_eq_true -> Ai6, rec -> AjS
open _root_.List renaming all_eq_true -> AjW
open _root_.Nat renaming beq -> Ai3, ble_eq -> AjV, blt -> Ai8, div -> AjU, eq_of_beq_eq_true -> Ai7, ne_of_beq_eq_false -> AjT
abbrev Sg:=Nat->Option (Nat × Nat × Loop)
def CV:Nat:=65536
def FI:Nat:=65535
def NG:Nat:=18446744073709551616
def Ij(g:Sg)(b:Nat):Option (Nat × Nat × Loop):=g (b-CV)
def bk(g:Sg)(b:Nat):Option Nat:=if b<FI then some b else if b<CV then none else (Ij g b).map (·.1)
def ad(g:Sg)(a:Addr):Option Addr:=(bk g a.block).map λ b=>⟨b,a.off,a.spot⟩
def cp(g:Sg)(b c:Nat):Option Nat:=if c<9223372036854775808 then some c else if b<CV then none else (Ij g b).map λ s=>s.2.1-(NG-c)
def IL(g:Sg)(p:Option Addr)(l c:Nat):Value->Prop
 | .slice p' l' c'=>l'=l/\(match p with
  | none=>p'=none/\c'=c
  | some a=>l<=c'/\((a.block=FI/\l=0/\p'≠none)\/(a.block≠FI/\ad g a=p'/\p'≠none/\cp g a.block c=some c')))
 | _=>False
mutual
def R(g:Sg):Value->Value->Prop
 | .pointer p,u=>(match p with
  | none=>u=.pointer none
  | some a=>∃ a',ad g a=some a'/\u=.pointer (some a'))
 | .slice p l c,u=>IL g p l c u
 | .map p,u=>(match p with
  | none=>u=.map none
  | some b=>∃ b',bk g b=some b'/\u=.map (some b'))
 | .func fn fi ca,u=>(match u with
  | .func fn' bu br=>(match fn with
   | .func f=>fn'=.func f
   | .yield l=>∃ l',bk g l=some l'/\fn'=.yield l'
   | _=>False)/\RA g fi bu/\RA g ca br
  | _=>False)
 | .iface t v,u=>(match u with
  | .iface t' v'=>t'=t/\R g v v'
  | _=>False)
 | .agg cs,u=>(match u with
  | .agg aD=>RA g cs aD
  | _=>False)
 | .tuple cs,u=>(match u with
  | .tuple aD=>RA g cs aD
  | _=>False)
 | .chan _,_=>False
 | .bool b,u=>u=.bool b
 | .int k n,u=>u=.int k n
 | .string s,u=>u=.string s
 | .float k b,u=>u=.float k b
 | .complex k a b,u=>u=.complex k a b
 | .nilFunc,u=>u=.nilFunc
 | .nilIface,u=>u=.nilIface
def RA(g:Sg):Array Value->Array Value->Prop
 | ⟨l⟩,u=>RL g l u.toList
def RL(g:Sg):List Value->List Value->Prop
 | [],u=>u=[]
 | v :: vs,u=>(match u with
  | []=>False
  | x :: xs=>R g v x/\RL g vs xs)
end
def Le(g g':Sg):Prop:=∀(i:Nat) (s:Nat × Nat × Loop),g i=some s->g' i=some s
theorem Le.refl(g:Sg):Le g g:=λ _ _ h=>h
theorem Le.trans{a b c:Sg}(h:Le a b)(h':Le b c):Le a c:=λ i s e=>h' i s (h i s e)
theorem Le.at{g g':Sg}(h:Le g g'){b:Nat}{s:Nat × Nat × Loop}(hs:Ij g b=some s):Ij g' b=some s:=h _ _ hs
def up(g:Sg)(n:Nat)(s:Nat × Nat × Loop):Sg:=λ i=>if i=n then some s else g i
theorem Le.up{g:Sg}{n:Nat}(h:g n=none)(s:Nat × Nat × Loop):Le g (up g n s):=λ i t e=>by
 unfold Dn.up;split
 ·rename_i hi;rw [hi,h] at e;cases e
 ·exact e
theorem O0{g g':Sg}(h:Le g g'){b c:Nat}(hb:bk g b=some c):bk g' b=some c:=by
 unfold bk at *;split
 ·rename_i hl;rwa [if_pos hl] at hb
 ·rename_i hl;rw [if_neg hl] at hb;split
  ·rename_i ho;rw [if_pos ho] at hb;cases hb
  ·rename_i ho;rw [if_neg ho] at hb;cases hs:Ij g b with
   | none=>simp [hs] at hb
   | some s=>rw [h.at hs];rwa [hs] at hb
theorem Ad7{g g':Sg}(h:Le g g'){a c:Addr}(hb:ad g a=some c):ad g' a=some c:=by
 unfold ad at *;cases hs:bk g a.block with
 | none=>simp [hs] at hb
 | some s=>rw [O0 h hs];rwa [hs] at hb
theorem Ah8{g g':Sg}(h:Le g g'){b c n:Nat}(hb:cp g b c=some n):cp g' b c=some n:=by
 unfold cp at *;split
 ·rename_i hl;rwa [if_pos hl] at hb
 ·rename_i hl;rw [if_neg hl] at hb;split
  ·rename_i ho;rw [if_pos ho] at hb;cases hb
  ·rename_i ho;rw [if_neg ho] at hb;cases hs:Ij g b with
   | none=>simp [hs] at hb
   | some s=>rw [h.at hs];rwa [hs] at hb
theorem Ag7{g g':Sg}(h:Le g g'){p:Option Addr}{l c:Nat}:∀ {u:Value},IL g p l c u->IL g' p l c u
 | .slice p' l' c',e=>by
  obtain⟨e1,e2⟩:=e;refine⟨e1,?_⟩;cases p with
  | none=>exact e2
  | some a =>
   refine⟨e2.1,e2.2.imp id fun⟨h0,h1,h2,h3⟩=>⟨h0,?_,h2,Ah8 h h3⟩⟩;cases p' with
   | none=>exact absurd rfl h2
   | some a'=>exact Ad7 h h1
mutual
theorem Ag6{g g':Sg}(h:Le g g'):∀(v:Value) {c:Value},R g v c->R g' v c
 | .pointer none,_,e=>by simpa [R] using e
 | .pointer (some a),_,e=>by
  simp only [R] at e ⊢;obtain⟨a',ha,rfl⟩:=e;exact⟨a',Ad7 h ha,rfl⟩
 | .slice p l c,_,e=>by simp only [R] at e ⊢;exact Ag7 h e
 | .map none,_,e=>by simpa [R] using e
 | .map (some b),_,e=>by
  simp only [R] at e ⊢;obtain⟨a',ha,rfl⟩:=e;exact⟨a',O0 h ha,rfl⟩
 | .func fn fi ca,c,e=>by
  cases c with
  | func fn' bu br =>
   simp only [R] at e ⊢;refine⟨?_,Aa0 h fi e.2.1,Aa0 h ca e.2.2⟩;cases fn with
   | func f=>exact e.1
   | yield l =>
    obtain⟨l',hl,e1⟩:=e.1;exact⟨l',O0 h hl,e1⟩
   | _=>exact e.1
  | _=>simp [R] at e
 | .iface t v,c,e=>by
  cases c with
  | iface t' v'=>simp only [R] at e ⊢;exact⟨e.1,Ag6 h v e.2⟩
  | _=>simp [R] at e
 | .agg cs,c,e=>by
  cases c with
  | agg aD=>simp only [R] at e ⊢;exact Aa0 h cs e
  | _=>simp [R] at e
 | .tuple cs,c,e=>by
  cases c with
  | tuple aD=>simp only [R] at e ⊢;exact Aa0 h cs e
  | _=>simp [R] at e
 | .chan _,_,e=>by simp [R] at e
 | .bool _,_,e=>by simpa [R] using e
 | .int _ _,_,e=>by simpa [R] using e
 | .string _,_,e=>by simpa [R] using e
 | .float _ _,_,e=>by simpa [R] using e
 | .complex _ _ _,_,e=>by simpa [R] using e
 | .nilFunc,_,e=>by simpa [R] using e
 | .nilIface,_,e=>by simpa [R] using e
theorem Aa0{g g':Sg}(h:Le g g'):∀(v:Array Value) {c:Array Value},RA g v c->RA g' v c
 | ⟨l⟩,c,e=>by simp only [RA] at e ⊢;exact Ge h l e
theorem Ge{g g':Sg}(h:Le g g'):∀(v:List Value) {c:List Value},RL g v c->RL g' v c
 | [],_,e=>by simpa [RL] using e
 | v :: vs,[],e=>by simp [RL] at e
 | v :: vs,u :: us,e=>by simp only [RL] at e ⊢;exact⟨Ag6 h v e.1,Ge h vs e.2⟩
end
section
variable {g:Sg}
theorem Fb{v c:Array Value}:RA g v c↔RL g v.toList c.toList:=by cases v;simp [RA]
theorem Fe:∀ {v c:List Value},RL g v c->c.length=v.length
 | [],_,e=>by simp only [RL] at e;subst e;rfl
 | v :: vs,[],e=>by simp [RL] at e
 | v :: vs,u :: us,e=>by simp only [RL] at e;simp [Fe e.2]
theorem Wm:∀ {v c:List Value},RL g v c->∀(i:Nat) {x:Value},v[i]?=some x->∃ y,c[i]?=some y/\R g x y
 | [],_,e,i,x,h=>by simp at h
 | v :: vs,[],e,_,_,_=>by simp [RL] at e
 | v :: vs,u :: us,e,0,x,h=>by simp only [RL] at e;simp at h;subst h;exact⟨u,rfl,e.1⟩
 | v :: vs,u :: us,e,i+1,x,h=>by simp only [RL] at e;simpa using Wm e.2 i (by simpa using h)
theorem HF:∀ {v c:List Value} (n:Nat),RL g v c->RL g (v.drop n) (c.drop n)
 | v,c,0,e=>by simpa using e
 | [],_,n+1,e=>by simp only [RL] at e;subst e;simp [RL]
 | v :: vs,[],_,e=>by simp [RL] at e
 | v :: vs,u :: us,n+1,e=>by simp only [RL] at e;simpa using HF n e.2
theorem GK:∀ {v c:List Value} (n:Nat),RL g v c->RL g (v.take n) (c.take n)
 | v,c,0,e=>by simp [RL]
 | [],_,n+1,e=>by simp only [RL] at e;subst e;simp [RL]
 | v :: vs,[],_,e=>by simp [RL] at e
 | v :: vs,u :: us,n+1,e=>by simp only [RL] at e;simp [RL];exact⟨e.1,GK n e.2⟩
theorem Fc:∀ {v c v' c':List Value},RL g v c->RL g v' c'->RL g (v++v') (c++c')
 | [],_,_,_,e,e'=>by simp only [RL] at e;subst e;simpa using e'
 | v :: vs,[],_,_,e,_=>by simp [RL] at e
 | v :: vs,u :: us,_,_,e,e'=>by simp only [RL] at e;simp [RL];exact⟨e.1,Fc e.2 e'⟩
theorem Qx:∀ {v c:List Value} (n:Nat) {x y:Value},RL g v c->R g x y->RL g (v.set n x) (c.set n y)
 | [],_,n,_,_,e,_=>by simp only [RL] at e;subst e;simp [RL]
 | v :: vs,[],_,_,_,e,_=>by simp [RL] at e
 | v :: vs,u :: us,0,_,_,e,h=>by simp only [RL] at e;simp [RL];exact⟨h,e.2⟩
 | v :: vs,u :: us,n+1,_,_,e,h=>by simp only [RL] at e;simp [RL];exact⟨e.1,Qx n e.2 h⟩
end
mutual
def pl:Value->Bool
 | .pointer p=>p.isNone
 | .slice p _ _=>p.isNone
 | .map p=>p.isNone
 | .func fn fi ca=>(match fn with
  | .func _=>plA fi && plA ca
  | _=>false)
 | .iface _ v=>pl v
 | .agg cs=>plA cs
 | .tuple cs=>plA cs
 | .chan _=>false
 | .bool _=>true
 | .int _ _=>true
 | .string _=>true
 | .float _ _=>true
 | .complex _ _ _=>true
 | .nilFunc=>true
 | .nilIface=>true
def plA:Array Value->Bool
 | ⟨l⟩=>LN l
def LN:List Value->Bool
 | []=>true
 | v :: vs=>pl v && LN vs
end
mutual
theorem PJ{g:Sg}:∀(v:Value),pl v=true->∀ {c:Value},R g v c↔c=v
 | .pointer p,h,c=>by cases p <;> simp [pl,R] at *
 | .slice p l k,h,c=>by
  cases p with
  | none=>cases c <;> simp [R,IL];rename_i a b d;constructor <;> (rintro⟨h1,h2,h3⟩;simp_all)
  | some a=>simp [pl] at h
 | .map p,h,c=>by cases p <;> simp [pl,R] at *
 | .func fn fi ca,h,c=>by
  cases fn with
  | func f =>
   simp only [pl,Ai6] at h;cases c with
   | func fn' bu br=>simp only [R,Ud fi h.1,Ud ca h.2];constructor <;> (intro h;simp_all)
   | _=>simp [R]
  | _=>simp [pl] at h
 | .iface t v,h,c=>by
  simp only [pl] at h;cases c with
  | iface t' v'=>simp only [R,PJ v h];constructor <;> (intro h;simp_all)
  | _=>simp [R]
 | .agg cs,h,c=>by
  simp only [pl] at h;cases c with
  | agg aD=>simp only [R,Ud cs h];constructor <;> (intro h;simp_all)
  | _=>simp [R]
 | .tuple cs,h,c=>by
  simp only [pl] at h;cases c with
  | tuple aD=>simp only [R,Ud cs h];constructor <;> (intro h;simp_all)
  | _=>simp [R]
 | .chan _,h,_=>by simp [pl] at h
 | .bool _,_,_=>by simp [R]
 | .int _ _,_,_=>by simp [R]
 | .string _,_,_=>by simp [R]
 | .float _ _,_,_=>by simp [R]
 | .complex _ _ _,_,_=>by simp [R]
 | .nilFunc,_,_=>by simp [R]
 | .nilIface,_,_=>by simp [R]
theorem Ud{g:Sg}:∀(v:Array Value),plA v=true->∀ {c:Array Value},RA g v c↔c=v
 | ⟨l⟩,h,⟨c⟩=>by simp only [plA] at h;simp only [RA,MT l h];constructor <;> (intro h;simp_all)
theorem MT{g:Sg}:∀(v:List Value),LN v=true->∀ {c:List Value},RL g v c↔c=v
 | [],_,_=>by simp [RL]
 | v :: vs,h,[]=>by simp [RL]
 | v :: vs,h,u :: us=>by simp only [LN,Ai6] at h;simp only [RL,PJ v h.1,MT vs h.2];constructor <;> (intro h;simp_all)
end
section
variable {P:Program}{g:Sg}
/-! ## Forms -/
def Hr(z v:Value):Bool :=
 match z with
 | .tuple zs=>match v with | .tuple vs=>DY zs.toList vs.toList | _=>false
 | z=>Jo z v
def Ro(d:Bool)(z v:Value):Bool :=
 match z with
 | .nilFunc=>(match v with
  | .func (.func _) _ _=>true
  | .nilFunc=>d
  | _=>false)
 | z=>Hr z v
def TU(z v:Value):Bool :=
 match z with
 | .nilFunc=>(match v with
  | .func (.func _) _ _=>true
  | .func (.yield _) fi ca=>fi.toList.isEmpty && ca.toList.isEmpty
  | _=>false)
 | z=>FD z v
theorem Qd{z v c:Value}(h:FD z v=true)(hr:R g v c):FD z c=true:=by
 cases z <;> first
  | (simp [FD];done)
  | (cases v <;> first
    | (simp [FD] at h;done)
    | (simp only [R] at hr;subst hr;exact h)
    | (rename_i p;cases p <;> simp only [R] at hr <;> first | (subst hr;rfl) | (obtain⟨_,_,rfl⟩:=hr;rfl))
    | (cases c <;> first | (simp [R,IL] at hr;done) | rfl)
    | (rename_i fn fi ca;cases fn <;> first
      | (simp [FD] at h;done)
      | (cases c <;> first
        | (simp [R] at hr;done)
        | (simp only [R] at hr;obtain⟨rfl,_,_⟩:=hr;rfl))))
theorem Vy:∀ {zs vs cs:List Value},E4 zs vs=true->RL g vs cs->E4 zs cs=true
 | [],[],_,_,hr=>by simp only [RL] at hr;subst hr;rfl
 | z :: zs,v :: vs,[],_,hr=>by simp [RL] at hr
 | z :: zs,v :: vs,c :: cs,h,hr=>by
  simp only [E4,Ai6] at h ⊢;simp only [RL] at hr;exact⟨Qd h.1 hr.1,Vy h.2 hr.2⟩
 | [],_ :: _,_,h,_=>by simp [E4] at h
 | _ :: _,[],_,h,_=>by simp [E4] at h
theorem Aa2{z v c:Value}(h:Jo z v=true)(hr:R g v c):Jo z c=true:=by
 cases z with
 | agg zs =>
  cases v with
  | agg vs =>
   cases c with
   | agg cs=>simp only [R,Fb] at hr;exact Vy h hr
   | _=>simp [R] at hr
  | _=>simp [Jo] at h
 | _=>simp only [Jo] at h ⊢;exact Qd h hr
theorem Aa1:∀ {zs vs cs:List Value},DY zs vs=true->RL g vs cs->DY zs cs=true
 | [],[],_,_,hr=>by simp only [RL] at hr;subst hr;rfl
 | z :: zs,v :: vs,[],_,hr=>by simp [RL] at hr
 | z :: zs,v :: vs,c :: cs,h,hr=>by
  simp only [DY,Ai6] at h ⊢;simp only [RL] at hr;exact⟨Aa2 h.1 hr.1,Aa1 h.2 hr.2⟩
 | [],_ :: _,_,h,_=>by simp [DY] at h
 | _ :: _,[],_,h,_=>by simp [DY] at h
theorem AfH{z v c:Value}(h:Hr z v=true)(hr:R g v c):Hr z c=true:=by
 cases z with
 | tuple zs =>
  cases v with
  | tuple vs =>
   cases c with
   | tuple cs=>simp only [R,Fb] at hr;exact Aa1 h hr
   | _=>simp [R] at hr
  | _=>simp [Hr] at h
 | _=>simp only [Hr] at h ⊢;exact Aa2 h hr
theorem LY{z c:Value}{f:Value->Prop}(h:FD z c=true)(hf:f c):Qq z f:=by
 cases z <;> first
  | exact⟨_,hf⟩
  | (cases c <;> first
    | (simp [FD] at h;done)
    | exact⟨_,hf⟩
    | exact⟨_,_,_,hf⟩
    | (have:=E2 h;subst this;exact⟨_,hf⟩)
    | (rename_i fn _ _;cases fn <;> first | (simp [FD] at h;done) | exact⟨_,_,_,hf⟩))
theorem Qr:∀ {zs cs:List Value} {f:List Value->Prop},E4 zs cs=true->f cs->Fw zs f
 | [],[],_,_,hf=>hf
 | z :: zs,c :: cs,f,h,hf=>by
  simp only [E4,Ai6] at h;exact LY (f:=λ v=>Fw zs λ vs=>f (v :: vs)) h.1 (Qr h.2 hf)
 | [],_ :: _,_,h,_=>by simp [E4] at h
 | _ :: _,[],_,h,_=>by simp [E4] at h
theorem Aat{z c:Value}{f:Value->Prop}(h:Jo z c=true)(hf:f c):AcY z f:=by
 cases z with
 | agg zs =>
  cases c with
  | agg vs=>exact Qr (f:=λ vs=>f (.agg ⟨vs⟩)) h hf
  | _=>simp [Jo] at h
 | _=>simp only [Jo] at h;exact LY h hf
theorem Wg:∀ {zs cs:List Value} {f:List Value->Prop},DY zs cs=true->f cs->Wf zs f
 | [],[],_,_,hf=>hf
 | z :: zs,c :: cs,f,h,hf=>by
  simp only [DY,Ai6] at h;exact Aat (f:=λ v=>Wf zs λ vs=>f (v :: vs)) h.1 (Wg h.2 hf)
 | [],_ :: _,_,h,_=>by simp [DY] at h
 | _ :: _,[],_,h,_=>by simp [DY] at h
theorem AcZ{z c:Value}{f:Value->Prop}(h:Hr z c=true)(hf:f c):OH z f:=by
 cases z with
 | tuple zs =>
  cases c with
  | tuple vs=>exact Wg (f:=λ vs=>f (.tuple ⟨vs⟩)) h hf
  | _=>simp [Hr] at h
 | _=>simp only [Hr] at h;exact Aat h hf
theorem Aar{z v c:Value}{f:Value->Prop}(h:Hr z v=true)(hr:R g v c)(hf:f c):OH z f:=AcZ (AfH h hr) hf
theorem Qy{fn:FuncId}{fi ca:Array Value}{c:Value}(hr:R g (.func (.func fn) fi ca) c):∃ bu br,c=.func (.func fn) bu br/\RL g fi.toList bu.toList/\RL g ca.toList br.toList:=by
 cases c with
 | func fn' bu br =>
  simp only [R,Fb] at hr;obtain⟨rfl,h1,h2⟩:=hr;exact⟨_,_,rfl,h1,h2⟩
 | _=>simp [R] at hr
theorem Aaq{d:Bool}{z v c:Value}{f:Value->Prop}(h:Ro d z v=true)(hr:R g v c)(hf:f c):Tq d z f:=by
 cases z with
 | nilFunc =>
  cases v with
  | func fn fi ca =>
   cases fn with
   | func fn =>
    obtain⟨bu,br,rfl,_⟩:=Qy hr;cases d with
    | true=>exact .inl ⟨_,_,_,hf⟩
    | false=>exact⟨_,_,_,hf⟩
   | _=>simp [Ro] at h
  | nilFunc =>
   simp only [R] at hr;subst hr;simp only [Ro] at h;subst h;exact .inr hf
  | _=>simp [Ro] at h
 | _=>simp only [Ro] at h;exact Aar h hr hf
theorem AeV{z v c:Value}{f:Value->Prop}(h:TU z v=true)(hr:R g v c)(hf:f c):Aas z f:=by
 cases z with
 | nilFunc =>
  cases v with
  | func fn fi ca =>
   cases fn with
   | func fn =>
    obtain⟨bu,br,rfl,_⟩:=Qy hr;exact .inl ⟨_,_,_,hf⟩
   | yield l =>
    simp only [TU,Ai6,List.isEmpty_iff] at h;cases c with
    | func fn' bu br =>
     simp only [R,Fb,h.1,h.2,RL] at hr;obtain⟨⟨l',_,rfl⟩,h1,h2⟩:=hr;have e1:bu=#[]:=by cases bu;simp_all
     have e2:br=#[]:=by cases br;simp_all
     subst e1;subst e2;exact .inr ⟨_,hf⟩
    | _=>simp [R] at hr
   | _=>simp [TU] at h
  | _=>simp [TU] at h
 | _=>simp only [TU] at h;exact LY (Qd h hr) hf
/-! ## Frames -/
inductive Ft where
 | l
 | n (v:Option Value) (a b:Ft)
def IG:Ft->Nat->Option Value
 | .l,_=>none
 | .n v a b,i=>bif Ai3 i 0 then v else bif Ai3 (i % 2) 1 then IG a (i / 2) else IG b (i / 2-1)
def My:Nat->Ft->Nat->Value->Ft
 | 0,_,_,_=>.l
 | f+1,.l,i,v=>bif Ai3 i 0 then .n (some v) .l .l else bif Ai3 (i % 2) 1 then .n none (My f .l (i / 2) v) .l else .n none .l (My f .l (i / 2-1) v)
 | f+1,.n u a b,i,v=>bif Ai3 i 0 then .n (some v) a b else bif Ai3 (i % 2) 1 then .n u (My f a (i / 2) v) b else .n u a (My f b (i / 2-1) v)
theorem Mz:∀(f:Nat) (t:Ft) (i:Nat) (v:Value) (j:Nat) {u:Value},IG (My f t i v) j=some u->(j=i/\u=v)\/(j≠i/\IG t j=some u)
 | 0,t,i,v,j,u,h=>by cases h
 | f+1,t,i,v,j,u,h=>by
  have key:∀(r:Option Value) (a b:Ft),IG (bif Ai3 i 0 then .n (some v) a b else bif Ai3 (i % 2) 1 then .n r (My f a (i / 2) v) b else .n r a (My f b (i / 2-1) v)) j=some u->(j=i/\u=v)\/(j≠i/\IG (.n r a b) j=some u):=by
   intro r a b h;cases hi:Ai3 i 0 with
   | true =>
    rw [hi,cond_true] at h;have iU:=Ai7 hi;simp only [IG] at h ⊢;cases hj:Ai3 j 0 with
    | true =>
     have bh:=Ai7 hj;rw [hj,cond_true] at h;cases h;exact .inl ⟨by omega,rfl⟩
    | false =>
     have bh:=AjT hj;rw [hj,cond_false] at h;refine .inr ⟨by omega,?_⟩;rw [cond_false];exact h
   | false =>
    have iU:=AjT hi;rw [hi,cond_false] at h;cases hp:Ai3 (i % 2) 1 with
    | true =>
     have gM:=Ai7 hp;simp only [hp,cond_true,IG] at h ⊢;cases hj:Ai3 j 0 with
     | true=>simp only [hj,cond_true] at h ⊢;have:=Ai7 hj;exact .inr ⟨by omega,h⟩
     | false =>
      have bh:=AjT hj;simp only [hj,cond_false] at h ⊢;cases hq:Ai3 (j % 2) 1 with
      | true =>
       have gO:=Ai7 hq;simp only [hq,cond_true] at h ⊢;rcases Mz f a (i / 2) v (j / 2) h with ⟨h1,h2⟩ | ⟨h1,h2⟩
       ·exact .inl ⟨by omega,h2⟩
       ·exact .inr ⟨by omega,h2⟩
      | false =>
       have gO:=AjT hq;simp only [hq,cond_false] at h ⊢;exact .inr ⟨by omega,h⟩
    | false =>
     have gM:=AjT hp;simp only [hp,cond_false,IG] at h ⊢;cases hj:Ai3 j 0 with
     | true=>simp only [hj,cond_true] at h ⊢;have:=Ai7 hj;exact .inr ⟨by omega,h⟩
     | false =>
      have bh:=AjT hj;simp only [hj,cond_false] at h ⊢;cases hq:Ai3 (j % 2) 1 with
      | true =>
       have gO:=Ai7 hq;simp only [hq,cond_true] at h ⊢;exact .inr ⟨by omega,h⟩
      | false =>
       have gO:=AjT hq;simp only [hq,cond_false] at h ⊢;rcases Mz f b (i / 2-1) v (j / 2-1) h with ⟨h1,h2⟩ | ⟨h1,h2⟩
       ·exact .inl ⟨by omega,h2⟩
       ·exact .inr ⟨by omega,h2⟩
  cases t with
  | l =>
   rcases key none .l .l h with h | ⟨h1,h2⟩
   ·exact .inl h
   ·refine .inr ⟨h1,?_⟩;simp only [IG] at h2;cases hj:Ai3 j 0 <;> cases hq:Ai3 (j % 2) 1 <;> simp [hj,hq] at h2
  | n r a b=>exact key r a b h
noncomputable def QW (t:Ft):Nat->Option Value :=
 Ft.rec (motive:=λ _=>Nat->Option Value) (λ _=>none) (λ v _ _ ra rb i=>AjS (AjS (rb (Nat.sub (AjU i 2) 1)) (ra (AjU i 2)) (Ai3 (Nat.mod i 2) 1)) v (Ai3 i 0)) t
theorem Hl:∀(t:Ft) (i:Nat),QW t i=IG t i
 | .l,_=>rfl
 | .n v a b,i=>by
  show AjS (motive:=λ _=>Option Value) (AjS (motive:=λ _=>Option Value) (QW b (i / 2-1)) (QW a (i / 2)) (Ai3 (i % 2) 1)) v (Ai3 i 0)=_;rw [Hl a,Hl b]
  conv=>rhs;unfold IG
  cases Ai3 i 0 <;> cases Ai3 (i % 2) 1 <;> rfl
noncomputable def OT (f:Nat):Ft->Nat->Value->Ft :=
 Nat.rec (motive:=λ _=>Ft->Nat->Value->Ft) (λ _ _ _=>.l) (λ _ ih t i v =>
  Ft.rec (motive:=λ _=>Ft) (AjS (AjS (.n none .l (ih .l (Nat.sub (AjU i 2) 1) v)) (.n none (ih .l (AjU i 2) v) .l) (Ai3 (Nat.mod i 2) 1)) (.n (some v) .l .l) (Ai3 i 0))
   (λ u a b _ _=>AjS (AjS (.n u a (ih b (Nat.sub (AjU i 2) 1) v)) (.n u (ih a (AjU i 2) v) b) (Ai3 (Nat.mod i 2) 1)) (.n (some v) a b) (Ai3 i 0)) t) f
theorem Ho:∀(f:Nat) (t:Ft) (i:Nat) (v:Value),OT f t i v=My f t i v
 | 0,_,_,_=>rfl
 | f+1,.l,i,v=>by
  show AjS (motive:=λ _=>Ft) (AjS (motive:=λ _=>Ft) (Ft.n none .l (OT f .l (i / 2-1) v)) (Ft.n none (OT f .l (i / 2) v) .l) (Ai3 (i % 2) 1)) (Ft.n (some v) .l .l) (Ai3 i 0)=_;rw [Ho f,Ho f]
  conv=>rhs;unfold My
  cases Ai3 i 0 <;> cases Ai3 (i % 2) 1 <;> rfl
 | f+1,.n u a b,i,v=>by
  show AjS (motive:=λ _=>Ft) (AjS (motive:=λ _=>Ft) (Ft.n u a (OT f b (i / 2-1) v)) (Ft.n u (OT f a (i / 2) v) b) (Ai3 (i % 2) 1)) (Ft.n (some v) a b) (Ai3 i 0)=_;rw [Ho f,Ho f]
  conv=>rhs;unfold My
  cases Ai3 i 0 <;> cases Ai3 (i % 2) 1 <;> rfl
noncomputable def F9 (n:Nat) (t:Ft) (d:Option Nat) (v:Value):Ft :=
 match d with
 | none=>t
 | some d=>AjS t (OT 20 t d v) (Nat.ble (Nat.succ d) n)
def FR(g:Sg)(fr:Ft)(frc:Fr):Prop:=∀ i v,IG fr i=some v->∃ c,look frc i=some c/\R g v c
theorem Ad8{n:Nat}{fr:Fr}{d:Option Nat}{v:Value}{i:Nat}:look (put n fr d v) i=(if d=some i/\i<n then some v else look fr i):=by
 cases d with
 | none=>simp [put]
 | some d =>
  unfold put;cases hb:Ai8 d n with
  | true =>
   have hd:d<n:=by rw [Ai8,AjV] at hb;exact hb
   simp only [hb,cond_true];show (bif Ai3 d i then some v else look fr i)=_;by_cases h:d=i
   ·subst h;simp [hd]
   ·have:Ai3 d i=false:=by
     cases hb:Ai3 d i with
     | false=>rfl
     | true=>exact absurd (Ai7 hb) h
    rw [this];simp [h]
  | false =>
   have hd:¬ d<n:=by
    intro hd;have:Ai8 d n=true:=by rw [Ai8,AjV];exact hd
    rw [this] at hb;cases hb
   simp only [hb,cond_false];rw [if_neg];rintro⟨h,h'⟩;cases h;exact hd h'
theorem FR.put{n:Nat}{fr:Ft}{frc:Fr}(h:FR g fr frc)(d:Option Nat){v c:Value}(hr:R g v c):FR g (F9 n fr d v) (put n frc d c):=by
 intro i u hu;rw [Ad8];cases d with
 | none=>rw [if_neg (by simp)];exact h i u hu
 | some d =>
  replace hu:IG (bif Ai8 d n then My 20 fr d v else fr) i=some u:=by
   have e:F9 n fr (some d) v=bif Ai8 d n then My 20 fr d v else fr:=by
    show AjS (motive:=λ _=>Ft) fr (OT 20 fr d v) (Ai8 d n)=_;rw [Ho];cases Ai8 d n <;> rfl
   rw [<- e];exact hu
  cases hb:Ai8 d n with
  | true =>
   have hd:d<n:=by rw [Ai8,AjV] at hb;exact hb
   rw [hb,cond_true] at hu;rcases Mz 20 fr d v i hu with ⟨e1,e2⟩ | ⟨h1,h2⟩
   ·rw [if_pos ⟨by rw [e1],by rw [e1];exact hd⟩,e2];exact⟨c,rfl,hr⟩
   ·rw [if_neg (by rintro⟨e,_⟩;cases e;exact h1 rfl)];exact h i u h2
  | false =>
   rw [hb,cond_false] at hu;rw [if_neg]
   ·exact h i u hu
   ·rintro⟨e,hd⟩;rw [Option.some.inj e] at hb;have:Ai8 i n=true:=by rw [Ai8,AjV];exact hd
    rw [this] at hb;cases hb
theorem FR.le{g':Sg}{fr:Ft}{frc:Fr}(h:FR g fr frc)(hl:Le g g'):FR g' fr frc:=λ i v e=>let ⟨c,e1,e2⟩:=h i v e;⟨c,e1,Ag6 hl v e2⟩
theorem Rp(i:Nat)(c:Value)(frc:Fr)(j:Nat):look ((i,c) :: frc) j=(if i=j then some c else look frc j):=by
 show (bif Ai3 i j then some c else look frc j)=_;cases hb:Ai3 i j with
 | true=>have:=Ai7 hb;simp [this]
 | false=>have:=AjT hb;simp [this]
theorem FR.cons{fr:Ft}{frc:Fr}(h:FR g fr frc)(i:Nat){v c:Value}(hr:R g v c):FR g (My 20 fr i v) ((i,c) :: frc):=by
 intro j u hu;rw [Rp];rcases Mz 20 fr i v j hu with ⟨rfl,rfl⟩ | ⟨h1,h2⟩
 ·rw [if_pos rfl];exact⟨c,rfl,hr⟩
 ·rw [if_neg (λ e=>h1 e.symm)];exact h j u h2
theorem FR.again{fr:Ft}{frc:Fr}(h:FR g fr frc){i:Nat}{c:Value}(hc:look frc i=some c):FR g fr ((i,c) :: frc):=by
 intro j u hu;rw [Rp];split
 ·rename_i e;subst e;obtain⟨d,hd,hr⟩:=h _ u hu;rw [hc] at hd;cases hd;exact⟨_,rfl,hr⟩
 ·exact h j u hu
noncomputable def eO (fr:Ft):Operand->Option Value
 | .tmp t=>QW fr t
 | .const v=>if pl v then some v else none
 | .global b=>if b<FI then some (.pointer (some ⟨b,0,none⟩)) else none
 | .func f=>some (.func (.func f) #[] #[])
def ER(g:Sg)(e e':Operand->Option Value):Prop:=∀ x v,e x=some v->∃ c,e' x=some c/\R g v c
theorem Pq{fr:Ft}{frc:Fr}(h:FR g fr frc):ER g (eO fr) (D8 frc):=by
 intro x v hx;cases x with
 | tmp t=>exact h t v (by rw [<- Hl];exact hx)
 | const u =>
  simp only [eO] at hx;split at hx
  ·rename_i hp;cases hx;exact⟨_,rfl,(PJ _ hp).2 rfl⟩
  ·cases hx
 | global b =>
  simp only [eO] at hx;split at hx
  ·rename_i hp;cases hx;exact⟨_,rfl,by simp [R,ad,bk,hp]⟩
  ·cases hx
 | func f =>
  simp only [eO] at hx;cases hx;exact⟨_,rfl,by simp [R,RA,RL]⟩
end
section
variable {P:Program}{g:Sg}
theorem A3{α β:Type}(s:Sem α)(k:α->Sem β):Az P (s >>= k)=(Az P s).bind λ a=>Az P (k a):=by
 show Az P (Sem.bind s k)=_
 induction s with
 | pure a=>rfl
 | program f ih=>simp only [Sem.bind,Az];exact ih P
 | mark m s ih=>simp only [Sem.bind,Az];exact ih
 | _=>rfl
theorem Cj{α β:Type}(f:α->β)(s:Sem α):Az P (f <$> s)=(Az P s).map f:=by
 show Az P (Sem.bind s λ a=>Sem.pure (f a))=_;have:=A3 (P:=P) s (λ a=>(pure (f a):Sem β));exact this.trans (by cases Az P s <;> rfl)
theorem BK{α:Type}(a:α):Az P (pure a)=some a:=rfl
theorem A6(t:TypeId):Az P (underlying t)=P.underlying t:=by
 unfold underlying;rw [A3];show Az P _=_;cases h:P.underlying t <;> simp <;> rfl
theorem BZ(t:TypeId):Az P (typeInfo t)=P.info? t:=by
 unfold typeInfo;rw [A3];show Az P _=_;cases h:P.info? t <;> simp <;> rfl
/-! ## Operations whose operands hang on no place -/
def OV(o:Oper):Bool :=
 match o.op with
 | .unOp _ _ _ | .field _ _ _ | .extract _ _ | .build _ _ | .convert _ _ _ | .makeInterface _ _=>true
 | .call { callee:=.builtin b,.. } =>
  match b with
  | .len | .cap | .min | .max=>true
  | _=>false
 | _=>false
theorem execOp_congr{o:Oper}(hd:OV o=true){ρ ρ':Operand->Value}(h:∀ x∈o.op.operands,ρ x=ρ' x):execOp ρ o=execOp ρ' o:=by
 obtain⟨dst,op,type,pos,after,guard⟩:=o;unfold OV at hd;cases op with
 | unOp a b x=>simp [Op.operands] at h;simp [execOp,h]
 | field a x b=>simp [Op.operands] at h;simp [execOp,h]
 | extract x b=>simp [Op.operands] at h;simp [execOp,h]
 | convert a b x=>simp [Op.operands] at h;simp [execOp,h]
 | makeInterface a x=>simp [Op.operands] at h;simp [execOp,h]
 | build t ps =>
  have e:ps.map (λ (i,x)=>(i,ρ x))=ps.map (λ (i,x)=>(i,ρ' x)):=Array.map_congr_left λ p hp=>by
   have:=h p.2 (by simp [Op.operands];exact⟨p.1,hp⟩);simp [this]
  simp only [execOp,e]
 | call c =>
  obtain⟨callee,args,ats⟩:=c;cases callee with
  | builtin b =>
   have e:args.map ρ=args.map ρ':=Array.map_congr_left λ p hp=>h p (by simp [Op.operands,Call.operands];exact hp);simp only [execOp,resolve,e]
  | _=>simp at hd
 | _=>simp at hd
def AhT(e:Operand->Option Value)(xs:List Operand):Bool:=xs.all λ x=>match e x with | some v=>pl v | none=>false
def Ady(P:Program)(e:Operand->Option Value)(o:Oper):Option Value :=
 if AhT e o.op.operands.toList then (match Az P (execOp (KD e) o) with
  | some (.value v)=>if pl v then some v else none
  | _=>none) else none
theorem AaI{e e':Operand->Option Value}(h:ER g e e'){o:Oper}(hd:OV o=true){v:Value}(he:Ady P e o=some v){K:Value->Prop}(hk:∀ c,R g v c->K c):Bh P e' o K:=by
 unfold Ady at he;split at he
 ·rename_i ha;have hx:∀ x∈o.op.operands,e' x=e x/\(e x).isSome:=λ x hx=>by
   have:=AjW.1 ha x (by simpa using hx);cases hv:e x with
   | none=>simp [hv] at this
   | some u =>
    simp only [hv] at this;obtain⟨c,hc,hr⟩:=h x u hv;rw [(PJ u this).1 hr] at hc;exact⟨hc,rfl⟩
  have bY:known e' o=true:=AjW.2 λ x hm=>by
   have:=hx x (by simpa using hm);rw [this.1];exact this.2
  have hex:execOp (KD e') o=execOp (KD e) o:=execOp_congr hd λ x hm=>by simp [KD,(hx x hm).1]
  unfold Bh;rw [bY,cond_true,hex];split at he
  ·rename_i u hu;rw [hu];split at he
   ·rename_i hp;cases he;exact hk _ ((PJ _ hp).2 rfl)
   ·cases he
  ·cases he
 ·cases he
/-! ## Parts of values -/
def Mg(e:Operand->Option Value)(x:Operand)(i:Nat):Option Value :=
 match e x with
 | some (.tuple vs)=>vs.toList[i]?
 | _=>none
def AdD(P:Program)(t:TypeId)(cs:List Value)(off:Nat):Option Value :=
 match P.info? t with
 | none=>none
 | some i=>(match P.underlying t with
  | some (.struct _) | some (.array _ _)=>some (.agg ⟨(cs.drop off).take i.size⟩)
  | some _=>cs[off]?
  | none=>none)
def UT(P:Program)(e:Operand->Option Value)(t:TypeId)(x:Operand)(f:Nat):Option Value :=
 match P.underlying t,e x with
 | some (.struct fs),some (.agg cs)=>(match fs[f]? with
  | some fl=>AdD P fl.type cs.toList fl.offset
  | none=>none)
 | _,_=>none
theorem Aav{vs:Array Value}{c:Value}(h:R g (.tuple vs) c):∃ cs,c=.tuple cs/\RL g vs.toList cs.toList:=by
 cases c with
 | tuple cs=>simp only [R,Fb] at h;exact⟨cs,rfl,h⟩
 | _=>simp [R] at h
theorem Wn{vs:Array Value}{c:Value}(h:R g (.agg vs) c):∃ cs,c=.agg cs/\RL g vs.toList cs.toList:=by
 cases c with
 | agg cs=>simp only [R,Fb] at h;exact⟨cs,rfl,h⟩
 | _=>simp [R] at h
theorem VO{t:TypeId}{cs:List Value}{off:Nat}{v:Value}(he:AdD P t cs off=some v){cc:Array Value}(hr:RL g cs cc.toList):∃ c,Az P (part t cc off)=some c/\R g v c:=by
 unfold AdD at he;split at he
 ·cases he
 ·rename_i i hi;unfold part isAgg sizeOf;split at he
  ·rename_i hu;cases he;refine⟨.agg (cc.extract off (off+i.size)),?_,?_⟩
   ·simp [A3,A6,hu,BK,Cj,BZ,hi]
   ·simp only [R,Fb];have:=GK i.size (HF off hr);simpa [List.extract_eq_take_drop] using this
  ·rename_i hu;cases he;refine⟨.agg (cc.extract off (off+i.size)),?_,?_⟩
   ·simp [A3,A6,hu,BK,Cj,BZ,hi]
   ·simp only [R,Fb];have:=GK i.size (HF off hr);simpa [List.extract_eq_take_drop] using this
  ·rename_i d h1 h2 hu;obtain⟨y,hy,hry⟩:=Wm hr off he;refine⟨y,?_,hry⟩;have iA:cc[off]?=some y:=by simpa using hy
   simp only [A3,A6,hu,Option.bind_some];simp [iA,BK]
  ·cases he
theorem WS{e e':Operand->Option Value}(h:ER g e e'){o:Oper}{x:Operand}{i:Nat}(ho:o.op=.extract x i){v:Value}(he:Mg e x i=some v){K:Value->Prop}(hk:∀ c,R g v c->K c):Bh P e' o K:=by
 unfold Mg at he;split at he
 ·rename_i vs hv;obtain⟨c,hc,hr⟩:=h _ _ hv;obtain⟨cs,rfl,bE⟩:=Aav hr;obtain⟨y,hy,hry⟩:=Wm bE i he;unfold Bh;have bY:known e' o=true:=by simp [known,ho,Op.operands,hc]
  have iA:cs[i]?=some y:=by simpa using hy
  rw [bY,cond_true];have:Az P (execOp (KD e') o)=some (.value y):=by
   obtain⟨dst,op,type,pos,after,guard⟩:=o;simp only at ho;subst ho;simp [execOp,KD,hc,Instr.extract,iA,BK]
  rw [this];exact hk _ hry
 ·cases he
theorem AbJ{e e':Operand->Option Value}(h:ER g e e'){o:Oper}{t:TypeId}{x:Operand}{f:Nat}(ho:o.op=.field t x f){v:Value}(he:UT P e t x f=some v){K:Value->Prop}(hk:∀ c,R g v c->K c):Bh P e' o K:=by
 unfold UT at he;split at he
 ·rename_i fs cs hu hv;split at he
  ·rename_i fl jx;obtain⟨c,hc,hr⟩:=h _ _ hv;obtain⟨cc,rfl,bE⟩:=Wn hr;obtain⟨y,hy,hry⟩:=VO he bE;unfold Bh;have bY:known e' o=true:=by simp [known,ho,Op.operands,hc]
   rw [bY,cond_true];have:Az P (execOp (KD e') o)=some (.value y):=by
    obtain⟨dst,op,type,pos,after,guard⟩:=o;simp only at ho;subst ho;simp [execOp,KD,hc,Instr.field,asAgg,jx,A3,Cj,A6,hu,hy]
   rw [this];exact hk _ hry
  ·cases he
 ·cases he
/-! ## A value of parts -/
def bInfo(P:Program)(t:TypeId):Option (Array Value × (Nat->Option (Nat × Nat))) :=
 match P.info? t with
 | none=>none
 | some i=>(match i.zero with
  | none=>none
  | some z=>(match P.underlying t with
   | some (.struct fs)=>(match fs.toList.mapM λ f=>(P.info? f.type).map λ i=>(f.offset,i.size) with
    | some l=>some (z.cells,λ j=>l[j]?)
    | none=>none)
   | some (.array _ el)=>(match P.info? el with
    | some i=>some (z.cells,λ j=>some (j*i.size,i.size))
    | none=>none)
   | _=>none))
theorem M9{α β:Type}{f:α->Sem β}{f':α->Option β}(hf:∀ a b,f' a=some b->Az P (f a)=some b):∀ {l:List α} {bs:List β},l.mapM f'=some bs->Az P (l.mapM f)=some bs
 | [],bs,h=>by simp at h;subst h;rfl
 | a :: l,bs,h=>by
  cases ha:f' a with
  | none=>simp [ha] at h
  | some b =>
   cases hl:l.mapM f' with
   | none=>simp [ha,hl] at h
   | some r =>
    simp [ha,hl] at h;subst h;simp [A3,hf a b ha,Cj,M9 hf hl]
theorem Abv{t:TypeId}{z:Array Value}{pf:Nat->Option (Nat × Nat)}(h:bInfo P t=some (z,pf)){ps:Array (Nat × Value)}{cs:Array Value}(hc:Instr.fill pf z ps.toList=some cs):Az P (Instr.build t ps)=some (.agg cs):=by
 unfold bInfo at h;split at h
 ·cases h
 ·rename_i i hi;split at h
  ·cases h
  ·rename_i z' hz;have jV:Az P (zeroValue t)=some z':=by
    unfold zeroValue;simp [A3,BZ,hi,hz,BK]
   split at h
   ·rename_i fs hu;split at h
    ·rename_i l hl;cases h;have hm:Az P (fs.mapM λ f=>do pure (f.offset,<- sizeOf f.type))=some l.toArray:=by
      rw [Array.mapM_eq_mapM_toList,Cj,M9 (f':=λ f=>(P.info? f.type).map λ i=>(f.offset,i.size)) _ hl]
      ·rfl
      ·intro a b mW;cases nD:P.info? a.type with
       | none=>simp [nD] at mW
       | some ia=>simp [nD] at mW;subst mW;simp [sizeOf,Cj,BZ,nD]
     have eg:=hm;simp only [bind_pure_comp,Functor.map_map,sizeOf] at eg;simp [Instr.build,A3,jV,A6,hu,sizeOf,eg,hc,BK]
    ·cases h
   ·rename_i n el hu;split at h
    ·rename_i ie gm;cases h;simp [Instr.build,A3,jV,A6,hu,sizeOf,BZ,gm,hc,BK]
    ·cases h
   ·cases h
end
section
variable {P:Program}{g:Sg}
theorem UJ:∀ {v c:Value},R g v c->RL g v.cells.toList c.cells.toList:=by
 intro v c h;cases v with
 | agg cs=>obtain⟨cc,rfl,h'⟩:=Wn h;exact h'
 | _ =>
  have hc:c.cells=#[c]:=by
   cases c with
   | agg cs=>first | (simp [R] at h;done) | (simp [R,IL] at h;done) | (rename_i p;cases p <;> simp [R] at h)
   | _=>rfl
  rw [hc];simp only [Value.cells,RL];exact⟨h,trivial⟩
theorem AdM{off:Nat}:∀ {xs ys:List Value} (k:Nat) {a c:Array Value},RL g xs ys->RL g a.toList c.toList ->
  RL g ((xs.zipIdx k).foldl (λ (cs:Array Value) (p:Value × Nat)=>cs.setIfInBounds (off+p.2) p.1) a).toList ((ys.zipIdx k).foldl (λ (cs:Array Value) (p:Value × Nat)=>cs.setIfInBounds (off+p.2) p.1) c).toList
 | [],_,k,a,c,h,h'=>by simp only [RL] at h;subst h;exact h'
 | x :: xs,[],_,_,_,h,_=>by simp [RL] at h
 | x :: xs,y :: ys,k,a,c,h,h'=>by
  simp only [RL] at h;simp only [List.zipIdx_cons,List.foldl_cons];refine AdM (k+1) h.2 ?_;simp only [Array.toList_setIfInBounds];exact Qx _ h' h.1
def PR(g:Sg):List (Nat × Value)->List (Nat × Value)->Prop
 | [],c=>c=[]
 | x :: xs,c=>match c with
  | []=>False
  | y :: ys=>y.1=x.1/\R g x.2 y.2/\PR g xs ys
theorem Zn{pf:Nat->Option (Nat × Nat)}:∀ {pa pc:List (Nat × Value)} {a c r:Array Value},PR g pa pc->RL g a.toList c.toList->Instr.fill pf a pa=some r->∃ r',Instr.fill pf c pc=some r'/\RL g r.toList r'.toList
 | [],_,a,c,r,h,h',hf=>by simp only [PR] at h;subst h;simp only [Instr.fill] at hf;cases hf;exact⟨c,rfl,h'⟩
 | x :: xs,[],_,_,_,h,_,_=>by simp [PR] at h
 | (i,v) :: xs,(j,u) :: ys,a,c,r,h,h',hf=>by
  simp only [PR] at h;obtain⟨rfl,hr,h⟩:=h;unfold Instr.fill at hf ⊢;split at hf
  ·cases hf
  ·rename_i off size hp;have jt:=UJ hr;have hlen:u.cells.size=v.cells.size:=by have:=Fe jt;simpa using this
   have bC:c.size=a.size:=by have:=Fe h';simpa using this
   simp only [hlen,bC];split at hf
   ·cases hf
   ·rename_i hb;rw [if_neg hb];refine Zn h ?_ hf;have:=AdM (off:=off) 0 jt h';rw [<- Array.foldl_toList,<- Array.foldl_toList,Array.toList_zipIdx,Array.toList_zipIdx];exact this
def JV(e:Operand->Option Value):List (Nat × Operand)->Option (List (Nat × Value))
 | []=>some []
 | x :: xs=>match e x.2,JV e xs with
  | some v,some vs=>some ((x.1,v) :: vs)
  | _,_=>none
theorem NU{e e':Operand->Option Value}(h:ER g e e'):∀ {xs:List (Nat × Operand)} {vs:List (Nat × Value)},JV e xs=some vs->PR g vs (xs.map λ p=>(p.1,KD e' p.2))/\∀ x∈xs,(e' x.2).isSome
 | [],vs,hv=>by simp [JV] at hv;subst hv;simp [PR]
 | x :: xs,vs,hv=>by
  unfold JV at hv;split at hv
  ·rename_i v us h1 h2;cases hv;obtain⟨c,hc,hr⟩:=h _ _ h1;obtain⟨ih,ih'⟩:=NU h h2;refine⟨?_,?_⟩
   ·simp only [List.map_cons,PR];exact⟨trivial,by simpa [KD,hc] using hr,ih⟩
   ·intro y hy;rcases List.mem_cons.1 hy with rfl | hy
    ·simp [hc]
    ·exact ih' y hy
  ·cases hv
def Y9(P:Program)(e:Operand->Option Value)(t:TypeId)(parts:List (Nat × Operand)):Option Value :=
 match bInfo P t with
 | none=>none
 | some (z,pf)=>if LN z.toList then (match JV e parts with
  | some ps=>(match Instr.fill pf z ps with
   | some cs=>some (.agg cs)
   | none=>none)
  | none=>none) else none
theorem AbH{e e':Operand->Option Value}(h:ER g e e'){o:Oper}{t:TypeId}{ps:Array (Nat × Operand)}(ho:o.op=.build t ps){v:Value}(he:Y9 P e t ps.toList=some v){K:Value->Prop}(hk:∀ c,R g v c->K c):Bh P e' o K:=by
 unfold Y9 at he;split at he
 ·cases he
 ·rename_i z pf hb;split at he
  ·rename_i hz;split at he
   ·rename_i qs hq;split at he
    ·rename_i cs hf;cases he;obtain⟨h1,h2⟩:=NU h hq;obtain⟨r,hr,jO⟩:=Zn h1 ((MT _ hz).2 rfl) hf;have bY:known e' o=true:=by
      simp only [known,ho,Op.operands];refine AjW.2 λ x hx=>?_;simp only [List.mem_map] at hx;obtain⟨p,hp,rfl⟩:=hx;exact h2 p hp
     unfold Bh;rw [bY,cond_true];have:Az P (execOp (KD e') o)=some (.value (.agg r)):=by
      obtain⟨dst,op,type,pos,after,guard⟩:=o;simp only at ho;subst ho;have:=Abv hb (ps:=ps.map λ p=>(p.1,KD e' p.2)) (by simpa using hr);simp only [execOp,bind_pure_comp,Cj];rw [this];rfl
     rw [this];exact hk _ (by simp only [R,Fb];exact jO)
    ·cases he
   ·cases he
  ·cases he
theorem Mj{e e':Operand->Option Value}(h:ER g e e'):∀ {xs:List Operand} {vs:List Value},Hj e xs=some vs->∃ cs,Hj e' xs=some cs/\RL g vs cs/\xs.map (KD e')=cs/\∀ x∈xs,(e' x).isSome
 | [],vs,hv=>by simp [Hj] at hv;subst hv;exact⟨[],rfl,by simp [RL],rfl,by simp⟩
 | x :: xs,vs,hv=>by
  unfold Hj at hv;split at hv
  ·rename_i v us h1 h2;cases hv;obtain⟨c,hc,hr⟩:=h _ _ h1;obtain⟨cs,ih,ih1,ih2,ih3⟩:=Mj h h2;refine⟨c :: cs,by simp [Hj,hc,ih],by simp only [RL];exact⟨hr,ih1⟩,by simp [KD,hc];simpa using ih2,?_⟩;intro y hy;rcases List.mem_cons.1 hy with rfl | hy
   ·simp [hc]
   ·exact ih3 y hy
  ·cases hv
def NT(e:Operand->Option Value)(fn:Fn)(fi ca:List Operand):Option Value :=
 match fn,Hj e fi,Hj e ca with
 | .func f,some vs,some us=>some (.func (.func f) ⟨vs⟩ ⟨us⟩)
 | _,_,_=>none
theorem U1{e e':Operand->Option Value}(h:ER g e e'){o:Oper}{fn:Fn}{fi ca:Array Operand}(ho:o.op=.makeFunc fn fi ca){v:Value}(he:NT e fn fi.toList ca.toList=some v){K:Value->Prop}(hk:∀ c,R g v c->K c):Bh P e' o K:=by
 unfold NT at he;split at he
 ·rename_i f vs us h1 h2;cases he;obtain⟨cs,_,r1,m1,k1⟩:=Mj h h1;obtain⟨ds,_,r2,m2,k2⟩:=Mj h h2;have bY:known e' o=true:=by
   simp only [known,ho,Op.operands];refine AjW.2 λ x hx=>?_;rcases (by simpa using hx:x∈fi\/x∈ca) with hx | hx
   ·exact k1 x (by simpa using hx)
   ·exact k2 x (by simpa using hx)
  unfold Bh;rw [bY,cond_true];have:Az P (execOp (KD e') o)=some (.value (.func (.func f) ⟨cs⟩ ⟨ds⟩)):=by
   obtain⟨dst,op,type,pos,after,guard⟩:=o;simp only at ho;subst ho;have e1:fi.map (KD e')=⟨cs⟩:=Array.ext' (by simpa using m1);have e2:ca.map (KD e')=⟨ds⟩:=Array.ext' (by simpa using m2);simp only [execOp,Instr.makeFunc,e1,e2];rfl
  rw [this];exact hk _ (by simp only [R,RA];exact⟨trivial,r1,r2⟩)
 ·cases he
def AgU(P:Program)(e:Operand->Option Value)(ts:List TypeId)(xs:List Operand):Option Value :=
 match ts,xs with
 | t :: _,[x]=>(match P.underlying t,e x with
  | some (.slice _),some (.slice _ l _)=>some (.int .i64 l)
  | _,_=>none)
 | _,_=>none
theorem Afc{e e':Operand->Option Value}(h:ER g e e'){o:Oper}{c:Call}(ho:o.op=.call c)(hb:c.callee=.builtin .len){v:Value}(he:AgU P e c.argTypes.toList c.args.toList=some v){K:Value->Prop}(hk:∀ c,R g v c->K c):Bh P e' o K:=by
 obtain⟨callee,⟨args⟩,⟨ts⟩⟩:=c;simp only at hb;subst hb;unfold AgU at he;split at he
 ·rename_i t r x h1 h2;simp only at h1 h2;subst h1;subst h2;split at he
  ·rename_i el p l k hu hx;cases he;obtain⟨c,hc,hr⟩:=h _ _ hx;cases c with
   | slice p' l' k' =>
    simp only [R,IL] at hr;obtain⟨rfl,_⟩:=hr;have bY:known e' o=true:=by simp [known,ho,Op.operands,Call.operands,hc]
    unfold Bh;rw [bY,cond_true];have:Az P (execOp (KD e') o)=some (.value (.int .i64 l')):=by
     obtain⟨dst,op,type,pos,after,guard⟩:=o;simp only at ho;subst ho;simp [execOp,resolve,invoke,builtin,Builtin.len_,KD,hc,A3,Cj,A6,hu,BK,goInt]
    rw [this];exact hk _ (by simp [R])
   | _=>simp [R,IL] at hr
  ·cases he
 ·cases he
end
section
variable {P:Program}{g:Sg}
def UW(op:BinOp)(k k':IntKind)(a b:Int):Option Value :=
 match op with
 | .shl=>bif decide (0<=b) then some (.int k (k.wrap (a*2 ^ (min b.toNat k.bits)))) else none
 | .shr=>bif decide (0<=b) then some (.int k (a.fdiv (2 ^ (min b.toNat k.bits)))) else none
 | op=>bif Bn k k' then
  match op with
  | .add=>some (.int k (k.wrap (a+b)))
  | .sub=>some (.int k (k.wrap (a-b)))
  | .mul=>some (.int k (k.wrap (a*b)))
  | .quo=>bif decide (b=0) then none else some (.int k (k.wrap (a.tdiv b)))
  | .rem=>bif decide (b=0) then none else some (.int k (a.tmod b))
  | .and=>some (.int k (k.wrap (Ai2 k.bits a &&& Ai2 k.bits b).toNat))
  | .or=>some (.int k (k.wrap (Ai2 k.bits a ||| Ai2 k.bits b).toNat))
  | .xor=>some (.int k (k.wrap (Ai2 k.bits a ^^^ Ai2 k.bits b).toNat))
  | .andNot=>some (.int k (k.wrap (Ai2 k.bits a &&& ~~~(Ai2 k.bits b)).toNat))
  | .eql=>some (.bool (a==b))
  | .neq=>some (.bool (a != b))
  | .lss=>some (.bool (decide (a<b)))
  | .leq=>some (.bool (decide (a<=b)))
  | .gtr=>some (.bool (decide (a > b)))
  | .geq=>some (.bool (decide (a>=b)))
  | _=>none
 else none
theorem Bg{c:Bool}{x v:Value}(h:(bif c then some x else none)=some v):c=true/\x=v:=by cases c <;> simp_all
theorem I6{c:Bool}{X:Prop}(h:c=true)(x:X):bif c then X else False:=by rw [h];exact x
theorem QH{c:Bool}{x v:Value}(h:(bif c then none else some x)=some v):c=false/\x=v:=by cases c <;> simp_all
theorem AaJ{op:BinOp}{k k':IntKind}{a b:Int}{v:Value}(h:UW op k k' a b=some v){K:Value->Prop}(hk:K v):Ku op k k' a b K:=by
 cases op <;> first
  | (obtain⟨h1,rfl⟩:=Bg h;exact⟨of_decide_eq_true h1,hk⟩)
  | (simp only [UW] at h;cases hb:Bn k k' <;> simp only [hb,cond_true,cond_false] at h <;> simp only [Ku,hb,cond_true,cond_false] <;> first | (cases h;done) | (cases h;exact hk) | (obtain⟨h1,rfl⟩:=QH h;exact⟨of_decide_eq_false h1,hk⟩))
theorem Adz{op:BinOp}{k k':IntKind}{a b:Int}{v:Value}(h:UW op k k' a b=some v){K:Value->Prop}(hk:K v):N1 op k k' a b K:=by
 cases op <;> first
  | (obtain⟨h1,rfl⟩:=Bg h;simp only [N1,h1,cond_true];exact hk)
  | (exact AaJ h hk)
  | (simp only [UW] at h;cases hb:Bn k k' <;> simp only [hb,cond_true,cond_false] at h <;> first | (cases h;done) | (obtain⟨h1,rfl⟩:=QH h;simp only [N1,h1,hb,cond_true,cond_false];exact hk))
def Afg(op:BinOp)(a b:ByteArray):Option Value :=
 match op with
 | .add=>bif decide (a.size+b.size<=9223372036854775807) then some (.string (a++b)) else none
 | .eql=>some (.bool (Au a b))
 | .neq=>some (.bool (!Au a b))
 | .lss=>some (.bool (FJ a b))
 | .leq=>some (.bool (FJ a b || Au a b))
 | .gtr=>some (.bool (!(FJ a b || Au a b)))
 | .geq=>some (.bool (!FJ a b))
 | _=>none
theorem Afh{op:BinOp}{a b:ByteArray}{v:Value}(h:Afg op a b=some v){K:Value->Prop}(hk:K v):Abf op a b K:=by
 cases op <;> first
  | (obtain⟨h1,rfl⟩:=Bg h;exact⟨of_decide_eq_true h1,hk⟩)
  | (simp only [Afg] at h;cases h;exact hk)
  | (simp [Afg] at h)
def Afv(P:Program)(t:TypeId):Bool:=match P.underlying t with | some .bool=>true | _=>false
def Afw(P:Program)(t:TypeId):Bool:=match P.underlying t with | some (.pointer _)=>true | _=>false
def Ah2(P:Program)(t:TypeId):Bool:=match P.underlying t with | some (.slice _)=>true | _=>false
def Ag5(P:Program)(t:TypeId):Bool:=match P.underlying t with | some (.map _ _)=>true | _=>false
def Agn(P:Program)(t:TypeId):Bool:=match P.underlying t with | some (.func _ _ _)=>true | _=>false
def AgS(P:Program)(neg:Bool)(t:TypeId)(x y:Value):Option Value :=
 match x,y with
 | .bool a,.bool b=>bif Afv P t then some (D7 neg (a==b)) else none
 | .pointer p,.pointer none=>bif Afw P t then some (D7 neg p.isNone) else none
 | .slice p _ _,.slice none _ _=>bif Ah2 P t then some (D7 neg p.isNone) else none
 | .map p,.map none=>bif Ag5 P t then some (D7 neg p.isNone) else none
 | .nilFunc,.nilFunc=>bif Agn P t then some (D7 neg true) else none
 | .func _ _ _,.nilFunc=>bif Agn P t then some (D7 neg false) else none
 | .agg xs,.agg ys=>bif plA xs && plA ys && !P.eqGuardType P.depth t then (match eqV P 5 t (.agg xs) (.agg ys) with | some b=>some (D7 neg b) | none=>none) else none
 | _,_=>none
theorem Afa{op:BinOp}{neg:Bool}(hn:isNeg op=some neg){t:TypeId}{x y v x' y':Value}(h:AgS P neg t x y=some v)(hx:R g x x')(hy:R g y y'){K:Value->Prop}(hk:K v):OR P op t x' y' K:=by
 unfold OR;rw [hn];unfold AgS at h;split at h
 ·obtain⟨h1,rfl⟩:=Bg h;simp only [R] at hx hy;subst hx;subst hy;exact I6 h1 hk
 ·rename_i p;obtain⟨h1,rfl⟩:=Bg h;simp only [R] at hy;subst hy;cases p with
  | none=>simp only [R] at hx;subst hx;exact I6 h1 hk
  | some a=>simp only [R] at hx;obtain⟨a',_,rfl⟩:=hx;exact I6 h1 hk
 ·rename_i p l c l2 c2;obtain⟨h1,rfl⟩:=Bg h;cases y' with
  | slice q l3 c3 =>
   simp only [R,IL] at hy;obtain⟨_,rfl,_⟩:=hy;cases x' with
   | slice p' l4 c4 =>
    simp only [R,IL] at hx;have e:p'.isNone=p.isNone:=by
     cases p with
     | none=>rw [hx.2.1]
     | some a =>
      have aV:p'≠none:=by rcases hx.2.2 with ⟨_,_,h⟩ | ⟨_,_,h,_⟩ <;> exact h
      cases p' with
      | none=>exact absurd rfl aV
      | some a'=>rfl
    rw [<- e] at hk;exact I6 h1 hk
   | _=>simp [R,IL] at hx
  | _=>simp [R,IL] at hy
 ·rename_i p;obtain⟨h1,rfl⟩:=Bg h;simp only [R] at hy;subst hy;cases p with
  | none=>simp only [R] at hx;subst hx;exact I6 h1 hk
  | some a=>simp only [R] at hx;obtain⟨a',_,rfl⟩:=hx;exact I6 h1 hk
 ·obtain⟨h1,rfl⟩:=Bg h;simp only [R] at hx hy;subst hx;subst hy;exact I6 h1 hk
 ·obtain⟨h1,rfl⟩:=Bg h;simp only [R] at hy;subst hy;cases x' with
  | func _ _ _=>exact I6 h1 hk
  | _=>simp [R] at hx
 ·rename_i xs ys;cases hb:plA xs && plA ys && !P.eqGuardType P.depth t with
  | false=>simp [hb] at h
  | true =>
   simp only [hb,cond_true] at h;simp only [Ai6,Bool.not_eq_true'] at hb;obtain⟨cs,rfl,dV⟩:=Wn hx;obtain⟨ds,rfl,lX⟩:=Wn hy;have e1:cs=xs:=(Ud xs hb.1.1).1 (Fb.2 dV);have e2:ds=ys:=(Ud ys hb.1.2).1 (Fb.2 lX);subst e1;subst e2;simp only [hb.2,cond_false];split at h
   ·rename_i b fG;rw [fG];cases h;exact hk
   ·cases h
 ·cases h
def UX:Value->Option Bool
 | .nilIface=>some true
 | .iface _ _=>some false
 | _=>none
def Ae6(P:Program)(e:Operand->Option Value)(op:BinOp)(t:TypeId)(x y:Operand):Option Value :=
 match e x,e y with
 | some u,some .nilIface=>(match isNeg op,UX u with
  | some neg,some b=>bif Bx y && MF P t then some (D7 neg b) else none
  | _,_=>none)
 | some (.int k a),some (.int k' b)=>UW op k k' a b
 | some (.string a),some (.string b)=>Afg op a b
 | some u,some v=>(match isNeg op with
  | some neg=>AgS P neg t u v
  | none=>none)
 | _,_=>none
theorem Ae7{e e':Operand->Option Value}(h:ER g e e'){op:BinOp}{t:TypeId}{x y:Operand}{v:Value}(he:Ae6 P e op t x y=some v){K:Value->Prop}(hk:K v):Wx P e' op t x y K:=by
 unfold Ae6 at he;split at he
 ·rename_i u hu hy;obtain⟨c,hc,hr⟩:=h _ _ hu;obtain⟨d,hd,bE⟩:=h _ _ hy;simp only [R] at bE;subst bE;split at he
  ·rename_i neg b hn hb;obtain⟨h1,rfl⟩:=Bg he;unfold Wx;rw [hd];simp only [hc,GX,AbR,Aed,hn,h1,cond_true];cases u with
   | nilIface=>simp only [R] at hr;subst hr;simp only [UX] at hb;cases hb;exact hk
   | iface t w =>
    simp only [UX] at hb;cases hb;cases c with
    | iface _ _=>exact hk
    | _=>simp [R] at hr
   | _=>simp [UX] at hb
  ·cases he
 ·rename_i k a k' b _ hx hy;obtain⟨c,hc,hr⟩:=h _ _ hx;obtain⟨d,hd,bE⟩:=h _ _ hy;simp only [R] at hr bE;subst hr;subst bE;unfold Wx;rw [hd];simp only [Tw,hc,hd];cases uE:Bx y with
  | true=>exact Adz he hk
  | false=>exact AaJ he hk
 ·rename_i a b _ hx hy;obtain⟨c,hc,hr⟩:=h _ _ hx;obtain⟨d,hd,bE⟩:=h _ _ hy;simp only [R] at hr bE;subst hr;subst bE;unfold Wx;rw [hd];simp only [Tw,hc,hd];exact Afh he hk
 ·rename_i u w h1 h2 h3 hx hy;split at he
  ·rename_i neg hn;obtain⟨c,hc,hr⟩:=h _ _ hx;obtain⟨d,hd,bE⟩:=h _ _ hy;have key:=Afa hn he hr bE hk;have pB:d≠.nilIface:=by
    rintro rfl;cases w <;> simp [R,IL] at bE <;> first | exact h1 rfl | (rename_i p;cases p <;> simp at bE)
   have e1:Wx P e' op t x y K=Tw P e' op t x y K:=by
    unfold Wx;rw [hd];cases d <;> first | rfl | exact absurd rfl pB
   rw [e1];have e2:AbR P (Bx y) op t c d K=OR P op t c d K:=by
    cases d <;> first | rfl | exact absurd rfl pB
   unfold Tw;rw [hc,hd];split
   ·rename_i k a k' b dI kN;cases dI;cases kN;exact absurd key (by simp [OR,hn])
   ·rename_i a b dI kN;cases dI;cases kN;exact absurd key (by simp [OR,hn])
   ·rename_i u' v' _ _ dI kN;cases dI;cases kN;rw [e2];exact key
   ·rename_i h1 h2 h3;exact absurd rfl (h3 _ _ rfl)
  ·cases he
 ·cases he
end
end Go.Dn
