/-
  Texts of this claim, laid one behind the other by a program of mine (install.py): Y.Hash4, Y.Hash5, Y.Hash6, Y.Hash7, Y.Hash8, Y.Hash9, Y.Hash10, Y.Hash11, Y.Sch1, Y.Sch2, Y.Sch3, Y.Sch4, Y.Sig, Y.ValB, Y.Len, Y.Width, Y.Pack, Y.Pack2, Y.Pack3, Y.Iter, Dn.Maps, Y.Rise, Y.ValA, Y.VLay, Y.ReadB, Y.Show, Dn.MapsB, Dn.St, Dn.St2, Dn.St3, Dn.Ld, Dn.Lit, Dn.Ev1, Dn.Ev2.
-/
import Derived.Test.YtoepjfblppfabaaGreatDoorM3
import Derived.Shelf.SlIter.Nil
import Derived.Shelf.SortM.Plain
import Derived.Shelf.SortM.SortNone
import Derived.Ground.GgzProg
import Derived.Ground.SlgmProg
import Derived.Test.YtoepjfblppfabaaGreatDoorProg
import Derived.Maps.Own
import Derived.Maps.Views
import Derived.Sort.KeysCollected
import Derived.Test.YtoepjfblppfabaaGreatDoorRead
import Derived.Test.YtoepjfblppfabaaGreatDoorM1
import Derived.Test.YtoepjfblppfabaaGreatDoorM2
namespace Go.Proofs.YtoepjfblppfabaaGreatDoor
open _root_.Int renaming toNat_natCast -> AnF
open _root_.List renaming length_map -> AnS, replicate -> AnP
open _root_.UInt8 renaming ofNat -> AnG
set_option maxRecDepth 100000
open Go.Dn Go.Proofs
open Go.RowKit (Below)
set_option linter.unusedVariables false
def Aba(n:Nat):List UInt8:=AnP n 0
def Tk(l:List UInt8)(p:Nat):List UInt8:=(l.drop p).take 64++Aba (64-min (l.length-p) 64)
theorem VM(l:List UInt8)(p:Nat):(Tk l p).length=64:=by
 simp [Tk,Aba];omega
def JM(l:List UInt8)(p:Nat):Nat:=p+min (l.length-p) 64
def Mp(l:List UInt8):Nat->List Wd
 | 0=>Eu.set 0 (Eu.getD 0 0 ^^^ 16842784)
 | k+1=>Aaa (Mp l k) (Tk l (64*k)) (JM l (64*k)) (JM l (64*k)==l.length)
theorem AeT(h:List Wd)(CK:List UInt8)(n:Nat)(last:Bool):(Aaa h CK n last).length=h.length:=by
 unfold Aaa;rw [AbT]
theorem UH(l:List UInt8):∀ k,(Mp l k).length=8
 | 0=>by simp [Mp,Eu]
 | k+1=>by rw [Mp,AeT,UH l k]
def AkU(l:List UInt8):Nat:=max 1 ((l.length+63) / 64)
def AmZ(h:List Wd)(i:Nat):UInt8:=AnG ((h.getD (i / 4) 0) >>> (8*(i % 4))).toNat
def XJ(h:List Wd):Nat->List UInt8
 | 0=>Aba 32
 | i+1=>(XJ h i).set i (AmZ h i)
theorem Uk(h:List Wd):∀ i,(XJ h i).length=32
 | 0=>by simp [XJ,Aba]
 | i+1=>by simp [XJ,Uk h i]
def RF(l:List UInt8):List UInt8:=XJ (Mp l (AkU l)) 32
theorem Af7(v:List UInt8):∀ x∈v.map Af,x.oneCell'=true:=by
 rw [LX];exact TV _ _
section
variable {F:Nat->Prop}{w0 w:World}{H:List Yy}
theorem _root_.Go.Dn.SH.AlS(S:SH F w0 w H)(n:Nat){b:Nat}{v:List UInt8}{t:TypeId}(hn:H[n]?=some (b,⟨v.map Af⟩,t)){j x:Nat}(hj:j<v.length)(hx:x=j){y:UInt8}{k:World->Prop}
  (hk:∀ w',SH F w0 w' (H.set n (b,⟨(v.set j y).map Af⟩,t))->k w'):Cd ((⟨b,0,none⟩:Addr).add (x*1)) (.int .u8 (y.toNat:Int)) k w:=by
 subst hx;rw [Am,Nat.zero_add,Nat.mul_one];refine S.Cr n hn (by simpa using hj) λ w' S'=>hk w' ?_;have e:(⟨v.map Af⟩:Array Value).setIfInBounds x (.int .u8 (y.toNat:Int))=⟨(v.set x y).map Af⟩:=by
  apply Array.ext';simp [Af,List.map_set]
 rw [e] at S';exact S'
end
theorem AeY(x:Wd)(k:Nat)(hk:k<=32):IntKind.u8.wrap (Int.fdiv (x.toNat:Int) (2 ^ (min k 32)))=((AnG (x >>> k).toNat).toNat:Int):=by
 rw [Nat.min_eq_left hk,I9,wrap_u8];simp
theorem Kx{w:World}(T:PB w){a:Option Addr}{c:Nat}(ps:List Hx)(hp:Rd w a (ps.map BQ))(hb:∀ p∈ps,Rd w p.1 (p.2.2.map Af))(hn:ps.length<9223372036854775807)(hl:(BJ ps).length<=140737488355328) :
  Calls Tryz.prog f.TL #[.slice a ps.length c] w (AB λ v w'=>v=.agg ⟨(RF (BJ ps)).map Af⟩/\Below w.heap.size w w'):=by
 apply R.TM
 delta R.A R.B R.Cs R.D R.F R.G R.I R.Lv R.Qi R.Ri R.S R.Ah R.U R.V R.W R.Wb R.Wu R.Wv R.X R.Y R.Z;try dsimp only [R.Ps]
 refine (SH.start (λ _=>False) w).Aj λ b2 w1 _ B1 S=>?_;refine (Bf ps (hp.grown B1) (λ p h=>(hb p h).grown B1) hn hl).mono ?_;rintro _ w2 ⟨_,rfl,a2,c2,rfl,N2⟩;generalize BJ ps=l at *;have S2:=S.grown N2.An;have T2:=T.grown S2.below;refine⟨_,_,_,rfl,EO Eu rfl T2.first ?_⟩;refine (SH.start (λ _=>False) w2).Aj λ b6 w3 _ _ S=>FH rfl (S.Hh 0 rfl (vs:=Eu.map wV) rfl (QF _) λ w4 _ S=>?_);refine⟨_,S.wd' 0 rfl (by simp [Eu]),?_⟩;have e0:∀ x:Wd,IntKind.u32.wrap (((BitVec.ofInt 32 (x.toNat:Int) ^^^ BitVec.ofInt 32 16842784).toNat:Int))=((x ^^^ 16842784).toNat:Int):=by
  intro x;rw [BU,CV];rfl
 rw [e0];refine S.Yo 0 rfl (by simp [Eu]) λ w5 S=>?_;refine⟨λ st w'=>∃ k:Nat,st=[.int .i64 ((64*k:Nat):Int)]/\(k<=1\/64*(k-1)<l.length)/\SH (λ _=>False) w2 w' [(b6,⟨(Mp l k).map wV⟩,143)],
  λ st _=>match st with | [.int _ t]=>((l.length:Int)+64-t).toNat | _=>0,⟨0,rfl,.inl (by omega),S⟩,?_⟩
 rintro t w6 ⟨k,aA,hk,S⟩;cases AbY aA;have bm:=UH l k;refine⟨λ _ w'=>(k=0\/64*k<l.length)/\SH (λ _=>False) w2 w' [(b6,⟨(Mp l k).map wV⟩,143)],?_,?_⟩
 ·refine Az (λ h=>⟨.inl (by omega),S⟩) (λ h0=>Aa (λ h=>⟨.inr (by omega),S⟩) (λ h=>?_));have cM:AkU l=k:=by
   unfold AkU;omega
  have S6:=S2.grown S.below;refine S.Aj λ vn bN _ gR S=>?_;refine⟨λ st w'=>∃ i:Nat,st=[.int .i64 (i:Int)]/\i<=32/\SH (λ _=>False) w2 w' [(vn,⟨(XJ (Mp l k) i).map Af⟩,77),(b6,⟨(Mp l k).map wV⟩,143)],
   λ st _=>match st with | [.int _ t]=>(32-t).toNat | _=>0,⟨0,rfl,by omega,S⟩,?_⟩
  rintro t bF ⟨i,aA,hi,S⟩;cases AbY aA;have dt:=Uk (Mp l k) i;refine Aa (λ aB=>?_) (λ aL=>?_)
  ·have mq:i<32:=by omega
   rw [Aj2 i (by omega),Aj3 i (by omega)];refine⟨⟨by omega,by omega⟩,_,S.wd 1 rfl (by omega) (AnF _),by omega,⟨by omega,aB⟩,?_⟩;rw [AnF,AeY _ _ (by omega)];refine S.AlS 0 rfl (by omega) (AnF _) λ dY S=>?_;rw [Ai (by omega)];exact⟨⟨i+1,rfl,by omega,S⟩,by show (32-((i+1:Nat):Int)).toNat<(32-(i:Int)).toNat;omega⟩
  ·have mq:i=32:=by omega
   have bQ:((XJ (Mp l k) i).map Af).length=32:=by rw [AnS];exact dt
   refine NR (XJ (Mp l k) i) dt (Rd.Ak (S.get 0 rfl)) (FH bQ ?_);refine (S2.grown S.below).Hh 0 rfl bQ (Af7 _) λ ay _ S'=>?_;refine NR (XJ (Mp l k) i) dt (Rd.Ak (S'.get 0 rfl)) ⟨?_,S'.below⟩;unfold RF;rw [cM,mq]
 ·rintro w7 ⟨bH,S⟩;have xq:64*k<=l.length:=by omega
  refine S.Aj λ iU w8 _ _ S=>S.draw λ w9 S=>⟨⟨by omega,by omega,by omega⟩,⟨by omega,by omega,by have:=N2.row.le;omega⟩,?_⟩;have aU:Rd w9 (Cc a2 (64*k) c2 1) ((l.drop (64*k)).map Af):=by
   have:=(N2.rd.grown S.below).Yr (64*k) l.length c2 1 N2.row.le;rw [List.take_of_length_le (by simp),Nat.mul_one,<- List.map_drop] at this;exact this
  rw [AnF];refine S.copy 0 rfl (P:=Tryz.prog) (elem:=5) (by kernel_rfl) (by kernel_rfl) (a:=Cc a2 (64*k) c2 1) (xs:=(l.drop (64*k)).map Af) (by simp) (by simp) aU (Af7 _) λ cX _ S=>?_;have eb:(⟨((l.drop (64*k)).map Af).take 64++(AnP 64 (Value.int .u8 0)).drop (min (l.length-64*k) 64)⟩:Array Value)=⟨(Tk l (64*k)).map Af⟩:=by
   rw [List.drop_replicate];simp only [Tk,Aba,List.map_append,List.map_replicate,List.map_take];rfl
  replace S:=eb ▸ S
  have ee:IntKind.i64.wrap (((64*k:Nat):Int)+((min (l.length-64*k) (64-0):Nat):Int))=((JM l (64*k):Nat):Int):=by
   unfold JM;rw [wrap_i64 (by omega) (by omega)];omega
  have eu:IntKind.u64.wrap ((JM l (64*k):Nat):Int)=((JM l (64*k):Nat):Int):=by
   have:JM l (64*k)<=l.length:=by unfold JM;omega
   rw [Ar (by omega) (by omega)]
  have wa:(((JM l (64*k):Nat):Int)==((l.length:Nat):Int))=(JM l (64*k)==l.length):=by
   rw [Bool.eq_iff_iff];simp;omega
  refine⟨_,rfl,EO (Mp l k) bm (Rd.Ak (S.get 1 rfl)) (NR (Tk l (64*k)) (VM _ _) (Rd.Ak (S.get 0 rfl)) ?_)⟩;rw [ee,eu,wa];refine (Ai5 (T2.grown S.below) (Mp l k) bm (Tk l (64*k)) (VM _ _) (JM l (64*k)) (by unfold JM;omega) _).mono ?_;rintro _ aW ⟨_,rfl,rfl,dO⟩;have er:=UH l (k+1);rw [Mp] at er;refine YB _ er ⟨rfl,FH (by rw [AnS];exact er) ?_⟩;refine (S.grown dO).Hh 1 rfl (by simp only [AnS,er,List.size_toArray,bm]) (QF _) λ dN _ S=>?_;have wR:IntKind.i64.wrap (((64*k:Nat):Int)+64)=((64*(k+1):Nat):Int):=by rw [wrap_i64 (by omega) (by omega)];omega
  rw [wR];exact⟨⟨k+1,rfl,by omega,S.drop 1⟩,by show ((l.length:Int)+64-((64*(k+1):Nat):Int)).toNat<((l.length:Int)+64-((64*k:Nat):Int)).toNat;omega⟩
theorem getD_set_ne(v:List Wd){a b:Nat}(h:a≠b)(x:Wd):(v.set a x).getD b 0=v.getD b 0:=by
 rw [List.getD_eq_getElem?_getD,List.getElem?_set_ne h,<- List.getD_eq_getElem?_getD]
theorem Of(l:List UInt8):(RF l).length=32:=Uk _ _
def Ab6(c:UInt8):Bool:=decide (97<=c.toNat) && decide (c.toNat<=122)
def Ajb(c:UInt8):Bool:=(decide (48<=c.toNat) && decide (c.toNat<=57)) || c.toNat==95
def nameAt(s:ByteArray)(i:Nat):Bool:=Ab6 (D6 s i) || (Ajb (D6 s i) && i != 0)
def HH(s:ByteArray):Bool:=(List.range s.size).all (nameAt s) && decide (1<=s.size) && decide (s.size<=24)
theorem Yh(mem:UInt8->Bool){w:World}{b:Nat}(hc:∀ x:UInt8,w.cell? ⟨b,x.toNat,none⟩=some (.bool (mem x)))(s:ByteArray)(hs:s.size<=9223372036854775807) :
  Calls Tryz.prog f.JC #[.string s,.pointer (some ⟨b,0,none⟩)] w (AB λ r w'=>∃ l m,r=.string (CA l)/\bl s=l++m/\m.all mem=true/\(l=[]\/∃ p c,l=p++[c]/\mem c=false)/\w'=w):=by
 apply R.Gk
 delta R.B R.Cb R.F R.P R.Qt R.T R.W R.X R.Y;try dsimp only [R.Ps]
 refine⟨λ st w'=>∃ l m,st=[.string (CA l)]/\bl s=l++m/\m.all mem=true/\w'=w,λ st _=>match st with | [.string t]=>t.size | _=>0,⟨bl s,[],by rw [DH],by simp,rfl,rfl⟩,?_⟩;rintro t w1 ⟨l,m,aA,hl,hm,rfl⟩;have ht:t=CA l:=by simpa using aA
 subst ht;rw [E7];have hlen:l.length<=9223372036854775807:=by
  have:=congrArg List.length hl;rw [CG,List.length_append] at this;omega
 refine Aa (λ h=>?_) (λ h=>?_)
 ·have aQ:l≠[]:=by intro h2;subst h2;simp at h
  obtain⟨p,c,rfl⟩:∃ p c,l=p++[c]:=⟨l.dropLast,l.getLast aQ,(List.dropLast_concat_getLast aQ).symm⟩;simp only [List.length_append,List.length_cons,List.length_nil] at h hlen ⊢;have e1:IntKind.i64.wrap (((p.length+(0+1):Nat):Int)-1)=(p.length:Int):=by rw [wrap_i64 (by omega) (by omega)];omega
  rw [e1,AnF,X7,Dq,show (p++[c]).getD p.length 0=c by simp];refine⟨⟨by omega,by omega⟩,(Tryz.asciiSet_contains b c (mem c) w1 (hc c)).mono ?_⟩;rintro _ w2 ⟨rfl,rfl⟩;refine⟨_,rfl,AU (λ h2=>?_) (λ h2=>?_)⟩
  ·exact⟨p++[c],m,rfl,hl,hm,.inr ⟨p,c,rfl,by simpa using h2⟩,rfl⟩
  ·have kI:mem c=true:=by simpa using h2
   have e2:ByteArray.extract (CA (p++[c])) 0 p.length=CA p:=by
    rw [extract_eq,Dq];simp
   refine⟨⟨by omega,by omega,by omega⟩,?_⟩;rw [e2];exact⟨⟨p,c :: m,rfl,by rw [hl];simp,by simp [kI,hm],rfl⟩,by show (CA p).size<(CA (p++[c])).size;rw [E7,E7];simp⟩
 ·have:l=[]:=List.eq_nil_of_length_eq_zero (by omega);exact⟨l,m,rfl,hl,hm,.inl this,rfl⟩
theorem AaW(mem:UInt8->Bool){w:World}{b:Nat}(hc:∀ x:UInt8,w.cell? ⟨b,x.toNat,none⟩=some (.bool (mem x)))(s:ByteArray) :
  Calls Tryz.prog f.J3 #[.string s,.pointer (some ⟨b,0,none⟩)] w (AB λ r w'=>∃ l m,r=.string (CA l)/\bl s=m++l/\m.all mem=true/\(l=[]\/∃ c p,l=c :: p/\mem c=false)/\w'=w):=by
 apply R.GF
 delta R.B R.Cb R.F R.P R.Qt R.T R.X R.Y;try dsimp only [R.Ps]
 refine⟨λ st w'=>∃ l m,st=[.string (CA l)]/\bl s=m++l/\m.all mem=true/\w'=w,λ st _=>match st with | [.string t]=>t.size | _=>0,⟨bl s,[],by rw [DH],by simp,rfl,rfl⟩,?_⟩;rintro t w1 ⟨l,m,aA,hl,hm,rfl⟩;have ht:t=CA l:=by simpa using aA
 subst ht;rw [E7];refine Aa (λ h=>?_) (λ h=>?_)
 ·cases l with
  | nil=>simp at h
  | cons c p =>
   simp only [List.length_cons] at h ⊢;rw [X7,Dq,show (c :: p).getD 0 0=c by rfl];refine⟨⟨by omega,by omega⟩,(Tryz.asciiSet_contains b c (mem c) w1 (hc c)).mono ?_⟩;rintro _ w2 ⟨rfl,rfl⟩;refine⟨_,rfl,AU (λ h2=>?_) (λ h2=>?_)⟩
   ·exact⟨c :: p,m,rfl,hl,hm,.inr ⟨c,p,rfl,by simpa using h2⟩,rfl⟩
   ·have kI:mem c=true:=by simpa using h2
    have e2:ByteArray.extract (CA (c :: p)) 1 (p.length+1)=CA p:=by
     rw [extract_eq,Dq];simp
    refine⟨⟨by omega,by omega,by omega⟩,?_⟩;rw [e2];exact⟨⟨p,m++[c],rfl,by rw [hl];simp,by simp [kI,hm],rfl⟩,by show (CA p).size<(CA (c :: p)).size;rw [E7,E7];simp⟩
 ·have:l=[]:=List.eq_nil_of_length_eq_zero (by omega);exact⟨l,m,rfl,hl,hm,.inl this,rfl⟩
theorem QI:∀(us:List Bool) {n:Nat} {f:List Value->Prop},us.length=n->f (us.map .bool)->Gn (AnP n (.bool false)) f
 | [],_,_,hn,h=>by subst hn;exact h
 | u :: us,_,_,hn,h=>by subst hn;exact⟨u,QI us rfl h⟩
def AaI(l:List UInt8):List Bool:=(List.range 256).map λ j=>l.contains (AnG j)
theorem UA(l:List UInt8):Lib.setCells l=⟨(AaI l).map .bool⟩:=by
 rw [Lib.setCells_eq];apply Array.ext';simp [AaI,List.map_map,Function.comp_def]
theorem Sj(s cut:ByteArray)(hs:s.size<=9223372036854775807)(h2:2<=cut.size)(hz:cut.size<4294967281)(ha:∀(j:Nat) b,cut.data.toList[j]?=some b->b.toNat<128)(w:World) :
  Calls Tryz.prog f.Yd #[.string s,.string cut] w (AB λ r w'=>∃ q,r=.string q/\(q=⟨#[]⟩↔(bl s).all (bl cut).contains=true)/\Below w.heap.size w w'):=by
 apply R.ND
 delta R.A R.B R.Ct R.D R.F R.G R.H R.J R.P R.T R.X R.Zb;try dsimp only [R.Ps]
 have he:∀ x:ByteArray,AJ x ⟨#[]⟩=true->x=⟨#[]⟩:=λ x h=>by rw [AK] at h;simpa using h
 refine AU (λ h=>?_) (λ h0=>AU (λ h=>?_) (λ h1=>?_))
 ·have:=he s h;subst this;exact⟨_,rfl,by simp [bl],.refl _ _⟩
 ·have:=he cut h;subst this;exact absurd h2 (by decide)
 ·refine⟨λ st w'=>st=[.bool false]/\w'=w,Az (λ h=>by omega) (λ _=>⟨rfl,rfl⟩),?_⟩;rintro t w1 ⟨ht,rfl⟩;have:t=false:=by simpa using ht
  subst this;refine Aw ((Tryz.strings_makeASCIISet (λ _=>by kernel_rfl) cut w1 hz ha).mono ?_);rintro _ w5 ⟨rfl,rfl⟩;rw [UA];have cI:(AaI cut.data.toList).length=256:=by simp [AaI]
  refine QI (AaI cut.data.toList) cI ⟨true,rfl,?_⟩;have B0:Below w1.heap.size w1 (w1.alloc (.cells ⟨(AaI cut.data.toList).map .bool⟩ ty.QA)):=(Below.refl _ w1).alloc (Nat.le_refl _) _;have S0:=(SH.start (λ _=>False) w1).grown B0;have h1:∀ v∈(AaI cut.data.toList).map Value.bool,v.oneCell'=true:=by
   intro v hv;obtain⟨u,_,rfl⟩:=List.mem_map.1 hv;rfl
  have bQ:((AaI cut.data.toList).map Value.bool).length=256:=by rw [AnS];exact cI
  refine S0.Aj λ eQ w6 _ _ S=>FH bQ (S.Hh 0 rfl bQ h1 λ w7 _ S=>Bo ?_);have hc:∀ x:UInt8,w7.cell? ⟨eQ,x.toNat,none⟩=some (.bool ((bl cut).contains x)):=λ x=>S.cell 0 rfl (by
   rw [<- UA];exact Lib.setCells_at _ _)
  refine (Yh (bl cut).contains hc s hs).mono ?_;rintro _ w8 ⟨_,rfl,l,m,rfl,hl,hm,uB,rfl⟩;refine⟨_,rfl,(AaW (bl cut).contains hc (CA l)).mono ?_⟩;rintro _ w9 ⟨_,rfl,q,p,rfl,hq,hp,kA,rfl⟩;refine⟨_,rfl,_,rfl,?_,S.below⟩;rw [Dq] at hq;rw [hl,hq,List.all_append,List.all_append,hm,hp];rcases kA with rfl | ⟨c,r,rfl,hcf⟩
  ·simp [CA]
  ·simp [CA];intro fP;simp_all
end Go.Proofs.YtoepjfblppfabaaGreatDoor
namespace Go.Proofs.YtoepjfblppfabaaGreatDoor
open _root_.BitVec renaming ofInt -> Am6
set_option maxRecDepth 100000
open Go.Dn Go.Proofs
open Go.RowKit (Below)
set_option linter.unusedVariables false
/-! ### what package-level variables hold -/
/-! ### Number, Signed, Text -/
def Fk(n:Int):Nat:=if n<0 then (-(2*n)-1).toNat else (2*n).toNat
theorem HP{n:Int}(h1 : -9223372036854775808<=n)(h2:n<=9223372036854775807):Fk n<18446744073709551616:=by unfold Fk;split <;> omega
theorem Abb{n:Int}(h1 : -9223372036854775808<=n)(h2:n<=9223372036854775807) :
  IntKind.u64.wrap (((Am6 64 (IntKind.u64.wrap (IntKind.i64.wrap (n*2 ^ (min 1 64)))) ^^^ Am6 64 (IntKind.u64.wrap (Int.fdiv n (2 ^ (min 63 64))))).toNat:Int))=(Fk n:Int):=by
 have e1:IntKind.u64.wrap (IntKind.i64.wrap (n*2 ^ (min 1 64)))=(2*n) % 18446744073709551616:=by
  rw [wrap_u64,Co];have:n*2 ^ (min 1 64)=2*n:=by rw [show (2:Int) ^ (min 1 64)=2 from rfl];omega
  rw [this];split <;> omega
 rw [e1];by_cases hn:n<0
 ·have e2:Int.fdiv n (2 ^ (min 63 64)) = -1:=by
   rw [Int.fdiv_eq_ediv_of_nonneg _ (by decide),show (2:Int) ^ (min 63 64)=9223372036854775808 from rfl];omega
  rw [e2,show IntKind.u64.wrap (-1)=18446744073709551615 by decide];obtain⟨m,hm⟩:∃ m:Nat,(2*n) % 18446744073709551616=(m:Int):=⟨((2*n) % 18446744073709551616).toNat,by omega⟩;have y7:m<18446744073709551616:=by omega
  rw [hm,show Am6 64 18446744073709551615=BitVec.allOnes 64 by decide,BitVec.xor_allOnes,BitVec.toNat_not,BitVec.ofInt_natCast,BitVec.toNat_ofNat,Nat.mod_eq_of_lt (by omega),Ar (by omega) (by omega)];unfold Fk;rw [if_pos hn];omega
 ·have e2:Int.fdiv n (2 ^ (min 63 64))=0:=by
   rw [Int.fdiv_eq_ediv_of_nonneg _ (by decide),show (2:Int) ^ (min 63 64)=9223372036854775808 from rfl];omega
  obtain⟨m,rfl⟩:∃ m:Nat,n=(m:Int):=⟨n.toNat,by omega⟩;rw [e2,show IntKind.u64.wrap 0=0 by decide,show Am6 64 0=0#64 by decide,BitVec.xor_zero];have:(2*(m:Int)) % 18446744073709551616=((2*m:Nat):Int):=by omega
  rw [this,BitVec.ofInt_natCast,BitVec.toNat_ofNat,Nat.mod_eq_of_lt (by omega),Ar (by omega) (by omega)];unfold Fk;rw [if_neg hn];omega
theorem Ff{w:World}{a:Option Addr}{c:Nat}(l:List UInt8)(hl:Rd w a (l.map Af))(n:Int)(h1 : -9223372036854775808<=n)(h2:n<=9223372036854775807)(hs:l.length+10<=140737488355328) :
  Calls Tryz.prog f.Rq #[.slice a l.length c,.int .i64 n] w (AB λ v w'=>∃ a c,v=.slice a (l++Ag (Fk n)).length c/\Dh w w' (l++Ag (Fk n)) a c):=by
 apply R.Pm
 delta R.Cs R.S R.U R.W R.Wu;try dsimp only [R.Ps]
 rw [Abb h1 h2];refine (Bt l hl (Fk n) (HP h1 h2) hs).mono ?_;rintro _ w1 ⟨_,rfl,a1,c1,rfl,h⟩;exact⟨_,_,_,rfl,a1,c1,rfl,h⟩
/-! ### Lay -/
/-! ### Show -/
end Go.Proofs.YtoepjfblppfabaaGreatDoor
namespace Go.Proofs.YtoepjfblppfabaaGreatDoor
set_option maxRecDepth 100000
open Go.Dn Go.Proofs
open Go.RowKit (Below)
set_option linter.unusedVariables false
/-! ### what package-level variables hold -/
/-! ### Number, Signed, Text -/
/-! ### Lay -/
structure Eb(v:Ax):Prop where
 lo : -9223372036854775808<=v.2.1
 hi:v.2.1<=9223372036854775807
theorem G7{v:Ax}(h:AL v=true):v.1=0\/v.1=1\/(v.1=2/\(v.2.1=0\/v.2.1=1))\/(v.1=3/\v.2.2.size<=1024):=by
 unfold AL at h;split at h
 ·left;assumption
 ·split at h
  ·right;left;assumption
  ·split at h
   ·right;right;left;simp at h;exact⟨by assumption,h.1⟩
   ·split at h
    ·right;right;right;simp at h;exact⟨by assumption,h.2⟩
    ·cases h
/-! ### Show -/
end Go.Proofs.YtoepjfblppfabaaGreatDoor
namespace Go.Proofs.YtoepjfblppfabaaGreatDoor
open _root_.Array renaming getElem?_eq_some_iff -> AnV
open _root_.BitVec renaming ofInt -> Am6, ofInt_natCast -> AnK, toNat_ofNat -> AnL
open _root_.ByteArray renaming size -> AnZ
open _root_.Int renaming toNat_natCast -> AnF
open _root_.List renaming mem_cons_of_mem -> AnU, mem_cons_self -> AnT, range -> AnY
open _root_.Nat renaming mod_eq_of_lt -> AnH, mod_lt -> AnX, pow_le_pow_right -> AnW, pow_lt_pow_right -> An0
set_option maxRecDepth 100000
open Go.Dn Go.Proofs
open Go.RowKit (Below)
set_option linter.unusedVariables false
def Ea(x r:Nat):Prop:=x<2 ^ r/\(r=0\/2 ^ (r-1)<=x)
theorem Ea.one{x r s:Nat}(h:Ea x r)(h':Ea x s):r=s:=by
 have key:∀ {a b:Nat},Ea x a->Ea x b->a<=b:=by
  intro a b ha hb;rcases ha.2 with h0 | h0
  ·omega
  ·rcases Nat.lt_or_ge b a with aB | aL
   ·have:2 ^ b<=2 ^ (a-1):=AnW (by omega) (by omega);have:=hb.1;omega
   ·exact aL
 exact Nat.le_antisymm (key h h') (key h' h)
theorem Ea.le{x r w:Nat}(h:Ea x r):r<=w↔x<2 ^ w:=by
 constructor
 ·intro hle;exact Nat.lt_of_lt_of_le h.1 (AnW (by omega) hle)
 ·intro aB;rcases h.2 with h0 | h0
  ·omega
  ·rcases Nat.lt_or_ge w r with dr | aL
   ·have:2 ^ w<=2 ^ (r-1):=AnW (by omega) (by omega);omega
   ·exact aL
theorem Ea.shift{x r s:Nat}(h:Ea (x / 2 ^ s) r)(hx:2 ^ s<=x):Ea x (r+s):=by
 have hp:0<2 ^ s:=Nat.two_pow_pos s;have h1:1<=x / 2 ^ s:=(Nat.le_div_iff_mul_le hp).2 (by omega);have hr:r≠0:=by
  rintro rfl;have:=h.1;simp at this;omega
 refine⟨?_,.inr ?_⟩
 ·rw [Nat.pow_add];exact (Nat.div_lt_iff_lt_mul hp).1 h.1
 ·rcases h.2 with h0 | h0
  ·exact absurd h0 hr
  ·rw [show r+s-1=(r-1)+s by omega,Nat.pow_add];exact (Nat.le_div_iff_mul_le hp).1 h0
def KL:ByteArray:=⟨#[0,1,2,2,3,3,3,3,4,4,4,4,4,4,4,4,5,5,5,5,5,5,5,5,5,5,5,5,5,5,5,5,6,6,6,6,6,6,6,6,6,6,6,6,6,6,6,6,6,6,6,6,6,6,6,6,6,6,6,6,6,6,6,6,7,7,7,7,7,7,7,7,7,7,7,7,7,7,7,7,7,7,7,7,7,7,7,7,7,7,7,7,7,7,7,7,7,7,7,7,7,7,7,7,7,7,7,7,7,7,7,7,7,7,7,7,7,7,7,7,7,7,7,7,7,7,7,7,8,8,8,8,8,8,8,8,8,8,8,8,8,8,8,8,8,8,8,8,8,8,8,8,8,8,8,8,8,8,8,8,8,8,8,8,8,8,8,8,8,8,8,8,8,8,8,8,8,8,8,8,8,8,8,8,8,8,8,8,8,8,8,8,8,8,8,8,8,8,8,8,8,8,8,8,8,8,8,8,8,8,8,8,8,8,8,8,8,8,8,8,8,8,8,8,8,8,8,8,8,8,8,8,8,8,8,8,8,8,8,8,8,8,8,8,8,8,8,8,8,8,8,8,8,8,8,8]⟩
theorem AeQ:KL.size=256:=by decide
theorem AgU:((AnY 256).all λ i=>decide (i<2 ^ (D6 KL i).toNat) && ((D6 KL i).toNat==0 || decide (2 ^ ((D6 KL i).toNat-1)<=i)) && decide ((D6 KL i).toNat<=8))=true:=by decide +kernel
theorem Adp{i:Nat}(h:i<256):Ea i (D6 KL i).toNat/\(D6 KL i).toNat<=8:=by
 have:=List.all_eq_true.1 AgU i (List.mem_range.2 h);simp only [Bool.and_eq_true,decide_eq_true_eq,Bool.or_eq_true,beq_iff_eq] at this;exact⟨⟨this.1.1,this.1.2⟩,this.2⟩
theorem fdiv_pow(x s:Nat):Int.fdiv (x:Int) (2 ^ s)=((x / 2 ^ s:Nat):Int):=by
 rw [Int.fdiv_eq_ediv_of_nonneg _ (Int.le_of_lt (Int.pow_pos (by omega)))]
 norm_cast
theorem AfL(w:World)(x:Nat)(hx:x<18446744073709551616):Calls Tryz.prog f.RV #[.int .u64 (x:Int)] w (AB λ v w'=>∃ r:Nat,v=.int .i64 (r:Int)/\Ea x r/\r<=64/\w'=w):=by
 apply R.JY
 delta R.F R.I R.U R.W R.Wb R.X R.Zui;try dsimp only [R.Ps]
 refine⟨λ st w1=>w1=w/\∃ y n:Nat,st=[.int .u64 (y:Int),.int .i64 (n:Int)]/\y<4294967296/\n<=32/\(∀ r,Ea y r->r<=32->Ea x (r+n)\/(n=0/\x=y)),?_,?_⟩
 ·refine Aa (λ h=>⟨rfl,x / 2 ^ 32,32,?_,?_,by omega,λ r hr _=>.inl (hr.shift (by omega))⟩) (λ h=>⟨rfl,x,0,rfl,by omega,by omega,λ r _ _=>.inr ⟨rfl,rfl⟩⟩)
  ·rw [show min 32 64=32 from rfl,fdiv_pow];rfl
  ·omega
 rintro _ _ w1 ⟨rfl,y,n,aA,hy,hn,yg⟩;cases aA;refine⟨λ st w2=>w2=w1/\∃ z m:Nat,st=[.int .u64 (z:Int),.int .i64 (m:Int)]/\z<65536/\m<=48/\(∀ r,Ea z r->r<=16->Ea x (r+m)),?_,?_⟩
 ·have fin:∀ r,Ea y r->r<=32->Ea x (r+n):=by
   intro r hr wm;rcases yg r hr wm with h | ⟨rfl,rfl⟩
   ·exact h
   ·exact hr
  refine Aa (λ h=>⟨rfl,y / 2 ^ 16,n+16,?_,by omega,by omega,λ r hr lZ=>?_⟩) (λ h=>⟨rfl,y,n,rfl,by omega,by omega,λ r hr lZ=>fin r hr (by omega)⟩)
  ·rw [show min 16 64=16 from rfl,fdiv_pow,wrap_i64 (by omega) (by omega)];rfl
  ·have:=fin _ (hr.shift (s:=16) (by omega)) (by omega);rwa [Nat.add_assoc,Nat.add_comm 16] at this
 rintro _ _ w2 ⟨rfl,z,m,aA,hz,hm,uU⟩;cases aA;have wQ:((AnZ KL:Nat):Int)=256:=by rw [AeQ];rfl
 refine Aa (λ h=>?_) (λ h=>?_)
 ·rw [show min 8 64=8 from rfl,fdiv_pow,Bh (by omega) (by omega)];have aB:z / 2 ^ 8<256:=by omega
  have ht:=Adp aB;refine⟨⟨by omega,by show _<((AnZ KL:Nat):Int);omega⟩,(D6 KL (z / 2 ^ 8)).toNat+8+m,?_,?_,by omega,rfl⟩
  ·have hT:∀ i,(D6 KL i).toNat<256:=λ i=>UInt8.toNat_lt _;show Value.int .i64 (IntKind.i64.wrap (IntKind.i64.wrap ((m:Int)+8)+IntKind.i64.wrap ((D6 KL ((z / 2 ^ 8:Nat):Int).toNat).toNat:Int)))=_;rw [AnF,wrap_i64 (n:=(m:Int)+8) (by omega) (by omega),wrap_i64 (n:=((D6 KL (z / 2 ^ 8)).toNat:Int)) (by omega) (by omega),wrap_i64 (by omega) (by omega)];congr 1;omega
  ·exact uU _ (ht.1.shift (s:=8) (by omega)) (by omega)
 ·have aB:z<256:=by omega
  have ht:=Adp aB;rw [Bh (by omega) (by omega)];refine⟨⟨by omega,by show _<((AnZ KL:Nat):Int);omega⟩,(D6 KL z).toNat+m,?_,?_,by omega,rfl⟩
  ·show Value.int .i64 (IntKind.i64.wrap ((m:Int)+IntKind.i64.wrap ((D6 KL ((z:Nat):Int).toNat).toNat:Int)))=_;rw [AnF,wrap_i64 (n:=((D6 KL z).toNat:Int)) (by omega) (by omega),wrap_i64 (by omega) (by omega)];congr 1;omega
  ·exact uU _ ht.1 (by omega)
def Hr(x:Nat):Value:=.int .u64 (x:Int)
def Mf(xs:List Nat):Nat:=xs.foldl (· ||| ·) 0
theorem Adx{a b w:Nat}:a ||| b<2 ^ w↔a<2 ^ w/\b<2 ^ w :=
 ⟨λ h=>⟨Nat.lt_of_le_of_lt Nat.left_le_or h,Nat.lt_of_le_of_lt Nat.right_le_or h⟩,λ h=>Nat.or_lt_two_pow h.1 h.2⟩
theorem Agx(xs:List Nat)(a w:Nat):xs.foldl (· ||| ·) a<2 ^ w↔a<2 ^ w/\∀ x∈xs,x<2 ^ w:=by
 induction xs generalizing a with
 | nil=>simp
 | cons x xs ih=>rw [List.foldl_cons,ih,Adx];simp [and_assoc]
theorem Jo(xs:List Nat)(w:Nat):Mf xs<2 ^ w↔∀ x∈xs,x<2 ^ w:=by
 unfold Mf;rw [Agx];simp [Nat.two_pow_pos]
theorem Ag6{xs:List Nat}{k:Nat}(hk:k<xs.length):Mf (xs.take (k+1))=Mf (xs.take k) ||| xs[k]:=by
 unfold Mf;rw [List.take_succ_eq_append_getElem hk,List.foldl_append];rfl
theorem Ami{a b:Nat}(ha:a<18446744073709551616)(hb:b<18446744073709551616):IntKind.u64.wrap (((Am6 64 (a:Int) ||| Am6 64 (b:Int)).toNat:Int))=((a ||| b:Nat):Int):=by
 have e:(Am6 64 (a:Int) ||| Am6 64 (b:Int)).toNat=a ||| b:=by
  rw [BitVec.toNat_or,AnK,AnK,AnL,AnL,AnH (by omega),AnH (by omega)]
 have:=(Adx (w:=64)).2 ⟨ha,hb⟩;rw [e,Ar (by omega) (by omega)]
theorem Ug{w:World}{a:Option Addr}{xs:List Nat}(hl:Rd w a (xs.map Hr)){i:Nat}(hi:i<xs.length):∃ p,a=some p/\w.cell? (p.add (i*1))=some (.int .u64 (xs[i]:Int)):=by
 obtain⟨p,hp,hc⟩:=hl i (Hr xs[i]) (by simp [hi]);exact⟨p,hp,by rw [Nat.mul_one];exact hc⟩
section
variable {w:World}{a:Option Addr}{c:Nat}{xs:List Nat}
theorem H0(hl:Rd w a (xs.map Hr))(hn:xs.length<=140737488355328)(hx:∀ x∈xs,x<18446744073709551616) :
  Calls Tryz.prog f.Aci #[.slice a xs.length c] w (AB λ v w'=>∃ r:Nat,v=.int .i64 (r:Int)/\Ea (Mf xs) r/\r<=64/\w'=w):=by
 apply R.Qf
 delta R.Ad R.Ci R.F R.I R.Lu R.Qui R.U R.W R.Wu R.X;try dsimp only [R.Ps]
 refine⟨λ s w1=>w1=w/\∃ k:Nat,k<=xs.length/\s=[.int .u64 (Mf (xs.take k):Int),.int .i64 (k:Int)],λ s _=>match s with
   | [_,.int _ i]=>xs.length-i.toNat
   | _=>0,⟨rfl,0,by omega,rfl⟩,?_⟩
 rintro _ _ w1 ⟨rfl,k,hk,hs⟩;cases hs;have aE:Mf (xs.take k)<18446744073709551616:=(Jo (xs.take k) 64).2 λ x h=>hx x (List.mem_of_mem_take h);refine Aa (λ aB=>⟨⟨by omega,aB⟩,?_⟩) (λ aL=>?_)
 ·have aq:k<xs.length:=by omega
  obtain⟨p,rfl,hc⟩:=Ug hl aq;refine⟨_,by rw [AnF];exact hc,?_⟩;have lG:=hx _ (List.getElem_mem aq);rw [Ami aE lG,Ai (by omega),<- Ag6 aq];refine⟨⟨rfl,k+1,by omega,rfl⟩,?_⟩;simp only [AnF];omega
 ·have gO:xs.take k=xs:=List.take_of_length_le (by omega);rw [gO] at aE ⊢;refine (AfL w1 (Mf xs) aE).mono ?_;rintro _ w2 ⟨_,rfl,r,rfl,h1,h2,rfl⟩;exact⟨_,rfl,r,rfl,h1,h2,rfl⟩
end
theorem Js(w:World)(n wd:Int):Calls Tryz.prog f.Ae0 #[.int .i64 n,.int .i64 wd] w (AB λ v w'=>w'=w/\v=(if 0<=n/\n<=4096/\0<=wd/\wd<=64 then .tuple #[.int .i64 ((n*wd+7) / 8),.int .i64 0] else .tuple #[.int .i64 0,.int .i64 2])):=by
 apply R.RY
 delta R.F R.H R.I R.W;try dsimp only [R.Ps]
 refine Aa (λ h=>⟨rfl,by rw [if_neg (by omega)]⟩) (λ h1=>Aa (λ h=>⟨rfl,by rw [if_neg (by omega)]⟩) (λ h2=>Aa (λ h=>⟨rfl,by rw [if_neg (by omega)]⟩) (λ h3=>Aa (λ h=>⟨rfl,by rw [if_neg (by omega)]⟩) (λ h4=>⟨rfl,?_⟩))));have hm:0<=n*wd:=Int.mul_nonneg (by omega) (by omega);have zp:n*wd<=4096*64:=Int.mul_le_mul (by omega) (by omega) (by omega) (by omega);rw [if_pos (by omega),wrap_i64 (n:=n*wd) (by omega) (by omega),wrap_i64 (n:=n*wd+7) (by omega) (by omega),Int.tdiv_eq_ediv_of_nonneg (by omega),wrap_i64 (by omega) (by omega)]
section
variable {w:World}{a:Option Addr}{c:Nat}{xs:List Nat}
end
theorem Ay(w:World)(l:Nat)(o:Obj):Ae (·=l) w (w.putObj l o) :=
 ⟨rfl,rfl,rfl,by simp,λ k _ hn=>World.putObj_heap_other hn⟩
def UX(f:Nat->Bool):Nat->Nat->Nat
 | 0,_=>0
 | t+1,j=>if j=t / 8/\f t=true then UX f t j ||| 2 ^ (t % 8) else UX f t j
theorem AcE(f:Nat->Bool)(t j:Nat):UX f t j<256:=by
 induction t with
 | zero=>simp [UX]
 | succ t ih =>
  unfold UX;split
  ·exact (Adx (w:=8)).2 ⟨ih,An0 (by omega) (by omega)⟩
  ·exact ih
def GN(xs:List Nat)(w t:Nat):Bool:=(xs.getD (t / w) 0).testBit (t % w)
def EI(n w:Nat):Nat:=(n*w+7) / 8
def Ba(xs:List Nat)(w:Nat):List UInt8:=(AnY (EI xs.length w)).map λ j=>UInt8.ofNat (UX (GN xs w) (xs.length*w) j)
theorem CH(xs:List Nat)(w:Nat):(Ba xs w).length=EI xs.length w:=by simp [Ba]
def Lo(f:Nat->Bool)(m t:Nat):Array Value:=⟨(AnY m).map λ j=>.int .u8 (UX f t j:Int)⟩
theorem Wx(f:Nat->Bool)(m t:Nat):(Lo f m t).size=m:=by simp [Lo]
theorem Ahl{f:Nat->Bool}{m t j:Nat}(h:j<m):(Lo f m t)[j]?=some (.int .u8 (UX f t j:Int)):=by simp [Lo,h]
theorem Ahm{f:Nat->Bool}{m t:Nat}(v:Nat)(hv:v=UX f (t+1) (t / 8)):(Lo f m t).setIfInBounds (t / 8) (.int .u8 (v:Int))=Lo f m (t+1):=by
 apply Array.ext';apply List.ext_getElem?;intro i;simp only [Array.toList_setIfInBounds,Lo,List.getElem?_set,List.length_map,List.length_range];by_cases h:t / 8=i
 ·subst h;by_cases h2:t / 8<m
  ·simp [h2,hv]
  ·simp [h2]
 ·have e:UX f (t+1) i=UX f t i:=by
   conv=>lhs;unfold UX
   rw [if_neg (by omega)]
  by_cases h2:i<m
  ·simp [h,h2,e]
  ·simp [h,h2]
theorem Aff(f:Nat->Bool)(m:Nat):madeCells (Value.int .u8 0).cells (m*1)=Lo f m 0:=by
 apply Array.ext';rw [El _ rfl];simp [Lo,UX,List.map_const']
theorem Ahk(xs:List Nat)(w:Nat):(Lo (GN xs w) (EI xs.length w) (xs.length*w)).toList=(Ba xs w).map Af:=by
 simp only [Lo,Ba,List.map_map];apply List.map_congr_left;intro j _;have:=AcE (GN xs w) (xs.length*w) j;exact DO this
/-! ### words of the program -/
theorem Af4{x k:Nat}(hx:x<18446744073709551616)(hk:k<64):IntKind.u8.wrap (IntKind.u64.wrap (((Am6 64 (Int.fdiv (x:Int) (2 ^ (min k 64))) &&& Am6 64 1).toNat:Int)))=((x.testBit k).toNat:Int):=by
 rw [show min k 64=k by omega,fdiv_pow];have hle:x / 2 ^ k<=x:=Nat.div_le_self _ _;have e:(Am6 64 ((x / 2 ^ k:Nat):Int) &&& Am6 64 1).toNat=x / 2 ^ k % 2:=by
  rw [BitVec.toNat_and,AnK,AnL,AnH (by omega)];exact Nat.and_two_pow_sub_one_eq_mod _ 1
 rw [e];have hm:x / 2 ^ k % 2<2:=AnX _ (by omega);rw [Nat.testBit_eq_decide_div_mod_eq];generalize x / 2 ^ k % 2=y at hm;rw [Ar (by omega) (by omega),Bh (by omega) (by omega)];rcases (by omega:y=0\/y=1) with rfl | rfl <;> rfl
theorem AlP{t:Nat}(ht:t<9223372036854775808):IntKind.i64.wrap (((Am6 64 (t:Int) &&& Am6 64 7).toNat:Int))=((t % 8:Nat):Int):=by
 have e:(Am6 64 (t:Int) &&& Am6 64 7).toNat=t % 8:=by
  rw [BitVec.toNat_and,AnK,AnL,AnH (by omega)];exact Nat.and_two_pow_sub_one_eq_mod _ 3
 rw [e,wrap_i64 (by omega) (by omega)]
theorem or8{a b:Nat}(ha:a<256)(hb:b<256):IntKind.u8.wrap (((Am6 8 (a:Int) ||| Am6 8 (b:Int)).toNat:Int))=((a ||| b:Nat):Int):=by
 have e:(Am6 8 (a:Int) ||| Am6 8 (b:Int)).toNat=a ||| b:=by
  rw [BitVec.toNat_or,AnK,AnK,AnL,AnL,AnH (by omega),AnH (by omega)]
 have:=(Adx (w:=8)).2 ⟨ha,hb⟩;rw [e,Bh (by omega) (by omega)]
theorem Ajk{b:Bool}{s:Nat}(hs:s<8):IntKind.u8.wrap ((b.toNat:Int)*2 ^ (min s 8))=((b.toNat*2 ^ s:Nat):Int):=by
 have hp:2 ^ s<2 ^ 8:=An0 (by omega) hs;rw [show min s 8=s by omega];have e:((b.toNat:Int)*2 ^ s)=((b.toNat*2 ^ s:Nat):Int):=by norm_cast
 rw [e];cases b
 ·simp;decide
 ·simp only [Bool.toNat_true,Nat.one_mul];generalize 2 ^ s=y at hp;rw [Bh (by omega) (by omega)]
theorem AhA(f:Nat->Bool)(t:Nat):UX f t (t / 8) ||| (f t).toNat*2 ^ (t % 8)=UX f (t+1) (t / 8):=by
 conv=>rhs;unfold UX
 cases h:f t
 ·simp
 ·simp
/-! ### the iterator -/
theorem KZ(w:World)(n wd:Int):Calls Tryz.prog f.Aaj #[.int .i64 n,.int .i64 wd] w (AB λ v w'=>∃ b1 b2,v=.func (.func f.KX) #[] #[.pointer (some ⟨b1,0,none⟩),.pointer (some ⟨b2,0,none⟩)]/\SH (λ _=>False) w w' [(b2,#[.int .i64 wd],ty.int),(b1,#[.int .i64 n],ty.int)]):=by
 apply R.OM
 delta R.I R.J R.N R.P;try dsimp only [R.Ps]
 exact (SH.start (λ _=>False) w).Aj λ b1 w1 _ _ S1=>S1.Aj λ b2 w2 _ _ S2=>⟨b1,b2,rfl,S2⟩
theorem Wr{n wd l b1 b2:Nat}(hn:n<=4096)(hw:wd<=64)(J:Nat->World->Prop)
  (aJ:∀ t w,J t w->w.cell? ⟨b1,0,none⟩=some (.int .i64 (n:Int))/\w.cell? ⟨b2,0,none⟩=some (.int .i64 (wd:Int))) (mf:∀ t w,J t w->J t w.drew)
  (bD:∀ t,t<n*wd->∀ w,J t w->GJ Tryz.prog l #[.int .i64 ((t / wd:Nat):Int),.int .i64 ((t % wd:Nat):Int)] (λ y w'=>y=true/\J (t+1) w') w)
  {w:World} (h0:J 0 w):Calls Tryz.prog f.KX #[.func (.yield l) #[] #[],.pointer (some ⟨b1,0,none⟩),.pointer (some ⟨b2,0,none⟩)] w (AB λ _ w'=>J (n*wd) w'):=by
 have hm:n*wd<=4096*64:=Nat.mul_le_mul hn hw;apply R.KY
 delta R.A R.D R.F R.H R.I R.Li R.Qi R.W;try dsimp only [R.Ps]
 refine⟨λ s w1=>∃ t:Nat,t<=n*wd/\s=[.int .i64 (t:Int)]/\J t w1,λ s _=>match s with
   | [.int _ i]=>n*wd-i.toNat
   | _=>0,⟨0,by omega,rfl,h0⟩,?_⟩
 rintro _ w1 ⟨t,ht,hs,hj⟩;cases hs;obtain⟨c1,c2⟩:=aJ t w1 hj;refine⟨_,c1,_,c2,?_⟩;have em:IntKind.i64.wrap ((n:Int)*(wd:Int))=((n*wd:Nat):Int):=by rw [<- Int.natCast_mul,wrap_i64 (by omega) (by omega)]
 rw [em];refine Aa (λ aB=>?_) (λ aL=>?_)
 ·have nB:t<n*wd:=by omega
  have kU:wd≠0:=by rintro rfl;simp at nB
  have ku:=mf t w1 hj;obtain⟨d1,d2⟩:=aJ t _ ku;refine⟨_,d2,by omega,_,d2,by omega,?_⟩;have e1:IntKind.i64.wrap (Int.tdiv (t:Int) (wd:Int))=((t / wd:Nat):Int):=by
   have hle:t / wd<=t:=Nat.div_le_self _ _;have:Int.tdiv (t:Int) (wd:Int)=((t / wd:Nat):Int):=by rw [Int.tdiv_eq_ediv_of_nonneg (by omega)];norm_cast
   rw [this];generalize t / wd=q at hle;rw [wrap_i64 (by omega) (by omega)]
  have e2:Int.tmod (t:Int) (wd:Int)=((t % wd:Nat):Int):=by rw [Int.tmod_eq_emod_of_nonneg (by omega)];norm_cast
  rw [e1,e2];obtain⟨fn,tm,Rx,bo,hy,hr⟩:=bD t nB _ ku;refine⟨fn,tm,Rx,bo,hy,hr.mono ?_⟩;rintro e w3 ⟨y,he,rfl,kv⟩;refine⟨true,he,Aw ?_⟩;rw [Ai (by omega)];refine⟨⟨t+1,by omega,rfl,kv⟩,?_⟩;simp only [AnF];omega
 ·have:t=n*wd:=by omega
  rw [this] at hj;exact hj
theorem H6{rr:Loop}(h1:rr.state=.ready)(h2:rr.pending=none):({ rr with state:=if (none:Option Code).isNone then .ready else .done,pending:=none }:Loop)=rr:=by
 cases rr;simp_all
section
variable {w:World}{a:Option Addr}{c:Nat}{xs:List Nat}
theorem Jr(hl:Rd w a (xs.map Hr))(hn:xs.length<=4096){wd:Nat}(hw:wd<=64)(hx:∀ x∈xs,x<2 ^ wd) :
  Calls Tryz.prog f.AeZ #[.int .i64 (wd:Int),.slice a xs.length c] w (AB λ v w'=>∃ a' c',v=.tuple #[.slice a' (Ba xs wd).length c',.int .i64 0]/\Dh w w' (Ba xs wd) a' c'):=by
 have lg:(2:Nat) ^ wd<=2 ^ 64:=AnW (by omega) hw;have jA:∀ x∈xs,x<18446744073709551616:=λ x h=>Nat.lt_of_lt_of_le (hx x h) lg;have hm:xs.length*wd<=4096*64:=Nat.mul_le_mul hn hw;obtain⟨m,hmd⟩:∃ m,m=EI xs.length wd:=⟨_,rfl⟩;have rO:m=(xs.length*wd+7) / 8:=hmd;apply R.RX
 delta R.A R.Ad R.B R.J9 R.Cf R.Ci R.D R.F R.H R.I R.Li R.Ls R.Lu R.Ly R.N R.O R.Rs R.S R.Ah R.W R.Wb R.Wu R.X;try dsimp only [R.Ps]
 refine (SH.start (λ _=>False) w).Aj λ b3 w1 cf B1 S1=>S1.Aj λ b4 w2 jM B2 S2=>⟨_,_,_,S2.cell 0 rfl rfl,_,S2.cell 1 rfl rfl,(Js w2 (xs.length:Int) (wd:Int)).mono ?_⟩;rintro _ w3 ⟨_,rfl,rfl,rfl⟩;rw [if_pos ⟨by omega,by omega,by omega,by omega⟩];refine⟨_,_,rfl,S2.MC λ w4 B4 S4=>Au (λ h=>absurd rfl h) (λ _=>⟨_,_,_,S4.cell 0 rfl rfl,_,S4.cell 1 rfl rfl,(H0 (hl.grown S4.below) (by omega) jA).mono ?_⟩)⟩;rintro _ w5 ⟨_,rfl,r,rfl,hr,yI,rfl⟩;have zw:r<=wd:=hr.le.2 ((Jo xs wd).2 hx);refine⟨_,rfl,S4.cell 1 rfl rfl,Aa (λ h=>by omega) (λ _=>?_)⟩;have em:((xs.length:Int)*(wd:Int)+7) / 8=(m:Int):=by
  rw [rO];have:((xs.length:Int)*(wd:Int))=((xs.length*wd:Nat):Int):=by norm_cast
  rw [this];omega
 rw [em];refine FW tB (l:=(m:Int)) (c:=(m:Int)) (by omega) (by omega) (by omega) (by omega) λ bo w6 iH B6 jl=>?_;rw [AnF,Aff (GN xs wd) m] at jl;rw [AnF];have S6:=S4.grown B6;refine⟨_,_,_,rfl,S6.Aj λ eR w7 mH B7 S7=>S7.AaO 0 rfl (show 0<1 by decide) λ w8 K8 S8=>⟨_,_,_,S8.cell 1 rfl rfl,_,S8.cell 2 rfl rfl,(KZ w8 (xs.length:Int) (wd:Int)).mono ?_⟩⟩;rintro _ w9 ⟨_,rfl,b1,b2,rfl,P9⟩;have S9:=S8.grown P9.below;have qg:bo<w6.heap.size:=(AnV.1 jl).1;have qH:=(Ae.Al (F:=λ _=>False) B7).at jl (by simp);have lr:=K8.at qH (show ¬ bo=eR by omega);have lu:=(Ae.Al (F:=λ _=>False) P9.below).at lr (by simp);have jw:w.heap.size<=bo:=Nat.le_trans S4.below.size iH;have qi:bo<w9.heap.size:=(AnV.1 lu).1;have qZ:=S9.lt (x:=(b4,_,_)) (AnU _ (AnT ..));have qV:=S9.lt (x:=(b3,_,_)) (AnU _ (AnU _ (AnT ..)));have mI:=S9.lt (x:=(eR,_,_)) (AnT ..);have ig:=P9.own (b2,_,_) (AnT ..);have js:=P9.own (b1,_,_) (AnU _ (AnT ..))
 have qU:=P9.lt (x:=(b2,_,_)) (AnT ..);have mJ:=P9.lt (x:=(b1,_,_)) (AnU _ (AnT ..));refine⟨_,_,_,rfl,by kernel_rfl,λ rr aA bJ hy=>?_⟩;obtain⟨W1,hW1⟩:∃ W1,W1=(w9.alloc (.deferred (some []))).alloc (.loop rr):=⟨_,rfl⟩;rw [<- hW1];have eM:Below w9.heap.size w9 W1:=by rw [hW1];exact (((Below.refl _ w9).alloc (Nat.le_refl _) _).alloc (by simp) _)
 have oh:W1.heap.size=w9.heap.size+2:=by rw [hW1];simp
 have fM:W1.heap[w9.heap.size+1]?=some (.loop rr):=by
  rw [hW1];have:=World.alloc_heap_new (w9.alloc (.deferred (some []))) (.loop rr);rwa [World.size_alloc] at this
 have i':W1.heap[w9.heap.size]?=some (.deferred (some [])):=by
  rw [hW1];exact (Below.heap_alloc _ _ _ (by simp)).trans (World.alloc_heap_new w9 _)
 have dP:=Ae.Al (F:=λ _=>False) eM;have ib:=dP.at lu (by simp);obtain⟨L,hLd⟩:∃ L,L=w9.heap.size+1:=⟨_,rfl⟩;rw [<- hLd] at fM hy ⊢;have Bw1:Below w.heap.size w W1:=S9.below.trans (eM.mono S9.below.size);have uY:=S9.below.size;have low:∀ {w':World},Ae (λ k=>k=bo\/k=L) W1 w'->Below w.heap.size w w':=λ K=>Bw1.trans (K.below Bw1.size λ k hk h=>by omega);have mU:∀ {w':World},Ae (λ k=>k=bo\/k=L) W1 w'->w'.cell? ⟨b3,0,none⟩=some (.int .i64 (wd:Int)):=λ K=>K.cell (dP.cell (S9.cell 2 rfl rfl) (by simp)) (by
  have:=S6.lt (x:=(b3,_,_)) (AnU _ (AnT ..));have h4:=S4.lt (x:=(b3,_,_)) (AnU _ (AnT ..));show ¬ (b3=bo\/b3=L);omega)
 have qj:∀ {w':World},Ae (λ k=>k=bo\/k=L) W1 w'->w'.cell? ⟨b4,0,none⟩=some (.slice a xs.length c):=λ K=>K.cell (dP.cell (S9.cell 1 rfl rfl) (by simp)) (by
  have h4:=S4.lt (x:=(b4,_,_)) (AnT ..);show ¬ (b4=bo\/b4=L);omega)
 have gg:∀ {w':World},Ae (λ k=>k=bo\/k=L) W1 w'->w'.cell? ⟨eR,0,none⟩=some (.slice (some ⟨bo,0,none⟩) m m):=λ K=>K.cell (dP.cell (S9.cell 0 rfl rfl) (by simp)) (by
  show ¬ (eR=bo\/eR=L);omega)
 have qh:bo<w8.heap.size:=(AnV.1 lr).1;have wP:w8.heap.size<=b1:=by simpa using js
 have tQ:w8.heap.size<=b2:=by simpa using ig
 have dC:∀ {w':World},Ae (λ k=>k=bo\/k=L) W1 w'->w'.cell? ⟨b1,0,none⟩=some (.int .i64 (xs.length:Int))/\w'.cell? ⟨b2,0,none⟩=some (.int .i64 (wd:Int)):=λ K =>
  ⟨K.cell (dP.cell (P9.cell 1 rfl rfl) (by simp)) (by show ¬ (b1=bo\/b1=L);omega),K.cell (dP.cell (P9.cell 0 rfl rfl) (by simp)) (by show ¬ (b2=bo\/b2=L);omega)⟩
 have hyp:∀ t,t<xs.length*wd->∀ wx,(Ae (λ k=>k=bo\/k=L) W1 wx/\wx.heap[bo]?=some (.cells (Lo (GN xs wd) m t) ty.uint8 (0,0))/\wx.heap[L]?=some (.loop rr)) ->
   GJ Tryz.prog L #[.int .i64 ((t / wd:Nat):Int),.int .i64 ((t % wd:Nat):Int)] (λ y w'=>y=true/\(Ae (λ k=>k=bo\/k=L) W1 w'/\w'.heap[bo]?=some (.cells (Lo (GN xs wd) m (t+1)) ty.uint8 (0,0))/\w'.heap[L]?=some (.loop rr))) wx:=by
  rintro t ht wx ⟨K,hO,hL⟩;have kU:0<wd:=Nat.pos_of_ne_zero (by rintro rfl;simp at ht);have iz:t / wd<xs.length:=(Nat.div_lt_iff_lt_mul kU).2 ht;have fD:t % wd<wd:=AnX _ kU;have jb:t / 8<m:=by omega
  refine hy _ _ _ wx hL ⟨hL,?_⟩;obtain⟨aW,hw11⟩:∃ aW,aW=wx.putObj L (.loop { rr with state:=.busy }):=⟨_,rfl⟩;rw [<- hw11];have dZ:L<wx.heap.size:=(AnV.1 hL).1;have dm:Ae (λ k=>k=L) wx aW:=by rw [hw11];exact Ay _ _ _
  have gU:aW.heap[L]?=some (.loop { rr with state:=.busy }):=by rw [hw11];exact World.putObj_heap_same dZ
  have K2:Ae (λ k=>k=bo\/k=L) W1 aW.drew:=(K.trans dm (λ k _ h=>.inr h)).drew;have gW:aW.drew.heap[bo]?=some (.cells (Lo (GN xs wd) m t) ty.uint8 (0,0)):=dm.at hO (by show ¬ bo=L;omega);refine⟨_,mU (K.trans dm (λ k _ h=>.inr h)),?_⟩;unfold WM;have et:IntKind.i64.wrap (IntKind.i64.wrap (((t / wd:Nat):Int)*(wd:Int))+((t % wd:Nat):Int))=(t:Int):=by
   have h1:((t / wd:Nat):Int)*(wd:Int)=((t / wd*wd:Nat):Int):=by rw [Int.natCast_mul]
   have h2:=Nat.div_add_mod t wd;rw [Nat.mul_comm] at h2;rw [h1];generalize t / wd*wd=q at h2;generalize t % wd=r' at h2;rw [wrap_i64 (n:=(q:Int)) (by omega) (by omega),wrap_i64 (by omega) (by omega)];omega
  have ed:Int.fdiv (t:Int) (2 ^ (min 3 64))=((t / 8:Nat):Int):=fdiv_pow t 3;rw [et,ed];refine⟨_,_,_,gg K2,⟨by omega,by omega⟩,?_⟩;rw [AnF];have ea:(⟨bo,0,none⟩:Addr).add (t / 8*1)=⟨bo,t / 8,none⟩:=by rw [Am];simp
  obtain⟨p,rfl,hc⟩:=Ug (hl.grown (low K2)) iz;show ∃ n:Int,aW.drew.cell? ((⟨bo,0,none⟩:Addr).add (t / 8*1))=some (.int .u8 n)/\_;rw [ea];have aJ:aW.drew.cell? ⟨bo,t / 8,none⟩=some (.int .u8 (UX (GN xs wd) t (t / 8):Int)):=by
   simp only [World.cell?,gW];simpa using Ahl jb
  refine⟨_,aJ,_,_,_,qj K2,⟨Int.natCast_nonneg _,by exact_mod_cast iz⟩,_,by rw [AnF];exact hc,Int.natCast_nonneg _,?_⟩;rw [AlP (by omega),AnF,AnF,Af4 (jA _ (List.getElem_mem iz)) (by omega),Ajk (AnX _ (by omega))];have jv:xs[t / wd].testBit (t % wd)=GN xs wd t:=by simp [GN,List.getD,iz]
  rw [jv];have ja:(GN xs wd t).toNat*2 ^ (t % 8)<256:=by
   have:2 ^ (t % 8)<2 ^ 8:=An0 (by omega) (AnX _ (by omega));cases GN xs wd t
   ·simp
   ·simpa using this
  rw [or8 (AcE _ _ _) ja,AhA];refine⟨by omega,⟨by omega,by omega⟩,?_⟩;show Cd ((⟨bo,0,none⟩:Addr).add (t / 8*1)) _ _ _;rw [ea];refine Fb gW (by rw [Wx];exact jb) λ bN iR gX=>?_;have gV:bN.heap[L]?=some (.loop { rr with state:=.busy }):=iR.at (show aW.drew.heap[L]?=_ from gU) (by show ¬ L=bo;omega);refine⟨gV,rfl,?_⟩;rw [H6 aA bJ];rw [Ahm _ rfl] at gX;have gn:L<bN.heap.size:=(AnV.1 gV).1;refine⟨(K2.trans iR (λ k _ h=>.inl h)).trans (Ay _ _ _) (λ k _ h=>.inr h),?_,World.putObj_heap_same gn⟩;exact (World.putObj_heap_other (by omega)).trans gX
 refine (Wr (l:=L) (b1:=b1) (b2:=b2) hn hw (λ t wx=>Ae (λ k=>k=bo\/k=L) W1 wx/\wx.heap[bo]?=some (.cells (Lo (GN xs wd) m t) ty.uint8 (0,0))/\wx.heap[L]?=some (.loop rr))
  (λ t wx hj=>dC hj.1) (λ t wx hj=>⟨hj.1.drew,hj.2.1,hj.2.2⟩) hyp ⟨.refl _ _,ib,fM⟩).mono ?_
 rintro _ bF ⟨_,rfl,gS,ji,cQ⟩;have gq:L<bF.heap.size:=(AnV.1 cQ).1;refine⟨⟨_,rfl⟩,none,by rw [H6 aA bJ];exact cQ,rfl,?_⟩;obtain⟨ay,hw15⟩:∃ ay,ay=bF.putObj L (.loop { rr with state:=.exhausted,pending:=none }):=⟨_,rfl⟩;rw [<- hw15];have eN:Ae (λ k=>k=bo\/k=L) W1 ay:=by rw [hw15];exact gS.trans (Ay _ _ _) (λ k _ h=>.inr h)
 have jk:ay.heap[bo]?=some (.cells (Lo (GN xs wd) m (xs.length*wd)) ty.uint8 (0,0)):=by rw [hw15];exact (World.putObj_heap_other (by omega)).trans ji
 have eT:ay.heap[w9.heap.size]?=some (.deferred (some [])):=eN.at i' (by show ¬ (w9.heap.size=bo\/w9.heap.size=L);omega);have eL:=low eN;refine⟨_,_,_,gg eN,eT,some ⟨bo,0,none⟩,m,?_,?_⟩
 ·rw [CH,<- hmd]
 ·refine⟨⟨by simp,.inr ⟨bo,Lo (GN xs wd) m (xs.length*wd),rfl,(World.putObj_heap_other (by omega)).trans jk,?_,by omega,by rw [Wx];omega,?_⟩⟩,λ k hk=>?_,eL.trans ((Ay ay w9.heap.size _).below eL.size λ k hk he=>by omega)⟩
  ·rw [CH,<- hmd];exact Nat.le_refl _
  ·have e:=Ahk xs wd;rw [<- hmd] at e;rw [e,Nat.mul_one,<- List.length_map (f:=Af),List.take_length]
  ·cases hk;exact jw
end
section
variable {w:World}{a:Option Addr}{c:Nat}{xs:List Nat}
end
end Go.Proofs.YtoepjfblppfabaaGreatDoor
namespace Go.Proofs
set_option linter.unusedVariables false
set_option maxRecDepth 100000
open Go.RowKit Go.Maps Go.Sort Go.Shelf
def Tryz.Q4:Go.Shelf.Ren:=⟨fun | 7=>175 | 10=>240 | n=>n,fun | 23=>291 | 26=>9 | 3=>65 | 28=>294 | 0=>0 | 27=>293 | 33=>33 | 4=>4 | n=>n,fun | n=>n⟩
theorem Tryz.Adl:Go.Proofs.SlLaysZ.n7 Tryz.prog Tryz.Q4:={
 mixed:=by kernel_rfl
 f7:=⟨Tryz.f175.name,by decide,Tryz.func175.trans (congrArg some (by kernel_rfl))⟩
 f10:=⟨Tryz.f240.name,by decide,Tryz.func240.trans (congrArg some (by kernel_rfl))⟩
 t0:=Tryz.underlying0
 a0:=Tryz.isAgg0
 z0:=Tryz.sizeOf0
 v0:=Tryz.zeroValue0
 t4:=Tryz.underlying4
 a4:=Tryz.isAgg4
 z4:=Tryz.sizeOf4
 v4:=Tryz.zeroValue4
 t23:=Tryz.underlying291
 a23:=Tryz.isAgg291
 z23:=Tryz.sizeOf291
 v23:=Tryz.zeroValue291
 t26:=Tryz.underlying9
 a26:=Tryz.isAgg9
 z26:=Tryz.sizeOf9
 v26:=Tryz.zeroValue9
 t27:=Tryz.underlying293
 a27:=Tryz.isAgg293
 z27:=Tryz.sizeOf293
 v27:=Tryz.zeroValue293
 t28:=Tryz.underlying294
 a28:=Tryz.isAgg294
 z28:=Tryz.sizeOf294
 v28:=Tryz.zeroValue294
 t33:=Tryz.underlying33
 a33:=Tryz.isAgg33
 z33:=Tryz.sizeOf33
 v33:=Tryz.zeroValue33 }
def Tryz.ML:Go.Shelf.Ren:=⟨fun | 6=>174 | 8=>239 | 9=>200 | 11=>293 | 13=>205 | 12=>255 | 23=>265 | 24=>169 | 14=>301 | 15=>302 | 16=>303 | 17=>304 | 18=>305 | 19=>306 | 20=>307 | 21=>308 | 22=>309 | 25=>347 | 26=>311 | 27=>312 | 28=>348 | 29=>349 | 30=>350 | 31=>369 | n=>n,fun | 26=>9 | 28=>294 | 24=>79 | 0=>0 | 3=>3 | 37=>133 | 48=>131 | 50=>65 | 4=>4 | 40=>387 | 39=>386 | 45=>391 | 5=>5 | 9=>9 | 51=>432 | 55=>436 | 57=>466 | 58=>178 | 33=>33 | n=>n,fun | n=>n⟩
theorem Tryz.Afk:Go.Proofs.SlLaysZ.n6 Tryz.prog Tryz.ML:={
 mixed:=by kernel_rfl
 f6:=⟨Tryz.f174.name,by decide,Tryz.func174.trans (congrArg some (by kernel_rfl))⟩
 f8:=⟨Tryz.f239.name,by decide,Tryz.func239.trans (congrArg some (by kernel_rfl))⟩
 f11:=⟨Tryz.f293.name,by decide,Tryz.func293.trans (congrArg some (by kernel_rfl))⟩
 t0:=Tryz.underlying0
 a0:=Tryz.isAgg0
 z0:=Tryz.sizeOf0
 v0:=Tryz.zeroValue0
 t24:=Tryz.underlying79
 a24:=Tryz.isAgg79
 z24:=Tryz.sizeOf79
 v24:=Tryz.zeroValue79
 t26:=Tryz.underlying9
 a26:=Tryz.isAgg9
 z26:=Tryz.sizeOf9
 v26:=Tryz.zeroValue9
 t28:=Tryz.underlying294
 a28:=Tryz.isAgg294
 z28:=Tryz.sizeOf294
 v28:=Tryz.zeroValue294
 i26:=by kernel_rfl }
def Tryz.AaL:Go.Shelf.Ren:=⟨fun | 6=>200 | 8=>205 | 9=>255 | 19=>265 | 20=>169 | 21=>301 | 22=>302 | 23=>303 | 24=>304 | 25=>305 | 26=>306 | 27=>307 | 28=>308 | 29=>309 | 36=>347 | 31=>311 | 32=>312 | 37=>348 | 38=>349 | 39=>350 | 41=>369 | n=>n,fun | 27=>79 | 29=>9 | 3=>3 | 32=>133 | 26=>79 | 0=>0 | 44=>131 | 46=>65 | 4=>4 | 36=>387 | 35=>386 | 41=>391 | 5=>5 | 9=>9 | 53=>432 | 57=>436 | 63=>466 | 64=>178 | n=>n,fun | n=>n⟩
theorem Tryz.AdH:Go.Proofs.SlLaysM.n6 Tryz.prog Tryz.AaL:={
 mixed:=by kernel_rfl
 f6:=⟨Tryz.f200.name,by decide,Tryz.func200.trans (congrArg some (by kernel_rfl))⟩
 f8:=Tryz.func205.trans (congrArg some (by kernel_rfl))
 f9:=⟨Tryz.f255.name,by decide,Tryz.func255.trans (congrArg some (by kernel_rfl))⟩
 f19:=Tryz.func265.trans (congrArg some (by kernel_rfl))
 f20:=Tryz.func169.trans (congrArg some (by kernel_rfl))
 f21:=⟨Tryz.f301.name,by decide,Tryz.func301.trans (congrArg some (by kernel_rfl))⟩
 f22:=⟨Tryz.f302.name,by decide,Tryz.func302.trans (congrArg some (by kernel_rfl))⟩
 f23:=⟨Tryz.f303.name,by decide,Tryz.func303.trans (congrArg some (by kernel_rfl))⟩
 f24:=⟨Tryz.f304.name,by decide,Tryz.func304.trans (congrArg some (by kernel_rfl))⟩
 f25:=⟨Tryz.f305.name,by decide,Tryz.func305.trans (congrArg some (by kernel_rfl))⟩
 f26:=⟨Tryz.f306.name,by decide,Tryz.func306.trans (congrArg some (by kernel_rfl))⟩
 f27:=⟨Tryz.f307.name,by decide,Tryz.func307.trans (congrArg some (by kernel_rfl))⟩
 f28:=⟨Tryz.f308.name,by decide,Tryz.func308.trans (congrArg some (by kernel_rfl))⟩
 f29:=⟨Tryz.f309.name,by decide,Tryz.func309.trans (congrArg some (by kernel_rfl))⟩
 f31:=Tryz.func311.trans (congrArg some (by kernel_rfl))
 f32:=Tryz.func312.trans (congrArg some (by kernel_rfl))
 f36:=⟨Tryz.f347.name,by decide,Tryz.func347.trans (congrArg some (by kernel_rfl))⟩
 f37:=⟨Tryz.f348.name,by decide,Tryz.func348.trans (congrArg some (by kernel_rfl))⟩
 f38:=⟨Tryz.f349.name,by decide,Tryz.func349.trans (congrArg some (by kernel_rfl))⟩
 f39:=⟨Tryz.f350.name,by decide,Tryz.func350.trans (congrArg some (by kernel_rfl))⟩
 f41:=⟨Tryz.f369.name,by decide,Tryz.func369.trans (congrArg some (by kernel_rfl))⟩
 t0:=Tryz.underlying0
 a0:=Tryz.isAgg0
 z0:=Tryz.sizeOf0
 v0:=Tryz.zeroValue0
 t3:=Tryz.underlying3
 a3:=Tryz.isAgg3
 z3:=Tryz.sizeOf3
 v3:=Tryz.zeroValue3
 t4:=Tryz.underlying4
 a4:=Tryz.isAgg4
 z4:=Tryz.sizeOf4
 v4:=Tryz.zeroValue4
 t5:=Tryz.underlying5
 a5:=Tryz.isAgg5
 z5:=Tryz.sizeOf5
 v5:=Tryz.zeroValue5
 t9:=Tryz.underlying9
 a9:=Tryz.isAgg9
 z9:=Tryz.sizeOf9
 v9:=Tryz.zeroValue9
 t26:=Tryz.underlying79
 a26:=Tryz.isAgg79
 z26:=Tryz.sizeOf79
 v26:=Tryz.zeroValue79
 t27:=Tryz.underlying79
 a27:=Tryz.isAgg79
 z27:=Tryz.sizeOf79
 v27:=Tryz.zeroValue79
 t29:=Tryz.underlying9
 a29:=Tryz.isAgg9
 z29:=Tryz.sizeOf9
 v29:=Tryz.zeroValue9
 t32:=Tryz.underlying133
 a32:=Tryz.isAgg133
 z32:=Tryz.sizeOf133
 v32:=Tryz.zeroValue133
 t35:=Tryz.underlying386
 a35:=Tryz.isAgg386
 z35:=Tryz.sizeOf386
 v35:=Tryz.zeroValue386
 t36:=Tryz.underlying387
 a36:=Tryz.isAgg387
 z36:=Tryz.sizeOf387
 v36:=Tryz.zeroValue387
 t41:=Tryz.underlying391
 a41:=Tryz.isAgg391
 z41:=Tryz.sizeOf391
 v41:=Tryz.zeroValue391
 t44:=Tryz.underlying131
 a44:=Tryz.isAgg131
 z44:=Tryz.sizeOf131
 v44:=Tryz.zeroValue131
 t46:=Tryz.underlying65
 a46:=Tryz.isAgg65
 z46:=Tryz.sizeOf65
 v46:=Tryz.zeroValue65
 t53:=Tryz.underlying432
 a53:=Tryz.isAgg432
 z53:=Tryz.sizeOf432
 v53:=Tryz.zeroValue432
 t57:=Tryz.underlying436
 a57:=Tryz.isAgg436
 z57:=Tryz.sizeOf436
 v57:=Tryz.zeroValue436
 t63:=Tryz.underlying466
 a63:=Tryz.isAgg466
 z63:=Tryz.sizeOf466
 v63:=Tryz.zeroValue466
 t64:=Tryz.underlying178
 a64:=Tryz.isAgg178
 z64:=Tryz.sizeOf178
 v64:=Tryz.zeroValue178 }
theorem Tryz.Ahy(m:Nat):AnyZ.SortsIn Tryz.prog Tryz.ML Fence.wide m :=
 ⟨λ CK off cap ss W hH gd av=>callsIn_wide.2 (AnyM.slices_Sort_string Tryz.AdH CK off cap ss W hH gd av),
 λ p cap W=>callsIn_wide.2 (AnyM.slices_Sort_string_none Tryz.AdH p cap W)⟩
theorem Tryz.Vg(mb:Option Nat)(W:World):CallsIn Fence.wide 5 Tryz.prog 175 #[.map mb] W λ e w'=>e=.returned (.func (.func 240) #[] #[.pointer (some ⟨W.heap.size,0,none⟩)])/\w'=W.alloc (.cells #[.map mb] 291) :=
 AnyZ.keys_in Tryz.Adl Fence.wide 5 trivial rfl mb W
set_option maxHeartbeats 1000000 in
theorem Tryz.Hf{H:Type}(b nn:Nat)(D0:DataW H)(R:Value->Option (DataW H × List MemPlace))(w:World)(gB:w.ownsMap Tryz.prog 9 R b nn D0)(rJ:Maps.size D0<=maxLen)(jy:Maps.size D0*16<=140737488355328) :
  CallsIn Fence.wide 5 Tryz.prog 174 #[.func (.func 240) #[] #[.pointer (some ⟨w.heap.size,0,none⟩)]] (w.alloc (.cells #[.map (some b)] 291)) λ e w'=>∃(v:Value) (ss:List (List UInt8)),e=.returned v/\ss.Perm (strKeys D0) /\
   w'.ownsRow (w.alloc (.cells #[.map (some b)] 291)).heap.size 9 1 v ss.length ((ss.mergeSort (λ x y=>decide (x<=y))).map encStr)/\(v=.slice none 0 0↔ss=[])/\Below (w.alloc (.cells #[.map (some b)] 291)).heap.size (w.alloc (.cells #[.map (some b)] 291)) w':=by
 have cI:=gB.lt;have sG:SeqGives Fence.wide 2 Tryz.prog 240 #[.pointer (some ⟨w.heap.size,0,none⟩)] encStr (λ ss=>ss.Perm (strKeys D0)) (Maps.size D0) (w.alloc (.cells #[.map (some b)] 291)) :=
  AnyZ.keys_gives (ρ:=Tryz.Q4) { Tryz.Adl with } Fence.wide _ trivial rfl (by omega) w.heap.size b nn D0 _ (by simp) (by simp) (by
   obtain⟨es,clock,hb,Ft,hs,hD⟩:=gB;exact⟨es,clock,(Below.heap_alloc _ _ b cI).trans hb,Ft,hs,hD⟩)
 exact AnyZ.sorted_in Tryz.Afk Fence.wide 5 trivial trivial trivial trivial rfl (by omega) (Tryz.Ahy _) (enters_of Tryz.func200 (by kernel_rfl) rfl) 240 #[.pointer (some ⟨w.heap.size,0,none⟩)] trivial (enters_of Tryz.func240 (by kernel_rfl) rfl) _ _ rJ jy _ sG
end Go.Proofs
namespace Go.Dn
set_option linter.unusedVariables false
set_option maxRecDepth 100000
open Go.RowKit (Below)
open Go.Maps (has Tidy Keyed)
theorem Ae.of_grownBy{w w':World}{b:Nat}(h:w.grownBy w' (some b)):Ae (·=b) w w' :=
 ⟨h.os,h.tape,h.output,h.size,λ k hk hn=>h.block k hk (λ e=>hn (Option.some.inj e))⟩
def Pz(P:Program)(k e:TypeId)(q:IntKind)(w:World)(b n:Nat)(g:List UInt8->Option Int):Prop :=
 ∃ D:DataW Unit,w.ownsMap P k (plainElem P e) b n D/\Tidy D/\∀ x,has D (.string x)=(g x).isSome/\D.atKey (.string x) (.lit (.int q 0))=.lit (.int q ((g x).getD 0))
section
variable {P:Program}{k e t:TypeId}{q:IntKind}{w:World}{b n:Nat}{g:List UInt8->Option Int}
theorem Pz.kept(h:Pz P k e q w b n g){F:Nat->Prop}{w':World}(K:Ae F w w')(hn:¬ F b):Pz P k e q w' b n g:=by
 obtain⟨D,⟨es,clock,hb,r⟩,h2⟩:=h;exact⟨D,⟨es,clock,K.at hb hn,r⟩,h2⟩
theorem Pz.lt(h:Pz P k e q w b n g):b<w.heap.size:=by
 obtain⟨D,h,_⟩:=h;exact h.lt
theorem Pz.put(h:Pz P k e q w b n g)(hk:P.underlying k=some .string)(he:P.underlying e=some (.int q))(ht:P.underlying t=some (.map k e))(hn:n<maxLen){s:ByteArray}(hs:s.size<=maxLen){v:Int}(hv:(Lit.int q v).wf=true)
  {f:World->Prop} (hf:∀ w',Ae (·=b) w w'->Pz P k e q w' b (n+1) (λ y=>if y=bl s then some v else g y)->f w'):OPU P (Instr.mapUpdate t (.map (some b)) (.string s) (.int q v)) f w:=by
 obtain⟨D,hD,hT,hg⟩:=h;have ei:keyOf P k (.string s)=some (.string (bl s)):=by simp [keyOf,hk,mapKey,hs,bl]
 obtain⟨w',aD,gB,bu⟩:=hD.update (Maps.string_keyed hk) ht hn ei (plainElem_int he hv);unfold OPU;rw [aD];have aq:WideAt.IsKeyLit (.string (bl s)):=by simp [WideAt.IsKeyLit]
 refine hf w' (.of_grownBy bu) ⟨_,gB,hT.put aq _,λ x=>?_⟩;by_cases hx:x=bl s
 ·subst hx;simp only [if_true];exact⟨Maps.has_put_same hT.isMap aq _,Maps.atKey_put_same hT.isMap aq _ _⟩
 ·have aQ:Lit.string x≠.string (bl s):=λ e=>hx (by injection e);simp only [hx,if_false];exact⟨(Maps.has_put_other aQ _).trans (hg x).1,(Maps.atKey_put_other aQ _ _).trans (hg x).2⟩
theorem Pz.get(h:Pz P k e q w b n g)(hk:P.underlying k=some .string)(he:P.underlying e=some (.int q))(ht:P.underlying t=some (.map k e))(hz:(zeroValue e).run P w=.ok (.int q 0) w){s:ByteArray}(hs:s.size<=maxLen)
  {f:Value->World->Prop} (hf:f (.int q ((g (bl s)).getD 0)) w):CD P (Instr.lookup t (.map (some b)) (.string s) false) f w:=by
 obtain⟨D,hD,hT,hg⟩:=h;have ei:keyOf P k (.string s)=some (.string (bl s)):=by simp [keyOf,hk,mapKey,hs,bl]
 obtain⟨c,aD,eF,_⟩:=hD.lookup_int (Maps.string_keyed hk) ht he hz ei;rw [(hg (bl s)).2] at eF;have:c=(g (bl s)).getD 0:=by injection eF with h1;injection h1 with _ h2;exact h2.symm
 unfold CD;rw [aD,this];exact hf
theorem Pz.keys(h:Pz P k e q w b n g)(hk:P.underlying k=some .string):∃ D:DataW Unit,w.ownsMap P k (plainElem P e) b n D/\Maps.size D<=n/\(strKeys D).Nodup/\∀ x,x∈strKeys D↔(g x).isSome=true:=by
 obtain⟨D,hD,hT,hg⟩:=h;obtain⟨es,e1,hpw⟩:=hT;obtain⟨es',lh,gk⟩:=hD.keysOf;obtain rfl:es=es':=by rw [e1] at lh;simpa using lh
 have iy:∀ p∈es,∃ x,p.1=.string x:=λ p hp=>by obtain⟨v,hv⟩:=gk p hp;obtain⟨x,_,hx,_⟩:=Maps.keyOf_str hk hv;exact⟨x,hx⟩
 have eo:(strKeys D).Nodup:=by
  rw [e1];show (es.map λ p=>strOf p.1).Nodup;refine List.pairwise_map.2 (hpw.imp_of_mem λ {p r} bj dI aQ e=>aQ ?_);obtain⟨a,ha⟩:=iy p bj;obtain⟨c,hc⟩:=iy r dI;rw [ha,hc] at e ⊢;exact congrArg _ e
 refine⟨D,hD,?_,eo,λ x=>?_⟩
 ·obtain⟨es2,clock,_,_,hs,e2⟩:=hD;rw [e2];simp only [Maps.size,length_sorted,List.length_map,Array.length_toList];exact hs
 ·rw [<- (hg x).1,e1,Maps.has_eq,List.any_eq_true];show x∈es.map (λ p=>strOf p.1)↔_;rw [List.mem_map];constructor
  ·rintro⟨p,bj,rfl⟩;obtain⟨a,ha⟩:=iy p bj;exact⟨p,bj,by rw [ha];simp [Lit.sameKey,strOf]⟩
  ·rintro⟨p,bj,hs⟩;obtain⟨a,ha⟩:=iy p bj;rw [ha] at hs;exact⟨p,bj,by rw [ha];simpa [Lit.sameKey,strOf] using hs⟩
end
end Go.Dn
namespace Go.Proofs.YtoepjfblppfabaaGreatDoor
open _root_.Nat renaming le_trans -> AnJ
set_option maxRecDepth 100000
open Go.Dn Go.Proofs
open Go.RowKit (Below)
set_option linter.unusedVariables false
theorem Aay{w:World}{base:Nat}{e:TypeId}{v:Value}{n:Nat}{xs:List Value}(h:w.ownsRow base e 1 v n xs):∃ a c,v=.slice a n c/\Row w e 1 a n c xs/\∀ k,AG a=some k->base<=k:=by
 obtain⟨hl,⟨rfl,rfl⟩ | ⟨g,cap,cur,rfl,hb,hg,h1,h2,h3,h4⟩⟩:=h
 ·exact⟨none,0,rfl,⟨hl,.inl ⟨rfl,rfl,rfl⟩⟩,by simp [AG]⟩
 ·refine⟨_,cap,rfl,⟨hl,.inr ⟨g,cur,rfl,hg,h1,?_,h3,h4⟩⟩,λ k hk=>?_⟩
  ·exact AnJ h2 (by decide)
  ·cases hk;exact hb
structure HS(ls t:List (List UInt8)):Prop where
 up:t.Pairwise (·<·)
 mem:∀ x,x∈t↔x∈ls
theorem KT{t:List (List UInt8)}(h:t.Pairwise (·<·)):t.Nodup:=h.imp λ {a b} mD e=>by subst e;exact List.lt_irrefl _ mD
theorem HS.one{ls t u:List (List UInt8)}(h:HS ls t)(h':HS ls u):t=u:=by
 have hp:t.Perm u:=(List.perm_ext_iff_of_nodup (KT h.up) (KT h'.up)).2 λ x=>(h.mem x).trans (h'.mem x).symm;exact List.Perm.eq_of_pairwise (le:=λ a b=>a<b) (λ a b _ _ h1 h2=>absurd h2 (List.lt_asymm h1)) h.up h'.up hp
theorem Afd{ls ss:List (List UInt8)}(eo:ss.Nodup)(hm:∀ x,x∈ss↔x∈ls):HS ls (ss.mergeSort (λ x y=>decide (x<=y))):=by
 have tr:∀ a b c:List UInt8,leB a b=true->leB b c=true->leB a c=true:=λ a b c h1 h2=>by simp only [leB,decide_eq_true_eq] at *;exact List.le_trans h1 h2
 have yw:∀ a b:List UInt8,(leB a b || leB b a)=true:=λ a b=>by simp only [leB,Bool.or_eq_true,decide_eq_true_eq];exact List.le_total a b
 have hs:=List.pairwise_mergeSort tr yw ss;have hp:=List.mergeSort_perm ss leB;have hn:(ss.mergeSort leB).Nodup:=hp.nodup_iff.2 eo;refine⟨?_,λ x=>(hp.mem_iff).trans (hm x)⟩;refine (hs.and hn).imp λ {a b} ⟨h1,h2⟩=>?_;simp only [leB,decide_eq_true_eq] at h1;rcases Decidable.em (a<b) with h | h
 ·exact h
 ·exact absurd (List.le_antisymm h1 (List.not_lt.1 h)) h2
theorem JF:Tryz.prog.underlying ty.string=some .string:=by kernel_rfl
theorem Yj:Tryz.prog.underlying ty.uint64=some (.int .u64):=by kernel_rfl
abbrev Ad0(w:World)(b n:Nat)(g:List UInt8->Option Int):Prop:=Pz Tryz.prog ty.string ty.uint64 .u64 w b n g
theorem Vq{w:World}{b n:Nat}{g:List UInt8->Option Int}(h:Ad0 w b n g)(hn:n<=4096){ls:List (List UInt8)}(hg:∀ x,(g x).isSome=true↔x∈ls){k:Value->World->Prop}
  (hk:∀ a c t w',HS ls t->Row w' ty.string 1 a t.length c (t.map encStr)->(∀ k,AG a=some k->w.heap.size<=k)->Below w.heap.size w w'->k (.slice a t.length c) w') :
  Calls Tryz.prog f.Dx #[.map (some b)] w (λ e w1=>∃(fn:FuncId) (fi ca:Array Value),e=.returned (.func (.func fn) fi ca) /\
   Calls Tryz.prog f.LI #[.func (.func fn) fi ca] w1 (λ e w2=>∃(a:Option Addr) (l c:Nat),e=.returned (.slice a l c)/\k (.slice a l c) w2)):=by
 obtain⟨D,hD,av,eo,bB⟩:=h.keys JF;refine (callsIn_wide.1 (Tryz.Vg (some b) w)).mono ?_;rintro _ w1 ⟨rfl,rfl⟩;refine⟨_,_,_,rfl,(callsIn_wide.1 (Tryz.Hf b n D (plainElem Tryz.prog ty.uint64) w hD (AnJ (AnJ av hn) (by decide)) (by omega))).mono ?_⟩;rintro _ w2 ⟨v,ss,rfl,jY,aG,_,hb⟩;obtain⟨a,c,rfl,hR,bA⟩:=Aay aG;have hr:=Afd (ls:=ls) (jY.nodup_iff.2 eo) (λ x=>(jY.mem_iff).trans ((bB x).trans (hg x)));have hlen:(ss.mergeSort (λ x y=>decide (x<=y))).length=ss.length:=List.length_mergeSort _;have sz:w.heap.size<=(w.alloc (.cells #[.map (some b)] ty.DJ)).heap.size:=by simp
 refine⟨_,_,_,rfl,?_⟩;have:=hk a c _ w2 hr (by rw [hlen];exact hR) (λ k hk=>AnJ sz (bA k hk)) (((Below.refl _ w).alloc (Nat.le_refl _) _).trans (hb.mono sz));rwa [hlen] at this
def Hs(v:Ax):List Value:=[.int .i64 v.1,.int .i64 v.2.1,.string v.2.2]
def Am5(v:Ax):Prop:=Eb v/\v.2.2.size<=maxLen
theorem VO:Tryz.prog.cellsOf ty.int=1:=by kernel_rfl
theorem Y2:Tryz.prog.cellsOf ty.int64=1:=by kernel_rfl
theorem VP:Tryz.prog.cellsOf ty.string=1:=by kernel_rfl
theorem Aju:Ja Tryz.prog ty.AD=some [(ty.int,0),(ty.int64,1),(ty.string,2)]:=by kernel_rfl
theorem AdP:Tryz.prog.underlying ty.int=some (.int .i64):=by kernel_rfl
theorem Afs:Tryz.prog.underlying ty.int64=some (.int .i64):=by kernel_rfl
theorem Aea:Tryz.prog.cellsOf ty.AD=3:=by kernel_rfl
theorem TK{w:World}:∀ m r,r.length=Tryz.prog.cellsOf ty.AD->Go.Dn.Good Tryz.prog w m ty.AD r->∃ x,r=Hs x/\Am5 x:=by
 intro m r hl h;obtain⟨_,n,hf⟩:=h.fields Aju;rw [Aea] at hl
 match r,hl with
 | [v0,v1,v2],_ =>
  simp only [List.mem_cons,List.not_mem_nil,or_false,forall_eq_or_imp,forall_eq,VO,Y2,VP] at hf;obtain⟨h0,h1,h2⟩:=hf;obtain⟨x0,e0,_⟩:=h0.int AdP;obtain⟨x1,e1,q1⟩:=h1.int Afs;obtain⟨x2,e2,q2⟩:=h2.str JF;have uX : -9223372036854775808<=x1/\x1<=9223372036854775807:=by simpa [Lit.wf,IntKind.min,IntKind.max,IntKind.signed,IntKind.bits] using q1
  refine⟨(x0,x1,x2),?_,⟨uX.1,uX.2⟩,q2⟩;simp at e0 e1 e2;simp [Hs,e0,e1,e2]
end Go.Proofs.YtoepjfblppfabaaGreatDoor
namespace Go.Proofs.YtoepjfblppfabaaGreatDoor
open _root_.UInt8 renaming ofNat -> AnG
set_option maxRecDepth 100000
open Go.Dn Go.Proofs
open Go.RowKit (Below)
set_option linter.unusedVariables false
/-! ### what package-level variables hold -/
/-! ### Number, Signed, Text -/
/-! ### Lay -/
def FU(v:Ax):List UInt8 :=
 if v.1=1 then 1 :: Ag (Fk v.2.1) else if v.1=2 then [2,AnG v.2.1.toNat] else if v.1=3 then 3 :: CQ v.2.2 else [0]
def Al6(b:List UInt8)(v:Ax)(r:Value)(w w':World):Prop :=
 (AL v=false/\r=.tuple #[.slice none 0 0,.int .i64 2]/\Below w.heap.size w w')\/(AL v=true/\∃ a c,r=.tuple #[.slice a (b++FU v).length c,.int .i64 0]/\Dh w w' (b++FU v) a c)
theorem Pf{w:World}{a:Option Addr}{c:Nat}(l:List UInt8)(hl:Rd w a (l.map Af))(v:Ax)(hv:Eb v)(hs:l.length+2000<=140737488355328) :
  Calls Tryz.prog f.Afv #[.slice a l.length c,Aft v] w (AB λ r w'=>Al6 l v r w w'):=by
 apply R.Sk
 delta R.A R.Ab R.B R.BL R.Cb R.Cs R.E R.F R.H R.I R.J R.Ks R.Li R.Lt R.N R.O R.S R.T R.Wb;try dsimp only [R.Ps]
 refine (SH.start (λ _=>False) w).Aj λ b5 w1 ij B1 S1=>⟨_,S1.cell 0 rfl rfl,_,S1.cell 0 rfl rfl,_,S1.cell 0 rfl rfl,(Cz w1 v).mono ?_⟩;rintro _ w2 ⟨_,rfl,rfl,B2⟩;have S2:=S1.grown B2;refine⟨_,rfl,A5 (AU (λ hr=>?_) (λ hr=>.inl ⟨hr,rfl,S2.below⟩))⟩;have hk:=G7 hr;refine⟨_,S2.cell 0 rfl rfl,S2.Aj λ eQ w3 mG B3 S3=>S3.Aj λ vm w4 qS B4 S4=>?_⟩;obtain⟨kk,gO,hkb⟩:∃ kk:Nat,v.1=kk/\kk<4:=⟨v.1.toNat,by omega,by omega⟩;have xt:Value.int .u8 (IntKind.u8.wrap v.1)=Af (AnG kk):=by rw [gO,Bh (by omega) (by omega)];exact DO (by omega)
 refine (Bf [(a,c,l),(some ⟨eQ,0,none⟩,1,[AnG kk])] (by have:=Rd.Ak (S4.get 0 rfl);simpa [BQ] using this) (by
  intro p hp;simp only [List.mem_cons,List.not_mem_nil,or_false] at hp;rcases hp with rfl | rfl
  ·exact hl.grown S4.below
  ·have:=Rd.Ak (S4.get 1 rfl);rw [xt] at this;simpa using this) (by simp) (by rw [TG];simp;omega)).mono ?_
 rintro _ w5 ⟨_,rfl,a5,c5,rfl,h5⟩;rw [TG] at h5 ⊢;have S5:=S4.grown h5.An;have jh:Dh w w5 (l++[AnG kk]) a5 c5:=h5.before S4.below;refine⟨_,_,_,rfl,_,S5.cell 2 rfl rfl,Az (λ h=>⟨_,S5.cell 2 rfl rfl,?_⟩) (λ h1=>Az (λ h=>⟨_,S5.cell 2 rfl rfl,?_⟩) (λ h2=>Az (λ h=>⟨_,S5.cell 2 rfl rfl,?_⟩) (λ h3=>?_)))⟩
 ·refine (Ff _ jh.rd v.2.1 hv.lo hv.hi (by simp;omega)).mono ?_;rintro _ w6 ⟨_,rfl,a6,c6,rfl,h6⟩;have e:(l++[AnG kk])++Ag (Fk v.2.1)=l++FU v:=by
   have:kk=1:=by omega
   subst this;simp [FU,h]
  rw [e] at h6 ⊢;exact⟨_,_,_,rfl,.inr ⟨hr,a6,c6,rfl,h6.before jh.An⟩⟩
 ·have qR:v.2.1=0\/v.2.1=1:=by omega
  refine S5.Aj λ gK w7 mM B7 S7=>?_;refine Kg (jh.grown B7).row (by simp;omega) (x:=AnG v.2.1.toNat) (by rw [Bh (by omega) (by omega)];rcases qR with h | h <;> rw [h] <;> rfl) (S7.get 0 rfl) λ a8 c8 w8 R8 K8 N8=>⟨_,_,_,rfl,.inr ⟨hr,a8,c8,?_⟩⟩;have e:(l++[AnG kk])++[AnG v.2.1.toNat]=l++FU v:=by
   have:kk=2:=by omega
   subst this;simp [FU,h]
  rw [e] at R8 ⊢;have h7:=jh.grown B7;refine⟨rfl,R8,λ k hk=>?_,h7.An.trans (K8.below h7.An.size λ k hk he=>by have:=h7.new k he;omega)⟩;rcases N8 k hk with h | h
  ·exact h7.new k h
  ·exact Nat.le_trans h7.An.size h
 ·refine (JH _ jh.rd v.2.2 (by omega) (by simp;omega)).mono ?_;rintro _ w6 ⟨_,rfl,a6,c6,rfl,h6⟩;have e:(l++[AnG kk])++CQ v.2.2=l++FU v:=by
   have:kk=3:=by omega
   subst this;simp [FU,h]
  rw [e] at h6 ⊢;exact⟨_,_,_,_,rfl,.inr ⟨hr,a6,c6,rfl,h6.before jh.An⟩⟩
 ·have e:l++[AnG kk]=l++FU v:=by
   have:kk=0:=by omega
   subst this;simp [FU,h1,h2,h3]
  have h6:=jh;rw [e] at h6;refine .inr ⟨hr,a5,c5,?_,h6⟩;rw [<- e]
/-! ### Show -/
end Go.Proofs.YtoepjfblppfabaaGreatDoor
namespace Go.Proofs.YtoepjfblppfabaaGreatDoor
open Go.Dn Go.Proofs
set_option maxRecDepth 100000
set_option linter.unusedVariables false
namespace R
end R
end Go.Proofs.YtoepjfblppfabaaGreatDoor
namespace Go.Proofs.YtoepjfblppfabaaGreatDoor
set_option maxRecDepth 100000
open Go.Dn Go.Proofs
open Go.RowKit (Below)
set_option linter.unusedVariables false
/-! ### what package-level variables hold -/
def UC:List Value:=[(-1,0,0),(0,0,0),(0,0,0),(2,1,1),(2,1,1),(2,1,1),(2,1,1),(2,1,1),(1,1,1),(2,0,2),(2,0,2),(2,0,2),(2,2,2),(2,2,2),(1,2,2),(1,0,2),(1,3,1)].flatMap λ (x:Int × Int × Int)=>[Value.int .i64 x.1,.int .i64 x.2.1,.int .i64 x.2.2]
def T4:List Value:=([⟨#[115,101,108,101,99,116]⟩,⟨#[119,104,101,114,101]⟩,⟨#[103,114,111,117,112]⟩,⟨#[98,121]⟩,⟨#[111,114,100,101,114]⟩,⟨#[108,105,109,105,116]⟩,⟨#[97,115]⟩,⟨#[97,110,100]⟩,⟨#[111,114]⟩,⟨#[110,111,116]⟩,
 ⟨#[105,115]⟩,⟨#[110,117,108,108]⟩,⟨#[116,114,117,101]⟩,⟨#[102,97,108,115,101]⟩,⟨#[108,101,110]⟩,⟨#[100,101,115,99]⟩,⟨#[99,111,117,110,116]⟩,⟨#[115,117,109]⟩,⟨#[109,105,110]⟩,⟨#[109,97,120]⟩]:List ByteArray).map Value.string
def Q0:List Value:=([⟨#[]⟩,⟨#[]⟩,⟨#[99,111,117,110,116]⟩,⟨#[115,117,109]⟩,⟨#[109,105,110]⟩,⟨#[109,97,120]⟩]:List ByteArray).map Value.string
structure Env(w:World):Prop where
 max:∃ m,w.cell? ⟨5,0,none⟩=some (.int .i64 m)
 pow : Lib.TabIs Tryz.prog w "internal/strconv.uint64pow10" .u64 Lib.pow10Tab
 shp:Rd w (some ⟨4,0,none⟩) UC
 key:Rd w (some ⟨6,0,none⟩) T4
 gat:Rd w (some ⟨1,0,none⟩) Q0
theorem Afw{P:Program}{w w':World}{n:String}{cs:Array Value}(h:w.var? P n=some cs)(hb:Below w.heap.size w w'):w'.var? P n=some cs:=by
 unfold World.var? at *;cases hg:P.globalNamed n with
 | none=>simp [hg] at h
 | some g =>
  simp only [hg,Option.bind_some] at h ⊢;split at h
  ·rename_i c t fz hh;rw [hb.block g (Array.getElem?_eq_some_iff.1 hh).1,hh];exact h
  ·cases h
theorem Env.grown{w w':World}(h:Env w)(hb:Below w.heap.size w w'):Env w':=by
 refine⟨?_,Afw h.pow hb,h.shp.grown hb,h.key.grown hb,h.gat.grown hb⟩;obtain⟨m,hm⟩:=h.max;exact⟨m,(Ae.Al (F:=λ _=>False) hb).cell hm (by simp)⟩
/-! ### Number, Signed, Text -/
/-! ### Lay -/
/-! ### Show -/
def Ak1(l:List UInt8):List UInt8:=l.flatMap λ c=>if c=39 then [39,39] else [c]
def Amm(v:Ax):List UInt8 :=
 if v.1=0 then [110,117,108,108] else if v.1=1 then Lib.itoa v.2.1 else if v.1=2 then Lib.formatBool (v.2.1==1) else (39 :: Ak1 (bl v.2.2))++[39]
end Go.Proofs.YtoepjfblppfabaaGreatDoor
namespace Go.Dn
set_option linter.unusedVariables false
set_option maxRecDepth 100000
open Go.RowKit (Below)
open Go.Maps (has Tidy Keyed)
def WQ(P:Program)(k e:TypeId)(w:World)(b n:Nat)(g:List UInt8->Bool):Prop :=
 ∃ D:DataW Unit,w.ownsMap P k (plainElem P e) b n D/\Tidy D/\∀ x,D.atKey (.string x) (.lit (.bool false))=.lit (.bool (g x))
theorem Np{H:Type}{P:Program}{e:TypeId}(he:P.underlying e=some .bool){v:Value}{z:DataW H × List MemPlace}(h:plainElem P e v=some z):∃ a,v=.bool a/\z=(.lit (.bool a),[]):=by
 unfold plainElem at h;rw [he] at h;cases v <;> simp at h;exact⟨_,rfl,h.symm⟩
section
variable {P:Program}{k e t:TypeId}{w:World}{b n:Nat}{g:List UInt8->Bool}
theorem WQ.kept(h:WQ P k e w b n g){F:Nat->Prop}{w':World}(K:Ae F w w')(hn:¬ F b):WQ P k e w' b n g:=by
 obtain⟨D,⟨es,clock,hb,r⟩,h2⟩:=h;exact⟨D,⟨es,clock,K.at hb hn,r⟩,h2⟩
theorem WQ.put(h:WQ P k e w b n g)(hk:P.underlying k=some .string)(he:P.underlying e=some .bool)(ht:P.underlying t=some (.map k e))(hn:n<maxLen){s:ByteArray}(hs:s.size<=maxLen){v:Bool}
  {f:World->Prop} (hf:∀ w',Ae (·=b) w w'->WQ P k e w' b (n+1) (λ y=>if y=bl s then v else g y)->f w'):OPU P (Instr.mapUpdate t (.map (some b)) (.string s) (.bool v)) f w:=by
 obtain⟨D,hD,hT,hg⟩:=h;have ei:keyOf P k (.string s)=some (.string (bl s)):=by simp [keyOf,hk,mapKey,hs,bl]
 obtain⟨w',aD,gB,bu⟩:=hD.update (Maps.string_keyed hk) ht hn ei (plainElem_bool he v);unfold OPU;rw [aD];have aq:WideAt.IsKeyLit (.string (bl s)):=by simp [WideAt.IsKeyLit]
 refine hf w' (.of_grownBy bu) ⟨_,gB,hT.put aq _,λ x=>?_⟩;by_cases hx:x=bl s
 ·subst hx;simp only [if_true];exact Maps.atKey_put_same hT.isMap aq _ _
 ·have aQ:Lit.string x≠.string (bl s):=λ e=>hx (by injection e);simp only [hx,if_false];exact (Maps.atKey_put_other aQ _ _).trans (hg x)
theorem WQ.get(h:WQ P k e w b n g)(hk:P.underlying k=some .string)(he:P.underlying e=some .bool)(ht:P.underlying t=some (.map k e))(hz:(zeroValue e).run P w=.ok (.bool false) w){s:ByteArray}(hs:s.size<=maxLen)
  {f:Value->World->Prop} (hf:f (.bool (g (bl s))) w):CD P (Instr.lookup t (.map (some b)) (.string s) false) f w:=by
 obtain⟨D,hD,hT,hg⟩:=h;have ei:keyOf P k (.string s)=some (.string (bl s)):=by simp [keyOf,hk,mapKey,hs,bl]
 obtain⟨v,ps,aD,hv⟩:=hD.lookup (Maps.string_keyed hk) ht hz (plainElem_bool he false) ei;obtain⟨c,rfl,hc⟩:=Np he hv;simp only [Prod.mk.injEq] at hc;have eF:=hc.1;rw [hg (bl s)] at eF;have:c=g (bl s):=by injection eF with h1;injection h1 with h2;exact h2.symm
 unfold CD;rw [aD,this];exact hf
end
end Go.Dn
namespace Go.Dn
open _root_.List renaming getElem?_eq_some_iff -> Anj, getElem?_set_self -> Anl, getElem_set_ne -> An2, mem_cons -> Anh, mem_of_getElem? -> Ani, pairwise_iff_getElem -> An1, set_set -> AnE
open _root_.Nat renaming le_refl -> AnD, le_trans -> AnJ
set_option linter.unusedVariables false
set_option maxRecDepth 100000
open Go.RowKit (Below)
structure It where
 CK:Option Nat
 ok:World->Prop
 st:∀ w w',(∀ k,CK=some k->w'.heap[k]?=w.heap[k]?)->ok w->ok w'
 lt:∀ w,ok w->∀ k,CK=some k->k<w.heap.size
def It.obj(b:Nat)(o:Obj):It where
 CK:=some b
 ok:=λ w=>w.heap[b]?=some o
 st:=λ w w' h h0=>(h b rfl).trans h0
 lt:=λ w h k hk=>by cases hk;exact (Array.getElem?_eq_some_iff.1 h).1
def It.cells(b:Nat)(cs:Array Value)(t:TypeId):It:=It.obj b (.cells cs t (0,0))
def It.row(e:TypeId)(sz:Nat)(a:Option Addr)(n c:Nat)(xs:List Value):It where
 CK:=AG a
 ok:=λ w=>Row w e sz a n c xs
 st:=λ w w' h h0=>by
  refine⟨h0.1,?_⟩;rcases h0.2 with h1 | ⟨g,cur,rfl,hg,r⟩
  ·exact .inl h1
  ·exact .inr ⟨g,cur,rfl,(h g rfl).trans hg,r⟩
 lt:=λ w h k hk=>h.lt hk
def It.rd(a:Option Addr)(xs:List Value):It where
 CK:=match xs with | []=>none | _=>AG a
 ok:=λ w=>Rd w a xs
 st:=λ w w' h h0=>by
  intro j v hv;obtain⟨p,hp,hc⟩:=h0 j v hv;subst hp;refine⟨p,rfl,?_⟩;cases xs with
  | nil=>simp at hv
  | cons x xs =>
   rw [World.cell?_of_block (w:=w) (by rw [Bp];exact h p.block rfl)];exact hc
 lt:=λ w h k hk=>by
  cases xs with
  | nil=>cases hk
  | cons x xs =>
   obtain⟨p,rfl,hc⟩:=h 0 x rfl;have:=World.block_lt_of_cell? _ _ hc;rw [Bp] at this;cases hk;exact this
structure ST(w0 w:World)(H:List It):Prop where
 An:Below w0.heap.size w0 w
 ok:∀ x∈H,x.ok w
 nd:H.Pairwise (λ x y=>∀ k,x.CK=some k->y.CK≠some k)
 own:∀ x∈H,∀ k,x.CK=some k->w0.heap.size<=k
section
variable {w0 w:World}{H:List It}
theorem ST.start(w:World):ST w w []:=⟨.refl _ _,by simp,by simp,by simp⟩
theorem ST.get(S:ST w0 w H)(n:Nat){x:It}(hn:H[n]?=some x):x.ok w:=S.ok x (Ani hn)
theorem ST.grown(S:ST w0 w H){w':World}(h:Below w.heap.size w w'):ST w0 w' H where
 An:=S.An.trans (h.mono S.An.size)
 ok:=λ x hx=>x.st w w' (λ k hk=>h.block k (x.lt w (S.ok x hx) k hk)) (S.ok x hx)
 nd:=S.nd
 own:=S.own
theorem ST.add(S:ST w0 w H){w':World}(h:Below w.heap.size w w')(y:It)(hy:y.ok w')(hb:∀ k,y.CK=some k->w.heap.size<=k):ST w0 w' (y :: H) where
 An:=(S.grown h).An
 ok:=λ x hx=>by
  rcases Anh.1 hx with rfl | hx
  ·exact hy
  ·exact (S.grown h).ok x hx
 nd:=List.pairwise_cons.2 ⟨λ x hx k hk cr=>by have:=x.lt w (S.ok x hx) k cr;have:=hb k hk;omega,S.nd⟩
 own:=λ x hx k hk=>by
  rcases Anh.1 hx with rfl | hx
  ·exact AnJ S.An.size (hb k hk)
  ·exact S.own x hx k hk
theorem XK{l:List It}(h:l.Pairwise (λ x y=>∀ k,x.CK=some k->y.CK≠some k)){i j:Nat}{x y:It}(hi:l[i]?=some x)(hj:l[j]?=some y)(aQ:i≠j){k:Nat}(hk:x.CK=some k):y.CK≠some k:=by
 obtain⟨h1,rfl⟩:=Anj.1 hi;obtain⟨h2,rfl⟩:=Anj.1 hj;rcases Nat.lt_or_gt_of_ne aQ with aB | aB
 ·exact (An1.1 h) i j h1 h2 aB k hk
 ·intro he;exact (An1.1 h) j i h2 h1 aB k he hk
theorem ST.IM(S:ST w0 w H)(n:Nat){x:It}(hn:H[n]?=some x){w':World}(K:Ae (λ k=>x.CK=some k) w w')(y:It)(hy:y.ok w')(hb:∀ k,y.CK=some k->x.CK=some k\/w.heap.size<=k):ST w0 w' (H.set n y) where
 An:=S.An.trans (K.below S.An.size λ k hk h=>by have:=S.own x (Ani hn) k h;omega)
 ok:=by
  intro z hz;obtain⟨i,hi⟩:=List.mem_iff_getElem?.1 hz;by_cases cB:n=i
  ·subst cB;rw [Anl (Anj.1 hn).1] at hi;cases hi;exact hy
  ·rw [List.getElem?_set_ne cB] at hi;have iO:=S.ok z (Ani hi);refine z.st w w' (λ k hk=>K.block k (z.lt w iO k hk) ?_) iO;exact λ h=>XK S.nd hi hn (Ne.symm cB) hk h
 nd:=by
  refine An1.2 λ i j hi hj dc k hk cr=>?_;rw [List.length_set] at hi hj;have rQ:=(Anj.1 hn).1;have old:∀ {i j:Nat} (hi:i<H.length) (hj:j<H.length),i≠j->H[i].CK=some k->H[j].CK≠some k:=λ hi hj aQ h=>XK S.nd (List.getElem?_eq_getElem hi) (List.getElem?_eq_getElem hj) aQ h;have hx:H[n]=x:=(Anj.1 hn).2;have far:∀ {j:Nat} (hj:j<H.length),j≠n->H[j].CK=some k->y.CK≠some k:=λ {j} hj aQ h h'=>by
   rcases hb k h' with h2 | h2
   ·rw [<- hx] at h2;exact old rQ hj (Ne.symm aQ) h2 h
   ·have:=H[j].lt w (S.ok _ (List.getElem_mem hj)) k h;omega
  by_cases h1:n=i
  ·subst h1;rw [List.getElem_set_self] at hk;rw [An2 (by omega)] at cr;exact far hj (by omega) cr hk
  ·rw [An2 h1] at hk;by_cases h2:n=j
   ·subst h2;rw [List.getElem_set_self] at cr;exact far hi (by omega) hk cr
   ·rw [An2 h2] at cr;exact old hi hj (by omega) hk cr
 own:=by
  intro z hz k hk;obtain⟨i,hi⟩:=List.mem_iff_getElem?.1 hz;by_cases cB:n=i
  ·subst cB;rw [Anl (Anj.1 hn).1] at hi;cases hi;rcases hb k hk with h | h
   ·exact S.own x (Ani hn) k h
   ·exact AnJ S.An.size h
  ·rw [List.getElem?_set_ne cB] at hi;exact S.own z (Ani hi) k hk
theorem ST.sub(S:ST w0 w H){H':List It}(h:H'.Sublist H):ST w0 w H':=⟨S.An,λ x hx=>S.ok x (h.subset hx),S.nd.sublist h,λ x hx=>S.own x (h.subset hx)⟩
theorem ST.drop(S:ST w0 w H)(n:Nat):ST w0 w (H.drop n):=S.sub (List.drop_sublist _ _)
theorem ST.perm(S:ST w0 w H){H':List It}(h:H.Perm H'):ST w0 w H' :=
 ⟨S.An,λ x hx=>S.ok x (h.mem_iff.2 hx),(h.pairwise_iff (λ h k hk cr=>h k cr hk)).1 S.nd,λ x hx=>S.own x (h.mem_iff.2 hx)⟩
theorem ST.pull(S:ST w0 w H)(n:Nat){x:It}(hn:H[n]?=some x):ST w0 w (x :: H.eraseIdx n) where
 An:=S.An
 ok:=λ y hy=>by
  rcases Anh.1 hy with rfl | hy
  ·exact S.get n hn
  ·exact S.ok y (List.mem_of_mem_eraseIdx hy)
 nd:=by
  refine List.pairwise_cons.2 ⟨λ y hy k hk cr=>?_,S.nd.sublist (List.eraseIdx_sublist ..)⟩;obtain⟨i,hi,aQ⟩:=List.mem_eraseIdx_iff_getElem?.1 hy;exact XK S.nd hn aQ (Ne.symm hi) hk cr
 own:=λ y hy=>by
  rcases Anh.1 hy with rfl | hy
  ·exact S.own _ (Ani hn)
  ·exact S.own y (List.mem_of_mem_eraseIdx hy)
theorem ST.join(S:ST w0 w H){w':World}{P:List It}(T:ST w w' P):ST w0 w' (P++H) where
 An:=S.An.trans (T.An.mono S.An.size)
 ok:=λ x hx=>by
  rcases List.mem_append.1 hx with h | h
  ·exact T.ok x h
  ·exact (S.grown T.An).ok x h
 nd:=List.pairwise_append.2 ⟨T.nd,S.nd,λ x hx y hy k hk cr=>by have:=T.own x hx k hk;have:=y.lt w (S.ok y hy) k cr;omega⟩
 own:=λ x hx k hk=>by
  rcases List.mem_append.1 hx with h | h
  ·exact AnJ S.An.size (T.own x h k hk)
  ·exact S.own x h k hk
theorem ST.Aj(S:ST w0 w H){cs:Array Value}{t:TypeId}{k:Nat->World->Prop}(hk:∀ b w',w.heap.size<=b->Below w.heap.size w w'->ST w0 w' (It.cells b cs t :: H)->k b w'):C0 cs t k w :=
 hk _ _ (AnD _) ((Below.refl _ w).alloc (AnD _) _) (S.add ((Below.refl _ w).alloc (AnD _) _) _ (heap_alloc_new w _) (λ k hk=>by cases hk;exact AnD _))
theorem ST.draw(S:ST w0 w H){k:World->Prop}(hk:∀ w',Below w.heap.size w w'->ST w0 w' H->k w'):WM k w:=hk _ ((Below.refl _ w).drew) (S.grown ((Below.refl _ w).drew))
theorem ST.cell(S:ST w0 w H)(n:Nat){b:Nat}{cs:Array Value}{t:TypeId}(hn:H[n]?=some (It.cells b cs t)){i:Nat}{v:Value}(hv:cs[i]?=some v):w.cell? ⟨b,i,none⟩=some v:=by
 have:w.heap[b]?=some (.cells cs t (0,0)):=S.get n hn;simp [World.cell?,this,hv]
theorem ST.CK(S:ST w0 w H)(n:Nat){b:Nat}{cs:Array Value}{t:TypeId}(hn:H[n]?=some (It.cells b cs t)):w.heap[b]?=some (.cells cs t (0,0)):=S.get n hn
theorem ST.rdc(S:ST w0 w H)(n:Nat){b:Nat}{cs:Array Value}{t:TypeId}(hn:H[n]?=some (It.cells b cs t)):Rd w (some ⟨b,0,none⟩) cs.toList:=Rd.Ak (S.CK n hn)
theorem ST.rw(S:ST w0 w H)(n:Nat){e:TypeId}{sz:Nat}{a:Option Addr}{m c:Nat}{xs:List Value}(hn:H[n]?=some (It.row e sz a m c xs)):Row w e sz a m c xs:=S.get n hn
theorem ST.rd(S:ST w0 w H)(n:Nat){e:TypeId}{sz:Nat}{a:Option Addr}{m c:Nat}{xs:List Value}(hn:H[n]?=some (It.row e sz a m c xs)):Rd w a xs:=(S.rw n hn).rd
theorem ST.Cr(S:ST w0 w H)(n:Nat){b:Nat}{cs aC:Array Value}{t:TypeId}(hn:H[n]?=some (It.cells b cs t)){i:Nat}{v:Value}{k:World->Prop}(hi:i<cs.size)(hc:cs.setIfInBounds i v=aC)
  (hk:∀ w',ST w0 w' (H.set n (It.cells b aC t))->k w'):Cd ⟨b,i,none⟩ v k w:=by
 subst hc;have hb:=S.CK n hn;refine⟨by rw [S.cell n hn (Array.getElem?_eq_getElem hi)];rfl,by simp [World.frozen?,hb],hk _ (S.IM n hn ((DE w b i v).mono λ k _ h=>by subst h;rfl) _ (Dw hb v) (λ k hk=>.inl hk))⟩
theorem ST.Hh(S:ST w0 w H)(n:Nat){b:Nat}{cs:Array Value}{t:TypeId}(hn:H[n]?=some (It.cells b cs t)){vs:List Value}(hl:vs.length=cs.size)(h1:∀ v∈vs,v.oneCell'=true)
  {k:World->Prop} (hk:∀ w',ST w0 w' (H.set n (It.cells b ⟨vs⟩ t))->k w'):BW vs ⟨b,0,none⟩ 0 k w :=
 MU vs (S.CK n hn) (by omega) h1 λ w' K hb=>hk w' (S.IM n hn (K.mono λ k _ h=>by subst h;rfl) _ (by rw [UG vs cs hl] at hb;exact hb) (λ k hk=>.inl hk))
theorem ST.KQ(S:ST w0 w H){z0 z1 z2 v0 v1 v2:Value}{t:TypeId}{k:Nat->World->Prop}(hk:∀ b w',w.heap.size<=b->ST w0 w' (It.cells b #[v0,v1,v2] t :: H)->k b w') :
  C0 #[z0,z1,z2] t (λ b w=>Cd ⟨b,0,none⟩ v0 (λ w=>Cd ⟨b,1,none⟩ v1 (λ w=>Cd ⟨b,2,none⟩ v2 (λ w=>k b w) w) w) w) w :=
 S.Aj λ b w1 hb _ S1=>S1.Cr 0 rfl (aC:=#[v0,z1,z2]) (by simp) rfl λ w2 S2=>S2.Cr 0 rfl (aC:=#[v0,v1,z2]) (by simp) rfl λ w3 S3=>S3.Cr 0 rfl (aC:=#[v0,v1,v2]) (by simp) rfl λ w4 S4=>hk b w4 hb S4
theorem ST.Afm(S:ST w0 w H)(n:Nat){b:Nat}{x0 x1 x2 x3 x4 x5 x6 v0 v1 v2 v3 v4 v5 v6:Value}{t:TypeId}(hn:H[n]?=some (It.cells b #[x0,x1,x2,x3,x4,x5,x6] t)){k:World->Prop}
  (hk:∀ w',ST w0 w' (H.set n (It.cells b #[v0,v1,v2,v3,v4,v5,v6] t))->k w') :
  Cd ⟨b,0,none⟩ v0 (λ w=>Cd ⟨b,1,none⟩ v1 (λ w=>Cd ⟨b,2,none⟩ v2 (λ w=>Cd ⟨b,3,none⟩ v3 (λ w=>Cd ⟨b,4,none⟩ v4 (λ w=>Cd ⟨b,5,none⟩ v5 (λ w=>Cd ⟨b,6,none⟩ v6 k w) w) w) w) w) w) w:=by
 have aB:=(Anj.1 hn).1;refine S.Cr n hn (aC:=#[v0,x1,x2,x3,x4,x5,x6]) (by simp) rfl λ w1 S1=>?_;refine S1.Cr n (Anl aB) (aC:=#[v0,v1,x2,x3,x4,x5,x6]) (by simp) rfl λ w2 S2=>?_;rw [AnE] at S2;refine S2.Cr n (Anl aB) (aC:=#[v0,v1,v2,x3,x4,x5,x6]) (by simp) rfl λ w3 S3=>?_;rw [AnE] at S3;refine S3.Cr n (Anl aB) (aC:=#[v0,v1,v2,v3,x4,x5,x6]) (by simp) rfl λ w4 S4=>?_;rw [AnE] at S4;refine S4.Cr n (Anl aB) (aC:=#[v0,v1,v2,v3,v4,x5,x6]) (by simp) rfl λ w5 S5=>?_;rw [AnE] at S5;refine S5.Cr n (Anl aB) (aC:=#[v0,v1,v2,v3,v4,v5,x6]) (by simp) rfl λ w6 S6=>?_;rw [AnE] at S6;refine S6.Cr n (Anl aB) (aC:=#[v0,v1,v2,v3,v4,v5,v6]) (by simp) rfl λ w7 S7=>?_;rw [AnE] at S7;exact hk w7 S7
theorem ST.nil(S:ST w0 w H)(e:TypeId)(sz:Nat):ST w0 w (It.row e sz none 0 0 [] :: H):=S.add (.refl _ _) _ (Row.nil w e sz) (λ k hk=>by cases hk)
theorem ST.app(S:ST w0 w H)(n:Nat){P:Program}{t ty e:TypeId}{sz bytes:Nat}{z:Value}{a:Option Addr}{m c:Nat}{xs:List Value}(hn:H[n]?=some (It.row e sz a m c xs))(hT:Ia P t=some (e,sz,bytes,z))(hz:z.cells.size=sz)(av:0<sz)(dB:0<bytes)
  {b:Option Addr} {mm mc:Nat} {news:List Value} (hs:Rd w b news) (hl:news.length=mm*sz) (h1:∀ u∈news,u.oneCell'=true) (dD:(m+mm)*bytes<=140737488355328) {f:Value->World->Prop}
  (hf:∀ a' c' w',ST w0 w' (H.set n (It.row e sz a' (m+mm) c' (xs++news)))->f (.slice a' (m+mm) c') w'):CD P (Builtin.append_ #[t,t] ty #[.slice a m c,.slice b mm mc]) f w:=by
 obtain⟨a',c',w',aD,aG,hk,bA⟩:=Bq (ty:=ty) (mc:=mc) hT hz av dB (S.rw n hn) hs hl h1 dD;unfold CD;rw [aD];exact hf a' c' w' (S.IM n hn hk _ aG bA)
theorem ST.range(S:ST w0 w H)(rr:Loop):ST w0 ((w.alloc (.deferred (some []))).alloc (.loop rr)) (It.obj (w.heap.size+1) (.loop rr) :: It.obj w.heap.size (.deferred (some [])) :: H):=by
 have B1:Below w.heap.size w (w.alloc (.deferred (some []))):=(Below.refl _ w).alloc (AnD _) _;have S1:=S.add B1 (It.obj w.heap.size (.deferred (some []))) (heap_alloc_new w _) (λ k hk=>by cases hk;exact AnD _);have S2:=S1.add ((Below.refl _ _).alloc (AnD _) (.loop rr)) (It.obj (w.alloc (.deferred (some []))).heap.size (.loop rr)) (heap_alloc_new _ _) (λ k hk=>by cases hk;exact AnD _);rwa [World.size_alloc] at S2
theorem V9(w:World)(l:Nat)(o:Obj):Ae (·=l) w (w.putObj l o):=⟨rfl,rfl,rfl,by simp,λ k _ hn=>World.putObj_heap_other hn⟩
theorem ST.put(S:ST w0 w H)(n:Nat){b:Nat}{o:Obj}(hn:H[n]?=some (It.obj b o))(o':Obj):ST w0 (w.putObj b o') (H.set n (It.obj b o')) :=
 S.IM n hn ((V9 w b o').mono λ k _ h=>by subst h;rfl) _ (World.putObj_heap_same (Array.getElem?_eq_some_iff.1 (S.get n hn)).1) (λ k hk=>.inl hk)
theorem ST.Abm(S:ST w0 w H)(n:Nat){L:Nat}{rr:Loop}(hn:H[n]?=some (It.obj L (.loop rr))){k:World->Prop}(hk:∀ w',ST w0 w' (H.set n (It.obj L (.loop { rr with state:=.busy })))->k w'):Ic rr L k w :=
 ⟨S.get n hn,hk _ (S.put n hn _)⟩
theorem Rd.Ajg{w:World}{a:Option Addr}{xs:List Value}(h:Rd w a xs){L:Nat}{rr:Loop}(hL:w.heap[L]?=some (.loop rr))(o:Obj):Rd (w.putObj L o) a xs:=by
 intro j v hv;obtain⟨p,hp,hc⟩:=h j v hv;refine⟨p,hp,(V9 w L o).cell hc ?_⟩;intro he;have oJ:(p.add j).block=L:=he;simp [World.cell?,oJ,hL] at hc
theorem ST.AlR(S:ST w0 w H)(n:Nat){L:Nat}{rr:Loop}(hn:H[n]?=some (It.obj L (.loop rr))){k:World->Prop}(hk:∀ w',(∀ a xs,Rd w a xs->Rd w' a xs)->ST w0 w' (H.set n (It.obj L (.loop { rr with state:=.busy })))->k w'):Ic rr L k w :=
 ⟨S.get n hn,hk _ (λ _ _ h=>h.Ajg (S.get n hn) _) (S.put n hn _)⟩
theorem ST.keep{x:It}(S:ST w0 w (x :: H))(n:Nat):ST w0 w (x :: H.drop n):=S.sub ((List.drop_sublist n H).cons_cons x)
theorem AdF{rr:Loop}(h1:rr.state=.ready)(h2:rr.pending=none):({ rr with state:=if (none:Option Code).isNone then .ready else .done,pending:=none }:Loop)=rr:=by
 cases rr;simp_all
theorem ST.QV(S:ST w0 w H)(n:Nat){L:Nat}{rr:Loop}(h1:rr.state=.ready)(h2:rr.pending=none)(hn:H[n]?=some (It.obj L (.loop { rr with state:=.busy }))){k:Bool->World->Prop}(hk:∀ w',ST w0 w' (H.set n (It.obj L (.loop rr)))->k true w'):Bv rr L k none w:=by
 refine⟨S.get n hn,?_⟩;have:=S.put n hn (.loop { rr with state:=if (none:Option Code).isNone then .ready else .done,pending:=none });rw [AdF h1 h2] at this ⊢;exact hk _ this
theorem ST.AlY(S:ST w0 w H)(n:Nat){L:Nat}{rr:Loop}{j:Code}(hn:H[n]?=some (It.obj L (.loop { rr with state:=.busy }))){k:Bool->World->Prop}(hk:∀ w',ST w0 w' (H.set n (It.obj L (.loop { rr with state:=.done,pending:=some j })))->k false w'):Bv rr L k (some j) w :=
 ⟨S.get n hn,hk _ (S.put n hn _)⟩
theorem ST.QU(S:ST w0 w H)(n:Nat){L:Nat}{rr:Loop}(h1:rr.state=.ready)(h2:rr.pending=none)(hn:H[n]?=some (It.obj L (.loop rr))){k:Option Code->World->Prop}(hk:∀ w',ST w0 w' (H.set n (It.obj L (.loop { rr with state:=.exhausted,pending:=none })))->k none w'):Ie rr L k w :=
 ⟨none,by rw [AdF h1 h2];exact S.get n hn,hk _ (S.put n hn _)⟩
theorem ST.AlX(S:ST w0 w H)(n:Nat){L:Nat}{rr:Loop}{j:Code}(hn:H[n]?=some (It.obj L (.loop { rr with state:=.done,pending:=some j }))){k:Option Code->World->Prop}(hk:∀ w',ST w0 w' (H.set n (It.obj L (.loop { rr with state:=.exhausted,pending:=some j })))->k (some j) w'):Ie rr L k w :=
 ⟨some j,S.get n hn,hk _ (S.put n hn _)⟩
theorem GJ.mono{P:Program}{l:Nat}{args:Array Value}{k k':Bool->World->Prop}{w:World}(h:GJ P l args k w)(hk:∀ y w',k y w'->k' y w'):GJ P l args k' w:=by
 obtain⟨f,tm,Rx,bo,hy,hr⟩:=h;refine⟨f,tm,Rx,bo,hy,hr.mono ?_⟩;rintro e w' ⟨t,he,h⟩;exact⟨t,he,hk t w' h⟩
end
section
variable {w0 w:World}{H:List It}
theorem ST.AkJ(S:ST w0 w H){z0 z1 z2 z3 z4 z5 v0 v1 v2 v3 v4 v5:Value}{t:TypeId}{k:Nat->World->Prop}(hk:∀ b w',w.heap.size<=b->ST w0 w' (It.cells b #[v0,v1,v2,v3,v4,v5] t :: H)->k b w') :
  C0 #[z0,z1,z2,z3,z4,z5] t (λ b w=>Cd ⟨b,0,none⟩ v0 (λ w=>Cd ⟨b,1,none⟩ v1 (λ w=>Cd ⟨b,2,none⟩ v2 (λ w=>Cd ⟨b,3,none⟩ v3 (λ w=>Cd ⟨b,4,none⟩ v4 (λ w=>Cd ⟨b,5,none⟩ v5 (λ w=>k b w) w) w) w) w) w) w) w :=
 S.Aj λ b w1 hb _ S1=>S1.Cr 0 rfl (aC:=#[v0,z1,z2,z3,z4,z5]) (by simp) rfl λ w2 S2=>S2.Cr 0 rfl (aC:=#[v0,v1,z2,z3,z4,z5]) (by simp) rfl λ w3 S3=>S3.Cr 0 rfl (aC:=#[v0,v1,v2,z3,z4,z5]) (by simp) rfl λ w4 S4 =>
  S4.Cr 0 rfl (aC:=#[v0,v1,v2,v3,z4,z5]) (by simp) rfl λ w5 S5=>S5.Cr 0 rfl (aC:=#[v0,v1,v2,v3,v4,z5]) (by simp) rfl λ w6 S6=>S6.Cr 0 rfl (aC:=#[v0,v1,v2,v3,v4,v5]) (by simp) rfl λ w7 S7=>hk b w7 hb S7
def msI(ms:List Nat):List It:=ms.map λ m=>It.obj m (.deferred (some []))
theorem ST.shut:∀ {ms:List Nat} {w:World} {k:World->Prop},ST w0 w (msI ms++H)->(∀ w',ST w0 w' H->k w')->SW ms k w
 | [],w,k,S,hk=>hk w S
 | m :: ms,w,k,S,hk=>⟨S.get 0 rfl,ST.shut ((S.put 0 rfl (.deferred none)).drop 1) hk⟩
theorem ST.Qc(l:List It){X B:List It}(S:ST w0 w (X++(l++B))):ST w0 w (l++(X++B)):=S.perm (List.perm_append_comm_assoc X l B)
theorem ST.AdQ(l:List It){X B:List It}(S:ST w0 w (l++(X++B))):ST w0 w (X++(l++B)):=S.perm (List.perm_append_comm_assoc l X B)
end
end Go.Dn
namespace Go.Dn
set_option linter.unusedVariables false
set_option maxRecDepth 100000
section
variable {w0 w:World}{H:List It}
theorem ST.Ab8(S:ST w0 w H){z0 z1 z2 z3 z4 z5 z6 z7 v0 v1 v2 v3 v4 v5 v6 v7:Value}{t:TypeId}{k:Nat->World->Prop}(hk:∀ b w',w.heap.size<=b->ST w0 w' (It.cells b #[v0,v1,v2,v3,v4,v5,v6,v7] t :: H)->k b w') :
  C0 #[z0,z1,z2,z3,z4,z5,z6,z7] t (λ b w=>Cd ⟨b,0,none⟩ v0 (λ w=>Cd ⟨b,1,none⟩ v1 (λ w=>Cd ⟨b,2,none⟩ v2 (λ w=>Cd ⟨b,3,none⟩ v3 (λ w=>Cd ⟨b,4,none⟩ v4 (λ w=>Cd ⟨b,5,none⟩ v5 (λ w=>Cd ⟨b,6,none⟩ v6 (λ w=>Cd ⟨b,7,none⟩ v7 (λ w=>k b w) w) w) w) w) w) w) w) w) w :=
 S.Aj λ b w1 hb _ S1=>S1.Cr 0 rfl (aC:=#[v0,z1,z2,z3,z4,z5,z6,z7]) (by simp) rfl λ w2 S2=>S2.Cr 0 rfl (aC:=#[v0,v1,z2,z3,z4,z5,z6,z7]) (by simp) rfl λ w3 S3=>S3.Cr 0 rfl (aC:=#[v0,v1,v2,z3,z4,z5,z6,z7]) (by simp) rfl λ w4 S4 =>
  S4.Cr 0 rfl (aC:=#[v0,v1,v2,v3,z4,z5,z6,z7]) (by simp) rfl λ w5 S5=>S5.Cr 0 rfl (aC:=#[v0,v1,v2,v3,v4,z5,z6,z7]) (by simp) rfl λ w6 S6=>S6.Cr 0 rfl (aC:=#[v0,v1,v2,v3,v4,v5,z6,z7]) (by simp) rfl λ w7 S7=>S7.Cr 0 rfl (aC:=#[v0,v1,v2,v3,v4,v5,v6,z7]) (by simp) rfl λ w8 S8 =>
  S8.Cr 0 rfl (aC:=#[v0,v1,v2,v3,v4,v5,v6,v7]) (by simp) rfl λ w9 S9=>hk b w9 hb S9
end
end Go.Dn
namespace Go.Dn
open _root_.List renaming getElem?_eq_some_iff -> Anj, getElem?_set_self -> Anl, set_set -> AnE
set_option linter.unusedVariables false
set_option maxRecDepth 100000
open Go.RowKit (Below)
section
variable {w0 w:World}{H:List It}{P:Program}{f:FuncId}{args:Array Value}{Q:Ending->World->Prop}
theorem ST.call(S:ST w0 w H){v:Value}(h:Calls P f args w (AB λ r w'=>r=v/\Below w.heap.size w w'))(hk:∀ w',Below w.heap.size w w'->ST w0 w' H->Q (.returned v) w'):Calls P f args w Q :=
 h.mono (by rintro _ w' ⟨_,rfl,rfl,B⟩;exact hk w' B (S.grown B))
theorem ST.HC(S:ST w0 w H){v:Value}(h:Calls P f args w (AB λ r w'=>r=v/\w'=w))(hk:Q (.returned v) w):Calls P f args w Q :=
 h.mono (by rintro _ w' ⟨_,rfl,rfl,rfl⟩;exact hk)
theorem ST.one{x:It}(S:ST w0 w (x :: H)):ST w0 w [x]:=S.sub (List.Sublist.cons_cons x (List.nil_sublist H))
end
theorem AjE{a:Addr}{k:Addr->Prop}(h:k a):As (some a) k:=h
theorem ZL{i n:Nat}(h:i<n)(hn:n<=9223372036854775807):IntKind.i64.wrap ((i:Int)+1)=((i+1:Nat):Int):=Ai (by omega)
theorem FO{w:World}{B:(List Value->World->Prop)->(List Value->World->Nat)->Int->World->Prop}(n:Nat)(Inv:Nat->World->Prop)(hn:n<=9223372036854775807)(h0:Inv 0 w)
  (hb:∀(I:List Value->World->Prop) (M:List Value->World->Nat) (i:Nat) (w2:World),i<=n->Inv i w2->(∀ w',i<n->Inv (i+1) w'->I [.int .i64 (IntKind.i64.wrap ((i:Int)+1))] w'/\M [.int .i64 (IntKind.i64.wrap ((i:Int)+1))] w'<M [.int .i64 (i:Int)] w2)->B I M (i:Int) w2) :
  ∃(I:List Value->World->Prop) (M:List Value->World->Nat),I [.int .i64 0] w/\∀(i:Int) (w2:World),I [.int .i64 i] w2->B I M i w2:=by
 refine⟨λ st w=>∃ i:Nat,st=[.int .i64 (i:Int)]/\i<=n/\Inv i w,λ st _=>match st with | [.int _ t]=>n-t.toNat | _=>0,⟨0,rfl,Nat.zero_le _,h0⟩,?_⟩;rintro t w2 ⟨i,aA,hi,hI⟩;cases aA;refine hb _ _ i w2 hi hI λ w' aB h=>?_;rw [ZL aB hn];exact⟨⟨i+1,rfl,aB,h⟩,by simp only [Int.toNat_natCast];omega⟩
theorem PS{w:World}{a0:Option Addr}{l0 c0:Nat}{B:(List Value->World->Prop)->(List Value->World->Nat)->Option Addr->Nat->Nat->Int->World->Prop}(n:Nat)(Inv:Nat->Option Addr->Nat->Nat->World->Prop)(hn:n<=9223372036854775807)(h0:Inv 0 a0 l0 c0 w)
  (hb:∀(I:List Value->World->Prop) (M:List Value->World->Nat) (a:Option Addr) (l c:Nat) (i:Nat) (w2:World),i<=n->Inv i a l c w2->(∀ a' l' c' w',i<n->Inv (i+1) a' l' c' w'->I [.slice a' l' c',.int .i64 (IntKind.i64.wrap ((i:Int)+1))] w'/\M [.slice a' l' c',.int .i64 (IntKind.i64.wrap ((i:Int)+1))] w'<M [.slice a l c,.int .i64 (i:Int)] w2)->B I M a l c (i:Int) w2) :
  ∃(I:List Value->World->Prop) (M:List Value->World->Nat),I [.slice a0 l0 c0,.int .i64 0] w/\∀(a:Option Addr) (l c:Nat) (i:Int) (w2:World),I [.slice a l c,.int .i64 i] w2->B I M a l c i w2:=by
 refine⟨λ st w=>∃(a:Option Addr) (l c:Nat) (i:Nat),st=[.slice a l c,.int .i64 (i:Int)]/\i<=n/\Inv i a l c w,λ st _=>match st with | [_,.int _ t]=>n-t.toNat | _=>0,⟨a0,l0,c0,0,rfl,Nat.zero_le _,h0⟩,?_⟩;rintro a l c t w2 ⟨a,l,c,i,aA,hi,hI⟩;cases aA;refine hb _ _ a l c i w2 hi hI λ a' l' c' w' aB h=>?_;rw [ZL aB hn];exact⟨⟨a',l',c',i+1,rfl,aB,h⟩,by simp only [Int.toNat_natCast];omega⟩
section
variable {w0 w:World}{H:List It}
theorem ST.Alf(S:ST w0 w H)(n:Nat){b:Nat}{x0 x1 x2 x3 x4 x5 x6 x7 v0 v1 v2 v3 v4 v5 v6 v7:Value}{t:TypeId}(hn:H[n]?=some (It.cells b #[x0,x1,x2,x3,x4,x5,x6,x7] t)){k:World->Prop}(hk:∀ w',ST w0 w' (H.set n (It.cells b #[v0,v1,v2,v3,v4,v5,v6,v7] t))->k w') :
  Cd ⟨b,0,none⟩ v0 (λ w=>Cd ⟨b,1,none⟩ v1 (λ w=>Cd ⟨b,2,none⟩ v2 (λ w=>Cd ⟨b,3,none⟩ v3 (λ w=>Cd ⟨b,4,none⟩ v4 (λ w=>Cd ⟨b,5,none⟩ v5 (λ w=>Cd ⟨b,6,none⟩ v6 (λ w=>Cd ⟨b,7,none⟩ v7 k w) w) w) w) w) w) w) w:=by
 have aB:=(Anj.1 hn).1;refine S.Cr n hn (aC:=#[v0,x1,x2,x3,x4,x5,x6,x7]) (by simp) rfl λ w1 S1=>?_;refine S1.Cr n (Anl aB) (aC:=#[v0,v1,x2,x3,x4,x5,x6,x7]) (by simp) rfl λ w2 S2=>?_;rw [AnE] at S2;refine S2.Cr n (Anl aB) (aC:=#[v0,v1,v2,x3,x4,x5,x6,x7]) (by simp) rfl λ w3 S3=>?_;rw [AnE] at S3;refine S3.Cr n (Anl aB) (aC:=#[v0,v1,v2,v3,x4,x5,x6,x7]) (by simp) rfl λ w4 S4=>?_;rw [AnE] at S4;refine S4.Cr n (Anl aB) (aC:=#[v0,v1,v2,v3,v4,x5,x6,x7]) (by simp) rfl λ w5 S5=>?_;rw [AnE] at S5;refine S5.Cr n (Anl aB) (aC:=#[v0,v1,v2,v3,v4,v5,x6,x7]) (by simp) rfl λ w6 S6=>?_;rw [AnE] at S6;refine S6.Cr n (Anl aB) (aC:=#[v0,v1,v2,v3,v4,v5,v6,x7]) (by simp) rfl λ w7 S7=>?_;rw [AnE] at S7;refine S7.Cr n (Anl aB) (aC:=#[v0,v1,v2,v3,v4,v5,v6,v7]) (by simp) rfl λ w8 S8=>?_;rw [AnE] at S8;exact hk w8 S8
theorem ST.Ale(S:ST w0 w H)(n:Nat){b:Nat}{x0 x1 x2 v0 v1 v2:Value}{t:TypeId}(hn:H[n]?=some (It.cells b #[x0,x1,x2] t)){k:World->Prop}(hk:∀ w',ST w0 w' (H.set n (It.cells b #[v0,v1,v2] t))->k w') :
  Cd ⟨b,0,none⟩ v0 (λ w=>Cd ⟨b,1,none⟩ v1 (λ w=>Cd ⟨b,2,none⟩ v2 k w) w) w:=by
 have aB:=(Anj.1 hn).1;refine S.Cr n hn (aC:=#[v0,x1,x2]) (by simp) rfl λ w1 S1=>?_;refine S1.Cr n (Anl aB) (aC:=#[v0,v1,x2]) (by simp) rfl λ w2 S2=>?_;rw [AnE] at S2;refine S2.Cr n (Anl aB) (aC:=#[v0,v1,v2]) (by simp) rfl λ w3 S3=>?_;rw [AnE] at S3;exact hk w3 S3
theorem ST.Alg(S:ST w0 w H)(n:Nat){e:TypeId}{sz g m c:Nat}{xs:List Value}(hn:H[n]?=some (It.row e sz (some ⟨g,0,none⟩) m c xs)){j:Nat}(hj:j<m*sz){v:Value}{k:World->Prop}
  (hk:∀ w',ST w0 w' (H.set n (It.row e sz (some ⟨g,0,none⟩) m c (xs.set j v)))->k w'):Cd ⟨g,j,none⟩ v k w :=
 (S.rw n hn).Cr hj λ w' hr K=>hk w' (S.IM n hn (K.mono λ k _ h=>by subst h;rfl) _ hr (λ k hk=>.inl hk))
theorem ST.mk0(S:ST w0 w H){P:Program}{t e:TypeId}{sz bytes:Nat}{z:Value}(hT:Ia P t=some (e,sz,bytes,z)){c:Nat}(hb:bytes*c<=281474976710656)(hc:c<=9223372036854775807){f:Value->World->Prop}{kl kc:IntKind}
  (hf:∀ b w',ST w0 w' (It.row e sz (some ⟨b,0,none⟩) 0 c [] :: H)->f (.slice (some ⟨b,0,none⟩) 0 c) w'):CD P (Instr.makeSlice t (.int kl 0) (.int kc (c:Int))) f w :=
 Wg hT hb hc λ b w' h1 h2 h3=>hf b w' (S.add h2 _ h3 λ k hk=>by cases hk;exact h1)
theorem ST.empty(S:ST w0 w H){sz:Nat}{t:TypeId}{k:Nat->World->Prop}(hk:∀ b w',Below w.heap.size w w'->ST w0 w' (It.row t sz (some ⟨b,0,none⟩) 0 0 [] :: H)->k b w'):C0 #[] t k w :=
 S.Aj λ b w1 _ B S1=>hk b w1 B (S1.IM 0 rfl (.refl _ _) _ (⟨by simp,.inr ⟨b,#[],rfl,S1.CK 0 rfl,by omega,by omega,by simp,by simp⟩⟩:Row w1 t sz (some ⟨b,0,none⟩) 0 0 []) λ k hk=>.inl hk)
theorem ST.Alk(S:ST w0 w H)(n:Nat){e:TypeId}{sz:Nat}{a:Option Addr}{m c:Nat}{xs:List Value}(hn:H[n]?=some (It.row e sz a m c xs)):ST w0 w (H.set n (It.rd a xs)) :=
 S.IM n hn (Ae.refl _ w) _ (S.rd n hn) λ k hk=>by
  cases xs with
  | nil=>cases hk
  | cons x xs=>exact .inl hk
theorem ST.Am1(S:ST w0 w H)(n:Nat){b:Nat}{x0 x1 x2 x3 x4 v0 v1 v2 v3 v4:Value}{t:TypeId}(hn:H[n]?=some (It.cells b #[x0,x1,x2,x3,x4] t)){k:World->Prop}(hk:∀ w',ST w0 w' (H.set n (It.cells b #[v0,v1,v2,v3,v4] t))->k w') :
  Cd ⟨b,0,none⟩ v0 (λ w=>Cd ⟨b,1,none⟩ v1 (λ w=>Cd ⟨b,2,none⟩ v2 (λ w=>Cd ⟨b,3,none⟩ v3 (λ w=>Cd ⟨b,4,none⟩ v4 k w) w) w) w) w:=by
 have aB:=(Anj.1 hn).1;refine S.Cr n hn (aC:=#[v0,x1,x2,x3,x4]) (by simp) rfl λ w1 S1=>?_;refine S1.Cr n (Anl aB) (aC:=#[v0,v1,x2,x3,x4]) (by simp) rfl λ w2 S2=>?_;rw [AnE] at S2;refine S2.Cr n (Anl aB) (aC:=#[v0,v1,v2,x3,x4]) (by simp) rfl λ w3 S3=>?_;rw [AnE] at S3;refine S3.Cr n (Anl aB) (aC:=#[v0,v1,v2,v3,x4]) (by simp) rfl λ w4 S4=>?_;rw [AnE] at S4;refine S4.Cr n (Anl aB) (aC:=#[v0,v1,v2,v3,v4]) (by simp) rfl λ w5 S5=>?_;rw [AnE] at S5;exact hk w5 S5
end
theorem Y9{P:Program}{bt el:TypeId}(hb:P.underlying bt=some (.slice el))(he:P.underlying el=some (.int .u8)){w:World}{b n c:Nat}{cs:Array Value}{e:TypeId}(hg:w.heap[b]?=some (.cells cs e (0,0))){f:Value->World->Prop}
  (hf:∀ w',Ae (·=b) w w'->w'.heap[b]?=some (.cells cs e (cs.size,cs.size+1))->f (.slice (some ⟨b,0,none⟩) n c) w'):CD P (convert bt bt (.slice (some ⟨b,0,none⟩) n c)) f w:=by
 have fC:w.shape? b=some (e,cs.size):=by simp [World.shape?,hg]
 have gu:(markStringish ⟨b,0,none⟩).run P w=.ok () (w.freeze ⟨b,cs.size,none⟩ 1):=by simp [markStringish,fC]
 have aD:(convert bt bt (.slice (some ⟨b,0,none⟩) n c)).run P w=.ok (.slice (some ⟨b,0,none⟩) n c) (w.freeze ⟨b,cs.size,none⟩ 1):=by
  simp only [convert,Sem.run_bind,run_underlying hb,run_underlying he,Result.andThen_ok,beq_self_eq_true,gu,Sem.run_pure]
 unfold CD;rw [aD];refine hf _ (Oq (·=b) w ⟨b,cs.size,none⟩ 1 rfl) ?_;unfold World.freeze;simp [Array.getElem?_modify,hg]
theorem QL{P:Program}{t ty e:TypeId}{sz bytes:Nat}{z:Value}(hT:Ia P t=some (e,sz,bytes,z))(hz:z.cells.size=sz)(av:0<sz)(dB:0<bytes)
  {w:World} {p:Addr} {n c:Nat} {xs:List Value} (hr:Rd w (some p) xs) (dM:xs.length=n*sz) {b:Option Addr} {m mc:Nat} {news:List Value} (hs:Rd w b news) (hl:news.length=m*sz) (hm:0<m)
  (hc:c<n+m) (_hnc:n<=c) (dD:(n+m)*bytes<=140737488355328) :
  ∃ a' c' w',(Builtin.append_ #[t,t] ty #[.slice (some p) n c,.slice b m mc]).run P w=.ok (.slice a' (n+m) c') w'/\Row w' e sz a' (n+m) c' (xs++news)/\Below w.heap.size w w'/\(∀ k,AG a'=some k->w.heap.size<=k):=by
 obtain⟨hu,i,hi,hiz,rfl,rfl⟩:=JA hT;have ir:n+m<=140737488355328:=Nat.le_trans (Nat.le_mul_of_pos_right _ dB) dD;have hlen:(xs++news).length=(n+m)*i.size:=by rw [List.length_append,dM,hl,Nat.add_mul]
 have h0:0<news.length:=by rw [hl];exact Nat.mul_pos hm av
 obtain⟨q,rfl,_⟩:=hs 0 news[0] (List.getElem?_eq_getElem h0);have hq:∀ j u,news[j]?=some u->w.cell? (q.add j)=some u:=by
  intro j u hu;obtain⟨q',dI,hc⟩:=hs j u hu;cases dI;exact hc
 have hold:∀ j v,xs[j]?=some v->w.cell? (p.add j)=some v:=by
  intro j v hv;obtain⟨q',dI,hc⟩:=hr j v hv;cases dI;exact hc
 have aL:=grownCap_ge w (n+m) c e;have db:grownCap w (n+m) c e<=maxLen:=grownCap_le_maxLen w (n+m) c e (by unfold maxLen;omega);have aD:=run_append_grow (P:=P) w t ty e i z hu hi hiz p n c xs dM hold q m mc news hl hq (by omega) (by omega) (growslice_fits (by omega) dD);refine⟨_,_,_,aD,⟨hlen,.inr ⟨w.heap.size,_,rfl,heap_alloc_new w.drew _,aL,by unfold maxLen at db;omega,?_,?_⟩⟩,((Below.refl _ w).drew).alloc (Nat.le_refl _) _,λ k hk=>?_⟩
 ·simp only [Array.size_append,List.size_toArray,size_zeroCells,hz,dM,hl,<- Nat.add_mul];congr 1;omega
 ·simp only [Array.toList_append,List.append_assoc];rw [<- List.append_assoc,<- hlen];exact List.take_left
 ·simp [AG] at hk;omega
def It.buf(e:TypeId)(sz:Nat)(a:Option Addr)(n c:Nat)(xs:List Value):It where
 CK:=AG a
 ok:=λ w=>Row w e sz a n c xs\/(∃ p,a=some p/\c=n/\Rd w a xs/\xs.length=n*sz/\p.block<w.heap.size)
 st:=λ w w' h h0=>by
  rcases h0 with h0 | ⟨p,rfl,h1,h2,h3,h4⟩
  ·exact .inl ((It.row e sz a n c xs).st w w' h h0)
  ·refine .inr ⟨p,rfl,h1,?_,h3,?_⟩
   ·intro j v hv;obtain⟨q,hq,hc⟩:=h2 j v hv;cases hq;exact⟨p,rfl,by rw [World.cell?_of_block (w:=w) (by rw [Bp];exact h p.block rfl)];exact hc⟩
   ·have:=h p.block rfl;rw [Array.getElem?_eq_getElem h4] at this;exact (Array.getElem?_eq_some_iff.1 this).1
 lt:=λ w h k hk=>by
  rcases h with h | ⟨p,rfl,_,_,_,h4⟩
  ·exact h.lt hk
  ·cases hk;exact h4
section
variable {w0 w:World}{H:List It}
theorem ST.AmE(S:ST w0 w H)(n:Nat){P:Program}{t ty e:TypeId}{sz bytes:Nat}{z:Value}{a:Option Addr}{m c:Nat}{xs:List Value}(hn:H[n]?=some (It.buf e sz a m c xs))(hT:Ia P t=some (e,sz,bytes,z))(hz:z.cells.size=sz)(av:0<sz)(dB:0<bytes)
  {b:Option Addr} {mm mc:Nat} {news:List Value} (hs:Rd w b news) (hl:news.length=mm*sz) (kJ:0<mm) (h1:∀ u∈news,u.oneCell'=true) (dD:(m+mm)*bytes<=140737488355328) {f:Value->World->Prop}
  (hf:∀ a' c' w',ST w0 w' (H.set n (It.row e sz a' (m+mm) c' (xs++news)))->f (.slice a' (m+mm) c') w'):CD P (Builtin.append_ #[t,t] ty #[.slice a m c,.slice b mm mc]) f w:=by
 rcases S.get n hn with h | ⟨p,rfl,rfl,h2,h3,h4⟩
 ·obtain⟨a',c',w',aD,aG,hk,bA⟩:=Bq (ty:=ty) (mc:=mc) hT hz av dB h hs hl h1 dD;unfold CD;rw [aD];exact hf a' c' w' (S.IM n hn hk _ aG bA)
 ·obtain⟨a',c',w',aD,aG,hB,bA⟩:=QL (ty:=ty) (mc:=mc) hT hz av dB h2 h3 hs hl kJ (by omega) (Nat.le_refl _) dD;unfold CD;rw [aD];exact hf a' c' w' (S.IM n hn (Ae.Al hB) _ aG (λ k hk=>.inr (bA k hk)))
theorem ST.rdF(S:ST w0 w H)(n:Nat){e:TypeId}{sz:Nat}{a:Option Addr}{m c:Nat}{xs:List Value}(hn:H[n]?=some (It.buf e sz a m c xs)):Rd w a xs:=by
 rcases S.get n hn with h | ⟨p,rfl,rfl,h2,h3,h4⟩
 ·exact h.rd
 ·exact h2
end
end Go.Dn
set_option linter.unusedVariables false
set_option maxRecDepth 100000
namespace Go.Dn
open _root_.Bool renaming and_eq_true -> Ana, rec -> An3
open _root_.Nat renaming beq -> Am7, ble_eq -> An6, blt -> Anc, div -> An5, eq_of_beq_eq_true -> Anb, ne_of_beq_eq_false -> An4
abbrev Sg:=Nat->Option (Nat × Nat × Loop)
def Dg:Nat:=65536
def Gu:Nat:=65535
def Pt:Nat:=18446744073709551616
def Jz(g:Sg)(b:Nat):Option (Nat × Nat × Loop):=g (b-Dg)
def bk(g:Sg)(b:Nat):Option Nat:=if b<Gu then some b else if b<Dg then none else (Jz g b).map (·.1)
def ad(g:Sg)(a:Addr):Option Addr:=(bk g a.block).map λ b=>⟨b,a.off,a.spot⟩
def cp(g:Sg)(b c:Nat):Option Nat:=if c<9223372036854775808 then some c else if b<Dg then none else (Jz g b).map λ s=>s.2.1-(Pt-c)
def JR(g:Sg)(p:Option Addr)(l c:Nat):Value->Prop
 | .slice p' l' c'=>l'=l/\(match p with
  | none=>p'=none/\c'=c
  | some a=>l<=c'/\((a.block=Gu/\l=0/\p'≠none)\/(a.block≠Gu/\ad g a=p'/\p'≠none/\cp g a.block c=some c')))
 | _=>False
mutual
def R(g:Sg):Value->Value->Prop
 | .pointer p,u=>(match p with
  | none=>u=.pointer none
  | some a=>∃ a',ad g a=some a'/\u=.pointer (some a'))
 | .slice p l c,u=>JR g p l c u
 | .map p,u=>(match p with
  | none=>u=.map none
  | some b=>∃ b',bk g b=some b'/\u=.map (some b'))
 | .func fn fi ca,u=>(match u with
  | .func fn' bX cG=>(match fn with
   | .func f=>fn'=.func f
   | .yield l=>∃ l',bk g l=some l'/\fn'=.yield l'
   | _=>False)/\RA g fi bX/\RA g ca cG
  | _=>False)
 | .iface t v,u=>(match u with
  | .iface t' v'=>t'=t/\R g v v'
  | _=>False)
 | .agg cs,u=>(match u with
  | .agg aC=>RA g cs aC
  | _=>False)
 | .tuple cs,u=>(match u with
  | .tuple aC=>RA g cs aC
  | _=>False)
 | .chan _,_=>False
 | .bool b,u=>u=.bool b
 | .int k n,u=>u=.int k n
 | .string s,u=>u=.string s
 | .float k b,u=>u=.float k b
 | .complex k a b,u=>u=.complex k a b
 | .nilFunc,u=>u=.nilFunc
 | .nilIface,u=>u=.nilIface
def RA(g:Sg):Array Value->Array Value->Prop
 | ⟨l⟩,u=>RL g l u.toList
def RL(g:Sg):List Value->List Value->Prop
 | [],u=>u=[]
 | v :: vs,u=>(match u with
  | []=>False
  | x :: xs=>R g v x/\RL g vs xs)
end
def Le(g g':Sg):Prop:=∀(i:Nat) (s:Nat × Nat × Loop),g i=some s->g' i=some s
theorem Le.refl(g:Sg):Le g g:=λ _ _ h=>h
theorem Le.trans{a b c:Sg}(h:Le a b)(h':Le b c):Le a c:=λ i s e=>h' i s (h i s e)
theorem Le.at{g g':Sg}(h:Le g g'){b:Nat}{s:Nat × Nat × Loop}(hs:Jz g b=some s):Jz g' b=some s:=h _ _ hs
def up(g:Sg)(n:Nat)(s:Nat × Nat × Loop):Sg:=λ i=>if i=n then some s else g i
theorem Le.up{g:Sg}{n:Nat}(h:g n=none)(s:Nat × Nat × Loop):Le g (up g n s):=λ i t e=>by
 unfold Dn.up;split
 ·rename_i hi;rw [hi,h] at e;cases e
 ·exact e
theorem KJ{g g':Sg}(h:Le g g'){b c:Nat}(hb:bk g b=some c):bk g' b=some c:=by
 unfold bk at *;split
 ·rename_i hl;rwa [if_pos hl] at hb
 ·rename_i hl;rw [if_neg hl] at hb;split
  ·rename_i ho;rw [if_pos ho] at hb;cases hb
  ·rename_i ho;rw [if_neg ho] at hb;cases hs:Jz g b with
   | none=>simp [hs] at hb
   | some s=>rw [h.at hs];rwa [hs] at hb
theorem AgS{g g':Sg}(h:Le g g'){a c:Addr}(hb:ad g a=some c):ad g' a=some c:=by
 unfold ad at *;cases hs:bk g a.block with
 | none=>simp [hs] at hb
 | some s=>rw [KJ h hs];rwa [hs] at hb
theorem Al8{g g':Sg}(h:Le g g'){b c n:Nat}(hb:cp g b c=some n):cp g' b c=some n:=by
 unfold cp at *;split
 ·rename_i hl;rwa [if_pos hl] at hb
 ·rename_i hl;rw [if_neg hl] at hb;split
  ·rename_i ho;rw [if_pos ho] at hb;cases hb
  ·rename_i ho;rw [if_neg ho] at hb;cases hs:Jz g b with
   | none=>simp [hs] at hb
   | some s=>rw [h.at hs];rwa [hs] at hb
theorem AkI{g g':Sg}(h:Le g g'){p:Option Addr}{l c:Nat}:∀ {u:Value},JR g p l c u->JR g' p l c u
 | .slice p' l' c',e=>by
  obtain⟨e1,e2⟩:=e;refine⟨e1,?_⟩;cases p with
  | none=>exact e2
  | some a =>
   refine⟨e2.1,e2.2.imp id fun⟨h0,h1,h2,h3⟩=>⟨h0,?_,h2,Al8 h h3⟩⟩;cases p' with
   | none=>exact absurd rfl h2
   | some a'=>exact AgS h h1
mutual
theorem AiV{g g':Sg}(h:Le g g'):∀(v:Value) {c:Value},R g v c->R g' v c
 | .pointer none,_,e=>by simpa [R] using e
 | .pointer (some a),_,e=>by
  simp only [R] at e ⊢;obtain⟨a',ha,rfl⟩:=e;exact⟨a',AgS h ha,rfl⟩
 | .slice p l c,_,e=>by simp only [R] at e ⊢;exact AkI h e
 | .map none,_,e=>by simpa [R] using e
 | .map (some b),_,e=>by
  simp only [R] at e ⊢;obtain⟨a',ha,rfl⟩:=e;exact⟨a',KJ h ha,rfl⟩
 | .func fn fi ca,c,e=>by
  cases c with
  | func fn' bX cG =>
   simp only [R] at e ⊢;refine⟨?_,Ado h fi e.2.1,Ado h ca e.2.2⟩;cases fn with
   | func f=>exact e.1
   | yield l =>
    obtain⟨l',hl,e1⟩:=e.1;exact⟨l',KJ h hl,e1⟩
   | _=>exact e.1
  | _=>simp [R] at e
 | .iface t v,c,e=>by
  cases c with
  | iface t' v'=>simp only [R] at e ⊢;exact⟨e.1,AiV h v e.2⟩
  | _=>simp [R] at e
 | .agg cs,c,e=>by
  cases c with
  | agg aC=>simp only [R] at e ⊢;exact Ado h cs e
  | _=>simp [R] at e
 | .tuple cs,c,e=>by
  cases c with
  | tuple aC=>simp only [R] at e ⊢;exact Ado h cs e
  | _=>simp [R] at e
 | .chan _,_,e=>by simp [R] at e
 | .bool _,_,e=>by simpa [R] using e
 | .int _ _,_,e=>by simpa [R] using e
 | .string _,_,e=>by simpa [R] using e
 | .float _ _,_,e=>by simpa [R] using e
 | .complex _ _ _,_,e=>by simpa [R] using e
 | .nilFunc,_,e=>by simpa [R] using e
 | .nilIface,_,e=>by simpa [R] using e
theorem Ado{g g':Sg}(h:Le g g'):∀(v:Array Value) {c:Array Value},RA g v c->RA g' v c
 | ⟨l⟩,c,e=>by simp only [RA] at e ⊢;exact GY h l e
theorem GY{g g':Sg}(h:Le g g'):∀(v:List Value) {c:List Value},RL g v c->RL g' v c
 | [],_,e=>by simpa [RL] using e
 | v :: vs,[],e=>by simp [RL] at e
 | v :: vs,u :: us,e=>by simp only [RL] at e ⊢;exact⟨AiV h v e.1,GY h vs e.2⟩
end
section
variable {g:Sg}
theorem F3{v c:Array Value}:RA g v c↔RL g v.toList c.toList:=by cases v;simp [RA]
theorem Eg:∀ {v c:List Value},RL g v c->c.length=v.length
 | [],_,e=>by simp only [RL] at e;subst e;rfl
 | v :: vs,[],e=>by simp [RL] at e
 | v :: vs,u :: us,e=>by simp only [RL] at e;simp [Eg e.2]
theorem YM:∀ {v c:List Value},RL g v c->∀(i:Nat) {x:Value},v[i]?=some x->∃ y,c[i]?=some y/\R g x y
 | [],_,e,i,x,h=>by simp at h
 | v :: vs,[],e,_,_,_=>by simp [RL] at e
 | v :: vs,u :: us,e,0,x,h=>by simp only [RL] at e;simp at h;subst h;exact⟨u,rfl,e.1⟩
 | v :: vs,u :: us,e,i+1,x,h=>by simp only [RL] at e;simpa using YM e.2 i (by simpa using h)
theorem IW:∀ {v c:List Value} (n:Nat),RL g v c->RL g (v.drop n) (c.drop n)
 | v,c,0,e=>by simpa using e
 | [],_,n+1,e=>by simp only [RL] at e;subst e;simp [RL]
 | v :: vs,[],_,e=>by simp [RL] at e
 | v :: vs,u :: us,n+1,e=>by simp only [RL] at e;simpa using IW n e.2
theorem HA:∀ {v c:List Value} (n:Nat),RL g v c->RL g (v.take n) (c.take n)
 | v,c,0,e=>by simp [RL]
 | [],_,n+1,e=>by simp only [RL] at e;subst e;simp [RL]
 | v :: vs,[],_,e=>by simp [RL] at e
 | v :: vs,u :: us,n+1,e=>by simp only [RL] at e;simp [RL];exact⟨e.1,HA n e.2⟩
theorem F4:∀ {v c v' c':List Value},RL g v c->RL g v' c'->RL g (v++v') (c++c')
 | [],_,_,_,e,e'=>by simp only [RL] at e;subst e;simpa using e'
 | v :: vs,[],_,_,e,_=>by simp [RL] at e
 | v :: vs,u :: us,_,_,e,e'=>by simp only [RL] at e;simp [RL];exact⟨e.1,F4 e.2 e'⟩
theorem SU:∀ {v c:List Value} (n:Nat) {x y:Value},RL g v c->R g x y->RL g (v.set n x) (c.set n y)
 | [],_,n,_,_,e,_=>by simp only [RL] at e;subst e;simp [RL]
 | v :: vs,[],_,_,_,e,_=>by simp [RL] at e
 | v :: vs,u :: us,0,_,_,e,h=>by simp only [RL] at e;simp [RL];exact⟨h,e.2⟩
 | v :: vs,u :: us,n+1,_,_,e,h=>by simp only [RL] at e;simp [RL];exact⟨e.1,SU n e.2 h⟩
end
mutual
def pl:Value->Bool
 | .pointer p=>p.isNone
 | .slice p _ _=>p.isNone
 | .map p=>p.isNone
 | .func fn fi ca=>(match fn with
  | .func _=>plA fi && plA ca
  | _=>false)
 | .iface _ v=>pl v
 | .agg cs=>plA cs
 | .tuple cs=>plA cs
 | .chan _=>false
 | .bool _=>true
 | .int _ _=>true
 | .string _=>true
 | .float _ _=>true
 | .complex _ _ _=>true
 | .nilFunc=>true
 | .nilIface=>true
def plA:Array Value->Bool
 | ⟨l⟩=>XL l
def XL:List Value->Bool
 | []=>true
 | v :: vs=>pl v && XL vs
end
mutual
theorem RZ{g:Sg}:∀(v:Value),pl v=true->∀ {c:Value},R g v c↔c=v
 | .pointer p,h,c=>by cases p <;> simp [pl,R] at *
 | .slice p l k,h,c=>by
  cases p with
  | none=>cases c <;> simp [R,JR];rename_i a b d;constructor <;> (rintro⟨h1,h2,h3⟩;simp_all)
  | some a=>simp [pl] at h
 | .map p,h,c=>by cases p <;> simp [pl,R] at *
 | .func fn fi ca,h,c=>by
  cases fn with
  | func f =>
   simp only [pl,Ana] at h;cases c with
   | func fn' bX cG=>simp only [R,Wp fi h.1,Wp ca h.2];constructor <;> (intro h;simp_all)
   | _=>simp [R]
  | _=>simp [pl] at h
 | .iface t v,h,c=>by
  simp only [pl] at h;cases c with
  | iface t' v'=>simp only [R,RZ v h];constructor <;> (intro h;simp_all)
  | _=>simp [R]
 | .agg cs,h,c=>by
  simp only [pl] at h;cases c with
  | agg aC=>simp only [R,Wp cs h];constructor <;> (intro h;simp_all)
  | _=>simp [R]
 | .tuple cs,h,c=>by
  simp only [pl] at h;cases c with
  | tuple aC=>simp only [R,Wp cs h];constructor <;> (intro h;simp_all)
  | _=>simp [R]
 | .chan _,h,_=>by simp [pl] at h
 | .bool _,_,_=>by simp [R]
 | .int _ _,_,_=>by simp [R]
 | .string _,_,_=>by simp [R]
 | .float _ _,_,_=>by simp [R]
 | .complex _ _ _,_,_=>by simp [R]
 | .nilFunc,_,_=>by simp [R]
 | .nilIface,_,_=>by simp [R]
theorem Wp{g:Sg}:∀(v:Array Value),plA v=true->∀ {c:Array Value},RA g v c↔c=v
 | ⟨l⟩,h,⟨c⟩=>by simp only [plA] at h;simp only [RA,HK l h];constructor <;> (intro h;simp_all)
theorem HK{g:Sg}:∀(v:List Value),XL v=true->∀ {c:List Value},RL g v c↔c=v
 | [],_,_=>by simp [RL]
 | v :: vs,h,[]=>by simp [RL]
 | v :: vs,h,u :: us=>by simp only [XL,Ana] at h;simp only [RL,RZ v h.1,HK vs h.2];constructor <;> (intro h;simp_all)
end
section
variable {P:Program}{g:Sg}
/-! ## Forms -/
def Ix(z v:Value):Bool :=
 match z with
 | .tuple zs=>match v with | .tuple vs=>EE zs.toList vs.toList | _=>false
 | z=>KM z v
def Ub(d:Bool)(z v:Value):Bool :=
 match z with
 | .nilFunc=>(match v with
  | .func (.func _) _ _=>true
  | .nilFunc=>d
  | _=>false)
 | z=>Ix z v
def Wc(z v:Value):Bool :=
 match z with
 | .nilFunc=>(match v with
  | .func (.func _) _ _=>true
  | .func (.yield _) fi ca=>fi.toList.isEmpty && ca.toList.isEmpty
  | _=>false)
 | z=>Gr z v
theorem Su{z v c:Value}(h:Gr z v=true)(hr:R g v c):Gr z c=true:=by
 cases z <;> first
  | (simp [Gr];done)
  | (cases v <;> first
    | (simp [Gr] at h;done)
    | (simp only [R] at hr;subst hr;exact h)
    | (rename_i p;cases p <;> simp only [R] at hr <;> first | (subst hr;rfl) | (obtain⟨_,_,rfl⟩:=hr;rfl))
    | (cases c <;> first | (simp [R,JR] at hr;done) | rfl)
    | (rename_i fn fi ca;cases fn <;> first
      | (simp [Gr] at h;done)
      | (cases c <;> first
        | (simp [R] at hr;done)
        | (simp only [R] at hr;obtain⟨rfl,_,_⟩:=hr;rfl))))
theorem XC:∀ {zs vs cs:List Value},FV zs vs=true->RL g vs cs->FV zs cs=true
 | [],[],_,_,hr=>by simp only [RL] at hr;subst hr;rfl
 | z :: zs,v :: vs,[],_,hr=>by simp [RL] at hr
 | z :: zs,v :: vs,c :: cs,h,hr=>by
  simp only [FV,Ana] at h ⊢;simp only [RL] at hr;exact⟨Su h.1 hr.1,XC h.2 hr.2⟩
 | [],_ :: _,_,h,_=>by simp [FV] at h
 | _ :: _,[],_,h,_=>by simp [FV] at h
theorem Adr{z v c:Value}(h:KM z v=true)(hr:R g v c):KM z c=true:=by
 cases z with
 | agg zs =>
  cases v with
  | agg vs =>
   cases c with
   | agg cs=>simp only [R,F3] at hr;exact XC h hr
   | _=>simp [R] at hr
  | _=>simp [KM] at h
 | _=>simp only [KM] at h ⊢;exact Su h hr
theorem Adq:∀ {zs vs cs:List Value},EE zs vs=true->RL g vs cs->EE zs cs=true
 | [],[],_,_,hr=>by simp only [RL] at hr;subst hr;rfl
 | z :: zs,v :: vs,[],_,hr=>by simp [RL] at hr
 | z :: zs,v :: vs,c :: cs,h,hr=>by
  simp only [EE,Ana] at h ⊢;simp only [RL] at hr;exact⟨Adr h.1 hr.1,Adq h.2 hr.2⟩
 | [],_ :: _,_,h,_=>by simp [EE] at h
 | _ :: _,[],_,h,_=>by simp [EE] at h
theorem AiY{z v c:Value}(h:Ix z v=true)(hr:R g v c):Ix z c=true:=by
 cases z with
 | tuple zs =>
  cases v with
  | tuple vs =>
   cases c with
   | tuple cs=>simp only [R,F3] at hr;exact Adq h hr
   | _=>simp [R] at hr
  | _=>simp [Ix] at h
 | _=>simp only [Ix] at h ⊢;exact Adr h hr
theorem NQ{z c:Value}{f:Value->Prop}(h:Gr z c=true)(hf:f c):SI z f:=by
 cases z <;> first
  | exact⟨_,hf⟩
  | (cases c <;> first
    | (simp [Gr] at h;done)
    | exact⟨_,hf⟩
    | exact⟨_,_,_,hf⟩
    | (have:=FT h;subst this;exact⟨_,hf⟩)
    | (rename_i fn _ _;cases fn <;> first | (simp [Gr] at h;done) | exact⟨_,_,_,hf⟩))
theorem SK:∀ {zs cs:List Value} {f:List Value->Prop},FV zs cs=true->f cs->Gn zs f
 | [],[],_,_,hf=>hf
 | z :: zs,c :: cs,f,h,hf=>by
  simp only [FV,Ana] at h;exact NQ (f:=λ v=>Gn zs λ vs=>f (v :: vs)) h.1 (SK h.2 hf)
 | [],_ :: _,_,h,_=>by simp [FV] at h
 | _ :: _,[],_,h,_=>by simp [FV] at h
theorem AcV{z c:Value}{f:Value->Prop}(h:KM z c=true)(hf:f c):AfJ z f:=by
 cases z with
 | agg zs =>
  cases c with
  | agg vs=>exact SK (f:=λ vs=>f (.agg ⟨vs⟩)) h hf
  | _=>simp [KM] at h
 | _=>simp only [KM] at h;exact NQ h hf
theorem YD:∀ {zs cs:List Value} {f:List Value->Prop},EE zs cs=true->f cs->YC zs f
 | [],[],_,_,hf=>hf
 | z :: zs,c :: cs,f,h,hf=>by
  simp only [EE,Ana] at h;exact AcV (f:=λ v=>YC zs λ vs=>f (v :: vs)) h.1 (YD h.2 hf)
 | [],_ :: _,_,h,_=>by simp [EE] at h
 | _ :: _,[],_,h,_=>by simp [EE] at h
theorem AfK{z c:Value}{f:Value->Prop}(h:Ix z c=true)(hf:f c):QJ z f:=by
 cases z with
 | tuple zs =>
  cases c with
  | tuple vs=>exact YD (f:=λ vs=>f (.tuple ⟨vs⟩)) h hf
  | _=>simp [Ix] at h
 | _=>simp only [Ix] at h;exact AcV h hf
theorem AcT{z v c:Value}{f:Value->Prop}(h:Ix z v=true)(hr:R g v c)(hf:f c):QJ z f:=AfK (AiY h hr) hf
theorem SV{fn:FuncId}{fi ca:Array Value}{c:Value}(hr:R g (.func (.func fn) fi ca) c):∃ bX cG,c=.func (.func fn) bX cG/\RL g fi.toList bX.toList/\RL g ca.toList cG.toList:=by
 cases c with
 | func fn' bX cG =>
  simp only [R,F3] at hr;obtain⟨rfl,h1,h2⟩:=hr;exact⟨_,_,rfl,h1,h2⟩
 | _=>simp [R] at hr
theorem AcS{d:Bool}{z v c:Value}{f:Value->Prop}(h:Ub d z v=true)(hr:R g v c)(hf:f c):VE d z f:=by
 cases z with
 | nilFunc =>
  cases v with
  | func fn fi ca =>
   cases fn with
   | func fn =>
    obtain⟨bX,cG,rfl,_⟩:=SV hr;cases d with
    | true=>exact .inl ⟨_,_,_,hf⟩
    | false=>exact⟨_,_,_,hf⟩
   | _=>simp [Ub] at h
  | nilFunc =>
   simp only [R] at hr;subst hr;simp only [Ub] at h;subst h;exact .inr hf
  | _=>simp [Ub] at h
 | _=>simp only [Ub] at h;exact AcT h hr hf
theorem Ah9{z v c:Value}{f:Value->Prop}(h:Wc z v=true)(hr:R g v c)(hf:f c):AcU z f:=by
 cases z with
 | nilFunc =>
  cases v with
  | func fn fi ca =>
   cases fn with
   | func fn =>
    obtain⟨bX,cG,rfl,_⟩:=SV hr;exact .inl ⟨_,_,_,hf⟩
   | yield l =>
    simp only [Wc,Ana,List.isEmpty_iff] at h;cases c with
    | func fn' bX cG =>
     simp only [R,F3,h.1,h.2,RL] at hr;obtain⟨⟨l',_,rfl⟩,h1,h2⟩:=hr;have e1:bX=#[]:=by cases bX;simp_all
     have e2:cG=#[]:=by cases cG;simp_all
     subst e1;subst e2;exact .inr ⟨_,hf⟩
    | _=>simp [R] at hr
   | _=>simp [Wc] at h
  | _=>simp [Wc] at h
 | _=>simp only [Wc] at h;exact NQ (Su h hr) hf
/-! ## Frames -/
inductive Ft where
 | l
 | n (v:Option Value) (a b:Ft)
def JW:Ft->Nat->Option Value
 | .l,_=>none
 | .n v a b,i=>bif Am7 i 0 then v else bif Am7 (i % 2) 1 then JW a (i / 2) else JW b (i / 2-1)
def Ot:Nat->Ft->Nat->Value->Ft
 | 0,_,_,_=>.l
 | f+1,.l,i,v=>bif Am7 i 0 then .n (some v) .l .l else bif Am7 (i % 2) 1 then .n none (Ot f .l (i / 2) v) .l else .n none .l (Ot f .l (i / 2-1) v)
 | f+1,.n u a b,i,v=>bif Am7 i 0 then .n (some v) a b else bif Am7 (i % 2) 1 then .n u (Ot f a (i / 2) v) b else .n u a (Ot f b (i / 2-1) v)
theorem Ou:∀(f:Nat) (t:Ft) (i:Nat) (v:Value) (j:Nat) {u:Value},JW (Ot f t i v) j=some u->(j=i/\u=v)\/(j≠i/\JW t j=some u)
 | 0,t,i,v,j,u,h=>by cases h
 | f+1,t,i,v,j,u,h=>by
  have key:∀(r:Option Value) (a b:Ft),JW (bif Am7 i 0 then .n (some v) a b else bif Am7 (i % 2) 1 then .n r (Ot f a (i / 2) v) b else .n r a (Ot f b (i / 2-1) v)) j=some u->(j=i/\u=v)\/(j≠i/\JW (.n r a b) j=some u):=by
   intro r a b h;cases hi:Am7 i 0 with
   | true =>
    rw [hi,cond_true] at h;have kE:=Anb hi;simp only [JW] at h ⊢;cases hj:Am7 j 0 with
    | true =>
     have cC:=Anb hj;rw [hj,cond_true] at h;cases h;exact .inl ⟨by omega,rfl⟩
    | false =>
     have cC:=An4 hj;rw [hj,cond_false] at h;refine .inr ⟨by omega,?_⟩;rw [cond_false];exact h
   | false =>
    have kE:=An4 hi;rw [hi,cond_false] at h;cases hp:Am7 (i % 2) 1 with
    | true =>
     have bj:=Anb hp;simp only [hp,cond_true,JW] at h ⊢;cases hj:Am7 j 0 with
     | true=>simp only [hj,cond_true] at h ⊢;have:=Anb hj;exact .inr ⟨by omega,h⟩
     | false =>
      have cC:=An4 hj;simp only [hj,cond_false] at h ⊢;cases hq:Am7 (j % 2) 1 with
      | true =>
       have dI:=Anb hq;simp only [hq,cond_true] at h ⊢;rcases Ou f a (i / 2) v (j / 2) h with ⟨h1,h2⟩ | ⟨h1,h2⟩
       ·exact .inl ⟨by omega,h2⟩
       ·exact .inr ⟨by omega,h2⟩
      | false =>
       have dI:=An4 hq;simp only [hq,cond_false] at h ⊢;exact .inr ⟨by omega,h⟩
    | false =>
     have bj:=An4 hp;simp only [hp,cond_false,JW] at h ⊢;cases hj:Am7 j 0 with
     | true=>simp only [hj,cond_true] at h ⊢;have:=Anb hj;exact .inr ⟨by omega,h⟩
     | false =>
      have cC:=An4 hj;simp only [hj,cond_false] at h ⊢;cases hq:Am7 (j % 2) 1 with
      | true =>
       have dI:=Anb hq;simp only [hq,cond_true] at h ⊢;exact .inr ⟨by omega,h⟩
      | false =>
       have dI:=An4 hq;simp only [hq,cond_false] at h ⊢;rcases Ou f b (i / 2-1) v (j / 2-1) h with ⟨h1,h2⟩ | ⟨h1,h2⟩
       ·exact .inl ⟨by omega,h2⟩
       ·exact .inr ⟨by omega,h2⟩
  cases t with
  | l =>
   rcases key none .l .l h with h | ⟨h1,h2⟩
   ·exact .inl h
   ·refine .inr ⟨h1,?_⟩;simp only [JW] at h2;cases hj:Am7 j 0 <;> cases hq:Am7 (j % 2) 1 <;> simp [hj,hq] at h2
  | n r a b=>exact key r a b h
noncomputable def TF (t:Ft):Nat->Option Value :=
 Ft.rec (motive:=λ _=>Nat->Option Value) (λ _=>none) (λ v _ _ ra rb i=>An3 (An3 (rb (Nat.sub (An5 i 2) 1)) (ra (An5 i 2)) (Am7 (Nat.mod i 2) 1)) v (Am7 i 0)) t
theorem Ir:∀(t:Ft) (i:Nat),TF t i=JW t i
 | .l,_=>rfl
 | .n v a b,i=>by
  show An3 (motive:=λ _=>Option Value) (An3 (motive:=λ _=>Option Value) (TF b (i / 2-1)) (TF a (i / 2)) (Am7 (i % 2) 1)) v (Am7 i 0)=_;rw [Ir a,Ir b]
  conv=>rhs;unfold JW
  cases Am7 i 0 <;> cases Am7 (i % 2) 1 <;> rfl
noncomputable def QZ (f:Nat):Ft->Nat->Value->Ft :=
 Nat.rec (motive:=λ _=>Ft->Nat->Value->Ft) (λ _ _ _=>.l) (λ _ ih t i v =>
  Ft.rec (motive:=λ _=>Ft) (An3 (An3 (.n none .l (ih .l (Nat.sub (An5 i 2) 1) v)) (.n none (ih .l (An5 i 2) v) .l) (Am7 (Nat.mod i 2) 1)) (.n (some v) .l .l) (Am7 i 0))
   (λ u a b _ _=>An3 (An3 (.n u a (ih b (Nat.sub (An5 i 2) 1) v)) (.n u (ih a (An5 i 2) v) b) (Am7 (Nat.mod i 2) 1)) (.n (some v) a b) (Am7 i 0)) t) f
theorem Iv:∀(f:Nat) (t:Ft) (i:Nat) (v:Value),QZ f t i v=Ot f t i v
 | 0,_,_,_=>rfl
 | f+1,.l,i,v=>by
  show An3 (motive:=λ _=>Ft) (An3 (motive:=λ _=>Ft) (Ft.n none .l (QZ f .l (i / 2-1) v)) (Ft.n none (QZ f .l (i / 2) v) .l) (Am7 (i % 2) 1)) (Ft.n (some v) .l .l) (Am7 i 0)=_;rw [Iv f,Iv f]
  conv=>rhs;unfold Ot
  cases Am7 i 0 <;> cases Am7 (i % 2) 1 <;> rfl
 | f+1,.n u a b,i,v=>by
  show An3 (motive:=λ _=>Ft) (An3 (motive:=λ _=>Ft) (Ft.n u a (QZ f b (i / 2-1) v)) (Ft.n u (QZ f a (i / 2) v) b) (Am7 (i % 2) 1)) (Ft.n (some v) a b) (Am7 i 0)=_;rw [Iv f,Iv f]
  conv=>rhs;unfold Ot
  cases Am7 i 0 <;> cases Am7 (i % 2) 1 <;> rfl
noncomputable def GS (n:Nat) (t:Ft) (d:Option Nat) (v:Value):Ft :=
 match d with
 | none=>t
 | some d=>An3 t (QZ 20 t d v) (Nat.ble (Nat.succ d) n)
def FR(g:Sg)(fr:Ft)(frc:Fr):Prop:=∀ i v,JW fr i=some v->∃ c,look frc i=some c/\R g v c
theorem AgW{n:Nat}{fr:Fr}{d:Option Nat}{v:Value}{i:Nat}:look (put n fr d v) i=(if d=some i/\i<n then some v else look fr i):=by
 cases d with
 | none=>simp [put]
 | some d =>
  unfold put;cases hb:Anc d n with
  | true =>
   have hd:d<n:=by rw [Anc,An6] at hb;exact hb
   simp only [hb,cond_true];show (bif Am7 d i then some v else look fr i)=_;by_cases h:d=i
   ·subst h;simp [hd]
   ·have:Am7 d i=false:=by
     cases hb:Am7 d i with
     | false=>rfl
     | true=>exact absurd (Anb hb) h
    rw [this];simp [h]
  | false =>
   have hd:¬ d<n:=by
    intro hd;have:Anc d n=true:=by rw [Anc,An6];exact hd
    rw [this] at hb;cases hb
   simp only [hb,cond_false];rw [if_neg];rintro⟨h,h'⟩;cases h;exact hd h'
theorem FR.put{n:Nat}{fr:Ft}{frc:Fr}(h:FR g fr frc)(d:Option Nat){v c:Value}(hr:R g v c):FR g (GS n fr d v) (put n frc d c):=by
 intro i u hu;rw [AgW];cases d with
 | none=>rw [if_neg (by simp)];exact h i u hu
 | some d =>
  replace hu:JW (bif Anc d n then Ot 20 fr d v else fr) i=some u:=by
   have e:GS n fr (some d) v=bif Anc d n then Ot 20 fr d v else fr:=by
    show An3 (motive:=λ _=>Ft) fr (QZ 20 fr d v) (Anc d n)=_;rw [Iv];cases Anc d n <;> rfl
   rw [<- e];exact hu
  cases hb:Anc d n with
  | true =>
   have hd:d<n:=by rw [Anc,An6] at hb;exact hb
   rw [hb,cond_true] at hu;rcases Ou 20 fr d v i hu with ⟨e1,e2⟩ | ⟨h1,h2⟩
   ·rw [if_pos ⟨by rw [e1],by rw [e1];exact hd⟩,e2];exact⟨c,rfl,hr⟩
   ·rw [if_neg (by rintro⟨e,_⟩;cases e;exact h1 rfl)];exact h i u h2
  | false =>
   rw [hb,cond_false] at hu;rw [if_neg]
   ·exact h i u hu
   ·rintro⟨e,hd⟩;rw [Option.some.inj e] at hb;have:Anc i n=true:=by rw [Anc,An6];exact hd
    rw [this] at hb;cases hb
theorem FR.le{g':Sg}{fr:Ft}{frc:Fr}(h:FR g fr frc)(hl:Le g g'):FR g' fr frc:=λ i v e=>let ⟨c,e1,e2⟩:=h i v e;⟨c,e1,AiV hl v e2⟩
theorem Uc(i:Nat)(c:Value)(frc:Fr)(j:Nat):look ((i,c) :: frc) j=(if i=j then some c else look frc j):=by
 show (bif Am7 i j then some c else look frc j)=_;cases hb:Am7 i j with
 | true=>have:=Anb hb;simp [this]
 | false=>have:=An4 hb;simp [this]
theorem FR.cons{fr:Ft}{frc:Fr}(h:FR g fr frc)(i:Nat){v c:Value}(hr:R g v c):FR g (Ot 20 fr i v) ((i,c) :: frc):=by
 intro j u hu;rw [Uc];rcases Ou 20 fr i v j hu with ⟨rfl,rfl⟩ | ⟨h1,h2⟩
 ·rw [if_pos rfl];exact⟨c,rfl,hr⟩
 ·rw [if_neg (λ e=>h1 e.symm)];exact h j u h2
theorem FR.again{fr:Ft}{frc:Fr}(h:FR g fr frc){i:Nat}{c:Value}(hc:look frc i=some c):FR g fr ((i,c) :: frc):=by
 intro j u hu;rw [Uc];split
 ·rename_i e;subst e;obtain⟨d,hd,hr⟩:=h _ u hu;rw [hc] at hd;cases hd;exact⟨_,rfl,hr⟩
 ·exact h j u hu
noncomputable def eO (fr:Ft):Operand->Option Value
 | .tmp t=>TF fr t
 | .const v=>if pl v then some v else none
 | .global b=>if b<Gu then some (.pointer (some ⟨b,0,none⟩)) else none
 | .func f=>some (.func (.func f) #[] #[])
def ER(g:Sg)(e e':Operand->Option Value):Prop:=∀ x v,e x=some v->∃ c,e' x=some c/\R g v c
theorem RG{fr:Ft}{frc:Fr}(h:FR g fr frc):ER g (eO fr) (EY frc):=by
 intro x v hx;cases x with
 | tmp t=>exact h t v (by rw [<- Ir];exact hx)
 | const u =>
  simp only [eO] at hx;split at hx
  ·rename_i hp;cases hx;exact⟨_,rfl,(RZ _ hp).2 rfl⟩
  ·cases hx
 | global b =>
  simp only [eO] at hx;split at hx
  ·rename_i hp;cases hx;exact⟨_,rfl,by simp [R,ad,bk,hp]⟩
  ·cases hx
 | func f =>
  simp only [eO] at hx;cases hx;exact⟨_,rfl,by simp [R,RA,RL]⟩
end
end Go.Dn
