/- Texts of this claim, laid one behind the other by a program of mine. -/
import Derived.Test.YtpnaifmmggnimaaGreatDoorM9
import Derived.Test.YtpnaifmmggnimaaGreatDoorM6
import Derived.Test.YtpnaifmmggnimaaGreatDoorRead
import Derived.Maps.OwnSet
import Derived.Maps.Range
import Derived.Lib.SlKeysI
import Derived.DataShut
import Derived.Shelf.SlIterI.Nil
import Derived.Shelf.SortM.Plain
import Derived.Shelf.SortM.SortNone
import Derived.Ground.GgzProg
import Derived.Ground.SlgmProg
import Derived.Test.YtpnaifmmggnimaaGreatDoorProg
namespace Go.Proofs.YtpnaifmmggnimaaGreatDoor
open R
open _root_.Go.Proofs.Tryz renaming prog -> Aix
open _root_.Nat renaming le_trans -> AiI
set_option maxRecDepth 100000
open Go.Dn Go.Proofs
open Go.RowKit (Below)
set_option linter.unusedVariables false
def Ag4(c:Bv):Prop:=c.1.size<=maxLen
def rwC(p:BH):List Value:=[Co p]
structure AgT(w:World)(p:BH):Prop where
 len:p.2.2.length<=maxLen
 rd:Rd w p.1 (AR p.2.2)
 ok:∀ v∈p.2.2,BM v
theorem Te:Aix.cellsOf 4=1:=by kernel_rfl
theorem AfN:Ou Aix 102=some [(9,0),(3,1),(4,2)]:=by kernel_rfl
theorem Us:Aix.underlying 9=some .string:=by kernel_rfl
theorem Wc:Aix.underlying 4=some .bool:=by kernel_rfl
theorem AfO:Aix.underlying 69=some (.slice 120):=by kernel_rfl
theorem AbU:Aix.cellsOf 102=3:=by kernel_rfl
theorem RI{w:World}:∀ m r,r.length=Aix.cellsOf 102->Go.Dn.Good Aix w m 102 r->∃ x,r=UK x/\Ag4 x:=by
 intro m r hl h;obtain⟨_,n,hf⟩:=h.fields AfN;rw [AbU] at hl
 match r,hl with
 | [v0,v1,v2],_ =>
  simp only [List.mem_cons,List.not_mem_nil,or_false,forall_eq_or_imp,forall_eq,PR,Te,LG] at hf;obtain⟨h0,h1,h2⟩:=hf;obtain⟨x0,e0,q0⟩:=h0.str Us;obtain⟨x1,e1,q1⟩:=h1.int Pq;obtain⟨x2,e2⟩:=h2.bool Wc;refine⟨(x0,x1,x2),?_,q0⟩;simp only [List.drop_zero,List.take_succ_cons,List.take_zero,List.drop_succ_cons,List.cons.injEq,and_true] at e0 e1 e2;rw [e0,e1,e2];rfl
theorem WL{w:World}:∀ m r,r.length=Aix.cellsOf 69->Go.Dn.Good Aix w m 69 r->∃ x,r=rwC x/\AgT w x:=by
 intro m r hl h;obtain⟨a,c,xs,rfl,h1,h2,h3,h4,h5⟩:=h.list AfO _ _ TA;exact⟨(a,c,xs),rfl,AiI h1 h2,h4,λ v hv=>(h5 v hv).1⟩
theorem Adv{w:World}{a:Option Addr}{cs:List Bv}{c:Nat}(g:GL w UK Ag4 a cs c):Rd w a (BF cs)/\cs.length<=9223372036854775807/\∀ c∈cs,c.1.size<=9223372036854775807 :=
 ⟨g.2.2.2.1,AiI (AiI g.1 g.2.1) Ode,λ v hv=>AiI (g.2.2.2.2 v hv) Ode⟩
theorem Aeo{w:World}{a:Option Addr}{ps:List BH}{c:Nat}(g:GL w rwC (AgT w) a ps c):A9 w a ps/\ps.length<=9223372036854775807/\(∀ r∈rws ps,∀ v∈r,BM v)/\∀ p∈ps,p.2.2.length<=9223372036854775807:=by
 refine⟨⟨?_,λ p hp=>(g.2.2.2.2 p hp).rd⟩,AiI (AiI g.1 g.2.1) Ode,λ r hr=>?_,λ p hp=>AiI (g.2.2.2.2 p hp).len Ode⟩
 ·have:=g.2.2.2.1;rw [show ps.flatMap rwC=ps.map Co from AdJ Co ps] at this;exact this
 ·obtain⟨p,hp,rfl⟩:=List.mem_map.1 hr;exact (g.2.2.2.2 p hp).ok
section
variable {w:World}{a a2:Option Addr}{c c2:Nat}{cs:List Bv}{ps:List BH}
end
def EZ(s:ByteArray):ByteArray:=Bu (RL (H9 (bl s)))
theorem Jl(s:ByteArray):(EZ s).size=64:=by
 unfold EZ;rw [AP,TD,Fu]
section
variable {w:World}
theorem Gy(T:Hb w)(s:ByteArray)(hs:s.size<=140737488355328):Cw 82 #[.string s] w λ v w'=>v=.string (EZ s)/\Below w.heap.size w w':=by
 apply ND
 delta B Ct J N Rs S T;try dsimp only [Ps]
 have an:=AW s;refine BT Ca s w λ b0 c0 cells e0 w1 bZ B1 jf aj iy cZ=>?_;have dS:Rd w1 (some ⟨b0,0,none⟩) ((bl s).map Ag):=by
  have:=(Rd.Al jf).take s.size;rw [cZ] at this;exact this
 refine⟨_,_,_,rfl,(((ST.start w).grown B1).An λ b4 w2 _ B2 S=>?_)⟩;rw [<- an] at S;have iD:Rd w2 (some ⟨b4,0,none⟩) ([(some ⟨b0,0,none⟩,c0,bl s)].map BZ):=S.F0 0 rfl;have e2:BR [(some ⟨b0,0,none⟩,c0,bl s)]=bl s:=by simp [BR]
 refine (Kp (c:=1) (T.grown S.Ar) [(some ⟨b0,0,none⟩,c0,bl s)] iD (by
   intro p hp;simp only [List.mem_cons,List.not_mem_nil,or_false] at hp;subst hp;exact dS.grown B2) Osi (by rw [e2];omega)).mono ?_
 rw [e2];rintro _ w3 ⟨_,rfl,rfl,B3⟩;have S:=S.grown B3;have bp:(H9 (bl s)).length=32:=Fu _;obtain⟨nm,cB⟩:∃ nm,nm=EZ s:=⟨_,rfl⟩;unfold EZ at cB;obtain⟨dg,hdg⟩:∃ dg,dg=H9 (bl s):=⟨_,rfl⟩;rw [show EZ s=nm from cB.symm];rw [<- hdg] at bp cB ⊢;refine Iw dg bp ⟨rfl,(Yg dg bp w3).mono ?_⟩;rintro _ w4 ⟨_,rfl,rfl,B4⟩;exact⟨_,rfl,by rw [cB],Ac S.Ar B4⟩
theorem Mt(s:ByteArray)(hs:s.size<=140737488355328):Cw 90 #[.string s] w λ v w'=>v=.string (EZ s)/\Below w.heap.size w w':=by
 apply QI
 delta B Ct Rs S T;try dsimp only [Ps]
 have an:=AW s;refine BT Ca s w λ b0 c0 cells e0 w1 bZ B1 jf aj iy cZ=>?_;have dS:Rd w1 (some ⟨b0,0,none⟩) ((bl s).map Ag):=by
  have:=(Rd.Al jf).take s.size;rw [cZ] at this;exact this
 rw [<- an];refine⟨_,_,_,rfl,(Ju (bl s) dS Omg Omg).mono ?_⟩;rintro _ w3 ⟨_,rfl,rfl,B3⟩;have bp:(H9 (bl s)).length=32:=Fu _;obtain⟨nm,cB⟩:∃ nm,nm=EZ s:=⟨_,rfl⟩;unfold EZ at cB;obtain⟨dg,hdg⟩:∃ dg,dg=H9 (bl s):=⟨_,rfl⟩;rw [show EZ s=nm from cB.symm];rw [<- hdg] at bp cB ⊢;refine Iw dg bp ⟨rfl,(W6 dg bp w3).mono ?_⟩;rintro _ w4 ⟨_,rfl,rfl,B4⟩;exact⟨_,rfl,by rw [cB],Ac (Ac B1 B3) B4⟩
end
end Go.Proofs.YtpnaifmmggnimaaGreatDoor
namespace Go.Dn
set_option linter.unusedVariables false
set_option maxRecDepth 100000
open Go.RowKit (Below)
section
variable {w0 w:World}{H:List It}
theorem ST.mid(l:List It){X B:List It}(S:ST w0 w (X++(l++B))):ST w0 w (l++(X++B)):=S.perm (List.perm_append_comm_assoc X l B)
end
end Go.Dn
namespace Go.Dn
set_option linter.unusedVariables false
set_option maxRecDepth 100000
section
variable {w0 w:World}{H:List It}
end
end Go.Dn
namespace Go.Dn
set_option linter.unusedVariables false
set_option maxRecDepth 100000
open Go.RowKit (Below)
section
variable {w0 w:World}{H:List It}{P:Program}{f:FuncId}{args:Array Value}{Q:Ending->World->Prop}
end
section
variable {w0 w:World}{H:List It}
theorem ST.mk0(S:ST w0 w H){P:Program}{t e:TypeId}{sz bytes:Nat}{z:Value}(hT:Me P t=some (e,sz,bytes,z)){c:Nat}(hb:bytes*c<=281474976710656)(hc:c<=9223372036854775807){f:Value->World->Prop}{kl kc:IntKind}
  (hf:∀ b w',ST w0 w' (It.row e sz (some ⟨b,0,none⟩) 0 c [] :: H)->f (.slice (some ⟨b,0,none⟩) 0 c) w'):De P (Instr.makeSlice t (.int kl 0) (.int kc (c:Int))) f w :=
 G7 hT hb hc λ b w' h1 h2 h3=>hf b w' (S.add h2 _ h3 λ k hk=>by cases hk;exact h1)
theorem ST.AhW(S:ST w0 w H)(n:Nat){e:TypeId}{sz:Nat}{a:Option Addr}{m c:Nat}{xs:List Value}(hn:H[n]?=some (It.row e sz a m c xs)):ST w0 w (H.set n (It.rd a xs)) :=
 S.H7 n hn (Ak.refl _ w) _ (S.rd n hn) λ k hk=>by
  cases xs with
  | nil=>cases hk
  | cons x xs=>exact .inl hk
end
end Go.Dn
namespace Go.Proofs.YtpnaifmmggnimaaGreatDoor
open R
open _root_.Int renaming toNat_natCast -> Ait
open _root_.List renaming append_assoc -> Air, getElem_mem -> Ai7, take_of_length_le -> AiZ, take_succ_eq_append_getElem -> Ajl
set_option maxRecDepth 100000
open Go.Dn Go.Proofs
open Go.RowKit (Below)
set_option linter.unusedVariables false
theorem Aay{w0 w:World}{H:List It}(S:ST w0 w H){v:Value}{t:TypeId}{k:Nat->World->Prop}(hk:∀ b w',ST w0 w' (It.row t 1 (some ⟨b,0,none⟩) 1 1 [v] :: H)->k b w'):Du #[v] t k w :=
 S.An λ b w1 _ B S1=>hk b w1 (S1.H7 0 rfl (.refl _ _) _ (⟨Osi,.inr ⟨b,#[v],rfl,S1.CA 0 rfl,Omg,Omg,Osi,Osi⟩⟩:Row w1 t 1 (some ⟨b,0,none⟩) 1 1 [v]) λ k hk=>.inl hk)
def OO(p:DH):It:=BW p.1 p.2.1 p.2.2
def Qq(a:Option Addr)(c:Nat)(ps:List DH):It:=It.row 77 1 a ps.length c (ps.map BZ)
theorem Agz:Me Tryz.prog 150=some (77,1,24,.slice none 0 0):=by kernel_rfl
theorem Lj{cs:List Bv}{rows:List (List AD)}(h:DW cs rows≠0):¬ Br cs rows:=λ hs=>h (by
 have h1:¬ (1024<rows.length\/∃ r∈rows,CT cs r=false):=by
  rintro (h | ⟨r,hr,h⟩)
  ·have:=hs.len;omega
  ·rw [hs.fits r hr] at h;cases h
 have h2:¬ Ao cs=false:=by rw [hs.right];decide
 rw [DW,if_neg h2,if_neg h1])
def Vf(l:List UInt8)(cs:List Bv)(rows:List (List AD))(w w':World)(v:Value):Prop :=
 (¬ Br cs rows/\v=.tuple #[.slice none 0 0,.int .i64 (DW cs rows)]/\DW cs rows≠0/\Below w.heap.size w w') \/
  (Br cs rows/\∃ a c,v=.tuple #[.slice a (l++Fx rows).length c,.int .i64 0]/\Bj w w' (l++Fx rows) a c)
theorem ZZ(qs:List DH)(p:DH):BR (qs++[p])=BR qs++p.2.2:=by simp [BR]
theorem Tq{cs:List Bv}{r:List AD}(hf:CT cs r=true){k:Nat}(hk:k<r.length):AK r[k]=true:=by
 have hl:=IB hf;have:=Sp hf Omg hk;simp only [Gu,Bool.and_eq_true] at this;exact this.1
section
variable {w0 w:World}{H:List It}{a a2 a3:Option Addr}{c c2 c3:Nat}{l:List UInt8}{cs:List Bv}{ps:List BH}
theorem Agw(S:ST w0 w H){n:Nat}{qs:List DH}(hn:H[n]?=some (Qq a c qs)){p:DH}{b:Nat}(hs:Rd w (some ⟨b,0,none⟩) [BZ p])(hl:qs.length+1<=1000000){f:Value->World->Prop}
  (hf:∀ a' c' w',ST w0 w' (H.set n (Qq a' c' (qs++[p])))->f (.slice a' (qs++[p]).length c') w') :
  De Tryz.prog (Builtin.append_ #[150,150] 150 #[.slice a qs.length c,.slice (some ⟨b,0,none⟩) 1 1]) f w:=by
 refine S.app n hn Agz rfl Omg Omg hs (mm:=1) rfl (by simp [BZ];rfl) Omg λ a' c' w' S'=>?_;have e1:(qs++[p]).length=qs.length+1:=Osi;have e2:qs.map BZ++[BZ p]=(qs++[p]).map BZ:=Osi;rw [e2] at S';have:=hf a' c' w' (by unfold Qq;rw [e1];exact S');rwa [e1] at this
theorem Aeh{E:List It}{qs:List DH}(S:ST w0 w (E++qs.map OO)):∀ p∈qs,Rd w p.1 (p.2.2.map Ag):=λ p hp=>by
 have:(OO p).ok w:=S.ok _ (List.mem_append_right _ (List.mem_map.2 ⟨p,hp,rfl⟩));exact Row.rd this
theorem Aak{E:List It}{qs:List DH}{p:DH}(S:ST w0 w (OO p :: (E++qs.map OO))):ST w0 w (E++(qs++[p]).map OO):=by
 refine S.perm ?_;rw [List.map_append];simp only [List.map_cons,List.map_nil];rw [<- Air];exact (List.perm_append_comm (l₁:=[OO p]))
set_option maxHeartbeats 1000000 in
theorem Pd(hl:Rd w a (l.map Ag))(hs:l.length+20000000<=140737488355328)(aj:Rd w a2 (BF cs))(hn:cs.length<=9223372036854775807)(hq:∀ c∈cs,c.1.size<=9223372036854775807)(hr:A9 w a3 ps)(hm:ps.length<=9223372036854775807)(hv:∀ r∈rws ps,∀ v∈r,BM v) :
  Cw 49 #[.slice a l.length c,.slice a2 cs.length c2,.slice a3 ps.length c3] w λ v w'=>Vf l cs (rws ps) w w' v:=by
 apply Lf
 delta A Ab Ad AM Cb Cs E F H I J Ks Li Ls Lt N O Eg S Am T U W Wu X;try dsimp only [Ps]
 refine (DV aj hn hq).mono ?_;rintro _ w1 ⟨_,rfl,rfl,B1⟩;have bad:∀ {wx:World} (e:Int),Below w.heap.size w wx->DW cs (rws ps)=e->e≠0->Vf l cs (rws ps) w wx (.tuple #[.slice none 0 0,.int .i64 e]):=by
  rintro wx e B rfl h0;exact .inl ⟨Lj h0,rfl,h0,B⟩
 have S:=(ST.start w).grown B1;refine⟨_,rfl,As (Aq (λ hR=>?_) (λ hR=>bad 50 S.Ar (by rw [DW,if_pos hR]) Ode))⟩;have gp:¬ Ao cs=false:=by rw [hR];decide
 refine Aa (λ h=>bad 51 S.Ar ?_ Ode) (λ hlen=>?_)
 ·have:1024<(rws ps).length:=by simp only [rws,List.length_map];omega
  rw [DW,if_neg gp,if_pos (.inl this)]
 have bN:ps.length<=1024:=Omg;have bQ:=AX hR;rw [Aj Omg Omg];have d1:=Ah (n:=ps.length) Omg;refine (AE l (hl.grown S.Ar) ps.length Omg Omg).mono ?_;rintro _ w2 ⟨_,rfl,jC,il,rfl,h2⟩;have S:=Ba S h2;have sj:(rws ps).length=ps.length:=by simp [rws]
 have jV:∀ {wx:World} (r:List AD),Below w.heap.size w wx->r∈rws ps->CT cs r=false->Vf l cs (rws ps) w wx (.tuple #[.slice none 0 0,.int .i64 51]):=λ r B h1 h2 =>
  bad 51 B (by rw [DW,if_neg gp,if_pos (.inr ⟨r,h1,h2⟩)]) Ode
 obtain⟨p0,sX⟩:∃ p0:DH,p0=(jC,il,l++Af ps.length):=⟨_,rfl⟩;refine⟨_,_,_,rfl,Aay S λ b8 w3 S=>?_⟩;have S:ST w w3 ([Qq (some ⟨b8,0,none⟩) 1 [p0]]++[p0].map OO):=by subst sX;exact S
 let Inv:List Value->World->Prop:=λ s wx=>∃(i:Nat) (qs:List DH) (pa:Option Addr) (pc:Nat),s=[.slice pa qs.length pc,.int .i64 (i:Int)]/\i<=ps.length/\qs.length<=1+i*16 /\
  BR qs=l++Af ps.length++((rws ps).take i).flatMap Jx/\(∀ r∈(rws ps).take i,CT cs r=true)/\ST w wx ([Qq pa pc qs]++qs.map OO)
 refine⟨Inv,λ s _=>match s with
  | [_,.int _ i]=>ps.length-i.toNat
  | _=>0,⟨0,[p0],_,1,rfl,Omg,Osi,by subst sX;simp [BR],Osi,S⟩,?_⟩
 clear S;rintro pa _ pc _ w4 ⟨i,qs,_,_,aA,hi,lI,ct,cf,S⟩;cases aA;refine Aa (λ aB=>?_) (λ aJ=>?_)
 ·have aD:i<ps.length:=Omg;have ni:i<(rws ps).length:=Omg;obtain⟨q,rfl,mB,mD⟩:=(hr.grown S.Ar).at aD;have ei:(rws ps)[i]=ps[i].2.2:=by simp [rws]
  refine⟨⟨Omg,Omg⟩,_,_,_,by rw [Ait];exact mB,?_⟩;obtain⟨row,aI⟩:∃ row,row=ps[i].2.2:=⟨_,rfl⟩;rw [<- aI] at mD ei ⊢;have aV:row∈rws ps:=by rw [<- ei];exact Ai7 ni
  refine (Hz (aj.grown S.Ar) hn mD).mono ?_;rintro _ w6 ⟨_,rfl,rfl,B6⟩;have S:=S.grown B6;refine⟨_,rfl,As (Aq (λ hf=>?_) (λ hf=>jV row S.Ar aV hf))⟩;have lK:=IB hf;have aK:=hv row aV;have xM:Rd w ps[i].1 (AR row):=by rw [aI];exact hr.each _ (Ai7 aD)
  let In2:List Value->World->Prop:=λ s wx=>∃(k:Nat) (fE:List DH) (pa:Option Addr) (pc:Nat),s=[.slice pa fE.length pc,.int .i64 (k:Int)]/\k<=row.length/\fE.length=qs.length+k /\
   BR fE=BR qs++(row.take k).flatMap Cr/\ST w wx ([Qq pa pc fE]++fE.map OO)
  refine⟨In2,λ s _=>match s with
   | [_,.int _ i]=>row.length-i.toNat
   | _=>0,⟨0,qs,_,_,rfl,Omg,Omg,Osi,S⟩,?_⟩
  clear S;rintro pa _ pc _ w7 ⟨k,fE,_,_,aA,hk,hql',nU,S⟩;cases aA;refine Aa (λ av=>?_) (λ bz=>?_)
  ·have aO:k<row.length:=Omg;obtain⟨q2,iV,e0,e1,e2⟩:=Db (xM.grown S.Ar) aO;rw [iV];refine⟨⟨Omg,Omg⟩,_,by rw [Ait];exact e0,_,by rw [Ait];exact e1,_,by rw [Ait];exact e2,S.Ic λ b25 aZ _ S=>⟨_,S.cell 0 rfl rfl,_,S.cell 0 rfl rfl,_,S.cell 0 rfl rfl,?_⟩⟩;refine (JB (a:=none) (c:=0) [] (Rd.nil _ _) row[k] (aK _ (Ai7 aO)) Osi).mono ?_;rintro _ bL ⟨_,rfl,fI⟩;obtain⟨xa,xc,rfl,n12⟩:=IF (Tq hf aO) fI;rw [List.nil_append] at n12 ⊢;have S:=Ba (S.drop 1) n12;obtain⟨p,hp⟩:∃ p:DH,p=(xa,xc,Cr row[k]):=⟨_,rfl⟩;refine⟨_,_,_,_,rfl,Aay S λ pY al S=>?_⟩;have jl:Rd al (some ⟨pY,0,none⟩) [BZ p]:=by subst hp;exact S.rd 0 rfl
   refine Agw S (n:=2) rfl jl Omg λ a' c' au S=>⟨_,_,_,rfl,?_⟩;rw [Ae Omg];refine⟨⟨k+1,fE++[p],a',c',rfl,Omg,by simp;omega,?_,?_⟩,by simp only [Ait];omega⟩
   ·rw [ZZ,nU,Ajl aO,List.flatMap_append];subst hp;simp
   ·subst hp;exact Aak (S.drop 1)
  ·obtain rfl:k=row.length:=Omg;rw [Ae Omg];rw [List.take_length] at nU;refine⟨⟨i+1,fE,_,_,rfl,Omg,Omg,?_,λ r gV=>?_,S⟩,by simp only [Ait];omega⟩
   ·rw [nU,ct,Ajl ni,List.flatMap_append,ei];simp [Jx]
   ·rw [Ajl ni] at gV;rcases List.mem_append.1 gV with h | h
    ·exact cf r h
    ·rw [List.mem_singleton.1 h,ei];exact hf
 ·obtain rfl:i=ps.length:=Omg;rw [AiZ Omg] at ct cf;have aK:Br cs (rws ps):=⟨hR,Omg,cf,hv⟩;have hln:=V2 (i:=(rws ps).length) aK;rw [List.take_length] at hln;refine (Bl qs (S.rd 0 rfl) (Aeh S) Omg (by rw [ct];simp only [List.length_append];omega)).mono ?_;rintro _ w5 ⟨_,rfl,a5,c5,rfl,h5⟩;have e:l++Af ps.length++(rws ps).flatMap Jx=l++Fx (rws ps):=by rw [Fx,sj,Air]
  rw [ct,e] at h5 ⊢;exact⟨_,_,_,rfl,.inr ⟨aK,a5,c5,rfl,h5.before S.Ar⟩⟩
def Gj(a:Option Addr)(c:Nat)(ps:List BH):It:=It.row 69 1 a ps.length c (ps.map Co)
def Wx(o:Option (List (List AD) × Nat))(w w':World)(v:Value):Prop :=
 match o with
 | none=>∃ e:Int,e≠0/\v=.tuple #[.slice none 0 0,.int .i64 0,.int .i64 e]/\Below w.heap.size w w'
 | some r=>∃ a c ps,v=.tuple #[.slice a ps.length c,.int .i64 (r.2:Int),.int .i64 0]/\rws ps=r.1/\ST w w' ([Gj a c ps]++ps.map EF)
theorem Aey(S:ST w0 w H){n:Nat}{qs:List BH}(hn:H[n]?=some (Gj a c qs)){p:BH}{b:Nat}(hs:Rd w (some ⟨b,0,none⟩) [Co p])(hl:qs.length+1<=1000000){f:Value->World->Prop}
  (hf:∀ a' c' w',ST w0 w' (H.set n (Gj a' c' (qs++[p])))->f (.slice a' (qs++[p]).length c') w') :
  De Tryz.prog (Builtin.append_ #[35,35] 35 #[.slice a qs.length c,.slice (some ⟨b,0,none⟩) 1 1]) f w:=by
 refine S.app n hn Abq rfl Omg Omg hs (mm:=1) rfl (by simp [Co];rfl) Omg λ a' c' w' S'=>?_;have e1:(qs++[p]).length=qs.length+1:=Osi;have e2:qs.map Co++[Co p]=(qs++[p]).map Co:=Osi;rw [e2] at S';have:=hf a' c' w' (by unfold Gj;rw [e1];exact S');rwa [e1] at this
theorem V3{E:List It}{qs:List BH}{p:BH}(S:ST w0 w (EF p :: (E++qs.map EF))):ST w0 w (E++(qs++[p]).map EF):=by
 refine S.perm ?_;rw [List.map_append];simp only [List.map_cons,List.map_nil];rw [<- Air];exact (List.perm_append_comm (l₁:=[EF p]))
theorem Agy(S:ST w0 w H)(n:Nat){b:Nat}{cur:List AD}{t:TypeId}(hn:H[n]?=some (It.cells b ⟨AR cur⟩ t)){i:Nat}(hi:i<cur.length)(v:AD){k:World->Prop}(hk:∀ w',ST w0 w' (H.set n (It.cells b ⟨AR (cur.set i v)⟩ t))->k w') :
  DG ((⟨b,0,none⟩:Addr).add (i*3)) (.int .i64 v.1) (λ w=>DG (((⟨b,0,none⟩:Addr).add (i*3)).add 1) (.int .i64 v.2.1) (λ w=>DG (((⟨b,0,none⟩:Addr).add (i*3)).add 2) (.string v.2.2) k w) w) w:=by
 have aB:=(List.getElem?_eq_some_iff.1 hn).1;have ao:(⟨AR cur⟩:Array Value).size=cur.length*3:=by show (AR cur).length=_;rw [IX]
 have e0:((⟨b,0,none⟩:Addr).add (i*3))=⟨b,i*3,none⟩:=by rw [Ax];simp
 simp only [e0,Ax];refine S.BD n hn Omg rfl λ w1 S1=>?_;refine S1.BD n (List.getElem?_set_self aB) (by simp only [Array.size_setIfInBounds];omega) rfl λ w2 S2=>?_;rw [List.set_set] at S2;refine S2.BD n (List.getElem?_set_self aB) (by simp only [Array.size_setIfInBounds];omega) rfl λ w3 S3=>?_;rw [List.set_set,Zv cur hi] at S3;exact hk w3 S3
set_option maxHeartbeats 1000000 in
theorem NA(hl:Rd w a (l.map Ag))(hc:l.length<=c)(hs:l.length<=140737488355328)(at_:Int)(aj:Rd w a2 (BF cs))(hn:cs.length<=9223372036854775807)(hq:∀ c∈cs,c.1.size<=9223372036854775807) :
  Cw 112 #[.slice a l.length c,.int .i64 at_,.slice a2 cs.length c2] w λ v w'=>Wx (Be l cs at_) w w' v:=by
 apply JZ
 delta DZ Bz Cb F H I J Ks N O MH Ae0 Rs S Am T U W Wu X;try dsimp only [Ps]
 refine (DV aj hn hq).mono ?_;rintro _ w1 ⟨_,rfl,rfl,B1⟩;have S:=(ST.start w).grown B1;have bad:∀ {wx:World} (e:Int),e≠0->Below w.heap.size w wx->Be l cs at_=none->Wx (Be l cs at_) w wx (.tuple #[.slice none 0 0,.int .i64 0,.int .i64 e]):=by
  intro wx e h0 B h;rw [h];exact⟨e,h0,rfl,B⟩
 refine⟨_,rfl,As (Aq (λ hR=>?_) (λ hR=>bad 50 Ode S.Ar (by simp [Be,hR])))⟩;have bQ:=AX hR;refine (AL (hl.grown S.Ar) hc Omg at_).mono ?_;rintro _ w2 ⟨_,rfl,rfl,rfl⟩;obtain⟨n,aL,e,hv,hk,qy,hx⟩:=DT _ (rfl:takeN l at_=takeN l at_);rw [hv];refine⟨_,_,_,rfl,Ai (λ h=>bad 52 Ode S.Ar ?_) (λ h=>?_)⟩
 ·rcases hx with ⟨h2,_⟩ | ⟨_,h2⟩
  ·exact absurd h2 h
  ·simp [Be,h2]
 have rL:takeN l at_=some (n,aL):=by
  rcases hx with ⟨_,h2⟩ | ⟨h2,_⟩
  ·exact h2
  ·exact absurd h h2
 have hT:Be l cs at_=if n<=1024 then BN (QP l cs) n aL else none:=by simp [Be,hR,rL]
 refine Aa (λ h=>bad 52 Ode S.Ar (by rw [hT,if_neg Omg])) (λ hle=>?_);rw [if_pos Omg] at hT;refine⟨λ s wx=>∃(i aX:Nat) (qs:List BH) (ra:Option Addr) (rc:Nat),s=[.int .i64 (aX:Int),.slice ra qs.length rc,.int .u64 (i:Int)]/\i<=n/\qs.length=i/\aX<=l.length/\BN (QP l cs) i aL=some (rws qs,aX)/\ST w wx ([Gj ra rc qs]++qs.map EF),λ s _=>match s with
  | [_,_,.int _ i]=>n-i.toNat
  | _=>0,⟨0,aL,[],none,0,rfl,Omg,rfl,hk,rfl,S.nil _ _⟩,?_⟩
 clear S;rintro _ ra _ rc _ w3 ⟨i,aX,qs,_,_,aA,hi,wm,um,aW,S⟩;cases aA;refine Aa (λ aB=>?_) (λ aJ=>?_)
 ·have jh:i<n:=Omg;refine DS AgA (l:=(cs.length:Int)) (c:=(cs.length:Int)) Omg Omg Omg Omg λ b w4 hb B4 hO=>?_;rw [Ait] at hO ⊢;rw [Wf] at hO;have S:=S.add B4 (It.cells b ⟨AR (List.replicate cs.length (0,0,E0))⟩ 120) hO (λ k hk=>by cases hk;exact hb);have kD:BN (λ a=>Bg l (a:Int)) cs.length aX=none->Be l cs at_=none:=λ h=>by
   rw [hT];refine FY (i:=i+1) ?_ jh;rw [CZ aW,QP,h];rfl
  refine⟨_,_,_,rfl,λ s wx=>∃(k bH:Nat) (cur:List AD),s=[.int .i64 (bH:Int),.int .i64 (k:Int)]/\k<=cs.length/\cur.length=cs.length/\bH<=l.length/\BN (λ a=>Bg l (a:Int)) k aX=some (cur.take k,bH) /\
    ST w wx (It.cells b ⟨AR cur⟩ 120 :: ([Gj ra rc qs]++qs.map EF)),λ s _=>match s with
   | [_,.int _ k]=>cs.length-k.toNat
   | _=>0,⟨0,aX,_,rfl,Omg,Osi,um,rfl,S⟩,?_⟩
  clear S;rintro _ _ w5 ⟨k,bH,cur,aA,ay,jZ,uo,cM,S⟩;cases aA;refine Aa (λ av=>?_) (λ bz=>?_)
  ·have aO:k<cs.length:=Omg;refine (Iq (hl.grown S.Ar) hc Omg (bH:Int)).mono ?_;rintro _ w6 ⟨_,rfl,rfl,B6⟩;have S:=S.grown B6;obtain⟨v,k3,e3,hv3,iQ,hx3⟩:=IW _ (rfl:Bg l (bH:Int)=Bg l (bH:Int));rw [hv3];refine⟨_,_,_,_,_,rfl,⟨Omg,Omg⟩,?_⟩;rw [Ait];refine Agy S 0 rfl (i:=k) Omg v λ w9 S=>Ai (λ h=>bad 52 Ode S.Ar (kD ?_)) (λ h=>?_)
   ·refine FY (i:=k+1) ?_ aO;rw [CZ cM];rcases hx3 with ⟨h2,_⟩ | ⟨_,h2⟩
    ·exact absurd h2 h
    ·simp [h2]
   ·have oP:Bg l (bH:Int)=some (v,k3):=by
     rcases hx3 with ⟨_,h2⟩ | ⟨h2,_⟩
     ·exact h2
     ·exact absurd h h2
    rw [Ae Omg];refine⟨⟨k+1,k3,cur.set k v,rfl,Omg,by rw [List.length_set];exact jZ,iQ,?_,S⟩,by simp only [Ait];omega⟩;rw [CZ cM,oP];have e:(cur.set k v).take (k+1)=cur.take k++[v]:=by
     rw [Ajl (by rw [List.length_set];omega),List.getElem_set_self,List.take_set_of_le (Nat.le_refl _)]
    rw [e];rfl
  ·obtain rfl:k=cs.length:=Omg;rw [AiZ Omg] at cM;have hF:=Hz (c:=c2) (c2:=cs.length) (aj.grown S.Ar) hn (S.F0 0 rfl);rw [jZ] at hF;refine hF.mono ?_;rintro _ bX ⟨_,rfl,rfl,bu⟩;have S:=S.grown bu;refine⟨_,rfl,As (Aq (λ hf=>?_) (λ hf=>bad 52 Ode S.Ar ?_))⟩;rotate_left
   ·rw [hT];refine FY (i:=i+1) ?_ jh;rw [CZ aW,QP,cM];simp [hf]
   obtain⟨p,hp⟩:∃ p:BH,p=(some ⟨b,0,none⟩,cs.length,cur):=⟨_,rfl⟩;have iY:=IX cur;have S:=S.H7 0 rfl (.refl _ _) (EF p) (by
    subst hp;exact⟨iY,.inr ⟨b,⟨AR cur⟩,rfl,S.CA 0 rfl,by show cur.length<=cs.length;omega,by show cs.length<=_;omega,by show (AR cur).length=cs.length*3;omega,AiZ (by show (AR cur).length<=cur.length*3;omega)⟩⟩) (λ k hk=>by subst hp;exact .inl hk)
   refine Aay S λ mX aZ S=>?_;have jl:Rd aZ (some ⟨mX,0,none⟩) [Co p]:=by
    subst hp;unfold Co;rw [jZ];exact S.rd 0 rfl
   refine Aey S (n:=2) rfl jl Omg λ a' c' bL S=>⟨_,_,_,rfl,?_⟩;have e:IntKind.u64.wrap ((i:Int)+1)=((i+1:Nat):Int):=by rw [Aj Omg Omg];omega
   rw [e];refine⟨⟨i+1,bH,qs++[p],a',c',rfl,Omg,by simp [wm],uo,?_,V3 (S.drop 1)⟩,by simp only [Ait];omega⟩;rw [CZ aW,QP,cM,Option.bind_some,if_pos hf];subst hp;simp [rws]
 ·obtain rfl:i=n:=Omg;rw [hT,aW];exact⟨_,_,qs,rfl,rfl,S⟩
end
end Go.Proofs.YtpnaifmmggnimaaGreatDoor

namespace Go.Dn
open _root_.Nat renaming le_refl -> Ain
set_option maxRecDepth 100000
set_option linter.unusedVariables false
open Go.RowKit (Below)
open Go.Maps (has Tidy Keyed)
section
variable {P:Program}{k e t:TypeId}{w:World}{b n:Nat}{g:List UInt8->Option Nat}
end
/-! ## Among a function's own things -/
section
variable {P:Program}{k e t:TypeId}{w0 w:World}{H:List It}{b n:Nat}{g:List UInt8->Option Nat}
end
abbrev Tri:=Int × Int × Int
def QX(x:Tri):Value:=.agg #[.int .i64 x.1,.int .i64 x.2.1,.int .i64 x.2.2]
def Sj(x:Tri):DataW Unit:=.agg [.lit (.int .i64 x.1),.lit (.int .i64 x.2.1),.lit (.int .i64 x.2.2)]
def AcU(v:Value):Option (DataW Unit × List MemPlace) :=
 match v with
 | .agg ⟨[.int .i64 a,.int .i64 b,.int .i64 c]⟩=>some (Sj (a,b,c),[])
 | _=>none
theorem Xi(x:Tri):AcU (QX x)=some (Sj x,[]):=rfl
theorem Zl{v:Value}{z:DataW Unit × List MemPlace}(h:AcU v=some z):∃ x,v=QX x/\z.1=Sj x:=by
 unfold AcU at h;split at h
 ·cases h;exact⟨(_,_,_),rfl,rfl⟩
 ·cases h
theorem Zk{a b:Tri}(h:Sj a=Sj b):a=b:=by
 obtain⟨a1,a2,a3⟩:=a;obtain⟨b1,b2,b3⟩:=b;simp only [Sj,DataW.agg.injEq,List.cons.injEq,DataW.lit.injEq,Lit.int.injEq,true_and,and_true] at h;obtain⟨rfl,rfl,rfl⟩:=h;rfl
def Gr(P:Program)(k:TypeId)(w:World)(b n:Nat)(g:Int->Option Tri):Prop :=
 ∃ D:DataW Unit,w.ownsMap P k AcU b n D/\Tidy D/\∀ x,has D (.int .i64 x)=(g x).isSome/\D.atKey (.int .i64 x) (Sj (0,0,0))=Sj ((g x).getD (0,0,0))
section
variable {P:Program}{k e t:TypeId}{w:World}{b n:Nat}{g:Int->Option Tri}
theorem Gr.same(h:Gr P k w b n g){w':World}(hb':w'.heap[b]?=w.heap[b]?):Gr P k w' b n g:=by
 obtain⟨D,⟨es,clock,hb,r⟩,h2⟩:=h;exact⟨D,⟨es,clock,hb'.trans hb,r⟩,h2⟩
theorem Gr.lt(h:Gr P k w b n g):b<w.heap.size:=by
 obtain⟨D,h,_⟩:=h;exact h.lt
theorem Gr.made(w:World):Gr P k (w.alloc (.map #[] 0)) w.heap.size 0 (λ _=>none):=⟨_,World.ownsMap_made _ _ _ _,Maps.tidy_empty,λ x=>⟨rfl,rfl⟩⟩
theorem WV(hk:P.underlying k=some (.int .i64)){i:Int}(hi : -9223372036854775808<=i/\i<=9223372036854775807):keyOf P k (.int .i64 i)=some (.int .i64 i) :=
 Maps.keyOf_int_mk hk ((Lit.wf_int_iff _ _).2 ⟨hi.1,hi.2⟩)
theorem Gr.put(h:Gr P k w b n g)(hk:P.underlying k=some (.int .i64))(ht:P.underlying t=some (.map k e))(hn:n<maxLen){i:Int}(hi : -9223372036854775808<=i/\i<=9223372036854775807)(x:Tri)
  {f:World->Prop} (hf:∀ w',Ak (·=b) w w'->Gr P k w' b (n+1) (λ y=>if y=i then some x else g y)->f w'):ZD P (Instr.mapUpdate t (.map (some b)) (.int .i64 i) (QX x)) f w:=by
 obtain⟨D,hD,hT,hg⟩:=h;obtain⟨w',aG,dq,cA⟩:=hD.update (Maps.int_keyed hk) ht hn (WV hk hi) (Xi x);unfold ZD;rw [aG];have aO:WideAt.IsKeyLit (.int .i64 i):=by simp [WideAt.IsKeyLit]
 refine hf w' (.of_grownBy cA) ⟨_,dq,hT.put aO _,λ y=>?_⟩;by_cases hx:y=i
 ·subst hx;simp only [if_true];exact⟨Maps.has_put_same hT.isMap aO _,Maps.atKey_put_same hT.isMap aO _ _⟩
 ·have aQ:Lit.int .i64 y≠.int .i64 i:=λ e=>hx (by injection e);simp only [hx,if_false];exact⟨(Maps.has_put_other aQ _).trans (hg y).1,(Maps.atKey_put_other aQ _ _).trans (hg y).2⟩
theorem Gr.get(h:Gr P k w b n g)(hk:P.underlying k=some (.int .i64))(ht:P.underlying t=some (.map k e))(hz:(zeroValue e).run P w=.ok (QX (0,0,0)) w){i:Int}(hi : -9223372036854775808<=i/\i<=9223372036854775807)
  {f:Value->World->Prop} (hf:f (QX ((g i).getD (0,0,0))) w):De P (Instr.lookup t (.map (some b)) (.int .i64 i) false) f w:=by
 obtain⟨D,hD,hT,hg⟩:=h;obtain⟨v,ps,aG,hv⟩:=hD.lookup (Maps.int_keyed hk) ht hz (Xi (0,0,0)) (WV hk hi);obtain⟨o,rfl,ho⟩:=Zl hv;have h2:=(hg i).2;rw [show D.atKey (.int .i64 i) (Sj (0,0,0))=Sj o from ho] at h2;obtain rfl:=Zk h2;unfold De;rw [aG];exact hf
theorem Gr.Aha(h:Gr P k w b n g)(hk:P.underlying k=some (.int .i64))(ht:P.underlying t=some (.map k e))(hz:(zeroValue e).run P w=.ok (QX (0,0,0)) w){i:Int}(hi : -9223372036854775808<=i/\i<=9223372036854775807)
  {f:Value->World->Prop} (hf:f (.tuple #[QX ((g i).getD (0,0,0)),.bool (g i).isSome]) w):De P (Instr.lookup t (.map (some b)) (.int .i64 i) true) f w:=by
 obtain⟨D,hD,hT,hg⟩:=h;obtain⟨v,ps,aG,hv⟩:=hD.look_ok (Maps.int_keyed hk) ht hz (Xi (0,0,0)) (WV hk hi);obtain⟨o,rfl,ho⟩:=Zl hv;have h2:=(hg i).2;rw [show D.atKey (.int .i64 i) (Sj (0,0,0))=Sj o from ho] at h2;obtain rfl:=Zk h2;unfold De;rw [aG,(hg i).1];exact hf
theorem Gr.keys(h:Gr P k w b n g)(hk:P.underlying k=some (.int .i64)):∃ D:DataW Unit,w.ownsMap P k AcU b n D/\Maps.size D<=n/\(intKeys D).length=Maps.size D/\(intKeys D).Nodup/\∀ x,x∈intKeys D↔(g x).isSome=true:=by
 obtain⟨D,hD,hT,hg⟩:=h;obtain⟨es,e1,hpw⟩:=hT;obtain⟨es',gA,iR⟩:=hD.keysOf;obtain rfl:es=es':=by rw [e1] at gA;simpa using gA
 have hint:∀ p∈es,∃ x,p.1=.int .i64 x:=λ p hp=>by obtain⟨v,hv⟩:=iR p hp;obtain⟨x,_,hx,_⟩:=Maps.keyOf_i64 hk hv;exact⟨x,hx⟩
 refine⟨D,hD,hD.size_le,by rw [e1];simp [intKeys,Maps.size],?_,λ x=>?_⟩
 ·rw [e1];show (es.map λ p=>intOf p.1).Nodup;refine List.pairwise_map.2 (hpw.imp_of_mem λ {p r} hp' lH aQ e=>aQ ?_);obtain⟨a,ha⟩:=hint p hp';obtain⟨c,hc⟩:=hint r lH;rw [ha,hc] at e ⊢;exact congrArg _ e
 ·rw [<- (hg x).1,e1,Maps.has_eq,List.any_eq_true];show x∈es.map (λ p=>intOf p.1)↔_;rw [List.mem_map];constructor
  ·rintro⟨p,hp',rfl⟩;obtain⟨a,ha⟩:=hint p hp';exact⟨p,hp',by rw [ha];simp [Lit.sameKey,intOf]⟩
  ·rintro⟨p,hp',hs⟩;obtain⟨a,ha⟩:=hint p hp';rw [ha] at hs;exact⟨p,hp',by rw [ha];simpa [Lit.sameKey,intOf] using hs⟩
theorem Gr.len(h:Gr P k w b n g)(hk:P.underlying k=some (.int .i64))(ht:P.underlying t=some (.map k e))(ty:TypeId){ks:List Int}(hn:ks.Nodup)(hm:∀ x,x∈ks↔(g x).isSome=true) :
  (Builtin.len_ #[t] ty #[.map (some b)]).run P w=.ok (.int .i64 (ks.length:Int)) w:=by
 obtain⟨D,hD,_,hl,hd,aV⟩:=h.keys hk;have e1:=hD.len ht ty;rw [<- hl] at e1;have hp:ks.Perm (intKeys D):=(List.perm_ext_iff_of_nodup hn hd).2 λ x=>(hm x).trans (aV x).symm;rw [hp.length_eq];exact e1
end
/-! ## Among a function's own things -/
def It.US(P:Program)(k:TypeId)(b n:Nat)(g:Int->Option Tri):It where
 CA:=some b
 ok:=λ w=>Gr P k w b n g
 st:=λ w w' h h0=>h0.same (h b rfl)
 lt:=λ w h k hk=>by cases hk;exact h.lt
section
variable {P:Program}{k e t:TypeId}{w0 w:World}{H:List It}{b n:Nat}{g:Int->Option Tri}
theorem ST.Afx(S:ST w0 w H)(t:TypeId){f:Value->World->Prop}(hf:∀ b w',ST w0 w' (It.US P k b 0 (λ _=>none) :: H)->w.heap.size<=b->f (.map (some b)) w')(aG:(Instr.makeMap t none).run P w=.ok (.map (some w.heap.size)) (w.alloc (.map #[] 0))):De P (Instr.makeMap t none) f w:=by
 unfold De;rw [aG];exact hf _ _ (S.add ((Below.refl _ w).alloc (Ain _) _) (It.US P k w.heap.size 0 _) (Gr.made w) (λ k hk=>by cases hk;exact Ain _)) (Ain _)
theorem ST.AfZ(S:ST w0 w H)(i:Nat)(hi:H[i]?=some (It.US P k b n g))(hk:P.underlying k=some (.int .i64))(ht:P.underlying t=some (.map k e))(hn:n<maxLen){j:Int}(hj : -9223372036854775808<=j/\j<=9223372036854775807)(x:Tri)
  {f:World->Prop} (hf:∀ w',ST w0 w' (H.set i (It.US P k b (n+1) (λ y=>if y=j then some x else g y)))->f w'):ZD P (Instr.mapUpdate t (.map (some b)) (.int .i64 j) (QX x)) f w :=
 Gr.put (S.get i hi) hk ht hn hj x λ w' K h=>hf w' (S.H7 i hi (K.mono λ k _ h=>by subst h;rfl) _ h (λ k hk=>.inl hk))
theorem ST.Ahg(S:ST w0 w H)(i:Nat)(hi:H[i]?=some (It.US P k b n g))(hk:P.underlying k=some (.int .i64))(ht:P.underlying t=some (.map k e))(hz:(zeroValue e).run P w=.ok (QX (0,0,0)) w){j:Int}(hj : -9223372036854775808<=j/\j<=9223372036854775807)
  {f:Value->World->Prop} (hf:f (QX ((g j).getD (0,0,0))) w):De P (Instr.lookup t (.map (some b)) (.int .i64 j) false) f w:=Gr.get (S.get i hi) hk ht hz hj hf
theorem ST.Aa8(S:ST w0 w H)(i:Nat)(hi:H[i]?=some (It.US P k b n g))(hk:P.underlying k=some (.int .i64))(ht:P.underlying t=some (.map k e))(hz:(zeroValue e).run P w=.ok (QX (0,0,0)) w){j:Int}(hj : -9223372036854775808<=j/\j<=9223372036854775807)
  {f:Value->World->Prop} (hf:f (.tuple #[QX ((g j).getD (0,0,0)),.bool (g j).isSome]) w):De P (Instr.lookup t (.map (some b)) (.int .i64 j) true) f w:=Gr.Aha (S.get i hi) hk ht hz hj hf
end
end Go.Dn
namespace Go.Proofs.YtpnaifmmggnimaaGreatDoor
open _root_.Int renaming toNat_natCast -> Ait
set_option maxRecDepth 100000
open Go.Dn Go.Proofs
set_option linter.unusedVariables false
def AgD(x:Nat × Nat × Nat):Tri:=((x.1:Int),(x.2.1:Int),(x.2.2:Int))
def Su(k:List Fg)(i:Int):Option Tri:=if i<0 then none else (mapOf k i.toNat).map AgD
theorem Afg:Su []=λ _=>none:=by
 funext i;unfold Su;split <;> rfl
theorem Aa0(k:List Fg)(i:Nat):Su k (i:Int)=(mapOf k i).map AgD:=by
 unfold Su;rw [if_neg Omg,Ait]
theorem Yd(k:List Fg)(c:Fg):Su (k++[c])=λ y=>if y=(c.1:Int) then some (AgD c.2) else Su k y:=by
 funext y;unfold Su;rw [Jk];by_cases h:y<0
 ·rw [if_pos h,if_neg Omg,if_pos h]
 ·rw [if_neg h,if_neg h];by_cases h2:y=(c.1:Int)
  ·rw [if_pos Omg,if_pos h2];rfl
  ·rw [if_neg Omg,if_neg h2]
theorem OA{k:List Fg}{i:Int}:(Su k i).isSome=true↔0<=i/\(mapOf k i.toNat).isSome=true:=by
 unfold Su;split
 ·simp;omega
 ·rw [Option.isSome_map];constructor
  ·intro h;exact⟨Omg,h⟩
  ·intro h;exact h.2
theorem AdX{k:List Fg}{ss:List Int}(hs:ss.Pairwise (·<·))(hm:∀ x,x∈ss↔(Su k x).isSome=true):∃ ids:List Nat,ss=ids.map (λ i:Nat=>(i:Int))/\ids.Pairwise (·<·)/\∀ i,i∈ids↔(mapOf k i).isSome=true:=by
 have h0:∀ x∈ss,0<=x:=λ x hx=>(OA.1 ((hm x).1 hx)).1;have e:ss=(ss.map Int.toNat).map (λ i:Nat=>(i:Int)):=by
  rw [List.map_map]
  conv=>lhs;rw [<- List.map_id ss]
  refine List.map_congr_left λ x hx=>?_;have:=h0 x hx;simp only [id,Function.comp];omega
 refine⟨ss.map Int.toNat,e,?_,λ i=>?_⟩
 ·rw [List.pairwise_map];refine hs.imp_of_mem λ {a b} ha hb fM=>?_;have:=h0 a ha;have:=h0 b hb;omega
 ·constructor
  ·intro hi;obtain⟨x,hx,rfl⟩:=List.mem_map.1 hi;exact (OA.1 ((hm x).1 hx)).2
  ·intro hi;refine List.mem_map.2 ⟨(i:Int),(hm _).2 (OA.2 ⟨Omg,by rw [Ait];exact hi⟩),Ait i⟩
theorem AcN{ss:List Int}(h:ss.Nodup):(ss.mergeSort leI).Pairwise (·<·)/\∀ x,x∈ss.mergeSort leI↔x∈ss:=by
 have tr:∀ a b c:Int,leI a b=true->leI b c=true->leI a c=true:=λ a b c h1 h2=>by simp only [leI,decide_eq_true_eq] at *;exact Int.le_trans h1 h2
 have to:∀ a b:Int,(leI a b || leI b a)=true:=λ a b=>by simp only [leI,Bool.or_eq_true,decide_eq_true_eq];exact Int.le_total a b
 have hp:=List.mergeSort_perm ss leI;refine⟨?_,λ x=>hp.mem_iff⟩;have h1:=List.pairwise_mergeSort tr to ss;have h2:(ss.mergeSort leI).Nodup:=hp.nodup_iff.2 h;refine (List.Pairwise.and h1 h2).imp λ {a b} fM=>?_;have:=fM.1;simp only [leI,decide_eq_true_eq] at this;have:=fM.2;omega
end Go.Proofs.YtpnaifmmggnimaaGreatDoor
namespace Go.Proofs.YtpnaifmmggnimaaGreatDoor
open R
open _root_.Go.Proofs.Tryz renaming prog -> Aix
open _root_.Int renaming toNat_natCast -> Ait
open _root_.List.Perm renaming cons -> Aka
open _root_.List renaming length_cons -> Ais, map_cons -> Aj5, mem_cons -> Aia, take_succ_eq_append_getElem -> Ajl
set_option maxRecDepth 100000
open Go.Dn Go.Proofs
open Go.RowKit (Below)
set_option linter.unusedVariables false
theorem Ab4(e:Int)(w:World):Cw 34 #[.int .i64 e] w λ v w'=>v=.tuple #[.agg #[.int .i64 e,.int .i64 0],.slice none 0 0]/\Below w.heap.size w w':=by
 apply Kf
 delta A Ab E H I Li N O Am;try dsimp only [Ps]
 exact (ST.start w).An λ b2 w1 _ _ S=>S.BD 0 rfl (aC:=#[.int .i64 e,.int .i64 0]) Osi rfl λ w2 S=>S.BD 0 rfl (aC:=#[.int .i64 e,.int .i64 0]) Osi rfl λ w3 S=>⟨_,S.cell 0 rfl rfl,_,S.cell 0 rfl rfl,rfl,S.Ar⟩
def Qr(p:FG):List Value:=[.string p.1,.int .i64 (p.2:Int)]
def Bw(ps:List FG):List Value:=ps.flatMap Qr
theorem Es(ps:List FG):(Bw ps).length=ps.length*2:=by
 induction ps with
 | nil=>rfl
 | cons p ps ih =>
  show (Qr p++Bw ps).length=_;rw [List.length_append,ih,Ais];simp only [Qr,Ais,List.length_nil];omega
theorem YH(ps:List FG)(i j:Nat)(hi:i<ps.length)(hj:j<2):(Bw ps)[i*2+j]?=(Qr ps[i])[j]?:=by
 induction ps generalizing i with
 | nil=>simp at hi
 | cons p ps ih =>
  show (Qr p++Bw ps)[_]?=_;cases i with
  | zero=>rw [Nat.zero_mul,Nat.zero_add,List.getElem?_append_left (by simp [Qr];omega)];rfl
  | succ i =>
   rw [List.getElem?_append_right (by simp [Qr];omega)];rw [show (i+1)*2+j-(Qr p).length=i*2+j by simp [Qr];omega,ih i (by simpa using hi)];rfl
def EO(a:Option Addr)(c:Nat)(ps:List FG):It:=It.row 49 2 a ps.length c (Bw ps)
theorem Rq:Me Aix 28=some (49,2,24,.agg #[.string ⟨#[]⟩,.int .i64 0]):=by kernel_rfl
section
variable {w0 w:World}{H:List It}{a a2:Option Addr}{c c2:Nat}
theorem KX{ps:List FG}(hl:Rd w a (Bw ps)){i:Nat}(hi:i<ps.length):∃ p,a=some p/\w.cell? (p.add (i*2))=some (.string ps[i].1)/\w.cell? ((p.add (i*2)).add 1)=some (.int .i64 (ps[i].2:Int)):=by
 obtain⟨p,hp,h0⟩:=hl (i*2+0) _ (by rw [YH ps i 0 hi Omg];rfl);obtain⟨p1,hp1,h1⟩:=hl (i*2+1) _ (by rw [YH ps i 1 hi Omg];rfl);rw [hp] at hp1;cases hp1;exact⟨p,hp,h0,by rw [BJ];exact h1⟩
theorem QU(S:ST w0 w H){n:Nat}{ps:List FG}(hn:H[n]?=some (EO a c ps)){p:FG}{b:Nat}(hs:Rd w (some ⟨b,0,none⟩) (Qr p))(hl:ps.length+1<=1000000){f:Value->World->Prop}
  (hf:∀ a' c' w',ST w0 w' (H.set n (EO a' c' (ps++[p])))->f (.slice a' (ps++[p]).length c') w') :
  De Aix (Builtin.append_ #[28,28] 28 #[.slice a ps.length c,.slice (some ⟨b,0,none⟩) 1 1]) f w:=by
 refine S.app n hn Rq rfl Omg Omg hs (mm:=1) rfl (by simp [Qr];exact⟨rfl,rfl⟩) Omg λ a' c' w' S'=>?_;have e1:(ps++[p]).length=ps.length+1:=Osi;have e2:Bw ps++Qr p=Bw (ps++[p]):=by simp [Bw]
 rw [e2] at S';have:=hf a' c' w' (by unfold EO;rw [e1];exact S');rwa [e1] at this
theorem JQ{ls ms:List Bv}(hl:Rd w a (BF ls))(hm:Rd w a2 (BF ms))(hn:ls.length<=9223372036854775807) :
  Cw 78 #[.slice a ls.length c,.slice a2 ms.length c2] w λ v w'=>Below w.heap.size w w'/\v=.bool (decide (ls=ms)):=by
 apply Ea
 delta D F G I Lb Li Lt Qi W X;try dsimp only [Ps]
 refine Ai (λ h=>⟨.refl _ _,?_⟩) (λ hlen=>?_)
 ·congr 1;rw [eq_comm,decide_eq_false_iff_not];rintro rfl;exact h rfl
 have bN:ls.length=ms.length:=Omg;refine⟨λ s w1=>∃ i:Nat,i<=ls.length/\s=[.int .i64 (i:Int)]/\Below w.heap.size w w1/\ls.take i=ms.take i,λ s _=>match s with
   | [.int _ i]=>ls.length-i.toNat
   | _=>0,⟨0,Omg,rfl,.refl _ _,rfl⟩,?_⟩
 rintro _ w1 ⟨i,hi,hs,B1,hT⟩;cases hs;refine Aa (λ aB=>?_) (λ aJ=>⟨B1,?_⟩)
 ·have h1:i<ls.length:=Omg;have h2:i<ms.length:=Omg;refine (SH.start (λ _=>False) w1).EL λ w2 B2 _=>⟨⟨Omg,aB⟩,?_⟩;have C2:=Ac B1 B2;obtain⟨p1,rfl,c0,c1,c2⟩:=Fq (hl.grown C2) h1;obtain⟨p2,rfl,d0,d1,d2⟩:=Fq (hm.grown C2) h2;refine⟨⟨Omg,Omg⟩,_,by rw [Ait];exact c0,_,by rw [Ait];exact c1,_,by rw [Ait];exact c2,_,by rw [Ait];exact d0,_,by rw [Ait];exact d1,_,by rw [Ait];exact d2,?_⟩;rw [AaT];refine As (Aa (λ he=>?_) (λ he=>⟨C2,?_⟩))
  ·rw [Ae Omg];refine⟨⟨i+1,Omg,rfl,C2,?_⟩,?_⟩
   ·rw [Ajl h1,Ajl h2,hT,he]
   ·simp only [Ait];omega
  ·congr 1;rw [eq_comm,decide_eq_false_iff_not];rintro rfl;exact he rfl
 ·congr 1;rw [eq_comm,decide_eq_true_eq];rw [List.take_of_length_le Omg,List.take_of_length_le Omg] at hT;exact hT
def Bc(ps:List FG):Nat:=(ps.map (·.2)).sum
theorem Hy(ps:List FG)(p:FG):Bc (ps++[p])=Bc ps+p.2:=by simp [Bc]
theorem Ld{ps:List FG}(h:∀ p∈ps,p.2<=1024):Bc ps<=ps.length*1024:=by
 induction ps with
 | nil=>simp [Bc]
 | cons p ps ih =>
  have h1:=h p Osi;have h2:=ih λ x hx=>h x (by simp [hx]);simp only [Bc,Aj5,List.sum_cons,Ais] at h2 ⊢;omega
theorem WW{ps:List FG}(hl:Rd w a (Bw ps))(hn:ps.length<=1000)(h:∀ p∈ps,p.2<=1024):Cw 81 #[.slice a ps.length c] w λ v w'=>v=.int .i64 (Bc ps:Int)/\Below w.heap.size w w':=by
 apply MN
 delta A Ab F I Li Lt N MH Am T W X;try dsimp only [Ps]
 refine⟨λ s w1=>∃ i:Nat,s=[.int .i64 (Bc (ps.take i):Int),.int .i64 (i:Int)]/\i<=ps.length/\ST w w1 [],λ s _=>match s with
   | [_,.int _ i]=>ps.length-i.toNat
   | _=>0,⟨0,rfl,Omg,ST.start w⟩,?_⟩
 rintro _ _ w1 ⟨i,hs,hi,S⟩;cases hs;refine Aa (λ aB=>?_) (λ aJ=>?_)
 ·have aD:i<ps.length:=Omg;obtain⟨p,rfl,c0,c1⟩:=KX (hl.grown S.Ar) aD;refine⟨⟨Omg,Omg⟩,_,by rw [Ait];exact c0,_,by rw [Ait];exact c1,S.An λ b8 w2 _ _ S=>S.BD 0 rfl (aC:=#[.string ps[i].1,.int .i64 0]) Osi rfl λ w3 S=>S.BD 0 rfl (aC:=#[.string ps[i].1,.int .i64 (ps[i].2:Int)]) Osi rfl λ w4 S=>⟨_,S.cell 0 rfl rfl,?_⟩⟩;have h1:=Ld (ps:=ps.take i) λ p hp=>h p (List.mem_of_mem_take hp);have h2:=h ps[i] (List.getElem_mem aD);rw [List.length_take] at h1;have e:Bc (ps.take (i+1))=Bc (ps.take i)+ps[i].2:=by rw [Ajl aD,Hy]
  have ew:IntKind.i64.wrap ((Bc (ps.take i):Int)+(ps[i].2:Int))=(Bc (ps.take (i+1)):Int):=by rw [wrap_i64 Omg Omg,e];omega
  rw [ew,Ae Omg];exact⟨⟨i+1,rfl,Omg,S.drop 1⟩,by simp only [Ait];omega⟩
 ·obtain rfl:i=ps.length:=Omg;rw [List.take_length];exact⟨rfl,S.Ar⟩
end
structure Bq where
 Ay:List Bv
 parts:List FG
 k:List Fg
def Bh(bc:Nat)(ca:Option Addr)(cc:Nat)(pa:Option Addr)(pc bm n:Nat)(C:Bq):List It :=
 [It.cells bc #[.slice ca C.Ay.length cc,.slice pa C.parts.length pc,.map (some bm)] 73,CD ca cc C.Ay,EO pa pc C.parts,It.US Aix 2 bm n (Su C.k)]
structure Iv(C:Bq):Prop where
 np:C.parts.length<=256
 parts:∀ p∈C.parts,SS p
 CC:∀ c∈C.k,GF c
 Ay:C.Ay=[]\/Ao C.Ay=true
abbrev H5:=ByteArray × ByteArray
def A5(fs:List H5):List Value:=fs.flatMap λ f=>[.string f.1,.string f.2]
def AaY(d:Nat × Nat)(fa:Option Addr)(fs:List H5):Value:=.tuple #[.agg #[.int .i64 (d.1:Int),.int .i64 (d.2:Int)],.slice fa fs.length fs.length]
def Rz(C:Bq)(cs:List Bv)(rows:List (List AD))(d:Nat × Nat)(fs:List H5)(C':Bq):Prop :=
 (cs≠C.Ay/\d=(50,0)/\fs=[]/\C'=C)\/(cs=C.Ay/\C.parts.length=256/\d=(130,0)/\fs=[]/\C'=C) \/
  (cs=C.Ay/\C.parts.length<256/\∃ b,Ej cs rows b/\C'={ C with parts:=C.parts++[(EZ (Bu b),rows.length)] }/\d=(0,Bc C'.parts)/\fs=[(EZ (Bu b),Bu b)])
def Ac2(w0:World)(H:List It)(bc:Nat)(ca:Option Addr)(cc:Nat)(bm n:Nat)(R:Nat × Nat->List H5->Bq->Prop)(v:Value)(w':World):Prop :=
 ∃ d fs C' fa pa pc,R d fs C'/\v=AaY d fa fs/\ST w0 w' (It.rd fa (A5 fs) :: (Bh bc ca cc pa pc bm n C'++H))
section
variable {w0 w:World}{H:List It}{a a2:Option Addr}{c c2:Nat}
theorem DY(S:ST w0 w H):ST w0 w (It.rd none (A5 []) :: H):=S.add (.refl _ _) _ (Rd.nil _ _) (λ k hk=>by cases hk)
theorem D3{K:Value->World->Prop}{b:Nat}{u v:Value}(S:ST w0 w (It.cells b #[u,v] 40 :: H))(e:Int)(hk:∀ w',ST w0 w' H->K (.tuple #[.agg #[.int .i64 e,.int .i64 0],.slice none 0 0]) w') :
  Calls Aix 34 #[.int .i64 e] w (λ x w'=>∃ p:Int,∃ q:Int,∃(r:Option Addr) (rl rc:Nat),x=.returned (.tuple #[.agg #[.int .i64 p,.int .i64 q],.slice r rl rc]) /\
   DG ⟨b,0,none⟩ (.int .i64 p) (λ w=>DG ⟨b,1,none⟩ (.int .i64 q) (λ w=>∃ p':Int,w.cell? ⟨b,0,none⟩=some (.int .i64 p')/\∃ q':Int,w.cell? ⟨b,1,none⟩=some (.int .i64 q')/\K (.tuple #[.agg #[.int .i64 p',.int .i64 q'],.slice r rl rc]) w) w) w'):=by
 refine (Ab4 e w).mono ?_;rintro _ w1 ⟨_,rfl,rfl,B⟩;have S:=S.grown B;exact⟨_,_,_,_,_,rfl,S.BD 0 rfl (aC:=#[.int .i64 e,v]) Osi rfl λ w2 S=>S.BD 0 rfl (aC:=#[.int .i64 e,.int .i64 0]) Osi rfl λ w3 S=>⟨_,S.cell 0 rfl rfl,_,S.cell 0 rfl rfl,hk _ (S.drop 1)⟩⟩
set_option maxHeartbeats 1000000 in
theorem Agc(T:Hb w0){bc bm n cc pc:Nat}{ca pa:Option Addr}{C:Bq}(S:ST w0 w (Bh bc ca cc pa pc bm n C++H))(hC:Iv C){cs:List Bv}(aj:Rd w a (BF cs))(hn:cs.length<=9223372036854775807)(hq:∀ c∈cs,c.1.size<=9223372036854775807)
  {ps:List BH} (hr:A9 w a2 ps) (aK:Br cs (rws ps)) :
  Calls Aix 73 #[.pointer (some ⟨bc,0,none⟩),.slice a cs.length c,.slice a2 ps.length c2] w (SV (Ac2 w0 H bc ca cc bm n (Rz C cs (rws ps)))):=by
 apply HI
 delta A Ab A6 H3 Cb Ci Ct D E F H I J Ks Li Ls Lt N S Am T;try dsimp only [Ps]
 have hB0:∀ {wx:World},Below w.heap.size w wx->Below w.heap.size w wx:=λ h=>h;refine S.An λ b4 w1 _ B1 S=>⟨_,_,_,S.cell 1 rfl rfl,?_⟩;refine (JQ (aj.grown B1) (S.rd 2 rfl) hn).mono ?_;rintro _ w2 ⟨_,rfl,B2,rfl⟩;have S:=S.grown B2;have C2:=Ac B1 B2;have aP:∀(e:Nat) {wx:World},Rz C cs (rws ps) (e,0) [] C->ST w0 wx (Bh bc ca cc pa pc bm n C++H)->Ac2 w0 H bc ca cc bm n (Rz C cs (rws ps)) (.tuple #[.agg #[.int .i64 (e:Int),.int .i64 0],.slice none 0 0]) wx:=λ e wx hA S =>
  ⟨(e,0),[],C,none,pa,pc,hA,rfl,DY S⟩
 refine⟨_,rfl,As (Aa (λ he=>?_) (λ he=>D3 (K:=Ac2 w0 H bc ca cc bm n (Rz C cs (rws ps))) S 50 λ w' S=>aP 50 (.inl ⟨he,rfl,rfl,rfl⟩) S))⟩;refine⟨_,_,_,S.cell 1 rfl rfl,Ap (λ h=>D3 (K:=Ac2 w0 H bc ca cc bm n (Rz C cs (rws ps))) S 130 λ w' S=>aP 130 (.inr (.inl ⟨he,Omg,rfl,rfl,rfl⟩)) S) (λ h=>?_)⟩;have iw:=hC.np;have aB:C.parts.length<256:=Omg;refine (IP (c:=c) (c2:=c2) (T.grown S.Ar) (aj.grown C2) hn hq (hr.grown C2) (by have:=aK.len;simp only [rws,List.length_map] at this;omega) aK.ok).mono ?_;rintro _ w9 ⟨_,rfl,hV,B9⟩;have S:=S.grown B9;rcases hV with ⟨aP,_⟩ | ⟨_,bb,rfl,hI⟩
 ·exact absurd aK aP
 have an:=hI.len aK;refine⟨_,_,rfl,(Gy (T.grown S.Ar) (Bu bb) (by rw [AP];omega)).mono ?_⟩;rintro _ bX ⟨_,rfl,rfl,bu⟩;have S:=S.grown bu;obtain⟨nm,cB⟩:∃ nm,nm=EZ (Bu bb):=⟨_,rfl⟩;obtain⟨dt,hdt⟩:∃ dt,dt=Bu bb:=⟨_,rfl⟩;rw [<- hdt] at cB ⊢;rw [<- cB];refine⟨_,rfl,S.An λ mX aZ _ _ S=>S.BD 0 rfl (aC:=#[.string nm,.string ⟨#[]⟩]) Osi rfl λ bL S=>S.BD 0 rfl (aC:=#[.string nm,.string dt]) Osi rfl λ al S=>S.draw λ au _ S =>
  ⟨_,_,_,S.cell 2 rfl rfl,_,S.cell 0 rfl rfl,S.An λ pY ah _ _ S=>⟨S.cell 3 rfl rfl,?_⟩⟩⟩
 refine QU S (n:=5) rfl (p:=(nm,ps.length)) (S.F0 0 rfl) Omg λ a' c' cd S=>⟨_,_,_,rfl,?_⟩;obtain⟨bC,hps'⟩:∃ bC,bC=C.parts++[(nm,ps.length)]:=⟨_,rfl⟩;rw [<- hps'] at S ⊢;have bM:bC.length=C.parts.length+1:=by rw [hps'];simp
 have oC:∀ p∈bC,p.2<=1024:=λ p hp=>by
  rw [hps'] at hp;rcases List.mem_append.1 hp with h | h
  ·exact (hC.parts p h).2.2
  ·rw [List.mem_singleton.1 h];have:=aK.len;simpa [rws] using this
 refine S.BD 3 rfl (i:=1) (aC:=#[.slice ca C.Ay.length cc,.slice a' bC.length c',.map (some bm)]) Osi rfl λ cF S=>S.draw λ fG _ S=>?_;have dB:∀ {wx:World} {bf:Nat} {X Y Z:It},ST w0 wx (It.cells bf #[.string nm,.string dt] 85 :: X :: Y :: Z :: (Bh bc ca cc a' c' bm n { C with parts:=bC }++H)) ->
   Ac2 w0 H bc ca cc bm n (Rz C cs (rws ps)) (.tuple #[.agg #[.int .i64 0,.int .i64 (Bc bC:Int)],.slice (some ⟨bf,0,none⟩) 1 1]) wx:=λ {wx bf X Y Z} S =>
  ⟨(0,Bc bC),[(nm,dt)],{ C with parts:=bC },some ⟨bf,0,none⟩,a',c',.inr (.inr ⟨he,aB,bb,hI,by rw [<- hdt,<- cB,hps'];simp [rws],rfl,by rw [<- hdt,<- cB]⟩),rfl,
   (S.H7 0 rfl (.refl _ _) (It.rd (some ⟨bf,0,none⟩) (A5 [(nm,dt)])) (S.F0 0 rfl) (λ k hk=>.inl hk)).keep 3⟩
 refine⟨_,_,_,S.cell 3 rfl rfl,_,S.cell 1 rfl rfl,_,S.cell 1 rfl rfl,?_,?_⟩
 ·refine (WW (ps:=bC) (S.rd 5 rfl) Omg oC).mono ?_;rintro _ gb ⟨_,rfl,rfl,pQ⟩;have S:=S.grown pQ;refine⟨_,rfl,⟨S.cell 1 rfl rfl,S.cell 1 rfl rfl⟩,?_,?_⟩
  ·exact S.An λ b42 eT _ _ S=>S.BD 3 rfl (aC:=#[.int .i64 0,.int .i64 0]) Osi rfl λ gG S=>S.BD 3 rfl (aC:=#[.int .i64 0,.int .i64 (Bc bC:Int)]) Osi rfl λ gd S=>⟨_,S.cell 3 rfl rfl,_,S.cell 3 rfl rfl,dB S⟩
  ·exact S.BD 2 rfl (aC:=#[.int .i64 0,.int .i64 0]) Osi rfl λ fN S=>S.BD 2 rfl (aC:=#[.int .i64 0,.int .i64 (Bc bC:Int)]) Osi rfl λ du S=>⟨⟨S.cell 1 rfl rfl,S.cell 1 rfl rfl⟩,S.An λ y7 eA _ _ S=>⟨_,S.cell 3 rfl rfl,_,S.cell 3 rfl rfl,dB S⟩⟩
 ·refine S.An λ b48 ie _ _ S=>⟨S.cell 4 rfl rfl,(WW (ps:=bC) (S.rd 6 rfl) Omg oC).mono ?_⟩;rintro _ lS ⟨_,rfl,rfl,od⟩;have S:=S.grown od;exact⟨_,rfl,S.BD 3 rfl (aC:=#[.int .i64 0,.int .i64 0]) Osi rfl λ oZ S=>S.BD 3 rfl (aC:=#[.int .i64 0,.int .i64 (Bc bC:Int)]) Osi rfl λ kV S=>⟨_,S.cell 3 rfl rfl,_,S.cell 3 rfl rfl,dB S⟩⟩
end
def Hk:List Fg->List Nat
 | []=>[]
 | c :: k=>if c.1∈Hk k then Hk k else c.1 :: Hk k
theorem EA:∀(k:List Fg) (i:Nat),i∈Hk k↔i∈k.map (·.1)
 | [],i=>by simp [Hk]
 | c :: k,i=>by
  have ih:=EA k;unfold Hk;split
  ·rename_i h;rw [ih i,Aj5,Aia];constructor
   ·exact .inr
   ·rintro (rfl | h2)
    ·exact (ih _).1 h
    ·exact h2
  ·rw [Aia,ih i,Aj5,Aia]
theorem DJ:∀(k:List Fg),(Hk k).Nodup
 | []=>by simp [Hk]
 | c :: k=>by
  unfold Hk;split
  ·exact DJ k
  ·rename_i h;exact List.nodup_cons.2 ⟨h,DJ k⟩
def Iy(k:List Fg):Nat:=(Hk k).length
theorem Jz:Aix.underlying 2=some (.int .i64):=by kernel_rfl
theorem IV:Aix.underlying 71=some (.map 2 99):=by kernel_rfl
theorem Uy(w:World):(zeroValue 99).run Aix w=.ok (QX (0,0,0)) w:=Tryz.zeroValue99 w
def AbD(C:Bq)(cs:List Bv)(d:Nat × Nat)(fs:List H5)(C':Bq):Prop :=
 (C.Ay≠[]/\d=(2,0)/\fs=[]/\C'=C)\/(C.Ay=[]/\d=(0,0)/\fs=[]/\C'={ C with Ay:=cs })
def MG(C:Bq)(id num:Nat)(cs:List Bv)(rows:List (List AD))(d:Nat × Nat)(fs:List H5)(C':Bq):Prop :=
 (∃ t,mapOf C.k id=some t/\t.1=num/\d=t.2/\fs=[]/\C'=C)\/(∃ t,mapOf C.k id=some t/\num<t.1/\d=(2,0)/\fs=[]/\C'=C) \/
  (mapOf C.k id=none/\Iy C.k=64/\d=(130,0)/\fs=[]/\C'=C) \/
  ((∀ t,mapOf C.k id=some t->t.1<num)/\(mapOf C.k id=none->Iy C.k≠64)/\∃ C1,Rz C cs rows d fs C1/\C'={ C1 with k:=C1.k++[(id,num,d)] })
def UD(w0:World)(H:List It)(bc bm N:Nat)(R:Nat × Nat->List H5->Bq->Prop)(v:Value)(w':World):Prop :=
 ∃ d fs C' fa ca cc pa pc n,R d fs C'/\v=AaY d fa fs/\(ca=none↔C'.Ay=[])/\n<=N/\ST w0 w' (It.rd fa (A5 fs) :: (Bh bc ca cc pa pc bm n C'++H))
section
variable {w0 w:World}{H:List It}{bc bm n N cc pc:Nat}{ca pa:Option Addr}{C:Bq}
theorem AdN(k:List Fg)(i:Nat):∃ x y z:Nat,(Su k (i:Int)).getD (0,0,0)=((x:Int),(y:Int),(z:Int))/\(mapOf k i=none/\(Su k (i:Int)).isSome=false\/mapOf k i=some (x,y,z)/\(Su k (i:Int)).isSome=true):=by
 rw [Aa0];cases h:mapOf k i with
 | none=>exact⟨0,0,0,rfl,.inl ⟨rfl,rfl⟩⟩
 | some t=>exact⟨t.1,t.2.1,t.2.2,rfl,.inr ⟨rfl,rfl⟩⟩
theorem AdZ{k:List Fg}(h:Gr Aix 2 w bm n (Su k)){f:Value->World->Prop}(hf:f (.int .i64 (Iy k:Int)) w):De Aix (Builtin.len_ #[71] 3 #[.map (some bm)]) f w:=by
 have:=h.len Jz IV 3 (ks:=(Hk k).map (λ i:Nat=>(i:Int))) (List.pairwise_map.2 ((DJ k).imp λ {a b} fM e=>fM Omg)) (λ x=>by
  rw [List.mem_map,OA];constructor
  ·rintro⟨i,hi,rfl⟩;exact⟨Omg,by rw [Ait];exact DO.2 ((EA k i).1 hi)⟩
  ·rintro⟨h0,h1⟩;exact⟨x.toNat,(EA k _).2 (DO.1 h1),Omg⟩)
 unfold De;rw [this,List.length_map];exact hf
set_option maxHeartbeats 1000000 in
theorem ZS{q0 q1:Nat}{a:Option Addr}{c:Nat}{cs:List Bv}(S:ST w0 w (It.cells q0 #[.pointer (some ⟨bc,0,none⟩)] 24 :: It.cells q1 #[.slice a cs.length c] 27 :: CD a c cs :: (Bh bc ca cc pa pc bm n C++H)))
  (hR:Ao cs=true) (bJ:ca=none↔C.Ay=[]) (hN:n<=N) :
  Calls Aix 70 #[.pointer (some ⟨q0,0,none⟩),.pointer (some ⟨q1,0,none⟩)] w (SV (UD w0 H bc bm N (AbD C cs))):=by
 apply FH
 delta A Ab A6 E F H I Li Lp Ls N O S Am;try dsimp only [Ps]
 refine S.An λ b3 w1 _ _ S=>⟨_,S.cell 1 rfl rfl,_,_,_,S.cell 4 rfl rfl,As (Aq (λ h=>?_) (λ h=>?_))⟩
 ·have hn:ca=none:=by simpa using h
  have iA:=bJ.1 hn;refine⟨_,S.cell 1 rfl rfl,_,_,_,S.cell 2 rfl rfl,S.BD 4 rfl (aC:=#[.slice a cs.length c,.slice pa C.parts.length pc,.map (some bm)]) Osi rfl λ w5 S=>S.BD 0 rfl (aC:=#[.int .i64 0,.int .i64 0]) Osi rfl λ w6 S=>S.BD 0 rfl (aC:=#[.int .i64 0,.int .i64 0]) Osi rfl λ w7 S=>⟨_,S.cell 0 rfl rfl,_,S.cell 0 rfl rfl,?_⟩⟩;have ha:a≠none:=λ h=>by
   have:=(S.rw 3 rfl).2;rcases this with ⟨_,h2,_⟩ | ⟨g,_,h2,_⟩
   ·have:=(AX hR).1;omega
   ·rw [h] at h2;cases h2
  have S:=S.drop 3;have S:ST w0 w7 (Bh bc a c pa pc bm n { C with Ay:=cs }++(CD ca cc C.Ay :: H)):=by
   have S:=S.pull 1 rfl;exact S.perm (Aka _ (Aka _ ((List.Perm.swap _ _ _).trans (Aka _ (List.Perm.swap _ _ _)))))
  have S:ST w0 w7 (Bh bc a c pa pc bm n { C with Ay:=cs }++H):=S.sub ((List.Sublist.refl _).append (List.sublist_cons_self _ _));exact⟨(0,0),[],{ C with Ay:=cs },none,a,c,pa,pc,n,.inr ⟨iA,rfl,rfl,rfl⟩,rfl,⟨λ h=>absurd h ha,λ h=>absurd h (IL hR)⟩,hN,DY S⟩
 ·refine D3 (K:=UD w0 H bc bm N (AbD C cs)) S 2 λ w' S=>?_;have hn:C.Ay≠[]:=λ e=>by rw [bJ.2 e] at h;cases h
  exact⟨(2,0),[],C,none,ca,cc,pa,pc,n,.inl ⟨hn,rfl,rfl,rfl⟩,rfl,bJ,hN,DY (S.drop 3)⟩
end
end Go.Proofs.YtpnaifmmggnimaaGreatDoor
namespace Go.Proofs
open _root_.Go.Proofs.Tryz renaming prog -> Aix
set_option linter.unusedVariables false
set_option maxRecDepth 100000
open Go.RowKit Go.Maps Go.Sort Go.Shelf
def Tryz.TN:Go.Shelf.Ren:=⟨fun | 7=>60 | 10=>105 | n=>n,fun | 23=>71 | 26=>2 | 3=>99 | 28=>106 | 0=>0 | 27=>105 | 33=>155 | 4=>4 | n=>n,fun | n=>n⟩
theorem Tryz.AdW:Go.Proofs.SlLaysZI.n7 Aix Tryz.TN:={
 mixed:=by kernel_rfl
 f7:=⟨Tryz.f60.name,by decide,Tryz.func60.trans (congrArg some (by kernel_rfl))⟩
 f10:=⟨Tryz.f105.name,by decide,Tryz.func105.trans (congrArg some (by kernel_rfl))⟩
 t0:=Tryz.underlying0
 a0:=Tryz.isAgg0
 z0:=Tryz.sizeOf0
 v0:=Tryz.zeroValue0
 t4:=Tryz.underlying4
 a4:=Tryz.isAgg4
 z4:=Tryz.sizeOf4
 v4:=Tryz.zeroValue4
 t23:=Tryz.underlying71
 a23:=Tryz.isAgg71
 z23:=Tryz.sizeOf71
 v23:=Tryz.zeroValue71
 t26:=Tryz.underlying2
 a26:=Tryz.isAgg2
 z26:=Tryz.sizeOf2
 v26:=Tryz.zeroValue2
 t27:=Tryz.underlying105
 a27:=Tryz.isAgg105
 z27:=Tryz.sizeOf105
 v27:=Tryz.zeroValue105
 t28:=Tryz.underlying106
 a28:=Tryz.isAgg106
 z28:=Tryz.sizeOf106
 v28:=Tryz.zeroValue106
 t33:=Tryz.underlying155
 a33:=Tryz.isAgg155
 z33:=Tryz.sizeOf155
 v33:=Tryz.zeroValue155 }
def Tryz.Pn:Go.Shelf.Ren:=⟨fun | 6=>59 | 8=>103 | 9=>104 | 11=>138 | 13=>140 | 12=>139 | 23=>178 | 24=>179 | 14=>169 | 15=>170 | 16=>171 | 17=>172 | 18=>173 | 19=>174 | 20=>175 | 21=>176 | 22=>177 | 25=>211 | 26=>212 | 27=>213 | 28=>214 | 29=>215 | 30=>216 | 31=>250 | n=>n,fun | 26=>2 | 28=>106 | 24=>103 | 0=>0 | 3=>3 | 37=>163 | 48=>184 | 50=>92 | 4=>4 | 40=>236 | 39=>235 | 45=>138 | 5=>5 | 9=>9 | 51=>274 | 55=>278 | 57=>312 | 58=>313 | 33=>155 | n=>n,fun | n=>n⟩
theorem Tryz.Aeu:Go.Proofs.SlLaysZI.n6 Aix Tryz.Pn:={
 mixed:=by kernel_rfl
 f6:=⟨Tryz.f59.name,by decide,Tryz.func59.trans (congrArg some (by kernel_rfl))⟩
 f8:=⟨Tryz.f103.name,by decide,Tryz.func103.trans (congrArg some (by kernel_rfl))⟩
 f11:=⟨Tryz.f138.name,by decide,Tryz.func138.trans (congrArg some (by kernel_rfl))⟩
 t0:=Tryz.underlying0
 a0:=Tryz.isAgg0
 z0:=Tryz.sizeOf0
 v0:=Tryz.zeroValue0
 t24:=Tryz.underlying103
 a24:=Tryz.isAgg103
 z24:=Tryz.sizeOf103
 v24:=Tryz.zeroValue103
 t26:=Tryz.underlying2
 a26:=Tryz.isAgg2
 z26:=Tryz.sizeOf2
 v26:=Tryz.zeroValue2
 t28:=Tryz.underlying106
 a28:=Tryz.isAgg106
 z28:=Tryz.sizeOf106
 v28:=Tryz.zeroValue106
 i26:=by kernel_rfl }
def Tryz.Y2:Go.Shelf.Ren:=⟨fun | 5=>104 | 8=>140 | 7=>139 | 19=>178 | 20=>179 | 10=>169 | 11=>170 | 12=>171 | 13=>172 | 14=>173 | 15=>174 | 16=>175 | 17=>176 | 18=>177 | 30=>211 | 31=>212 | 32=>213 | 33=>214 | 34=>215 | 35=>216 | 40=>250 | n=>n,fun | 23=>103 | 25=>2 | 3=>3 | 32=>163 | 22=>103 | 0=>0 | 44=>184 | 46=>92 | 4=>4 | 36=>236 | 35=>235 | 41=>138 | 5=>5 | 9=>9 | 53=>274 | 57=>278 | 63=>312 | 64=>313 | n=>n,fun | n=>n⟩
theorem Tryz.Abk:Go.Proofs.SlLaysM.n5 Aix Tryz.Y2:={
 mixed:=by kernel_rfl
 f5:=⟨Tryz.f104.name,by decide,Tryz.func104.trans (congrArg some (by kernel_rfl))⟩
 f7:=⟨Tryz.f139.name,by decide,Tryz.func139.trans (congrArg some (by kernel_rfl))⟩
 f8:=Tryz.func140.trans (congrArg some (by kernel_rfl))
 f10:=⟨Tryz.f169.name,by decide,Tryz.func169.trans (congrArg some (by kernel_rfl))⟩
 f11:=⟨Tryz.f170.name,by decide,Tryz.func170.trans (congrArg some (by kernel_rfl))⟩
 f12:=⟨Tryz.f171.name,by decide,Tryz.func171.trans (congrArg some (by kernel_rfl))⟩
 f13:=⟨Tryz.f172.name,by decide,Tryz.func172.trans (congrArg some (by kernel_rfl))⟩
 f14:=⟨Tryz.f173.name,by decide,Tryz.func173.trans (congrArg some (by kernel_rfl))⟩
 f15:=⟨Tryz.f174.name,by decide,Tryz.func174.trans (congrArg some (by kernel_rfl))⟩
 f16:=⟨Tryz.f175.name,by decide,Tryz.func175.trans (congrArg some (by kernel_rfl))⟩
 f17:=⟨Tryz.f176.name,by decide,Tryz.func176.trans (congrArg some (by kernel_rfl))⟩
 f18:=⟨Tryz.f177.name,by decide,Tryz.func177.trans (congrArg some (by kernel_rfl))⟩
 f19:=Tryz.func178.trans (congrArg some (by kernel_rfl))
 f20:=Tryz.func179.trans (congrArg some (by kernel_rfl))
 f30:=⟨Tryz.f211.name,by decide,Tryz.func211.trans (congrArg some (by kernel_rfl))⟩
 f31:=Tryz.func212.trans (congrArg some (by kernel_rfl))
 f32:=Tryz.func213.trans (congrArg some (by kernel_rfl))
 f33:=⟨Tryz.f214.name,by decide,Tryz.func214.trans (congrArg some (by kernel_rfl))⟩
 f34:=⟨Tryz.f215.name,by decide,Tryz.func215.trans (congrArg some (by kernel_rfl))⟩
 f35:=⟨Tryz.f216.name,by decide,Tryz.func216.trans (congrArg some (by kernel_rfl))⟩
 f40:=⟨Tryz.f250.name,by decide,Tryz.func250.trans (congrArg some (by kernel_rfl))⟩
 t0:=Tryz.underlying0
 a0:=Tryz.isAgg0
 z0:=Tryz.sizeOf0
 v0:=Tryz.zeroValue0
 t3:=Tryz.underlying3
 a3:=Tryz.isAgg3
 z3:=Tryz.sizeOf3
 v3:=Tryz.zeroValue3
 t4:=Tryz.underlying4
 a4:=Tryz.isAgg4
 z4:=Tryz.sizeOf4
 v4:=Tryz.zeroValue4
 t5:=Tryz.underlying5
 a5:=Tryz.isAgg5
 z5:=Tryz.sizeOf5
 v5:=Tryz.zeroValue5
 t9:=Tryz.underlying9
 a9:=Tryz.isAgg9
 z9:=Tryz.sizeOf9
 v9:=Tryz.zeroValue9
 t22:=Tryz.underlying103
 a22:=Tryz.isAgg103
 z22:=Tryz.sizeOf103
 v22:=Tryz.zeroValue103
 t23:=Tryz.underlying103
 a23:=Tryz.isAgg103
 z23:=Tryz.sizeOf103
 v23:=Tryz.zeroValue103
 t25:=Tryz.underlying2
 a25:=Tryz.isAgg2
 z25:=Tryz.sizeOf2
 v25:=Tryz.zeroValue2
 t32:=Tryz.underlying163
 a32:=Tryz.isAgg163
 z32:=Tryz.sizeOf163
 v32:=Tryz.zeroValue163
 t35:=Tryz.underlying235
 a35:=Tryz.isAgg235
 z35:=Tryz.sizeOf235
 v35:=Tryz.zeroValue235
 t36:=Tryz.underlying236
 a36:=Tryz.isAgg236
 z36:=Tryz.sizeOf236
 v36:=Tryz.zeroValue236
 t41:=Tryz.underlying138
 a41:=Tryz.isAgg138
 z41:=Tryz.sizeOf138
 v41:=Tryz.zeroValue138
 t44:=Tryz.underlying184
 a44:=Tryz.isAgg184
 z44:=Tryz.sizeOf184
 v44:=Tryz.zeroValue184
 t46:=Tryz.underlying92
 a46:=Tryz.isAgg92
 z46:=Tryz.sizeOf92
 v46:=Tryz.zeroValue92
 t53:=Tryz.underlying274
 a53:=Tryz.isAgg274
 z53:=Tryz.sizeOf274
 v53:=Tryz.zeroValue274
 t57:=Tryz.underlying278
 a57:=Tryz.isAgg278
 z57:=Tryz.sizeOf278
 v57:=Tryz.zeroValue278
 t63:=Tryz.underlying312
 a63:=Tryz.isAgg312
 z63:=Tryz.sizeOf312
 v63:=Tryz.zeroValue312
 t64:=Tryz.underlying313
 a64:=Tryz.isAgg313
 z64:=Tryz.sizeOf313
 v64:=Tryz.zeroValue313 }
theorem Tryz.AfG(m:Nat):AnyZI.SortsIn Aix Tryz.Pn Fence.wide m :=
 ⟨λ CA off cap ss W hH nN ao=>callsIn_wide.2 (AnyM.slices_Sort_int Tryz.Abk CA off cap ss W hH nN ao),
 λ p cap W=>callsIn_wide.2 (AnyM.slices_Sort_int_none Tryz.Abk p cap W)⟩
theorem Tryz.WY(mb:Option Nat)(W:World):CallsIn Fence.wide 5 Aix 60 #[.map mb] W λ e w'=>e=.returned (.func (.func 105) #[] #[.pointer (some ⟨W.heap.size,0,none⟩)])/\w'=W.alloc (.cells #[.map mb] 71) :=
 AnyZI.keys_in Tryz.AdW Fence.wide 5 trivial rfl mb W
set_option maxHeartbeats 1000000 in
theorem Tryz.Ip{H:Type}(b nn:Nat)(D0:DataW H)(R:Value->Option (DataW H × List MemPlace))(w:World)(dq:w.ownsMap Aix 2 R b nn D0)(o5:Maps.size D0<=maxLen)(gN:Maps.size D0*8<=140737488355328) :
  CallsIn Fence.wide 5 Aix 59 #[.func (.func 105) #[] #[.pointer (some ⟨w.heap.size,0,none⟩)]] (w.alloc (.cells #[.map (some b)] 71)) λ e w'=>∃(v:Value) (ss:List Int),e=.returned v/\ss.Perm (intKeys D0) /\
   w'.ownsRow (w.alloc (.cells #[.map (some b)] 71)).heap.size 2 1 v ss.length ((ss.mergeSort (λ x y=>decide (x<=y))).map encZ)/\(v=.slice none 0 0↔ss=[])/\Below (w.alloc (.cells #[.map (some b)] 71)).heap.size (w.alloc (.cells #[.map (some b)] 71)) w':=by
 have an:=dq.lt;have oH:SeqGives Fence.wide 2 Aix 105 #[.pointer (some ⟨w.heap.size,0,none⟩)] encZ (λ ss=>ss.Perm (intKeys D0)) (Maps.size D0) (w.alloc (.cells #[.map (some b)] 71)) :=
  AnyZI.keys_gives (ρ:=Tryz.TN) { Tryz.AdW with } Fence.wide _ trivial rfl (by omega) w.heap.size b nn D0 _ (by simp) (by simp) (by
   obtain⟨es,clock,hb,Ft,hs,hD⟩:=dq;exact⟨es,clock,(Below.heap_alloc _ _ b an).trans hb,Ft,hs,hD⟩)
 exact AnyZI.sorted_in Tryz.Aeu Fence.wide 5 trivial trivial trivial trivial rfl (by omega) (Tryz.AfG _) (enters_of Tryz.func104 (by kernel_rfl) rfl) 105 #[.pointer (some ⟨w.heap.size,0,none⟩)] trivial (enters_of Tryz.func105 (by kernel_rfl) rfl) _ _ o5 gN _ oH
end Go.Proofs
namespace Go.Proofs.YtpnaifmmggnimaaGreatDoor
open R
open _root_.Go.Proofs.Tryz renaming prog -> Aix
open _root_.Bool renaming and_eq_true -> Ah1, true_and -> Ake
open _root_.Int renaming toNat_natCast -> Ait
open _root_.List.Sublist renaming refl -> Akd
open _root_.List renaming append_assoc -> Air, flatMap_append -> Aj8, getElem?_eq_some_iff -> Aic, length_append -> Aiq, length_cons -> Ais, length_nil -> AjE, mem_cons -> Aia, mem_singleton -> Ajo, not_mem_nil -> Aju, perm_middle -> Akf, sublist_append_right -> Akb, take_succ_eq_append_getElem -> Ajl
open _root_.Nat renaming le_refl -> Ain
open _root_.Option renaming bind_eq_some_iff -> Aj6, bind_some -> AjK
open _root_.Option.some renaming inj -> Ajx
open _root_.Prod.mk renaming inj -> Akc
set_option maxRecDepth 100000
open Go.Dn Go.Proofs
open Go.RowKit (Below)
set_option linter.unusedVariables false
theorem AhU{l1 l2 H:List It}:H.Sublist (l1++(l2++H)):=(Akb l2 H).trans (Akb l1 _)
section
variable {w0 w:World}{H:List It}{bc bm n N cc pc:Nat}{ca pa:Option Addr}{C:Bq}
theorem Abg{E:List It}{ra:Option Addr}{rc i:Nat}{ps:List BH}(S:ST w0 w E)(hi:E[i]?=some (Gj ra rc ps))(hs:∀ p∈ps,EF p∈E):A9 w ra ps :=
 ⟨S.rd i hi,λ p hp=>Row.rd (S.ok (EF p) (hs p hp))⟩
set_option maxHeartbeats 2000000 in
theorem Z6(T:Hb w0){q0 q1 q2 q3 q4:Nat}{a ra:Option Addr}{c rc id num:Nat}{cs:List Bv}{ps:List BH}
  (S:ST w0 w (It.cells q0 #[.pointer (some ⟨bc,0,none⟩)] 24 :: It.cells q1 #[.int .i64 (id:Int)] 2 :: It.cells q2 #[.int .i64 (num:Int)] 2 :: It.cells q3 #[.slice a cs.length c] 27 :: CD a c cs ::
   It.cells q4 #[.slice ra ps.length rc] 35 :: Gj ra rc ps :: (Bh bc ca cc pa pc bm n C++(ps.map EF++H))))
  (aK:Br cs (rws ps)) (hq:∀ c∈cs,c.1.size<=9223372036854775807) (hid:id<=A3) (wZ:num<=A3) (hC:Iv C) (bJ:ca=none↔C.Ay=[]) (hN:n<=N) (kj:N<1000000) :
  Calls Aix 72 #[.pointer (some ⟨q0,0,none⟩),.pointer (some ⟨q1,0,none⟩),.pointer (some ⟨q2,0,none⟩),.pointer (some ⟨q3,0,none⟩),.pointer (some ⟨q4,0,none⟩)] w (SV (UD w0 H bc bm (N+1) (MG C id num cs (rws ps)))):=by
 apply FI
 delta A Ab A6 D E F G H I J Li Lm Lp Ls M N O P SU Ri S Am Z Zb Zpb;try dsimp only [Ps]
 unfold A3 at hid wZ;obtain⟨x,y,z,hxyz,aH⟩:=AdN C.k id;obtain⟨ok,hok2⟩:∃ ok,ok=(Su C.k (id:Int)).isSome:=⟨_,rfl⟩;rw [<- hok2] at aH;have aA:(mapOf C.k id=none/\ok=false)\/(mapOf C.k id=some (x,y,z)/\ok=true):=aH;let X:Nat->List It:=λ b6=>[It.cells b6 #[.int .i64 0,.int .i64 0] 40,It.cells q0 #[.pointer (some ⟨bc,0,none⟩)] 24,It.cells q1 #[.int .i64 (id:Int)] 2,It.cells q2 #[.int .i64 (num:Int)] 2,It.cells q3 #[.slice a cs.length c] 27,CD a c cs,
   It.cells q4 #[.slice ra ps.length rc] 35,Gj ra rc ps]
 refine S.An λ b6 w1 _ _ S=>?_;have S:ST w0 w1 (X b6++(Bh bc ca cc pa pc bm n C++(ps.map EF++H))):=S;let Q:Nat->World->Prop:=λ b wx=>ST w0 wx (It.cells b #[.int .i64 (x:Int),.int .i64 (y:Int),.int .i64 (z:Int)] 99 :: (X b6++(Bh bc ca cc pa pc bm n C++(ps.map EF++H))));have yC:∀ {wx:World} {b:Nat},Q b wx->ST w0 wx (It.cells b6 #[.int .i64 0,.int .i64 0] 40 :: (Bh bc ca cc pa pc bm n C++H)):=λ {wx b} S =>
  S.sub (.cons _ (.cons_cons _ ((List.Sublist.append (Akd _) (Akb _ _)).trans (Akb [_,_,_,_,_,_,_] _))))
 have oU:∀(d:Nat × Nat) {wx:World},MG C id num cs (rws ps) d [] C->ST w0 wx (Bh bc ca cc pa pc bm n C++H)->UD w0 H bc bm (N+1) (MG C id num cs (rws ps)) (.tuple #[.agg #[.int .i64 (d.1:Int),.int .i64 (d.2:Int)],.slice none 0 0]) wx:=λ d wx hI S =>
  ⟨d,[],C,none,ca,cc,pa,pc,n,hI,rfl,bJ,Omg,DY S⟩
 refine⟨λ s wx=>∃ b,s=[.pointer (some ⟨b,0,none⟩),.bool ok]/\Q b wx,?_,?_⟩
 ·refine S.draw λ w2 _ S=>⟨_,S.cell 1 rfl rfl,_,S.cell 8 rfl rfl,_,S.cell 2 rfl rfl,?_,?_⟩
  ·refine S.Aa8 11 rfl Jz IV (Uy _) Omg ?_;rw [<- hok2,hxyz];refine⟨_,_,_,_,rfl,S.An λ dH w4 _ _ S=>S.BD 0 rfl (aC:=#[.int .i64 (x:Int),.int .i64 0,.int .i64 0]) Osi rfl λ w5 S=>S.BD 0 rfl (aC:=#[.int .i64 (x:Int),.int .i64 (y:Int),.int .i64 0]) Osi rfl λ w6 S=>S.BD 0 rfl (aC:=#[.int .i64 (x:Int),.int .i64 (y:Int),.int .i64 (z:Int)]) Osi rfl λ w7 S=>⟨dH,rfl,S⟩⟩
  ·refine S.An λ lX w8 _ _ S=>⟨S.cell 3 rfl rfl,S.cell 9 rfl rfl,S.cell 2 rfl rfl,?_⟩;refine S.Aa8 12 rfl Jz IV (Uy _) Omg ?_;rw [<- hok2,hxyz];refine⟨_,_,_,_,rfl,S.BD 0 rfl (aC:=#[.int .i64 (x:Int),.int .i64 0,.int .i64 0]) Osi rfl λ w5 S=>S.BD 0 rfl (aC:=#[.int .i64 (x:Int),.int .i64 (y:Int),.int .i64 0]) Osi rfl λ w6 S=>S.BD 0 rfl (aC:=#[.int .i64 (x:Int),.int .i64 (y:Int),.int .i64 (z:Int)]) Osi rfl λ w7 S=>⟨lX,rfl,S⟩⟩
 clear S;rintro _ _ al ⟨b,hs,S⟩;cases hs;refine⟨λ s wx=>s=[]/\Q b wx/\(∀ t,mapOf C.k id=some t->t.1<num)/\(mapOf C.k id=none->Iy C.k≠64),?_,?_⟩
 ·refine⟨λ s wx=>s=[.bool (ok && decide (x=num))]/\Q b wx,?_,?_⟩
  ·refine Aq (λ h=>⟨_,S.cell 0 rfl rfl,_,S.cell 4 rfl rfl,?_,S⟩) (λ h=>⟨by rw [h];rfl,S⟩);rw [h,Ake];congr 2;by_cases h2:x=num
   ·simp [h2]
   ·have:¬ (x:Int)=(num:Int):=Omg;simp [h2,this]
  clear S;rintro _ au ⟨hs,S⟩;cases hs;refine Aq (λ h=>?_) (λ h1=>?_)
  ·simp only [Ah1,decide_eq_true_eq] at h;obtain⟨hk,rfl⟩:=h;have hm:mapOf C.k id=some (x,y,z):=by
    rcases aA with ⟨_,h2⟩ | ⟨h2,_⟩
    ·rw [h2] at hk;cases hk
    ·exact h2
   refine⟨_,S.cell 0 rfl rfl,_,S.cell 0 rfl rfl,S.BD 1 rfl (aC:=#[.int .i64 (y:Int),.int .i64 0]) Osi rfl λ ah S=>S.BD 1 rfl (aC:=#[.int .i64 (y:Int),.int .i64 (z:Int)]) Osi rfl λ cd S=>⟨_,S.cell 1 rfl rfl,_,S.cell 1 rfl rfl,?_⟩⟩;exact oU (y,z) (.inl ⟨_,hm,rfl,rfl,rfl,rfl⟩) (S.sub (.cons _ (.cons _ ((List.Sublist.append (Akd _) (Akb _ _)).trans (Akb [_,_,_,_,_,_,_] _)))))
  refine⟨λ s wx=>s=[.bool (ok && decide (num<x))]/\Q b wx,?_,?_⟩
  ·refine Aq (λ h=>⟨_,S.cell 0 rfl rfl,_,S.cell 4 rfl rfl,?_,S⟩) (λ h=>⟨by rw [h];rfl,S⟩);rw [h,Ake];congr 2;by_cases h2:num<x
   ·have:(x:Int) > (num:Int):=Omg;simp [h2,this]
   ·have:¬ (x:Int) > (num:Int):=Omg;simp [h2,this]
  clear S;rintro _ cF ⟨hs,S⟩;cases hs;refine Aq (λ h=>?_) (λ h2=>?_)
  ·simp only [Ah1,decide_eq_true_eq] at h;obtain⟨hk,aB⟩:=h;have hm:mapOf C.k id=some (x,y,z):=by
    rcases aA with ⟨_,h2⟩ | ⟨h2,_⟩
    ·rw [h2] at hk;cases hk
    ·exact h2
   exact D3 (K:=UD w0 H bc bm (N+1) (MG C id num cs (rws ps))) (yC S) 2 λ w' S=>oU (2,0) (.inr (.inl ⟨_,hm,aB,rfl,rfl,rfl⟩)) S
  refine As (Aq (λ hk=>?_) (λ hk=>?_))
  ·refine⟨rfl,S,λ t ht=>?_,λ h=>?_⟩
   ·rcases aA with ⟨h3,_⟩ | ⟨h3,_⟩
    ·rw [h3] at ht;cases ht
    ·rw [h3] at ht;cases ht;rw [hk,Ake,decide_eq_false_iff_not] at h1 h2;omega
   ·rcases aA with ⟨_,h3⟩ | ⟨h3,_⟩
    ·rw [h3] at hk;cases hk
    ·rw [h3] at h;cases h
  ·have hm:mapOf C.k id=none:=by
    rcases aA with ⟨h3,_⟩ | ⟨_,h3⟩
    ·exact h3
    ·rw [h3] at hk;cases hk
   refine⟨_,S.cell 2 rfl rfl,_,S.cell 9 rfl rfl,AdZ (S.get 12 rfl) ⟨_,rfl,Ap (λ h=>?_) (λ h=>?_)⟩⟩
   ·exact D3 (K:=UD w0 H bc bm (N+1) (MG C id num cs (rws ps))) (yC S) 130 λ w' S=>oU (130,0) (.inr (.inr (.inl ⟨hm,Omg,rfl,rfl,rfl⟩))) S
   ·exact⟨rfl,S,λ t ht=>(by rw [hm] at ht;cases ht),λ _=>Omg⟩
 clear S;rintro eA ⟨_,S,aB,qU⟩;refine⟨_,S.cell 2 rfl rfl,_,_,_,S.cell 5 rfl rfl,_,_,_,S.cell 7 rfl rfl,?_⟩;have aj:Rd eA a (BF cs):=S.rd 6 rfl;have si:A9 eA ra ps:=Abg S (i:=8) rfl λ p hp=>by
  refine List.mem_cons_of_mem _ (List.mem_append_right _ (List.mem_append_right _ (List.mem_append_left _ (List.mem_map.2 ⟨p,hp,rfl⟩))))
 have S:ST w0 eA ((It.cells b #[.int .i64 (x:Int),.int .i64 (y:Int),.int .i64 (z:Int)] 99 :: X b6)++(Bh bc ca cc pa pc bm n C++(ps.map EF++H))):=S;have S:=ST.mid (Bh bc ca cc pa pc bm n C) S;have bQ:=AX aK.right;refine (Agc (c:=c) (c2:=rc) T S hC aj Omg hq si aK).mono ?_;rintro _ ie ⟨_,rfl,d,fs,C1,fa,dF,dG,hA,rfl,S⟩;obtain⟨d1,d2⟩:=d;refine⟨_,_,_,_,_,rfl,S.An λ b66 lS _ _ S=>S.BD 0 rfl (aC:=#[.int .i64 (d1:Int),.int .i64 0]) Osi rfl λ oZ S=>S.BD 0 rfl (aC:=#[.int .i64 (d1:Int),.int .i64 (d2:Int)]) Osi rfl λ kV S=>S.draw λ eU _ S =>
  ⟨_,S.cell 8 rfl rfl,_,S.cell 2 rfl rfl,_,S.cell 9 rfl rfl,_,S.cell 10 rfl rfl,_,S.cell 0 rfl rfl,_,S.cell 0 rfl rfl,?_⟩⟩
 refine S.AfZ 5 rfl Jz IV (by unfold maxLen;omega) Omg ((num:Int),(d1:Int),(d2:Int)) λ kW S=>⟨_,S.cell 0 rfl rfl,_,S.cell 0 rfl rfl,S.BD 7 rfl (aC:=#[.int .i64 (d1:Int),.int .i64 0]) Osi rfl λ cR S=>S.BD 7 rfl (aC:=#[.int .i64 (d1:Int),.int .i64 (d2:Int)]) Osi rfl λ j0 S=>⟨_,S.cell 7 rfl rfl,_,S.cell 7 rfl rfl,?_⟩⟩;have cu:C1.k=C.k:=by
  rcases hA with ⟨_,_,_,rfl⟩ | ⟨_,_,_,_,rfl⟩ | ⟨_,_,_,_,rfl,_⟩ <;> rfl
 have gO:C1.Ay=C.Ay:=by
  rcases hA with ⟨_,_,_,rfl⟩ | ⟨_,_,_,_,rfl⟩ | ⟨_,_,_,_,rfl,_⟩ <;> rfl
 have S:=S.drop 1;have eg:(λ y=>if y=(id:Int) then some ((num:Int),(d1:Int),(d2:Int)) else Su C1.k y)=Su (C1.k++[(id,num,d1,d2)]):=(Yd C1.k (id,num,d1,d2)).symm;have S:ST w0 j0 (It.rd fa (A5 fs) :: (Bh bc ca cc dF dG bm (n+1) { C1 with k:=C1.k++[(id,num,d1,d2)] }++H)):=by
  rw [eg] at S;exact S.sub (.cons_cons _ (.cons_cons _ (.cons_cons _ (.cons_cons _ (.cons_cons _ (AhU (l1:=[_,_,_,_,_,_,_,_,_]) (l2:=ps.map EF)))))))
 exact⟨(d1,d2),fs,_,fa,ca,cc,dF,dG,n+1,.inr (.inr (.inr ⟨aB,qU,C1,hA,rfl⟩)),rfl,by simp only [gO];exact bJ,Omg,S⟩
end
section
variable {w0 w:World}{H:List It}{b:Nat}{a:Option Addr}{c at_:Nat}{bad:Bool}{l:List UInt8}
theorem AcK{ca:Option Addr}{cn cc:Nat}(S:ST w0 w H)(n:Nat)(hn:H[n]?=some (Et b a l.length c at_ true)) :
  Cw 71 #[.pointer (some ⟨b,0,none⟩),.slice ca cn cc] w λ v w'=>v=.slice none 0 0/\w'=w:=by
 apply EK
 delta HQ D F G I Lb Li Ls O S Am;try dsimp only [Ps]
 exact⟨_,S.cell n hn rfl,Aq (λ _=>⟨rfl,rfl⟩) (λ h=>by cases h)⟩
theorem Aep{ca:Option Addr}{cc:Nat}{cs:List Bv}(S:ST w0 w H)(n m:Nat)(hn:H[n]?=some (Et b a l.length c at_ false))(hm:H[m]?=some (It.rd a (l.map Ag)))(hc:l.length<=c)(hs:l.length<=140737488355328)
  (aj:Rd w ca (BF cs)) (kN:cs.length<=9223372036854775807) (hq:∀ c∈cs,c.1.size<=9223372036854775807) :
  Cw 71 #[.pointer (some ⟨b,0,none⟩),.slice ca cs.length cc] w λ v w'=>∃(ra:Option Addr) (rc:Nat) (ps:List BH) (at':Nat) (ae:Bool),v=.slice ra ps.length rc /\
   ST w0 w' (Gj ra rc ps :: (H.set n (Et b a l.length c at' ae)++ps.map EF))/\((ae=false/\Be l cs (at_:Int)=some (rws ps,at')/\ps≠[])\/(ae=true/\∀ x,Be l cs (at_:Int)=some x->x.1=[])):=by
 apply EK
 delta HQ D F G I Lb Li Ls O S Am;try dsimp only [Ps]
 refine⟨_,S.cell n hn rfl,Aq (λ h=>by cases h) (λ _=>?_)⟩;refine S.draw λ w1 B1 S=>⟨_,_,_,S.cell n hn rfl,_,S.cell n hn rfl,?_⟩;refine (NA (S.get m hm) hc hs (at_:Int) (aj.grown B1) kN hq).mono ?_;rintro _ w2 ⟨_,rfl,hx⟩;cases ho:Be l cs (at_:Int) with
 | none =>
  rw [ho] at hx;obtain⟨e,he,rfl,B⟩:=hx;have S:=S.grown B;refine⟨_,_,_,_,_,rfl,Ai (λ _=>?_) (λ h=>absurd h he)⟩;have aB:=(Aic.1 hn).1
  try simp only [Av]
  refine S.BD n hn (i:=2) (aC:=#[.slice a l.length c,.int .i64 (at_:Int),.bool true]) Osi rfl λ w3 S=>?_;refine S.BD n (List.getElem?_set_self aB) (i:=1) (aC:=#[.slice a l.length c,.int .i64 0,.bool true]) Osi rfl λ w4 S=>?_;rw [List.set_set] at S;exact⟨none,0,[],0,true,rfl,(by
   have S:=S.nil 69 1;rw [List.map_nil,List.append_nil];exact S),.inr ⟨rfl,λ x hx=>by cases hx⟩⟩
 | some x =>
  rw [ho] at hx;obtain⟨ra,rc,ps,rfl,dr,R⟩:=hx;have S:=S.join R;have S:ST w0 w2 (H++(Gj ra rc ps :: ps.map EF)):=S.perm List.perm_append_comm;have aB:=(Aic.1 hn).1;have dA:(H++(Gj ra rc ps :: ps.map EF))[n]?=some (Et b a l.length c at_ false):=by rw [List.getElem?_append_left aB];exact hn
  have lC:=(Aic.1 dA).1;refine⟨_,_,_,_,_,rfl,Ai (λ h=>absurd rfl h) (λ _=>?_)⟩
  try simp only [Av]
  refine S.BD n dA (i:=2) (aC:=#[.slice a l.length c,.int .i64 (at_:Int),.bool ((ps.length:Int)==0)]) Osi rfl λ w3 S=>?_;refine S.BD n (List.getElem?_set_self lC) (i:=1) (aC:=#[.slice a l.length c,.int .i64 (x.2:Int),.bool ((ps.length:Int)==0)]) Osi rfl λ w4 S=>?_;rw [List.set_set,List.set_append_left _ _ aB] at S;refine⟨ra,rc,ps,x.2,((ps.length:Int)==0),rfl,S.perm Akf,?_⟩;cases hl:ps with
  | nil =>
   refine .inr ⟨rfl,λ y hy=>?_⟩;cases hy;rw [<- dr,hl];rfl
  | cons p qs =>
   refine .inl ⟨?_,?_,Osi⟩
   ·simp;omega
   ·rw [<- hl,dr]
def WQ(l:List UInt8)(at_:Nat):Option ((Nat × Nat × List Bv × List (List AD)) × Nat) :=
 (Ei l 0 A3 at_).bind λ x=>(Ei l 1 A3 x.2).bind λ y=>(A7 l (y.2:Int)).bind λ z=>(Be l z.1 (z.2:Int)).bind λ u=>if u.1=[] then none else some ((x.1,y.1,z.1,u.1),u.2)
def ZI(w0:World)(H:List It)(bc bm N b:Nat)(a:Option Addr)(n c:Nat)(C:Bq)(Q:Nat × Nat->List H5->Bq->Prop)(v:Value)(w':World):Prop :=
 ∃ at' ae g ca Z pc cc pa fO m,v=.func (.func g) #[] ca/\enters Aix g=true/\ST w0 w' (Et b a n c at' ae :: (Z++(Bh bc fO cc pa pc bm m C++H)))/\(fO=none↔C.Ay=[])/\m<=N /\
  ((ae=true\/at'≠n)->Q (220,0) [] C) /\
  (ae=false->at'=n->∀ wx,ST w0 wx (Et b a n c at' ae :: (Z++(Bh bc fO cc pa pc bm m C++H)))->Calls Aix g ca wx (SV (UD w0 H bc bm (N+1) Q)))
def AeU(C:Bq)(l:List UInt8)(d:Nat × Nat)(fs:List H5)(C':Bq):Prop :=
 (∃ cs,A7 l 1=some (cs,l.length)/\AbD C cs d fs C')\/((∀ cs,A7 l 1≠some (cs,l.length))/\d=(220,0)/\fs=[]/\C'=C)
def AeV(C:Bq)(l:List UInt8)(d:Nat × Nat)(fs:List H5)(C':Bq):Prop :=
 (∃ x,WQ l 1=some (x,l.length)/\MG C x.1 x.2.1 x.2.2.1 x.2.2.2 d fs C')\/((∀ x,WQ l 1≠some (x,l.length))/\d=(220,0)/\fs=[]/\C'=C)
theorem Vq{bc bm n N cc pc:Nat}{ca pa:Option Addr}{C:Bq}(S:ST w0 w (Et b a l.length c 1 false :: It.rd a (l.map Ag) :: (Bh bc ca cc pa pc bm n C++H)))(hc:l.length<=c)(hs:l.length<=140737488355328)(bJ:ca=none↔C.Ay=[])(hN:n<=N) :
  Calls Aix 36 #[.pointer (some ⟨bc,0,none⟩),.pointer (some ⟨b,0,none⟩)] w (SV (ZI w0 H bc bm N b a l.length c C (AeU C l))):=by
 apply Gs
 delta A Cs J N O P S Am;try dsimp only [Ps]
 refine S.An λ b3 w1 _ _ S=>?_;refine (Ny S 1 2 rfl rfl hc hs).mono ?_;rintro _ w2 ⟨_,rfl,sa,sc,cs,at',ae,rfl,S,hG,_⟩;refine⟨_,_,_,rfl,S.An λ b6 w3 _ _ S=>S.BD 0 rfl (aC:=#[.slice sa cs.length sc]) Osi rfl λ w4 S=>?_⟩;have S:ST w0 w4 (Et b a l.length c at' ae :: ([It.cells b6 #[.slice sa cs.length sc] 27,CD sa sc cs,It.cells b3 #[.pointer (some ⟨bc,0,none⟩)] 24,It.rd a (l.map Ag)]++(Bh bc ca cc pa pc bm n C++H))):=S.pull 3 rfl;refine⟨at',ae,70,#[.pointer (some ⟨b3,0,none⟩),.pointer (some ⟨b6,0,none⟩)],_,pc,cc,pa,ca,n,rfl,by kernel_rfl,S,bJ,hN,λ h=>.inr ⟨λ aC e=>?_,rfl,rfl,rfl⟩,λ hb ha wx S=>?_⟩
 ·rcases hG with ⟨h1,_,h2⟩ | ⟨_,h2 | h2⟩
  ·rw [show ((1:Nat):Int)=1 from rfl,e] at h2;cases h2;rcases h with h | h
   ·rw [h1] at h;cases h
   ·exact h rfl
  ·cases h2
  ·rw [show ((1:Nat):Int)=1 from rfl,e] at h2;cases h2
 ·subst hb;subst ha;obtain⟨_,h2⟩:=hG.ok;have hR:=CV h2;have S:=S.drop 1;have S:ST w0 wx (It.cells b3 #[.pointer (some ⟨bc,0,none⟩)] 24 :: It.cells b6 #[.slice sa cs.length sc] 27 :: CD sa sc cs :: (Bh bc ca cc pa pc bm n C++H)) :=
   (S.pull 2 rfl).sub (.cons_cons _ (.cons_cons _ (.cons_cons _ (.cons _ (Akd _)))))
  refine (ZS (N:=N) S hR bJ hN).mono ?_;rintro _ w' ⟨v,rfl,d,fs,C',fa,fy,fz,gE,gF,n2,h3,h4,h5,h6,h7⟩;exact⟨v,rfl,d,fs,C',fa,fy,fz,gE,gF,n2,.inl ⟨cs,h2,h3⟩,h4,h5,Omg,h7⟩
theorem J3.some{α:Type}{ae:Bool}{o:Option α}{x y:α}(h:J3 false ae o x)(hy:o=Option.some y):ae=false/\x=y:=by
 rcases h with ⟨h1,_,h2⟩ | ⟨_,h2 | h2⟩
 ·rw [hy] at h2;exact⟨h1,(Ajx h2).symm⟩
 ·cases h2
 ·rw [hy] at h2;cases h2
theorem VD{l:List UInt8}{at_:Nat}{x:Nat × Nat × List Bv × List (List AD)}{k:Nat}(h:WQ l at_=some (x,k)) :
  ∃ a1 a2 a3,Ei l 0 A3 at_=some (x.1,a1)/\Ei l 1 A3 a1=some (x.2.1,a2)/\A7 l (a2:Int)=some (x.2.2.1,a3)/\Be l x.2.2.1 (a3:Int)=some (x.2.2.2,k)/\x.2.2.2≠[]:=by
 unfold WQ at h;obtain⟨y1,h1,h⟩:=Aj6.1 h;obtain⟨y2,h2,h⟩:=Aj6.1 h;obtain⟨y3,h3,h⟩:=Aj6.1 h;obtain⟨y4,h4,h⟩:=Aj6.1 h;split at h
 ·cases h
 ·rename_i aQ;cases h;exact⟨y1.2,y2.2,y3.2,h1,h2,h3,h4,aQ⟩
set_option maxHeartbeats 1000000 in
theorem VE(T:Hb w0){bc bm n N cc pc:Nat}{ca pa:Option Addr}{C:Bq}(S:ST w0 w (Et b a l.length c 1 false :: It.rd a (l.map Ag) :: (Bh bc ca cc pa pc bm n C++H)))(hc:l.length<=c)(hs:l.length<=140737488355328)(hC:Iv C)(bJ:ca=none↔C.Ay=[])(hN:n<=N)(kj:N<1000000) :
  Calls Aix 37 #[.pointer (some ⟨bc,0,none⟩),.pointer (some ⟨b,0,none⟩)] w (SV (ZI w0 H bc bm N b a l.length c C (AeV C l))):=by
 apply Gt
 delta A Ci Cs I J Ls N O P S Am;try dsimp only [Ps]
 refine S.An λ b3 w1 _ _ S=>?_;refine (C8 S 1 2 rfl rfl hc hs 0 A3 (Ain _)).mono ?_;rintro _ w2 ⟨_,rfl,z1,aL,bad1,rfl,S,G1,_⟩;refine⟨_,rfl,(C8 S 1 2 rfl rfl hc hs 1 A3 (Ain _)).mono ?_⟩;rintro _ w3 ⟨_,rfl,z2,aX,eD,rfl,S,G2,_⟩;refine⟨_,rfl,S.An λ b8 w4 _ _ S=>S.An λ b9 w5 _ _ S=>S.BD 1 rfl (aC:=#[.int .i64 (z1:Int)]) Osi rfl λ w6 S=>S.BD 0 rfl (aC:=#[.int .i64 (z2:Int)]) Osi rfl λ w7 S=>?_⟩;refine (Ny S 3 4 rfl rfl hc hs).mono ?_;rintro _ w8 ⟨_,rfl,sa,sc,cs,bH,pZ,rfl,S,G3,_⟩;refine⟨_,_,_,rfl,S.An λ dv w9 _ _ S=>S.BD 0 rfl (aC:=#[.slice sa cs.length sc]) Osi rfl λ bX S=>⟨_,_,_,S.cell 0 rfl rfl,?_⟩⟩;have bj:∀ x k,WQ l 1=some (x,k)->pZ=false/\z1=x.1/\z2=x.2.1/\cs=x.2.2.1/\Be l cs (bH:Int)=some (x.2.2.2,k)/\x.2.2.2≠[]:=λ x k e=>by
  obtain⟨a1,a2,a3,h1,h2,h3,h4,h5⟩:=VD e;obtain⟨rfl,e1⟩:=G1.some h1;obtain⟨rfl,rfl⟩:=Akc e1;obtain⟨rfl,e2⟩:=G2.some h2;obtain⟨rfl,rfl⟩:=Akc e2;obtain⟨rfl,e3⟩:=G3.some h3;obtain⟨rfl,rfl⟩:=Akc e3;exact⟨rfl,rfl,rfl,rfl,h4,h5⟩
 cases pZ with
 | true =>
  refine (AcK S 5 rfl).mono ?_;rintro _ aZ ⟨_,rfl,rfl,rfl⟩;refine⟨_,_,_,rfl,S.An λ dH bL _ _ S=>S.BD 0 rfl (aC:=#[.slice none 0 0]) Osi rfl λ al S=>?_⟩;have S:ST w0 al (Et b a l.length c bH true :: ([It.cells dH #[.slice none 0 0] 35,It.cells dv #[.slice sa cs.length sc] 27,CD sa sc cs,It.cells b9 #[.int .i64 (z2:Int)] 2,It.cells b8 #[.int .i64 (z1:Int)] 2,It.cells b3 #[.pointer (some ⟨bc,0,none⟩)] 24,
   It.rd a (l.map Ag)]++(Bh bc ca cc pa pc bm n C++H))):=S.pull 6 rfl
  exact⟨bH,true,72,_,_,pc,cc,pa,ca,n,rfl,by kernel_rfl,S,bJ,hN,λ _=>.inr ⟨λ x e=>(by have:=(bj x _ e).1;cases this),rfl,rfl,rfl⟩,λ h=>by cases h⟩
 | false =>
  obtain⟨cW,h3⟩:=G3.ok;subst cW;obtain⟨cK,h2⟩:=G2.ok;subst cK;obtain⟨_,h1⟩:=G1.ok;have hR:=CV h3;have bQ:=AX hR;have hq:∀ c∈cs,c.1.size<=9223372036854775807:=λ c hc=>by have:=(CX hR hc).2.2.2;omega
  refine (Aep (cc:=sc) S 5 6 rfl rfl hc hs (S.rd 1 rfl) (by simp only at bQ;omega) hq).mono ?_;rintro _ aZ ⟨_,rfl,ra,rc,ps,lW,mY,rfl,S,G4⟩;refine⟨_,_,_,rfl,S.An λ dH bL _ _ S=>S.BD 0 rfl (aC:=#[.slice ra ps.length rc]) Osi rfl λ al S=>?_⟩;have S:=(((((((S.pull 3 rfl).pull 3 rfl).pull 4 rfl).pull 5 rfl).pull 6 rfl).pull 8 rfl).pull 8 rfl);let Z:List It:=[It.cells b3 #[.pointer (some ⟨bc,0,none⟩)] 24,It.cells b8 #[.int .i64 (z1:Int)] 2,It.cells b9 #[.int .i64 (z2:Int)] 2,It.cells dv #[.slice sa cs.length sc] 27,CD sa sc cs,
   It.cells dH #[.slice ra ps.length rc] 35,Gj ra rc ps]
  have S:ST w0 al (Et b a l.length c lW mY :: It.rd a (l.map Ag) :: (Z++((Bh bc ca cc pa pc bm n C++H)++ps.map EF))):=S;have S:ST w0 al (Et b a l.length c lW mY :: It.rd a (l.map Ag) :: (Z++(ps.map EF++(Bh bc ca cc pa pc bm n C++H)))):=S.perm (List.Perm.append_left (_ :: _ :: Z) List.perm_append_comm);rw [<- Air] at S;refine⟨lW,mY,72,_,It.rd a (l.map Ag) :: (Z++ps.map EF),pc,cc,pa,ca,n,rfl,by kernel_rfl,S,bJ,hN,λ h=>.inr ⟨λ x e=>?_,rfl,rfl,rfl⟩,λ hb ha wx S=>?_⟩
  ·obtain⟨_,_,_,_,h4,h5⟩:=bj x _ e;rcases G4 with ⟨g1,g2,_⟩ | ⟨_,g2⟩
   ·rw [h4] at g2;obtain⟨_,rfl⟩:=Akc (Ajx g2);rcases h with h | h
    ·rw [g1] at h;cases h
    ·exact h rfl
   ·exact h5 (g2 _ h4)
  ·subst hb;subst ha;rcases G4 with ⟨_,g2,g3⟩ | ⟨g1,_⟩
   case inr=>cases g1
   have aK:=(Lr g2).1;have S:ST w0 wx (Et b a l.length c l.length false :: It.rd a (l.map Ag) :: ((Z++ps.map EF)++(Bh bc ca cc pa pc bm n C++H))):=S;rw [Air] at S;have S:ST w0 wx (Z++(Bh bc ca cc pa pc bm n C++(ps.map EF++H))):=(S.drop 2).perm (List.Perm.append_left Z (List.perm_append_comm_assoc _ _ _));refine (Z6 (N:=N) T S aK hq (C0 h1).2.2 (C0 h2).2.2 hC bJ hN kj).mono ?_;rintro _ w' ⟨v,rfl,d,fs,C',fa,fy,fz,gE,gF,n2,e3,e4,e5,e6,e7⟩;refine⟨v,rfl,d,fs,C',fa,fy,fz,gE,gF,n2,.inl ⟨(z1,z2,cs,rws ps),?_,e3⟩,e4,e5,e6,e7⟩;have aQ:rws ps≠[]:=by
    intro h;apply g3;simpa [rws] using h
   unfold WQ;rw [h1,AjK,h2,AjK,h3,AjK,g2,AjK,if_neg aQ]
end
def Sel(s:ByteArray)(rf:FuncId):Prop :=
 ((Az s 0).toNat=1/\rf=36)\/((Az s 0).toNat=2/\rf=37)\/((Az s 0).toNat=3/\rf=38)
theorem Xq(p:Option Addr)(w:World):Cw 35 #[.pointer p] w λ v w'=>v=.nilFunc/\w'=w:=by
 apply FT
 skip
 exact⟨rfl,rfl⟩
theorem Ael(b:Nat)(a:Option Addr)(n c:Nat):It.cells b #[.slice a n c,.int .i64 1,.bool false] 79=Et b a n c 1 false:=rfl
section
variable {w0 w:World}{H:List It}{bc bm n N cc pc:Nat}{ca pa:Option Addr}{C:Bq}
set_option maxHeartbeats 1000000 in
theorem MK{Q:Nat × Nat->List H5->Bq->Prop}(S:ST w0 w (Bh bc ca cc pa pc bm n C++H))(bJ:ca=none↔C.Ay=[])(hN:n<=N)(s:ByteArray)
  (qX:s.size=0\/262144<s.size\/((Az s 0).toNat≠1/\(Az s 0).toNat≠2/\(Az s 0).toNat≠3)->Q (220,0) [] C)
  (bO:∀ rf,Sel s rf->0<s.size->s.size<=262144->∀(H:List It) (b:Nat) (a:Option Addr) (c:Nat) (wx:World),(bl s).length<=c->ST w0 wx (Et b a (bl s).length c 1 false :: It.rd a ((bl s).map Ag) :: (Bh bc ca cc pa pc bm n C++H)) ->
   Calls Aix rf #[.pointer (some ⟨bc,0,none⟩),.pointer (some ⟨b,0,none⟩)] wx (SV (ZI w0 H bc bm N b a (bl s).length c C Q))) :
  Calls Aix 12 #[.pointer (some ⟨bc,0,none⟩),.string s] w (SV (UD w0 H bc bm (N+1) Q)):=by
 apply GI
 delta A Ab A6 Cb E F G H I J Li N P Rs S Am T X Zf;try dsimp only [Ps]
 have an:=AW s;refine S.An λ b3 w1 _ _ S=>Aq (λ h=>by cases h) (λ _=>?_);have cD:∀ {wx:World},(s.size=0\/262144<s.size\/((Az s 0).toNat≠1/\(Az s 0).toNat≠2/\(Az s 0).toNat≠3))->ST w0 wx (Bh bc ca cc pa pc bm n C++H)->UD w0 H bc bm (N+1) Q (.tuple #[.agg #[.int .i64 220,.int .i64 0],.slice none 0 0]) wx:=λ h S =>
  ⟨(220,0),[],C,none,ca,cc,pa,pc,n,qX h,rfl,bJ,Omg,DY S⟩
 refine Aq (λ h=>D3 (K:=UD w0 H bc bm (N+1) Q) S 220 λ w' S=>cD (.inl ?_) S) (λ h0=>?_)
 ·rw [AU,decide_eq_true_eq] at h;subst h;rfl
 have sA:0<s.size:=by
  rcases Nat.eq_zero_or_pos s.size with h | h
  ·have:A1 s ⟨#[]⟩=true:=by
    rw [AU,decide_eq_true_eq];have hd:s.data.size=0:=h;cases s with
    | mk d => 
     have:d=#[]:=Array.eq_empty_of_size_eq_zero hd;rw [this]
   rw [this] at h0;cases h0
  ·exact h
 refine Aa (λ h=>D3 (K:=UD w0 H bc bm (N+1) Q) S 220 λ w' S=>cD (.inr (.inl Omg)) S) (λ hle=>?_);have S:ST w0 w1 (Bh bc ca cc pa pc bm n C++(It.cells b3 #[.int .i64 0,.int .i64 0] 40 :: H)):=S.perm List.perm_middle.symm;refine BT Ca s w1 λ b0 c0 cells e0 w2 bZ B2 eL aj iy cZ=>?_;have hr:Rd w2 (some ⟨b0,0,none⟩) ((bl s).map Ag):=by
  have:=(Rd.Al eL).take s.size;rw [cZ] at this;exact this
 have S:=LR S B2 (⟨hr,λ k hk=>by cases hk;exact Nat.le_of_eq bZ.symm⟩:Vh w1 w2 _ _);refine⟨_,_,_,rfl,S.An λ th bL _ _ S=>?_⟩;rw [Ael,<- an] at S;refine⟨λ s' wx=>∃ rf fi,s'=[.func (.func rf) fi #[]]/\((Sel s rf/\fi=#[.pointer (some ⟨bc,0,none⟩)])\/(rf=35/\fi=#[]/\((Az s 0).toNat≠1/\(Az s 0).toNat≠2/\(Az s 0).toNat≠3))) /\
  ST w0 wx (Et th (some ⟨b0,0,none⟩) (bl s).length c0 1 false :: It.rd (some ⟨b0,0,none⟩) ((bl s).map Ag) :: (Bh bc ca cc pa pc bm n C++(It.cells b3 #[.int .i64 0,.int .i64 0] 40 :: H))),⟨⟨Omg,Omg⟩,?_⟩,?_⟩
 ·refine Ap (λ h=>⟨_,_,rfl,.inl ⟨.inl ⟨Omg,rfl⟩,rfl⟩,S⟩) (λ h1=>Ap (λ h=>⟨_,_,rfl,.inl ⟨.inr (.inl ⟨Omg,rfl⟩),rfl⟩,S⟩) (λ h2=>Ap (λ h=>⟨_,_,rfl,.inl ⟨.inr (.inr ⟨Omg,rfl⟩),rfl⟩,S⟩) (λ h3=>⟨_,_,rfl,.inr ⟨rfl,rfl,Omg,Omg,Omg⟩,S⟩)))
 clear S;rintro rf fi _ al ⟨_,_,hs,bW,S⟩;cases hs;rcases bW with ⟨bW,rfl⟩ | ⟨rfl,rfl,aP⟩
 ·have nR:enters Aix rf=true:=by
   rcases bW with ⟨_,rfl⟩ | ⟨_,rfl⟩ | ⟨_,rfl⟩
   ·kernel_rfl
   ·kernel_rfl
   ·kernel_rfl
  rw [nR];refine (bO rf bW sA Omg _ th _ c0 al Omg S).mono ?_;clear S;rintro _ au ⟨_,rfl,at',ae,g,fy,Z,gF,fz,gE,ph,m,rfl,v',S,iN,hm,ve,cg⟩;refine .inl ⟨_,_,_,rfl,(V4 S 0 rfl).mono ?_⟩;clear S;rintro _ ah ⟨_,rfl,rfl,S⟩;refine⟨_,rfl,As (Aq (λ hw=>?_) (λ hw=>?_))⟩
  ·simp only [Ah1,Bool.not_eq_true',decide_eq_true_eq] at hw;rw [v'];refine (cg hw.1 hw.2 ah S).mono ?_;clear S;rintro _ gb ⟨_,rfl,d,fs,C',fa,ca4,cc4,pa4,pc4,n4,hQ,rfl,h5,h6,S⟩;obtain⟨d1,d2⟩:=d;refine⟨_,_,_,_,_,rfl,S.BD 5 rfl (aC:=#[.int .i64 (d1:Int),.int .i64 0]) Osi rfl λ eT S=>S.BD 5 rfl (aC:=#[.int .i64 (d1:Int),.int .i64 (d2:Int)]) Osi rfl λ gG S=>⟨_,S.cell 5 rfl rfl,_,S.cell 5 rfl rfl,?_⟩⟩;exact⟨(d1,d2),fs,C',fa,ca4,cc4,pa4,pc4,n4,hQ,rfl,h5,h6,S.sub (.cons_cons _ (.cons_cons _ (.cons_cons _ (.cons_cons _ (.cons_cons _ (.cons _ (Akd _)))))))⟩
  ·have lP:ae=true\/at'≠(bl s).length:=by
    simp only [Bool.and_eq_false_iff,Bool.not_eq_false',decide_eq_false_iff_not] at hw;exact hw
   have S:=((S.drop 1).sub (Akb Z _)).perm Akf;exact D3 (K:=UD w0 H bc bm (N+1) Q) S 220 λ w' S=>⟨(220,0),[],C,none,ph,fz,gE,gF,m,ve lP,rfl,iN,Omg,DY S⟩
 ·rw [show enters Aix 35=true by kernel_rfl];refine (Xq _ al).mono ?_;rintro _ au ⟨_,rfl,rfl,rfl⟩;have S:=(S.drop 2).perm Akf;exact .inr ⟨rfl,D3 (K:=UD w0 H bc bm (N+1) Q) S 220 λ w' S=>cD (.inr (.inr aP)) S⟩
end
def L3(cs:List Bv):List UInt8:=1 :: Cx cs
def WC(cs:List Bv):Value:=if Ao cs then .tuple #[.string (Bu (L3 cs)),.int .i64 0] else .tuple #[.string (Bu []),.int .i64 50]
def Hl(x y:Nat)(cs:List Bv)(rows:List (List AD)):List UInt8:=2 :: (Af x++Af y++Cx cs++Fx rows)
def FQ(x y:Int):Prop:=x<0\/4611686018427387904<x\/y<1\/4611686018427387904<y
instance (x y:Int):Decidable (FQ x y):=by unfold FQ;infer_instance
def Je(x y:Int)(cs:List Bv)(rows:List (List AD)):Int :=
 if FQ x y\/rows=[] then 2 else if DW cs rows≠0 then DW cs rows else if 262144<(Hl x.toNat y.toNat cs rows).length then 130 else 0
def Kv(x y:Int)(cs:List Bv)(rows:List (List AD)):Value :=
 if Je x y cs rows=0 then .tuple #[.string (Bu (Hl x.toNat y.toNat cs rows)),.int .i64 0] else .tuple #[.string (Bu []),.int .i64 (Je x y cs rows)]
section
variable {w0 w:World}{H:List It}{a a2:Option Addr}{c c2:Nat}{cs:List Bv}{ps:List BH}
theorem AbE(aj:Rd w a (BF cs))(hn:cs.length<=9223372036854775807)(hq:∀ c∈cs,c.1.size<=9223372036854775807) :
  Cw 17 #[.slice a cs.length c] w λ v w'=>v=WC cs/\Below w.heap.size w w':=by
 apply Kd
 delta B AM H I J N Rt S T;try dsimp only [Ps]
 refine (ST.start w).An λ b2 w1 _ B1 S=>?_;have h1:Rd w1 (some ⟨b2,0,none⟩) (([1]:List UInt8).map Ag):=S.F0 0 rfl;refine (Ga (l:=[1]) (c:=1) h1 Osi (aj.grown B1) hn hq).mono ?_;rintro _ w2 ⟨_,rfl,h2⟩;rcases h2 with ⟨hR,rfl,B2⟩ | ⟨hR,a',c',rfl,h2⟩
 ·refine⟨_,_,_,_,rfl,Aw Ca (l:=[]) rfl (Rd.nil _ _) ⟨_,rfl,?_,Ac B1 B2⟩⟩;simp [WC,hR]
 ·refine⟨_,_,_,_,rfl,Aw Ca rfl h2.rd ⟨_,rfl,?_,Ac B1 h2.Ar⟩⟩;simp [WC,hR,L3]
theorem Ra(x y:Int)(w:World):Cw 47 #[.int .i64 x,.int .i64 y] w λ v w'=>v=.bool (decide (y<=x/\x<=4611686018427387904))/\w'=w:=by
 apply I4
 delta F G;try dsimp only [Ps]
 refine Aa (λ h=>⟨?_,rfl⟩) (λ h=>⟨?_,rfl⟩)
 ·congr 1;have:y<=x:=h;simp [this]
 ·congr 1;have:¬ y<=x:=h;simp [this]
theorem Tb{l:List UInt8}(hl:Rd w a (l.map Ag)):Cw 50 #[.slice a l.length c] w λ v w'=>v=(if 262144<l.length then .tuple #[.string (Bu []),.int .i64 130] else .tuple #[.string (Bu l),.int .i64 0])/\w'=w:=by
 apply JR
 delta F H I Rt S T;try dsimp only [Ps]
 refine Aa (λ h=>⟨?_,rfl⟩) (λ h=>Aw Ca rfl hl ⟨_,rfl,?_,rfl⟩)
 ·rw [if_pos Omg];rfl
 ·rw [if_neg Omg]
theorem AbI(x y:Int)(aj:Rd w a (BF cs))(hn:cs.length<=9223372036854775807)(hq:∀ c∈cs,c.1.size<=9223372036854775807)(hr:A9 w a2 ps)(hm:ps.length<=9223372036854775807)(hv:∀ r∈rws ps,∀ v∈r,BM v) :
  Cw 19 #[.int .i64 x,.int .i64 y,.slice a cs.length c,.slice a2 ps.length c2] w λ v w'=>v=Kv x y cs (rws ps)/\Below w.heap.size w w':=by
 apply Ke
 delta B AM H3 Cb Cs F H I J N S T U Wu Zsi;try dsimp only [Ps]
 have eD:(FQ x y\/rws ps=[])->∀ {wx:World},Below w.heap.size w wx->Value.tuple #[.string ⟨#[]⟩,.int .i64 2]=Kv x y cs (rws ps)/\Below w.heap.size w wx:=λ h wx B=>by
  have e:Je x y cs (rws ps)=2:=if_pos h;refine⟨?_,B⟩;rw [Kv,e,if_neg Ode];rfl
 refine (Ra x 0 w).mono ?_;rintro _ w1 ⟨_,rfl,rfl,rfl⟩;refine⟨_,rfl,As (Aa (λ h1=>?_) (λ h1=>eD (.inl (by unfold FQ;omega)) (.refl _ _)))⟩;refine (Ra y 1 w1).mono ?_;rintro _ w1 ⟨_,rfl,rfl,rfl⟩;refine⟨_,rfl,As (Aa (λ h2=>?_) (λ h2=>eD (.inl (by unfold FQ;omega)) (.refl _ _)))⟩;refine Ap (λ h=>eD (.inr ?_) (.refl _ _)) (λ h3=>?_)
 ·have:ps.length=0:=Omg;rw [List.length_eq_zero_iff.1 this];rfl
 have aP:¬ (FQ x y\/rws ps=[]):=by
  rintro (h | h)
  ·unfold FQ at h;omega
  ·apply h3;have:ps.length=0:=by simpa [rws] using h
   omega
 refine (ST.start w1).An λ b9 w3 _ _ S=>?_;have dz:Rd w3 (some ⟨b9,0,none⟩) (([2]:List UInt8).map Ag):=S.F0 0 rfl;have ex:IntKind.u64.wrap x=((x.toNat:Nat):Int):=by rw [Aj Omg Omg];omega
 have ey:IntKind.u64.wrap y=((y.toNat:Nat):Int):=by rw [Aj Omg Omg];omega
 rw [ex,ey];have dx:=Ah (n:=x.toNat) Omg;have dy:=Ah (n:=y.toNat) Omg;refine (AE (c:=1) [2] dz x.toNat Omg Osi).mono ?_;rintro _ w4 ⟨_,rfl,a4,c4,rfl,h4⟩;have S:=Ba S h4;refine⟨_,_,_,rfl,(AE _ h4.rd y.toNat Omg (by simp only [Aiq,Ais,AjE];omega)).mono ?_⟩;rintro _ w5 ⟨_,rfl,a5,c5,rfl,h5⟩;have S:=Ba S h5;obtain⟨l5,ly⟩:∃ l5,l5=[2]++Af x.toNat++Af y.toNat:=⟨_,rfl⟩;rw [<- ly] at h5 S ⊢;have wG:l5.length<=21:=by rw [ly];simp only [Aiq,Ais,AjE];omega
 refine⟨_,_,_,rfl,(Ga (l:=l5) h5.rd Omg (aj.grown S.Ar) hn hq).mono ?_⟩;rintro _ w6 ⟨_,rfl,h6⟩;have jF:∀(e:Int),DW cs (rws ps)=e->e≠0->∀ {wx:World},Below w1.heap.size w1 wx->Value.tuple #[.string ⟨#[]⟩,.int .i64 e]=Kv x y cs (rws ps)/\Below w1.heap.size w1 wx:=λ e he h0 wx B=>by
  have e2:Je x y cs (rws ps)=e:=by rw [Je,if_neg aP,he,if_pos h0]
  refine⟨?_,B⟩;rw [Kv,e2,if_neg h0];rfl
 rcases h6 with ⟨hR,rfl,B6⟩ | ⟨hR,a6,c6,rfl,h6⟩
 ·refine⟨_,_,_,_,rfl,λ s wx=>s=[.slice none 0 0,.int .i64 50]/\wx=w6,Ap (λ h=>by cases h) (λ _=>⟨rfl,rfl⟩),?_⟩;rintro _ _ _ _ wx ⟨hs,rfl⟩;cases hs;exact Ai (λ _=>jF 50 (by rw [DW,if_pos hR]) Ode (Ac S.Ar B6)) (λ h=>by cases h)
 ·have S:=Ba S h6;have bF:=Fy hR;obtain⟨l6,hl6⟩:∃ l6,l6=l5++Cx cs:=⟨_,rfl⟩;rw [<- hl6] at h6 S ⊢;have wH:l6.length<=10000:=by rw [hl6,Aiq];omega
  refine⟨_,_,_,_,rfl,λ s wx=>Below w1.heap.size w1 wx/\((DW cs (rws ps)≠0/\s=[.slice none 0 0,.int .i64 (DW cs (rws ps))])\/(Br cs (rws ps)/\∃ a c,s=[.slice a (l6++Fx (rws ps)).length c,.int .i64 0]/\Rd wx a ((l6++Fx (rws ps)).map Ag))),
   Ap (λ _=>?_) (λ h=>absurd rfl h),?_⟩
  ·refine (Pd (c:=c6) (c2:=c) (c3:=c2) h6.rd Omg (aj.grown S.Ar) hn hq (hr.grown S.Ar) hm hv).mono ?_;rintro _ w7 ⟨_,rfl,h7⟩;rcases h7 with ⟨_,rfl,h0,B7⟩ | ⟨aK,a7,c7,rfl,h7⟩
   ·exact⟨_,_,_,_,rfl,Ac S.Ar B7,.inl ⟨h0,rfl⟩⟩
   ·exact⟨_,_,_,_,rfl,Ac S.Ar h7.Ar,.inr ⟨aK,a7,c7,rfl,h7.rd⟩⟩
  ·rintro _ _ _ _ wx ⟨B,hs⟩;rcases hs with ⟨h0,hs⟩ | ⟨aK,a7,c7,hs,cm⟩
   ·cases hs;exact Ai (λ _=>jF _ rfl h0 B) (λ h=>absurd h h0)
   ·cases hs;have h0:DW cs (rws ps)=0:=by
     by_cases h:DW cs (rws ps)=0
     ·exact h
     ·exact absurd aK (Lj h)
    refine Ai (λ h=>absurd rfl h) (λ _=>(Tb cm).mono ?_);rintro _ w9 ⟨_,rfl,rfl,rfl⟩;have e:l6++Fx (rws ps)=Hl x.toNat y.toNat cs (rws ps):=by rw [hl6,ly,Hl];simp
    rw [e];by_cases hb:262144<(Hl x.toNat y.toNat cs (rws ps)).length
    ·rw [if_pos hb];refine⟨_,_,rfl,?_,B⟩;have e2:Je x y cs (rws ps)=130:=by rw [Je,if_neg aP,if_neg (by rw [h0];decide),if_pos hb]
     rw [Kv,e2,if_neg Ode]
    ·rw [if_neg hb];refine⟨_,_,rfl,?_,B⟩;have e2:Je x y cs (rws ps)=0:=by rw [Je,if_neg aP,if_neg (by rw [h0];decide),if_neg hb]
     rw [Kv,e2,if_pos rfl]
theorem Wt(w:World):Cw 10 #[] w λ v w'=>∃ bc bm,v=.pointer (some ⟨bc,0,none⟩)/\ST w w' (Bh bc none 0 none 0 bm 0 ⟨[],[],[]⟩):=by
 apply Of
 delta J M N O P Rm;try dsimp only [Ps]
 refine (ST.start w).Afx (k:=2) 71 (λ bm w1 S hb=>⟨_,rfl,S.An λ b3 w2 _ _ S=>⟨b3,bm,rfl,?_⟩⟩) rfl;have S:ST w w2 (It.cells b3 #[.slice none 0 0,.slice none 0 0,.map (some bm)] 73 :: It.US Aix 2 bm 0 (Su []) :: []):=by
  rw [Afg];exact S
 have S:=(S.nil 49 2).nil 102 3;exact S.pull 2 rfl
end
section
variable {w0 w:World}{H:List It}{a a2 a3:Option Addr}{c c2 c3:Nat}{l:List UInt8}{cs:List Bv}{ps:List BH}
set_option maxHeartbeats 1000000 in
theorem QB(hl:Rd w a (l.map Ag))(hs:l.length+20000000<=140737488355328)(aj:Rd w a2 (BF cs))(hn:cs.length<=9223372036854775807)(hq:∀ c∈cs,c.1.size<=9223372036854775807)(hr:A9 w a3 ps)(hm:ps.length<=9223372036854775807)(hv:∀ r∈rws ps,∀ v∈r,BM v) :
  Cw 52 #[.slice a l.length c,.slice a2 cs.length c2,.slice a3 ps.length c3] w λ v w'=>Vf l cs (rws ps) w w' v:=by
 apply L9
 delta Ad AM Cb Cs E F H I Ks Li Ls Lt O Eg S T U W Wu X;try dsimp only [Ps]
 refine (DE aj hn hq).mono ?_;rintro _ w1 ⟨_,rfl,rfl,rfl⟩;have bad:∀ {wx:World} (e:Int),Below w1.heap.size w1 wx->DW cs (rws ps)=e->e≠0->Vf l cs (rws ps) w1 wx (.tuple #[.slice none 0 0,.int .i64 e]):=by
  rintro wx e B rfl h0;exact .inl ⟨Lj h0,rfl,h0,B⟩
 have S:=ST.start w1;refine⟨_,rfl,As (Aq (λ hR=>?_) (λ hR=>bad 50 S.Ar (by rw [DW,if_pos hR]) Ode))⟩;have gp:¬ Ao cs=false:=by rw [hR];decide
 refine Aa (λ h=>bad 51 S.Ar ?_ Ode) (λ hlen=>?_)
 ·have:1024<(rws ps).length:=by simp only [rws,List.length_map];omega
  rw [DW,if_neg gp,if_pos (.inl this)]
 have bN:ps.length<=1024:=Omg;have bQ:=AX hR;rw [Aj Omg Omg];have d1:=Ah (n:=ps.length) Omg;refine (Bf l hl ps.length Omg Omg).mono ?_;rintro _ w2 ⟨_,rfl,jC,il,rfl,h2⟩;have S:=Ba S h2;have sj:(rws ps).length=ps.length:=by simp [rws]
 have jV:∀ {wx:World} (r:List AD),Below w1.heap.size w1 wx->r∈rws ps->CT cs r=false->Vf l cs (rws ps) w1 wx (.tuple #[.slice none 0 0,.int .i64 51]):=λ r B h1 h2 =>
  bad 51 B (by rw [DW,if_neg gp,if_pos (.inr ⟨r,h1,h2⟩)]) Ode
 have gT:∀ i,i<=ps.length->(∀ r∈(rws ps).take i,CT cs r=true)->(((rws ps).take i).flatMap Jx).length<=17039360:=λ i hi hf=>by
  have eS:Br cs ((rws ps).take i):=⟨hR,by rw [List.length_take];omega,hf,λ r hr=>hv r (List.mem_of_mem_take hr)⟩;have:=V2 (i:=((rws ps).take i).length) eS;rwa [List.take_length] at this
 refine⟨_,_,_,rfl,λ s wx=>∃(i:Nat) (out:List UInt8) (oa:Option Addr) (oc:Nat),s=[.slice oa out.length oc,.int .i64 (i:Int)]/\i<=ps.length/\out=l++Af ps.length++((rws ps).take i).flatMap Jx/\(∀ r∈(rws ps).take i,CT cs r=true)/\ST w1 wx [BW oa oc out],λ s _=>match s with
  | [_,.int _ i]=>ps.length-i.toNat
  | _=>0,⟨0,_,jC,il,rfl,Omg,Osi,Osi,S⟩,?_⟩
 clear S h2;rintro oa _ oc _ w4 ⟨i,out,_,_,aA,hi,bE,cf,S⟩;cases aA;refine Aa (λ aB=>?_) (λ aJ=>?_)
 ·have aD:i<ps.length:=Omg;have ni:i<(rws ps).length:=Omg;obtain⟨q,rfl,mB,mD⟩:=(hr.grown S.Ar).at aD;have ei:(rws ps)[i]=ps[i].2.2:=by simp [rws]
  have cC:out.length<=l.length+10+17039360:=by rw [bE];simp only [Aiq];have:=gT i hi cf;omega
  refine⟨⟨Omg,Omg⟩,_,_,_,by rw [Ait];exact mB,?_⟩;have aV:ps[i].2.2∈rws ps:=by rw [<- ei];exact List.getElem_mem ni
  refine (Ih (aj.grown S.Ar) hn hq mD).mono ?_;rintro _ w6 ⟨_,rfl,rfl,B6⟩;have S:=S.grown B6;rw [hR,Ake];refine⟨_,rfl,As (Aq (λ hf=>?_) (λ hf=>jV _ S.Ar aV hf))⟩;obtain⟨row,aI⟩:∃ row,row=ps[i].2.2:=⟨_,rfl⟩;rw [<- aI] at hf aV ei;have lK:=IB hf;have aK:=hv row aV;have z7:=SI (cs:=cs) (rows:=[row]) ⟨hR,Osi,λ r hr=>by rw [Ajo.1 hr];exact hf,λ r hr=>by rw [Ajo.1 hr];exact aK⟩ (Ajo.2 rfl);refine⟨λ s wx=>∃(k:Nat) (ib:List UInt8) (oa:Option Addr) (oc:Nat),s=[.slice oa ib.length oc,.int .i64 (k:Int)]/\k<=cs.length/\ib=out++(row.take k).flatMap Cr/\ST w1 wx [BW oa oc ib],λ s _=>match s with
   | [_,.int _ i]=>cs.length-i.toNat
   | _=>0,⟨0,out,_,_,rfl,Omg,Osi,S⟩,?_⟩
  clear S;rintro oa _ oc _ w7 ⟨k,ib,_,_,aA,hk,iB,S⟩;cases aA;refine Aa (λ av=>?_) (λ bz=>?_)
  ·have aO:k<row.length:=Omg;obtain⟨q5,hq5,hq6,hrv7⟩:=(hr.grown S.Ar).at aD;cases hq5;rw [<- aI] at hq6 hrv7;obtain⟨q2,iV,e0,e1,e2⟩:=Db hrv7 aO;rw [iV] at hq6;refine⟨⟨Omg,Omg⟩,_,_,_,by rw [Ait];exact hq6,?_⟩;refine⟨⟨Omg,Omg⟩,_,by rw [Ait];exact e0,_,by rw [Ait];exact e1,_,by rw [Ait];exact e2,?_⟩;refine (Jv (a:=none) (c:=0) [] (Rd.nil _ _) row[k] (aK _ (List.getElem_mem aO)) Osi).mono ?_;rintro _ bL ⟨_,rfl,fI⟩;obtain⟨xa,xc,rfl,n12⟩:=IF (Tq hf aO) fI;rw [List.nil_append] at n12 ⊢;have S:=S.grown n12.Ar;have cl:((row.take k).flatMap Cr).length+(Cr row[k]).length<=(Jx row).length:=by
    rw [<- Aiq,show (row.take k).flatMap Cr++Cr row[k]=(row.take (k+1)).flatMap Cr by rw [Ajl aO,Aj8];simp];have e:Jx row=(row.take (k+1)).flatMap Cr++(row.drop (k+1)).flatMap Cr:=by rw [<- Aj8,List.take_append_drop];rfl
    rw [e,Aiq];omega
   refine⟨_,_,_,_,rfl,Xd S 0 rfl rfl n12.rd (by rw [iB,Aiq];omega) λ a' c' au S=>⟨_,_,_,rfl,?_⟩⟩;rw [Ae Omg];refine⟨⟨k+1,ib++Cr row[k],a',c',rfl,Omg,?_,S⟩,by simp only [Ait];omega⟩;rw [iB,Ajl aO,Aj8];simp
  ·obtain rfl:k=cs.length:=Omg;rw [Ae Omg];rw [List.take_of_length_le Omg] at iB;refine⟨⟨i+1,ib,_,_,rfl,Omg,?_,λ r gV=>?_,S⟩,by simp only [Ait];omega⟩
   ·rw [iB,bE,Ajl ni,Aj8,ei];simp [Jx]
   ·rw [Ajl ni] at gV;rcases List.mem_append.1 gV with h | h
    ·exact cf r h
    ·rw [Ajo.1 h,ei];exact hf
 ·obtain rfl:i=ps.length:=Omg;rw [List.take_of_length_le Omg] at bE cf;have aK:Br cs (rws ps):=⟨hR,Omg,cf,hv⟩;have e:out=l++Fx (rws ps):=by rw [bE,Fx,sj,Air]
  subst e;exact .inr ⟨aK,_,_,rfl,Y5 S 0 rfl⟩
theorem Sb(aj:Rd w a (BF cs))(hn:cs.length<=9223372036854775807)(hq:∀ c∈cs,c.1.size<=9223372036854775807) :
  Cw 18 #[.slice a cs.length c] w λ v w'=>v=WC cs/\Below w.heap.size w w':=by
 apply Nu
 delta B AM F H I J N Rt S T;try dsimp only [Ps]
 refine (ST.start w).An λ b2 w1 _ B1 S=>?_;have h1:Rd w1 (some ⟨b2,0,none⟩) (([1]:List UInt8).map Ag):=S.F0 0 rfl;refine (Jw (l:=[1]) (c:=1) h1 Osi (aj.grown B1) hn hq).mono ?_;rintro _ w2 ⟨_,rfl,h2⟩;rcases h2 with ⟨hR,rfl,B2⟩ | ⟨hR,a',c',rfl,h2⟩
 ·refine⟨_,_,_,_,rfl,Ai (λ _=>⟨?_,Ac B1 B2⟩) (λ h=>by cases h)⟩;simp [WC,hR];rfl
 ·refine⟨_,_,_,_,rfl,Ai (λ h=>absurd rfl h) (λ _=>Aw Ca rfl h2.rd ⟨_,rfl,?_,Ac B1 h2.Ar⟩)⟩;simp [WC,hR,L3]
theorem Sc(x y:Int)(aj:Rd w a (BF cs))(hn:cs.length<=9223372036854775807)(hq:∀ c∈cs,c.1.size<=9223372036854775807)(hr:A9 w a2 ps)(hm:ps.length<=9223372036854775807)(hv:∀ r∈rws ps,∀ v∈r,BM v) :
  Cw 20 #[.int .i64 x,.int .i64 y,.slice a cs.length c,.slice a2 ps.length c2] w λ v w'=>v=Kv x y cs (rws ps)/\Below w.heap.size w w':=by
 apply Nv
 delta B AM Cs F H I J N Rt S T U Wu;try dsimp only [Ps]
 have eD:(FQ x y\/rws ps=[])->Value.tuple #[.string ⟨#[]⟩,.int .i64 2]=Kv x y cs (rws ps)/\Below w.heap.size w w:=λ h=>by
  have e:Je x y cs (rws ps)=2:=if_pos h;refine⟨?_,.refl _ _⟩;rw [Kv,e,if_neg Ode];rfl
 refine Aa (λ h=>eD (.inl (.inl h))) (λ h1=>Aa (λ h=>eD (.inl (.inr (.inl h)))) (λ h2=>Aa (λ h=>eD (.inl (.inr (.inr (.inl h))))) (λ h3=>Aa (λ h=>eD (.inl (.inr (.inr (.inr h))))) (λ h4=>Ap (λ h=>eD (.inr ?_)) (λ h5=>?_)))))
 ·have:ps.length=0:=Omg;rw [List.length_eq_zero_iff.1 this];rfl
 have aP:¬ (FQ x y\/rws ps=[]):=by
  rintro (h | h)
  ·unfold FQ at h;omega
  ·apply h5;have:ps.length=0:=by simpa [rws] using h
   omega
 refine (ST.start w).An λ b9 w3 _ _ S=>?_;have dz:Rd w3 (some ⟨b9,0,none⟩) (([2]:List UInt8).map Ag):=S.F0 0 rfl;have ex:IntKind.u64.wrap x=((x.toNat:Nat):Int):=by rw [Aj Omg Omg];omega
 have ey:IntKind.u64.wrap y=((y.toNat:Nat):Int):=by rw [Aj Omg Omg];omega
 rw [ex,ey];have dx:=Ah (n:=x.toNat) Omg;have dy:=Ah (n:=y.toNat) Omg;refine (Bf (c:=1) [2] dz x.toNat Omg Osi).mono ?_;rintro _ w4 ⟨_,rfl,a4,c4,rfl,h4⟩;have S:=Ba S h4;refine⟨_,_,_,rfl,(Bf _ h4.rd y.toNat Omg (by simp only [Aiq,Ais,AjE];omega)).mono ?_⟩;rintro _ w5 ⟨_,rfl,a5,c5,rfl,h5⟩;have S:=Ba S h5;obtain⟨l5,ly⟩:∃ l5,l5=[2]++Af x.toNat++Af y.toNat:=⟨_,rfl⟩;rw [<- ly] at h5 S ⊢;have wG:l5.length<=21:=by rw [ly];simp only [Aiq,Ais,AjE];omega
 refine⟨_,_,_,rfl,(Jw (l:=l5) h5.rd Omg (aj.grown S.Ar) hn hq).mono ?_⟩;rintro _ w6 ⟨_,rfl,h6⟩;have jF:∀(e:Int),DW cs (rws ps)=e->e≠0->∀ {wx:World},Below w.heap.size w wx->Value.tuple #[.string ⟨#[]⟩,.int .i64 e]=Kv x y cs (rws ps)/\Below w.heap.size w wx:=λ e he h0 wx B=>by
  have e2:Je x y cs (rws ps)=e:=by rw [Je,if_neg aP,he,if_pos h0]
  refine⟨?_,B⟩;rw [Kv,e2,if_neg h0];rfl
 rcases h6 with ⟨hR,rfl,B6⟩ | ⟨hR,a6,c6,rfl,h6⟩
 ·exact⟨_,_,_,_,rfl,Ai (λ _=>jF 50 (by rw [DW,if_pos hR]) Ode (Ac S.Ar B6)) (λ h=>by cases h)⟩
 have S:=Ba S h6;have bF:=Fy hR;obtain⟨l6,hl6⟩:∃ l6,l6=l5++Cx cs:=⟨_,rfl⟩;rw [<- hl6] at h6 S ⊢;have wH:l6.length<=10000:=by rw [hl6,Aiq];omega
 refine⟨_,_,_,_,rfl,Ai (λ h=>absurd rfl h) (λ _=>(QB (c:=c6) (c2:=c) (c3:=c2) h6.rd Omg (aj.grown S.Ar) hn hq (hr.grown S.Ar) hm hv).mono ?_)⟩;rintro _ w7 ⟨_,rfl,h7⟩;rcases h7 with ⟨_,rfl,h0,B7⟩ | ⟨aK,a7,c7,rfl,h7⟩
 ·exact⟨_,_,_,_,rfl,Ai (λ _=>jF _ rfl h0 (Ac S.Ar B7)) (λ h=>absurd h h0)⟩
 have h0:DW cs (rws ps)=0:=by
  by_cases h:DW cs (rws ps)=0
  ·exact h
  ·exact absurd aK (Lj h)
 have e:l6++Fx (rws ps)=Hl x.toNat y.toNat cs (rws ps):=by rw [hl6,ly,Hl];simp
 rw [e] at h7 ⊢;refine⟨_,_,_,_,rfl,Ai (λ h=>absurd rfl h) (λ _=>Aa (λ hb=>⟨?_,Ac S.Ar h7.Ar⟩) (λ hb=>Aw Ca rfl h7.rd ⟨_,rfl,?_,Ac S.Ar h7.Ar⟩))⟩
 ·have e2:Je x y cs (rws ps)=130:=by rw [Je,if_neg aP,if_neg (by rw [h0];decide),if_pos Omg]
  rw [Kv,e2,if_neg Ode];rfl
 ·have e2:Je x y cs (rws ps)=0:=by rw [Je,if_neg aP,if_neg (by rw [h0];decide),if_neg Omg]
  rw [Kv,e2,if_pos rfl]
end
theorem TY(ps:List FG):∀ u∈Bw ps,u.oneCell'=true:=by
 intro u hu;obtain⟨v,_,hv⟩:=List.mem_flatMap.1 hu;simp only [Qr,Aia,Aju,or_false] at hv;rcases hv with rfl | rfl <;> rfl
theorem AbB{w:World}{a:Option Addr}{c:Nat}{vs:List FG}(h:Rd w a (Bw vs))(hl:vs.length<=100000):Cw 40 #[.slice a vs.length c] w λ v w'=>∃ a' c',v=.slice a' vs.length c'/\ST w w' [EO a' c' vs]:=by
 apply ER
 delta F J Ks N O S;try dsimp only [Ps]
 cases a with
 | none =>
  have:=SF (k:=1) (λ _=>rfl) h;subst this;exact CG ⟨none,0,rfl,(ST.start w).nil _ _⟩
 | some q =>
  refine AN ((ST.start w).An λ b2 w1 _ B1 S=>?_);have S:=S.H7 0 rfl (.refl _ _) (It.row 49 2 (some ⟨b2,0,none⟩) 0 0 []) (QQ (S.CA 0 rfl)) (λ k hk=>.inl hk);refine S.app 0 rfl Rq rfl Omg Omg (h.grown B1) (mm:=vs.length) (Es vs) (TY vs) Omg λ a' c' w' S=>⟨_,_,_,rfl,a',c',by rw [Nat.zero_add],?_⟩;simp only [Nat.zero_add,List.nil_append] at S;exact S
section
variable {w0 w:World}{H:List It}{bc bm n N cc pc:Nat}{ca pa:Option Addr}{C:Bq}
theorem Adg(S:ST w0 w (Bh bc ca cc pa pc bm n C++H))(hC:C.parts.length<=256):Cw 13 #[.pointer (some ⟨bc,0,none⟩)] w λ v w'=>∃ a' c',v=.slice a' C.parts.length c'/\ST w w' [EO a' c' C.parts]:=by
 apply GJ
 delta Cs F Ls O S;try dsimp only [Ps]
 refine AN ⟨_,_,_,S.cell 0 rfl rfl,(AbB (S.rd 2 rfl) Omg).mono ?_⟩;rintro _ w1 ⟨_,rfl,a',c',rfl,T⟩;exact⟨_,_,_,rfl,a',c',rfl,T⟩
theorem Wz(S:ST w0 w (Bh bc ca cc pa pc bm n C++H))(bJ:ca=none↔C.Ay=[])(hN:n<=N)(s:ByteArray)(h1:(Az s 0).toNat=1)(h0:0<s.size)(hle:s.size<=262144) :
  Calls Aix 12 #[.pointer (some ⟨bc,0,none⟩),.string s] w (SV (UD w0 H bc bm (N+1) (AeU C (bl s)))):=by
 have an:=AW s;refine MK S bJ hN s (λ h=>Omg) (λ rf bW _ _ H' b a c wx hc S=>?_);rcases bW with ⟨_,rfl⟩ | ⟨h,_⟩ | ⟨h,_⟩
 ·exact Vq S hc Omg bJ hN
 ·omega
 ·omega
theorem Ob(T:Hb w0)(S:ST w0 w (Bh bc ca cc pa pc bm n C++H))(hC:Iv C)(bJ:ca=none↔C.Ay=[])(hN:n<=N)(kj:N<1000000)(s:ByteArray)(h1:(Az s 0).toNat=2)(h0:0<s.size)(hle:s.size<=262144) :
  Calls Aix 12 #[.pointer (some ⟨bc,0,none⟩),.string s] w (SV (UD w0 H bc bm (N+1) (AeV C (bl s)))):=by
 have an:=AW s;refine MK S bJ hN s (λ h=>Omg) (λ rf bW _ _ H' b a c wx hc S=>?_);rcases bW with ⟨h,_⟩ | ⟨_,rfl⟩ | ⟨h,_⟩
 ·omega
 ·exact VE T S hc Omg hC bJ hN kj
 ·omega
end
theorem Vp(w:World):Cw 30 #[] w λ v w'=>∃ b,v=.slice (some ⟨b,0,none⟩) 1 1/\ST w w' [It.cells b #[.string ⟨#[97]⟩,.int .i64 1,.bool false] 102]:=by
 apply MZ
 delta G I J N S T;try dsimp only [Ps]
 exact (ST.start w).An λ b w1 _ _ S=>⟨b,rfl,S⟩
theorem Aeb(x:Int)(w:World):Cw 31 #[.int .i64 x] w λ v w'=>∃ b,v=.slice (some ⟨b,0,none⟩) 1 1/\ST w w' [It.cells b #[.int .i64 1,.int .i64 x,.string ⟨#[]⟩] 120]:=by
 apply RN
 delta I J N S T;try dsimp only [Ps]
 exact (ST.start w).An λ b w1 _ _ S=>⟨b,rfl,S⟩
def NP:List Bv:=[(⟨#[97]⟩,1,false)]
def FL:List (List AD):=[[(1,5,⟨#[]⟩)],[(1,6,⟨#[]⟩)]]
theorem Nx:Ao NP=true:=by kernel_rfl
theorem ok0:Br NP FL where
 right:=Nx
 len:=Ode
 fits:=λ r hr=>by
  simp only [FL,Aia,Aju,or_false] at hr;rcases hr with rfl | rfl <;> kernel_rfl
 ok:=λ r hr v hv=>by
  simp only [FL,Aia,Aju,or_false] at hr;rcases hr with rfl | rfl
  ·rw [Ajo.1 hv];exact⟨Ode,Ode⟩
  ·rw [Ajo.1 hv];exact⟨Ode,Ode⟩
theorem AhR:DW NP FL=0:=by
 by_cases h:DW NP FL=0
 ·exact h
 ·exact absurd ok0 (Lj h)
theorem Ahe:(Hl 7 1 NP FL).length<=40000:=by
 have h1:=Ah (n:=7) Omg;have h2:=Ah (n:=1) Omg;have h3:=Fy Nx;have h4:=Ah (n:=2) Omg;have h5:=SI ok0 (r:=[(1,5,⟨#[]⟩)]) (by simp [FL]);have h6:=SI ok0 (r:=[(1,6,⟨#[]⟩)]) (by simp [FL]);have e:Fx FL=Af 2++(Jx [(1,5,⟨#[]⟩)]++(Jx [(1,6,⟨#[]⟩)]++[])):=rfl;simp only [Hl,Ais,Aiq,e,AjE];omega
theorem Ahd:Je 7 1 NP FL=0:=by
 have h1:¬ (FQ 7 1\/FL=[]):=by
  rintro (h | h)
  ·unfold FQ at h;omega
  ·cases h
 have h2:=Ahe;rw [Je,if_neg h1,if_neg (by rw [AhR];decide),if_neg];show ¬ 262144<(Hl 7 1 NP FL).length;omega
theorem Ady{cs:List Bv}(hR:Ao cs=true):A7 (L3 cs) 1=some (cs,(L3 cs).length):=by
 have:=GW hR (l:=L3 cs) (at_:=1) (r:=[]) (by simp [L3]);rw [show ((1:Nat):Int)=1 from rfl] at this;rw [this];simp [L3];omega
theorem AdT{x y:Nat}{cs:List Bv}{rows:List (List AD)}(hx:x<=A3)(kA:1<=y)(hy:y<=A3)(hs:Br cs rows)(aQ:rows≠[]):WQ (Hl x y cs rows) 1=some ((x,y,cs,rows),(Hl x y cs rows).length):=by
 have gx:x<18446744073709551616:=by unfold A3 at hx;omega
 have gy:y<18446744073709551616:=by unfold A3 at hy;omega
 have h1:=Bo (l:=Hl x y cs rows) (at_:=1) (r:=Af y++(Cx cs++Fx rows)) gx (by simp [Hl]);have d1:(Hl x y cs rows).drop (1+(Af x).length)=Af y++(Cx cs++Fx rows):=by
  rw [<- List.drop_drop];simp [Hl]
 have h2:=Bo gy d1;have d2:(Hl x y cs rows).drop (1+(Af x).length+(Af y).length)=Cx cs++Fx rows:=Dw d1;have h3:=GW hs.right d2;have d3:(Hl x y cs rows).drop (1+(Af x).length+(Af y).length+(Cx cs).length)=Fx rows++[]:=by rw [Dw d2,List.append_nil]
 have h4:=U8 hs d3;unfold WQ Ei;rw [h1,AjK,if_pos ⟨by simp only;omega,hx⟩,AjK];simp only;rw [h2,AjK,if_pos ⟨kA,hy⟩,AjK];simp only;rw [h3,AjK];simp only;rw [h4,AjK,if_neg aQ];simp only [Hl,Ais,Aiq,Option.some.injEq,Prod.mk.injEq,true_and];omega
theorem Afk(x y:Nat)(cs:List Bv)(rows:List (List AD)):0<(Hl x y cs rows).length:=by simp [Hl]
theorem Ads{C:Bq}{cs:List Bv}(hR:Ao cs=true){d:Nat × Nat}{fs:List H5}{C':Bq}(h:AeU C (L3 cs) d fs C'):AbD C cs d fs C':=by
 have hb:=Ady hR;rcases h with ⟨aC,h1,h2⟩ | ⟨h1,_⟩
 ·rw [hb] at h1;obtain⟨rfl,_⟩:=Akc (Ajx h1);exact h2
 ·exact absurd hb (h1 cs)
theorem XQ{C:Bq}{x y:Nat}{cs:List Bv}{rows:List (List AD)}(hx:x<=A3)(kA:1<=y)(hy:y<=A3)(hs:Br cs rows)(aQ:rows≠[]){d:Nat × Nat}{fs:List H5}{C':Bq}(h:AeV C (Hl x y cs rows) d fs C'):MG C x y cs rows d fs C':=by
 have hb:=AdT hx kA hy hs aQ;rcases h with ⟨z,h1,h2⟩ | ⟨h1,_⟩
 ·rw [hb] at h1;obtain⟨rfl,_⟩:=Akc (Ajx h1);exact h2
 ·exact absurd hb (h1 _)
theorem Acg{d:Nat × Nat}{fs:List H5}{C':Bq}(h:MG ⟨NP,[],[]⟩ 7 1 NP FL d fs C'):∃ nm dt,d=(0,2)/\fs=[(nm,dt)]/\nm.size=64/\C'=⟨NP,[(nm,2)],[(7,1,0,2)]⟩:=by
 rcases h with ⟨t,ht,_⟩ | ⟨t,ht,_⟩ | ⟨_,h,_⟩ | ⟨_,_,C1,hA,rfl⟩
 ·cases ht
 ·cases ht
 ·cases h
 ·rcases hA with ⟨h,_⟩ | ⟨_,h,_⟩ | ⟨_,_,b,hb,rfl,rfl,rfl⟩
  ·exact absurd rfl h
  ·cases h
  ·exact⟨_,_,rfl,rfl,Jl _,rfl⟩
theorem Acf{nm:ByteArray}{d:Nat × Nat}{fs:List H5}{C':Bq}(h:MG ⟨NP,[(nm,2)],[(7,1,0,2)]⟩ 7 1 NP FL d fs C'):d=(0,2)/\fs=[]/\C'=⟨NP,[(nm,2)],[(7,1,0,2)]⟩:=by
 have hm:mapOf [(7,1,0,2)] 7=some (1,0,2):=Ode;rcases h with ⟨t,ht,_,rfl,rfl,rfl⟩ | ⟨t,ht,h,_⟩ | ⟨h,_⟩ | ⟨h,_⟩
 ·have ht:mapOf [(7,1,0,2)] 7=some t:=ht;rw [hm] at ht;cases ht;exact⟨rfl,rfl,rfl⟩
 ·have ht:mapOf [(7,1,0,2)] 7=some t:=ht;rw [hm] at ht;cases ht;exact absurd h Ode
 ·have h:mapOf [(7,1,0,2)] 7=none:=h;rw [hm] at h;cases h
 ·have:=h _ hm;exact absurd this Ode
set_option maxHeartbeats 2000000 in
theorem Aer{w:World}(T:Hb w):Cw 9 #[] w λ v w'=>v=.bool true/\Below w.heap.size w w':=by
 apply OH
 delta A Ab A6 H3 Cp Cs F G I J Li N P S Am T;try dsimp only [Ps]
 refine (Wt w).mono ?_;rintro _ w1 ⟨_,rfl,bc,bm,rfl,S⟩;refine⟨_,rfl,(Vp w1).mono ?_⟩;rintro _ w2 ⟨_,rfl,q1,rfl,P⟩;have S:=S.join P;have yz:∀ c∈NP,c.1.size<=9223372036854775807:=λ c hc=>by rw [Ajo.1 hc];decide
 refine⟨_,_,_,rfl,(AbE (c:=1) (cs:=NP) (S.F0 0 rfl) Ode yz).mono ?_⟩;rintro _ w3 ⟨_,rfl,rfl,B3⟩;have S:=S.grown B3;have e1:WC NP=.tuple #[.string (Bu (L3 NP)),.int .i64 0]:=if_pos Nx;rw [e1];refine⟨_,_,rfl,(Vp w3).mono ?_⟩;rintro _ w4 ⟨_,rfl,q2,rfl,P⟩;have S:=S.join P;refine⟨_,_,_,rfl,(Aeb 5 w4).mono ?_⟩;rintro _ w5 ⟨_,rfl,q3,rfl,P⟩;have S:=S.join P;refine⟨_,_,_,rfl,(Aeb 6 w5).mono ?_⟩;rintro _ w6 ⟨_,rfl,q4,rfl,P⟩;have S:=S.join P;refine⟨_,_,_,rfl,S.An λ jD w7 _ _ S=>?_⟩;have hr:A9 w7 (some ⟨jD,0,none⟩) [(some ⟨q3,0,none⟩,1,[(1,5,⟨#[]⟩)]),(some ⟨q4,0,none⟩,1,[(1,6,⟨#[]⟩)])]:=⟨S.F0 0 rfl,λ p hp=>by
  simp only [Aia,Aju,or_false] at hp;rcases hp with rfl | rfl
  ·exact S.F0 2 rfl
  ·exact S.F0 1 rfl⟩
 refine (AbI (c:=1) (c2:=2) (cs:=NP) 7 1 (S.F0 3 rfl) Ode yz hr Osi ok0.ok).mono ?_;rintro _ w8 ⟨_,rfl,rfl,B8⟩;have S:=S.grown B8;obtain⟨l2,bA⟩:∃ l2,l2=Hl 7 1 NP FL:=⟨_,rfl⟩;have e2:Kv 7 1 NP (rws [((some ⟨q3,0,none⟩:Option Addr),1,[((1:Int),(5:Int),(⟨#[]⟩:ByteArray))]),(some ⟨q4,0,none⟩,1,[(1,6,⟨#[]⟩)])])=.tuple #[.string (Bu l2),.int .i64 0]:=by
  rw [bA];exact if_pos Ahd
 rw [e2];have hlen:=Ahe;have iU:=Afk 7 1 NP FL;rw [<- bA] at hlen iU;have S:ST w w8 (Bh bc none 0 none 0 bm 0 ⟨[],[],[]⟩++[]):=S.drop 5;have bQ:(L3 NP).length<=601:=by have:=Fy Nx;simp only [L3,Ais];omega
 have hcp:0<(L3 NP).length:=by simp [L3]
 refine⟨_,_,rfl,(Wz (N:=0) S ⟨λ _=>rfl,λ _=>rfl⟩ (Ain _) (Bu (L3 NP)) (by rw [LQ,Bn];rfl) (by rw [AP];exact hcp) (by rw [AP];omega)).mono ?_⟩;clear S;rintro _ w9 ⟨_,rfl,d,fs,C1,fa,ca,cc,pa,pc,n1,hQ,rfl,bJ,hn,S⟩;rw [Bn] at hQ;rcases Ads Nx hQ with ⟨h,_⟩ | ⟨_,rfl,rfl,rfl⟩
 ·exact absurd rfl h
 refine⟨_,_,_,_,_,rfl,S.An λ rp bX _ _ S=>S.BD 0 rfl (aC:=#[.int .i64 0,.int .i64 0]) Osi rfl λ aZ S=>S.BD 0 rfl (aC:=#[.int .i64 0,.int .i64 0]) Osi rfl λ bL S=>?_⟩;have S:ST w bL ([It.cells rp #[.int .i64 0,.int .i64 0] 40,It.rd fa (A5 [])]++(Bh bc ca cc pa pc bm n1 ⟨NP,[],[]⟩++[])):=S;have S:=ST.mid (Bh bc ca cc pa pc bm n1 ⟨NP,[],[]⟩) S;have hC0:Iv ⟨NP,[],[]⟩:=⟨Ode,Osi,Osi,.inr Nx⟩;have qi:(Az (Bu l2) 0).toNat=2:=by rw [LQ,Bn,bA];rfl
 refine (Ob (N:=1) T S hC0 bJ hn Ode (Bu l2) qi (by rw [AP];exact iU) (by rw [AP];omega)).mono ?_;clear S;rintro _ al ⟨_,rfl,d,fs,C2,pr,fy,fz,gE,gF,n2,hQ,rfl,iN,iA,S⟩;rw [Bn,bA] at hQ;obtain⟨nm,dt,rfl,rfl,cB,rfl⟩:=Acg (XQ Ode Ode Ode ok0 (by simp [FL]) hQ);refine⟨_,_,_,_,_,rfl,S.An λ pW au _ _ S=>S.BD 0 rfl (aC:=#[.int .i64 0,.int .i64 0]) Osi rfl λ ah S=>S.BD 0 rfl (aC:=#[.int .i64 0,.int .i64 2]) Osi rfl λ cd S=>?_⟩;have S:ST w cd ([It.cells pW #[.int .i64 0,.int .i64 2] 40,It.rd pr (A5 [(nm,dt)])]++(Bh bc fy fz gE gF bm n2 ⟨NP,[(nm,2)],[(7,1,0,2)]⟩++([It.cells rp #[.int .i64 0,.int .i64 0] 40,It.rd fa (A5 [])]++[]))):=S;have S:=ST.mid (Bh bc fy fz gE gF bm n2 ⟨NP,[(nm,2)],[(7,1,0,2)]⟩) S;have yR:Iv ⟨NP,[(nm,2)],[(7,1,0,2)]⟩:=⟨Osi,λ p hp=>by rw [Ajo.1 hp];exact⟨cB,Osi,Osi⟩,λ c hc=>by rw [Ajo.1 hc];exact⟨Ode,⟨Ode,Ode⟩,Ode,Ode⟩,.inr Nx⟩;refine (Ob (N:=2) T S yR iN iA Ode (Bu l2) qi (by rw [AP];exact iU) (by rw [AP];omega)).mono ?_
 clear S;rintro _ cF ⟨_,rfl,d,fs,C3,uP,ph,uA,xe,xf,n3,hQ,rfl,qT,wQ,S⟩;rw [Bn,bA] at hQ;obtain⟨rfl,rfl,rfl⟩:=Acf (XQ Ode Ode Ode ok0 (by simp [FL]) hQ);refine⟨_,_,_,_,_,rfl,S.An λ pY fG _ _ S=>S.BD 0 rfl (aC:=#[.int .i64 0,.int .i64 0]) Osi rfl λ gb S=>S.BD 0 rfl (aC:=#[.int .i64 0,.int .i64 2]) Osi rfl λ eT S=>?_⟩;refine Ap (λ _=>?_) (λ h=>absurd rfl h);refine Ap (λ _=>?_) (λ h=>absurd rfl h);refine⟨_,S.cell 8 rfl rfl,_,S.cell 8 rfl rfl,Aq (λ _=>?_) (λ h=>absurd h Ode)⟩;refine⟨_,S.cell 6 rfl rfl,_,S.cell 6 rfl rfl,Aq (λ _=>?_) (λ h=>absurd h Ode)⟩;refine Ap (λ _=>?_) (λ h=>absurd rfl h);refine⟨_,S.cell 0 rfl rfl,_,S.cell 0 rfl rfl,_,S.cell 6 rfl rfl,_,S.cell 6 rfl rfl,Aq (λ _=>?_) (λ h=>absurd h Ode)⟩;refine Ap (λ _=>?_) (λ h=>absurd rfl h);have S:=S.drop 2;refine (Adg (H:=_) S yR.np).mono ?_;rintro _ gG ⟨_,rfl,a',c',rfl,P⟩;exact⟨_,_,_,rfl,rfl,Ac S.Ar P.Ar⟩
end Go.Proofs.YtpnaifmmggnimaaGreatDoor
