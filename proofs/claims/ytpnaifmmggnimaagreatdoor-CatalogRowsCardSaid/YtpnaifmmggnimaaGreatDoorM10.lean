/-
  Texts of this claim, laid one behind the other by a program of mine (install.py): G.Ct2, G.ReadB, Dn.MapsP, Dn.MapI, G.Cp3, G.Ct3, G.Ct4, G.Ct5, G.IterI, G.Ct6, G.Ct7, G.Ct8, G.Ct9, G.Cw1, G.Ct10, G.Ct11, G.Cw2, G.Cl1, G.Cl2, G.Cl3, G.Cl4, G.Cl5, G.Seg18.
-/
import Derived.Test.YtpnaifmmggnimaaGreatDoorM9
import Derived.Test.YtpnaifmmggnimaaGreatDoorRead
import Derived.Test.YtpnaifmmggnimaaGreatDoorM6
import Derived.Maps.OwnSet
import Derived.Maps.Range
import Derived.Lib.SlKeysI
import Derived.DataShut
import Derived.Shelf.SlIterI.Nil
import Derived.Shelf.SortM.Plain
import Derived.Shelf.SortM.SortNone
import Derived.Ground.GgzProg
import Derived.Ground.SlgmProg
import Derived.Test.YtpnaifmmggnimaaGreatDoorProg
import Derived.Test.YtpnaifmmggnimaaGreatDoorM4
namespace Go.Proofs.YtpnaifmmggnimaaGreatDoor
open _root_.Int renaming toNat_natCast -> Ak4
open _root_.List renaming append_assoc -> Ak2, getElem_mem -> AlI, take_of_length_le -> AlA, take_succ_eq_append_getElem -> AlW
set_option maxRecDepth 100000
open Go.Dn Go.Proofs
open Go.RowKit (Below)
set_option linter.unusedVariables false
theorem Adb{w0 w:World}{H:List It}(S:ST w0 w H){v:Value}{t:TypeId}{k:Nat->World->Prop}(hk:∀ b w',ST w0 w' (It.row t 1 (some ⟨b,0,none⟩) 1 1 [v] :: H)->k b w'):DT #[v] t k w :=
 S.An λ b w1 _ B S1=>hk b w1 (S1.IX 0 rfl (.refl _ _) _ (⟨by simp,.inr ⟨b,#[v],rfl,S1.CJ 0 rfl,by omega,by omega,by simp,by simp⟩⟩:Row w1 t 1 (some ⟨b,0,none⟩) 1 1 [v]) λ k hk=>.inl hk)
def OX(p:DY):It:=CP p.1 p.2.1 p.2.2
def Rg(a:Option Addr)(c:Nat)(ps:List DY):It:=It.row ty.AH 1 a ps.length c (ps.map BZ)
theorem Ai0:MN Tryz.prog ty.Hw=some (ty.AH,1,24,.slice none 0 0):=by kernel_rfl
theorem L6{cs:List BQ}{rows:List (List AB)}(h:D9 cs rows≠0):¬ Bv cs rows:=λ hs=>h (by
 have h1:¬ (1024<rows.length\/∃ r∈rows,C0 cs r=false):=by
  rintro (h | ⟨r,hr,h⟩)
  ·have:=hs.len;omega
  ·rw [hs.fits r hr] at h;cases h
 have h2:¬ Aq cs=false:=by rw [hs.right];decide
 rw [D9,if_neg h2,if_neg h1])
def Wx(l:List UInt8)(cs:List BQ)(rows:List (List AB))(w w':World)(v:Value):Prop :=
 (¬ Bv cs rows/\v=.tuple #[.slice none 0 0,.int .i64 (D9 cs rows)]/\D9 cs rows≠0/\Below w.heap.size w w') \/
  (Bv cs rows/\∃ a c,v=.tuple #[.slice a (l++F1 rows).length c,.int .i64 0]/\Bn w w' (l++F1 rows) a c)
theorem Ab3(qs:List DY)(p:DY):BV (qs++[p])=BV qs++p.2.2:=by simp [BV]
theorem Uc{cs:List BQ}{r:List AB}(hf:C0 cs r=true){k:Nat}(hk:k<r.length):AK r[k]=true:=by
 have hl:=Jf hf;have:=TV hf (by omega) hk;simp only [GR,Bool.and_eq_true] at this;exact this.1
section
variable {w0 w:World}{H:List It}{a a2 a3:Option Addr}{c c2 c3:Nat}{l:List UInt8}{cs:List BQ}{ps:List BG}
theorem AiR(S:ST w0 w H){n:Nat}{qs:List DY}(hn:H[n]?=some (Rg a c qs)){p:DY}{b:Nat}(hs:Rd w (some ⟨b,0,none⟩) [BZ p])(hl:qs.length+1<=1000000){f:Value->World->Prop}
  (hf:∀ a' c' w',ST w0 w' (H.set n (Rg a' c' (qs++[p])))->f (.slice a' (qs++[p]).length c') w') :
  DE Tryz.prog (Builtin.append_ #[ty.Hw,ty.Hw] ty.Hw #[.slice a qs.length c,.slice (some ⟨b,0,none⟩) 1 1]) f w:=by
 refine S.app n hn Ai0 rfl (by omega) (by omega) hs (mm:=1) rfl (by simp [BZ];rfl) (by omega) λ a' c' w' S'=>?_;have e1:(qs++[p]).length=qs.length+1:=by simp
 have e2:qs.map BZ++[BZ p]=(qs++[p]).map BZ:=by simp
 rw [e2] at S';have:=hf a' c' w' (by unfold Rg;rw [e1];exact S');rwa [e1] at this
theorem Ag1{E:List It}{qs:List DY}(S:ST w0 w (E++qs.map OX)):∀ p∈qs,Rd w p.1 (p.2.2.map Ag):=λ p hp=>by
 have:(OX p).ok w:=S.ok _ (List.mem_append_right _ (List.mem_map.2 ⟨p,hp,rfl⟩));exact Row.rd this
theorem AbQ{E:List It}{qs:List DY}{p:DY}(S:ST w0 w (OX p :: (E++qs.map OX))):ST w0 w (E++(qs++[p]).map OX):=by
 refine S.perm ?_;rw [List.map_append];simp only [List.map_cons,List.map_nil];rw [<- Ak2];exact (List.perm_append_comm (l₁:=[OX p]))
set_option maxHeartbeats 1000000 in
theorem Pt(hl:Rd w a (l.map Ag))(hs:l.length+20000000<=140737488355328)(al:Rd w a2 (BM cs))(hn:cs.length<=9223372036854775807)(hq:∀ c∈cs,c.1.size<=9223372036854775807)(hr:Bb w a3 ps)(hm:ps.length<=9223372036854775807)(hv:∀ r∈rws ps,∀ v∈r,BN v) :
  Calls Tryz.prog f.Vk #[.slice a l.length c,.slice a2 cs.length c2,.slice a3 ps.length c3] w (AG λ v w'=>Wx l cs (rws ps) w w' v):=by
 apply R.Ma
 delta R.A R.Ab R.Ad R.AR R.Cb R.Cs R.E R.F R.H R.I R.J R.Ks R.Li R.Ls R.Lt R.N R.O R.ER R.S R.Am R.T R.U R.W R.Wu R.X;try dsimp only [R.Ps]
 refine (D8 al hn hq).mono ?_;rintro _ w1 ⟨_,rfl,rfl,B1⟩;have bad:∀ {wx:World} (e:Int),Below w.heap.size w wx->D9 cs (rws ps)=e->e≠0->Wx l cs (rws ps) w wx (.tuple #[.slice none 0 0,.int .i64 e]):=by
  rintro wx e B rfl h0;exact .inl ⟨L6 h0,rfl,h0,B⟩
 have S:=(ST.start w).grown B1;refine⟨_,rfl,Au (Ap (λ hR=>?_) (λ hR=>bad 50 S.Ar (by rw [D9,if_pos hR]) (by decide)))⟩;have gh:¬ Aq cs=false:=by rw [hR];decide
 refine Aa (λ h=>bad 51 S.Ar ?_ (by decide)) (λ hlen=>?_)
 ·have:1024<(rws ps).length:=by simp only [rws,List.length_map];omega
  rw [D9,if_neg gh,if_pos (.inl this)]
 have bP:ps.length<=1024:=by omega
 have bM:=A6 hR;rw [Aj (by omega) (by omega)];have d1:=Al (n:=ps.length) (by omega);refine (Bf l (hl.grown S.Ar) ps.length (by omega) (by omega)).mono ?_;rintro _ w2 ⟨_,rfl,ib,iL,rfl,h2⟩;have S:=BL S h2;have rv:(rws ps).length=ps.length:=by simp [rws]
 have iw:∀ {wx:World} (r:List AB),Below w.heap.size w wx->r∈rws ps->C0 cs r=false->Wx l cs (rws ps) w wx (.tuple #[.slice none 0 0,.int .i64 51]):=λ r B h1 h2 =>
  bad 51 B (by rw [D9,if_neg gh,if_pos (.inr ⟨r,h1,h2⟩)]) (by decide)
 obtain⟨p0,rT⟩:∃ p0:DY,p0=(ib,iL,l++Af ps.length):=⟨_,rfl⟩;refine⟨_,_,_,rfl,Adb S λ b8 w3 S=>?_⟩;have S:ST w w3 ([Rg (some ⟨b8,0,none⟩) 1 [p0]]++[p0].map OX):=by subst rT;exact S
 let Inv:List Value->World->Prop:=λ s wx=>∃(i:Nat) (qs:List DY) (pa:Option Addr) (pc:Nat),s=[.slice pa qs.length pc,.int .i64 (i:Int)]/\i<=ps.length/\qs.length<=1+i*16 /\
  BV qs=l++Af ps.length++((rws ps).take i).flatMap JF/\(∀ r∈(rws ps).take i,C0 cs r=true)/\ST w wx ([Rg pa pc qs]++qs.map OX)
 refine⟨Inv,λ s _=>match s with
  | [_,.int _ i]=>ps.length-i.toNat
  | _=>0,⟨0,[p0],_,1,rfl,by omega,by simp,by subst rT;simp [BV],by simp,S⟩,?_⟩
 clear S;rintro pa _ pc _ w4 ⟨i,qs,_,_,aA,hi,kQ,cj,cY,S⟩;cases aA;refine Aa (λ aB=>?_) (λ aJ=>?_)
 ·have aD:i<ps.length:=by omega
  have mi:i<(rws ps).length:=by omega
  obtain⟨q,rfl,lG,lZ⟩:=(hr.grown S.Ar).at aD;have ei:(rws ps)[i]=ps[i].2.2:=by simp [rws]
  refine⟨⟨by omega,by omega⟩,_,_,_,by rw [Ak4];exact lG,?_⟩;obtain⟨row,aI⟩:∃ row,row=ps[i].2.2:=⟨_,rfl⟩;rw [<- aI] at lZ ei ⊢;have ag:row∈rws ps:=by rw [<- ei];exact AlI mi
  refine (HU (al.grown S.Ar) hn lZ).mono ?_;rintro _ w6 ⟨_,rfl,rfl,B6⟩;have S:=S.grown B6;refine⟨_,rfl,Au (Ap (λ hf=>?_) (λ hf=>iw row S.Ar ag hf))⟩;have kI:=Jf hf;have aK:=hv row ag;have sw:Rd w ps[i].1 (AO row):=by rw [aI];exact hr.each _ (AlI aD)
  let In2:List Value->World->Prop:=λ s wx=>∃(k:Nat) (eP:List DY) (pa:Option Addr) (pc:Nat),s=[.slice pa eP.length pc,.int .i64 (k:Int)]/\k<=row.length/\eP.length=qs.length+k /\
   BV eP=BV qs++(row.take k).flatMap CD/\ST w wx ([Rg pa pc eP]++eP.map OX)
  refine⟨In2,λ s _=>match s with
   | [_,.int _ i]=>row.length-i.toNat
   | _=>0,⟨0,qs,_,_,rfl,by omega,by omega,by simp,S⟩,?_⟩
  clear S;rintro pa _ pc _ w7 ⟨k,eP,_,_,aA,hk,hql',mq,S⟩;cases aA;refine Aa (λ ao=>?_) (λ cB=>?_)
  ·have aO:k<row.length:=by omega
   obtain⟨q2,iB,e0,e1,e2⟩:=De (sw.grown S.Ar) aO;rw [iB];refine⟨⟨by omega,by omega⟩,_,by rw [Ak4];exact e0,_,by rw [Ak4];exact e1,_,by rw [Ak4];exact e2,S.Iz λ b25 aX _ S=>⟨_,S.cell 0 rfl rfl,_,S.cell 0 rfl rfl,_,S.cell 0 rfl rfl,?_⟩⟩;refine (Jp (a:=none) (c:=0) [] (Rd.nil _ _) row[k] (aK _ (AlI aO)) (by simp)).mono ?_;rintro _ bJ ⟨_,rfl,f'⟩;obtain⟨xa,xc,rfl,n12⟩:=Jd (Uc hf aO) f';rw [List.nil_append] at n12 ⊢;have S:=BL (S.drop 1) n12;obtain⟨p,hp⟩:∃ p:DY,p=(xa,xc,CD row[k]):=⟨_,rfl⟩;refine⟨_,_,_,_,rfl,Adb S λ pS aj S=>?_⟩;have jf:Rd aj (some ⟨pS,0,none⟩) [BZ p]:=by subst hp;exact S.rd 0 rfl
   refine AiR S (n:=2) rfl jf (by omega) λ a' c' an S=>⟨_,_,_,rfl,?_⟩;rw [Ae (by omega)];refine⟨⟨k+1,eP++[p],a',c',rfl,by omega,by simp;omega,?_,?_⟩,by simp only [Ak4];omega⟩
   ·rw [Ab3,mq,AlW aO,List.flatMap_append];subst hp;simp
   ·subst hp;exact AbQ (S.drop 1)
  ·obtain rfl:k=row.length:=by omega
   rw [Ae (by omega)];rw [List.take_length] at mq;refine⟨⟨i+1,eP,_,_,rfl,by omega,by omega,?_,λ r fx=>?_,S⟩,by simp only [Ak4];omega⟩
   ·rw [mq,cj,AlW mi,List.flatMap_append,ei];simp [JF]
   ·rw [AlW mi] at fx;rcases List.mem_append.1 fx with h | h
    ·exact cY r h
    ·rw [List.mem_singleton.1 h,ei];exact hf
 ·obtain rfl:i=ps.length:=by omega
  rw [AlA (by omega)] at cj cY;have aK:Bv cs (rws ps):=⟨hR,by omega,cY,hv⟩;have hln:=Xn (i:=(rws ps).length) aK;rw [List.take_length] at hln;refine (Bp qs (S.rd 0 rfl) (Ag1 S) (by omega) (by rw [cj];simp only [List.length_append];omega)).mono ?_;rintro _ w5 ⟨_,rfl,a5,c5,rfl,h5⟩;have e:l++Af ps.length++(rws ps).flatMap JF=l++F1 (rws ps):=by rw [F1,rv,Ak2]
  rw [cj,e] at h5 ⊢;exact⟨_,_,_,rfl,.inr ⟨aK,a5,c5,rfl,h5.before S.Ar⟩⟩
def GI(a:Option Addr)(c:Nat)(ps:List BG):It:=It.row ty.CH 1 a ps.length c (ps.map Cz)
def YE(o:Option (List (List AB) × Nat))(w w':World)(v:Value):Prop :=
 match o with
 | none=>∃ e:Int,e≠0/\v=.tuple #[.slice none 0 0,.int .i64 0,.int .i64 e]/\Below w.heap.size w w'
 | some r=>∃ a c ps,v=.tuple #[.slice a ps.length c,.int .i64 (r.2:Int),.int .i64 0]/\rws ps=r.1/\ST w w' ([GI a c ps]++ps.map EV)
theorem Aha(S:ST w0 w H){n:Nat}{qs:List BG}(hn:H[n]?=some (GI a c qs)){p:BG}{b:Nat}(hs:Rd w (some ⟨b,0,none⟩) [Cz p])(hl:qs.length+1<=1000000){f:Value->World->Prop}
  (hf:∀ a' c' w',ST w0 w' (H.set n (GI a' c' (qs++[p])))->f (.slice a' (qs++[p]).length c') w') :
  DE Tryz.prog (Builtin.append_ #[ty.Cd,ty.Cd] ty.Cd #[.slice a qs.length c,.slice (some ⟨b,0,none⟩) 1 1]) f w:=by
 refine S.app n hn Adg rfl (by omega) (by omega) hs (mm:=1) rfl (by simp [Cz];rfl) (by omega) λ a' c' w' S'=>?_;have e1:(qs++[p]).length=qs.length+1:=by simp
 have e2:qs.map Cz++[Cz p]=(qs++[p]).map Cz:=by simp
 rw [e2] at S';have:=hf a' c' w' (by unfold GI;rw [e1];exact S');rwa [e1] at this
theorem Xh{E:List It}{qs:List BG}{p:BG}(S:ST w0 w (EV p :: (E++qs.map EV))):ST w0 w (E++(qs++[p]).map EV):=by
 refine S.perm ?_;rw [List.map_append];simp only [List.map_cons,List.map_nil];rw [<- Ak2];exact (List.perm_append_comm (l₁:=[EV p]))
theorem Ai8(S:ST w0 w H)(n:Nat){b:Nat}{cur:List AB}{t:TypeId}(hn:H[n]?=some (It.cells b ⟨AO cur⟩ t)){i:Nat}(hi:i<cur.length)(v:AB){k:World->Prop}(hk:∀ w',ST w0 w' (H.set n (It.cells b ⟨AO (cur.set i v)⟩ t))->k w') :
  DV ((⟨b,0,none⟩:Addr).add (i*3)) (.int .i64 v.1) (λ w=>DV (((⟨b,0,none⟩:Addr).add (i*3)).add 1) (.int .i64 v.2.1) (λ w=>DV (((⟨b,0,none⟩:Addr).add (i*3)).add 2) (.string v.2.2) k w) w) w:=by
 have aB:=(List.getElem?_eq_some_iff.1 hn).1;have aw:(⟨AO cur⟩:Array Value).size=cur.length*3:=by show (AO cur).length=_;rw [Jl]
 have e0:((⟨b,0,none⟩:Addr).add (i*3))=⟨b,i*3,none⟩:=by rw [Ax];simp
 simp only [e0,Ax];refine S.BR n hn (by omega) rfl λ w1 S1=>?_;refine S1.BR n (List.getElem?_set_self aB) (by simp only [Array.size_setIfInBounds];omega) rfl λ w2 S2=>?_;rw [List.set_set] at S2;refine S2.BR n (List.getElem?_set_self aB) (by simp only [Array.size_setIfInBounds];omega) rfl λ w3 S3=>?_;rw [List.set_set,Aay cur hi] at S3;exact hk w3 S3
set_option maxHeartbeats 1000000 in
theorem Ou(hl:Rd w a (l.map Ag))(hc:l.length<=c)(hs:l.length<=140737488355328)(at_:Int)(al:Rd w a2 (BM cs))(hn:cs.length<=9223372036854775807)(hq:∀ c∈cs,c.1.size<=9223372036854775807) :
  Calls Tryz.prog f.TL #[.slice a l.length c,.int .i64 at_,.slice a2 cs.length c2] w (AG λ v w'=>YE (Bg l cs at_) w w' v):=by
 apply R.Ku
 delta R.Eg R.Bz R.Cb R.F R.H R.I R.J R.Ks R.N R.O R.MJ R.Ahz R.Rs R.S R.Am R.T R.U R.W R.Wu R.X;try dsimp only [R.Ps]
 refine (D8 al hn hq).mono ?_;rintro _ w1 ⟨_,rfl,rfl,B1⟩;have S:=(ST.start w).grown B1;have bad:∀ {wx:World} (e:Int),e≠0->Below w.heap.size w wx->Bg l cs at_=none->YE (Bg l cs at_) w wx (.tuple #[.slice none 0 0,.int .i64 0,.int .i64 e]):=by
  intro wx e h0 B h;rw [h];exact⟨e,h0,rfl,B⟩
 refine⟨_,rfl,Au (Ap (λ hR=>?_) (λ hR=>bad 50 (by decide) S.Ar (by simp [Bg,hR])))⟩;have bM:=A6 hR;refine (AL (hl.grown S.Ar) hc (by omega) at_).mono ?_;rintro _ w2 ⟨_,rfl,rfl,rfl⟩;obtain⟨n,aL,e,hv,hk,ow,hx⟩:=Ed _ (rfl:takeN l at_=takeN l at_);rw [hv];refine⟨_,_,_,rfl,Ah (λ h=>bad 52 (by decide) S.Ar ?_) (λ h=>?_)⟩
 ·rcases hx with ⟨h2,_⟩ | ⟨_,h2⟩
  ·exact absurd h2 h
  ·simp [Bg,h2]
 have qb:takeN l at_=some (n,aL):=by
  rcases hx with ⟨_,h2⟩ | ⟨h2,_⟩
  ·exact h2
  ·exact absurd h h2
 have hT:Bg l cs at_=if n<=1024 then Dy (QN l cs) n aL else none:=by simp [Bg,hR,qb]
 refine Aa (λ h=>bad 52 (by decide) S.Ar (by rw [hT,if_neg (by omega)])) (λ hle=>?_);rw [if_pos (by omega)] at hT;refine⟨λ s wx=>∃(i aZ:Nat) (qs:List BG) (ra:Option Addr) (rc:Nat),s=[.int .i64 (aZ:Int),.slice ra qs.length rc,.int .u64 (i:Int)]/\i<=n/\qs.length=i/\aZ<=l.length/\Dy (QN l cs) i aL=some (rws qs,aZ)/\ST w wx ([GI ra rc qs]++qs.map EV),λ s _=>match s with
  | [_,_,.int _ i]=>n-i.toNat
  | _=>0,⟨0,aL,[],none,0,rfl,by omega,rfl,hk,rfl,S.nil _ _⟩,?_⟩
 clear S;rintro _ ra _ rc _ w3 ⟨i,aZ,qs,_,_,aA,hi,vX,vI,aV,S⟩;cases aA;refine Aa (λ aB=>?_) (λ aJ=>?_)
 ·have jO:i<n:=by omega
  refine Ea AiT (l:=(cs.length:Int)) (c:=(cs.length:Int)) (by omega) (by omega) (by omega) (by omega) λ b w4 hb B4 hO=>?_;rw [Ak4] at hO ⊢;rw [W2] at hO;have S:=S.add B4 (It.cells b ⟨AO (List.replicate cs.length (0,0,E0))⟩ ty.AW) hO (λ k hk=>by cases hk;exact hb);have ix:Dy (λ a=>Bj l (a:Int)) cs.length aZ=none->Bg l cs at_=none:=λ h=>by
   rw [hT];refine Gn (i:=i+1) ?_ jO;rw [Dh aV,QN,h];rfl
  refine⟨_,_,_,rfl,λ s wx=>∃(k bH:Nat) (cur:List AB),s=[.int .i64 (bH:Int),.int .i64 (k:Int)]/\k<=cs.length/\cur.length=cs.length/\bH<=l.length/\Dy (λ a=>Bj l (a:Int)) k aZ=some (cur.take k,bH) /\
    ST w wx (It.cells b ⟨AO cur⟩ ty.AW :: ([GI ra rc qs]++qs.map EV)),λ s _=>match s with
   | [_,.int _ k]=>cs.length-k.toNat
   | _=>0,⟨0,aZ,_,rfl,by omega,by simp,vI,rfl,S⟩,?_⟩
  clear S;rintro _ _ w5 ⟨k,bH,cur,aA,ax,jA,vH,cI,S⟩;cases aA;refine Aa (λ ao=>?_) (λ cB=>?_)
  ·have aO:k<cs.length:=by omega
   refine (IB (hl.grown S.Ar) hc (by omega) (bH:Int)).mono ?_;rintro _ w6 ⟨_,rfl,rfl,B6⟩;have S:=S.grown B6;obtain⟨v,k3,e3,hv3,iF,hx3⟩:=Ji _ (rfl:Bj l (bH:Int)=Bj l (bH:Int));rw [hv3];refine⟨_,_,_,_,_,rfl,⟨by omega,by omega⟩,?_⟩;rw [Ak4];refine Ai8 S 0 rfl (i:=k) (by omega) v λ w9 S=>Ah (λ h=>bad 52 (by decide) S.Ar (ix ?_)) (λ h=>?_)
   ·refine Gn (i:=k+1) ?_ aO;rw [Dh cI];rcases hx3 with ⟨h2,_⟩ | ⟨_,h2⟩
    ·exact absurd h2 h
    ·simp [h2]
   ·have mN:Bj l (bH:Int)=some (v,k3):=by
     rcases hx3 with ⟨_,h2⟩ | ⟨h2,_⟩
     ·exact h2
     ·exact absurd h h2
    rw [Ae (by omega)];refine⟨⟨k+1,k3,cur.set k v,rfl,by omega,by rw [List.length_set];exact jA,iF,?_,S⟩,by simp only [Ak4];omega⟩;rw [Dh cI,mN];have e:(cur.set k v).take (k+1)=cur.take k++[v]:=by
     rw [AlW (by rw [List.length_set];omega),List.getElem_set_self,List.take_set_of_le (Nat.le_refl _)]
    rw [e];rfl
  ·obtain rfl:k=cs.length:=by omega
   rw [AlA (by omega)] at cI;have hF:=HU (c:=c2) (c2:=cs.length) (al.grown S.Ar) hn (S.Gw 0 rfl);rw [jA] at hF;refine hF.mono ?_;rintro _ bZ ⟨_,rfl,rfl,cA⟩;have S:=S.grown cA;refine⟨_,rfl,Au (Ap (λ hf=>?_) (λ hf=>bad 52 (by decide) S.Ar ?_))⟩;rotate_left
   ·rw [hT];refine Gn (i:=i+1) ?_ jO;rw [Dh aV,QN,cI];simp [hf]
   obtain⟨p,hp⟩:∃ p:BG,p=(some ⟨b,0,none⟩,cs.length,cur):=⟨_,rfl⟩;have gr:=Jl cur;have S:=S.IX 0 rfl (.refl _ _) (EV p) (by
    subst hp;exact⟨gr,.inr ⟨b,⟨AO cur⟩,rfl,S.CJ 0 rfl,by show cur.length<=cs.length;omega,by show cs.length<=_;omega,by show (AO cur).length=cs.length*3;omega,AlA (by show (AO cur).length<=cur.length*3;omega)⟩⟩) (λ k hk=>by subst hp;exact .inl hk)
   refine Adb S λ hJ aX S=>?_;have jf:Rd aX (some ⟨hJ,0,none⟩) [Cz p]:=by
    subst hp;unfold Cz;rw [jA];exact S.rd 0 rfl
   refine Aha S (n:=2) rfl jf (by omega) λ a' c' bJ S=>⟨_,_,_,rfl,?_⟩;have e:IntKind.u64.wrap ((i:Int)+1)=((i+1:Nat):Int):=by rw [Aj (by omega) (by omega)];omega
   rw [e];refine⟨⟨i+1,bH,qs++[p],a',c',rfl,by omega,by simp [vX],vH,?_,Xh (S.drop 1)⟩,by simp only [Ak4];omega⟩;rw [Dh aV,QN,cI,Option.bind_some,if_pos hf];subst hp;simp [rws]
 ·obtain rfl:i=n:=by omega
  rw [hT,aV];exact⟨_,_,qs,rfl,rfl,S⟩
end
end Go.Proofs.YtpnaifmmggnimaaGreatDoor

namespace Go.Dn
open _root_.Nat renaming le_refl -> AkY
set_option maxRecDepth 100000
set_option linter.unusedVariables false
open Go.RowKit (Below)
open Go.Maps (has Tidy Keyed)
section
variable {P:Program}{k e t:TypeId}{w:World}{b n:Nat}{g:List UInt8->Option Nat}
end
/-! ## Among a function's own things -/
section
variable {P:Program}{k e t:TypeId}{w0 w:World}{H:List It}{b n:Nat}{g:List UInt8->Option Nat}
end
abbrev Tri:=Int × Int × Int
def YA(x:Tri):Value:=.agg #[.int .i64 x.1,.int .i64 x.2.1,.int .i64 x.2.2]
def We(x:Tri):DataW Unit:=.agg [.lit (.int .i64 x.1),.lit (.int .i64 x.2.1),.lit (.int .i64 x.2.2)]
def Ahc(v:Value):Option (DataW Unit × List MemPlace) :=
 match v with
 | .agg ⟨[.int .i64 a,.int .i64 b,.int .i64 c]⟩=>some (We (a,b,c),[])
 | _=>none
theorem Adf(x:Tri):Ahc (YA x)=some (We x,[]):=rfl
theorem Af9{v:Value}{z:DataW Unit × List MemPlace}(h:Ahc v=some z):∃ x,v=YA x/\z.1=We x:=by
 unfold Ahc at h;split at h
 ·cases h;exact⟨(_,_,_),rfl,rfl⟩
 ·cases h
theorem Ag7{a b:Tri}(h:We a=We b):a=b:=by
 obtain⟨a1,a2,a3⟩:=a;obtain⟨b1,b2,b3⟩:=b;simp only [We,DataW.agg.injEq,List.cons.injEq,DataW.lit.injEq,Lit.int.injEq,true_and,and_true] at h;obtain⟨rfl,rfl,rfl⟩:=h;rfl
def IF(P:Program)(k:TypeId)(w:World)(b n:Nat)(g:Int->Option Tri):Prop :=
 ∃ D:DataW Unit,w.ownsMap P k Ahc b n D/\Tidy D/\∀ x,has D (.int .i64 x)=(g x).isSome/\D.atKey (.int .i64 x) (We (0,0,0))=We ((g x).getD (0,0,0))
section
variable {P:Program}{k e t:TypeId}{w:World}{b n:Nat}{g:Int->Option Tri}
theorem IF.same(h:IF P k w b n g){w':World}(hb':w'.heap[b]?=w.heap[b]?):IF P k w' b n g:=by
 obtain⟨D,⟨es,clock,hb,r⟩,h2⟩:=h;exact⟨D,⟨es,clock,hb'.trans hb,r⟩,h2⟩
theorem IF.lt(h:IF P k w b n g):b<w.heap.size:=by
 obtain⟨D,h,_⟩:=h;exact h.lt
theorem IF.made(w:World):IF P k (w.alloc (.map #[] 0)) w.heap.size 0 (λ _=>none):=⟨_,World.ownsMap_made _ _ _ _,Maps.tidy_empty,λ x=>⟨rfl,rfl⟩⟩
theorem Adl(hk:P.underlying k=some (.int .i64)){i:Int}(hi : -9223372036854775808<=i/\i<=9223372036854775807):keyOf P k (.int .i64 i)=some (.int .i64 i) :=
 Maps.keyOf_int_mk hk ((Lit.wf_int_iff _ _).2 ⟨hi.1,hi.2⟩)
theorem IF.put(h:IF P k w b n g)(hk:P.underlying k=some (.int .i64))(ht:P.underlying t=some (.map k e))(hn:n<maxLen){i:Int}(hi : -9223372036854775808<=i/\i<=9223372036854775807)(x:Tri)
  {f:World->Prop} (hf:∀ w',Ai (·=b) w w'->IF P k w' b (n+1) (λ y=>if y=i then some x else g y)->f w'):OPU P (Instr.mapUpdate t (.map (some b)) (.int .i64 i) (YA x)) f w:=by
 obtain⟨D,hD,hT,hg⟩:=h;obtain⟨w',aH,fS,bp⟩:=hD.update (Maps.int_keyed hk) ht hn (Adl hk hi) (Adf x);unfold OPU;rw [aH];have aO:WideAt.IsKeyLit (.int .i64 i):=by simp [WideAt.IsKeyLit]
 refine hf w' (.of_grownBy bp) ⟨_,fS,hT.put aO _,λ y=>?_⟩;by_cases hx:y=i
 ·subst hx;simp only [if_true];exact⟨Maps.has_put_same hT.isMap aO _,Maps.atKey_put_same hT.isMap aO _ _⟩
 ·have aQ:Lit.int .i64 y≠.int .i64 i:=λ e=>hx (by injection e);simp only [hx,if_false];exact⟨(Maps.has_put_other aQ _).trans (hg y).1,(Maps.atKey_put_other aQ _ _).trans (hg y).2⟩
theorem IF.Ajv(h:IF P k w b n g)(hk:P.underlying k=some (.int .i64))(ht:P.underlying t=some (.map k e))(hz:(zeroValue e).run P w=.ok (YA (0,0,0)) w){i:Int}(hi : -9223372036854775808<=i/\i<=9223372036854775807)
  {f:Value->World->Prop} (hf:f (.tuple #[YA ((g i).getD (0,0,0)),.bool (g i).isSome]) w):DE P (Instr.lookup t (.map (some b)) (.int .i64 i) true) f w:=by
 obtain⟨D,hD,hT,hg⟩:=h;obtain⟨v,ps,aH,hv⟩:=hD.look_ok (Maps.int_keyed hk) ht hz (Adf (0,0,0)) (Adl hk hi);obtain⟨o,rfl,ho⟩:=Af9 hv;have h2:=(hg i).2;rw [show D.atKey (.int .i64 i) (We (0,0,0))=We o from ho] at h2;obtain rfl:=Ag7 h2;unfold DE;rw [aH,(hg i).1];exact hf
theorem IF.keys(h:IF P k w b n g)(hk:P.underlying k=some (.int .i64)):∃ D:DataW Unit,w.ownsMap P k Ahc b n D/\Maps.size D<=n/\(intKeys D).length=Maps.size D/\(intKeys D).Nodup/\∀ x,x∈intKeys D↔(g x).isSome=true:=by
 obtain⟨D,hD,hT,hg⟩:=h;obtain⟨es,e1,hpw⟩:=hT;obtain⟨es',fe,iI⟩:=hD.keysOf;obtain rfl:es=es':=by rw [e1] at fe;simpa using fe
 have hint:∀ p∈es,∃ x,p.1=.int .i64 x:=λ p hp=>by obtain⟨v,hv⟩:=iI p hp;obtain⟨x,_,hx,_⟩:=Maps.keyOf_i64 hk hv;exact⟨x,hx⟩
 refine⟨D,hD,hD.size_le,by rw [e1];simp [intKeys,Maps.size],?_,λ x=>?_⟩
 ·rw [e1];show (es.map λ p=>intOf p.1).Nodup;refine List.pairwise_map.2 (hpw.imp_of_mem λ {p r} hp' kP aQ e=>aQ ?_);obtain⟨a,ha⟩:=hint p hp';obtain⟨c,hc⟩:=hint r kP;rw [ha,hc] at e ⊢;exact congrArg _ e
 ·rw [<- (hg x).1,e1,Maps.has_eq,List.any_eq_true];show x∈es.map (λ p=>intOf p.1)↔_;rw [List.mem_map];constructor
  ·rintro⟨p,hp',rfl⟩;obtain⟨a,ha⟩:=hint p hp';exact⟨p,hp',by rw [ha];simp [Lit.sameKey,intOf]⟩
  ·rintro⟨p,hp',hs⟩;obtain⟨a,ha⟩:=hint p hp';rw [ha] at hs;exact⟨p,hp',by rw [ha];simpa [Lit.sameKey,intOf] using hs⟩
theorem IF.len(h:IF P k w b n g)(hk:P.underlying k=some (.int .i64))(ht:P.underlying t=some (.map k e))(ty:TypeId){ks:List Int}(hn:ks.Nodup)(hm:∀ x,x∈ks↔(g x).isSome=true) :
  (Builtin.len_ #[t] ty #[.map (some b)]).run P w=.ok (.int .i64 (ks.length:Int)) w:=by
 obtain⟨D,hD,_,hl,hd,ag⟩:=h.keys hk;have e1:=hD.len ht ty;rw [<- hl] at e1;have hp:ks.Perm (intKeys D):=(List.perm_ext_iff_of_nodup hn hd).2 λ x=>(hm x).trans (ag x).symm;rw [hp.length_eq];exact e1
end
/-! ## Among a function's own things -/
def It.YG(P:Program)(k:TypeId)(b n:Nat)(g:Int->Option Tri):It where
 CJ:=some b
 ok:=λ w=>IF P k w b n g
 st:=λ w w' h h0=>h0.same (h b rfl)
 lt:=λ w h k hk=>by cases hk;exact h.lt
section
variable {P:Program}{k e t:TypeId}{w0 w:World}{H:List It}{b n:Nat}{g:Int->Option Tri}
theorem ST.AhQ(S:ST w0 w H)(t:TypeId){f:Value->World->Prop}(hf:∀ b w',ST w0 w' (It.YG P k b 0 (λ _=>none) :: H)->w.heap.size<=b->f (.map (some b)) w')(aH:(Instr.makeMap t none).run P w=.ok (.map (some w.heap.size)) (w.alloc (.map #[] 0))):DE P (Instr.makeMap t none) f w:=by
 unfold DE;rw [aH];exact hf _ _ (S.add ((Below.refl _ w).alloc (AkY _) _) (It.YG P k w.heap.size 0 _) (IF.made w) (λ k hk=>by cases hk;exact AkY _)) (AkY _)
theorem ST.Aj1(S:ST w0 w H)(i:Nat)(hi:H[i]?=some (It.YG P k b n g))(hk:P.underlying k=some (.int .i64))(ht:P.underlying t=some (.map k e))(hn:n<maxLen){j:Int}(hj : -9223372036854775808<=j/\j<=9223372036854775807)(x:Tri)
  {f:World->Prop} (hf:∀ w',ST w0 w' (H.set i (It.YG P k b (n+1) (λ y=>if y=j then some x else g y)))->f w'):OPU P (Instr.mapUpdate t (.map (some b)) (.int .i64 j) (YA x)) f w :=
 IF.put (S.get i hi) hk ht hn hj x λ w' K h=>hf w' (S.IX i hi (K.mono λ k _ h=>by subst h;rfl) _ h (λ k hk=>.inl hk))
theorem ST.AdM(S:ST w0 w H)(i:Nat)(hi:H[i]?=some (It.YG P k b n g))(hk:P.underlying k=some (.int .i64))(ht:P.underlying t=some (.map k e))(hz:(zeroValue e).run P w=.ok (YA (0,0,0)) w){j:Int}(hj : -9223372036854775808<=j/\j<=9223372036854775807)
  {f:Value->World->Prop} (hf:f (.tuple #[YA ((g j).getD (0,0,0)),.bool (g j).isSome]) w):DE P (Instr.lookup t (.map (some b)) (.int .i64 j) true) f w:=IF.Ajv (S.get i hi) hk ht hz hj hf
end
end Go.Dn
namespace Go.Proofs.YtpnaifmmggnimaaGreatDoor
set_option maxRecDepth 100000
open Go.Dn Go.Proofs
set_option linter.unusedVariables false
def AiX(x:Nat × Nat × Nat):Tri:=((x.1:Int),(x.2.1:Int),(x.2.2:Int))
def WO(k:List Km)(i:Int):Option Tri:=if i<0 then none else (mapOf k i.toNat).map AiX
theorem AhD:WO []=λ _=>none:=by
 funext i;unfold WO;split <;> rfl
theorem AhZ(k:List Km)(i:Nat):WO k (i:Int)=(mapOf k i).map AiX:=by
 unfold WO;rw [if_neg (by omega),Int.toNat_natCast]
theorem Ahl(k:List Km)(c:Km):WO (k++[c])=λ y=>if y=(c.1:Int) then some (AiX c.2) else WO k y:=by
 funext y;unfold WO;rw [Vw];by_cases h:y<0
 ·rw [if_pos h,if_neg (by omega),if_pos h]
 ·rw [if_neg h,if_neg h];by_cases h2:y=(c.1:Int)
  ·rw [if_pos (by omega),if_pos h2];rfl
  ·rw [if_neg (by omega),if_neg h2]
theorem Agx{k:List Km}{i:Int}:(WO k i).isSome=true↔0<=i/\(mapOf k i.toNat).isSome=true:=by
 unfold WO;split
 ·simp;omega
 ·rw [Option.isSome_map];constructor
  ·intro h;exact⟨by omega,h⟩
  ·intro h;exact h.2
end Go.Proofs.YtpnaifmmggnimaaGreatDoor
namespace Go.Proofs.YtpnaifmmggnimaaGreatDoor
open _root_.Int renaming toNat_natCast -> Ak4
open _root_.List.Perm renaming cons -> AmJ
open _root_.List renaming length_cons -> Ak3, map_cons -> AmG, mem_cons -> AkL, take_succ_eq_append_getElem -> AlW
set_option maxRecDepth 100000
open Go.Dn Go.Proofs
open Go.RowKit (Below)
set_option linter.unusedVariables false
theorem Afk(e:Int)(w:World):Calls Tryz.prog f.HG #[.int .i64 e] w (AG λ v w'=>v=.tuple #[.agg #[.int .i64 e,.int .i64 0],.slice none 0 0]/\Below w.heap.size w w'):=by
 apply R.Ln
 delta R.A R.Ab R.E R.H R.I R.Li R.N R.O R.Am;try dsimp only [R.Ps]
 exact (ST.start w).An λ b2 w1 _ _ S=>S.BR 0 rfl (aC:=#[.int .i64 e,.int .i64 0]) (by simp) rfl λ w2 S=>S.BR 0 rfl (aC:=#[.int .i64 e,.int .i64 0]) (by simp) rfl λ w3 S=>⟨_,S.cell 0 rfl rfl,_,S.cell 0 rfl rfl,rfl,S.Ar⟩
def RY(p:H6):List Value:=[.string p.1,.int .i64 (p.2:Int)]
def Bt(ps:List H6):List Value:=ps.flatMap RY
theorem Ey(ps:List H6):(Bt ps).length=ps.length*2:=by
 induction ps with
 | nil=>rfl
 | cons p ps ih =>
  show (RY p++Bt ps).length=_;rw [List.length_append,ih,Ak3];simp only [RY,Ak3,List.length_nil];omega
theorem Zt(ps:List H6)(i j:Nat)(hi:i<ps.length)(hj:j<2):(Bt ps)[i*2+j]?=(RY ps[i])[j]?:=by
 induction ps generalizing i with
 | nil=>simp at hi
 | cons p ps ih =>
  show (RY p++Bt ps)[_]?=_;cases i with
  | zero=>rw [Nat.zero_mul,Nat.zero_add,List.getElem?_append_left (by simp [RY];omega)];rfl
  | succ i =>
   rw [List.getElem?_append_right (by simp [RY];omega)];rw [show (i+1)*2+j-(RY p).length=i*2+j by simp [RY];omega,ih i (by simpa using hi)];rfl
def E1(a:Option Addr)(c:Nat)(ps:List H6):It:=It.row ty.LP 2 a ps.length c (Bt ps)
theorem Sk:MN Tryz.prog ty.Dg=some (ty.LP,2,24,.agg #[.string ⟨#[]⟩,.int .i64 0]):=by kernel_rfl
section
variable {w0 w:World}{H:List It}{a a2:Option Addr}{c c2:Nat}
theorem LG{ps:List H6}(hl:Rd w a (Bt ps)){i:Nat}(hi:i<ps.length):∃ p,a=some p/\w.cell? (p.add (i*2))=some (.string ps[i].1)/\w.cell? ((p.add (i*2)).add 1)=some (.int .i64 (ps[i].2:Int)):=by
 obtain⟨p,hp,h0⟩:=hl (i*2+0) _ (by rw [Zt ps i 0 hi (by omega)];rfl);obtain⟨p1,hp1,h1⟩:=hl (i*2+1) _ (by rw [Zt ps i 1 hi (by omega)];rfl);rw [hp] at hp1;cases hp1;exact⟨p,hp,h0,by rw [BK];exact h1⟩
theorem Vq(S:ST w0 w H){n:Nat}{ps:List H6}(hn:H[n]?=some (E1 a c ps)){p:H6}{b:Nat}(hs:Rd w (some ⟨b,0,none⟩) (RY p))(hl:ps.length+1<=1000000){f:Value->World->Prop}
  (hf:∀ a' c' w',ST w0 w' (H.set n (E1 a' c' (ps++[p])))->f (.slice a' (ps++[p]).length c') w') :
  DE Tryz.prog (Builtin.append_ #[ty.Dg,ty.Dg] ty.Dg #[.slice a ps.length c,.slice (some ⟨b,0,none⟩) 1 1]) f w:=by
 refine S.app n hn Sk rfl (by omega) (by omega) hs (mm:=1) rfl (by simp [RY];exact⟨rfl,rfl⟩) (by omega) λ a' c' w' S'=>?_;have e1:(ps++[p]).length=ps.length+1:=by simp
 have e2:Bt ps++RY p=Bt (ps++[p]):=by simp [Bt]
 rw [e2] at S';have:=hf a' c' w' (by unfold E1;rw [e1];exact S');rwa [e1] at this
theorem Kj{ls ms:List BQ}(hl:Rd w a (BM ls))(hm:Rd w a2 (BM ms))(hn:ls.length<=9223372036854775807) :
  Calls Tryz.prog f.Fz #[.slice a ls.length c,.slice a2 ms.length c2] w (AG λ v w'=>Below w.heap.size w w'/\v=.bool (decide (ls=ms))):=by
 apply R.Ek
 delta R.D R.F R.G R.I R.Lb R.Li R.Lt R.Qi R.W R.X;try dsimp only [R.Ps]
 refine Ah (λ h=>⟨.refl _ _,?_⟩) (λ hlen=>?_)
 ·congr 1;rw [eq_comm,decide_eq_false_iff_not];rintro rfl;exact h rfl
 have bP:ls.length=ms.length:=by omega
 refine⟨λ s w1=>∃ i:Nat,i<=ls.length/\s=[.int .i64 (i:Int)]/\Below w.heap.size w w1/\ls.take i=ms.take i,λ s _=>match s with
   | [.int _ i]=>ls.length-i.toNat
   | _=>0,⟨0,by omega,rfl,.refl _ _,rfl⟩,?_⟩
 rintro _ w1 ⟨i,hi,hs,B1,hT⟩;cases hs;refine Aa (λ aB=>?_) (λ aJ=>⟨B1,?_⟩)
 ·have h1:i<ls.length:=by omega
  have h2:i<ms.length:=by omega
  refine (SH.start (λ _=>False) w1).E9 λ w2 B2 _=>⟨⟨by omega,aB⟩,?_⟩;have C2:=Ac B1 B2;obtain⟨p1,rfl,c0,c1,c2⟩:=FZ (hl.grown C2) h1;obtain⟨p2,rfl,d0,d1,d2⟩:=FZ (hm.grown C2) h2;refine⟨⟨by omega,by omega⟩,_,by rw [Ak4];exact c0,_,by rw [Ak4];exact c1,_,by rw [Ak4];exact c2,_,by rw [Ak4];exact d0,_,by rw [Ak4];exact d1,_,by rw [Ak4];exact d2,?_⟩;rw [Adv];refine Au (Aa (λ he=>?_) (λ he=>⟨C2,?_⟩))
  ·rw [Ae (by omega)];refine⟨⟨i+1,by omega,rfl,C2,?_⟩,?_⟩
   ·rw [AlW h1,AlW h2,hT,he]
   ·simp only [Ak4];omega
  ·congr 1;rw [eq_comm,decide_eq_false_iff_not];rintro rfl;exact he rfl
 ·congr 1;rw [eq_comm,decide_eq_true_eq];rw [List.take_of_length_le (by omega),List.take_of_length_le (by omega)] at hT;exact hT
def A4(ps:List H6):Nat:=(ps.map (·.2)).sum
theorem Gg(ps:List H6)(p:H6):A4 (ps++[p])=A4 ps+p.2:=by simp [A4]
theorem IZ{ps:List H6}(h:∀ p∈ps,p.2<=1024):A4 ps<=ps.length*1024:=by
 induction ps with
 | nil=>simp [A4]
 | cons p ps ih =>
  have h1:=h p (by simp);have h2:=ih λ x hx=>h x (by simp [hx]);simp only [A4,AmG,List.sum_cons,Ak3] at h2 ⊢;omega
theorem Yy{ps:List H6}(hl:Rd w a (Bt ps))(hn:ps.length<=1000)(h:∀ p∈ps,p.2<=1024):Calls Tryz.prog f.YW #[.slice a ps.length c] w (AG λ v w'=>v=.int .i64 (A4 ps:Int)/\Below w.heap.size w w'):=by
 apply R.OJ
 delta R.A R.Ab R.F R.I R.Li R.Lt R.N R.MJ R.Am R.T R.W R.X;try dsimp only [R.Ps]
 refine⟨λ s w1=>∃ i:Nat,s=[.int .i64 (A4 (ps.take i):Int),.int .i64 (i:Int)]/\i<=ps.length/\ST w w1 [],λ s _=>match s with
   | [_,.int _ i]=>ps.length-i.toNat
   | _=>0,⟨0,rfl,by omega,ST.start w⟩,?_⟩
 rintro _ _ w1 ⟨i,hs,hi,S⟩;cases hs;refine Aa (λ aB=>?_) (λ aJ=>?_)
 ·have aD:i<ps.length:=by omega
  obtain⟨p,rfl,c0,c1⟩:=LG (hl.grown S.Ar) aD;refine⟨⟨by omega,by omega⟩,_,by rw [Ak4];exact c0,_,by rw [Ak4];exact c1,S.An λ b8 w2 _ _ S=>S.BR 0 rfl (aC:=#[.string ps[i].1,.int .i64 0]) (by simp) rfl λ w3 S=>S.BR 0 rfl (aC:=#[.string ps[i].1,.int .i64 (ps[i].2:Int)]) (by simp) rfl λ w4 S=>⟨_,S.cell 0 rfl rfl,?_⟩⟩;have h1:=IZ (ps:=ps.take i) λ p hp=>h p (List.mem_of_mem_take hp);have h2:=h ps[i] (List.getElem_mem aD);rw [List.length_take] at h1;have e:A4 (ps.take (i+1))=A4 (ps.take i)+ps[i].2:=by rw [AlW aD,Gg]
  have ew:IntKind.i64.wrap ((A4 (ps.take i):Int)+(ps[i].2:Int))=(A4 (ps.take (i+1)):Int):=by rw [wrap_i64 (by omega) (by omega),e];omega
  rw [ew,Ae (by omega)];exact⟨⟨i+1,rfl,by omega,S.drop 1⟩,by simp only [Ak4];omega⟩
 ·obtain rfl:i=ps.length:=by omega
  rw [List.take_length];exact⟨rfl,S.Ar⟩
end
structure Cn where
 AM:List BQ
 parts:List H6
 k:List Km
def Co(bc:Nat)(ca:Option Addr)(cc:Nat)(pa:Option Addr)(pc bm n:Nat)(C:Cn):List It :=
 [It.cells bc #[.slice ca C.AM.length cc,.slice pa C.parts.length pc,.map (some bm)] ty.Fq,CK ca cc C.AM,E1 pa pc C.parts,It.YG Tryz.prog ty.int64 bm n (WO C.k)]
structure ND(C:Cn):Prop where
 np:C.parts.length<=256
 parts:∀ p∈C.parts,AjI p
 Dt:∀ c∈C.k,Ajm c
 AM:C.AM=[]\/Aq C.AM=true
abbrev Kv:=ByteArray × ByteArray
def BH(fs:List Kv):List Value:=fs.flatMap λ f=>[.string f.1,.string f.2]
def AdJ(d:Nat × Nat)(fa:Option Addr)(fs:List Kv):Value:=.tuple #[.agg #[.int .i64 (d.1:Int),.int .i64 (d.2:Int)],.slice fa fs.length fs.length]
def Yf(C:Cn)(cs:List BQ)(rows:List (List AB))(d:Nat × Nat)(fs:List Kv)(C':Cn):Prop :=
 (cs≠C.AM/\d=(50,0)/\fs=[]/\C'=C)\/(cs=C.AM/\C.parts.length=256/\d=(130,0)/\fs=[]/\C'=C) \/
  (cs=C.AM/\C.parts.length<256/\∃ b,FO cs rows b/\C'={ C with parts:=C.parts++[(Fe (BC b),rows.length)] }/\d=(0,A4 C'.parts)/\fs=[(Fe (BC b),BC b)])
def AfW(w0:World)(H:List It)(bc:Nat)(ca:Option Addr)(cc:Nat)(bm n:Nat)(R:Nat × Nat->List Kv->Cn->Prop)(v:Value)(w':World):Prop :=
 ∃ d fs C' fa pa pc,R d fs C'/\v=AdJ d fa fs/\ST w0 w' (It.rd fa (BH fs) :: (Co bc ca cc pa pc bm n C'++H))
section
variable {w0 w:World}{H:List It}{a a2:Option Addr}{c c2:Nat}
theorem Eb(S:ST w0 w H):ST w0 w (It.rd none (BH []) :: H):=S.add (.refl _ _) _ (Rd.nil _ _) (λ k hk=>by cases hk)
theorem Ei{K:Value->World->Prop}{b:Nat}{u v:Value}(S:ST w0 w (It.cells b #[u,v] ty.A0 :: H))(e:Int)(hk:∀ w',ST w0 w' H->K (.tuple #[.agg #[.int .i64 e,.int .i64 0],.slice none 0 0]) w') :
  Calls Tryz.prog f.HG #[.int .i64 e] w (λ x w'=>∃ p:Int,∃ q:Int,∃(r:Option Addr) (rl rc:Nat),x=.returned (.tuple #[.agg #[.int .i64 p,.int .i64 q],.slice r rl rc]) /\
   DV ⟨b,0,none⟩ (.int .i64 p) (λ w=>DV ⟨b,1,none⟩ (.int .i64 q) (λ w=>∃ p':Int,w.cell? ⟨b,0,none⟩=some (.int .i64 p')/\∃ q':Int,w.cell? ⟨b,1,none⟩=some (.int .i64 q')/\K (.tuple #[.agg #[.int .i64 p',.int .i64 q'],.slice r rl rc]) w) w) w'):=by
 refine (Afk e w).mono ?_;rintro _ w1 ⟨_,rfl,rfl,B⟩;have S:=S.grown B;exact⟨_,_,_,_,_,rfl,S.BR 0 rfl (aC:=#[.int .i64 e,v]) (by simp) rfl λ w2 S=>S.BR 0 rfl (aC:=#[.int .i64 e,.int .i64 0]) (by simp) rfl λ w3 S=>⟨_,S.cell 0 rfl rfl,_,S.cell 0 rfl rfl,hk _ (S.drop 1)⟩⟩
set_option maxHeartbeats 1000000 in
theorem AiO(T:I8 w0){bc bm n cc pc:Nat}{ca pa:Option Addr}{C:Cn}(S:ST w0 w (Co bc ca cc pa pc bm n C++H))(hC:ND C){cs:List BQ}(al:Rd w a (BM cs))(hn:cs.length<=9223372036854775807)(hq:∀ c∈cs,c.1.size<=9223372036854775807)
  {ps:List BG} (hr:Bb w a2 ps) (aK:Bv cs (rws ps)) :
  Calls Tryz.prog f.MP #[.pointer (some ⟨bc,0,none⟩),.slice a cs.length c,.slice a2 ps.length c2] w (AG (AfW w0 H bc ca cc bm n (Yf C cs (rws ps)))):=by
 apply R.Ic
 delta R.A R.Ab R.Be R.Iy R.Cb R.Ci R.Ct R.D R.E R.F R.H R.I R.J R.Ks R.Li R.Ls R.Lt R.N R.S R.Am R.T;try dsimp only [R.Ps]
 have hB0:∀ {wx:World},Below w.heap.size w wx->Below w.heap.size w wx:=λ h=>h;refine S.An λ b4 w1 _ B1 S=>⟨_,_,_,S.cell 1 rfl rfl,?_⟩;refine (Kj (al.grown B1) (S.rd 2 rfl) hn).mono ?_;rintro _ w2 ⟨_,rfl,B2,rfl⟩;have S:=S.grown B2;have C2:=Ac B1 B2;have aP:∀(e:Nat) {wx:World},Yf C cs (rws ps) (e,0) [] C->ST w0 wx (Co bc ca cc pa pc bm n C++H)->AfW w0 H bc ca cc bm n (Yf C cs (rws ps)) (.tuple #[.agg #[.int .i64 (e:Int),.int .i64 0],.slice none 0 0]) wx:=λ e wx hA S =>
  ⟨(e,0),[],C,none,pa,pc,hA,rfl,Eb S⟩
 refine⟨_,rfl,Au (Aa (λ he=>?_) (λ he=>Ei (K:=AfW w0 H bc ca cc bm n (Yf C cs (rws ps))) S 50 λ w' S=>aP 50 (.inl ⟨he,rfl,rfl,rfl⟩) S))⟩;refine⟨_,_,_,S.cell 1 rfl rfl,Ao (λ h=>Ei (K:=AfW w0 H bc ca cc bm n (Yf C cs (rws ps))) S 130 λ w' S=>aP 130 (.inr (.inl ⟨he,by omega,rfl,rfl,rfl⟩)) S) (λ h=>?_)⟩;have iZ:=hC.np;have aB:C.parts.length<256:=by omega
 refine (I5 (c:=c) (c2:=c2) (T.grown S.Ar) (al.grown C2) hn hq (hr.grown C2) (by have:=aK.len;simp only [rws,List.length_map] at this;omega) aK.ok).mono ?_;rintro _ w9 ⟨_,rfl,hV,B9⟩;have S:=S.grown B9;rcases hV with ⟨aP,_⟩ | ⟨_,bb,rfl,hI⟩
 ·exact absurd aK aP
 have au:=hI.len aK;refine⟨_,_,rfl,(G5 (T.grown S.Ar) (BC bb) (by rw [AY];omega)).mono ?_⟩;rintro _ bZ ⟨_,rfl,rfl,cA⟩;have S:=S.grown cA;obtain⟨nm,cC⟩:∃ nm,nm=Fe (BC bb):=⟨_,rfl⟩;obtain⟨dt,hdt⟩:∃ dt,dt=BC bb:=⟨_,rfl⟩;rw [<- hdt] at cC ⊢;rw [<- cC];refine⟨_,rfl,S.An λ hJ aX _ _ S=>S.BR 0 rfl (aC:=#[.string nm,.string ⟨#[]⟩]) (by simp) rfl λ bJ S=>S.BR 0 rfl (aC:=#[.string nm,.string dt]) (by simp) rfl λ aj S=>S.draw λ an _ S =>
  ⟨_,_,_,S.cell 2 rfl rfl,_,S.cell 0 rfl rfl,S.An λ pS ah _ _ S=>⟨S.cell 3 rfl rfl,?_⟩⟩⟩
 refine Vq S (n:=5) rfl (p:=(nm,ps.length)) (S.Gw 0 rfl) (by omega) λ a' c' cf S=>⟨_,_,_,rfl,?_⟩;obtain⟨bB,hps'⟩:∃ bB,bB=C.parts++[(nm,ps.length)]:=⟨_,rfl⟩;rw [<- hps'] at S ⊢;have bL:bB.length=C.parts.length+1:=by rw [hps'];simp
 have pW:∀ p∈bB,p.2<=1024:=λ p hp=>by
  rw [hps'] at hp;rcases List.mem_append.1 hp with h | h
  ·exact (hC.parts p h).2.2
  ·rw [List.mem_singleton.1 h];have:=aK.len;simpa [rws] using this
 refine S.BR 3 rfl (i:=1) (aC:=#[.slice ca C.AM.length cc,.slice a' bB.length c',.map (some bm)]) (by simp) rfl λ cP S=>S.draw λ eK _ S=>?_;have cy:∀ {wx:World} {bf:Nat} {X Y Z:It},ST w0 wx (It.cells bf #[.string nm,.string dt] ty.GD :: X :: Y :: Z :: (Co bc ca cc a' c' bm n { C with parts:=bB }++H)) ->
   AfW w0 H bc ca cc bm n (Yf C cs (rws ps)) (.tuple #[.agg #[.int .i64 0,.int .i64 (A4 bB:Int)],.slice (some ⟨bf,0,none⟩) 1 1]) wx:=λ {wx bf X Y Z} S =>
  ⟨(0,A4 bB),[(nm,dt)],{ C with parts:=bB },some ⟨bf,0,none⟩,a',c',.inr (.inr ⟨he,aB,bb,hI,by rw [<- hdt,<- cC,hps'];simp [rws],rfl,by rw [<- hdt,<- cC]⟩),rfl,
   (S.IX 0 rfl (.refl _ _) (It.rd (some ⟨bf,0,none⟩) (BH [(nm,dt)])) (S.Gw 0 rfl) (λ k hk=>.inl hk)).keep 3⟩
 refine⟨_,_,_,S.cell 3 rfl rfl,_,S.cell 1 rfl rfl,_,S.cell 1 rfl rfl,?_,?_⟩
 ·refine (Yy (ps:=bB) (S.rd 5 rfl) (by omega) pW).mono ?_;rintro _ ff ⟨_,rfl,rfl,qU⟩;have S:=S.grown qU;refine⟨_,rfl,⟨S.cell 1 rfl rfl,S.cell 1 rfl rfl⟩,?_,?_⟩
  ·exact S.An λ b42 eo _ _ S=>S.BR 3 rfl (aC:=#[.int .i64 0,.int .i64 0]) (by simp) rfl λ gp S=>S.BR 3 rfl (aC:=#[.int .i64 0,.int .i64 (A4 bB:Int)]) (by simp) rfl λ iM S=>⟨_,S.cell 3 rfl rfl,_,S.cell 3 rfl rfl,cy S⟩
  ·exact S.BR 2 rfl (aC:=#[.int .i64 0,.int .i64 0]) (by simp) rfl λ gW S=>S.BR 2 rfl (aC:=#[.int .i64 0,.int .i64 (A4 bB:Int)]) (by simp) rfl λ fJ S=>⟨⟨S.cell 1 rfl rfl,S.cell 1 rfl rfl⟩,S.An λ ya gG _ _ S=>⟨_,S.cell 3 rfl rfl,_,S.cell 3 rfl rfl,cy S⟩⟩
 ·refine S.An λ b48 jl _ _ S=>⟨S.cell 4 rfl rfl,(Yy (ps:=bB) (S.rd 6 rfl) (by omega) pW).mono ?_⟩;rintro _ kN ⟨_,rfl,rfl,oE⟩;have S:=S.grown oE;exact⟨_,rfl,S.BR 3 rfl (aC:=#[.int .i64 0,.int .i64 0]) (by simp) rfl λ nE S=>S.BR 3 rfl (aC:=#[.int .i64 0,.int .i64 (A4 bB:Int)]) (by simp) rfl λ kD S=>⟨_,S.cell 3 rfl rfl,_,S.cell 3 rfl rfl,cy S⟩⟩
end
def Kg:List Km->List Nat
 | []=>[]
 | c :: k=>if c.1∈Kg k then Kg k else c.1 :: Kg k
theorem FE:∀(k:List Km) (i:Nat),i∈Kg k↔i∈k.map (·.1)
 | [],i=>by simp [Kg]
 | c :: k,i=>by
  have ih:=FE k;unfold Kg;split
  ·rename_i h;rw [ih i,AmG,AkL];constructor
   ·exact .inr
   ·rintro (rfl | h2)
    ·exact (ih _).1 h
    ·exact h2
  ·rw [AkL,ih i,AmG,AkL]
theorem EE:∀(k:List Km),(Kg k).Nodup
 | []=>by simp [Kg]
 | c :: k=>by
  unfold Kg;split
  ·exact EE k
  ·rename_i h;exact List.nodup_cons.2 ⟨h,EE k⟩
def UI(k:List Km):Nat:=(Kg k).length
theorem TY:Tryz.prog.underlying ty.int64=some (.int .i64):=by kernel_rfl
theorem O9:Tryz.prog.underlying ty.DD=some (.map ty.int64 ty.FP):=by kernel_rfl
theorem ZC(w:World):(zeroValue ty.FP).run Tryz.prog w=.ok (YA (0,0,0)) w:=Tryz.zeroValue99 w
def Afo(C:Cn)(cs:List BQ)(d:Nat × Nat)(fs:List Kv)(C':Cn):Prop :=
 (C.AM≠[]/\d=(2,0)/\fs=[]/\C'=C)\/(C.AM=[]/\d=(0,0)/\fs=[]/\C'={ C with AM:=cs })
def UF(C:Cn)(id num:Nat)(cs:List BQ)(rows:List (List AB))(d:Nat × Nat)(fs:List Kv)(C':Cn):Prop :=
 (∃ t,mapOf C.k id=some t/\t.1=num/\d=t.2/\fs=[]/\C'=C)\/(∃ t,mapOf C.k id=some t/\num<t.1/\d=(2,0)/\fs=[]/\C'=C) \/
  (mapOf C.k id=none/\UI C.k=64/\d=(130,0)/\fs=[]/\C'=C) \/
  ((∀ t,mapOf C.k id=some t->t.1<num)/\(mapOf C.k id=none->UI C.k≠64)/\∃ C1,Yf C cs rows d fs C1/\C'={ C1 with k:=C1.k++[(id,num,d)] })
def VM(w0:World)(H:List It)(bc bm N:Nat)(R:Nat × Nat->List Kv->Cn->Prop)(v:Value)(w':World):Prop :=
 ∃ d fs C' fa ca cc pa pc n,R d fs C'/\v=AdJ d fa fs/\(ca=none↔C'.AM=[])/\n<=N/\ST w0 w' (It.rd fa (BH fs) :: (Co bc ca cc pa pc bm n C'++H))
section
variable {w0 w:World}{H:List It}{bc bm n N cc pc:Nat}{ca pa:Option Addr}{C:Cn}
theorem AgK(k:List Km)(i:Nat):∃ x y z:Nat,(WO k (i:Int)).getD (0,0,0)=((x:Int),(y:Int),(z:Int))/\(mapOf k i=none/\(WO k (i:Int)).isSome=false\/mapOf k i=some (x,y,z)/\(WO k (i:Int)).isSome=true):=by
 rw [AhZ];cases h:mapOf k i with
 | none=>exact⟨0,0,0,rfl,.inl ⟨rfl,rfl⟩⟩
 | some t=>exact⟨t.1,t.2.1,t.2.2,rfl,.inr ⟨rfl,rfl⟩⟩
theorem AiQ{k:List Km}(h:IF Tryz.prog ty.int64 w bm n (WO k)){f:Value->World->Prop}(hf:f (.int .i64 (UI k:Int)) w):DE Tryz.prog (Builtin.len_ #[ty.DD] ty.int #[.map (some bm)]) f w:=by
 have:=h.len TY O9 ty.int (ks:=(Kg k).map (λ i:Nat=>(i:Int))) (List.pairwise_map.2 ((EE k).imp λ {a b} jP e=>jP (by omega))) (λ x=>by
  rw [List.mem_map,Agx];constructor
  ·rintro⟨i,hi,rfl⟩;exact⟨by omega,by rw [Ak4];exact HK.2 ((FE k i).1 hi)⟩
  ·rintro⟨h0,h1⟩;exact⟨x.toNat,(FE k _).2 (HK.1 h1),by omega⟩)
 unfold DE;rw [this,List.length_map];exact hf
set_option maxHeartbeats 1000000 in
theorem AcC{q0 q1:Nat}{a:Option Addr}{c:Nat}{cs:List BQ}(S:ST w0 w (It.cells q0 #[.pointer (some ⟨bc,0,none⟩)] ty.A1 :: It.cells q1 #[.slice a cs.length c] ty.AX :: CK a c cs :: (Co bc ca cc pa pc bm n C++H)))
  (hR:Aq cs=true) (bg:ca=none↔C.AM=[]) (hN:n<=N) :
  Calls Tryz.prog f.EZ #[.pointer (some ⟨q0,0,none⟩),.pointer (some ⟨q1,0,none⟩)] w (AG (VM w0 H bc bm N (Afo C cs))):=by
 apply R.F3
 delta R.A R.Ab R.Be R.E R.F R.H R.I R.Li R.Lp R.Ls R.N R.O R.S R.Am;try dsimp only [R.Ps]
 refine S.An λ b3 w1 _ _ S=>⟨_,S.cell 1 rfl rfl,_,_,_,S.cell 4 rfl rfl,Au (Ap (λ h=>?_) (λ h=>?_))⟩
 ·have hn:ca=none:=by simpa using h
  have gi:=bg.1 hn;refine⟨_,S.cell 1 rfl rfl,_,_,_,S.cell 2 rfl rfl,S.BR 4 rfl (aC:=#[.slice a cs.length c,.slice pa C.parts.length pc,.map (some bm)]) (by simp) rfl λ w5 S=>S.BR 0 rfl (aC:=#[.int .i64 0,.int .i64 0]) (by simp) rfl λ w6 S=>S.BR 0 rfl (aC:=#[.int .i64 0,.int .i64 0]) (by simp) rfl λ w7 S=>⟨_,S.cell 0 rfl rfl,_,S.cell 0 rfl rfl,?_⟩⟩;have ha:a≠none:=λ h=>by
   have:=(S.rw 3 rfl).2;rcases this with ⟨_,h2,_⟩ | ⟨g,_,h2,_⟩
   ·have:=(A6 hR).1;omega
   ·rw [h] at h2;cases h2
  have S:=S.drop 3;have S:ST w0 w7 (Co bc a c pa pc bm n { C with AM:=cs }++(CK ca cc C.AM :: H)):=by
   have S:=S.pull 1 rfl;exact S.perm (AmJ _ (AmJ _ ((List.Perm.swap _ _ _).trans (AmJ _ (List.Perm.swap _ _ _)))))
  have S:ST w0 w7 (Co bc a c pa pc bm n { C with AM:=cs }++H):=S.sub ((List.Sublist.refl _).append (List.sublist_cons_self _ _));exact⟨(0,0),[],{ C with AM:=cs },none,a,c,pa,pc,n,.inr ⟨gi,rfl,rfl,rfl⟩,rfl,⟨λ h=>absurd h ha,λ h=>absurd h (Vh hR)⟩,hN,Eb S⟩
 ·refine Ei (K:=VM w0 H bc bm N (Afo C cs)) S 2 λ w' S=>?_;have hn:C.AM≠[]:=λ e=>by rw [bg.2 e] at h;cases h
  exact⟨(2,0),[],C,none,ca,cc,pa,pc,n,.inl ⟨hn,rfl,rfl,rfl⟩,rfl,bg,hN,Eb (S.drop 3)⟩
end
end Go.Proofs.YtpnaifmmggnimaaGreatDoor
namespace Go.Proofs
set_option linter.unusedVariables false
set_option maxRecDepth 100000
open Go.RowKit Go.Maps Go.Sort Go.Shelf
end Go.Proofs
namespace Go.Proofs.YtpnaifmmggnimaaGreatDoor
open _root_.Bool renaming and_eq_true -> AkC, true_and -> AmO
open _root_.Int renaming toNat_natCast -> Ak4
open _root_.List.Sublist renaming refl -> AmN
open _root_.List renaming append_assoc -> Ak2, flatMap_append -> AmM, getElem?_eq_some_iff -> AkN, getElem?_set_self -> AkP, getElem_mem -> AlI, length_append -> Ak1, length_cons -> Ak3, length_nil -> Amf, length_take -> AlX, mem_append -> AlY, mem_cons -> AkL, mem_singleton -> AlZ, nil_append -> Al4, not_mem_nil -> Al5, perm_middle -> AmP, set_set -> Ak0, sublist_append_right -> AmK, take_length -> Al0, take_of_length_le -> AlA, take_succ_eq_append_getElem -> AlW
open _root_.Nat renaming le_refl -> AkY, zero_add -> Ak6
open _root_.Option renaming bind_eq_some_iff -> AmH, bind_some -> Aml
open _root_.Option.some renaming inj -> Al8
open _root_.Prod.mk renaming inj -> AmL
set_option maxRecDepth 100000
open Go.Dn Go.Proofs
open Go.RowKit (Below)
set_option linter.unusedVariables false
theorem Ake{l1 l2 H:List It}:H.Sublist (l1++(l2++H)):=(AmK l2 H).trans (AmK l1 _)
section
variable {w0 w:World}{H:List It}{bc bm n N cc pc:Nat}{ca pa:Option Addr}{C:Cn}
theorem AdO{E:List It}{ra:Option Addr}{rc i:Nat}{ps:List BG}(S:ST w0 w E)(hi:E[i]?=some (GI ra rc ps))(hs:∀ p∈ps,EV p∈E):Bb w ra ps :=
 ⟨S.rd i hi,λ p hp=>Row.rd (S.ok (EV p) (hs p hp))⟩
set_option maxHeartbeats 2000000 in
theorem AcH(T:I8 w0){q0 q1 q2 q3 q4:Nat}{a ra:Option Addr}{c rc id num:Nat}{cs:List BQ}{ps:List BG}
  (S:ST w0 w (It.cells q0 #[.pointer (some ⟨bc,0,none⟩)] ty.A1 :: It.cells q1 #[.int .i64 (id:Int)] ty.int64 :: It.cells q2 #[.int .i64 (num:Int)] ty.int64 :: It.cells q3 #[.slice a cs.length c] ty.AX :: CK a c cs ::
   It.cells q4 #[.slice ra ps.length rc] ty.Cd :: GI ra rc ps :: (Co bc ca cc pa pc bm n C++(ps.map EV++H))))
  (aK:Bv cs (rws ps)) (hq:∀ c∈cs,c.1.size<=9223372036854775807) (hid:id<=Cr) (vy:num<=Cr) (hC:ND C) (bg:ca=none↔C.AM=[]) (hN:n<=N) (ke:N<1000000) :
  Calls Tryz.prog f.Dp #[.pointer (some ⟨q0,0,none⟩),.pointer (some ⟨q1,0,none⟩),.pointer (some ⟨q2,0,none⟩),.pointer (some ⟨q3,0,none⟩),.pointer (some ⟨q4,0,none⟩)] w (AG (VM w0 H bc bm (N+1) (UF C id num cs (rws ps)))):=by
 apply R.F5
 delta R.A R.Ab R.Be R.D R.E R.F R.G R.H R.I R.J R.Li R.Lm R.Lp R.Ls R.M R.N R.O R.P R.Ve R.Ri R.S R.Am R.Z R.Zb R.Zpb;try dsimp only [R.Ps]
 unfold Cr at hid vy;obtain⟨x,y,z,hxyz,aG⟩:=AgK C.k id;obtain⟨ok,hok2⟩:∃ ok,ok=(WO C.k (id:Int)).isSome:=⟨_,rfl⟩;rw [<- hok2] at aG;have aA:(mapOf C.k id=none/\ok=false)\/(mapOf C.k id=some (x,y,z)/\ok=true):=aG;let X:Nat->List It:=λ b6=>[It.cells b6 #[.int .i64 0,.int .i64 0] ty.A0,It.cells q0 #[.pointer (some ⟨bc,0,none⟩)] ty.A1,It.cells q1 #[.int .i64 (id:Int)] ty.int64,It.cells q2 #[.int .i64 (num:Int)] ty.int64,It.cells q3 #[.slice a cs.length c] ty.AX,CK a c cs,
   It.cells q4 #[.slice ra ps.length rc] ty.Cd,GI ra rc ps]
 refine S.An λ b6 w1 _ _ S=>?_;have S:ST w0 w1 (X b6++(Co bc ca cc pa pc bm n C++(ps.map EV++H))):=S;let Q:Nat->World->Prop:=λ b wx=>ST w0 wx (It.cells b #[.int .i64 (x:Int),.int .i64 (y:Int),.int .i64 (z:Int)] ty.FP :: (X b6++(Co bc ca cc pa pc bm n C++(ps.map EV++H))));have xq:∀ {wx:World} {b:Nat},Q b wx->ST w0 wx (It.cells b6 #[.int .i64 0,.int .i64 0] ty.A0 :: (Co bc ca cc pa pc bm n C++H)):=λ {wx b} S =>
  S.sub (.cons _ (.cons_cons _ ((List.Sublist.append (AmN _) (AmK _ _)).trans (AmK [_,_,_,_,_,_,_] _))))
 have nI:∀(d:Nat × Nat) {wx:World},UF C id num cs (rws ps) d [] C->ST w0 wx (Co bc ca cc pa pc bm n C++H)->VM w0 H bc bm (N+1) (UF C id num cs (rws ps)) (.tuple #[.agg #[.int .i64 (d.1:Int),.int .i64 (d.2:Int)],.slice none 0 0]) wx:=λ d wx hI S =>
  ⟨d,[],C,none,ca,cc,pa,pc,n,hI,rfl,bg,by omega,Eb S⟩
 refine⟨λ s wx=>∃ b,s=[.pointer (some ⟨b,0,none⟩),.bool ok]/\Q b wx,?_,?_⟩
 ·refine S.draw λ w2 _ S=>⟨_,S.cell 1 rfl rfl,_,S.cell 8 rfl rfl,_,S.cell 2 rfl rfl,?_,?_⟩
  ·refine S.AdM 11 rfl TY O9 (ZC _) (by omega) ?_;rw [<- hok2,hxyz];refine⟨_,_,_,_,rfl,S.An λ dD w4 _ _ S=>S.BR 0 rfl (aC:=#[.int .i64 (x:Int),.int .i64 0,.int .i64 0]) (by simp) rfl λ w5 S=>S.BR 0 rfl (aC:=#[.int .i64 (x:Int),.int .i64 (y:Int),.int .i64 0]) (by simp) rfl λ w6 S=>S.BR 0 rfl (aC:=#[.int .i64 (x:Int),.int .i64 (y:Int),.int .i64 (z:Int)]) (by simp) rfl λ w7 S=>⟨dD,rfl,S⟩⟩
  ·refine S.An λ ld w8 _ _ S=>⟨S.cell 3 rfl rfl,S.cell 9 rfl rfl,S.cell 2 rfl rfl,?_⟩;refine S.AdM 12 rfl TY O9 (ZC _) (by omega) ?_;rw [<- hok2,hxyz];refine⟨_,_,_,_,rfl,S.BR 0 rfl (aC:=#[.int .i64 (x:Int),.int .i64 0,.int .i64 0]) (by simp) rfl λ w5 S=>S.BR 0 rfl (aC:=#[.int .i64 (x:Int),.int .i64 (y:Int),.int .i64 0]) (by simp) rfl λ w6 S=>S.BR 0 rfl (aC:=#[.int .i64 (x:Int),.int .i64 (y:Int),.int .i64 (z:Int)]) (by simp) rfl λ w7 S=>⟨ld,rfl,S⟩⟩
 clear S;rintro _ _ aj ⟨b,hs,S⟩;cases hs;refine⟨λ s wx=>s=[]/\Q b wx/\(∀ t,mapOf C.k id=some t->t.1<num)/\(mapOf C.k id=none->UI C.k≠64),?_,?_⟩
 ·refine⟨λ s wx=>s=[.bool (ok && decide (x=num))]/\Q b wx,?_,?_⟩
  ·refine Ap (λ h=>⟨_,S.cell 0 rfl rfl,_,S.cell 4 rfl rfl,?_,S⟩) (λ h=>⟨by rw [h];rfl,S⟩);rw [h,AmO];congr 2;by_cases h2:x=num
   ·simp [h2]
   ·have:¬ (x:Int)=(num:Int):=by omega
    simp [h2,this]
  clear S;rintro _ an ⟨hs,S⟩;cases hs;refine Ap (λ h=>?_) (λ h1=>?_)
  ·simp only [AkC,decide_eq_true_eq] at h;obtain⟨hk,rfl⟩:=h;have hm:mapOf C.k id=some (x,y,z):=by
    rcases aA with ⟨_,h2⟩ | ⟨h2,_⟩
    ·rw [h2] at hk;cases hk
    ·exact h2
   refine⟨_,S.cell 0 rfl rfl,_,S.cell 0 rfl rfl,S.BR 1 rfl (aC:=#[.int .i64 (y:Int),.int .i64 0]) (by simp) rfl λ ah S=>S.BR 1 rfl (aC:=#[.int .i64 (y:Int),.int .i64 (z:Int)]) (by simp) rfl λ cf S=>⟨_,S.cell 1 rfl rfl,_,S.cell 1 rfl rfl,?_⟩⟩;exact nI (y,z) (.inl ⟨_,hm,rfl,rfl,rfl,rfl⟩) (S.sub (.cons _ (.cons _ ((List.Sublist.append (AmN _) (AmK _ _)).trans (AmK [_,_,_,_,_,_,_] _)))))
  refine⟨λ s wx=>s=[.bool (ok && decide (num<x))]/\Q b wx,?_,?_⟩
  ·refine Ap (λ h=>⟨_,S.cell 0 rfl rfl,_,S.cell 4 rfl rfl,?_,S⟩) (λ h=>⟨by rw [h];rfl,S⟩);rw [h,AmO];congr 2;by_cases h2:num<x
   ·have:(x:Int) > (num:Int):=by omega
    simp [h2,this]
   ·have:¬ (x:Int) > (num:Int):=by omega
    simp [h2,this]
  clear S;rintro _ cP ⟨hs,S⟩;cases hs;refine Ap (λ h=>?_) (λ h2=>?_)
  ·simp only [AkC,decide_eq_true_eq] at h;obtain⟨hk,aB⟩:=h;have hm:mapOf C.k id=some (x,y,z):=by
    rcases aA with ⟨_,h2⟩ | ⟨h2,_⟩
    ·rw [h2] at hk;cases hk
    ·exact h2
   exact Ei (K:=VM w0 H bc bm (N+1) (UF C id num cs (rws ps))) (xq S) 2 λ w' S=>nI (2,0) (.inr (.inl ⟨_,hm,aB,rfl,rfl,rfl⟩)) S
  refine Au (Ap (λ hk=>?_) (λ hk=>?_))
  ·refine⟨rfl,S,λ t ht=>?_,λ h=>?_⟩
   ·rcases aA with ⟨h3,_⟩ | ⟨h3,_⟩
    ·rw [h3] at ht;cases ht
    ·rw [h3] at ht;cases ht;rw [hk,AmO,decide_eq_false_iff_not] at h1 h2;omega
   ·rcases aA with ⟨_,h3⟩ | ⟨h3,_⟩
    ·rw [h3] at hk;cases hk
    ·rw [h3] at h;cases h
  ·have hm:mapOf C.k id=none:=by
    rcases aA with ⟨h3,_⟩ | ⟨_,h3⟩
    ·exact h3
    ·rw [h3] at hk;cases hk
   refine⟨_,S.cell 2 rfl rfl,_,S.cell 9 rfl rfl,AiQ (S.get 12 rfl) ⟨_,rfl,Ao (λ h=>?_) (λ h=>?_)⟩⟩
   ·exact Ei (K:=VM w0 H bc bm (N+1) (UF C id num cs (rws ps))) (xq S) 130 λ w' S=>nI (130,0) (.inr (.inr (.inl ⟨hm,by omega,rfl,rfl,rfl⟩))) S
   ·exact⟨rfl,S,λ t ht=>(by rw [hm] at ht;cases ht),λ _=>by omega⟩
 clear S;rintro gG ⟨_,S,aB,sm⟩;refine⟨_,S.cell 2 rfl rfl,_,_,_,S.cell 5 rfl rfl,_,_,_,S.cell 7 rfl rfl,?_⟩;have al:Rd gG a (BM cs):=S.rd 6 rfl;have rL:Bb gG ra ps:=AdO S (i:=8) rfl λ p hp=>by
  refine List.mem_cons_of_mem _ (List.mem_append_right _ (List.mem_append_right _ (List.mem_append_left _ (List.mem_map.2 ⟨p,hp,rfl⟩))))
 have S:ST w0 gG ((It.cells b #[.int .i64 (x:Int),.int .i64 (y:Int),.int .i64 (z:Int)] ty.FP :: X b6)++(Co bc ca cc pa pc bm n C++(ps.map EV++H))):=S;have S:=ST.mid (Co bc ca cc pa pc bm n C) S;have bM:=A6 aK.right;refine (AiO (c:=c) (c2:=rc) T S hC al (by omega) hq rL aK).mono ?_;rintro _ jl ⟨_,rfl,d,fs,C1,fa,di,dj,hA,rfl,S⟩;obtain⟨d1,d2⟩:=d;refine⟨_,_,_,_,_,rfl,S.An λ b66 kN _ _ S=>S.BR 0 rfl (aC:=#[.int .i64 (d1:Int),.int .i64 0]) (by simp) rfl λ nE S=>S.BR 0 rfl (aC:=#[.int .i64 (d1:Int),.int .i64 (d2:Int)]) (by simp) rfl λ kD S=>S.draw λ eA _ S =>
  ⟨_,S.cell 8 rfl rfl,_,S.cell 2 rfl rfl,_,S.cell 9 rfl rfl,_,S.cell 10 rfl rfl,_,S.cell 0 rfl rfl,_,S.cell 0 rfl rfl,?_⟩⟩
 refine S.Aj1 5 rfl TY O9 (by unfold maxLen;omega) (by omega) ((num:Int),(d1:Int),(d2:Int)) λ kB S=>⟨_,S.cell 0 rfl rfl,_,S.cell 0 rfl rfl,S.BR 7 rfl (aC:=#[.int .i64 (d1:Int),.int .i64 0]) (by simp) rfl λ cQ S=>S.BR 7 rfl (aC:=#[.int .i64 (d1:Int),.int .i64 (d2:Int)]) (by simp) rfl λ iQ S=>⟨_,S.cell 7 rfl rfl,_,S.cell 7 rfl rfl,?_⟩⟩;have cm:C1.k=C.k:=by
  rcases hA with ⟨_,_,_,rfl⟩ | ⟨_,_,_,_,rfl⟩ | ⟨_,_,_,_,rfl,_⟩ <;> rfl
 have gH:C1.AM=C.AM:=by
  rcases hA with ⟨_,_,_,rfl⟩ | ⟨_,_,_,_,rfl⟩ | ⟨_,_,_,_,rfl,_⟩ <;> rfl
 have S:=S.drop 1;have eg:(λ y=>if y=(id:Int) then some ((num:Int),(d1:Int),(d2:Int)) else WO C1.k y)=WO (C1.k++[(id,num,d1,d2)]):=(Ahl C1.k (id,num,d1,d2)).symm;have S:ST w0 iQ (It.rd fa (BH fs) :: (Co bc ca cc di dj bm (n+1) { C1 with k:=C1.k++[(id,num,d1,d2)] }++H)):=by
  rw [eg] at S;exact S.sub (.cons_cons _ (.cons_cons _ (.cons_cons _ (.cons_cons _ (.cons_cons _ (Ake (l1:=[_,_,_,_,_,_,_,_,_]) (l2:=ps.map EV)))))))
 exact⟨(d1,d2),fs,_,fa,ca,cc,di,dj,n+1,.inr (.inr (.inr ⟨aB,sm,C1,hA,rfl⟩)),rfl,by simp only [gH];exact bg,by omega,S⟩
end
section
variable {w0 w:World}{H:List It}{b:Nat}{a:Option Addr}{c at_:Nat}{bad:Bool}{l:List UInt8}
theorem Aea{ca:Option Addr}{cn cc:Nat}(S:ST w0 w H)(n:Nat)(hn:H[n]?=some (EX b a l.length c at_ true)) :
  Calls Tryz.prog f.Hb #[.pointer (some ⟨b,0,none⟩),.slice ca cn cc] w (AG λ v w'=>v=.slice none 0 0/\w'=w):=by
 apply R.E5
 delta R.Ir R.D R.F R.G R.I R.Lb R.Li R.Ls R.O R.S R.Am;try dsimp only [R.Ps]
 exact⟨_,S.cell n hn rfl,Ap (λ _=>⟨rfl,rfl⟩) (λ h=>by cases h)⟩
theorem AfY{ca:Option Addr}{cc:Nat}{cs:List BQ}(S:ST w0 w H)(n m:Nat)(hn:H[n]?=some (EX b a l.length c at_ false))(hm:H[m]?=some (It.rd a (l.map Ag)))(hc:l.length<=c)(hs:l.length<=140737488355328)
  (al:Rd w ca (BM cs)) (lJ:cs.length<=9223372036854775807) (hq:∀ c∈cs,c.1.size<=9223372036854775807) :
  Calls Tryz.prog f.Hb #[.pointer (some ⟨b,0,none⟩),.slice ca cs.length cc] w (AG λ v w'=>∃(ra:Option Addr) (rc:Nat) (ps:List BG) (at':Nat) (aY:Bool),v=.slice ra ps.length rc /\
   ST w0 w' (GI ra rc ps :: (H.set n (EX b a l.length c at' aY)++ps.map EV))/\((aY=false/\Bg l cs (at_:Int)=some (rws ps,at')/\ps≠[])\/(aY=true/\∀ x,Bg l cs (at_:Int)=some x->x.1=[]))):=by
 apply R.E5
 delta R.Ir R.D R.F R.G R.I R.Lb R.Li R.Ls R.O R.S R.Am;try dsimp only [R.Ps]
 refine⟨_,S.cell n hn rfl,Ap (λ h=>by cases h) (λ _=>?_)⟩;refine S.draw λ w1 B1 S=>⟨_,_,_,S.cell n hn rfl,_,S.cell n hn rfl,?_⟩;refine (Ou (S.get m hm) hc hs (at_:Int) (al.grown B1) lJ hq).mono ?_;rintro _ w2 ⟨_,rfl,hx⟩;cases ho:Bg l cs (at_:Int) with
 | none =>
  rw [ho] at hx;obtain⟨e,he,rfl,B⟩:=hx;have S:=S.grown B;refine⟨_,_,_,_,_,rfl,Ah (λ _=>?_) (λ h=>absurd h he)⟩;have aB:=(AkN.1 hn).1
  try simp only [Av]
  refine S.BR n hn (i:=2) (aC:=#[.slice a l.length c,.int .i64 (at_:Int),.bool true]) (by simp) rfl λ w3 S=>?_;refine S.BR n (AkP aB) (i:=1) (aC:=#[.slice a l.length c,.int .i64 0,.bool true]) (by simp) rfl λ w4 S=>?_;rw [Ak0] at S;exact⟨none,0,[],0,true,rfl,(by
   have S:=S.nil ty.CH 1;rw [List.map_nil,List.append_nil];exact S),.inr ⟨rfl,λ x hx=>by cases hx⟩⟩
 | some x =>
  rw [ho] at hx;obtain⟨ra,rc,ps,rfl,dk,R⟩:=hx;have S:=S.join R;have S:ST w0 w2 (H++(GI ra rc ps :: ps.map EV)):=S.perm List.perm_append_comm;have aB:=(AkN.1 hn).1;have cg:(H++(GI ra rc ps :: ps.map EV))[n]?=some (EX b a l.length c at_ false):=by rw [List.getElem?_append_left aB];exact hn
  have l9:=(AkN.1 cg).1;refine⟨_,_,_,_,_,rfl,Ah (λ h=>absurd rfl h) (λ _=>?_)⟩
  try simp only [Av]
  refine S.BR n cg (i:=2) (aC:=#[.slice a l.length c,.int .i64 (at_:Int),.bool ((ps.length:Int)==0)]) (by simp) rfl λ w3 S=>?_;refine S.BR n (AkP l9) (i:=1) (aC:=#[.slice a l.length c,.int .i64 (x.2:Int),.bool ((ps.length:Int)==0)]) (by simp) rfl λ w4 S=>?_;rw [Ak0,List.set_append_left _ _ aB] at S;refine⟨ra,rc,ps,x.2,((ps.length:Int)==0),rfl,S.perm AmP,?_⟩;cases hl:ps with
  | nil =>
   refine .inr ⟨rfl,λ y hy=>?_⟩;cases hy;rw [<- dk,hl];rfl
  | cons p qs =>
   refine .inl ⟨?_,?_,by simp⟩
   ·simp;omega
   ·rw [<- hl,dk]
def XR(l:List UInt8)(at_:Nat):Option ((Nat × Nat × List BQ × List (List AB)) × Nat) :=
 (OT l 0 Cr at_).bind λ x=>(OT l 1 Cr x.2).bind λ y=>(Bk l (y.2:Int)).bind λ z=>(Bg l z.1 (z.2:Int)).bind λ u=>if u.1=[] then none else some ((x.1,y.1,z.1,u.1),u.2)
def Ab6(w0:World)(H:List It)(bc bm N b:Nat)(a:Option Addr)(n c:Nat)(C:Cn)(Q:Nat × Nat->List Kv->Cn->Prop)(v:Value)(w':World):Prop :=
 ∃ at' aY g ca Z pc cc pa gB m,v=.func (.func g) #[] ca/\enters Tryz.prog g=true/\ST w0 w' (EX b a n c at' aY :: (Z++(Co bc gB cc pa pc bm m C++H)))/\(gB=none↔C.AM=[])/\m<=N /\
  ((aY=true\/at'≠n)->Q (220,0) [] C) /\
  (aY=false->at'=n->∀ wx,ST w0 wx (EX b a n c at' aY :: (Z++(Co bc gB cc pa pc bm m C++H)))->Calls Tryz.prog g ca wx (AG (VM w0 H bc bm (N+1) Q)))
def Ah4(C:Cn)(l:List UInt8)(d:Nat × Nat)(fs:List Kv)(C':Cn):Prop :=
 (∃ cs,Bk l 1=some (cs,l.length)/\Afo C cs d fs C')\/((∀ cs,Bk l 1≠some (cs,l.length))/\d=(220,0)/\fs=[]/\C'=C)
def AhB(C:Cn)(l:List UInt8)(d:Nat × Nat)(fs:List Kv)(C':Cn):Prop :=
 (∃ x,XR l 1=some (x,l.length)/\UF C x.1 x.2.1 x.2.2.1 x.2.2.2 d fs C')\/((∀ x,XR l 1≠some (x,l.length))/\d=(220,0)/\fs=[]/\C'=C)
theorem WQ{bc bm n N cc pc:Nat}{ca pa:Option Addr}{C:Cn}(S:ST w0 w (EX b a l.length c 1 false :: It.rd a (l.map Ag) :: (Co bc ca cc pa pc bm n C++H)))(hc:l.length<=c)(hs:l.length<=140737488355328)(bg:ca=none↔C.AM=[])(hN:n<=N) :
  Calls Tryz.prog f.FN #[.pointer (some ⟨bc,0,none⟩),.pointer (some ⟨b,0,none⟩)] w (AG (Ab6 w0 H bc bm N b a l.length c C (Ah4 C l))):=by
 apply R.GZ
 delta R.A R.Cs R.J R.N R.O R.P R.S R.Am;try dsimp only [R.Ps]
 refine S.An λ b3 w1 _ _ S=>?_;refine (US S 1 2 rfl rfl hc hs).mono ?_;rintro _ w2 ⟨_,rfl,sa,sc,cs,at',aY,rfl,S,hG,_⟩;refine⟨_,_,_,rfl,S.An λ b6 w3 _ _ S=>S.BR 0 rfl (aC:=#[.slice sa cs.length sc]) (by simp) rfl λ w4 S=>?_⟩;have S:ST w0 w4 (EX b a l.length c at' aY :: ([It.cells b6 #[.slice sa cs.length sc] ty.AX,CK sa sc cs,It.cells b3 #[.pointer (some ⟨bc,0,none⟩)] ty.A1,It.rd a (l.map Ag)]++(Co bc ca cc pa pc bm n C++H))):=S.pull 3 rfl;refine⟨at',aY,f.EZ,#[.pointer (some ⟨b3,0,none⟩),.pointer (some ⟨b6,0,none⟩)],_,pc,cc,pa,ca,n,rfl,by kernel_rfl,S,bg,hN,λ h=>.inr ⟨λ aC e=>?_,rfl,rfl,rfl⟩,λ hb ha wx S=>?_⟩
 ·rcases hG with ⟨h1,_,h2⟩ | ⟨_,h2 | h2⟩
  ·rw [show ((1:Nat):Int)=1 from rfl,e] at h2;cases h2;rcases h with h | h
   ·rw [h1] at h;cases h
   ·exact h rfl
  ·cases h2
  ·rw [show ((1:Nat):Int)=1 from rfl,e] at h2;cases h2
 ·subst hb;subst ha;obtain⟨_,h2⟩:=hG.ok;have hR:=DA h2;have S:=S.drop 1;have S:ST w0 wx (It.cells b3 #[.pointer (some ⟨bc,0,none⟩)] ty.A1 :: It.cells b6 #[.slice sa cs.length sc] ty.AX :: CK sa sc cs :: (Co bc ca cc pa pc bm n C++H)) :=
   (S.pull 2 rfl).sub (.cons_cons _ (.cons_cons _ (.cons_cons _ (.cons _ (AmN _)))))
  refine (AcC (N:=N) S hR bg hN).mono ?_;rintro _ w' ⟨v,rfl,d,fs,C',fa,kb,jn,k8,jw,n2,h3,h4,h5,h6,h7⟩;exact⟨v,rfl,d,fs,C',fa,kb,jn,k8,jw,n2,.inl ⟨cs,h2,h3⟩,h4,h5,by omega,h7⟩
theorem SL.some{α:Type}{aY:Bool}{o:Option α}{x y:α}(h:SL false aY o x)(hy:o=Option.some y):aY=false/\x=y:=by
 rcases h with ⟨h1,_,h2⟩ | ⟨_,h2 | h2⟩
 ·rw [hy] at h2;exact⟨h1,(Al8 h2).symm⟩
 ·cases h2
 ·rw [hy] at h2;cases h2
theorem Xe{l:List UInt8}{at_:Nat}{x:Nat × Nat × List BQ × List (List AB)}{k:Nat}(h:XR l at_=some (x,k)) :
  ∃ a1 a2 a3,OT l 0 Cr at_=some (x.1,a1)/\OT l 1 Cr a1=some (x.2.1,a2)/\Bk l (a2:Int)=some (x.2.2.1,a3)/\Bg l x.2.2.1 (a3:Int)=some (x.2.2.2,k)/\x.2.2.2≠[]:=by
 unfold XR at h;obtain⟨y1,h1,h⟩:=AmH.1 h;obtain⟨y2,h2,h⟩:=AmH.1 h;obtain⟨y3,h3,h⟩:=AmH.1 h;obtain⟨y4,h4,h⟩:=AmH.1 h;split at h
 ·cases h
 ·rename_i aQ;cases h;exact⟨y1.2,y2.2,y3.2,h1,h2,h3,h4,aQ⟩
set_option maxHeartbeats 1000000 in
theorem WM(T:I8 w0){bc bm n N cc pc:Nat}{ca pa:Option Addr}{C:Cn}(S:ST w0 w (EX b a l.length c 1 false :: It.rd a (l.map Ag) :: (Co bc ca cc pa pc bm n C++H)))(hc:l.length<=c)(hs:l.length<=140737488355328)(hC:ND C)(bg:ca=none↔C.AM=[])(hN:n<=N)(ke:N<1000000) :
  Calls Tryz.prog f.FM #[.pointer (some ⟨bc,0,none⟩),.pointer (some ⟨b,0,none⟩)] w (AG (Ab6 w0 H bc bm N b a l.length c C (AhB C l))):=by
 apply R.GW
 delta R.A R.Ci R.Cs R.I R.J R.Ls R.N R.O R.P R.S R.Am;try dsimp only [R.Ps]
 refine S.An λ b3 w1 _ _ S=>?_;refine (OC S 1 2 rfl rfl hc hs 0 Cr (AkY _)).mono ?_;rintro _ w2 ⟨_,rfl,z1,aL,bad1,rfl,S,G1,_⟩;refine⟨_,rfl,(OC S 1 2 rfl rfl hc hs 1 Cr (AkY _)).mono ?_⟩;rintro _ w3 ⟨_,rfl,z2,aZ,dm,rfl,S,G2,_⟩;refine⟨_,rfl,S.An λ b8 w4 _ _ S=>S.An λ b9 w5 _ _ S=>S.BR 1 rfl (aC:=#[.int .i64 (z1:Int)]) (by simp) rfl λ w6 S=>S.BR 0 rfl (aC:=#[.int .i64 (z2:Int)]) (by simp) rfl λ w7 S=>?_⟩;refine (US S 3 4 rfl rfl hc hs).mono ?_;rintro _ w8 ⟨_,rfl,sa,sc,cs,bH,pN,rfl,S,G3,_⟩;refine⟨_,_,_,rfl,S.An λ df w9 _ _ S=>S.BR 0 rfl (aC:=#[.slice sa cs.length sc]) (by simp) rfl λ bZ S=>⟨_,_,_,S.cell 0 rfl rfl,?_⟩⟩;have bX:∀ x k,XR l 1=some (x,k)->pN=false/\z1=x.1/\z2=x.2.1/\cs=x.2.2.1/\Bg l cs (bH:Int)=some (x.2.2.2,k)/\x.2.2.2≠[]:=λ x k e=>by
  obtain⟨a1,a2,a3,h1,h2,h3,h4,h5⟩:=Xe e;obtain⟨rfl,e1⟩:=G1.some h1;obtain⟨rfl,rfl⟩:=AmL e1;obtain⟨rfl,e2⟩:=G2.some h2;obtain⟨rfl,rfl⟩:=AmL e2;obtain⟨rfl,e3⟩:=G3.some h3;obtain⟨rfl,rfl⟩:=AmL e3;exact⟨rfl,rfl,rfl,rfl,h4,h5⟩
 cases pN with
 | true =>
  refine (Aea S 5 rfl).mono ?_;rintro _ aX ⟨_,rfl,rfl,rfl⟩;refine⟨_,_,_,rfl,S.An λ dD bJ _ _ S=>S.BR 0 rfl (aC:=#[.slice none 0 0]) (by simp) rfl λ aj S=>?_⟩;have S:ST w0 aj (EX b a l.length c bH true :: ([It.cells dD #[.slice none 0 0] ty.Cd,It.cells df #[.slice sa cs.length sc] ty.AX,CK sa sc cs,It.cells b9 #[.int .i64 (z2:Int)] ty.int64,It.cells b8 #[.int .i64 (z1:Int)] ty.int64,It.cells b3 #[.pointer (some ⟨bc,0,none⟩)] ty.A1,
   It.rd a (l.map Ag)]++(Co bc ca cc pa pc bm n C++H))):=S.pull 6 rfl
  exact⟨bH,true,f.Dp,_,_,pc,cc,pa,ca,n,rfl,by kernel_rfl,S,bg,hN,λ _=>.inr ⟨λ x e=>(by have:=(bX x _ e).1;cases this),rfl,rfl,rfl⟩,λ h=>by cases h⟩
 | false =>
  obtain⟨dC,h3⟩:=G3.ok;subst dC;obtain⟨cJ,h2⟩:=G2.ok;subst cJ;obtain⟨_,h1⟩:=G1.ok;have hR:=DA h3;have bM:=A6 hR;have hq:∀ c∈cs,c.1.size<=9223372036854775807:=λ c hc=>by have:=(Dq hR hc).2.2.2;omega
  refine (AfY (cc:=sc) S 5 6 rfl rfl hc hs (S.rd 1 rfl) (by simp only at bM;omega) hq).mono ?_;rintro _ aX ⟨_,rfl,ra,rc,ps,ug,nV,rfl,S,G4⟩;refine⟨_,_,_,rfl,S.An λ dD bJ _ _ S=>S.BR 0 rfl (aC:=#[.slice ra ps.length rc]) (by simp) rfl λ aj S=>?_⟩;have S:=(((((((S.pull 3 rfl).pull 3 rfl).pull 4 rfl).pull 5 rfl).pull 6 rfl).pull 8 rfl).pull 8 rfl);let Z:List It:=[It.cells b3 #[.pointer (some ⟨bc,0,none⟩)] ty.A1,It.cells b8 #[.int .i64 (z1:Int)] ty.int64,It.cells b9 #[.int .i64 (z2:Int)] ty.int64,It.cells df #[.slice sa cs.length sc] ty.AX,CK sa sc cs,
   It.cells dD #[.slice ra ps.length rc] ty.Cd,GI ra rc ps]
  have S:ST w0 aj (EX b a l.length c ug nV :: It.rd a (l.map Ag) :: (Z++((Co bc ca cc pa pc bm n C++H)++ps.map EV))):=S;have S:ST w0 aj (EX b a l.length c ug nV :: It.rd a (l.map Ag) :: (Z++(ps.map EV++(Co bc ca cc pa pc bm n C++H)))):=S.perm (List.Perm.append_left (_ :: _ :: Z) List.perm_append_comm);rw [<- Ak2] at S;refine⟨ug,nV,f.Dp,_,It.rd a (l.map Ag) :: (Z++ps.map EV),pc,cc,pa,ca,n,rfl,by kernel_rfl,S,bg,hN,λ h=>.inr ⟨λ x e=>?_,rfl,rfl,rfl⟩,λ hb ha wx S=>?_⟩
  ·obtain⟨_,_,_,_,h4,h5⟩:=bX x _ e;rcases G4 with ⟨g1,g2,_⟩ | ⟨_,g2⟩
   ·rw [h4] at g2;obtain⟨_,rfl⟩:=AmL (Al8 g2);rcases h with h | h
    ·rw [g1] at h;cases h
    ·exact h rfl
   ·exact h5 (g2 _ h4)
  ·subst hb;subst ha;rcases G4 with ⟨_,g2,g3⟩ | ⟨g1,_⟩
   case inr=>cases g1
   have aK:=(LH g2).1;have S:ST w0 wx (EX b a l.length c l.length false :: It.rd a (l.map Ag) :: ((Z++ps.map EV)++(Co bc ca cc pa pc bm n C++H))):=S;rw [Ak2] at S;have S:ST w0 wx (Z++(Co bc ca cc pa pc bm n C++(ps.map EV++H))):=(S.drop 2).perm (List.Perm.append_left Z (List.perm_append_comm_assoc _ _ _));refine (AcH (N:=N) T S aK hq (HM h1).2.2 (HM h2).2.2 hC bg hN ke).mono ?_;rintro _ w' ⟨v,rfl,d,fs,C',fa,kb,jn,k8,jw,n2,e3,e4,e5,e6,e7⟩;refine⟨v,rfl,d,fs,C',fa,kb,jn,k8,jw,n2,.inl ⟨(z1,z2,cs,rws ps),?_,e3⟩,e4,e5,e6,e7⟩;have aQ:rws ps≠[]:=by
    intro h;apply g3;simpa [rws] using h
   unfold XR;rw [h1,Aml,h2,Aml,h3,Aml,g2,Aml,if_neg aQ]
end
def Sel(s:ByteArray)(rf:FuncId):Prop :=
 ((Ay s 0).toNat=1/\rf=f.FN)\/((Ay s 0).toNat=2/\rf=f.FM)\/((Ay s 0).toNat=3/\rf=f.F6)
theorem Abs(p:Option Addr)(w:World):Calls Tryz.prog f.DC #[.pointer p] w (AG λ v w'=>v=.nilFunc/\w'=w):=by
 apply R.Ga
 skip
 exact⟨rfl,rfl⟩
theorem AgG(b:Nat)(a:Option Addr)(n c:Nat):It.cells b #[.slice a n c,.int .i64 1,.bool false] ty.KY=EX b a n c 1 false:=rfl
section
variable {w0 w:World}{H:List It}{bc bm n N cc pc:Nat}{ca pa:Option Addr}{C:Cn}
set_option maxHeartbeats 1000000 in
theorem On{Q:Nat × Nat->List Kv->Cn->Prop}(S:ST w0 w (Co bc ca cc pa pc bm n C++H))(bg:ca=none↔C.AM=[])(hN:n<=N)(s:ByteArray)
  (p4:s.size=0\/262144<s.size\/((Ay s 0).toNat≠1/\(Ay s 0).toNat≠2/\(Ay s 0).toNat≠3)->Q (220,0) [] C)
  (br:∀ rf,Sel s rf->0<s.size->s.size<=262144->∀(H:List It) (b:Nat) (a:Option Addr) (c:Nat) (wx:World),(bl s).length<=c->ST w0 wx (EX b a (bl s).length c 1 false :: It.rd a ((bl s).map Ag) :: (Co bc ca cc pa pc bm n C++H)) ->
   Calls Tryz.prog rf #[.pointer (some ⟨bc,0,none⟩),.pointer (some ⟨b,0,none⟩)] wx (AG (Ab6 w0 H bc bm N b a (bl s).length c C Q))) :
  Calls Tryz.prog f.Dj #[.pointer (some ⟨bc,0,none⟩),.string s] w (AG (VM w0 H bc bm (N+1) Q)):=by
 apply R.He
 delta R.A R.Ab R.Be R.Cb R.E R.F R.G R.H R.I R.J R.Li R.N R.P R.Rs R.S R.Am R.T R.X R.Zf;try dsimp only [R.Ps]
 have au:=A9 s;refine S.An λ b3 w1 _ _ S=>Ap (λ h=>by cases h) (λ _=>?_);have bu:∀ {wx:World},(s.size=0\/262144<s.size\/((Ay s 0).toNat≠1/\(Ay s 0).toNat≠2/\(Ay s 0).toNat≠3))->ST w0 wx (Co bc ca cc pa pc bm n C++H)->VM w0 H bc bm (N+1) Q (.tuple #[.agg #[.int .i64 220,.int .i64 0],.slice none 0 0]) wx:=λ h S =>
  ⟨(220,0),[],C,none,ca,cc,pa,pc,n,p4 h,rfl,bg,by omega,Eb S⟩
 refine Ap (λ h=>Ei (K:=VM w0 H bc bm (N+1) Q) S 220 λ w' S=>bu (.inl ?_) S) (λ h0=>?_)
 ·rw [AZ,decide_eq_true_eq] at h;subst h;rfl
 have rG:0<s.size:=by
  rcases Nat.eq_zero_or_pos s.size with h | h
  ·have:Bh s ⟨#[]⟩=true:=by
    rw [AZ,decide_eq_true_eq];have hd:s.data.size=0:=h;cases s with
    | mk d => 
     have:d=#[]:=Array.eq_empty_of_size_eq_zero hd;rw [this]
   rw [this] at h0;cases h0
  ·exact h
 refine Aa (λ h=>Ei (K:=VM w0 H bc bm (N+1) Q) S 220 λ w' S=>bu (.inr (.inl (by omega))) S) (λ hle=>?_);have S:ST w0 w1 (Co bc ca cc pa pc bm n C++(It.cells b3 #[.int .i64 0,.int .i64 0] ty.A0 :: H)):=S.perm List.perm_middle.symm;refine CF CB s w1 λ b0 c0 cells e0 w2 bh B2 eL al iY dA=>?_;have hr:Rd w2 (some ⟨b0,0,none⟩) ((bl s).map Ag):=by
  have:=(Rd.Ak eL).take s.size;rw [dA] at this;exact this
 have S:=PD S B2 (⟨hr,λ k hk=>by cases hk;exact Nat.le_of_eq bh.symm⟩:Y1 w1 w2 _ _);refine⟨_,_,_,rfl,S.An λ wb bJ _ _ S=>?_⟩;rw [AgG,<- au] at S;refine⟨λ s' wx=>∃ rf fi,s'=[.func (.func rf) fi #[]]/\((Sel s rf/\fi=#[.pointer (some ⟨bc,0,none⟩)])\/(rf=f.DC/\fi=#[]/\((Ay s 0).toNat≠1/\(Ay s 0).toNat≠2/\(Ay s 0).toNat≠3))) /\
  ST w0 wx (EX wb (some ⟨b0,0,none⟩) (bl s).length c0 1 false :: It.rd (some ⟨b0,0,none⟩) ((bl s).map Ag) :: (Co bc ca cc pa pc bm n C++(It.cells b3 #[.int .i64 0,.int .i64 0] ty.A0 :: H))),⟨⟨by omega,by omega⟩,?_⟩,?_⟩
 ·refine Ao (λ h=>⟨_,_,rfl,.inl ⟨.inl ⟨by omega,rfl⟩,rfl⟩,S⟩) (λ h1=>Ao (λ h=>⟨_,_,rfl,.inl ⟨.inr (.inl ⟨by omega,rfl⟩),rfl⟩,S⟩) (λ h2=>Ao (λ h=>⟨_,_,rfl,.inl ⟨.inr (.inr ⟨by omega,rfl⟩),rfl⟩,S⟩) (λ h3=>⟨_,_,rfl,.inr ⟨rfl,rfl,by omega,by omega,by omega⟩,S⟩)))
 clear S;rintro rf fi _ aj ⟨_,_,hs,bT,S⟩;cases hs;rcases bT with ⟨bT,rfl⟩ | ⟨rfl,rfl,aP⟩
 ·have ny:enters Tryz.prog rf=true:=by
   rcases bT with ⟨_,rfl⟩ | ⟨_,rfl⟩ | ⟨_,rfl⟩
   ·kernel_rfl
   ·kernel_rfl
   ·kernel_rfl
  rw [ny];refine (br rf bT rG (by omega) _ wb _ c0 aj (by omega) S).mono ?_;clear S;rintro _ an ⟨_,rfl,at',aY,g,kb,Z,jw,jn,k8,xF,m,rfl,sK,S,my,hm,tz,cW⟩;refine .inl ⟨_,_,_,rfl,(Afw S 0 rfl).mono ?_⟩;clear S;rintro _ ah ⟨_,rfl,rfl,S⟩;refine⟨_,rfl,Au (Ap (λ hw=>?_) (λ hw=>?_))⟩
  ·simp only [AkC,Bool.not_eq_true',decide_eq_true_eq] at hw;rw [sK];refine (cW hw.1 hw.2 ah S).mono ?_;clear S;rintro _ ff ⟨_,rfl,d,fs,C',fa,ca4,yu,pa4,pc4,n4,hQ,rfl,h5,h6,S⟩;obtain⟨d1,d2⟩:=d;refine⟨_,_,_,_,_,rfl,S.BR 5 rfl (aC:=#[.int .i64 (d1:Int),.int .i64 0]) (by simp) rfl λ eo S=>S.BR 5 rfl (aC:=#[.int .i64 (d1:Int),.int .i64 (d2:Int)]) (by simp) rfl λ gp S=>⟨_,S.cell 5 rfl rfl,_,S.cell 5 rfl rfl,?_⟩⟩;exact⟨(d1,d2),fs,C',fa,ca4,yu,pa4,pc4,n4,hQ,rfl,h5,h6,S.sub (.cons_cons _ (.cons_cons _ (.cons_cons _ (.cons_cons _ (.cons_cons _ (.cons _ (AmN _)))))))⟩
  ·have kt:aY=true\/at'≠(bl s).length:=by
    simp only [Bool.and_eq_false_iff,Bool.not_eq_false',decide_eq_false_iff_not] at hw;exact hw
   have S:=((S.drop 1).sub (AmK Z _)).perm AmP;exact Ei (K:=VM w0 H bc bm (N+1) Q) S 220 λ w' S=>⟨(220,0),[],C,none,xF,jn,k8,jw,m,tz kt,rfl,my,by omega,Eb S⟩
 ·rw [show enters Tryz.prog f.DC=true by kernel_rfl];refine (Abs _ aj).mono ?_;rintro _ an ⟨_,rfl,rfl,rfl⟩;have S:=(S.drop 2).perm AmP;exact .inr ⟨rfl,Ei (K:=VM w0 H bc bm (N+1) Q) S 220 λ w' S=>bu (.inr (.inr aP)) S⟩
end
def MK(cs:List BQ):List UInt8:=1 :: CG cs
def YK(cs:List BQ):Value:=if Aq cs then .tuple #[.string (BC (MK cs)),.int .i64 0] else .tuple #[.string (BC []),.int .i64 50]
def HI(x y:Nat)(cs:List BQ)(rows:List (List AB)):List UInt8:=2 :: (Af x++Af y++CG cs++F1 rows)
def Gm(x y:Int):Prop:=x<0\/4611686018427387904<x\/y<1\/4611686018427387904<y
instance (x y:Int):Decidable (Gm x y):=by unfold Gm;infer_instance
def JW(x y:Int)(cs:List BQ)(rows:List (List AB)):Int :=
 if Gm x y\/rows=[] then 2 else if D9 cs rows≠0 then D9 cs rows else if 262144<(HI x.toNat y.toNat cs rows).length then 130 else 0
def LQ(x y:Int)(cs:List BQ)(rows:List (List AB)):Value :=
 if JW x y cs rows=0 then .tuple #[.string (BC (HI x.toNat y.toNat cs rows)),.int .i64 0] else .tuple #[.string (BC []),.int .i64 (JW x y cs rows)]
section
variable {w0 w:World}{H:List It}{a a2:Option Addr}{c c2:Nat}{cs:List BQ}{ps:List BG}
theorem AeW(al:Rd w a (BM cs))(hn:cs.length<=9223372036854775807)(hq:∀ c∈cs,c.1.size<=9223372036854775807) :
  Calls Tryz.prog f.U2 #[.slice a cs.length c] w (AG λ v w'=>v=YK cs/\Below w.heap.size w w'):=by
 apply R.Le
 delta R.B R.AR R.H R.I R.J R.N R.Rt R.S R.T;try dsimp only [R.Ps]
 refine (ST.start w).An λ b2 w1 _ B1 S=>?_;have h1:Rd w1 (some ⟨b2,0,none⟩) (([1]:List UInt8).map Ag):=S.Gw 0 rfl;refine (IK (l:=[1]) (c:=1) h1 (by simp) (al.grown B1) hn hq).mono ?_;rintro _ w2 ⟨_,rfl,h2⟩;rcases h2 with ⟨hR,rfl,B2⟩ | ⟨hR,a',c',rfl,h2⟩
 ·refine⟨_,_,_,_,rfl,Aw CB (l:=[]) rfl (Rd.nil _ _) ⟨_,rfl,?_,Ac B1 B2⟩⟩;simp [YK,hR]
 ·refine⟨_,_,_,_,rfl,Aw CB rfl h2.rd ⟨_,rfl,?_,Ac B1 h2.Ar⟩⟩;simp [YK,hR,MK]
theorem Sp(x y:Int)(w:World):Calls Tryz.prog f.QV #[.int .i64 x,.int .i64 y] w (AG λ v w'=>v=.bool (decide (y<=x/\x<=4611686018427387904))/\w'=w):=by
 apply R.Jw
 delta R.F R.G;try dsimp only [R.Ps]
 refine Aa (λ h=>⟨?_,rfl⟩) (λ h=>⟨?_,rfl⟩)
 ·congr 1;have:y<=x:=h;simp [this]
 ·congr 1;have:¬ y<=x:=h;simp [this]
theorem Uw{l:List UInt8}(hl:Rd w a (l.map Ag)):Calls Tryz.prog f.SY #[.slice a l.length c] w (AG λ v w'=>v=(if 262144<l.length then .tuple #[.string (BC []),.int .i64 130] else .tuple #[.string (BC l),.int .i64 0])/\w'=w):=by
 apply R.KG
 delta R.F R.H R.I R.Rt R.S R.T;try dsimp only [R.Ps]
 refine Aa (λ h=>⟨?_,rfl⟩) (λ h=>Aw CB rfl hl ⟨_,rfl,?_,rfl⟩)
 ·rw [if_pos (by omega)];rfl
 ·rw [if_neg (by omega)]
theorem AeX(x y:Int)(al:Rd w a (BM cs))(hn:cs.length<=9223372036854775807)(hq:∀ c∈cs,c.1.size<=9223372036854775807)(hr:Bb w a2 ps)(hm:ps.length<=9223372036854775807)(hv:∀ r∈rws ps,∀ v∈r,BN v) :
  Calls Tryz.prog f.UC #[.int .i64 x,.int .i64 y,.slice a cs.length c,.slice a2 ps.length c2] w (AG λ v w'=>v=LQ x y cs (rws ps)/\Below w.heap.size w w'):=by
 apply R.L2
 delta R.B R.AR R.Iy R.Cb R.Cs R.F R.H R.I R.J R.N R.S R.T R.U R.Wu R.Zsi;try dsimp only [R.Ps]
 have dm:(Gm x y\/rws ps=[])->∀ {wx:World},Below w.heap.size w wx->Value.tuple #[.string ⟨#[]⟩,.int .i64 2]=LQ x y cs (rws ps)/\Below w.heap.size w wx:=λ h wx B=>by
  have e:JW x y cs (rws ps)=2:=if_pos h;refine⟨?_,B⟩;rw [LQ,e,if_neg (by decide)];rfl
 refine (Sp x 0 w).mono ?_;rintro _ w1 ⟨_,rfl,rfl,rfl⟩;refine⟨_,rfl,Au (Aa (λ h1=>?_) (λ h1=>dm (.inl (by unfold Gm;omega)) (.refl _ _)))⟩;refine (Sp y 1 w1).mono ?_;rintro _ w1 ⟨_,rfl,rfl,rfl⟩;refine⟨_,rfl,Au (Aa (λ h2=>?_) (λ h2=>dm (.inl (by unfold Gm;omega)) (.refl _ _)))⟩;refine Ao (λ h=>dm (.inr ?_) (.refl _ _)) (λ h3=>?_)
 ·have:ps.length=0:=by omega
  rw [List.length_eq_zero_iff.1 this];rfl
 have aP:¬ (Gm x y\/rws ps=[]):=by
  rintro (h | h)
  ·unfold Gm at h;omega
  ·apply h3;have:ps.length=0:=by simpa [rws] using h
   omega
 refine (ST.start w1).An λ b9 w3 _ _ S=>?_;have dh:Rd w3 (some ⟨b9,0,none⟩) (([2]:List UInt8).map Ag):=S.Gw 0 rfl;have ex:IntKind.u64.wrap x=((x.toNat:Nat):Int):=by rw [Aj (by omega) (by omega)];omega
 have ey:IntKind.u64.wrap y=((y.toNat:Nat):Int):=by rw [Aj (by omega) (by omega)];omega
 rw [ex,ey];have dx:=Al (n:=x.toNat) (by omega);have dy:=Al (n:=y.toNat) (by omega);refine (Bf (c:=1) [2] dh x.toNat (by omega) (by simp)).mono ?_;rintro _ w4 ⟨_,rfl,a4,c4,rfl,h4⟩;have S:=BL S h4;refine⟨_,_,_,rfl,(Bf _ h4.rd y.toNat (by omega) (by simp only [Ak1,Ak3,Amf];omega)).mono ?_⟩;rintro _ w5 ⟨_,rfl,a5,c5,rfl,h5⟩;have S:=BL S h5;obtain⟨l5,hl5⟩:∃ l5,l5=[2]++Af x.toNat++Af y.toNat:=⟨_,rfl⟩;rw [<- hl5] at h5 S ⊢;have vZ:l5.length<=21:=by rw [hl5];simp only [Ak1,Ak3,Amf];omega
 refine⟨_,_,_,rfl,(IK (l:=l5) h5.rd (by omega) (al.grown S.Ar) hn hq).mono ?_⟩;rintro _ w6 ⟨_,rfl,h6⟩;have jC:∀(e:Int),D9 cs (rws ps)=e->e≠0->∀ {wx:World},Below w1.heap.size w1 wx->Value.tuple #[.string ⟨#[]⟩,.int .i64 e]=LQ x y cs (rws ps)/\Below w1.heap.size w1 wx:=λ e he h0 wx B=>by
  have e2:JW x y cs (rws ps)=e:=by rw [JW,if_neg aP,he,if_pos h0]
  refine⟨?_,B⟩;rw [LQ,e2,if_neg h0];rfl
 rcases h6 with ⟨hR,rfl,B6⟩ | ⟨hR,a6,c6,rfl,h6⟩
 ·refine⟨_,_,_,_,rfl,λ s wx=>s=[.slice none 0 0,.int .i64 50]/\wx=w6,Ao (λ h=>by cases h) (λ _=>⟨rfl,rfl⟩),?_⟩;rintro _ _ _ _ wx ⟨hs,rfl⟩;cases hs;exact Ah (λ _=>jC 50 (by rw [D9,if_pos hR]) (by decide) (Ac S.Ar B6)) (λ h=>by cases h)
 ·have S:=BL S h6;have bD:=GH hR;obtain⟨l6,hl6⟩:∃ l6,l6=l5++CG cs:=⟨_,rfl⟩;rw [<- hl6] at h6 S ⊢;have uJ:l6.length<=10000:=by rw [hl6,Ak1];omega
  refine⟨_,_,_,_,rfl,λ s wx=>Below w1.heap.size w1 wx/\((D9 cs (rws ps)≠0/\s=[.slice none 0 0,.int .i64 (D9 cs (rws ps))])\/(Bv cs (rws ps)/\∃ a c,s=[.slice a (l6++F1 (rws ps)).length c,.int .i64 0]/\Rd wx a ((l6++F1 (rws ps)).map Ag))),
   Ao (λ _=>?_) (λ h=>absurd rfl h),?_⟩
  ·refine (Pt (c:=c6) (c2:=c) (c3:=c2) h6.rd (by omega) (al.grown S.Ar) hn hq (hr.grown S.Ar) hm hv).mono ?_;rintro _ w7 ⟨_,rfl,h7⟩;rcases h7 with ⟨_,rfl,h0,B7⟩ | ⟨aK,a7,c7,rfl,h7⟩
   ·exact⟨_,_,_,_,rfl,Ac S.Ar B7,.inl ⟨h0,rfl⟩⟩
   ·exact⟨_,_,_,_,rfl,Ac S.Ar h7.Ar,.inr ⟨aK,a7,c7,rfl,h7.rd⟩⟩
  ·rintro _ _ _ _ wx ⟨B,hs⟩;rcases hs with ⟨h0,hs⟩ | ⟨aK,a7,c7,hs,cr⟩
   ·cases hs;exact Ah (λ _=>jC _ rfl h0 B) (λ h=>absurd h h0)
   ·cases hs;have h0:D9 cs (rws ps)=0:=by
     by_cases h:D9 cs (rws ps)=0
     ·exact h
     ·exact absurd aK (L6 h)
    refine Ah (λ h=>absurd rfl h) (λ _=>(Uw cr).mono ?_);rintro _ w9 ⟨_,rfl,rfl,rfl⟩;have e:l6++F1 (rws ps)=HI x.toNat y.toNat cs (rws ps):=by rw [hl6,hl5,HI];simp
    rw [e];by_cases hb:262144<(HI x.toNat y.toNat cs (rws ps)).length
    ·rw [if_pos hb];refine⟨_,_,rfl,?_,B⟩;have e2:JW x y cs (rws ps)=130:=by rw [JW,if_neg aP,if_neg (by rw [h0];decide),if_pos hb]
     rw [LQ,e2,if_neg (by decide)]
    ·rw [if_neg hb];refine⟨_,_,rfl,?_,B⟩;have e2:JW x y cs (rws ps)=0:=by rw [JW,if_neg aP,if_neg (by rw [h0];decide),if_neg hb]
     rw [LQ,e2,if_pos rfl]
theorem Af7(w:World):Calls Tryz.prog f.AaC #[] w (AG λ v w'=>∃ bc bm,v=.pointer (some ⟨bc,0,none⟩)/\ST w w' (Co bc none 0 none 0 bm 0 ⟨[],[],[]⟩)):=by
 apply R.PT
 delta R.J R.M R.N R.O R.P R.Rm;try dsimp only [R.Ps]
 refine (ST.start w).AhQ (k:=ty.int64) ty.DD (λ bm w1 S hb=>⟨_,rfl,S.An λ b3 w2 _ _ S=>⟨b3,bm,rfl,?_⟩⟩) rfl;have S:ST w w2 (It.cells b3 #[.slice none 0 0,.slice none 0 0,.map (some bm)] ty.Fq :: It.YG Tryz.prog ty.int64 bm 0 (WO []) :: []):=by
  rw [AhD];exact S
 have S:=(S.nil ty.LP 2).nil ty.Di 3;exact S.pull 2 rfl
end
section
variable {w0 w:World}{H:List It}{a a2 a3:Option Addr}{c c2 c3:Nat}{l:List UInt8}{cs:List BQ}{ps:List BG}
set_option maxHeartbeats 1000000 in
theorem QY(hl:Rd w a (l.map Ag))(hs:l.length+20000000<=140737488355328)(al:Rd w a2 (BM cs))(hn:cs.length<=9223372036854775807)(hq:∀ c∈cs,c.1.size<=9223372036854775807)(hr:Bb w a3 ps)(hm:ps.length<=9223372036854775807)(hv:∀ r∈rws ps,∀ v∈r,BN v) :
  Calls Tryz.prog f.Wj #[.slice a l.length c,.slice a2 cs.length c2,.slice a3 ps.length c3] w (AG λ v w'=>Wx l cs (rws ps) w w' v):=by
 apply R.M9
 delta R.Ad R.AR R.Cb R.Cs R.E R.F R.H R.I R.Ks R.Li R.Ls R.Lt R.O R.ER R.S R.T R.U R.W R.Wu R.X;try dsimp only [R.Ps]
 refine (DL al hn hq).mono ?_;rintro _ w1 ⟨_,rfl,rfl,rfl⟩;have bad:∀ {wx:World} (e:Int),Below w1.heap.size w1 wx->D9 cs (rws ps)=e->e≠0->Wx l cs (rws ps) w1 wx (.tuple #[.slice none 0 0,.int .i64 e]):=by
  rintro wx e B rfl h0;exact .inl ⟨L6 h0,rfl,h0,B⟩
 have S:=ST.start w1;refine⟨_,rfl,Au (Ap (λ hR=>?_) (λ hR=>bad 50 S.Ar (by rw [D9,if_pos hR]) (by decide)))⟩;have gh:¬ Aq cs=false:=by rw [hR];decide
 refine Aa (λ h=>bad 51 S.Ar ?_ (by decide)) (λ hlen=>?_)
 ·have:1024<(rws ps).length:=by simp only [rws,List.length_map];omega
  rw [D9,if_neg gh,if_pos (.inl this)]
 have bP:ps.length<=1024:=by omega
 have bM:=A6 hR;rw [Aj (by omega) (by omega)];have d1:=Al (n:=ps.length) (by omega);refine (Bi l hl ps.length (by omega) (by omega)).mono ?_;rintro _ w2 ⟨_,rfl,ib,iL,rfl,h2⟩;have S:=BL S h2;have rv:(rws ps).length=ps.length:=by simp [rws]
 have iw:∀ {wx:World} (r:List AB),Below w1.heap.size w1 wx->r∈rws ps->C0 cs r=false->Wx l cs (rws ps) w1 wx (.tuple #[.slice none 0 0,.int .i64 51]):=λ r B h1 h2 =>
  bad 51 B (by rw [D9,if_neg gh,if_pos (.inr ⟨r,h1,h2⟩)]) (by decide)
 have fu:∀ i,i<=ps.length->(∀ r∈(rws ps).take i,C0 cs r=true)->(((rws ps).take i).flatMap JF).length<=17039360:=λ i hi hf=>by
  have eB:Bv cs ((rws ps).take i):=⟨hR,by rw [AlX];omega,hf,λ r hr=>hv r (List.mem_of_mem_take hr)⟩;have:=Xn (i:=((rws ps).take i).length) eB;rwa [Al0] at this
 refine⟨_,_,_,rfl,λ s wx=>∃(i:Nat) (out:List UInt8) (oa:Option Addr) (oc:Nat),s=[.slice oa out.length oc,.int .i64 (i:Int)]/\i<=ps.length/\out=l++Af ps.length++((rws ps).take i).flatMap JF/\(∀ r∈(rws ps).take i,C0 cs r=true)/\ST w1 wx [CP oa oc out],λ s _=>match s with
  | [_,.int _ i]=>ps.length-i.toNat
  | _=>0,⟨0,_,ib,iL,rfl,by omega,by simp,by simp,S⟩,?_⟩
 clear S h2;rintro oa _ oc _ w4 ⟨i,out,_,_,aA,hi,bS,cY,S⟩;cases aA;refine Aa (λ aB=>?_) (λ aJ=>?_)
 ·have aD:i<ps.length:=by omega
  have mi:i<(rws ps).length:=by omega
  obtain⟨q,rfl,lG,lZ⟩:=(hr.grown S.Ar).at aD;have ei:(rws ps)[i]=ps[i].2.2:=by simp [rws]
  have cE:out.length<=l.length+10+17039360:=by rw [bS];simp only [Ak1];have:=fu i hi cY;omega
  refine⟨⟨by omega,by omega⟩,_,_,_,by rw [Ak4];exact lG,?_⟩;have ag:ps[i].2.2∈rws ps:=by rw [<- ei];exact AlI mi
  refine (IH (al.grown S.Ar) hn hq lZ).mono ?_;rintro _ w6 ⟨_,rfl,rfl,B6⟩;have S:=S.grown B6;rw [hR,AmO];refine⟨_,rfl,Au (Ap (λ hf=>?_) (λ hf=>iw _ S.Ar ag hf))⟩;obtain⟨row,aI⟩:∃ row,row=ps[i].2.2:=⟨_,rfl⟩;rw [<- aI] at hf ag ei;have kI:=Jf hf;have aK:=hv row ag;have xg:=TW (cs:=cs) (rows:=[row]) ⟨hR,by simp,λ r hr=>by rw [AlZ.1 hr];exact hf,λ r hr=>by rw [AlZ.1 hr];exact aK⟩ (AlZ.2 rfl);refine⟨λ s wx=>∃(k:Nat) (iJ:List UInt8) (oa:Option Addr) (oc:Nat),s=[.slice oa iJ.length oc,.int .i64 (k:Int)]/\k<=cs.length/\iJ=out++(row.take k).flatMap CD/\ST w1 wx [CP oa oc iJ],λ s _=>match s with
   | [_,.int _ i]=>cs.length-i.toNat
   | _=>0,⟨0,out,_,_,rfl,by omega,by simp,S⟩,?_⟩
  clear S;rintro oa _ oc _ w7 ⟨k,iJ,_,_,aA,hk,gQ,S⟩;cases aA;refine Aa (λ ao=>?_) (λ cB=>?_)
  ·have aO:k<row.length:=by omega
   obtain⟨q5,hq5,hq6,hrv7⟩:=(hr.grown S.Ar).at aD;cases hq5;rw [<- aI] at hq6 hrv7;obtain⟨q2,iB,e0,e1,e2⟩:=De hrv7 aO;rw [iB] at hq6;refine⟨⟨by omega,by omega⟩,_,_,_,by rw [Ak4];exact hq6,?_⟩;refine⟨⟨by omega,by omega⟩,_,by rw [Ak4];exact e0,_,by rw [Ak4];exact e1,_,by rw [Ak4];exact e2,?_⟩;refine (J6 (a:=none) (c:=0) [] (Rd.nil _ _) row[k] (aK _ (AlI aO)) (by simp)).mono ?_;rintro _ bJ ⟨_,rfl,f'⟩;obtain⟨xa,xc,rfl,n12⟩:=Jd (Uc hf aO) f';rw [Al4] at n12 ⊢;have S:=S.grown n12.Ar;have cZ:((row.take k).flatMap CD).length+(CD row[k]).length<=(JF row).length:=by
    rw [<- Ak1,show (row.take k).flatMap CD++CD row[k]=(row.take (k+1)).flatMap CD by rw [AlW aO,AmM];simp];have e:JF row=(row.take (k+1)).flatMap CD++(row.drop (k+1)).flatMap CD:=by rw [<- AmM,List.take_append_drop];rfl
    rw [e,Ak1];omega
   refine⟨_,_,_,_,rfl,Yt S 0 rfl rfl n12.rd (by rw [gQ,Ak1];omega) λ a' c' an S=>⟨_,_,_,rfl,?_⟩⟩;rw [Ae (by omega)];refine⟨⟨k+1,iJ++CD row[k],a',c',rfl,by omega,?_,S⟩,by simp only [Ak4];omega⟩;rw [gQ,AlW aO,AmM];simp
  ·obtain rfl:k=cs.length:=by omega
   rw [Ae (by omega)];rw [AlA (by omega)] at gQ;refine⟨⟨i+1,iJ,_,_,rfl,by omega,?_,λ r fx=>?_,S⟩,by simp only [Ak4];omega⟩
   ·rw [gQ,bS,AlW mi,AmM,ei];simp [JF]
   ·rw [AlW mi] at fx;rcases AlY.1 fx with h | h
    ·exact cY r h
    ·rw [AlZ.1 h,ei];exact hf
 ·obtain rfl:i=ps.length:=by omega
  rw [AlA (by omega)] at bS cY;have aK:Bv cs (rws ps):=⟨hR,by omega,cY,hv⟩;have e:out=l++F1 (rws ps):=by rw [bS,F1,rv,Ak2]
  subst e;exact .inr ⟨aK,_,_,rfl,Aal S 0 rfl⟩
theorem TM(al:Rd w a (BM cs))(hn:cs.length<=9223372036854775807)(hq:∀ c∈cs,c.1.size<=9223372036854775807) :
  Calls Tryz.prog f.XW #[.slice a cs.length c] w (AG λ v w'=>v=YK cs/\Below w.heap.size w w'):=by
 apply R.OH
 delta R.B R.AR R.F R.H R.I R.J R.N R.Rt R.S R.T;try dsimp only [R.Ps]
 refine (ST.start w).An λ b2 w1 _ B1 S=>?_;have h1:Rd w1 (some ⟨b2,0,none⟩) (([1]:List UInt8).map Ag):=S.Gw 0 rfl;refine (JX (l:=[1]) (c:=1) h1 (by simp) (al.grown B1) hn hq).mono ?_;rintro _ w2 ⟨_,rfl,h2⟩;rcases h2 with ⟨hR,rfl,B2⟩ | ⟨hR,a',c',rfl,h2⟩
 ·refine⟨_,_,_,_,rfl,Ah (λ _=>⟨?_,Ac B1 B2⟩) (λ h=>by cases h)⟩;simp [YK,hR];rfl
 ·refine⟨_,_,_,_,rfl,Ah (λ h=>absurd rfl h) (λ _=>Aw CB rfl h2.rd ⟨_,rfl,?_,Ac B1 h2.Ar⟩)⟩;simp [YK,hR,MK]
theorem TP(x y:Int)(al:Rd w a (BM cs))(hn:cs.length<=9223372036854775807)(hq:∀ c∈cs,c.1.size<=9223372036854775807)(hr:Bb w a2 ps)(hm:ps.length<=9223372036854775807)(hv:∀ r∈rws ps,∀ v∈r,BN v) :
  Calls Tryz.prog f.XV #[.int .i64 x,.int .i64 y,.slice a cs.length c,.slice a2 ps.length c2] w (AG λ v w'=>v=LQ x y cs (rws ps)/\Below w.heap.size w w'):=by
 apply R.Om
 delta R.B R.AR R.Cs R.F R.H R.I R.J R.N R.Rt R.S R.T R.U R.Wu;try dsimp only [R.Ps]
 have dm:(Gm x y\/rws ps=[])->Value.tuple #[.string ⟨#[]⟩,.int .i64 2]=LQ x y cs (rws ps)/\Below w.heap.size w w:=λ h=>by
  have e:JW x y cs (rws ps)=2:=if_pos h;refine⟨?_,.refl _ _⟩;rw [LQ,e,if_neg (by decide)];rfl
 refine Aa (λ h=>dm (.inl (.inl h))) (λ h1=>Aa (λ h=>dm (.inl (.inr (.inl h)))) (λ h2=>Aa (λ h=>dm (.inl (.inr (.inr (.inl h))))) (λ h3=>Aa (λ h=>dm (.inl (.inr (.inr (.inr h))))) (λ h4=>Ao (λ h=>dm (.inr ?_)) (λ h5=>?_)))))
 ·have:ps.length=0:=by omega
  rw [List.length_eq_zero_iff.1 this];rfl
 have aP:¬ (Gm x y\/rws ps=[]):=by
  rintro (h | h)
  ·unfold Gm at h;omega
  ·apply h5;have:ps.length=0:=by simpa [rws] using h
   omega
 refine (ST.start w).An λ b9 w3 _ _ S=>?_;have dh:Rd w3 (some ⟨b9,0,none⟩) (([2]:List UInt8).map Ag):=S.Gw 0 rfl;have ex:IntKind.u64.wrap x=((x.toNat:Nat):Int):=by rw [Aj (by omega) (by omega)];omega
 have ey:IntKind.u64.wrap y=((y.toNat:Nat):Int):=by rw [Aj (by omega) (by omega)];omega
 rw [ex,ey];have dx:=Al (n:=x.toNat) (by omega);have dy:=Al (n:=y.toNat) (by omega);refine (Bi (c:=1) [2] dh x.toNat (by omega) (by simp)).mono ?_;rintro _ w4 ⟨_,rfl,a4,c4,rfl,h4⟩;have S:=BL S h4;refine⟨_,_,_,rfl,(Bi _ h4.rd y.toNat (by omega) (by simp only [Ak1,Ak3,Amf];omega)).mono ?_⟩;rintro _ w5 ⟨_,rfl,a5,c5,rfl,h5⟩;have S:=BL S h5;obtain⟨l5,hl5⟩:∃ l5,l5=[2]++Af x.toNat++Af y.toNat:=⟨_,rfl⟩;rw [<- hl5] at h5 S ⊢;have vZ:l5.length<=21:=by rw [hl5];simp only [Ak1,Ak3,Amf];omega
 refine⟨_,_,_,rfl,(JX (l:=l5) h5.rd (by omega) (al.grown S.Ar) hn hq).mono ?_⟩;rintro _ w6 ⟨_,rfl,h6⟩;have jC:∀(e:Int),D9 cs (rws ps)=e->e≠0->∀ {wx:World},Below w.heap.size w wx->Value.tuple #[.string ⟨#[]⟩,.int .i64 e]=LQ x y cs (rws ps)/\Below w.heap.size w wx:=λ e he h0 wx B=>by
  have e2:JW x y cs (rws ps)=e:=by rw [JW,if_neg aP,he,if_pos h0]
  refine⟨?_,B⟩;rw [LQ,e2,if_neg h0];rfl
 rcases h6 with ⟨hR,rfl,B6⟩ | ⟨hR,a6,c6,rfl,h6⟩
 ·exact⟨_,_,_,_,rfl,Ah (λ _=>jC 50 (by rw [D9,if_pos hR]) (by decide) (Ac S.Ar B6)) (λ h=>by cases h)⟩
 have S:=BL S h6;have bD:=GH hR;obtain⟨l6,hl6⟩:∃ l6,l6=l5++CG cs:=⟨_,rfl⟩;rw [<- hl6] at h6 S ⊢;have uJ:l6.length<=10000:=by rw [hl6,Ak1];omega
 refine⟨_,_,_,_,rfl,Ah (λ h=>absurd rfl h) (λ _=>(QY (c:=c6) (c2:=c) (c3:=c2) h6.rd (by omega) (al.grown S.Ar) hn hq (hr.grown S.Ar) hm hv).mono ?_)⟩;rintro _ w7 ⟨_,rfl,h7⟩;rcases h7 with ⟨_,rfl,h0,B7⟩ | ⟨aK,a7,c7,rfl,h7⟩
 ·exact⟨_,_,_,_,rfl,Ah (λ _=>jC _ rfl h0 (Ac S.Ar B7)) (λ h=>absurd h h0)⟩
 have h0:D9 cs (rws ps)=0:=by
  by_cases h:D9 cs (rws ps)=0
  ·exact h
  ·exact absurd aK (L6 h)
 have e:l6++F1 (rws ps)=HI x.toNat y.toNat cs (rws ps):=by rw [hl6,hl5,HI];simp
 rw [e] at h7 ⊢;refine⟨_,_,_,_,rfl,Ah (λ h=>absurd rfl h) (λ _=>Aa (λ hb=>⟨?_,Ac S.Ar h7.Ar⟩) (λ hb=>Aw CB rfl h7.rd ⟨_,rfl,?_,Ac S.Ar h7.Ar⟩))⟩
 ·have e2:JW x y cs (rws ps)=130:=by rw [JW,if_neg aP,if_neg (by rw [h0];decide),if_pos (by omega)]
  rw [LQ,e2,if_neg (by decide)];rfl
 ·have e2:JW x y cs (rws ps)=0:=by rw [JW,if_neg aP,if_neg (by rw [h0];decide),if_neg (by omega)]
  rw [LQ,e2,if_pos rfl]
end
theorem Um(ps:List H6):∀ u∈Bt ps,u.oneCell'=true:=by
 intro u hu;obtain⟨v,_,hv⟩:=List.mem_flatMap.1 hu;simp only [RY,AkL,Al5,or_false] at hv;rcases hv with rfl | rfl <;> rfl
theorem AeM{w:World}{a:Option Addr}{c:Nat}{vs:List H6}(h:Rd w a (Bt vs))(hl:vs.length<=100000):Calls Tryz.prog f.Gb #[.slice a vs.length c] w (AG λ v w'=>∃ a' c',v=.slice a' vs.length c'/\ST w w' [E1 a' c' vs]):=by
 apply R.E8
 delta R.F R.J R.Ks R.N R.O R.S;try dsimp only [R.Ps]
 cases a with
 | none =>
  have:=YF (k:=1) (λ _=>rfl) h;subst this;exact CQ ⟨none,0,rfl,(ST.start w).nil _ _⟩
 | some q =>
  refine AV ((ST.start w).An λ b2 w1 _ B1 S=>?_);have S:=S.IX 0 rfl (.refl _ _) (It.row ty.LP 2 (some ⟨b2,0,none⟩) 0 0 []) (RA (S.CJ 0 rfl)) (λ k hk=>.inl hk);refine S.app 0 rfl Sk rfl (by omega) (by omega) (h.grown B1) (mm:=vs.length) (Ey vs) (Um vs) (by omega) λ a' c' w' S=>⟨_,_,_,rfl,a',c',by rw [Ak6],?_⟩;simp only [Ak6,Al4] at S;exact S
section
variable {w0 w:World}{H:List It}{bc bm n N cc pc:Nat}{ca pa:Option Addr}{C:Cn}
theorem AbG(S:ST w0 w (Co bc ca cc pa pc bm n C++H))(hC:C.parts.length<=256):Calls Tryz.prog f.Ko #[.pointer (some ⟨bc,0,none⟩)] w (AG λ v w'=>∃ a' c',v=.slice a' C.parts.length c'/\ST w w' [E1 a' c' C.parts]):=by
 apply R.Ho
 delta R.Cs R.F R.Ls R.O R.S;try dsimp only [R.Ps]
 refine AV ⟨_,_,_,S.cell 0 rfl rfl,(AeM (S.rd 2 rfl) (by omega)).mono ?_⟩;rintro _ w1 ⟨_,rfl,a',c',rfl,T⟩;exact⟨_,_,_,rfl,a',c',rfl,T⟩
theorem YY(S:ST w0 w (Co bc ca cc pa pc bm n C++H))(bg:ca=none↔C.AM=[])(hN:n<=N)(s:ByteArray)(h1:(Ay s 0).toNat=1)(h0:0<s.size)(hle:s.size<=262144) :
  Calls Tryz.prog f.Dj #[.pointer (some ⟨bc,0,none⟩),.string s] w (AG (VM w0 H bc bm (N+1) (Ah4 C (bl s)))):=by
 have au:=A9 s;refine On S bg hN s (λ h=>by omega) (λ rf bT _ _ H' b a c wx hc S=>?_);rcases bT with ⟨_,rfl⟩ | ⟨h,_⟩ | ⟨h,_⟩
 ·exact WQ S hc (by omega) bg hN
 ·omega
 ·omega
theorem O6(T:I8 w0)(S:ST w0 w (Co bc ca cc pa pc bm n C++H))(hC:ND C)(bg:ca=none↔C.AM=[])(hN:n<=N)(ke:N<1000000)(s:ByteArray)(h1:(Ay s 0).toNat=2)(h0:0<s.size)(hle:s.size<=262144) :
  Calls Tryz.prog f.Dj #[.pointer (some ⟨bc,0,none⟩),.string s] w (AG (VM w0 H bc bm (N+1) (AhB C (bl s)))):=by
 have au:=A9 s;refine On S bg hN s (λ h=>by omega) (λ rf bT _ _ H' b a c wx hc S=>?_);rcases bT with ⟨h,_⟩ | ⟨_,rfl⟩ | ⟨h,_⟩
 ·omega
 ·exact WM T S hc (by omega) hC bg hN ke
 ·omega
end
theorem WZ(w:World):Calls Tryz.prog f.YL #[] w (AG λ v w'=>∃ b,v=.slice (some ⟨b,0,none⟩) 1 1/\ST w w' [It.cells b #[.string ⟨#[97]⟩,.int .i64 1,.bool false] ty.Di]):=by
 apply R.OE
 delta R.G R.I R.J R.N R.S R.T;try dsimp only [R.Ps]
 exact (ST.start w).An λ b w1 _ _ S=>⟨b,rfl,S⟩
theorem Agd(x:Int)(w:World):Calls Tryz.prog f.Afs #[.int .i64 x] w (AG λ v w'=>∃ b,v=.slice (some ⟨b,0,none⟩) 1 1/\ST w w' [It.cells b #[.int .i64 1,.int .i64 x,.string ⟨#[]⟩] ty.AW]):=by
 apply R.TO
 delta R.I R.J R.N R.S R.T;try dsimp only [R.Ps]
 exact (ST.start w).An λ b w1 _ _ S=>⟨b,rfl,S⟩
def OW:List BQ:=[(⟨#[97]⟩,1,false)]
def F9:List (List AB):=[[(1,5,⟨#[]⟩)],[(1,6,⟨#[]⟩)]]
theorem Ow:Aq OW=true:=by kernel_rfl
theorem ok0:Bv OW F9 where
 right:=Ow
 len:=by decide
 fits:=λ r hr=>by
  simp only [F9,AkL,Al5,or_false] at hr;rcases hr with rfl | rfl <;> kernel_rfl
 ok:=λ r hr v hv=>by
  simp only [F9,AkL,Al5,or_false] at hr;rcases hr with rfl | rfl
  ·rw [AlZ.1 hv];exact⟨by decide,by decide⟩
  ·rw [AlZ.1 hv];exact⟨by decide,by decide⟩
theorem Aka:D9 OW F9=0:=by
 by_cases h:D9 OW F9=0
 ·exact h
 ·exact absurd ok0 (L6 h)
theorem AjW:(HI 7 1 OW F9).length<=40000:=by
 have h1:=Al (n:=7) (by omega);have h2:=Al (n:=1) (by omega);have h3:=GH Ow;have h4:=Al (n:=2) (by omega);have h5:=TW ok0 (r:=[(1,5,⟨#[]⟩)]) (by simp [F9]);have h6:=TW ok0 (r:=[(1,6,⟨#[]⟩)]) (by simp [F9]);have e:F1 F9=Af 2++(JF [(1,5,⟨#[]⟩)]++(JF [(1,6,⟨#[]⟩)]++[])):=rfl;simp only [HI,Ak3,Ak1,e,Amf];omega
theorem AjK:JW 7 1 OW F9=0:=by
 have h1:¬ (Gm 7 1\/F9=[]):=by
  rintro (h | h)
  ·unfold Gm at h;omega
  ·cases h
 have h2:=AjW;rw [JW,if_neg h1,if_neg (by rw [Aka];decide),if_neg];show ¬ 262144<(HI 7 1 OW F9).length;omega
theorem AfJ{cs:List BQ}(hR:Aq cs=true):Bk (MK cs) 1=some (cs,(MK cs).length):=by
 have:=JB hR (l:=MK cs) (at_:=1) (r:=[]) (by simp [MK]);rw [show ((1:Nat):Int)=1 from rfl] at this;rw [this];simp [MK];omega
theorem AgF{x y:Nat}{cs:List BQ}{rows:List (List AB)}(hx:x<=Cr)(jd:1<=y)(hy:y<=Cr)(hs:Bv cs rows)(aQ:rows≠[]):XR (HI x y cs rows) 1=some ((x,y,cs,rows),(HI x y cs rows).length):=by
 have gx:x<18446744073709551616:=by unfold Cr at hx;omega
 have gy:y<18446744073709551616:=by unfold Cr at hy;omega
 have h1:=Cc (l:=HI x y cs rows) (at_:=1) (r:=Af y++(CG cs++F1 rows)) gx (by simp [HI]);have d1:(HI x y cs rows).drop (1+(Af x).length)=Af y++(CG cs++F1 rows):=by
  rw [<- List.drop_drop];simp [HI]
 have h2:=Cc gy d1;have d2:(HI x y cs rows).drop (1+(Af x).length+(Af y).length)=CG cs++F1 rows:=PZ d1;have h3:=JB hs.right d2;have d3:(HI x y cs rows).drop (1+(Af x).length+(Af y).length+(CG cs).length)=F1 rows++[]:=by rw [PZ d2,List.append_nil]
 have h4:=VX hs d3;unfold XR OT;rw [h1,Aml,if_pos ⟨by simp only;omega,hx⟩,Aml];simp only;rw [h2,Aml,if_pos ⟨jd,hy⟩,Aml];simp only;rw [h3,Aml];simp only;rw [h4,Aml,if_neg aQ];simp only [HI,Ak3,Ak1,Option.some.injEq,Prod.mk.injEq,true_and];omega
theorem Ah3(x y:Nat)(cs:List BQ)(rows:List (List AB)):0<(HI x y cs rows).length:=by simp [HI]
theorem Agm{C:Cn}{cs:List BQ}(hR:Aq cs=true){d:Nat × Nat}{fs:List Kv}{C':Cn}(h:Ah4 C (MK cs) d fs C'):Afo C cs d fs C':=by
 have hb:=AfJ hR;rcases h with ⟨aC,h1,h2⟩ | ⟨h1,_⟩
 ·rw [hb] at h1;obtain⟨rfl,_⟩:=AmL (Al8 h1);exact h2
 ·exact absurd hb (h1 cs)
theorem Abl{C:Cn}{x y:Nat}{cs:List BQ}{rows:List (List AB)}(hx:x<=Cr)(jd:1<=y)(hy:y<=Cr)(hs:Bv cs rows)(aQ:rows≠[]){d:Nat × Nat}{fs:List Kv}{C':Cn}(h:AhB C (HI x y cs rows) d fs C'):UF C x y cs rows d fs C':=by
 have hb:=AgF hx jd hy hs aQ;rcases h with ⟨z,h1,h2⟩ | ⟨h1,_⟩
 ·rw [hb] at h1;obtain⟨rfl,_⟩:=AmL (Al8 h1);exact h2
 ·exact absurd hb (h1 _)
theorem AeG{d:Nat × Nat}{fs:List Kv}{C':Cn}(h:UF ⟨OW,[],[]⟩ 7 1 OW F9 d fs C'):∃ nm dt,d=(0,2)/\fs=[(nm,dt)]/\nm.size=64/\C'=⟨OW,[(nm,2)],[(7,1,0,2)]⟩:=by
 rcases h with ⟨t,ht,_⟩ | ⟨t,ht,_⟩ | ⟨_,h,_⟩ | ⟨_,_,C1,hA,rfl⟩
 ·cases ht
 ·cases ht
 ·cases h
 ·rcases hA with ⟨h,_⟩ | ⟨_,h,_⟩ | ⟨_,_,b,hb,rfl,rfl,rfl⟩
  ·exact absurd rfl h
  ·cases h
  ·exact⟨_,_,rfl,rfl,Js _,rfl⟩
theorem AeU{nm:ByteArray}{d:Nat × Nat}{fs:List Kv}{C':Cn}(h:UF ⟨OW,[(nm,2)],[(7,1,0,2)]⟩ 7 1 OW F9 d fs C'):d=(0,2)/\fs=[]/\C'=⟨OW,[(nm,2)],[(7,1,0,2)]⟩:=by
 have hm:mapOf [(7,1,0,2)] 7=some (1,0,2):=by decide
 rcases h with ⟨t,ht,_,rfl,rfl,rfl⟩ | ⟨t,ht,h,_⟩ | ⟨h,_⟩ | ⟨h,_⟩
 ·have ht:mapOf [(7,1,0,2)] 7=some t:=ht;rw [hm] at ht;cases ht;exact⟨rfl,rfl,rfl⟩
 ·have ht:mapOf [(7,1,0,2)] 7=some t:=ht;rw [hm] at ht;cases ht;exact absurd h (by decide)
 ·have h:mapOf [(7,1,0,2)] 7=none:=h;rw [hm] at h;cases h
 ·have:=h _ hm;exact absurd this (by decide)
set_option maxHeartbeats 2000000 in
theorem Af0{w:World}(T:I8 w):Calls Tryz.prog f.Z9 #[] w (AG λ v w'=>v=.bool true/\Below w.heap.size w w'):=by
 apply R.Pq
 delta R.A R.Ab R.Be R.Iy R.Cp R.Cs R.F R.G R.I R.J R.Li R.N R.P R.S R.Am R.T;try dsimp only [R.Ps]
 refine (Af7 w).mono ?_;rintro _ w1 ⟨_,rfl,bc,bm,rfl,S⟩;refine⟨_,rfl,(WZ w1).mono ?_⟩;rintro _ w2 ⟨_,rfl,q1,rfl,P⟩;have S:=S.join P;have xT:∀ c∈OW,c.1.size<=9223372036854775807:=λ c hc=>by rw [AlZ.1 hc];decide
 refine⟨_,_,_,rfl,(AeW (c:=1) (cs:=OW) (S.Gw 0 rfl) (by decide) xT).mono ?_⟩;rintro _ w3 ⟨_,rfl,rfl,B3⟩;have S:=S.grown B3;have e1:YK OW=.tuple #[.string (BC (MK OW)),.int .i64 0]:=if_pos Ow;rw [e1];refine⟨_,_,rfl,(WZ w3).mono ?_⟩;rintro _ w4 ⟨_,rfl,q2,rfl,P⟩;have S:=S.join P;refine⟨_,_,_,rfl,(Agd 5 w4).mono ?_⟩;rintro _ w5 ⟨_,rfl,q3,rfl,P⟩;have S:=S.join P;refine⟨_,_,_,rfl,(Agd 6 w5).mono ?_⟩;rintro _ w6 ⟨_,rfl,q4,rfl,P⟩;have S:=S.join P;refine⟨_,_,_,rfl,S.An λ iv w7 _ _ S=>?_⟩;have hr:Bb w7 (some ⟨iv,0,none⟩) [(some ⟨q3,0,none⟩,1,[(1,5,⟨#[]⟩)]),(some ⟨q4,0,none⟩,1,[(1,6,⟨#[]⟩)])]:=⟨S.Gw 0 rfl,λ p hp=>by
  simp only [AkL,Al5,or_false] at hp;rcases hp with rfl | rfl
  ·exact S.Gw 2 rfl
  ·exact S.Gw 1 rfl⟩
 refine (AeX (c:=1) (c2:=2) (cs:=OW) 7 1 (S.Gw 3 rfl) (by decide) xT hr (by simp) ok0.ok).mono ?_;rintro _ w8 ⟨_,rfl,rfl,B8⟩;have S:=S.grown B8;obtain⟨l2,ay⟩:∃ l2,l2=HI 7 1 OW F9:=⟨_,rfl⟩;have e2:LQ 7 1 OW (rws [((some ⟨q3,0,none⟩:Option Addr),1,[((1:Int),(5:Int),(⟨#[]⟩:ByteArray))]),(some ⟨q4,0,none⟩,1,[(1,6,⟨#[]⟩)])])=.tuple #[.string (BC l2),.int .i64 0]:=by
  rw [ay];exact if_pos AjK
 rw [e2];have hlen:=AjW;have iH:=Ah3 7 1 OW F9;rw [<- ay] at hlen iH;have S:ST w w8 (Co bc none 0 none 0 bm 0 ⟨[],[],[]⟩++[]):=S.drop 5;have bM:(MK OW).length<=601:=by have:=GH Ow;simp only [MK,Ak3];omega
 have hcp:0<(MK OW).length:=by simp [MK]
 refine⟨_,_,rfl,(YY (N:=0) S ⟨λ _=>rfl,λ _=>rfl⟩ (AkY _) (BC (MK OW)) (by rw [Mv,BP];rfl) (by rw [AY];exact hcp) (by rw [AY];omega)).mono ?_⟩;clear S;rintro _ w9 ⟨_,rfl,d,fs,C1,fa,ca,cc,pa,pc,n1,hQ,rfl,bg,hn,S⟩;rw [BP] at hQ;rcases Agm Ow hQ with ⟨h,_⟩ | ⟨_,rfl,rfl,rfl⟩
 ·exact absurd rfl h
 refine⟨_,_,_,_,_,rfl,S.An λ qz bZ _ _ S=>S.BR 0 rfl (aC:=#[.int .i64 0,.int .i64 0]) (by simp) rfl λ aX S=>S.BR 0 rfl (aC:=#[.int .i64 0,.int .i64 0]) (by simp) rfl λ bJ S=>?_⟩;have S:ST w bJ ([It.cells qz #[.int .i64 0,.int .i64 0] ty.A0,It.rd fa (BH [])]++(Co bc ca cc pa pc bm n1 ⟨OW,[],[]⟩++[])):=S;have S:=ST.mid (Co bc ca cc pa pc bm n1 ⟨OW,[],[]⟩) S;have hC0:ND ⟨OW,[],[]⟩:=⟨by decide,by simp,by simp,.inr Ow⟩;have qd:(Ay (BC l2) 0).toNat=2:=by rw [Mv,BP,ay];rfl
 refine (O6 (N:=1) T S hC0 bg hn (by decide) (BC l2) qd (by rw [AY];exact iH) (by rw [AY];omega)).mono ?_;clear S;rintro _ aj ⟨_,rfl,d,fs,C2,ry,kb,jn,k8,jw,n2,hQ,rfl,my,gi,S⟩;rw [BP,ay] at hQ;obtain⟨nm,dt,rfl,rfl,cC,rfl⟩:=AeG (Abl (by decide) (by decide) (by decide) ok0 (by simp [F9]) hQ);refine⟨_,_,_,_,_,rfl,S.An λ s3 an _ _ S=>S.BR 0 rfl (aC:=#[.int .i64 0,.int .i64 0]) (by simp) rfl λ ah S=>S.BR 0 rfl (aC:=#[.int .i64 0,.int .i64 2]) (by simp) rfl λ cf S=>?_⟩;have S:ST w cf ([It.cells s3 #[.int .i64 0,.int .i64 2] ty.A0,It.rd ry (BH [(nm,dt)])]++(Co bc kb jn k8 jw bm n2 ⟨OW,[(nm,2)],[(7,1,0,2)]⟩++([It.cells qz #[.int .i64 0,.int .i64 0] ty.A0,It.rd fa (BH [])]++[]))):=S;have S:=ST.mid (Co bc kb jn k8 jw bm n2 ⟨OW,[(nm,2)],[(7,1,0,2)]⟩) S;have y5:ND ⟨OW,[(nm,2)],[(7,1,0,2)]⟩:=⟨by simp,λ p hp=>by rw [AlZ.1 hp];exact⟨cC,by simp,by simp⟩,λ c hc=>by rw [AlZ.1 hc];exact⟨by decide,⟨by decide,by decide⟩,by decide,by decide⟩,.inr Ow⟩
 refine (O6 (N:=2) T S y5 my gi (by decide) (BC l2) qd (by rw [AY];exact iH) (by rw [AY];omega)).mono ?_;clear S;rintro _ cP ⟨_,rfl,d,fs,C3,xE,xF,cc3,pa3,pc3,n3,hQ,rfl,hca3,y',S⟩;rw [BP,ay] at hQ;obtain⟨rfl,rfl,rfl⟩:=AeU (Abl (by decide) (by decide) (by decide) ok0 (by simp [F9]) hQ);refine⟨_,_,_,_,_,rfl,S.An λ pS eK _ _ S=>S.BR 0 rfl (aC:=#[.int .i64 0,.int .i64 0]) (by simp) rfl λ ff S=>S.BR 0 rfl (aC:=#[.int .i64 0,.int .i64 2]) (by simp) rfl λ eo S=>?_⟩;refine Ao (λ _=>?_) (λ h=>absurd rfl h);refine Ao (λ _=>?_) (λ h=>absurd rfl h);refine⟨_,S.cell 8 rfl rfl,_,S.cell 8 rfl rfl,Ap (λ _=>?_) (λ h=>absurd h (by decide))⟩;refine⟨_,S.cell 6 rfl rfl,_,S.cell 6 rfl rfl,Ap (λ _=>?_) (λ h=>absurd h (by decide))⟩;refine Ao (λ _=>?_) (λ h=>absurd rfl h);refine⟨_,S.cell 0 rfl rfl,_,S.cell 0 rfl rfl,_,S.cell 6 rfl rfl,_,S.cell 6 rfl rfl,Ap (λ _=>?_) (λ h=>absurd h (by decide))⟩;refine Ao (λ _=>?_) (λ h=>absurd rfl h)
 have S:=S.drop 2;refine (AbG (H:=_) S y5.np).mono ?_;rintro _ gp ⟨_,rfl,a',c',rfl,P⟩;exact⟨_,_,_,rfl,rfl,Ac S.Ar P.Ar⟩
def AbP(ns:List ByteArray)(s:ByteArray):List UInt8:=3 :: (Af ns.length++(ns++[s]).flatMap Bu)
def RC(ns:List ByteArray)(s:ByteArray):Prop:=ns.length<2\/256<ns.length\/262144<s.size\/∃ x∈ns,x.size≠64
instance (ns:List ByteArray) (s:ByteArray):Decidable (RC ns s):=by unfold RC;infer_instance
def Tm(ns:List ByteArray)(s:ByteArray):Int:=if RC ns s then 2 else if 262144<(AbP ns s).length then 130 else 0
def V5(ns:List ByteArray)(s:ByteArray):Value:=if Tm ns s=0 then .tuple #[.string (BC (AbP ns s)),.int .i64 0] else .tuple #[.string (BC []),.int .i64 (Tm ns s)]
theorem Ag3{s:ByteArray}(h:s.size<=262144):(Bu s).length<=262154:=by
 have:=Al (n:=s.size) (by omega);simp only [Bu,Ak1,A9];omega
theorem WX{ns:List ByteArray}(h:∀ s∈ns,s.size<=262144):(ns.flatMap Bu).length<=ns.length*262154:=by
 induction ns with
 | nil=>simp
 | cons s ns ih =>
  have h1:=Ag3 (h s (by simp));have h2:=ih λ x hx=>h x (by simp [hx]);rw [List.flatMap_cons,Ak1,Ak3];omega
theorem P7{w:World}{a:Option Addr}{ns:List ByteArray}(h:Rd w a (ns.map Value.string)){i:Nat}(hi:i<ns.length):∃ p,a=some p/\w.cell? (p.add (i*1))=some (.string ns[i]):=by
 obtain⟨p,hp,h0⟩:=h i _ (by rw [List.getElem?_map,List.getElem?_eq_getElem hi];rfl);exact⟨p,hp,by rw [Nat.mul_one];exact h0⟩
theorem Up:MN Tryz.prog ty.Cx=some (ty.string,1,16,.string ⟨#[]⟩):=by kernel_rfl
section
variable {w0 w:World}{H:List It}{a:Option Addr}{c:Nat}{ns:List ByteArray}
theorem Zk(s:ByteArray)(w:World):Calls Tryz.prog f.EU #[.string s] w (AG λ v w'=>v=.bool (decide (s.size≠64))/\w'=w):=by
 apply R.J5
 delta R.G;try dsimp only [R.Ps]
 refine⟨?_,rfl⟩;congr 1;by_cases h:s.size=64
 ·simp [h]
 ·have:¬ (s.size:Int)=64:=by omega
  simp [h,this]
theorem Aac(h:Rd w a (ns.map Value.string))(hn:ns.length<=9223372036854775807):Calls Tryz.prog f.DN #[.slice a ns.length c,.func (.func f.EU) #[] #[]] w (AG λ v w'=>∃ z:Int,v=.int .i64 z/\w'=w/\(0<=z↔∃ x∈ns,x.size≠64)):=by
 apply R.CV
 delta R.Ad R.F R.G R.I R.Lt R.Qi R.T R.W R.X;try dsimp only [R.Ps]
 refine⟨λ s wx=>∃ i:Nat,s=[.int .i64 (i:Int)]/\i<=ns.length/\(∀ x∈ns.take i,x.size=64)/\wx=w,λ s _=>match s with
  | [.int _ i]=>ns.length-i.toNat
  | _=>0,⟨0,rfl,by omega,by simp,rfl⟩,?_⟩
 rintro _ w1 ⟨i,hs,hi,aF,rfl⟩;cases hs;refine Aa (λ aB=>?_) (λ aJ=>⟨_,rfl,rfl,?_⟩)
 ·have aD:i<ns.length:=by omega
  obtain⟨p,rfl,hc⟩:=P7 h aD;refine⟨⟨by omega,by omega⟩,_,by rw [Ak4];exact hc,?_⟩;rw [show enters Tryz.prog f.EU=true by kernel_rfl];refine (Zk ns[i] w1).mono ?_;rintro _ w2 ⟨_,rfl,rfl,rfl⟩;refine⟨_,rfl,Aa (λ h2=>⟨_,rfl,rfl,⟨λ _=>⟨_,AlI aD,h2⟩,λ _=>by omega⟩⟩) (λ h2=>?_)⟩;rw [Ae (by omega)];refine⟨⟨i+1,rfl,by omega,λ x hx=>?_,rfl⟩,by simp only [Ak4];omega⟩;rw [AlW aD] at hx;rcases AlY.1 hx with h | h
  ·exact aF x h
  ·rw [AlZ.1 h];exact Decidable.not_not.1 h2
 ·rw [AlA (by omega)] at aF;constructor
  ·intro h;omega
  ·rintro⟨x,hx,h2⟩;exact absurd (aF x hx) h2
theorem Ad7(h:Rd w a (ns.map Value.string))(hl:ns.length<=100000):Calls Tryz.prog f.HD #[.slice a ns.length c] w (AG λ v w'=>∃ a' c',v=.slice a' ns.length c'/\ST w w' [It.row ty.string 1 a' ns.length c' (ns.map Value.string)]):=by
 apply R.FT
 delta R.F R.J R.Ks R.N R.O R.S;try dsimp only [R.Ps]
 cases a with
 | none =>
  have h':Rd w none (ns.flatMap λ s=>[Value.string s]):=by rw [show ns.flatMap (λ s=>[Value.string s])=ns.map Value.string from Ags Value.string ns];exact h
  have:=YF (k:=0) (λ _=>rfl) h';subst this;exact CQ ⟨none,0,rfl,(ST.start w).nil _ _⟩
 | some q =>
  refine AV ((ST.start w).An λ b2 w1 _ B1 S=>?_);have S:=S.IX 0 rfl (.refl _ _) (It.row ty.string 1 (some ⟨b2,0,none⟩) 0 0 []) (RA (S.CJ 0 rfl)) (λ k hk=>.inl hk);refine S.app 0 rfl Up rfl (by omega) (by omega) (h.grown B1) (mm:=ns.length) (by simp) (λ u hu=>by obtain⟨s,_,rfl⟩:=List.mem_map.1 hu;rfl) (by omega) λ a' c' w' S=>⟨_,_,_,rfl,a',c',by rw [Ak6],?_⟩;simp only [Ak6,Al4] at S;exact S
theorem Ij(s:ByteArray)(h:RC ns s):Value.tuple #[.string ⟨#[]⟩,.int .i64 2]=V5 ns s:=by
 have e:Tm ns s=2:=if_pos h;rw [V5,e,if_neg (by decide)];rfl
set_option maxHeartbeats 1000000 in
theorem AjG(h:Rd w a (ns.map Value.string))(hn:ns.length<=9223372036854775807)(s:ByteArray):Calls Tryz.prog f.V2 #[.slice a ns.length c,.string s] w (AG λ v w'=>v=V5 ns s/\Below w.heap.size w w'):=by
 apply R.MW
 delta R.Ad R.B R.AR R.Iy R.Cb R.Cs R.F R.H R.I R.J R.Ks R.Lt R.N R.ER R.S R.T R.U R.W R.Wu R.X;try dsimp only [R.Ps]
 refine Aa (λ h=>⟨Ij s (.inl (by omega)),.refl _ _⟩) (λ h1=>Aa (λ h=>⟨Ij s (.inr (.inl (by omega))),.refl _ _⟩) (λ h2=>Aa (λ h=>⟨Ij s (.inr (.inr (.inl (by omega)))),.refl _ _⟩) (λ h3=>?_)));have hC:Calls Tryz.prog f.Dl #[.slice a ns.length c,.func (.func f.EU) #[] #[]] w (AG λ v w'=>∃ z:Bool,v=.bool z/\w'=w/\(z=true↔∃ x∈ns,x.size≠64)):=by
  apply R.CL
  delta R.Ci R.G R.S;try dsimp only [R.Ps]
  refine (Aac h hn).mono ?_;rintro _ w1 ⟨_,rfl,z,rfl,rfl,hz⟩;exact⟨_,rfl,_,rfl,rfl,by rw [decide_eq_true_eq];exact hz⟩
 refine hC.mono ?_;rintro _ w1 ⟨_,rfl,z,rfl,rfl,hz⟩;refine⟨_,rfl,Ap (λ hb=>⟨Ij s (.inr (.inr (.inr (hz.1 hb)))),.refl _ _⟩) (λ hb=>?_)⟩;have iV:∀ x∈ns,x.size=64:=λ x hx=>Decidable.byContradiction λ aQ=>by
  rw [hz.2 ⟨x,hx,aQ⟩] at hb;cases hb
 have aP:¬ RC ns s:=by
  rintro (h | h | h | ⟨x,hx,h⟩)
  ·omega
  ·omega
  ·omega
  ·exact h (iV x hx)
 refine (ST.start w1).An λ b5 w2 _ _ S=>?_;have dh:Rd w2 (some ⟨b5,0,none⟩) (([3]:List UInt8).map Ag):=S.Gw 0 rfl;have d1:=Al (n:=ns.length) (by omega);rw [Aj (by omega) (by omega)];refine (Bf (c:=1) [3] dh ns.length (by omega) (by simp)).mono ?_;rintro _ w3 ⟨_,rfl,a3,c3,rfl,g3⟩;have S:=BL S g3;refine⟨_,_,_,rfl,(Ad7 (h.grown S.Ar) (by omega)).mono ?_⟩;rintro _ w4 ⟨_,rfl,a4,c4,rfl,P⟩;have S:=S.join P;refine⟨_,_,_,rfl,S.An λ dO w5 _ _ S=>?_⟩;refine S.app 1 rfl Up rfl (by omega) (by omega) (S.Gw 0 rfl) (mm:=1) rfl (by simp;rfl) (by omega) λ a6 c6 w6 S=>⟨_,_,_,rfl,?_⟩;obtain⟨ms,iS⟩:∃ ms,ms=ns++[s]:=⟨_,rfl⟩;have lK:ms.length=ns.length+1:=by rw [iS];simp
 have S:ST w1 w6 [CP a3 c3 ([3]++Af ns.length),It.rd a6 (ms.map Value.string)]:=by
  have S:=(S.drop 1).Akw 0 rfl;have S:=S.sub (H':=[It.rd a6 (ns.map Value.string++[Value.string s]),CP a3 c3 ([3]++Af ns.length)]) (.cons_cons _ (.cons_cons _ (List.nil_sublist _)));have e:ns.map Value.string++[Value.string s]=ms.map Value.string:=by rw [iS];simp
  rw [e] at S;exact S.pull 1 rfl
 have aw:∀ x∈ms,x.size<=262144:=λ x hx=>by
  rw [iS] at hx;rcases AlY.1 hx with h | h
  ·have:=iV x h;omega
  ·rw [AlZ.1 h];omega
 have fu:∀ i,((ms.take i).flatMap Bu).length<=67500000:=λ i=>by
  have h1:=WX (ns:=ms.take i) λ x hx=>aw x (List.mem_of_mem_take hx);have h2:(ms.take i).length<=257:=by rw [AlX];omega
  have:(ms.take i).length*262154<=257*262154:=Nat.mul_le_mul_right _ h2;omega
 rw [<- lK];refine⟨λ s wx=>∃(i:Nat) (out:List UInt8) (oa:Option Addr) (oc:Nat),s=[.slice oa out.length oc,.int .i64 (i:Int)]/\i<=ms.length/\out=[3]++Af ns.length++(ms.take i).flatMap Bu/\ST w1 wx [CP oa oc out,It.rd a6 (ms.map Value.string)],λ s _=>match s with
  | [_,.int _ i]=>ms.length-i.toNat
  | _=>0,⟨0,_,a3,c3,rfl,by omega,by simp,S⟩,?_⟩
 clear S;rintro oa _ oc _ w7 ⟨i,out,_,_,aA,hi,bS,S⟩;cases aA;have cE:out.length<=68000000:=by
  have:=fu i;rw [bS];simp only [Ak1,Ak3,Amf];omega
 refine Aa (λ aB=>?_) (λ aJ=>?_)
 ·have aD:i<ms.length:=by omega
  obtain⟨p,rfl,hc⟩:=P7 (S.get 1 rfl) aD;have h5:=aw ms[i] (AlI aD);refine⟨⟨by omega,by omega⟩,_,by rw [Ak4];exact hc,?_⟩;refine (Hg out (Er S 0 rfl) ms[i] (by omega) (by omega)).mono ?_;rintro _ w9 ⟨_,rfl,a9,c9,rfl,g9⟩;have S:=BL S g9;rw [Ae (by omega)];refine⟨_,_,_,_,rfl,⟨i+1,out++Bu ms[i],a9,c9,rfl,by omega,?_,S.sub (.cons_cons _ (.cons _ (AmN _)))⟩,by simp only [Ak4];omega⟩;rw [bS,AlW aD,AmM];simp
 ·obtain rfl:i=ms.length:=by omega
  rw [Al0] at bS;have e:out=AbP ns s:=by rw [bS,iS,AbP];simp
  subst e;refine (Uw (Er S 0 rfl)).mono ?_;rintro _ w8 ⟨_,rfl,rfl,rfl⟩;by_cases hb:262144<(AbP ns s).length
  ·rw [if_pos hb];refine⟨_,_,rfl,?_,S.Ar⟩;have e2:Tm ns s=130:=by rw [Tm,if_neg aP,if_pos hb]
   rw [V5,e2,if_neg (by decide)]
  ·rw [if_neg hb];refine⟨_,_,rfl,?_,S.Ar⟩;have e2:Tm ns s=0:=by rw [Tm,if_neg aP,if_neg hb]
   rw [V5,e2,if_pos rfl]
set_option maxHeartbeats 1000000 in
theorem VK(h:Rd w a (ns.map Value.string))(hn:ns.length<=9223372036854775807)(s:ByteArray):Calls Tryz.prog f.Aaz #[.slice a ns.length c,.string s] w (AG λ v w'=>v=V5 ns s/\Below w.heap.size w w'):=by
 apply R.PI
 delta R.Ad R.B R.AR R.Cs R.F R.H R.I R.J R.Lt R.N R.ER R.Rt R.S R.T R.U R.W R.Wu R.X;try dsimp only [R.Ps]
 refine Aa (λ h=>⟨Ij s (.inl (by omega)),.refl _ _⟩) (λ h1=>Aa (λ h=>⟨Ij s (.inr (.inl (by omega))),.refl _ _⟩) (λ h2=>Aa (λ h=>⟨Ij s (.inr (.inr (.inl (by omega)))),.refl _ _⟩) (λ h3=>?_)));refine (ST.start w).An λ b5 w2 _ _ S=>?_;have dh:Rd w2 (some ⟨b5,0,none⟩) (([3]:List UInt8).map Ag):=S.Gw 0 rfl;have d1:=Al (n:=ns.length) (by omega);rw [Aj (by omega) (by omega)];refine (Bi (c:=1) [3] dh ns.length (by omega) (by simp)).mono ?_;rintro _ w3 ⟨_,rfl,a3,c3,rfl,g3⟩;have S:=(BL S g3).keep 1;refine⟨_,_,_,rfl,λ s wx=>∃(i:Nat) (out:List UInt8) (oa:Option Addr) (oc:Nat),s=[.slice oa out.length oc,.int .i64 (i:Int)]/\i<=ns.length/\out=[3]++Af ns.length++(ns.take i).flatMap Bu/\(∀ x∈ns.take i,x.size=64)/\ST w wx [CP oa oc out],λ s _=>match s with
  | [_,.int _ i]=>ns.length-i.toNat
  | _=>0,⟨0,_,a3,c3,rfl,by omega,by simp,by simp,S⟩,?_⟩
 clear S;rintro oa _ oc _ w7 ⟨i,out,_,_,aA,hi,bS,aF,S⟩;cases aA;have cE:out.length<=68000000:=by
  have h1:=WX (ns:=ns.take i) λ x hx=>by have:=aF x hx;omega
  have h2:(ns.take i).length<=257:=by rw [AlX];omega
  have:(ns.take i).length*262154<=257*262154:=Nat.mul_le_mul_right _ h2;rw [bS];simp only [Ak1,Ak3,Amf];omega
 refine Aa (λ aB=>?_) (λ aJ=>?_)
 ·have aD:i<ns.length:=by omega
  obtain⟨p,rfl,hc⟩:=P7 (h.grown S.Ar) aD;refine⟨⟨by omega,by omega⟩,_,by rw [Ak4];exact hc,?_⟩;refine Ah (λ h5=>⟨Ij s (.inr (.inr (.inr ⟨_,AlI aD,by omega⟩))),S.Ar⟩) (λ h5=>?_);refine⟨⟨by omega,by omega⟩,_,by rw [Ak4];exact hc,?_⟩;refine (GA out (Er S 0 rfl) ns[i] (by omega) (by omega)).mono ?_;rintro _ w9 ⟨_,rfl,a9,c9,rfl,g9⟩;have S:=BL S g9;rw [Ae (by omega)];refine⟨_,_,_,_,rfl,⟨i+1,out++Bu ns[i],a9,c9,rfl,by omega,?_,λ x hx=>?_,S.keep 1⟩,by simp only [Ak4];omega⟩
  ·rw [bS,AlW aD,AmM];simp
  ·rw [AlW aD] at hx;rcases AlY.1 hx with h | h
   ·exact aF x h
   ·rw [AlZ.1 h];omega
 ·obtain rfl:i=ns.length:=by omega
  rw [Al0] at bS aF;have aP:¬ RC ns s:=by
   rintro (h | h | h | ⟨x,hx,h⟩)
   ·omega
   ·omega
   ·omega
   ·exact h (aF x hx)
  refine (GA out (Er S 0 rfl) s (by omega) (by omega)).mono ?_;rintro _ w5 ⟨_,rfl,a5,c5,rfl,g5⟩;have e:out++Bu s=AbP ns s:=by rw [bS,AbP];simp
  rw [e] at g5 ⊢;have B5:=Ac S.Ar g5.Ar;refine⟨_,_,_,_,rfl,Aa (λ hb=>⟨?_,B5⟩) (λ hb=>Aw CB rfl g5.rd ⟨_,rfl,?_,B5⟩)⟩
  ·have e2:Tm ns s=130:=by rw [Tm,if_neg aP,if_pos (by omega)]
   rw [V5,e2,if_neg (by decide)];rfl
  ·have e2:Tm ns s=0:=by rw [Tm,if_neg aP,if_neg (by omega)]
   rw [V5,e2,if_pos rfl]
end
section
variable {w0 w:World}{H:List It}{bc bm n N cc pc:Nat}{ca pa:Option Addr}{C:Cn}
end
section
variable {w0 w:World}{H:List It}{b:Nat}{a:Option Addr}{c at_:Nat}{bad:Bool}{l:List UInt8}
theorem Z2(S:ST w0 w H)(n m:Nat)(hn:H[n]?=some (EX b a l.length c at_ bad))(hm:H[m]?=some (It.rd a (l.map Ag)))(hc:l.length<=c)(hs:l.length<=140737488355328)(most:Nat) :
  Calls Tryz.prog f.M1 #[.pointer (some ⟨b,0,none⟩),.int .i64 (most:Int)] w (AG λ v w'=>∃(s:List UInt8) (at':Nat) (aY:Bool),v=.string (BC s)/\ST w0 w' (H.set n (EX b a l.length c at' aY))/\SL bad aY (BD l (at_:Int) most) (s,at')):=by
 apply R.H7
 delta R.Gz R.D R.F R.G R.I R.Lb R.Li R.Ls R.S R.Am R.T;try dsimp only [R.Ps]
 refine S.draw λ w1 B1 S=>⟨_,_,_,S.cell n hn rfl,_,S.cell n hn rfl,?_⟩;refine (Es (S.get m hm) hc (by omega) (at_:Int) most).mono ?_;rintro _ w2 ⟨_,rfl,rfl,rfl⟩;have fail:∀ {X:Prop},(bad=true\/BD l (at_:Int) most=none)->DV (Addr.add ⟨b,0,none⟩ 2) (.bool true) (λ w'=>∃(s:List UInt8) (at':Nat) (aY:Bool),Value.string ⟨#[]⟩=.string (BC s)/\ST w0 w' (H.set n (EX b a l.length c at' aY))/\SL bad aY (BD l (at_:Int) most) (s,at')) w2:=λ h =>
  S.BR n hn (i:=2) (aC:=#[.slice a l.length c,.int .i64 (at_:Int),.bool true]) (by simp) rfl λ w3 S=>⟨[],at_,true,rfl,S,.inr ⟨rfl,h⟩⟩
 cases ho:BD l (at_:Int) most with
 | none =>
  rw [ho] at fail;exact⟨_,_,_,rfl,_,S.cell n hn rfl,Ap (λ hb=>fail (X:=True) (.inl hb)) (λ hb=>Ah (λ h=>fail (X:=True) (.inr rfl)) (λ h=>by cases h))⟩
 | some x =>
  rw [ho] at fail;refine⟨_,_,_,rfl,_,S.cell n hn rfl,Ap (λ hb=>fail (X:=True) (.inl hb)) (λ hb=>?_)⟩;subst hb;exact Ah (λ h=>absurd rfl h) (λ h=>S.BR n hn (i:=1) (aC:=#[.slice a l.length c,.int .i64 (x.2:Int),.bool false]) (by simp) rfl λ w3 S=>⟨x.1,x.2,false,rfl,S,.inl ⟨rfl,rfl,rfl⟩⟩)
theorem AfG(S:ST w0 w H)(n m:Nat)(hn:H[n]?=some (EX b a l.length c at_ bad))(hm:H[m]?=some (It.rd a (l.map Ag)))(hc:l.length<=c)(hs:l.length<=140737488355328) :
  Calls Tryz.prog f.MR #[.pointer (some ⟨b,0,none⟩)] w (AG λ v w'=>∃(s:ByteArray) (at':Nat) (aY:Bool),v=.string s/\ST w0 w' (H.set n (EX b a l.length c at' aY))/\SL bad aY (Sr l at_) (s,at')):=by
 apply R.Ig
 delta R.Ct R.F R.G R.I R.Lb R.P R.Am R.T;try dsimp only [R.Ps]
 have aB:=(AkN.1 hn).1;refine (Z2 S n m hn hm hc hs 64).mono ?_;rintro _ w1 ⟨_,rfl,s,aL,b1,rfl,S,G⟩;have eN:(H.set n (EX b a l.length c aL b1))[n]?=some (EX b a l.length c aL b1):=AkP aB;refine⟨_,rfl,_,S.cell n eN rfl,Ap (λ hb=>?_) (λ hb=>?_)⟩
 ·subst hb;refine S.BR n eN (i:=2) (aC:=#[.slice a l.length c,.int .i64 (aL:Int),.bool true]) (by simp) rfl λ w3 S=>⟨_,aL,true,rfl,?_,?_⟩
  ·rw [Ak0] at S;exact S
  ·refine .inr ⟨rfl,?_⟩;rcases G.no with h | h
   ·exact .inl h
   ·exact .inr (by rw [Sr,h];rfl)
 ·subst hb;obtain⟨rfl,h2⟩:=G.ok;refine S.BR n eN (i:=2) (aC:=#[.slice a l.length c,.int .i64 (aL:Int),.bool (((BC s).size:Int) != 64)]) (by simp) rfl λ w3 S=>⟨_,aL,(((BC s).size:Int) != 64),rfl,?_,?_⟩
  ·rw [Ak0] at S;exact S
  ·have e:Sr l at_=if s.length=64 then some (BC s,aL) else none:=by rw [Sr,h2,Aml]
   rw [AY];by_cases h:s.length=64
   ·refine .inl ⟨?_,rfl,by rw [e,if_pos h]⟩;simp [h]
   ·refine .inr ⟨?_,.inr (by rw [e,if_neg h])⟩;have:¬ (s.length:Int)=64:=by omega
    simp [this]
end
theorem AiK{l:List UInt8}{b b':Bool}{lo hi at_ z at':Nat}(h:SL b b' (OT l lo hi at_) (z,at'))(hz:b'=true->z=0):z<=hi:=by
 cases b' with
 | true=>rw [hz rfl];exact Nat.zero_le _
 | false=>exact (HM h.ok.2).2.2
theorem SL.same{α:Type}(b:Bool)(x:α):SL b b (Option.some x) x:=by
 cases b with
 | false=>exact .inl ⟨rfl,rfl,rfl⟩
 | true=>exact .inr ⟨rfl,.inl rfl⟩
section
variable {w:World}
end
section
variable {w0 w:World}{H:List It}{b:Nat}{a:Option Addr}{c at_:Nat}{bad:Bool}{l:List UInt8}
end
def Rk(c:Km):List Value:=[.int .i64 (c.1:Int),.int .i64 (c.2.1:Int),.int .i64 (c.2.2.1:Int),.int .i64 (c.2.2.2:Int)]
def Du(k:List Km):List Value:=k.flatMap Rk
theorem LU(k:List Km):(Du k).length=k.length*4:=by
 induction k with
 | nil=>rfl
 | cons p ps ih =>
  show (Rk p++Du ps).length=_;rw [Ak1,ih,Ak3];simp only [Rk,Ak3,Amf];omega
theorem Qz(k:List Km)(i j:Nat)(hi:i<k.length)(hj:j<4):(Du k)[i*4+j]?=(Rk k[i])[j]?:=by
 induction k generalizing i with
 | nil=>simp at hi
 | cons p ps ih =>
  show (Rk p++Du ps)[_]?=_;cases i with
  | zero=>rw [Nat.zero_mul,Ak6,List.getElem?_append_left (by simp [Rk];omega)];rfl
  | succ i =>
   rw [List.getElem?_append_right (by simp [Rk];omega)];rw [show (i+1)*4+j-(Rk p).length=i*4+j by simp [Rk];omega,ih i (by simpa using hi)];rfl
def NC(a:Option Addr)(c:Nat)(k:List Km):It:=It.row ty.JC 4 a k.length c (Du k)
theorem AfV:MN Tryz.prog ty.Df=some (ty.JC,4,32,.agg #[.int .i64 0,.int .i64 0,.int .i64 0,.int .i64 0]):=by kernel_rfl
def DZ(b:Nat)(ca:Option Addr)(cc:Nat)(pa:Option Addr)(pc:Nat)(ka:Option Addr)(kc:Nat)(c:YM):List It :=
 [It.cells b #[.slice ca c.AM.length cc,.slice pa c.parts.length pc,.slice ka c.Dt.length kc] ty.Fg,CK ca cc c.AM,E1 pa pc c.parts,NC ka kc c.Dt]
section
variable {w0 w:World}{H:List It}{a:Option Addr}{c:Nat}
theorem Uf{k:List Km}(hl:Rd w a (Du k)){i:Nat}(hi:i<k.length):∃ p,a=some p/\w.cell? (p.add (i*4))=some (.int .i64 (k[i].1:Int))/\w.cell? ((p.add (i*4)).add 1)=some (.int .i64 (k[i].2.1:Int))/\w.cell? ((p.add (i*4)).add 2)=some (.int .i64 (k[i].2.2.1:Int))/\w.cell? ((p.add (i*4)).add 3)=some (.int .i64 (k[i].2.2.2:Int)):=by
 obtain⟨p,hp,h0⟩:=hl (i*4+0) _ (by rw [Qz k i 0 hi (by omega)];rfl);obtain⟨p1,hp1,h1⟩:=hl (i*4+1) _ (by rw [Qz k i 1 hi (by omega)];rfl);obtain⟨p2,gU,h2⟩:=hl (i*4+2) _ (by rw [Qz k i 2 hi (by omega)];rfl);obtain⟨p3,oP,h3⟩:=hl (i*4+3) _ (by rw [Qz k i 3 hi (by omega)];rfl);rw [hp] at hp1 gU oP;cases hp1;cases gU;cases oP;exact⟨p,hp,h0,by rw [BK];exact h1,by rw [BK];exact h2,by rw [BK];exact h3⟩
theorem AhA(S:ST w0 w H){n:Nat}{k:List Km}(hn:H[n]?=some (NC a c k)){x:Km}{b:Nat}(hs:Rd w (some ⟨b,0,none⟩) (Rk x))(hl:k.length+1<=1000000){f:Value->World->Prop}
  (hf:∀ a' c' w',ST w0 w' (H.set n (NC a' c' (k++[x])))->f (.slice a' (k++[x]).length c') w') :
  DE Tryz.prog (Builtin.append_ #[ty.Df,ty.Df] ty.Df #[.slice a k.length c,.slice (some ⟨b,0,none⟩) 1 1]) f w:=by
 refine S.app n hn AfV rfl (by omega) (by omega) hs (mm:=1) rfl (by simp [Rk];exact⟨rfl,rfl,rfl,rfl⟩) (by omega) λ a' c' w' S'=>?_;have e1:(k++[x]).length=k.length+1:=by simp
 have e2:Du k++Rk x=Du (k++[x]):=by simp [Du]
 rw [e2] at S';have:=hf a' c' w' (by unfold NC;rw [e1];exact S');rwa [e1] at this
end
section
variable {w:World}
end
section
variable {w0 w:World}{H:List It}{a a2:Option Addr}{c c2:Nat}
end
section
variable {w:World}{a a2 a3:Option Addr}{c c2 c3:Nat}{cs:List BQ}{ps qs:List BG}
end
end Go.Proofs.YtpnaifmmggnimaaGreatDoor
