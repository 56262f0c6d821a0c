/-
  Texts of this claim, laid one behind the other by a program of mine (install.py): G.Ct2, G.ReadB, Dn.MapsP, Dn.MapI, G.Cp3, G.Ct3, G.Ct4, G.Ct5, G.IterI, G.Ct6, G.Ct7, G.Ct8, G.Ct9, G.Cw1, G.Ct10, G.Ct11, G.Cw2, G.Cl1, G.Cl2, G.Cl3, G.Cl4, G.Cl5, G.Seg18.
-/
import Derived.Test.YtpnaifmmggnimaaGreatDoorM9
import Derived.Test.YtpnaifmmggnimaaGreatDoorRead
import Derived.Test.YtpnaifmmggnimaaGreatDoorM6
import Derived.Maps.OwnSet
import Derived.Maps.Range
import Derived.Lib.SlKeysI
import Derived.DataShut
import Derived.Shelf.SlIterI.Nil
import Derived.Shelf.SortM.Plain
import Derived.Shelf.SortM.SortNone
import Derived.Ground.GgzProg
import Derived.Ground.SlgmProg
import Derived.Test.YtpnaifmmggnimaaGreatDoorProg
import Derived.Test.YtpnaifmmggnimaaGreatDoorM4
namespace Go.Proofs.YtpnaifmmggnimaaGreatDoor
open _root_.Int renaming toNat_natCast -> Ale
open _root_.List renaming append_assoc -> Alc, getElem_mem -> AlS, take_of_length_le -> AlK, take_succ_eq_append_getElem -> Al6
set_option maxRecDepth 100000
open Go.Dn Go.Proofs
open Go.RowKit (Below)
set_option linter.unusedVariables false
theorem Adb{w0 w:World}{H:List It}(S:ST w0 w H){v:Value}{t:TypeId}{k:Nat->World->Prop}(hk:∀ b w',ST w0 w' (It.row t 1 (some ⟨b,0,none⟩) 1 1 [v] :: H)->k b w'):DM #[v] t k w :=
 S.An λ b w1 _ B S1=>hk b w1 (S1.I2 0 rfl (.refl _ _) _ (⟨by simp,.inr ⟨b,#[v],rfl,S1.CJ 0 rfl,by omega,by omega,by simp,by simp⟩⟩:Row w1 t 1 (some ⟨b,0,none⟩) 1 1 [v]) λ k hk=>.inl hk)
def PM(p:DZ):It:=CP p.1 p.2.1 p.2.2
def Rq(a:Option Addr)(c:Nat)(ps:List DZ):It:=It.row ty.AH 1 a ps.length c (ps.map Cc)
theorem Ajj:M9 Tryz.prog ty.Hv=some (ty.AH,1,24,.slice none 0 0):=by kernel_rfl
theorem Mc{cs:List BQ}{rows:List (List AB)}(h:Ef cs rows≠0):¬ Bv cs rows:=λ hs=>h (by
 have h1:¬ (1024<rows.length\/∃ r∈rows,C8 cs r=false):=by
  rintro (h | ⟨r,hr,h⟩)
  ·have:=hs.len;omega
  ·rw [hs.fits r hr] at h;cases h
 have h2:¬ Ap cs=false:=by rw [hs.right];decide
 rw [Ef,if_neg h2,if_neg h1])
def WJ(l:List UInt8)(cs:List BQ)(rows:List (List AB))(w w':World)(v:Value):Prop :=
 (¬ Bv cs rows/\v=.tuple #[.slice none 0 0,.int .i64 (Ef cs rows)]/\Ef cs rows≠0/\Below w.heap.size w w') \/
  (Bv cs rows/\∃ a c,v=.tuple #[.slice a (l++FX rows).length c,.int .i64 0]/\Bm w w' (l++FX rows) a c)
theorem Acg(qs:List DZ)(p:DZ):BT (qs++[p])=BT qs++p.2.2:=by simp [BT]
theorem UE{cs:List BQ}{r:List AB}(hf:C8 cs r=true){k:Nat}(hk:k<r.length):AK r[k]=true:=by
 have hl:=I9 hf;have:=TX hf (by omega) hk;simp only [GW,Bool.and_eq_true] at this;exact this.1
section
variable {w0 w:World}{H:List It}{a a2 a3:Option Addr}{c c2 c3:Nat}{l:List UInt8}{cs:List BQ}{ps:List BF}
theorem Ajg(S:ST w0 w H){n:Nat}{qs:List DZ}(hn:H[n]?=some (Rq a c qs)){p:DZ}{b:Nat}(hs:Rd w (some ⟨b,0,none⟩) [Cc p])(hl:qs.length+1<=1000000){f:Value->World->Prop}
  (hf:∀ a' c' w',ST w0 w' (H.set n (Rq a' c' (qs++[p])))->f (.slice a' (qs++[p]).length c') w') :
  DB Tryz.prog (Builtin.append_ #[ty.Hv,ty.Hv] ty.Hv #[.slice a qs.length c,.slice (some ⟨b,0,none⟩) 1 1]) f w:=by
 refine S.app n hn Ajj rfl (by omega) (by omega) hs (mm:=1) rfl (by simp [Cc];rfl) (by omega) λ a' c' w' S'=>?_;have e1:(qs++[p]).length=qs.length+1:=by simp
 have e2:qs.map Cc++[Cc p]=(qs++[p]).map Cc:=by simp
 rw [e2] at S';have:=hf a' c' w' (by unfold Rq;rw [e1];exact S');rwa [e1] at this
theorem AgY{E:List It}{qs:List DZ}(S:ST w0 w (E++qs.map PM)):∀ p∈qs,Rd w p.1 (p.2.2.map Ag):=λ p hp=>by
 have:(PM p).ok w:=S.ok _ (List.mem_append_right _ (List.mem_map.2 ⟨p,hp,rfl⟩));exact Row.rd this
theorem AcE{E:List It}{qs:List DZ}{p:DZ}(S:ST w0 w (PM p :: (E++qs.map PM))):ST w0 w (E++(qs++[p]).map PM):=by
 refine S.perm ?_;rw [List.map_append];simp only [List.map_cons,List.map_nil];rw [<- Alc];exact (List.perm_append_comm (l₁:=[PM p]))
set_option maxHeartbeats 1000000 in
theorem Qe(hl:Rd w a (l.map Ag))(hs:l.length+20000000<=140737488355328)(aj:Rd w a2 (BM cs))(hn:cs.length<=9223372036854775807)(hq:∀ c∈cs,c.1.size<=9223372036854775807)(hr:Ba w a3 ps)(hm:ps.length<=9223372036854775807)(hv:∀ r∈rws ps,∀ v∈r,BL v) :
  Calls Tryz.prog f.Vq #[.slice a l.length c,.slice a2 cs.length c2,.slice a3 ps.length c3] w (AG λ v w'=>WJ l cs (rws ps) w w' v):=by
 apply R.L9
 delta R.A R.Ab R.Ad R.AR R.Cb R.Cs R.E R.F R.H R.I R.J R.Ks R.Li R.Ls R.Lt R.N R.O R.EM R.S R.Am R.T R.U R.W R.Wu R.X;try dsimp only [R.Ps]
 refine (Ee aj hn hq).mono ?_;rintro _ w1 ⟨_,rfl,rfl,B1⟩;have bad:∀ {wx:World} (e:Int),Below w.heap.size w wx->Ef cs (rws ps)=e->e≠0->WJ l cs (rws ps) w wx (.tuple #[.slice none 0 0,.int .i64 e]):=by
  rintro wx e B rfl h0;exact .inl ⟨Mc h0,rfl,h0,B⟩
 have S:=(ST.start w).grown B1;refine⟨_,rfl,As (Aq (λ hR=>?_) (λ hR=>bad 50 S.Ar (by rw [Ef,if_pos hR]) (by decide)))⟩;have gZ:¬ Ap cs=false:=by rw [hR];decide
 refine Aa (λ h=>bad 51 S.Ar ?_ (by decide)) (λ hlen=>?_)
 ·have:1024<(rws ps).length:=by simp only [rws,List.length_map];omega
  rw [Ef,if_neg gZ,if_pos (.inl this)]
 have bJ:ps.length<=1024:=by omega
 have bN:=A6 hR;rw [Aj (by omega) (by omega)];have d1:=Al (n:=ps.length) (by omega);refine (Bg l (hl.grown S.Ar) ps.length (by omega) (by omega)).mono ?_;rintro _ w2 ⟨_,rfl,im,iQ,rfl,h2⟩;have S:=BJ S h2;have s3:(rws ps).length=ps.length:=by simp [rws]
 have jE:∀ {wx:World} (r:List AB),Below w.heap.size w wx->r∈rws ps->C8 cs r=false->WJ l cs (rws ps) w wx (.tuple #[.slice none 0 0,.int .i64 51]):=λ r B h1 h2 =>
  bad 51 B (by rw [Ef,if_neg gZ,if_pos (.inr ⟨r,h1,h2⟩)]) (by decide)
 obtain⟨p0,ru⟩:∃ p0:DZ,p0=(im,iQ,l++Af ps.length):=⟨_,rfl⟩;refine⟨_,_,_,rfl,Adb S λ b8 w3 S=>?_⟩;have S:ST w w3 ([Rq (some ⟨b8,0,none⟩) 1 [p0]]++[p0].map PM):=by subst ru;exact S
 let Inv:List Value->World->Prop:=λ s wx=>∃(i:Nat) (qs:List DZ) (pa:Option Addr) (pc:Nat),s=[.slice pa qs.length pc,.int .i64 (i:Int)]/\i<=ps.length/\qs.length<=1+i*16 /\
  BT qs=l++Af ps.length++((rws ps).take i).flatMap J1/\(∀ r∈(rws ps).take i,C8 cs r=true)/\ST w wx ([Rq pa pc qs]++qs.map PM)
 refine⟨Inv,λ s _=>match s with
  | [_,.int _ i]=>ps.length-i.toNat
  | _=>0,⟨0,[p0],_,1,rfl,by omega,by simp,by subst ru;simp [BT],by simp,S⟩,?_⟩
 clear S;rintro pa _ pc _ w4 ⟨i,qs,_,_,aA,hi,ku,cd,cV,S⟩;cases aA;refine Aa (λ aB=>?_) (λ aI=>?_)
 ·have aD:i<ps.length:=by omega
  have nH:i<(rws ps).length:=by omega
  obtain⟨q,rfl,ld,lg⟩:=(hr.grown S.Ar).at aD;have ei:(rws ps)[i]=ps[i].2.2:=by simp [rws]
  refine⟨⟨by omega,by omega⟩,_,_,_,by rw [Ale];exact ld,?_⟩;obtain⟨row,aJ⟩:∃ row,row=ps[i].2.2:=⟨_,rfl⟩;rw [<- aJ] at lg ei ⊢;have ag:row∈rws ps:=by rw [<- ei];exact AlS nH
  refine (HX (aj.grown S.Ar) hn lg).mono ?_;rintro _ w6 ⟨_,rfl,rfl,B6⟩;have S:=S.grown B6;refine⟨_,rfl,As (Aq (λ hf=>?_) (λ hf=>jE row S.Ar ag hf))⟩;have kx:=I9 hf;have aK:=hv row ag;have wc:Rd w ps[i].1 (AP row):=by rw [aJ];exact hr.each _ (AlS aD)
  let In2:List Value->World->Prop:=λ s wx=>∃(k:Nat) (eV:List DZ) (pa:Option Addr) (pc:Nat),s=[.slice pa eV.length pc,.int .i64 (k:Int)]/\k<=row.length/\eV.length=qs.length+k /\
   BT eV=BT qs++(row.take k).flatMap CC/\ST w wx ([Rq pa pc eV]++eV.map PM)
  refine⟨In2,λ s _=>match s with
   | [_,.int _ i]=>row.length-i.toNat
   | _=>0,⟨0,qs,_,_,rfl,by omega,by omega,by simp,S⟩,?_⟩
  clear S;rintro pa _ pc _ w7 ⟨k,eV,_,_,aA,hk,hql',mz,S⟩;cases aA;refine Aa (λ ao=>?_) (λ br=>?_)
  ·have aO:k<row.length:=by omega
   obtain⟨q2,iF,e0,e1,e2⟩:=Di (wc.grown S.Ar) aO;rw [iF];refine⟨⟨by omega,by omega⟩,_,by rw [Ale];exact e0,_,by rw [Ale];exact e1,_,by rw [Ale];exact e2,S.II λ b25 aY _ S=>⟨_,S.cell 0 rfl rfl,_,S.cell 0 rfl rfl,_,S.cell 0 rfl rfl,?_⟩⟩;refine (J8 (a:=none) (c:=0) [] (Rd.nil _ _) row[k] (aK _ (AlS aO)) (by simp)).mono ?_;rintro _ bK ⟨_,rfl,ff⟩;obtain⟨xa,xc,rfl,n12⟩:=Jc (UE hf aO) ff;rw [List.nil_append] at n12 ⊢;have S:=BJ (S.drop 1) n12;obtain⟨p,hp⟩:∃ p:DZ,p=(xa,xc,CC row[k]):=⟨_,rfl⟩;refine⟨_,_,_,_,rfl,Adb S λ pA al S=>?_⟩;have jU:Rd al (some ⟨pA,0,none⟩) [Cc p]:=by subst hp;exact S.rd 0 rfl
   refine Ajg S (n:=2) rfl jU (by omega) λ a' c' an S=>⟨_,_,_,rfl,?_⟩;rw [Ae (by omega)];refine⟨⟨k+1,eV++[p],a',c',rfl,by omega,by simp;omega,?_,?_⟩,by simp only [Ale];omega⟩
   ·rw [Acg,mz,Al6 aO,List.flatMap_append];subst hp;simp
   ·subst hp;exact AcE (S.drop 1)
  ·obtain rfl:k=row.length:=by omega
   rw [Ae (by omega)];rw [List.take_length] at mz;refine⟨⟨i+1,eV,_,_,rfl,by omega,by omega,?_,λ r gK=>?_,S⟩,by simp only [Ale];omega⟩
   ·rw [mz,cd,Al6 nH,List.flatMap_append,ei];simp [J1]
   ·rw [Al6 nH] at gK;rcases List.mem_append.1 gK with h | h
    ·exact cV r h
    ·rw [List.mem_singleton.1 h,ei];exact hf
 ·obtain rfl:i=ps.length:=by omega
  rw [AlK (by omega)] at cd cV;have aK:Bv cs (rws ps):=⟨hR,by omega,cV,hv⟩;have hln:=Xt (i:=(rws ps).length) aK;rw [List.take_length] at hln;refine (Bo qs (S.rd 0 rfl) (AgY S) (by omega) (by rw [cd];simp only [List.length_append];omega)).mono ?_;rintro _ w5 ⟨_,rfl,a5,c5,rfl,h5⟩;have e:l++Af ps.length++(rws ps).flatMap J1=l++FX (rws ps):=by rw [FX,s3,Alc]
  rw [cd,e] at h5 ⊢;exact⟨_,_,_,rfl,.inr ⟨aK,a5,c5,rfl,h5.before S.Ar⟩⟩
def GI(a:Option Addr)(c:Nat)(ps:List BF):It:=It.row ty.CG 1 a ps.length c (ps.map Cz)
def XS(o:Option (List (List AB) × Nat))(w w':World)(v:Value):Prop :=
 match o with
 | none=>∃ e:Int,e≠0/\v=.tuple #[.slice none 0 0,.int .i64 0,.int .i64 e]/\Below w.heap.size w w'
 | some r=>∃ a c ps,v=.tuple #[.slice a ps.length c,.int .i64 (r.2:Int),.int .i64 0]/\rws ps=r.1/\ST w w' ([GI a c ps]++ps.map EW)
theorem Ahe(S:ST w0 w H){n:Nat}{qs:List BF}(hn:H[n]?=some (GI a c qs)){p:BF}{b:Nat}(hs:Rd w (some ⟨b,0,none⟩) [Cz p])(hl:qs.length+1<=1000000){f:Value->World->Prop}
  (hf:∀ a' c' w',ST w0 w' (H.set n (GI a' c' (qs++[p])))->f (.slice a' (qs++[p]).length c') w') :
  DB Tryz.prog (Builtin.append_ #[ty.Ce,ty.Ce] ty.Ce #[.slice a qs.length c,.slice (some ⟨b,0,none⟩) 1 1]) f w:=by
 refine S.app n hn Ad2 rfl (by omega) (by omega) hs (mm:=1) rfl (by simp [Cz];rfl) (by omega) λ a' c' w' S'=>?_;have e1:(qs++[p]).length=qs.length+1:=by simp
 have e2:qs.map Cz++[Cz p]=(qs++[p]).map Cz:=by simp
 rw [e2] at S';have:=hf a' c' w' (by unfold GI;rw [e1];exact S');rwa [e1] at this
theorem Xu{E:List It}{qs:List BF}{p:BF}(S:ST w0 w (EW p :: (E++qs.map EW))):ST w0 w (E++(qs++[p]).map EW):=by
 refine S.perm ?_;rw [List.map_append];simp only [List.map_cons,List.map_nil];rw [<- Alc];exact (List.perm_append_comm (l₁:=[EW p]))
theorem Aji(S:ST w0 w H)(n:Nat){b:Nat}{cur:List AB}{t:TypeId}(hn:H[n]?=some (It.cells b ⟨AP cur⟩ t)){i:Nat}(hi:i<cur.length)(v:AB){k:World->Prop}(hk:∀ w',ST w0 w' (H.set n (It.cells b ⟨AP (cur.set i v)⟩ t))->k w') :
  DY ((⟨b,0,none⟩:Addr).add (i*3)) (.int .i64 v.1) (λ w=>DY (((⟨b,0,none⟩:Addr).add (i*3)).add 1) (.int .i64 v.2.1) (λ w=>DY (((⟨b,0,none⟩:Addr).add (i*3)).add 2) (.string v.2.2) k w) w) w:=by
 have aB:=(List.getElem?_eq_some_iff.1 hn).1;have aw:(⟨AP cur⟩:Array Value).size=cur.length*3:=by show (AP cur).length=_;rw [Jo]
 have e0:((⟨b,0,none⟩:Addr).add (i*3))=⟨b,i*3,none⟩:=by rw [Ay];simp
 simp only [e0,Ay];refine S.BP n hn (by omega) rfl λ w1 S1=>?_;refine S1.BP n (List.getElem?_set_self aB) (by simp only [Array.size_setIfInBounds];omega) rfl λ w2 S2=>?_;rw [List.set_set] at S2;refine S2.BP n (List.getElem?_set_self aB) (by simp only [Array.size_setIfInBounds];omega) rfl λ w3 S3=>?_;rw [List.set_set,AbJ cur hi] at S3;exact hk w3 S3
set_option maxHeartbeats 1000000 in
theorem OI(hl:Rd w a (l.map Ag))(hc:l.length<=c)(hs:l.length<=140737488355328)(at_:Int)(aj:Rd w a2 (BM cs))(hn:cs.length<=9223372036854775807)(hq:∀ c∈cs,c.1.size<=9223372036854775807) :
  Calls Tryz.prog f.TJ #[.slice a l.length c,.int .i64 at_,.slice a2 cs.length c2] w (AG λ v w'=>XS (Bf l cs at_) w w' v):=by
 apply R.KH
 delta R.Ei R.Bu R.Cb R.F R.H R.I R.J R.Ks R.N R.O R.NH R.AhK R.Rs R.S R.Am R.T R.U R.W R.Wu R.X;try dsimp only [R.Ps]
 refine (Ee aj hn hq).mono ?_;rintro _ w1 ⟨_,rfl,rfl,B1⟩;have S:=(ST.start w).grown B1;have bad:∀ {wx:World} (e:Int),e≠0->Below w.heap.size w wx->Bf l cs at_=none->XS (Bf l cs at_) w wx (.tuple #[.slice none 0 0,.int .i64 0,.int .i64 e]):=by
  intro wx e h0 B h;rw [h];exact⟨e,h0,rfl,B⟩
 refine⟨_,rfl,As (Aq (λ hR=>?_) (λ hR=>bad 50 (by decide) S.Ar (by simp [Bf,hR])))⟩;have bN:=A6 hR;refine (AL (hl.grown S.Ar) hc (by omega) at_).mono ?_;rintro _ w2 ⟨_,rfl,rfl,rfl⟩;obtain⟨n,aL,e,hv,hk,qQ,hx⟩:=Ec _ (rfl:takeN l at_=takeN l at_);rw [hv];refine⟨_,_,_,rfl,Ah (λ h=>bad 52 (by decide) S.Ar ?_) (λ h=>?_)⟩
 ·rcases hx with ⟨h2,_⟩ | ⟨_,h2⟩
  ·exact absurd h2 h
  ·simp [Bf,h2]
 have qk:takeN l at_=some (n,aL):=by
  rcases hx with ⟨_,h2⟩ | ⟨h2,_⟩
  ·exact h2
  ·exact absurd h h2
 have hT:Bf l cs at_=if n<=1024 then Dy (RU l cs) n aL else none:=by simp [Bf,hR,qk]
 refine Aa (λ h=>bad 52 (by decide) S.Ar (by rw [hT,if_neg (by omega)])) (λ hle=>?_);rw [if_pos (by omega)] at hT;refine⟨λ s wx=>∃(i aZ:Nat) (qs:List BF) (ra:Option Addr) (rc:Nat),s=[.int .i64 (aZ:Int),.slice ra qs.length rc,.int .u64 (i:Int)]/\i<=n/\qs.length=i/\aZ<=l.length/\Dy (RU l cs) i aL=some (rws qs,aZ)/\ST w wx ([GI ra rc qs]++qs.map EW),λ s _=>match s with
  | [_,_,.int _ i]=>n-i.toNat
  | _=>0,⟨0,aL,[],none,0,rfl,by omega,rfl,hk,rfl,S.nil _ _⟩,?_⟩
 clear S;rintro _ ra _ rc _ w3 ⟨i,aZ,qs,_,_,aA,hi,wF,uM,aV,S⟩;cases aA;refine Aa (λ aB=>?_) (λ aI=>?_)
 ·have jR:i<n:=by omega
  refine Ea Ajk (l:=(cs.length:Int)) (c:=(cs.length:Int)) (by omega) (by omega) (by omega) (by omega) λ b w4 hb B4 hO=>?_;rw [Ale] at hO ⊢;rw [XD] at hO;have S:=S.add B4 (It.cells b ⟨AP (List.replicate cs.length (0,0,E0))⟩ ty.AW) hO (λ k hk=>by cases hk;exact hb);have jo:Dy (λ a=>Bi l (a:Int)) cs.length aZ=none->Bf l cs at_=none:=λ h=>by
   rw [hT];refine Gj (i:=i+1) ?_ jR;rw [Dh aV,RU,h];rfl
  refine⟨_,_,_,rfl,λ s wx=>∃(k bH:Nat) (cur:List AB),s=[.int .i64 (bH:Int),.int .i64 (k:Int)]/\k<=cs.length/\cur.length=cs.length/\bH<=l.length/\Dy (λ a=>Bi l (a:Int)) k aZ=some (cur.take k,bH) /\
    ST w wx (It.cells b ⟨AP cur⟩ ty.AW :: ([GI ra rc qs]++qs.map EW)),λ s _=>match s with
   | [_,.int _ k]=>cs.length-k.toNat
   | _=>0,⟨0,aZ,_,rfl,by omega,by simp,uM,rfl,S⟩,?_⟩
  clear S;rintro _ _ w5 ⟨k,bH,cur,aA,bA,jJ,uN,cK,S⟩;cases aA;refine Aa (λ ao=>?_) (λ br=>?_)
  ·have aO:k<cs.length:=by omega
   refine (IY (hl.grown S.Ar) hc (by omega) (bH:Int)).mono ?_;rintro _ w6 ⟨_,rfl,rfl,B6⟩;have S:=S.grown B6;obtain⟨v,k3,e3,hv3,iB,hx3⟩:=Jn _ (rfl:Bi l (bH:Int)=Bi l (bH:Int));rw [hv3];refine⟨_,_,_,_,_,rfl,⟨by omega,by omega⟩,?_⟩;rw [Ale];refine Aji S 0 rfl (i:=k) (by omega) v λ w9 S=>Ah (λ h=>bad 52 (by decide) S.Ar (jo ?_)) (λ h=>?_)
   ·refine Gj (i:=k+1) ?_ aO;rw [Dh cK];rcases hx3 with ⟨h2,_⟩ | ⟨_,h2⟩
    ·exact absurd h2 h
    ·simp [h2]
   ·have nv:Bi l (bH:Int)=some (v,k3):=by
     rcases hx3 with ⟨_,h2⟩ | ⟨h2,_⟩
     ·exact h2
     ·exact absurd h h2
    rw [Ae (by omega)];refine⟨⟨k+1,k3,cur.set k v,rfl,by omega,by rw [List.length_set];exact jJ,iB,?_,S⟩,by simp only [Ale];omega⟩;rw [Dh cK,nv];have e:(cur.set k v).take (k+1)=cur.take k++[v]:=by
     rw [Al6 (by rw [List.length_set];omega),List.getElem_set_self,List.take_set_of_le (Nat.le_refl _)]
    rw [e];rfl
  ·obtain rfl:k=cs.length:=by omega
   rw [AlK (by omega)] at cK;have hF:=HX (c:=c2) (c2:=cs.length) (aj.grown S.Ar) hn (S.GD 0 rfl);rw [jJ] at hF;refine hF.mono ?_;rintro _ bV ⟨_,rfl,rfl,bp⟩;have S:=S.grown bp;refine⟨_,rfl,As (Aq (λ hf=>?_) (λ hf=>bad 52 (by decide) S.Ar ?_))⟩;rotate_left
   ·rw [hT];refine Gj (i:=i+1) ?_ jR;rw [Dh aV,RU,cK];simp [hf]
   obtain⟨p,hp⟩:∃ p:BF,p=(some ⟨b,0,none⟩,cs.length,cur):=⟨_,rfl⟩;have iI:=Jo cur;have S:=S.I2 0 rfl (.refl _ _) (EW p) (by
    subst hp;exact⟨iI,.inr ⟨b,⟨AP cur⟩,rfl,S.CJ 0 rfl,by show cur.length<=cs.length;omega,by show cs.length<=_;omega,by show (AP cur).length=cs.length*3;omega,AlK (by show (AP cur).length<=cur.length*3;omega)⟩⟩) (λ k hk=>by subst hp;exact .inl hk)
   refine Adb S λ gT aY S=>?_;have jU:Rd aY (some ⟨gT,0,none⟩) [Cz p]:=by
    subst hp;unfold Cz;rw [jJ];exact S.rd 0 rfl
   refine Ahe S (n:=2) rfl jU (by omega) λ a' c' bK S=>⟨_,_,_,rfl,?_⟩;have e:IntKind.u64.wrap ((i:Int)+1)=((i+1:Nat):Int):=by rw [Aj (by omega) (by omega)];omega
   rw [e];refine⟨⟨i+1,bH,qs++[p],a',c',rfl,by omega,by simp [wF],uN,?_,Xu (S.drop 1)⟩,by simp only [Ale];omega⟩;rw [Dh aV,RU,cK,Option.bind_some,if_pos hf];subst hp;simp [rws]
 ·obtain rfl:i=n:=by omega
  rw [hT,aV];exact⟨_,_,qs,rfl,rfl,S⟩
end
end Go.Proofs.YtpnaifmmggnimaaGreatDoor

namespace Go.Dn
open _root_.Nat renaming le_refl -> Ak8
set_option maxRecDepth 100000
set_option linter.unusedVariables false
open Go.RowKit (Below)
open Go.Maps (has Tidy Keyed)
section
variable {P:Program}{k e t:TypeId}{w:World}{b n:Nat}{g:List UInt8->Option Nat}
end
/-! ## Among a function's own things -/
section
variable {P:Program}{k e t:TypeId}{w0 w:World}{H:List It}{b n:Nat}{g:List UInt8->Option Nat}
end
abbrev Tri:=Int × Int × Int
def Zc(x:Tri):Value:=.agg #[.int .i64 x.1,.int .i64 x.2.1,.int .i64 x.2.2]
def Wy(x:Tri):DataW Unit:=.agg [.lit (.int .i64 x.1),.lit (.int .i64 x.2.1),.lit (.int .i64 x.2.2)]
def Ahq(v:Value):Option (DataW Unit × List MemPlace) :=
 match v with
 | .agg ⟨[.int .i64 a,.int .i64 b,.int .i64 c]⟩=>some (Wy (a,b,c),[])
 | _=>none
theorem Ad7(x:Tri):Ahq (Zc x)=some (Wy x,[]):=rfl
theorem Ahr{v:Value}{z:DataW Unit × List MemPlace}(h:Ahq v=some z):∃ x,v=Zc x/\z.1=Wy x:=by
 unfold Ahq at h;split at h
 ·cases h;exact⟨(_,_,_),rfl,rfl⟩
 ·cases h
theorem Ahp{a b:Tri}(h:Wy a=Wy b):a=b:=by
 obtain⟨a1,a2,a3⟩:=a;obtain⟨b1,b2,b3⟩:=b;simp only [Wy,DataW.agg.injEq,List.cons.injEq,DataW.lit.injEq,Lit.int.injEq,true_and,and_true] at h;obtain⟨rfl,rfl,rfl⟩:=h;rfl
def IB(P:Program)(k:TypeId)(w:World)(b n:Nat)(g:Int->Option Tri):Prop :=
 ∃ D:DataW Unit,w.ownsMap P k Ahq b n D/\Tidy D/\∀ x,has D (.int .i64 x)=(g x).isSome/\D.atKey (.int .i64 x) (Wy (0,0,0))=Wy ((g x).getD (0,0,0))
section
variable {P:Program}{k e t:TypeId}{w:World}{b n:Nat}{g:Int->Option Tri}
theorem IB.same(h:IB P k w b n g){w':World}(hb':w'.heap[b]?=w.heap[b]?):IB P k w' b n g:=by
 obtain⟨D,⟨es,clock,hb,r⟩,h2⟩:=h;exact⟨D,⟨es,clock,hb'.trans hb,r⟩,h2⟩
theorem IB.lt(h:IB P k w b n g):b<w.heap.size:=by
 obtain⟨D,h,_⟩:=h;exact h.lt
theorem IB.made(w:World):IB P k (w.alloc (.map #[] 0)) w.heap.size 0 (λ _=>none):=⟨_,World.ownsMap_made _ _ _ _,Maps.tidy_empty,λ x=>⟨rfl,rfl⟩⟩
theorem AdJ(hk:P.underlying k=some (.int .i64)){i:Int}(hi : -9223372036854775808<=i/\i<=9223372036854775807):keyOf P k (.int .i64 i)=some (.int .i64 i) :=
 Maps.keyOf_int_mk hk ((Lit.wf_int_iff _ _).2 ⟨hi.1,hi.2⟩)
theorem IB.put(h:IB P k w b n g)(hk:P.underlying k=some (.int .i64))(ht:P.underlying t=some (.map k e))(hn:n<maxLen){i:Int}(hi : -9223372036854775808<=i/\i<=9223372036854775807)(x:Tri)
  {f:World->Prop} (hf:∀ w',Ai (·=b) w w'->IB P k w' b (n+1) (λ y=>if y=i then some x else g y)->f w'):OPU P (Instr.mapUpdate t (.map (some b)) (.int .i64 i) (Zc x)) f w:=by
 obtain⟨D,hD,hT,hg⟩:=h;obtain⟨w',aH,fW,bu⟩:=hD.update (Maps.int_keyed hk) ht hn (AdJ hk hi) (Ad7 x);unfold OPU;rw [aH];have aO:WideAt.IsKeyLit (.int .i64 i):=by simp [WideAt.IsKeyLit]
 refine hf w' (.of_grownBy bu) ⟨_,fW,hT.put aO _,λ y=>?_⟩;by_cases hx:y=i
 ·subst hx;simp only [if_true];exact⟨Maps.has_put_same hT.isMap aO _,Maps.atKey_put_same hT.isMap aO _ _⟩
 ·have aQ:Lit.int .i64 y≠.int .i64 i:=λ e=>hx (by injection e);simp only [hx,if_false];exact⟨(Maps.has_put_other aQ _).trans (hg y).1,(Maps.atKey_put_other aQ _ _).trans (hg y).2⟩
theorem IB.AjX(h:IB P k w b n g)(hk:P.underlying k=some (.int .i64))(ht:P.underlying t=some (.map k e))(hz:(zeroValue e).run P w=.ok (Zc (0,0,0)) w){i:Int}(hi : -9223372036854775808<=i/\i<=9223372036854775807)
  {f:Value->World->Prop} (hf:f (.tuple #[Zc ((g i).getD (0,0,0)),.bool (g i).isSome]) w):DB P (Instr.lookup t (.map (some b)) (.int .i64 i) true) f w:=by
 obtain⟨D,hD,hT,hg⟩:=h;obtain⟨v,ps,aH,hv⟩:=hD.look_ok (Maps.int_keyed hk) ht hz (Ad7 (0,0,0)) (AdJ hk hi);obtain⟨o,rfl,ho⟩:=Ahr hv;have h2:=(hg i).2;rw [show D.atKey (.int .i64 i) (Wy (0,0,0))=Wy o from ho] at h2;obtain rfl:=Ahp h2;unfold DB;rw [aH,(hg i).1];exact hf
theorem IB.keys(h:IB P k w b n g)(hk:P.underlying k=some (.int .i64)):∃ D:DataW Unit,w.ownsMap P k Ahq b n D/\Maps.size D<=n/\(intKeys D).length=Maps.size D/\(intKeys D).Nodup/\∀ x,x∈intKeys D↔(g x).isSome=true:=by
 obtain⟨D,hD,hT,hg⟩:=h;obtain⟨es,e1,hpw⟩:=hT;obtain⟨es',fz,iC⟩:=hD.keysOf;obtain rfl:es=es':=by rw [e1] at fz;simpa using fz
 have hint:∀ p∈es,∃ x,p.1=.int .i64 x:=λ p hp=>by obtain⟨v,hv⟩:=iC p hp;obtain⟨x,_,hx,_⟩:=Maps.keyOf_i64 hk hv;exact⟨x,hx⟩
 refine⟨D,hD,hD.size_le,by rw [e1];simp [intKeys,Maps.size],?_,λ x=>?_⟩
 ·rw [e1];show (es.map λ p=>intOf p.1).Nodup;refine List.pairwise_map.2 (hpw.imp_of_mem λ {p r} hp' kt aQ e=>aQ ?_);obtain⟨a,ha⟩:=hint p hp';obtain⟨c,hc⟩:=hint r kt;rw [ha,hc] at e ⊢;exact congrArg _ e
 ·rw [<- (hg x).1,e1,Maps.has_eq,List.any_eq_true];show x∈es.map (λ p=>intOf p.1)↔_;rw [List.mem_map];constructor
  ·rintro⟨p,hp',rfl⟩;obtain⟨a,ha⟩:=hint p hp';exact⟨p,hp',by rw [ha];simp [Lit.sameKey,intOf]⟩
  ·rintro⟨p,hp',hs⟩;obtain⟨a,ha⟩:=hint p hp';rw [ha] at hs;exact⟨p,hp',by rw [ha];simpa [Lit.sameKey,intOf] using hs⟩
theorem IB.len(h:IB P k w b n g)(hk:P.underlying k=some (.int .i64))(ht:P.underlying t=some (.map k e))(ty:TypeId){ks:List Int}(hn:ks.Nodup)(hm:∀ x,x∈ks↔(g x).isSome=true) :
  (Builtin.len_ #[t] ty #[.map (some b)]).run P w=.ok (.int .i64 (ks.length:Int)) w:=by
 obtain⟨D,hD,_,hl,hd,ag⟩:=h.keys hk;have e1:=hD.len ht ty;rw [<- hl] at e1;have hp:ks.Perm (intKeys D):=(List.perm_ext_iff_of_nodup hn hd).2 λ x=>(hm x).trans (ag x).symm;rw [hp.length_eq];exact e1
end
/-! ## Among a function's own things -/
def It.Yt(P:Program)(k:TypeId)(b n:Nat)(g:Int->Option Tri):It where
 CJ:=some b
 ok:=λ w=>IB P k w b n g
 st:=λ w w' h h0=>h0.same (h b rfl)
 lt:=λ w h k hk=>by cases hk;exact h.lt
section
variable {P:Program}{k e t:TypeId}{w0 w:World}{H:List It}{b n:Nat}{g:Int->Option Tri}
theorem ST.Aig(S:ST w0 w H)(t:TypeId){f:Value->World->Prop}(hf:∀ b w',ST w0 w' (It.Yt P k b 0 (λ _=>none) :: H)->w.heap.size<=b->f (.map (some b)) w')(aH:(Instr.makeMap t none).run P w=.ok (.map (some w.heap.size)) (w.alloc (.map #[] 0))):DB P (Instr.makeMap t none) f w:=by
 unfold DB;rw [aH];exact hf _ _ (S.add ((Below.refl _ w).alloc (Ak8 _) _) (It.Yt P k w.heap.size 0 _) (IB.made w) (λ k hk=>by cases hk;exact Ak8 _)) (Ak8 _)
theorem ST.Aj3(S:ST w0 w H)(i:Nat)(hi:H[i]?=some (It.Yt P k b n g))(hk:P.underlying k=some (.int .i64))(ht:P.underlying t=some (.map k e))(hn:n<maxLen){j:Int}(hj : -9223372036854775808<=j/\j<=9223372036854775807)(x:Tri)
  {f:World->Prop} (hf:∀ w',ST w0 w' (H.set i (It.Yt P k b (n+1) (λ y=>if y=j then some x else g y)))->f w'):OPU P (Instr.mapUpdate t (.map (some b)) (.int .i64 j) (Zc x)) f w :=
 IB.put (S.get i hi) hk ht hn hj x λ w' K h=>hf w' (S.I2 i hi (K.mono λ k _ h=>by subst h;rfl) _ h (λ k hk=>.inl hk))
theorem ST.AdM(S:ST w0 w H)(i:Nat)(hi:H[i]?=some (It.Yt P k b n g))(hk:P.underlying k=some (.int .i64))(ht:P.underlying t=some (.map k e))(hz:(zeroValue e).run P w=.ok (Zc (0,0,0)) w){j:Int}(hj : -9223372036854775808<=j/\j<=9223372036854775807)
  {f:Value->World->Prop} (hf:f (.tuple #[Zc ((g j).getD (0,0,0)),.bool (g j).isSome]) w):DB P (Instr.lookup t (.map (some b)) (.int .i64 j) true) f w:=IB.AjX (S.get i hi) hk ht hz hj hf
end
end Go.Dn
namespace Go.Proofs.YtpnaifmmggnimaaGreatDoor
set_option maxRecDepth 100000
open Go.Dn Go.Proofs
set_option linter.unusedVariables false
def Ajn(x:Nat × Nat × Nat):Tri:=((x.1:Int),(x.2.1:Int),(x.2.2:Int))
def W0(k:List I1)(i:Int):Option Tri:=if i<0 then none else (mapOf k i.toNat).map Ajn
theorem Ah0:W0 []=λ _=>none:=by
 funext i;unfold W0;split <;> rfl
theorem AhZ(k:List I1)(i:Nat):W0 k (i:Int)=(mapOf k i).map Ajn:=by
 unfold W0;rw [if_neg (by omega),Int.toNat_natCast]
theorem Agp(k:List I1)(c:I1):W0 (k++[c])=λ y=>if y=(c.1:Int) then some (Ajn c.2) else W0 k y:=by
 funext y;unfold W0;rw [NZ];by_cases h:y<0
 ·rw [if_pos h,if_neg (by omega),if_pos h]
 ·rw [if_neg h,if_neg h];by_cases h2:y=(c.1:Int)
  ·rw [if_pos (by omega),if_pos h2];rfl
  ·rw [if_neg (by omega),if_neg h2]
theorem Agq{k:List I1}{i:Int}:(W0 k i).isSome=true↔0<=i/\(mapOf k i.toNat).isSome=true:=by
 unfold W0;split
 ·simp;omega
 ·rw [Option.isSome_map];constructor
  ·intro h;exact⟨by omega,h⟩
  ·intro h;exact h.2
end Go.Proofs.YtpnaifmmggnimaaGreatDoor
namespace Go.Proofs.YtpnaifmmggnimaaGreatDoor
open _root_.Int renaming toNat_natCast -> Ale
open _root_.List.Perm renaming cons -> AmT
open _root_.List renaming length_cons -> Ald, map_cons -> AmQ, mem_cons -> AkV, take_succ_eq_append_getElem -> Al6
set_option maxRecDepth 100000
open Go.Dn Go.Proofs
open Go.RowKit (Below)
set_option linter.unusedVariables false
theorem AeG(e:Int)(w:World):Calls Tryz.prog f.HE #[.int .i64 e] w (AG λ v w'=>v=.tuple #[.agg #[.int .i64 e,.int .i64 0],.slice none 0 0]/\Below w.heap.size w w'):=by
 apply R.Lf
 delta R.A R.Ab R.E R.H R.I R.Li R.N R.O R.Am;try dsimp only [R.Ps]
 exact (ST.start w).An λ b2 w1 _ _ S=>S.BP 0 rfl (aC:=#[.int .i64 e,.int .i64 0]) (by simp) rfl λ w2 S=>S.BP 0 rfl (aC:=#[.int .i64 e,.int .i64 0]) (by simp) rfl λ w3 S=>⟨_,S.cell 0 rfl rfl,_,S.cell 0 rfl rfl,rfl,S.Ar⟩
def Rr(p:H8):List Value:=[.string p.1,.int .i64 (p.2:Int)]
def Bp(ps:List H8):List Value:=ps.flatMap Rr
theorem EH(ps:List H8):(Bp ps).length=ps.length*2:=by
 induction ps with
 | nil=>rfl
 | cons p ps ih =>
  show (Rr p++Bp ps).length=_;rw [List.length_append,ih,Ald];simp only [Rr,Ald,List.length_nil];omega
theorem AaH(ps:List H8)(i j:Nat)(hi:i<ps.length)(hj:j<2):(Bp ps)[i*2+j]?=(Rr ps[i])[j]?:=by
 induction ps generalizing i with
 | nil=>simp at hi
 | cons p ps ih =>
  show (Rr p++Bp ps)[_]?=_;cases i with
  | zero=>rw [Nat.zero_mul,Nat.zero_add,List.getElem?_append_left (by simp [Rr];omega)];rfl
  | succ i =>
   rw [List.getElem?_append_right (by simp [Rr];omega)];rw [show (i+1)*2+j-(Rr p).length=i*2+j by simp [Rr];omega,ih i (by simpa using hi)];rfl
def Dl(a:Option Addr)(c:Nat)(ps:List H8):It:=It.row ty.KZ 2 a ps.length c (Bp ps)
theorem SM:M9 Tryz.prog ty.De=some (ty.KZ,2,24,.agg #[.string ⟨#[]⟩,.int .i64 0]):=by kernel_rfl
section
variable {w0 w:World}{H:List It}{a a2:Option Addr}{c c2:Nat}
theorem JT{ps:List H8}(hl:Rd w a (Bp ps)){i:Nat}(hi:i<ps.length):∃ p,a=some p/\w.cell? (p.add (i*2))=some (.string ps[i].1)/\w.cell? ((p.add (i*2)).add 1)=some (.int .i64 (ps[i].2:Int)):=by
 obtain⟨p,hp,h0⟩:=hl (i*2+0) _ (by rw [AaH ps i 0 hi (by omega)];rfl);obtain⟨p1,hp1,h1⟩:=hl (i*2+1) _ (by rw [AaH ps i 1 hi (by omega)];rfl);rw [hp] at hp1;cases hp1;exact⟨p,hp,h0,by rw [BH];exact h1⟩
theorem Vz(S:ST w0 w H){n:Nat}{ps:List H8}(hn:H[n]?=some (Dl a c ps)){p:H8}{b:Nat}(hs:Rd w (some ⟨b,0,none⟩) (Rr p))(hl:ps.length+1<=1000000){f:Value->World->Prop}
  (hf:∀ a' c' w',ST w0 w' (H.set n (Dl a' c' (ps++[p])))->f (.slice a' (ps++[p]).length c') w') :
  DB Tryz.prog (Builtin.append_ #[ty.De,ty.De] ty.De #[.slice a ps.length c,.slice (some ⟨b,0,none⟩) 1 1]) f w:=by
 refine S.app n hn SM rfl (by omega) (by omega) hs (mm:=1) rfl (by simp [Rr];exact⟨rfl,rfl⟩) (by omega) λ a' c' w' S'=>?_;have e1:(ps++[p]).length=ps.length+1:=by simp
 have e2:Bp ps++Rr p=Bp (ps++[p]):=by simp [Bp]
 rw [e2] at S';have:=hf a' c' w' (by unfold Dl;rw [e1];exact S');rwa [e1] at this
theorem Kp{ls ms:List BQ}(hl:Rd w a (BM ls))(hm:Rd w a2 (BM ms))(hn:ls.length<=9223372036854775807) :
  Calls Tryz.prog f.FA #[.slice a ls.length c,.slice a2 ms.length c2] w (AG λ v w'=>Below w.heap.size w w'/\v=.bool (decide (ls=ms))):=by
 apply R.Ep
 delta R.D R.F R.G R.I R.Lb R.Li R.Lt R.Qi R.W R.X;try dsimp only [R.Ps]
 refine Ah (λ h=>⟨.refl _ _,?_⟩) (λ hlen=>?_)
 ·congr 1;rw [eq_comm,decide_eq_false_iff_not];rintro rfl;exact h rfl
 have bJ:ls.length=ms.length:=by omega
 refine⟨λ s w1=>∃ i:Nat,i<=ls.length/\s=[.int .i64 (i:Int)]/\Below w.heap.size w w1/\ls.take i=ms.take i,λ s _=>match s with
   | [.int _ i]=>ls.length-i.toNat
   | _=>0,⟨0,by omega,rfl,.refl _ _,rfl⟩,?_⟩
 rintro _ w1 ⟨i,hi,hs,B1,hT⟩;cases hs;refine Aa (λ aB=>?_) (λ aI=>⟨B1,?_⟩)
 ·have h1:i<ls.length:=by omega
  have h2:i<ms.length:=by omega
  refine (SH.start (λ _=>False) w1).E5 λ w2 B2 _=>⟨⟨by omega,aB⟩,?_⟩;have C2:=Ac B1 B2;obtain⟨p1,rfl,c0,c1,c2⟩:=FQ (hl.grown C2) h1;obtain⟨p2,rfl,d0,d1,d2⟩:=FQ (hm.grown C2) h2;refine⟨⟨by omega,by omega⟩,_,by rw [Ale];exact c0,_,by rw [Ale];exact c1,_,by rw [Ale];exact c2,_,by rw [Ale];exact d0,_,by rw [Ale];exact d1,_,by rw [Ale];exact d2,?_⟩;rw [Adx];refine As (Aa (λ he=>?_) (λ he=>⟨C2,?_⟩))
  ·rw [Ae (by omega)];refine⟨⟨i+1,by omega,rfl,C2,?_⟩,?_⟩
   ·rw [Al6 h1,Al6 h2,hT,he]
   ·simp only [Ale];omega
  ·congr 1;rw [eq_comm,decide_eq_false_iff_not];rintro rfl;exact he rfl
 ·congr 1;rw [eq_comm,decide_eq_true_eq];rw [List.take_of_length_le (by omega),List.take_of_length_le (by omega)] at hT;exact hT
def CI(ps:List H8):Nat:=(ps.map (·.2)).sum
theorem J2(ps:List H8)(p:H8):CI (ps++[p])=CI ps+p.2:=by simp [CI]
theorem L7{ps:List H8}(h:∀ p∈ps,p.2<=1024):CI ps<=ps.length*1024:=by
 induction ps with
 | nil=>simp [CI]
 | cons p ps ih =>
  have h1:=h p (by simp);have h2:=ih λ x hx=>h x (by simp [hx]);simp only [CI,AmQ,List.sum_cons,Ald] at h2 ⊢;omega
theorem Ys{ps:List H8}(hl:Rd w a (Bp ps))(hn:ps.length<=1000)(h:∀ p∈ps,p.2<=1024):Calls Tryz.prog f.XX #[.slice a ps.length c] w (AG λ v w'=>v=.int .i64 (CI ps:Int)/\Below w.heap.size w w'):=by
 apply R.NM
 delta R.A R.Ab R.F R.I R.Li R.Lt R.N R.NH R.Am R.T R.W R.X;try dsimp only [R.Ps]
 refine⟨λ s w1=>∃ i:Nat,s=[.int .i64 (CI (ps.take i):Int),.int .i64 (i:Int)]/\i<=ps.length/\ST w w1 [],λ s _=>match s with
   | [_,.int _ i]=>ps.length-i.toNat
   | _=>0,⟨0,rfl,by omega,ST.start w⟩,?_⟩
 rintro _ _ w1 ⟨i,hs,hi,S⟩;cases hs;refine Aa (λ aB=>?_) (λ aI=>?_)
 ·have aD:i<ps.length:=by omega
  obtain⟨p,rfl,c0,c1⟩:=JT (hl.grown S.Ar) aD;refine⟨⟨by omega,by omega⟩,_,by rw [Ale];exact c0,_,by rw [Ale];exact c1,S.An λ b8 w2 _ _ S=>S.BP 0 rfl (aC:=#[.string ps[i].1,.int .i64 0]) (by simp) rfl λ w3 S=>S.BP 0 rfl (aC:=#[.string ps[i].1,.int .i64 (ps[i].2:Int)]) (by simp) rfl λ w4 S=>⟨_,S.cell 0 rfl rfl,?_⟩⟩;have h1:=L7 (ps:=ps.take i) λ p hp=>h p (List.mem_of_mem_take hp);have h2:=h ps[i] (List.getElem_mem aD);rw [List.length_take] at h1;have e:CI (ps.take (i+1))=CI (ps.take i)+ps[i].2:=by rw [Al6 aD,J2]
  have ew:IntKind.i64.wrap ((CI (ps.take i):Int)+(ps[i].2:Int))=(CI (ps.take (i+1)):Int):=by rw [wrap_i64 (by omega) (by omega),e];omega
  rw [ew,Ae (by omega)];exact⟨⟨i+1,rfl,by omega,S.drop 1⟩,by simp only [Ale];omega⟩
 ·obtain rfl:i=ps.length:=by omega
  rw [List.take_length];exact⟨rfl,S.Ar⟩
end
structure BX where
 AM:List BQ
 parts:List H8
 k:List I1
def BV(bc:Nat)(ca:Option Addr)(cc:Nat)(pa:Option Addr)(pc bm n:Nat)(C:BX):List It :=
 [It.cells bc #[.slice ca C.AM.length cc,.slice pa C.parts.length pc,.map (some bm)] ty.Fu,CK ca cc C.AM,Dl pa pc C.parts,It.Yt Tryz.prog ty.int64 bm n (W0 C.k)]
structure Nc(C:BX):Prop where
 np:C.parts.length<=256
 parts:∀ p∈C.parts,AjE p
 Dw:∀ c∈C.k,Aju c
 AM:C.AM=[]\/Ap C.AM=true
abbrev Jq:=ByteArray × ByteArray
def Bt(fs:List Jq):List Value:=fs.flatMap λ f=>[.string f.1,.string f.2]
def AdC(d:Nat × Nat)(fa:Option Addr)(fs:List Jq):Value:=.tuple #[.agg #[.int .i64 (d.1:Int),.int .i64 (d.2:Int)],.slice fa fs.length fs.length]
def AbR(C:BX)(cs:List BQ)(rows:List (List AB))(d:Nat × Nat)(fs:List Jq)(C':BX):Prop :=
 (cs≠C.AM/\d=(50,0)/\fs=[]/\C'=C)\/(cs=C.AM/\C.parts.length=256/\d=(130,0)/\fs=[]/\C'=C) \/
  (cs=C.AM/\C.parts.length<256/\∃ b,FL cs rows b/\C'={ C with parts:=C.parts++[(Fj (BC b),rows.length)] }/\d=(0,CI C'.parts)/\fs=[(Fj (BC b),BC b)])
def AfM(w0:World)(H:List It)(bc:Nat)(ca:Option Addr)(cc:Nat)(bm n:Nat)(R:Nat × Nat->List Jq->BX->Prop)(v:Value)(w':World):Prop :=
 ∃ d fs C' fa pa pc,R d fs C'/\v=AdC d fa fs/\ST w0 w' (It.rd fa (Bt fs) :: (BV bc ca cc pa pc bm n C'++H))
section
variable {w0 w:World}{H:List It}{a a2:Option Addr}{c c2:Nat}
theorem Eh(S:ST w0 w H):ST w0 w (It.rd none (Bt []) :: H):=S.add (.refl _ _) _ (Rd.nil _ _) (λ k hk=>by cases hk)
theorem Ej{K:Value->World->Prop}{b:Nat}{u v:Value}(S:ST w0 w (It.cells b #[u,v] ty.AZ :: H))(e:Int)(hk:∀ w',ST w0 w' H->K (.tuple #[.agg #[.int .i64 e,.int .i64 0],.slice none 0 0]) w') :
  Calls Tryz.prog f.HE #[.int .i64 e] w (λ x w'=>∃ p:Int,∃ q:Int,∃(r:Option Addr) (rl rc:Nat),x=.returned (.tuple #[.agg #[.int .i64 p,.int .i64 q],.slice r rl rc]) /\
   DY ⟨b,0,none⟩ (.int .i64 p) (λ w=>DY ⟨b,1,none⟩ (.int .i64 q) (λ w=>∃ p':Int,w.cell? ⟨b,0,none⟩=some (.int .i64 p')/\∃ q':Int,w.cell? ⟨b,1,none⟩=some (.int .i64 q')/\K (.tuple #[.agg #[.int .i64 p',.int .i64 q'],.slice r rl rc]) w) w) w'):=by
 refine (AeG e w).mono ?_;rintro _ w1 ⟨_,rfl,rfl,B⟩;have S:=S.grown B;exact⟨_,_,_,_,_,rfl,S.BP 0 rfl (aC:=#[.int .i64 e,v]) (by simp) rfl λ w2 S=>S.BP 0 rfl (aC:=#[.int .i64 e,.int .i64 0]) (by simp) rfl λ w3 S=>⟨_,S.cell 0 rfl rfl,_,S.cell 0 rfl rfl,hk _ (S.drop 1)⟩⟩
set_option maxHeartbeats 1000000 in
theorem AiT(T:I5 w0){bc bm n cc pc:Nat}{ca pa:Option Addr}{C:BX}(S:ST w0 w (BV bc ca cc pa pc bm n C++H))(hC:Nc C){cs:List BQ}(aj:Rd w a (BM cs))(hn:cs.length<=9223372036854775807)(hq:∀ c∈cs,c.1.size<=9223372036854775807)
  {ps:List BF} (hr:Ba w a2 ps) (aK:Bv cs (rws ps)) :
  Calls Tryz.prog f.MH #[.pointer (some ⟨bc,0,none⟩),.slice a cs.length c,.slice a2 ps.length c2] w (AG (AfM w0 H bc ca cc bm n (AbR C cs (rws ps)))):=by
 apply R.H9
 delta R.A R.Ab R.A7 R.Ix R.Cb R.Ci R.Ct R.D R.E R.F R.H R.I R.J R.Ks R.Li R.Ls R.Lt R.N R.S R.Am R.T;try dsimp only [R.Ps]
 have hB0:∀ {wx:World},Below w.heap.size w wx->Below w.heap.size w wx:=λ h=>h;refine S.An λ b4 w1 _ B1 S=>⟨_,_,_,S.cell 1 rfl rfl,?_⟩;refine (Kp (aj.grown B1) (S.rd 2 rfl) hn).mono ?_;rintro _ w2 ⟨_,rfl,B2,rfl⟩;have S:=S.grown B2;have C2:=Ac B1 B2;have aP:∀(e:Nat) {wx:World},AbR C cs (rws ps) (e,0) [] C->ST w0 wx (BV bc ca cc pa pc bm n C++H)->AfM w0 H bc ca cc bm n (AbR C cs (rws ps)) (.tuple #[.agg #[.int .i64 (e:Int),.int .i64 0],.slice none 0 0]) wx:=λ e wx hA S =>
  ⟨(e,0),[],C,none,pa,pc,hA,rfl,Eh S⟩
 refine⟨_,rfl,As (Aa (λ he=>?_) (λ he=>Ej (K:=AfM w0 H bc ca cc bm n (AbR C cs (rws ps))) S 50 λ w' S=>aP 50 (.inl ⟨he,rfl,rfl,rfl⟩) S))⟩;refine⟨_,_,_,S.cell 1 rfl rfl,Ao (λ h=>Ej (K:=AfM w0 H bc ca cc bm n (AbR C cs (rws ps))) S 130 λ w' S=>aP 130 (.inr (.inl ⟨he,by omega,rfl,rfl,rfl⟩)) S) (λ h=>?_)⟩;have kA:=hC.np;have aB:C.parts.length<256:=by omega
 refine (Jj (c:=c) (c2:=c2) (T.grown S.Ar) (aj.grown C2) hn hq (hr.grown C2) (by have:=aK.len;simp only [rws,List.length_map] at this;omega) aK.ok).mono ?_;rintro _ w9 ⟨_,rfl,hV,B9⟩;have S:=S.grown B9;rcases hV with ⟨aP,_⟩ | ⟨_,bb,rfl,hI⟩
 ·exact absurd aK aP
 have au:=hI.len aK;refine⟨_,_,rfl,(G5 (T.grown S.Ar) (BC bb) (by rw [A1];omega)).mono ?_⟩;rintro _ bV ⟨_,rfl,rfl,bp⟩;have S:=S.grown bp;obtain⟨nm,bz⟩:∃ nm,nm=Fj (BC bb):=⟨_,rfl⟩;obtain⟨dt,hdt⟩:∃ dt,dt=BC bb:=⟨_,rfl⟩;rw [<- hdt] at bz ⊢;rw [<- bz];refine⟨_,rfl,S.An λ gT aY _ _ S=>S.BP 0 rfl (aC:=#[.string nm,.string ⟨#[]⟩]) (by simp) rfl λ bK S=>S.BP 0 rfl (aC:=#[.string nm,.string dt]) (by simp) rfl λ al S=>S.draw λ an _ S =>
  ⟨_,_,_,S.cell 2 rfl rfl,_,S.cell 0 rfl rfl,S.An λ pA ah _ _ S=>⟨S.cell 3 rfl rfl,?_⟩⟩⟩
 refine Vz S (n:=5) rfl (p:=(nm,ps.length)) (S.GD 0 rfl) (by omega) λ a' c' cp S=>⟨_,_,_,rfl,?_⟩;obtain⟨bB,hps'⟩:∃ bB,bB=C.parts++[(nm,ps.length)]:=⟨_,rfl⟩;rw [<- hps'] at S ⊢;have bM:bB.length=C.parts.length+1:=by rw [hps'];simp
 have qU:∀ p∈bB,p.2<=1024:=λ p hp=>by
  rw [hps'] at hp;rcases List.mem_append.1 hp with h | h
  ·exact (hC.parts p h).2.2
  ·rw [List.mem_singleton.1 h];have:=aK.len;simpa [rws] using this
 refine S.BP 3 rfl (i:=1) (aC:=#[.slice ca C.AM.length cc,.slice a' bB.length c',.map (some bm)]) (by simp) rfl λ cP S=>S.draw λ eZ _ S=>?_;have cr:∀ {wx:World} {bf:Nat} {X Y Z:It},ST w0 wx (It.cells bf #[.string nm,.string dt] ty.Gx :: X :: Y :: Z :: (BV bc ca cc a' c' bm n { C with parts:=bB }++H)) ->
   AfM w0 H bc ca cc bm n (AbR C cs (rws ps)) (.tuple #[.agg #[.int .i64 0,.int .i64 (CI bB:Int)],.slice (some ⟨bf,0,none⟩) 1 1]) wx:=λ {wx bf X Y Z} S =>
  ⟨(0,CI bB),[(nm,dt)],{ C with parts:=bB },some ⟨bf,0,none⟩,a',c',.inr (.inr ⟨he,aB,bb,hI,by rw [<- hdt,<- bz,hps'];simp [rws],rfl,by rw [<- hdt,<- bz]⟩),rfl,
   (S.I2 0 rfl (.refl _ _) (It.rd (some ⟨bf,0,none⟩) (Bt [(nm,dt)])) (S.GD 0 rfl) (λ k hk=>.inl hk)).keep 3⟩
 refine⟨_,_,_,S.cell 3 rfl rfl,_,S.cell 1 rfl rfl,_,S.cell 1 rfl rfl,?_,?_⟩
 ·refine (Ys (ps:=bB) (S.rd 5 rfl) (by omega) qU).mono ?_;rintro _ fB ⟨_,rfl,rfl,p4⟩;have S:=S.grown p4;refine⟨_,rfl,⟨S.cell 1 rfl rfl,S.cell 1 rfl rfl⟩,?_,?_⟩
  ·exact S.An λ b42 fC _ _ S=>S.BP 3 rfl (aC:=#[.int .i64 0,.int .i64 0]) (by simp) rfl λ fD S=>S.BP 3 rfl (aC:=#[.int .i64 0,.int .i64 (CI bB:Int)]) (by simp) rfl λ iM S=>⟨_,S.cell 3 rfl rfl,_,S.cell 3 rfl rfl,cr S⟩
  ·exact S.BP 2 rfl (aC:=#[.int .i64 0,.int .i64 0]) (by simp) rfl λ fp S=>S.BP 2 rfl (aC:=#[.int .i64 0,.int .i64 (CI bB:Int)]) (by simp) rfl λ fE S=>⟨⟨S.cell 1 rfl rfl,S.cell 1 rfl rfl⟩,S.An λ xZ gQ _ _ S=>⟨_,S.cell 3 rfl rfl,_,S.cell 3 rfl rfl,cr S⟩⟩
 ·refine S.An λ b48 kE _ _ S=>⟨S.cell 4 rfl rfl,(Ys (ps:=bB) (S.rd 6 rfl) (by omega) qU).mono ?_⟩;rintro _ lB ⟨_,rfl,rfl,oD⟩;have S:=S.grown oD;exact⟨_,rfl,S.BP 3 rfl (aC:=#[.int .i64 0,.int .i64 0]) (by simp) rfl λ oB S=>S.BP 3 rfl (aC:=#[.int .i64 0,.int .i64 (CI bB:Int)]) (by simp) rfl λ kF S=>⟨_,S.cell 3 rfl rfl,_,S.cell 3 rfl rfl,cr S⟩⟩
end
def Kj:List I1->List Nat
 | []=>[]
 | c :: k=>if c.1∈Kj k then Kj k else c.1 :: Kj k
theorem FE:∀(k:List I1) (i:Nat),i∈Kj k↔i∈k.map (·.1)
 | [],i=>by simp [Kj]
 | c :: k,i=>by
  have ih:=FE k;unfold Kj;split
  ·rename_i h;rw [ih i,AmQ,AkV];constructor
   ·exact .inr
   ·rintro (rfl | h2)
    ·exact (ih _).1 h
    ·exact h2
  ·rw [AkV,ih i,AmQ,AkV]
theorem EF:∀(k:List I1),(Kj k).Nodup
 | []=>by simp [Kj]
 | c :: k=>by
  unfold Kj;split
  ·exact EF k
  ·rename_i h;exact List.nodup_cons.2 ⟨h,EF k⟩
def Uv(k:List I1):Nat:=(Kj k).length
theorem Ud:Tryz.prog.underlying ty.int64=some (.int .i64):=by kernel_rfl
theorem Qs:Tryz.prog.underlying ty.DE=some (.map ty.int64 ty.FO):=by kernel_rfl
theorem AbO(w:World):(zeroValue ty.FO).run Tryz.prog w=.ok (Zc (0,0,0)) w:=Tryz.zeroValue99 w
def Aeg(C:BX)(cs:List BQ)(d:Nat × Nat)(fs:List Jq)(C':BX):Prop :=
 (C.AM≠[]/\d=(2,0)/\fs=[]/\C'=C)\/(C.AM=[]/\d=(0,0)/\fs=[]/\C'={ C with AM:=cs })
def O1(C:BX)(id num:Nat)(cs:List BQ)(rows:List (List AB))(d:Nat × Nat)(fs:List Jq)(C':BX):Prop :=
 (∃ t,mapOf C.k id=some t/\t.1=num/\d=t.2/\fs=[]/\C'=C)\/(∃ t,mapOf C.k id=some t/\num<t.1/\d=(2,0)/\fs=[]/\C'=C) \/
  (mapOf C.k id=none/\Uv C.k=64/\d=(130,0)/\fs=[]/\C'=C) \/
  ((∀ t,mapOf C.k id=some t->t.1<num)/\(mapOf C.k id=none->Uv C.k≠64)/\∃ C1,AbR C cs rows d fs C1/\C'={ C1 with k:=C1.k++[(id,num,d)] })
def VR(w0:World)(H:List It)(bc bm N:Nat)(R:Nat × Nat->List Jq->BX->Prop)(v:Value)(w':World):Prop :=
 ∃ d fs C' fa ca cc pa pc n,R d fs C'/\v=AdC d fa fs/\(ca=none↔C'.AM=[])/\n<=N/\ST w0 w' (It.rd fa (Bt fs) :: (BV bc ca cc pa pc bm n C'++H))
section
variable {w0 w:World}{H:List It}{bc bm n N cc pc:Nat}{ca pa:Option Addr}{C:BX}
theorem Ago(k:List I1)(i:Nat):∃ x y z:Nat,(W0 k (i:Int)).getD (0,0,0)=((x:Int),(y:Int),(z:Int))/\(mapOf k i=none/\(W0 k (i:Int)).isSome=false\/mapOf k i=some (x,y,z)/\(W0 k (i:Int)).isSome=true):=by
 rw [AhZ];cases h:mapOf k i with
 | none=>exact⟨0,0,0,rfl,.inl ⟨rfl,rfl⟩⟩
 | some t=>exact⟨t.1,t.2.1,t.2.2,rfl,.inr ⟨rfl,rfl⟩⟩
theorem Ai7{k:List I1}(h:IB Tryz.prog ty.int64 w bm n (W0 k)){f:Value->World->Prop}(hf:f (.int .i64 (Uv k:Int)) w):DB Tryz.prog (Builtin.len_ #[ty.DE] ty.int #[.map (some bm)]) f w:=by
 have:=h.len Ud Qs ty.int (ks:=(Kj k).map (λ i:Nat=>(i:Int))) (List.pairwise_map.2 ((EF k).imp λ {a b} j8 e=>j8 (by omega))) (λ x=>by
  rw [List.mem_map,Agq];constructor
  ·rintro⟨i,hi,rfl⟩;exact⟨by omega,by rw [Ale];exact HN.2 ((FE k i).1 hi)⟩
  ·rintro⟨h0,h1⟩;exact⟨x.toNat,(FE k _).2 (HN.1 h1),by omega⟩)
 unfold DB;rw [this,List.length_map];exact hf
set_option maxHeartbeats 1000000 in
theorem Ab8{q0 q1:Nat}{a:Option Addr}{c:Nat}{cs:List BQ}(S:ST w0 w (It.cells q0 #[.pointer (some ⟨bc,0,none⟩)] ty.A3 :: It.cells q1 #[.slice a cs.length c] ty.AX :: CK a c cs :: (BV bc ca cc pa pc bm n C++H)))
  (hR:Ap cs=true) (bh:ca=none↔C.AM=[]) (hN:n<=N) :
  Calls Tryz.prog f.E3 #[.pointer (some ⟨q0,0,none⟩),.pointer (some ⟨q1,0,none⟩)] w (AG (VR w0 H bc bm N (Aeg C cs))):=by
 apply R.F3
 delta R.A R.Ab R.A7 R.E R.F R.H R.I R.Li R.Lp R.Ls R.N R.O R.S R.Am;try dsimp only [R.Ps]
 refine S.An λ b3 w1 _ _ S=>⟨_,S.cell 1 rfl rfl,_,_,_,S.cell 4 rfl rfl,As (Aq (λ h=>?_) (λ h=>?_))⟩
 ·have hn:ca=none:=by simpa using h
  have gI:=bh.1 hn;refine⟨_,S.cell 1 rfl rfl,_,_,_,S.cell 2 rfl rfl,S.BP 4 rfl (aC:=#[.slice a cs.length c,.slice pa C.parts.length pc,.map (some bm)]) (by simp) rfl λ w5 S=>S.BP 0 rfl (aC:=#[.int .i64 0,.int .i64 0]) (by simp) rfl λ w6 S=>S.BP 0 rfl (aC:=#[.int .i64 0,.int .i64 0]) (by simp) rfl λ w7 S=>⟨_,S.cell 0 rfl rfl,_,S.cell 0 rfl rfl,?_⟩⟩;have ha:a≠none:=λ h=>by
   have:=(S.rw 3 rfl).2;rcases this with ⟨_,h2,_⟩ | ⟨g,_,h2,_⟩
   ·have:=(A6 hR).1;omega
   ·rw [h] at h2;cases h2
  have S:=S.drop 3;have S:ST w0 w7 (BV bc a c pa pc bm n { C with AM:=cs }++(CK ca cc C.AM :: H)):=by
   have S:=S.pull 1 rfl;exact S.perm (AmT _ (AmT _ ((List.Perm.swap _ _ _).trans (AmT _ (List.Perm.swap _ _ _)))))
  have S:ST w0 w7 (BV bc a c pa pc bm n { C with AM:=cs }++H):=S.sub ((List.Sublist.refl _).append (List.sublist_cons_self _ _));exact⟨(0,0),[],{ C with AM:=cs },none,a,c,pa,pc,n,.inr ⟨gI,rfl,rfl,rfl⟩,rfl,⟨λ h=>absurd h ha,λ h=>absurd h (Vm hR)⟩,hN,Eh S⟩
 ·refine Ej (K:=VR w0 H bc bm N (Aeg C cs)) S 2 λ w' S=>?_;have hn:C.AM≠[]:=λ e=>by rw [bh.2 e] at h;cases h
  exact⟨(2,0),[],C,none,ca,cc,pa,pc,n,.inl ⟨hn,rfl,rfl,rfl⟩,rfl,bh,hN,Eh (S.drop 3)⟩
end
end Go.Proofs.YtpnaifmmggnimaaGreatDoor
namespace Go.Proofs
set_option linter.unusedVariables false
set_option maxRecDepth 100000
open Go.RowKit Go.Maps Go.Sort Go.Shelf
end Go.Proofs
namespace Go.Proofs.YtpnaifmmggnimaaGreatDoor
open _root_.Bool renaming and_eq_true -> AkM, true_and -> AmY
open _root_.Int renaming toNat_natCast -> Ale
open _root_.List.Sublist renaming refl -> AmX
open _root_.List renaming append_assoc -> Alc, flatMap_append -> AmW, getElem?_eq_some_iff -> AkX, getElem?_set_self -> AkZ, getElem_mem -> AlS, length_append -> Alb, length_cons -> Ald, length_nil -> Amp, length_take -> Al7, mem_append -> Al8, mem_cons -> AkV, mem_singleton -> Al9, nil_append -> Ame, not_mem_nil -> Amf, perm_middle -> AmZ, set_set -> Ala, sublist_append_right -> AmU, take_length -> Ama, take_of_length_le -> AlK, take_succ_eq_append_getElem -> Al6
open _root_.Nat renaming le_refl -> Ak8, zero_add -> Alg
open _root_.Option renaming bind_eq_some_iff -> AmR, bind_some -> Amv
open _root_.Option.some renaming inj -> Ami
open _root_.Prod.mk renaming inj -> AmV
set_option maxRecDepth 100000
open Go.Dn Go.Proofs
open Go.RowKit (Below)
set_option linter.unusedVariables false
theorem AkF{l1 l2 H:List It}:H.Sublist (l1++(l2++H)):=(AmU l2 H).trans (AmU l1 _)
section
variable {w0 w:World}{H:List It}{bc bm n N cc pc:Nat}{ca pa:Option Addr}{C:BX}
theorem AdT{E:List It}{ra:Option Addr}{rc i:Nat}{ps:List BF}(S:ST w0 w E)(hi:E[i]?=some (GI ra rc ps))(hs:∀ p∈ps,EW p∈E):Ba w ra ps :=
 ⟨S.rd i hi,λ p hp=>Row.rd (S.ok (EW p) (hs p hp))⟩
set_option maxHeartbeats 2000000 in
theorem Acm(T:I5 w0){q0 q1 q2 q3 q4:Nat}{a ra:Option Addr}{c rc id num:Nat}{cs:List BQ}{ps:List BF}
  (S:ST w0 w (It.cells q0 #[.pointer (some ⟨bc,0,none⟩)] ty.A3 :: It.cells q1 #[.int .i64 (id:Int)] ty.int64 :: It.cells q2 #[.int .i64 (num:Int)] ty.int64 :: It.cells q3 #[.slice a cs.length c] ty.AX :: CK a c cs ::
   It.cells q4 #[.slice ra ps.length rc] ty.Ce :: GI ra rc ps :: (BV bc ca cc pa pc bm n C++(ps.map EW++H))))
  (aK:Bv cs (rws ps)) (hq:∀ c∈cs,c.1.size<=9223372036854775807) (hid:id<=Cw) (vt:num<=Cw) (hC:Nc C) (bh:ca=none↔C.AM=[]) (hN:n<=N) (kR:N<1000000) :
  Calls Tryz.prog f.Dp #[.pointer (some ⟨q0,0,none⟩),.pointer (some ⟨q1,0,none⟩),.pointer (some ⟨q2,0,none⟩),.pointer (some ⟨q3,0,none⟩),.pointer (some ⟨q4,0,none⟩)] w (AG (VR w0 H bc bm (N+1) (O1 C id num cs (rws ps)))):=by
 apply R.F4
 delta R.A R.Ab R.A7 R.D R.E R.F R.G R.H R.I R.J R.Li R.Lm R.Lp R.Ls R.M R.N R.O R.P R.Uh R.Ri R.S R.Am R.Z R.Zb R.Zpb;try dsimp only [R.Ps]
 unfold Cw at hid vt;obtain⟨x,y,z,hxyz,aG⟩:=Ago C.k id;obtain⟨ok,hok2⟩:∃ ok,ok=(W0 C.k (id:Int)).isSome:=⟨_,rfl⟩;rw [<- hok2] at aG;have aA:(mapOf C.k id=none/\ok=false)\/(mapOf C.k id=some (x,y,z)/\ok=true):=aG;let X:Nat->List It:=λ b6=>[It.cells b6 #[.int .i64 0,.int .i64 0] ty.AZ,It.cells q0 #[.pointer (some ⟨bc,0,none⟩)] ty.A3,It.cells q1 #[.int .i64 (id:Int)] ty.int64,It.cells q2 #[.int .i64 (num:Int)] ty.int64,It.cells q3 #[.slice a cs.length c] ty.AX,CK a c cs,
   It.cells q4 #[.slice ra ps.length rc] ty.Ce,GI ra rc ps]
 refine S.An λ b6 w1 _ _ S=>?_;have S:ST w0 w1 (X b6++(BV bc ca cc pa pc bm n C++(ps.map EW++H))):=S;let Q:Nat->World->Prop:=λ b wx=>ST w0 wx (It.cells b #[.int .i64 (x:Int),.int .i64 (y:Int),.int .i64 (z:Int)] ty.FO :: (X b6++(BV bc ca cc pa pc bm n C++(ps.map EW++H))));have xh:∀ {wx:World} {b:Nat},Q b wx->ST w0 wx (It.cells b6 #[.int .i64 0,.int .i64 0] ty.AZ :: (BV bc ca cc pa pc bm n C++H)):=λ {wx b} S =>
  S.sub (.cons _ (.cons_cons _ ((List.Sublist.append (AmX _) (AmU _ _)).trans (AmU [_,_,_,_,_,_,_] _))))
 have o6:∀(d:Nat × Nat) {wx:World},O1 C id num cs (rws ps) d [] C->ST w0 wx (BV bc ca cc pa pc bm n C++H)->VR w0 H bc bm (N+1) (O1 C id num cs (rws ps)) (.tuple #[.agg #[.int .i64 (d.1:Int),.int .i64 (d.2:Int)],.slice none 0 0]) wx:=λ d wx hI S =>
  ⟨d,[],C,none,ca,cc,pa,pc,n,hI,rfl,bh,by omega,Eh S⟩
 refine⟨λ s wx=>∃ b,s=[.pointer (some ⟨b,0,none⟩),.bool ok]/\Q b wx,?_,?_⟩
 ·refine S.draw λ w2 _ S=>⟨_,S.cell 1 rfl rfl,_,S.cell 8 rfl rfl,_,S.cell 2 rfl rfl,?_,?_⟩
  ·refine S.AdM 11 rfl Ud Qs (AbO _) (by omega) ?_;rw [<- hok2,hxyz];refine⟨_,_,_,_,rfl,S.An λ dE w4 _ _ S=>S.BP 0 rfl (aC:=#[.int .i64 (x:Int),.int .i64 0,.int .i64 0]) (by simp) rfl λ w5 S=>S.BP 0 rfl (aC:=#[.int .i64 (x:Int),.int .i64 (y:Int),.int .i64 0]) (by simp) rfl λ w6 S=>S.BP 0 rfl (aC:=#[.int .i64 (x:Int),.int .i64 (y:Int),.int .i64 (z:Int)]) (by simp) rfl λ w7 S=>⟨dE,rfl,S⟩⟩
  ·refine S.An λ lF w8 _ _ S=>⟨S.cell 3 rfl rfl,S.cell 9 rfl rfl,S.cell 2 rfl rfl,?_⟩;refine S.AdM 12 rfl Ud Qs (AbO _) (by omega) ?_;rw [<- hok2,hxyz];refine⟨_,_,_,_,rfl,S.BP 0 rfl (aC:=#[.int .i64 (x:Int),.int .i64 0,.int .i64 0]) (by simp) rfl λ w5 S=>S.BP 0 rfl (aC:=#[.int .i64 (x:Int),.int .i64 (y:Int),.int .i64 0]) (by simp) rfl λ w6 S=>S.BP 0 rfl (aC:=#[.int .i64 (x:Int),.int .i64 (y:Int),.int .i64 (z:Int)]) (by simp) rfl λ w7 S=>⟨lF,rfl,S⟩⟩
 clear S;rintro _ _ al ⟨b,hs,S⟩;cases hs;refine⟨λ s wx=>s=[]/\Q b wx/\(∀ t,mapOf C.k id=some t->t.1<num)/\(mapOf C.k id=none->Uv C.k≠64),?_,?_⟩
 ·refine⟨λ s wx=>s=[.bool (ok && decide (x=num))]/\Q b wx,?_,?_⟩
  ·refine Aq (λ h=>⟨_,S.cell 0 rfl rfl,_,S.cell 4 rfl rfl,?_,S⟩) (λ h=>⟨by rw [h];rfl,S⟩);rw [h,AmY];congr 2;by_cases h2:x=num
   ·simp [h2]
   ·have:¬ (x:Int)=(num:Int):=by omega
    simp [h2,this]
  clear S;rintro _ an ⟨hs,S⟩;cases hs;refine Aq (λ h=>?_) (λ h1=>?_)
  ·simp only [AkM,decide_eq_true_eq] at h;obtain⟨hk,rfl⟩:=h;have hm:mapOf C.k id=some (x,y,z):=by
    rcases aA with ⟨_,h2⟩ | ⟨h2,_⟩
    ·rw [h2] at hk;cases hk
    ·exact h2
   refine⟨_,S.cell 0 rfl rfl,_,S.cell 0 rfl rfl,S.BP 1 rfl (aC:=#[.int .i64 (y:Int),.int .i64 0]) (by simp) rfl λ ah S=>S.BP 1 rfl (aC:=#[.int .i64 (y:Int),.int .i64 (z:Int)]) (by simp) rfl λ cp S=>⟨_,S.cell 1 rfl rfl,_,S.cell 1 rfl rfl,?_⟩⟩;exact o6 (y,z) (.inl ⟨_,hm,rfl,rfl,rfl,rfl⟩) (S.sub (.cons _ (.cons _ ((List.Sublist.append (AmX _) (AmU _ _)).trans (AmU [_,_,_,_,_,_,_] _)))))
  refine⟨λ s wx=>s=[.bool (ok && decide (num<x))]/\Q b wx,?_,?_⟩
  ·refine Aq (λ h=>⟨_,S.cell 0 rfl rfl,_,S.cell 4 rfl rfl,?_,S⟩) (λ h=>⟨by rw [h];rfl,S⟩);rw [h,AmY];congr 2;by_cases h2:num<x
   ·have:(x:Int) > (num:Int):=by omega
    simp [h2,this]
   ·have:¬ (x:Int) > (num:Int):=by omega
    simp [h2,this]
  clear S;rintro _ cP ⟨hs,S⟩;cases hs;refine Aq (λ h=>?_) (λ h2=>?_)
  ·simp only [AkM,decide_eq_true_eq] at h;obtain⟨hk,aB⟩:=h;have hm:mapOf C.k id=some (x,y,z):=by
    rcases aA with ⟨_,h2⟩ | ⟨h2,_⟩
    ·rw [h2] at hk;cases hk
    ·exact h2
   exact Ej (K:=VR w0 H bc bm (N+1) (O1 C id num cs (rws ps))) (xh S) 2 λ w' S=>o6 (2,0) (.inr (.inl ⟨_,hm,aB,rfl,rfl,rfl⟩)) S
  refine As (Aq (λ hk=>?_) (λ hk=>?_))
  ·refine⟨rfl,S,λ t ht=>?_,λ h=>?_⟩
   ·rcases aA with ⟨h3,_⟩ | ⟨h3,_⟩
    ·rw [h3] at ht;cases ht
    ·rw [h3] at ht;cases ht;rw [hk,AmY,decide_eq_false_iff_not] at h1 h2;omega
   ·rcases aA with ⟨_,h3⟩ | ⟨h3,_⟩
    ·rw [h3] at hk;cases hk
    ·rw [h3] at h;cases h
  ·have hm:mapOf C.k id=none:=by
    rcases aA with ⟨h3,_⟩ | ⟨_,h3⟩
    ·exact h3
    ·rw [h3] at hk;cases hk
   refine⟨_,S.cell 2 rfl rfl,_,S.cell 9 rfl rfl,Ai7 (S.get 12 rfl) ⟨_,rfl,Ao (λ h=>?_) (λ h=>?_)⟩⟩
   ·exact Ej (K:=VR w0 H bc bm (N+1) (O1 C id num cs (rws ps))) (xh S) 130 λ w' S=>o6 (130,0) (.inr (.inr (.inl ⟨hm,by omega,rfl,rfl,rfl⟩))) S
   ·exact⟨rfl,S,λ t ht=>(by rw [hm] at ht;cases ht),λ _=>by omega⟩
 clear S;rintro gQ ⟨_,S,aB,uq⟩;refine⟨_,S.cell 2 rfl rfl,_,_,_,S.cell 5 rfl rfl,_,_,_,S.cell 7 rfl rfl,?_⟩;have aj:Rd gQ a (BM cs):=S.rd 6 rfl;have rz:Ba gQ ra ps:=AdT S (i:=8) rfl λ p hp=>by
  refine List.mem_cons_of_mem _ (List.mem_append_right _ (List.mem_append_right _ (List.mem_append_left _ (List.mem_map.2 ⟨p,hp,rfl⟩))))
 have S:ST w0 gQ ((It.cells b #[.int .i64 (x:Int),.int .i64 (y:Int),.int .i64 (z:Int)] ty.FO :: X b6)++(BV bc ca cc pa pc bm n C++(ps.map EW++H))):=S;have S:=ST.mid (BV bc ca cc pa pc bm n C) S;have bN:=A6 aK.right;refine (AiT (c:=c) (c2:=rc) T S hC aj (by omega) hq rz aK).mono ?_;rintro _ kE ⟨_,rfl,d,fs,C1,fa,dC,dD,hA,rfl,S⟩;obtain⟨d1,d2⟩:=d;refine⟨_,_,_,_,_,rfl,S.An λ b66 lB _ _ S=>S.BP 0 rfl (aC:=#[.int .i64 (d1:Int),.int .i64 0]) (by simp) rfl λ oB S=>S.BP 0 rfl (aC:=#[.int .i64 (d1:Int),.int .i64 (d2:Int)]) (by simp) rfl λ kF S=>S.draw λ eK _ S =>
  ⟨_,S.cell 8 rfl rfl,_,S.cell 2 rfl rfl,_,S.cell 9 rfl rfl,_,S.cell 10 rfl rfl,_,S.cell 0 rfl rfl,_,S.cell 0 rfl rfl,?_⟩⟩
 refine S.Aj3 5 rfl Ud Qs (by unfold maxLen;omega) (by omega) ((num:Int),(d1:Int),(d2:Int)) λ kG S=>⟨_,S.cell 0 rfl rfl,_,S.cell 0 rfl rfl,S.BP 7 rfl (aC:=#[.int .i64 (d1:Int),.int .i64 0]) (by simp) rfl λ cQ S=>S.BP 7 rfl (aC:=#[.int .i64 (d1:Int),.int .i64 (d2:Int)]) (by simp) rfl λ ia S=>⟨_,S.cell 7 rfl rfl,_,S.cell 7 rfl rfl,?_⟩⟩;have cg:C1.k=C.k:=by
  rcases hA with ⟨_,_,_,rfl⟩ | ⟨_,_,_,_,rfl⟩ | ⟨_,_,_,_,rfl,_⟩ <;> rfl
 have gC:C1.AM=C.AM:=by
  rcases hA with ⟨_,_,_,rfl⟩ | ⟨_,_,_,_,rfl⟩ | ⟨_,_,_,_,rfl,_⟩ <;> rfl
 have S:=S.drop 1;have eg:(λ y=>if y=(id:Int) then some ((num:Int),(d1:Int),(d2:Int)) else W0 C1.k y)=W0 (C1.k++[(id,num,d1,d2)]):=(Agp C1.k (id,num,d1,d2)).symm;have S:ST w0 ia (It.rd fa (Bt fs) :: (BV bc ca cc dC dD bm (n+1) { C1 with k:=C1.k++[(id,num,d1,d2)] }++H)):=by
  rw [eg] at S;exact S.sub (.cons_cons _ (.cons_cons _ (.cons_cons _ (.cons_cons _ (.cons_cons _ (AkF (l1:=[_,_,_,_,_,_,_,_,_]) (l2:=ps.map EW)))))))
 exact⟨(d1,d2),fs,_,fa,ca,cc,dC,dD,n+1,.inr (.inr (.inr ⟨aB,uq,C1,hA,rfl⟩)),rfl,by simp only [gC];exact bh,by omega,S⟩
end
section
variable {w0 w:World}{H:List It}{b:Nat}{a:Option Addr}{c at_:Nat}{bad:Bool}{l:List UInt8}
theorem Afu{ca:Option Addr}{cn cc:Nat}(S:ST w0 w H)(n:Nat)(hn:H[n]?=some (EV b a l.length c at_ true)) :
  Calls Tryz.prog f.Ha #[.pointer (some ⟨b,0,none⟩),.slice ca cn cc] w (AG λ v w'=>v=.slice none 0 0/\w'=w):=by
 apply R.E4
 delta R.Ik R.D R.F R.G R.I R.Lb R.Li R.Ls R.O R.S R.Am;try dsimp only [R.Ps]
 exact⟨_,S.cell n hn rfl,Aq (λ _=>⟨rfl,rfl⟩) (λ h=>by cases h)⟩
theorem Ag8{ca:Option Addr}{cc:Nat}{cs:List BQ}(S:ST w0 w H)(n m:Nat)(hn:H[n]?=some (EV b a l.length c at_ false))(hm:H[m]?=some (It.rd a (l.map Ag)))(hc:l.length<=c)(hs:l.length<=140737488355328)
  (aj:Rd w ca (BM cs)) (lP:cs.length<=9223372036854775807) (hq:∀ c∈cs,c.1.size<=9223372036854775807) :
  Calls Tryz.prog f.Ha #[.pointer (some ⟨b,0,none⟩),.slice ca cs.length cc] w (AG λ v w'=>∃(ra:Option Addr) (rc:Nat) (ps:List BF) (at':Nat) (aX:Bool),v=.slice ra ps.length rc /\
   ST w0 w' (GI ra rc ps :: (H.set n (EV b a l.length c at' aX)++ps.map EW))/\((aX=false/\Bf l cs (at_:Int)=some (rws ps,at')/\ps≠[])\/(aX=true/\∀ x,Bf l cs (at_:Int)=some x->x.1=[]))):=by
 apply R.E4
 delta R.Ik R.D R.F R.G R.I R.Lb R.Li R.Ls R.O R.S R.Am;try dsimp only [R.Ps]
 refine⟨_,S.cell n hn rfl,Aq (λ h=>by cases h) (λ _=>?_)⟩;refine S.draw λ w1 B1 S=>⟨_,_,_,S.cell n hn rfl,_,S.cell n hn rfl,?_⟩;refine (OI (S.get m hm) hc hs (at_:Int) (aj.grown B1) lP hq).mono ?_;rintro _ w2 ⟨_,rfl,hx⟩;cases ho:Bf l cs (at_:Int) with
 | none =>
  rw [ho] at hx;obtain⟨e,he,rfl,B⟩:=hx;have S:=S.grown B;refine⟨_,_,_,_,_,rfl,Ah (λ _=>?_) (λ h=>absurd h he)⟩;have aB:=(AkX.1 hn).1
  try simp only [Av]
  refine S.BP n hn (i:=2) (aC:=#[.slice a l.length c,.int .i64 (at_:Int),.bool true]) (by simp) rfl λ w3 S=>?_;refine S.BP n (AkZ aB) (i:=1) (aC:=#[.slice a l.length c,.int .i64 0,.bool true]) (by simp) rfl λ w4 S=>?_;rw [Ala] at S;exact⟨none,0,[],0,true,rfl,(by
   have S:=S.nil ty.CG 1;rw [List.map_nil,List.append_nil];exact S),.inr ⟨rfl,λ x hx=>by cases hx⟩⟩
 | some x =>
  rw [ho] at hx;obtain⟨ra,rc,ps,rfl,dz,R⟩:=hx;have S:=S.join R;have S:ST w0 w2 (H++(GI ra rc ps :: ps.map EW)):=S.perm List.perm_append_comm;have aB:=(AkX.1 hn).1;have cm:(H++(GI ra rc ps :: ps.map EW))[n]?=some (EV b a l.length c at_ false):=by rw [List.getElem?_append_left aB];exact hn
  have kn:=(AkX.1 cm).1;refine⟨_,_,_,_,_,rfl,Ah (λ h=>absurd rfl h) (λ _=>?_)⟩
  try simp only [Av]
  refine S.BP n cm (i:=2) (aC:=#[.slice a l.length c,.int .i64 (at_:Int),.bool ((ps.length:Int)==0)]) (by simp) rfl λ w3 S=>?_;refine S.BP n (AkZ kn) (i:=1) (aC:=#[.slice a l.length c,.int .i64 (x.2:Int),.bool ((ps.length:Int)==0)]) (by simp) rfl λ w4 S=>?_;rw [Ala,List.set_append_left _ _ aB] at S;refine⟨ra,rc,ps,x.2,((ps.length:Int)==0),rfl,S.perm AmZ,?_⟩;cases hl:ps with
  | nil =>
   refine .inr ⟨rfl,λ y hy=>?_⟩;cases hy;rw [<- dz,hl];rfl
  | cons p qs =>
   refine .inl ⟨?_,?_,by simp⟩
   ·simp;omega
   ·rw [<- hl,dz]
def Yk(l:List UInt8)(at_:Nat):Option ((Nat × Nat × List BQ × List (List AB)) × Nat) :=
 (Oa l 0 Cw at_).bind λ x=>(Oa l 1 Cw x.2).bind λ y=>(Bj l (y.2:Int)).bind λ z=>(Bf l z.1 (z.2:Int)).bind λ u=>if u.1=[] then none else some ((x.1,y.1,z.1,u.1),u.2)
def AbW(w0:World)(H:List It)(bc bm N b:Nat)(a:Option Addr)(n c:Nat)(C:BX)(Q:Nat × Nat->List Jq->BX->Prop)(v:Value)(w':World):Prop :=
 ∃ at' aX g ca Z pc cc pa iR m,v=.func (.func g) #[] ca/\enters Tryz.prog g=true/\ST w0 w' (EV b a n c at' aX :: (Z++(BV bc iR cc pa pc bm m C++H)))/\(iR=none↔C.AM=[])/\m<=N /\
  ((aX=true\/at'≠n)->Q (220,0) [] C) /\
  (aX=false->at'=n->∀ wx,ST w0 wx (EV b a n c at' aX :: (Z++(BV bc iR cc pa pc bm m C++H)))->Calls Tryz.prog g ca wx (AG (VR w0 H bc bm (N+1) Q)))
def AhF(C:BX)(l:List UInt8)(d:Nat × Nat)(fs:List Jq)(C':BX):Prop :=
 (∃ cs,Bj l 1=some (cs,l.length)/\Aeg C cs d fs C')\/((∀ cs,Bj l 1≠some (cs,l.length))/\d=(220,0)/\fs=[]/\C'=C)
def AhG(C:BX)(l:List UInt8)(d:Nat × Nat)(fs:List Jq)(C':BX):Prop :=
 (∃ x,Yk l 1=some (x,l.length)/\O1 C x.1 x.2.1 x.2.2.1 x.2.2.2 d fs C')\/((∀ x,Yk l 1≠some (x,l.length))/\d=(220,0)/\fs=[]/\C'=C)
theorem WT{bc bm n N cc pc:Nat}{ca pa:Option Addr}{C:BX}(S:ST w0 w (EV b a l.length c 1 false :: It.rd a (l.map Ag) :: (BV bc ca cc pa pc bm n C++H)))(hc:l.length<=c)(hs:l.length<=140737488355328)(bh:ca=none↔C.AM=[])(hN:n<=N) :
  Calls Tryz.prog f.FM #[.pointer (some ⟨bc,0,none⟩),.pointer (some ⟨b,0,none⟩)] w (AG (AbW w0 H bc bm N b a l.length c C (AhF C l))):=by
 apply R.GU
 delta R.A R.Cs R.J R.N R.O R.P R.S R.Am;try dsimp only [R.Ps]
 refine S.An λ b3 w1 _ _ S=>?_;refine (Vo S 1 2 rfl rfl hc hs).mono ?_;rintro _ w2 ⟨_,rfl,sa,sc,cs,at',aX,rfl,S,hG,_⟩;refine⟨_,_,_,rfl,S.An λ b6 w3 _ _ S=>S.BP 0 rfl (aC:=#[.slice sa cs.length sc]) (by simp) rfl λ w4 S=>?_⟩;have S:ST w0 w4 (EV b a l.length c at' aX :: ([It.cells b6 #[.slice sa cs.length sc] ty.AX,CK sa sc cs,It.cells b3 #[.pointer (some ⟨bc,0,none⟩)] ty.A3,It.rd a (l.map Ag)]++(BV bc ca cc pa pc bm n C++H))):=S.pull 3 rfl;refine⟨at',aX,f.E3,#[.pointer (some ⟨b3,0,none⟩),.pointer (some ⟨b6,0,none⟩)],_,pc,cc,pa,ca,n,rfl,by kernel_rfl,S,bh,hN,λ h=>.inr ⟨λ aC e=>?_,rfl,rfl,rfl⟩,λ hb ha wx S=>?_⟩
 ·rcases hG with ⟨h1,_,h2⟩ | ⟨_,h2 | h2⟩
  ·rw [show ((1:Nat):Int)=1 from rfl,e] at h2;cases h2;rcases h with h | h
   ·rw [h1] at h;cases h
   ·exact h rfl
  ·cases h2
  ·rw [show ((1:Nat):Int)=1 from rfl,e] at h2;cases h2
 ·subst hb;subst ha;obtain⟨_,h2⟩:=hG.ok;have hR:=DG h2;have S:=S.drop 1;have S:ST w0 wx (It.cells b3 #[.pointer (some ⟨bc,0,none⟩)] ty.A3 :: It.cells b6 #[.slice sa cs.length sc] ty.AX :: CK sa sc cs :: (BV bc ca cc pa pc bm n C++H)) :=
   (S.pull 2 rfl).sub (.cons_cons _ (.cons_cons _ (.cons_cons _ (.cons _ (AmX _)))))
  refine (Ab8 (N:=N) S hR bh hN).mono ?_;rintro _ w' ⟨v,rfl,d,fs,C',fa,fe,fF,kC,kD,n2,h3,h4,h5,h6,h7⟩;exact⟨v,rfl,d,fs,C',fa,fe,fF,kC,kD,n2,.inl ⟨cs,h2,h3⟩,h4,h5,by omega,h7⟩
theorem Sf.some{α:Type}{aX:Bool}{o:Option α}{x y:α}(h:Sf false aX o x)(hy:o=Option.some y):aX=false/\x=y:=by
 rcases h with ⟨h1,_,h2⟩ | ⟨_,h2 | h2⟩
 ·rw [hy] at h2;exact⟨h1,(Ami h2).symm⟩
 ·cases h2
 ·rw [hy] at h2;cases h2
theorem W5{l:List UInt8}{at_:Nat}{x:Nat × Nat × List BQ × List (List AB)}{k:Nat}(h:Yk l at_=some (x,k)) :
  ∃ a1 a2 a3,Oa l 0 Cw at_=some (x.1,a1)/\Oa l 1 Cw a1=some (x.2.1,a2)/\Bj l (a2:Int)=some (x.2.2.1,a3)/\Bf l x.2.2.1 (a3:Int)=some (x.2.2.2,k)/\x.2.2.2≠[]:=by
 unfold Yk at h;obtain⟨y1,h1,h⟩:=AmR.1 h;obtain⟨y2,h2,h⟩:=AmR.1 h;obtain⟨y3,h3,h⟩:=AmR.1 h;obtain⟨y4,h4,h⟩:=AmR.1 h;split at h
 ·cases h
 ·rename_i aQ;cases h;exact⟨y1.2,y2.2,y3.2,h1,h2,h3,h4,aQ⟩
set_option maxHeartbeats 1000000 in
theorem W6(T:I5 w0){bc bm n N cc pc:Nat}{ca pa:Option Addr}{C:BX}(S:ST w0 w (EV b a l.length c 1 false :: It.rd a (l.map Ag) :: (BV bc ca cc pa pc bm n C++H)))(hc:l.length<=c)(hs:l.length<=140737488355328)(hC:Nc C)(bh:ca=none↔C.AM=[])(hN:n<=N)(kR:N<1000000) :
  Calls Tryz.prog f.FN #[.pointer (some ⟨bc,0,none⟩),.pointer (some ⟨b,0,none⟩)] w (AG (AbW w0 H bc bm N b a l.length c C (AhG C l))):=by
 apply R.GV
 delta R.A R.Ci R.Cs R.I R.J R.Ls R.N R.O R.P R.S R.Am;try dsimp only [R.Ps]
 refine S.An λ b3 w1 _ _ S=>?_;refine (OG S 1 2 rfl rfl hc hs 0 Cw (Ak8 _)).mono ?_;rintro _ w2 ⟨_,rfl,z1,aL,zr,rfl,S,G1,_⟩;refine⟨_,rfl,(OG S 1 2 rfl rfl hc hs 1 Cw (Ak8 _)).mono ?_⟩;rintro _ w3 ⟨_,rfl,z2,aZ,dp,rfl,S,G2,_⟩;refine⟨_,rfl,S.An λ b8 w4 _ _ S=>S.An λ b9 w5 _ _ S=>S.BP 1 rfl (aC:=#[.int .i64 (z1:Int)]) (by simp) rfl λ w6 S=>S.BP 0 rfl (aC:=#[.int .i64 (z2:Int)]) (by simp) rfl λ w7 S=>?_⟩;refine (Vo S 3 4 rfl rfl hc hs).mono ?_;rintro _ w8 ⟨_,rfl,sa,sc,cs,bH,pB,rfl,S,G3,_⟩;refine⟨_,_,_,rfl,S.An λ dk w9 _ _ S=>S.BP 0 rfl (aC:=#[.slice sa cs.length sc]) (by simp) rfl λ bV S=>⟨_,_,_,S.cell 0 rfl rfl,?_⟩⟩;have bZ:∀ x k,Yk l 1=some (x,k)->pB=false/\z1=x.1/\z2=x.2.1/\cs=x.2.2.1/\Bf l cs (bH:Int)=some (x.2.2.2,k)/\x.2.2.2≠[]:=λ x k e=>by
  obtain⟨a1,a2,a3,h1,h2,h3,h4,h5⟩:=W5 e;obtain⟨rfl,e1⟩:=G1.some h1;obtain⟨rfl,rfl⟩:=AmV e1;obtain⟨rfl,e2⟩:=G2.some h2;obtain⟨rfl,rfl⟩:=AmV e2;obtain⟨rfl,e3⟩:=G3.some h3;obtain⟨rfl,rfl⟩:=AmV e3;exact⟨rfl,rfl,rfl,rfl,h4,h5⟩
 cases pB with
 | true =>
  refine (Afu S 5 rfl).mono ?_;rintro _ aY ⟨_,rfl,rfl,rfl⟩;refine⟨_,_,_,rfl,S.An λ dE bK _ _ S=>S.BP 0 rfl (aC:=#[.slice none 0 0]) (by simp) rfl λ al S=>?_⟩;have S:ST w0 al (EV b a l.length c bH true :: ([It.cells dE #[.slice none 0 0] ty.Ce,It.cells dk #[.slice sa cs.length sc] ty.AX,CK sa sc cs,It.cells b9 #[.int .i64 (z2:Int)] ty.int64,It.cells b8 #[.int .i64 (z1:Int)] ty.int64,It.cells b3 #[.pointer (some ⟨bc,0,none⟩)] ty.A3,
   It.rd a (l.map Ag)]++(BV bc ca cc pa pc bm n C++H))):=S.pull 6 rfl
  exact⟨bH,true,f.Dp,_,_,pc,cc,pa,ca,n,rfl,by kernel_rfl,S,bh,hN,λ _=>.inr ⟨λ x e=>(by have:=(bZ x _ e).1;cases this),rfl,rfl,rfl⟩,λ h=>by cases h⟩
 | false =>
  obtain⟨dF,h3⟩:=G3.ok;subst dF;obtain⟨cI,h2⟩:=G2.ok;subst cI;obtain⟨_,h1⟩:=G1.ok;have hR:=DG h3;have bN:=A6 hR;have hq:∀ c∈cs,c.1.size<=9223372036854775807:=λ c hc=>by have:=(Dr hR hc).2.2.2;omega
  refine (Ag8 (cc:=sc) S 5 6 rfl rfl hc hs (S.rd 1 rfl) (by simp only at bN;omega) hq).mono ?_;rintro _ aY ⟨_,rfl,ra,rc,ps,tE,mC,rfl,S,G4⟩;refine⟨_,_,_,rfl,S.An λ dE bK _ _ S=>S.BP 0 rfl (aC:=#[.slice ra ps.length rc]) (by simp) rfl λ al S=>?_⟩;have S:=(((((((S.pull 3 rfl).pull 3 rfl).pull 4 rfl).pull 5 rfl).pull 6 rfl).pull 8 rfl).pull 8 rfl);let Z:List It:=[It.cells b3 #[.pointer (some ⟨bc,0,none⟩)] ty.A3,It.cells b8 #[.int .i64 (z1:Int)] ty.int64,It.cells b9 #[.int .i64 (z2:Int)] ty.int64,It.cells dk #[.slice sa cs.length sc] ty.AX,CK sa sc cs,
   It.cells dE #[.slice ra ps.length rc] ty.Ce,GI ra rc ps]
  have S:ST w0 al (EV b a l.length c tE mC :: It.rd a (l.map Ag) :: (Z++((BV bc ca cc pa pc bm n C++H)++ps.map EW))):=S;have S:ST w0 al (EV b a l.length c tE mC :: It.rd a (l.map Ag) :: (Z++(ps.map EW++(BV bc ca cc pa pc bm n C++H)))):=S.perm (List.Perm.append_left (_ :: _ :: Z) List.perm_append_comm);rw [<- Alc] at S;refine⟨tE,mC,f.Dp,_,It.rd a (l.map Ag) :: (Z++ps.map EW),pc,cc,pa,ca,n,rfl,by kernel_rfl,S,bh,hN,λ h=>.inr ⟨λ x e=>?_,rfl,rfl,rfl⟩,λ hb ha wx S=>?_⟩
  ·obtain⟨_,_,_,_,h4,h5⟩:=bZ x _ e;rcases G4 with ⟨g1,g2,_⟩ | ⟨_,g2⟩
   ·rw [h4] at g2;obtain⟨_,rfl⟩:=AmV (Ami g2);rcases h with h | h
    ·rw [g1] at h;cases h
    ·exact h rfl
   ·exact h5 (g2 _ h4)
  ·subst hb;subst ha;rcases G4 with ⟨_,g2,g3⟩ | ⟨g1,_⟩
   case inr=>cases g1
   have aK:=(Mn g2).1;have S:ST w0 wx (EV b a l.length c l.length false :: It.rd a (l.map Ag) :: ((Z++ps.map EW)++(BV bc ca cc pa pc bm n C++H))):=S;rw [Alc] at S;have S:ST w0 wx (Z++(BV bc ca cc pa pc bm n C++(ps.map EW++H))):=(S.drop 2).perm (List.Perm.append_left Z (List.perm_append_comm_assoc _ _ _));refine (Acm (N:=N) T S aK hq (HP h1).2.2 (HP h2).2.2 hC bh hN kR).mono ?_;rintro _ w' ⟨v,rfl,d,fs,C',fa,fe,fF,kC,kD,n2,e3,e4,e5,e6,e7⟩;refine⟨v,rfl,d,fs,C',fa,fe,fF,kC,kD,n2,.inl ⟨(z1,z2,cs,rws ps),?_,e3⟩,e4,e5,e6,e7⟩;have aQ:rws ps≠[]:=by
    intro h;apply g3;simpa [rws] using h
   unfold Yk;rw [h1,Amv,h2,Amv,h3,Amv,g2,Amv,if_neg aQ]
end
def Sel(s:ByteArray)(rf:FuncId):Prop :=
 ((Aw s 0).toNat=1/\rf=f.FM)\/((Aw s 0).toNat=2/\rf=f.FN)\/((Aw s 0).toNat=3/\rf=f.F8)
theorem Zm(p:Option Addr)(w:World):Calls Tryz.prog f.DC #[.pointer p] w (AG λ v w'=>v=.nilFunc/\w'=w):=by
 apply R.Gf
 skip
 exact⟨rfl,rfl⟩
theorem Ag2(b:Nat)(a:Option Addr)(n c:Nat):It.cells b #[.slice a n c,.int .i64 1,.bool false] ty.Lg=EV b a n c 1 false:=rfl
section
variable {w0 w:World}{H:List It}{bc bm n N cc pc:Nat}{ca pa:Option Addr}{C:BX}
set_option maxHeartbeats 1000000 in
theorem NK{Q:Nat × Nat->List Jq->BX->Prop}(S:ST w0 w (BV bc ca cc pa pc bm n C++H))(bh:ca=none↔C.AM=[])(hN:n<=N)(s:ByteArray)
  (px:s.size=0\/262144<s.size\/((Aw s 0).toNat≠1/\(Aw s 0).toNat≠2/\(Aw s 0).toNat≠3)->Q (220,0) [] C)
  (cA:∀ rf,Sel s rf->0<s.size->s.size<=262144->∀(H:List It) (b:Nat) (a:Option Addr) (c:Nat) (wx:World),(bl s).length<=c->ST w0 wx (EV b a (bl s).length c 1 false :: It.rd a ((bl s).map Ag) :: (BV bc ca cc pa pc bm n C++H)) ->
   Calls Tryz.prog rf #[.pointer (some ⟨bc,0,none⟩),.pointer (some ⟨b,0,none⟩)] wx (AG (AbW w0 H bc bm N b a (bl s).length c C Q))) :
  Calls Tryz.prog f.Dj #[.pointer (some ⟨bc,0,none⟩),.string s] w (AG (VR w0 H bc bm (N+1) Q)):=by
 apply R.He
 delta R.A R.Ab R.A7 R.Cb R.E R.F R.G R.H R.I R.J R.Li R.N R.P R.Rs R.S R.Am R.T R.X R.Zf;try dsimp only [R.Ps]
 have au:=Bb s;refine S.An λ b3 w1 _ _ S=>Aq (λ h=>by cases h) (λ _=>?_);have cB:∀ {wx:World},(s.size=0\/262144<s.size\/((Aw s 0).toNat≠1/\(Aw s 0).toNat≠2/\(Aw s 0).toNat≠3))->ST w0 wx (BV bc ca cc pa pc bm n C++H)->VR w0 H bc bm (N+1) Q (.tuple #[.agg #[.int .i64 220,.int .i64 0],.slice none 0 0]) wx:=λ h S =>
  ⟨(220,0),[],C,none,ca,cc,pa,pc,n,px h,rfl,bh,by omega,Eh S⟩
 refine Aq (λ h=>Ej (K:=VR w0 H bc bm (N+1) Q) S 220 λ w' S=>cB (.inl ?_) S) (λ h0=>?_)
 ·rw [A0,decide_eq_true_eq] at h;subst h;rfl
 have rS:0<s.size:=by
  rcases Nat.eq_zero_or_pos s.size with h | h
  ·have:AY s ⟨#[]⟩=true:=by
    rw [A0,decide_eq_true_eq];have hd:s.data.size=0:=h;cases s with
    | mk d => 
     have:d=#[]:=Array.eq_empty_of_size_eq_zero hd;rw [this]
   rw [this] at h0;cases h0
  ·exact h
 refine Aa (λ h=>Ej (K:=VR w0 H bc bm (N+1) Q) S 220 λ w' S=>cB (.inr (.inl (by omega))) S) (λ hle=>?_);have S:ST w0 w1 (BV bc ca cc pa pc bm n C++(It.cells b3 #[.int .i64 0,.int .i64 0] ty.AZ :: H)):=S.perm List.perm_middle.symm;refine CE CA s w1 λ b0 c0 cells e0 w2 bg B2 eP aj jg dA=>?_;have hr:Rd w2 (some ⟨b0,0,none⟩) ((bl s).map Ag):=by
  have:=(Rd.Ak eP).take s.size;rw [dA] at this;exact this
 have S:=Qp S B2 (⟨hr,λ k hk=>by cases hk;exact Nat.le_of_eq bg.symm⟩:XR w1 w2 _ _);refine⟨_,_,_,rfl,S.An λ tG bK _ _ S=>?_⟩;rw [Ag2,<- au] at S;refine⟨λ s' wx=>∃ rf fi,s'=[.func (.func rf) fi #[]]/\((Sel s rf/\fi=#[.pointer (some ⟨bc,0,none⟩)])\/(rf=f.DC/\fi=#[]/\((Aw s 0).toNat≠1/\(Aw s 0).toNat≠2/\(Aw s 0).toNat≠3))) /\
  ST w0 wx (EV tG (some ⟨b0,0,none⟩) (bl s).length c0 1 false :: It.rd (some ⟨b0,0,none⟩) ((bl s).map Ag) :: (BV bc ca cc pa pc bm n C++(It.cells b3 #[.int .i64 0,.int .i64 0] ty.AZ :: H))),⟨⟨by omega,by omega⟩,?_⟩,?_⟩
 ·refine Ao (λ h=>⟨_,_,rfl,.inl ⟨.inl ⟨by omega,rfl⟩,rfl⟩,S⟩) (λ h1=>Ao (λ h=>⟨_,_,rfl,.inl ⟨.inr (.inl ⟨by omega,rfl⟩),rfl⟩,S⟩) (λ h2=>Ao (λ h=>⟨_,_,rfl,.inl ⟨.inr (.inr ⟨by omega,rfl⟩),rfl⟩,S⟩) (λ h3=>⟨_,_,rfl,.inr ⟨rfl,rfl,by omega,by omega,by omega⟩,S⟩)))
 clear S;rintro rf fi _ al ⟨_,_,hs,bT,S⟩;cases hs;rcases bT with ⟨bT,rfl⟩ | ⟨rfl,rfl,aP⟩
 ·have mr:enters Tryz.prog rf=true:=by
   rcases bT with ⟨_,rfl⟩ | ⟨_,rfl⟩ | ⟨_,rfl⟩
   ·kernel_rfl
   ·kernel_rfl
   ·kernel_rfl
  rw [mr];refine (cA rf bT rS (by omega) _ tG _ c0 al (by omega) S).mono ?_;clear S;rintro _ an ⟨_,rfl,at',aX,g,fe,Z,kD,fF,kC,xg,m,rfl,uz,S,jH,hm,vB,cW⟩;refine .inl ⟨_,_,_,rfl,(Afv S 0 rfl).mono ?_⟩;clear S;rintro _ ah ⟨_,rfl,rfl,S⟩;refine⟨_,rfl,As (Aq (λ hw=>?_) (λ hw=>?_))⟩
  ·simp only [AkM,Bool.not_eq_true',decide_eq_true_eq] at hw;rw [uz];refine (cW hw.1 hw.2 ah S).mono ?_;clear S;rintro _ fB ⟨_,rfl,d,fs,C',fa,zz,cc4,pa4,pc4,n4,hQ,rfl,h5,h6,S⟩;obtain⟨d1,d2⟩:=d;refine⟨_,_,_,_,_,rfl,S.BP 5 rfl (aC:=#[.int .i64 (d1:Int),.int .i64 0]) (by simp) rfl λ fC S=>S.BP 5 rfl (aC:=#[.int .i64 (d1:Int),.int .i64 (d2:Int)]) (by simp) rfl λ fD S=>⟨_,S.cell 5 rfl rfl,_,S.cell 5 rfl rfl,?_⟩⟩;exact⟨(d1,d2),fs,C',fa,zz,cc4,pa4,pc4,n4,hQ,rfl,h5,h6,S.sub (.cons_cons _ (.cons_cons _ (.cons_cons _ (.cons_cons _ (.cons_cons _ (.cons _ (AmX _)))))))⟩
  ·have l8:aX=true\/at'≠(bl s).length:=by
    simp only [Bool.and_eq_false_iff,Bool.not_eq_false',decide_eq_false_iff_not] at hw;exact hw
   have S:=((S.drop 1).sub (AmU Z _)).perm AmZ;exact Ej (K:=VR w0 H bc bm (N+1) Q) S 220 λ w' S=>⟨(220,0),[],C,none,xg,fF,kC,kD,m,vB l8,rfl,jH,by omega,Eh S⟩
 ·rw [show enters Tryz.prog f.DC=true by kernel_rfl];refine (Zm _ al).mono ?_;rintro _ an ⟨_,rfl,rfl,rfl⟩;have S:=(S.drop 2).perm AmZ;exact .inr ⟨rfl,Ej (K:=VR w0 H bc bm (N+1) Q) S 220 λ w' S=>cB (.inr (.inr aP)) S⟩
end
def MP(cs:List BQ):List UInt8:=1 :: CF cs
def Ya(cs:List BQ):Value:=if Ap cs then .tuple #[.string (BC (MP cs)),.int .i64 0] else .tuple #[.string (BC []),.int .i64 50]
def HI(x y:Nat)(cs:List BQ)(rows:List (List AB)):List UInt8:=2 :: (Af x++Af y++CF cs++FX rows)
def Gd(x y:Int):Prop:=x<0\/4611686018427387904<x\/y<1\/4611686018427387904<y
instance (x y:Int):Decidable (Gd x y):=by unfold Gd;infer_instance
def JG(x y:Int)(cs:List BQ)(rows:List (List AB)):Int :=
 if Gd x y\/rows=[] then 2 else if Ef cs rows≠0 then Ef cs rows else if 262144<(HI x.toNat y.toNat cs rows).length then 130 else 0
def LD(x y:Int)(cs:List BQ)(rows:List (List AB)):Value :=
 if JG x y cs rows=0 then .tuple #[.string (BC (HI x.toNat y.toNat cs rows)),.int .i64 0] else .tuple #[.string (BC []),.int .i64 (JG x y cs rows)]
section
variable {w0 w:World}{H:List It}{a a2:Option Addr}{c c2:Nat}{cs:List BQ}{ps:List BF}
theorem Aeh(aj:Rd w a (BM cs))(hn:cs.length<=9223372036854775807)(hq:∀ c∈cs,c.1.size<=9223372036854775807) :
  Calls Tryz.prog f.Up #[.slice a cs.length c] w (AG λ v w'=>v=Ya cs/\Below w.heap.size w w'):=by
 apply R.Ld
 delta R.B R.AR R.H R.I R.J R.N R.Rt R.S R.T;try dsimp only [R.Ps]
 refine (ST.start w).An λ b2 w1 _ B1 S=>?_;have h1:Rd w1 (some ⟨b2,0,none⟩) (([1]:List UInt8).map Ag):=S.GD 0 rfl;refine (IV (l:=[1]) (c:=1) h1 (by simp) (aj.grown B1) hn hq).mono ?_;rintro _ w2 ⟨_,rfl,h2⟩;rcases h2 with ⟨hR,rfl,B2⟩ | ⟨hR,a',c',rfl,h2⟩
 ·refine⟨_,_,_,_,rfl,Ax CA (l:=[]) rfl (Rd.nil _ _) ⟨_,rfl,?_,Ac B1 B2⟩⟩;simp [Ya,hR]
 ·refine⟨_,_,_,_,rfl,Ax CA rfl h2.rd ⟨_,rfl,?_,Ac B1 h2.Ar⟩⟩;simp [Ya,hR,MP]
theorem Su(x y:Int)(w:World):Calls Tryz.prog f.QT #[.int .i64 x,.int .i64 y] w (AG λ v w'=>v=.bool (decide (y<=x/\x<=4611686018427387904))/\w'=w):=by
 apply R.Jw
 delta R.F R.G;try dsimp only [R.Ps]
 refine Aa (λ h=>⟨?_,rfl⟩) (λ h=>⟨?_,rfl⟩)
 ·congr 1;have:y<=x:=h;simp [this]
 ·congr 1;have:¬ y<=x:=h;simp [this]
theorem Um{l:List UInt8}(hl:Rd w a (l.map Ag)):Calls Tryz.prog f.SZ #[.slice a l.length c] w (AG λ v w'=>v=(if 262144<l.length then .tuple #[.string (BC []),.int .i64 130] else .tuple #[.string (BC l),.int .i64 0])/\w'=w):=by
 apply R.Kt
 delta R.F R.H R.I R.Rt R.S R.T;try dsimp only [R.Ps]
 refine Aa (λ h=>⟨?_,rfl⟩) (λ h=>Ax CA rfl hl ⟨_,rfl,?_,rfl⟩)
 ·rw [if_pos (by omega)];rfl
 ·rw [if_neg (by omega)]
theorem Ael(x y:Int)(aj:Rd w a (BM cs))(hn:cs.length<=9223372036854775807)(hq:∀ c∈cs,c.1.size<=9223372036854775807)(hr:Ba w a2 ps)(hm:ps.length<=9223372036854775807)(hv:∀ r∈rws ps,∀ v∈r,BL v) :
  Calls Tryz.prog f.Uq #[.int .i64 x,.int .i64 y,.slice a cs.length c,.slice a2 ps.length c2] w (AG λ v w'=>v=LD x y cs (rws ps)/\Below w.heap.size w w'):=by
 apply R.Le
 delta R.B R.AR R.Ix R.Cb R.Cs R.F R.H R.I R.J R.N R.S R.T R.U R.Wu R.Zsi;try dsimp only [R.Ps]
 have dp:(Gd x y\/rws ps=[])->∀ {wx:World},Below w.heap.size w wx->Value.tuple #[.string ⟨#[]⟩,.int .i64 2]=LD x y cs (rws ps)/\Below w.heap.size w wx:=λ h wx B=>by
  have e:JG x y cs (rws ps)=2:=if_pos h;refine⟨?_,B⟩;rw [LD,e,if_neg (by decide)];rfl
 refine (Su x 0 w).mono ?_;rintro _ w1 ⟨_,rfl,rfl,rfl⟩;refine⟨_,rfl,As (Aa (λ h1=>?_) (λ h1=>dp (.inl (by unfold Gd;omega)) (.refl _ _)))⟩;refine (Su y 1 w1).mono ?_;rintro _ w1 ⟨_,rfl,rfl,rfl⟩;refine⟨_,rfl,As (Aa (λ h2=>?_) (λ h2=>dp (.inl (by unfold Gd;omega)) (.refl _ _)))⟩;refine Ao (λ h=>dp (.inr ?_) (.refl _ _)) (λ h3=>?_)
 ·have:ps.length=0:=by omega
  rw [List.length_eq_zero_iff.1 this];rfl
 have aP:¬ (Gd x y\/rws ps=[]):=by
  rintro (h | h)
  ·unfold Gd at h;omega
  ·apply h3;have:ps.length=0:=by simpa [rws] using h
   omega
 refine (ST.start w1).An λ b9 w3 _ _ S=>?_;have dw:Rd w3 (some ⟨b9,0,none⟩) (([2]:List UInt8).map Ag):=S.GD 0 rfl;have ex:IntKind.u64.wrap x=((x.toNat:Nat):Int):=by rw [Aj (by omega) (by omega)];omega
 have ey:IntKind.u64.wrap y=((y.toNat:Nat):Int):=by rw [Aj (by omega) (by omega)];omega
 rw [ex,ey];have dx:=Al (n:=x.toNat) (by omega);have dy:=Al (n:=y.toNat) (by omega);refine (Bg (c:=1) [2] dw x.toNat (by omega) (by simp)).mono ?_;rintro _ w4 ⟨_,rfl,a4,c4,rfl,h4⟩;have S:=BJ S h4;refine⟨_,_,_,rfl,(Bg _ h4.rd y.toNat (by omega) (by simp only [Alb,Ald,Amp];omega)).mono ?_⟩;rintro _ w5 ⟨_,rfl,a5,c5,rfl,h5⟩;have S:=BJ S h5;obtain⟨l5,hl5⟩:∃ l5,l5=[2]++Af x.toNat++Af y.toNat:=⟨_,rfl⟩;rw [<- hl5] at h5 S ⊢;have vd:l5.length<=21:=by rw [hl5];simp only [Alb,Ald,Amp];omega
 refine⟨_,_,_,rfl,(IV (l:=l5) h5.rd (by omega) (aj.grown S.Ar) hn hq).mono ?_⟩;rintro _ w6 ⟨_,rfl,h6⟩;have iu:∀(e:Int),Ef cs (rws ps)=e->e≠0->∀ {wx:World},Below w1.heap.size w1 wx->Value.tuple #[.string ⟨#[]⟩,.int .i64 e]=LD x y cs (rws ps)/\Below w1.heap.size w1 wx:=λ e he h0 wx B=>by
  have e2:JG x y cs (rws ps)=e:=by rw [JG,if_neg aP,he,if_pos h0]
  refine⟨?_,B⟩;rw [LD,e2,if_neg h0];rfl
 rcases h6 with ⟨hR,rfl,B6⟩ | ⟨hR,a6,c6,rfl,h6⟩
 ·refine⟨_,_,_,_,rfl,λ s wx=>s=[.slice none 0 0,.int .i64 50]/\wx=w6,Ao (λ h=>by cases h) (λ _=>⟨rfl,rfl⟩),?_⟩;rintro _ _ _ _ wx ⟨hs,rfl⟩;cases hs;exact Ah (λ _=>iu 50 (by rw [Ef,if_pos hR]) (by decide) (Ac S.Ar B6)) (λ h=>by cases h)
 ·have S:=BJ S h6;have bD:=GJ hR;obtain⟨l6,hl6⟩:∃ l6,l6=l5++CF cs:=⟨_,rfl⟩;rw [<- hl6] at h6 S ⊢;have ve:l6.length<=10000:=by rw [hl6,Alb];omega
  refine⟨_,_,_,_,rfl,λ s wx=>Below w1.heap.size w1 wx/\((Ef cs (rws ps)≠0/\s=[.slice none 0 0,.int .i64 (Ef cs (rws ps))])\/(Bv cs (rws ps)/\∃ a c,s=[.slice a (l6++FX (rws ps)).length c,.int .i64 0]/\Rd wx a ((l6++FX (rws ps)).map Ag))),
   Ao (λ _=>?_) (λ h=>absurd rfl h),?_⟩
  ·refine (Qe (c:=c6) (c2:=c) (c3:=c2) h6.rd (by omega) (aj.grown S.Ar) hn hq (hr.grown S.Ar) hm hv).mono ?_;rintro _ w7 ⟨_,rfl,h7⟩;rcases h7 with ⟨_,rfl,h0,B7⟩ | ⟨aK,a7,c7,rfl,h7⟩
   ·exact⟨_,_,_,_,rfl,Ac S.Ar B7,.inl ⟨h0,rfl⟩⟩
   ·exact⟨_,_,_,_,rfl,Ac S.Ar h7.Ar,.inr ⟨aK,a7,c7,rfl,h7.rd⟩⟩
  ·rintro _ _ _ _ wx ⟨B,hs⟩;rcases hs with ⟨h0,hs⟩ | ⟨aK,a7,c7,hs,cw⟩
   ·cases hs;exact Ah (λ _=>iu _ rfl h0 B) (λ h=>absurd h h0)
   ·cases hs;have h0:Ef cs (rws ps)=0:=by
     by_cases h:Ef cs (rws ps)=0
     ·exact h
     ·exact absurd aK (Mc h)
    refine Ah (λ h=>absurd rfl h) (λ _=>(Um cw).mono ?_);rintro _ w9 ⟨_,rfl,rfl,rfl⟩;have e:l6++FX (rws ps)=HI x.toNat y.toNat cs (rws ps):=by rw [hl6,hl5,HI];simp
    rw [e];by_cases hb:262144<(HI x.toNat y.toNat cs (rws ps)).length
    ·rw [if_pos hb];refine⟨_,_,rfl,?_,B⟩;have e2:JG x y cs (rws ps)=130:=by rw [JG,if_neg aP,if_neg (by rw [h0];decide),if_pos hb]
     rw [LD,e2,if_neg (by decide)]
    ·rw [if_neg hb];refine⟨_,_,rfl,?_,B⟩;have e2:JG x y cs (rws ps)=0:=by rw [JG,if_neg aP,if_neg (by rw [h0];decide),if_neg hb]
     rw [LD,e2,if_pos rfl]
theorem AfV(w:World):Calls Tryz.prog f.ZO #[] w (AG λ v w'=>∃ bc bm,v=.pointer (some ⟨bc,0,none⟩)/\ST w w' (BV bc none 0 none 0 bm 0 ⟨[],[],[]⟩)):=by
 apply R.Pf
 delta R.J R.M R.N R.O R.P R.Rm;try dsimp only [R.Ps]
 refine (ST.start w).Aig (k:=ty.int64) ty.DE (λ bm w1 S hb=>⟨_,rfl,S.An λ b3 w2 _ _ S=>⟨b3,bm,rfl,?_⟩⟩) rfl;have S:ST w w2 (It.cells b3 #[.slice none 0 0,.slice none 0 0,.map (some bm)] ty.Fu :: It.Yt Tryz.prog ty.int64 bm 0 (W0 []) :: []):=by
  rw [Ah0];exact S
 have S:=(S.nil ty.KZ 2).nil ty.Dg 3;exact S.pull 2 rfl
end
section
variable {w0 w:World}{H:List It}{a a2 a3:Option Addr}{c c2 c3:Nat}{l:List UInt8}{cs:List BQ}{ps:List BF}
set_option maxHeartbeats 1000000 in
theorem RF(hl:Rd w a (l.map Ag))(hs:l.length+20000000<=140737488355328)(aj:Rd w a2 (BM cs))(hn:cs.length<=9223372036854775807)(hq:∀ c∈cs,c.1.size<=9223372036854775807)(hr:Ba w a3 ps)(hm:ps.length<=9223372036854775807)(hv:∀ r∈rws ps,∀ v∈r,BL v) :
  Calls Tryz.prog f.Wh #[.slice a l.length c,.slice a2 cs.length c2,.slice a3 ps.length c3] w (AG λ v w'=>WJ l cs (rws ps) w w' v):=by
 apply R.MV
 delta R.Ad R.AR R.Cb R.Cs R.E R.F R.H R.I R.Ks R.Li R.Ls R.Lt R.O R.EM R.S R.T R.U R.W R.Wu R.X;try dsimp only [R.Ps]
 refine (DV aj hn hq).mono ?_;rintro _ w1 ⟨_,rfl,rfl,rfl⟩;have bad:∀ {wx:World} (e:Int),Below w1.heap.size w1 wx->Ef cs (rws ps)=e->e≠0->WJ l cs (rws ps) w1 wx (.tuple #[.slice none 0 0,.int .i64 e]):=by
  rintro wx e B rfl h0;exact .inl ⟨Mc h0,rfl,h0,B⟩
 have S:=ST.start w1;refine⟨_,rfl,As (Aq (λ hR=>?_) (λ hR=>bad 50 S.Ar (by rw [Ef,if_pos hR]) (by decide)))⟩;have gZ:¬ Ap cs=false:=by rw [hR];decide
 refine Aa (λ h=>bad 51 S.Ar ?_ (by decide)) (λ hlen=>?_)
 ·have:1024<(rws ps).length:=by simp only [rws,List.length_map];omega
  rw [Ef,if_neg gZ,if_pos (.inl this)]
 have bJ:ps.length<=1024:=by omega
 have bN:=A6 hR;rw [Aj (by omega) (by omega)];have d1:=Al (n:=ps.length) (by omega);refine (Bh l hl ps.length (by omega) (by omega)).mono ?_;rintro _ w2 ⟨_,rfl,im,iQ,rfl,h2⟩;have S:=BJ S h2;have s3:(rws ps).length=ps.length:=by simp [rws]
 have jE:∀ {wx:World} (r:List AB),Below w1.heap.size w1 wx->r∈rws ps->C8 cs r=false->WJ l cs (rws ps) w1 wx (.tuple #[.slice none 0 0,.int .i64 51]):=λ r B h1 h2 =>
  bad 51 B (by rw [Ef,if_neg gZ,if_pos (.inr ⟨r,h1,h2⟩)]) (by decide)
 have gH:∀ i,i<=ps.length->(∀ r∈(rws ps).take i,C8 cs r=true)->(((rws ps).take i).flatMap J1).length<=17039360:=λ i hi hf=>by
  have eJ:Bv cs ((rws ps).take i):=⟨hR,by rw [Al7];omega,hf,λ r hr=>hv r (List.mem_of_mem_take hr)⟩;have:=Xt (i:=((rws ps).take i).length) eJ;rwa [Ama] at this
 refine⟨_,_,_,rfl,λ s wx=>∃(i:Nat) (out:List UInt8) (oa:Option Addr) (oc:Nat),s=[.slice oa out.length oc,.int .i64 (i:Int)]/\i<=ps.length/\out=l++Af ps.length++((rws ps).take i).flatMap J1/\(∀ r∈(rws ps).take i,C8 cs r=true)/\ST w1 wx [CP oa oc out],λ s _=>match s with
  | [_,.int _ i]=>ps.length-i.toNat
  | _=>0,⟨0,_,im,iQ,rfl,by omega,by simp,by simp,S⟩,?_⟩
 clear S h2;rintro oa _ oc _ w4 ⟨i,out,_,_,aA,hi,bR,cV,S⟩;cases aA;refine Aa (λ aB=>?_) (λ aI=>?_)
 ·have aD:i<ps.length:=by omega
  have nH:i<(rws ps).length:=by omega
  obtain⟨q,rfl,ld,lg⟩:=(hr.grown S.Ar).at aD;have ei:(rws ps)[i]=ps[i].2.2:=by simp [rws]
  have cE:out.length<=l.length+10+17039360:=by rw [bR];simp only [Alb];have:=gH i hi cV;omega
  refine⟨⟨by omega,by omega⟩,_,_,_,by rw [Ale];exact ld,?_⟩;have ag:ps[i].2.2∈rws ps:=by rw [<- ei];exact AlS nH
  refine (IL (aj.grown S.Ar) hn hq lg).mono ?_;rintro _ w6 ⟨_,rfl,rfl,B6⟩;have S:=S.grown B6;rw [hR,AmY];refine⟨_,rfl,As (Aq (λ hf=>?_) (λ hf=>jE _ S.Ar ag hf))⟩;obtain⟨row,aJ⟩:∃ row,row=ps[i].2.2:=⟨_,rfl⟩;rw [<- aJ] at hf ag ei;have kx:=I9 hf;have aK:=hv row ag;have yZ:=T9 (cs:=cs) (rows:=[row]) ⟨hR,by simp,λ r hr=>by rw [Al9.1 hr];exact hf,λ r hr=>by rw [Al9.1 hr];exact aK⟩ (Al9.2 rfl);refine⟨λ s wx=>∃(k:Nat) (iL:List UInt8) (oa:Option Addr) (oc:Nat),s=[.slice oa iL.length oc,.int .i64 (k:Int)]/\k<=cs.length/\iL=out++(row.take k).flatMap CC/\ST w1 wx [CP oa oc iL],λ s _=>match s with
   | [_,.int _ i]=>cs.length-i.toNat
   | _=>0,⟨0,out,_,_,rfl,by omega,by simp,S⟩,?_⟩
  clear S;rintro oa _ oc _ w7 ⟨k,iL,_,_,aA,hk,gk,S⟩;cases aA;refine Aa (λ ao=>?_) (λ br=>?_)
  ·have aO:k<row.length:=by omega
   obtain⟨q5,hq5,hq6,hrv7⟩:=(hr.grown S.Ar).at aD;cases hq5;rw [<- aJ] at hq6 hrv7;obtain⟨q2,iF,e0,e1,e2⟩:=Di hrv7 aO;rw [iF] at hq6;refine⟨⟨by omega,by omega⟩,_,_,_,by rw [Ale];exact hq6,?_⟩;refine⟨⟨by omega,by omega⟩,_,by rw [Ale];exact e0,_,by rw [Ale];exact e1,_,by rw [Ale];exact e2,?_⟩;refine (JY (a:=none) (c:=0) [] (Rd.nil _ _) row[k] (aK _ (AlS aO)) (by simp)).mono ?_;rintro _ bK ⟨_,rfl,ff⟩;obtain⟨xa,xc,rfl,n12⟩:=Jc (UE hf aO) ff;rw [Ame] at n12 ⊢;have S:=S.grown n12.Ar;have cY:((row.take k).flatMap CC).length+(CC row[k]).length<=(J1 row).length:=by
    rw [<- Alb,show (row.take k).flatMap CC++CC row[k]=(row.take (k+1)).flatMap CC by rw [Al6 aO,AmW];simp];have e:J1 row=(row.take (k+1)).flatMap CC++(row.drop (k+1)).flatMap CC:=by rw [<- AmW,List.take_append_drop];rfl
    rw [e,Alb];omega
   refine⟨_,_,_,_,rfl,Y5 S 0 rfl rfl n12.rd (by rw [gk,Alb];omega) λ a' c' an S=>⟨_,_,_,rfl,?_⟩⟩;rw [Ae (by omega)];refine⟨⟨k+1,iL++CC row[k],a',c',rfl,by omega,?_,S⟩,by simp only [Ale];omega⟩;rw [gk,Al6 aO,AmW];simp
  ·obtain rfl:k=cs.length:=by omega
   rw [Ae (by omega)];rw [AlK (by omega)] at gk;refine⟨⟨i+1,iL,_,_,rfl,by omega,?_,λ r gK=>?_,S⟩,by simp only [Ale];omega⟩
   ·rw [gk,bR,Al6 nH,AmW,ei];simp [J1]
   ·rw [Al6 nH] at gK;rcases Al8.1 gK with h | h
    ·exact cV r h
    ·rw [Al9.1 h,ei];exact hf
 ·obtain rfl:i=ps.length:=by omega
  rw [AlK (by omega)] at bR cV;have aK:Bv cs (rws ps):=⟨hR,by omega,cV,hv⟩;have e:out=l++FX (rws ps):=by rw [bR,FX,s3,Alc]
  subst e;exact .inr ⟨aK,_,_,rfl,Abq S 0 rfl⟩
theorem TF(aj:Rd w a (BM cs))(hn:cs.length<=9223372036854775807)(hq:∀ c∈cs,c.1.size<=9223372036854775807) :
  Calls Tryz.prog f.YU #[.slice a cs.length c] w (AG λ v w'=>v=Ya cs/\Below w.heap.size w w'):=by
 apply R.OB
 delta R.B R.AR R.F R.H R.I R.J R.N R.Rt R.S R.T;try dsimp only [R.Ps]
 refine (ST.start w).An λ b2 w1 _ B1 S=>?_;have h1:Rd w1 (some ⟨b2,0,none⟩) (([1]:List UInt8).map Ag):=S.GD 0 rfl;refine (JZ (l:=[1]) (c:=1) h1 (by simp) (aj.grown B1) hn hq).mono ?_;rintro _ w2 ⟨_,rfl,h2⟩;rcases h2 with ⟨hR,rfl,B2⟩ | ⟨hR,a',c',rfl,h2⟩
 ·refine⟨_,_,_,_,rfl,Ah (λ _=>⟨?_,Ac B1 B2⟩) (λ h=>by cases h)⟩;simp [Ya,hR];rfl
 ·refine⟨_,_,_,_,rfl,Ah (λ h=>absurd rfl h) (λ _=>Ax CA rfl h2.rd ⟨_,rfl,?_,Ac B1 h2.Ar⟩)⟩;simp [Ya,hR,MP]
theorem TG(x y:Int)(aj:Rd w a (BM cs))(hn:cs.length<=9223372036854775807)(hq:∀ c∈cs,c.1.size<=9223372036854775807)(hr:Ba w a2 ps)(hm:ps.length<=9223372036854775807)(hv:∀ r∈rws ps,∀ v∈r,BL v) :
  Calls Tryz.prog f.YV #[.int .i64 x,.int .i64 y,.slice a cs.length c,.slice a2 ps.length c2] w (AG λ v w'=>v=LD x y cs (rws ps)/\Below w.heap.size w w'):=by
 apply R.OC
 delta R.B R.AR R.Cs R.F R.H R.I R.J R.N R.Rt R.S R.T R.U R.Wu;try dsimp only [R.Ps]
 have dp:(Gd x y\/rws ps=[])->Value.tuple #[.string ⟨#[]⟩,.int .i64 2]=LD x y cs (rws ps)/\Below w.heap.size w w:=λ h=>by
  have e:JG x y cs (rws ps)=2:=if_pos h;refine⟨?_,.refl _ _⟩;rw [LD,e,if_neg (by decide)];rfl
 refine Aa (λ h=>dp (.inl (.inl h))) (λ h1=>Aa (λ h=>dp (.inl (.inr (.inl h)))) (λ h2=>Aa (λ h=>dp (.inl (.inr (.inr (.inl h))))) (λ h3=>Aa (λ h=>dp (.inl (.inr (.inr (.inr h))))) (λ h4=>Ao (λ h=>dp (.inr ?_)) (λ h5=>?_)))))
 ·have:ps.length=0:=by omega
  rw [List.length_eq_zero_iff.1 this];rfl
 have aP:¬ (Gd x y\/rws ps=[]):=by
  rintro (h | h)
  ·unfold Gd at h;omega
  ·apply h5;have:ps.length=0:=by simpa [rws] using h
   omega
 refine (ST.start w).An λ b9 w3 _ _ S=>?_;have dw:Rd w3 (some ⟨b9,0,none⟩) (([2]:List UInt8).map Ag):=S.GD 0 rfl;have ex:IntKind.u64.wrap x=((x.toNat:Nat):Int):=by rw [Aj (by omega) (by omega)];omega
 have ey:IntKind.u64.wrap y=((y.toNat:Nat):Int):=by rw [Aj (by omega) (by omega)];omega
 rw [ex,ey];have dx:=Al (n:=x.toNat) (by omega);have dy:=Al (n:=y.toNat) (by omega);refine (Bh (c:=1) [2] dw x.toNat (by omega) (by simp)).mono ?_;rintro _ w4 ⟨_,rfl,a4,c4,rfl,h4⟩;have S:=BJ S h4;refine⟨_,_,_,rfl,(Bh _ h4.rd y.toNat (by omega) (by simp only [Alb,Ald,Amp];omega)).mono ?_⟩;rintro _ w5 ⟨_,rfl,a5,c5,rfl,h5⟩;have S:=BJ S h5;obtain⟨l5,hl5⟩:∃ l5,l5=[2]++Af x.toNat++Af y.toNat:=⟨_,rfl⟩;rw [<- hl5] at h5 S ⊢;have vd:l5.length<=21:=by rw [hl5];simp only [Alb,Ald,Amp];omega
 refine⟨_,_,_,rfl,(JZ (l:=l5) h5.rd (by omega) (aj.grown S.Ar) hn hq).mono ?_⟩;rintro _ w6 ⟨_,rfl,h6⟩;have iu:∀(e:Int),Ef cs (rws ps)=e->e≠0->∀ {wx:World},Below w.heap.size w wx->Value.tuple #[.string ⟨#[]⟩,.int .i64 e]=LD x y cs (rws ps)/\Below w.heap.size w wx:=λ e he h0 wx B=>by
  have e2:JG x y cs (rws ps)=e:=by rw [JG,if_neg aP,he,if_pos h0]
  refine⟨?_,B⟩;rw [LD,e2,if_neg h0];rfl
 rcases h6 with ⟨hR,rfl,B6⟩ | ⟨hR,a6,c6,rfl,h6⟩
 ·exact⟨_,_,_,_,rfl,Ah (λ _=>iu 50 (by rw [Ef,if_pos hR]) (by decide) (Ac S.Ar B6)) (λ h=>by cases h)⟩
 have S:=BJ S h6;have bD:=GJ hR;obtain⟨l6,hl6⟩:∃ l6,l6=l5++CF cs:=⟨_,rfl⟩;rw [<- hl6] at h6 S ⊢;have ve:l6.length<=10000:=by rw [hl6,Alb];omega
 refine⟨_,_,_,_,rfl,Ah (λ h=>absurd rfl h) (λ _=>(RF (c:=c6) (c2:=c) (c3:=c2) h6.rd (by omega) (aj.grown S.Ar) hn hq (hr.grown S.Ar) hm hv).mono ?_)⟩;rintro _ w7 ⟨_,rfl,h7⟩;rcases h7 with ⟨_,rfl,h0,B7⟩ | ⟨aK,a7,c7,rfl,h7⟩
 ·exact⟨_,_,_,_,rfl,Ah (λ _=>iu _ rfl h0 (Ac S.Ar B7)) (λ h=>absurd h h0)⟩
 have h0:Ef cs (rws ps)=0:=by
  by_cases h:Ef cs (rws ps)=0
  ·exact h
  ·exact absurd aK (Mc h)
 have e:l6++FX (rws ps)=HI x.toNat y.toNat cs (rws ps):=by rw [hl6,hl5,HI];simp
 rw [e] at h7 ⊢;refine⟨_,_,_,_,rfl,Ah (λ h=>absurd rfl h) (λ _=>Aa (λ hb=>⟨?_,Ac S.Ar h7.Ar⟩) (λ hb=>Ax CA rfl h7.rd ⟨_,rfl,?_,Ac S.Ar h7.Ar⟩))⟩
 ·have e2:JG x y cs (rws ps)=130:=by rw [JG,if_neg aP,if_neg (by rw [h0];decide),if_pos (by omega)]
  rw [LD,e2,if_neg (by decide)];rfl
 ·have e2:JG x y cs (rws ps)=0:=by rw [JG,if_neg aP,if_neg (by rw [h0];decide),if_neg (by omega)]
  rw [LD,e2,if_pos rfl]
end
theorem U9(ps:List H8):∀ u∈Bp ps,u.oneCell'=true:=by
 intro u hu;obtain⟨v,_,hv⟩:=List.mem_flatMap.1 hu;simp only [Rr,AkV,Amf,or_false] at hv;rcases hv with rfl | rfl <;> rfl
theorem Aee{w:World}{a:Option Addr}{c:Nat}{vs:List H8}(h:Rd w a (Bp vs))(hl:vs.length<=100000):Calls Tryz.prog f.Gm #[.slice a vs.length c] w (AG λ v w'=>∃ a' c',v=.slice a' vs.length c'/\ST w w' [Dl a' c' vs]):=by
 apply R.E9
 delta R.F R.J R.Ks R.N R.O R.S;try dsimp only [R.Ps]
 cases a with
 | none =>
  have:=Yz (k:=1) (λ _=>rfl) h;subst this;exact CN ⟨none,0,rfl,(ST.start w).nil _ _⟩
 | some q =>
  refine AV ((ST.start w).An λ b2 w1 _ B1 S=>?_);have S:=S.I2 0 rfl (.refl _ _) (It.row ty.KZ 2 (some ⟨b2,0,none⟩) 0 0 []) (RV (S.CJ 0 rfl)) (λ k hk=>.inl hk);refine S.app 0 rfl SM rfl (by omega) (by omega) (h.grown B1) (mm:=vs.length) (EH vs) (U9 vs) (by omega) λ a' c' w' S=>⟨_,_,_,rfl,a',c',by rw [Alg],?_⟩;simp only [Alg,Ame] at S;exact S
section
variable {w0 w:World}{H:List It}{bc bm n N cc pc:Nat}{ca pa:Option Addr}{C:BX}
theorem Ug(S:ST w0 w (BV bc ca cc pa pc bm n C++H))(hC:C.parts.length<=256):Calls Tryz.prog f.Kr #[.pointer (some ⟨bc,0,none⟩)] w (AG λ v w'=>∃ a' c',v=.slice a' C.parts.length c'/\ST w w' [Dl a' c' C.parts]):=by
 apply R.Hf
 delta R.Cs R.F R.Ls R.O R.S;try dsimp only [R.Ps]
 refine AV ⟨_,_,_,S.cell 0 rfl rfl,(Aee (S.rd 2 rfl) (by omega)).mono ?_⟩;rintro _ w1 ⟨_,rfl,a',c',rfl,T⟩;exact⟨_,_,_,rfl,a',c',rfl,T⟩
theorem XU(S:ST w0 w (BV bc ca cc pa pc bm n C++H))(bh:ca=none↔C.AM=[])(hN:n<=N)(s:ByteArray)(h1:(Aw s 0).toNat=1)(h0:0<s.size)(hle:s.size<=262144) :
  Calls Tryz.prog f.Dj #[.pointer (some ⟨bc,0,none⟩),.string s] w (AG (VR w0 H bc bm (N+1) (AhF C (bl s)))):=by
 have au:=Bb s;refine NK S bh hN s (λ h=>by omega) (λ rf bT _ _ H' b a c wx hc S=>?_);rcases bT with ⟨_,rfl⟩ | ⟨h,_⟩ | ⟨h,_⟩
 ·exact WT S hc (by omega) bh hN
 ·omega
 ·omega
theorem Pb(T:I5 w0)(S:ST w0 w (BV bc ca cc pa pc bm n C++H))(hC:Nc C)(bh:ca=none↔C.AM=[])(hN:n<=N)(kR:N<1000000)(s:ByteArray)(h1:(Aw s 0).toNat=2)(h0:0<s.size)(hle:s.size<=262144) :
  Calls Tryz.prog f.Dj #[.pointer (some ⟨bc,0,none⟩),.string s] w (AG (VR w0 H bc bm (N+1) (AhG C (bl s)))):=by
 have au:=Bb s;refine NK S bh hN s (λ h=>by omega) (λ rf bT _ _ H' b a c wx hc S=>?_);rcases bT with ⟨h,_⟩ | ⟨_,rfl⟩ | ⟨h,_⟩
 ·omega
 ·exact W6 T S hc (by omega) hC bh hN kR
 ·omega
end
theorem WS(w:World):Calls Tryz.prog f.Yq #[] w (AG λ v w'=>∃ b,v=.slice (some ⟨b,0,none⟩) 1 1/\ST w w' [It.cells b #[.string ⟨#[97]⟩,.int .i64 1,.bool false] ty.Dg]):=by
 apply R.NX
 delta R.G R.I R.J R.N R.S R.T;try dsimp only [R.Ps]
 exact (ST.start w).An λ b w1 _ _ S=>⟨b,rfl,S⟩
theorem AgT(x:Int)(w:World):Calls Tryz.prog f.AeY #[.int .i64 x] w (AG λ v w'=>∃ b,v=.slice (some ⟨b,0,none⟩) 1 1/\ST w w' [It.cells b #[.int .i64 1,.int .i64 x,.string ⟨#[]⟩] ty.AW]):=by
 apply R.Tl
 delta R.I R.J R.N R.S R.T;try dsimp only [R.Ps]
 exact (ST.start w).An λ b w1 _ _ S=>⟨b,rfl,S⟩
def OX:List BQ:=[(⟨#[97]⟩,1,false)]
def F9:List (List AB):=[[(1,5,⟨#[]⟩)],[(1,6,⟨#[]⟩)]]
theorem OE:Ap OX=true:=by kernel_rfl
theorem ok0:Bv OX F9 where
 right:=OE
 len:=by decide
 fits:=λ r hr=>by
  simp only [F9,AkV,Amf,or_false] at hr;rcases hr with rfl | rfl <;> kernel_rfl
 ok:=λ r hr v hv=>by
  simp only [F9,AkV,Amf,or_false] at hr;rcases hr with rfl | rfl
  ·rw [Al9.1 hv];exact⟨by decide,by decide⟩
  ·rw [Al9.1 hv];exact⟨by decide,by decide⟩
theorem AkC:Ef OX F9=0:=by
 by_cases h:Ef OX F9=0
 ·exact h
 ·exact absurd ok0 (Mc h)
theorem Aj1:(HI 7 1 OX F9).length<=40000:=by
 have h1:=Al (n:=7) (by omega);have h2:=Al (n:=1) (by omega);have h3:=GJ OE;have h4:=Al (n:=2) (by omega);have h5:=T9 ok0 (r:=[(1,5,⟨#[]⟩)]) (by simp [F9]);have h6:=T9 ok0 (r:=[(1,6,⟨#[]⟩)]) (by simp [F9]);have e:FX F9=Af 2++(J1 [(1,5,⟨#[]⟩)]++(J1 [(1,6,⟨#[]⟩)]++[])):=rfl;simp only [HI,Ald,Alb,e,Amp];omega
theorem Aj0:JG 7 1 OX F9=0:=by
 have h1:¬ (Gd 7 1\/F9=[]):=by
  rintro (h | h)
  ·unfold Gd at h;omega
  ·cases h
 have h2:=Aj1;rw [JG,if_neg h1,if_neg (by rw [AkC];decide),if_neg];show ¬ 262144<(HI 7 1 OX F9).length;omega
theorem Agc{cs:List BQ}(hR:Ap cs=true):Bj (MP cs) 1=some (cs,(MP cs).length):=by
 have:=J6 hR (l:=MP cs) (at_:=1) (r:=[]) (by simp [MP]);rw [show ((1:Nat):Int)=1 from rfl] at this;rw [this];simp [MP];omega
theorem Agy{x y:Nat}{cs:List BQ}{rows:List (List AB)}(hx:x<=Cw)(jl:1<=y)(hy:y<=Cw)(hs:Bv cs rows)(aQ:rows≠[]):Yk (HI x y cs rows) 1=some ((x,y,cs,rows),(HI x y cs rows).length):=by
 have gx:x<18446744073709551616:=by unfold Cw at hx;omega
 have gy:y<18446744073709551616:=by unfold Cw at hy;omega
 have h1:=Cd (l:=HI x y cs rows) (at_:=1) (r:=Af y++(CF cs++FX rows)) gx (by simp [HI]);have d1:(HI x y cs rows).drop (1+(Af x).length)=Af y++(CF cs++FX rows):=by
  rw [<- List.drop_drop];simp [HI]
 have h2:=Cd gy d1;have d2:(HI x y cs rows).drop (1+(Af x).length+(Af y).length)=CF cs++FX rows:=Pq d1;have h3:=J6 hs.right d2;have d3:(HI x y cs rows).drop (1+(Af x).length+(Af y).length+(CF cs).length)=FX rows++[]:=by rw [Pq d2,List.append_nil]
 have h4:=Wx hs d3;unfold Yk Oa;rw [h1,Amv,if_pos ⟨by simp only;omega,hx⟩,Amv];simp only;rw [h2,Amv,if_pos ⟨jl,hy⟩,Amv];simp only;rw [h3,Amv];simp only;rw [h4,Amv,if_neg aQ];simp only [HI,Ald,Alb,Option.some.injEq,Prod.mk.injEq,true_and];omega
theorem Ah4(x y:Nat)(cs:List BQ)(rows:List (List AB)):0<(HI x y cs rows).length:=by simp [HI]
theorem Af6{C:BX}{cs:List BQ}(hR:Ap cs=true){d:Nat × Nat}{fs:List Jq}{C':BX}(h:AhF C (MP cs) d fs C'):Aeg C cs d fs C':=by
 have hb:=Agc hR;rcases h with ⟨aC,h1,h2⟩ | ⟨h1,_⟩
 ·rw [hb] at h1;obtain⟨rfl,_⟩:=AmV (Ami h1);exact h2
 ·exact absurd hb (h1 cs)
theorem ZS{C:BX}{x y:Nat}{cs:List BQ}{rows:List (List AB)}(hx:x<=Cw)(jl:1<=y)(hy:y<=Cw)(hs:Bv cs rows)(aQ:rows≠[]){d:Nat × Nat}{fs:List Jq}{C':BX}(h:AhG C (HI x y cs rows) d fs C'):O1 C x y cs rows d fs C':=by
 have hb:=Agy hx jl hy hs aQ;rcases h with ⟨z,h1,h2⟩ | ⟨h1,_⟩
 ·rw [hb] at h1;obtain⟨rfl,_⟩:=AmV (Ami h1);exact h2
 ·exact absurd hb (h1 _)
theorem AeT{d:Nat × Nat}{fs:List Jq}{C':BX}(h:O1 ⟨OX,[],[]⟩ 7 1 OX F9 d fs C'):∃ nm dt,d=(0,2)/\fs=[(nm,dt)]/\nm.size=64/\C'=⟨OX,[(nm,2)],[(7,1,0,2)]⟩:=by
 rcases h with ⟨t,ht,_⟩ | ⟨t,ht,_⟩ | ⟨_,h,_⟩ | ⟨_,_,C1,hA,rfl⟩
 ·cases ht
 ·cases ht
 ·cases h
 ·rcases hA with ⟨h,_⟩ | ⟨_,h,_⟩ | ⟨_,_,b,hb,rfl,rfl,rfl⟩
  ·exact absurd rfl h
  ·cases h
  ·exact⟨_,_,rfl,rfl,N9 _,rfl⟩
theorem AeS{nm:ByteArray}{d:Nat × Nat}{fs:List Jq}{C':BX}(h:O1 ⟨OX,[(nm,2)],[(7,1,0,2)]⟩ 7 1 OX F9 d fs C'):d=(0,2)/\fs=[]/\C'=⟨OX,[(nm,2)],[(7,1,0,2)]⟩:=by
 have hm:mapOf [(7,1,0,2)] 7=some (1,0,2):=by decide
 rcases h with ⟨t,ht,_,rfl,rfl,rfl⟩ | ⟨t,ht,h,_⟩ | ⟨h,_⟩ | ⟨h,_⟩
 ·have ht:mapOf [(7,1,0,2)] 7=some t:=ht;rw [hm] at ht;cases ht;exact⟨rfl,rfl,rfl⟩
 ·have ht:mapOf [(7,1,0,2)] 7=some t:=ht;rw [hm] at ht;cases ht;exact absurd h (by decide)
 ·have h:mapOf [(7,1,0,2)] 7=none:=h;rw [hm] at h;cases h
 ·have:=h _ hm;exact absurd this (by decide)
set_option maxHeartbeats 2000000 in
theorem Aha{w:World}(T:I5 w):Calls Tryz.prog f.Aak #[] w (AG λ v w'=>v=.bool true/\Below w.heap.size w w'):=by
 apply R.PF
 delta R.A R.Ab R.A7 R.Ix R.Cp R.Cs R.F R.G R.I R.J R.Li R.N R.P R.S R.Am R.T;try dsimp only [R.Ps]
 refine (AfV w).mono ?_;rintro _ w1 ⟨_,rfl,bc,bm,rfl,S⟩;refine⟨_,rfl,(WS w1).mono ?_⟩;rintro _ w2 ⟨_,rfl,q1,rfl,P⟩;have S:=S.join P;have yX:∀ c∈OX,c.1.size<=9223372036854775807:=λ c hc=>by rw [Al9.1 hc];decide
 refine⟨_,_,_,rfl,(Aeh (c:=1) (cs:=OX) (S.GD 0 rfl) (by decide) yX).mono ?_⟩;rintro _ w3 ⟨_,rfl,rfl,B3⟩;have S:=S.grown B3;have e1:Ya OX=.tuple #[.string (BC (MP OX)),.int .i64 0]:=if_pos OE;rw [e1];refine⟨_,_,rfl,(WS w3).mono ?_⟩;rintro _ w4 ⟨_,rfl,q2,rfl,P⟩;have S:=S.join P;refine⟨_,_,_,rfl,(AgT 5 w4).mono ?_⟩;rintro _ w5 ⟨_,rfl,q3,rfl,P⟩;have S:=S.join P;refine⟨_,_,_,rfl,(AgT 6 w5).mono ?_⟩;rintro _ w6 ⟨_,rfl,q4,rfl,P⟩;have S:=S.join P;refine⟨_,_,_,rfl,S.An λ iq w7 _ _ S=>?_⟩;have hr:Ba w7 (some ⟨iq,0,none⟩) [(some ⟨q3,0,none⟩,1,[(1,5,⟨#[]⟩)]),(some ⟨q4,0,none⟩,1,[(1,6,⟨#[]⟩)])]:=⟨S.GD 0 rfl,λ p hp=>by
  simp only [AkV,Amf,or_false] at hp;rcases hp with rfl | rfl
  ·exact S.GD 2 rfl
  ·exact S.GD 1 rfl⟩
 refine (Ael (c:=1) (c2:=2) (cs:=OX) 7 1 (S.GD 3 rfl) (by decide) yX hr (by simp) ok0.ok).mono ?_;rintro _ w8 ⟨_,rfl,rfl,B8⟩;have S:=S.grown B8;obtain⟨l2,ax⟩:∃ l2,l2=HI 7 1 OX F9:=⟨_,rfl⟩;have e2:LD 7 1 OX (rws [((some ⟨q3,0,none⟩:Option Addr),1,[((1:Int),(5:Int),(⟨#[]⟩:ByteArray))]),(some ⟨q4,0,none⟩,1,[(1,6,⟨#[]⟩)])])=.tuple #[.string (BC l2),.int .i64 0]:=by
  rw [ax];exact if_pos Aj0
 rw [e2];have hlen:=Aj1;have iE:=Ah4 7 1 OX F9;rw [<- ax] at hlen iE;have S:ST w w8 (BV bc none 0 none 0 bm 0 ⟨[],[],[]⟩++[]):=S.drop 5;have bN:(MP OX).length<=601:=by have:=GJ OE;simp only [MP,Ald];omega
 have hcp:0<(MP OX).length:=by simp [MP]
 refine⟨_,_,rfl,(XU (N:=0) S ⟨λ _=>rfl,λ _=>rfl⟩ (Ak8 _) (BC (MP OX)) (by rw [ME,BN];rfl) (by rw [A1];exact hcp) (by rw [A1];omega)).mono ?_⟩;clear S;rintro _ w9 ⟨_,rfl,d,fs,C1,fa,ca,cc,pa,pc,n1,hQ,rfl,bh,hn,S⟩;rw [BN] at hQ;rcases Af6 OE hQ with ⟨h,_⟩ | ⟨_,rfl,rfl,rfl⟩
 ·exact absurd rfl h
 refine⟨_,_,_,_,_,rfl,S.An λ rC bV _ _ S=>S.BP 0 rfl (aC:=#[.int .i64 0,.int .i64 0]) (by simp) rfl λ aY S=>S.BP 0 rfl (aC:=#[.int .i64 0,.int .i64 0]) (by simp) rfl λ bK S=>?_⟩;have S:ST w bK ([It.cells rC #[.int .i64 0,.int .i64 0] ty.AZ,It.rd fa (Bt [])]++(BV bc ca cc pa pc bm n1 ⟨OX,[],[]⟩++[])):=S;have S:=ST.mid (BV bc ca cc pa pc bm n1 ⟨OX,[],[]⟩) S;have hC0:Nc ⟨OX,[],[]⟩:=⟨by decide,by simp,by simp,.inr OE⟩;have qE:(Aw (BC l2) 0).toNat=2:=by rw [ME,BN,ax];rfl
 refine (Pb (N:=1) T S hC0 bh hn (by decide) (BC l2) qE (by rw [A1];exact iE) (by rw [A1];omega)).mono ?_;clear S;rintro _ al ⟨_,rfl,d,fs,C2,oS,fe,fF,kC,kD,n2,hQ,rfl,jH,gI,S⟩;rw [BN,ax] at hQ;obtain⟨nm,dt,rfl,rfl,bz,rfl⟩:=AeT (ZS (by decide) (by decide) (by decide) ok0 (by simp [F9]) hQ);refine⟨_,_,_,_,_,rfl,S.An λ rD an _ _ S=>S.BP 0 rfl (aC:=#[.int .i64 0,.int .i64 0]) (by simp) rfl λ ah S=>S.BP 0 rfl (aC:=#[.int .i64 0,.int .i64 2]) (by simp) rfl λ cp S=>?_⟩;have S:ST w cp ([It.cells rD #[.int .i64 0,.int .i64 2] ty.AZ,It.rd oS (Bt [(nm,dt)])]++(BV bc fe fF kC kD bm n2 ⟨OX,[(nm,2)],[(7,1,0,2)]⟩++([It.cells rC #[.int .i64 0,.int .i64 0] ty.AZ,It.rd fa (Bt [])]++[]))):=S;have S:=ST.mid (BV bc fe fF kC kD bm n2 ⟨OX,[(nm,2)],[(7,1,0,2)]⟩) S;have xu:Nc ⟨OX,[(nm,2)],[(7,1,0,2)]⟩:=⟨by simp,λ p hp=>by rw [Al9.1 hp];exact⟨bz,by simp,by simp⟩,λ c hc=>by rw [Al9.1 hc];exact⟨by decide,⟨by decide,by decide⟩,by decide,by decide⟩,.inr OE⟩
 refine (Pb (N:=2) T S xu jH gI (by decide) (BC l2) qE (by rw [A1];exact iE) (by rw [A1];omega)).mono ?_;clear S;rintro _ cP ⟨_,rfl,d,fs,C3,tk,xg,cc3,pa3,pc3,n3,hQ,rfl,hca3,yO,S⟩;rw [BN,ax] at hQ;obtain⟨rfl,rfl,rfl⟩:=AeS (ZS (by decide) (by decide) (by decide) ok0 (by simp [F9]) hQ);refine⟨_,_,_,_,_,rfl,S.An λ pA eZ _ _ S=>S.BP 0 rfl (aC:=#[.int .i64 0,.int .i64 0]) (by simp) rfl λ fB S=>S.BP 0 rfl (aC:=#[.int .i64 0,.int .i64 2]) (by simp) rfl λ fC S=>?_⟩;refine Ao (λ _=>?_) (λ h=>absurd rfl h);refine Ao (λ _=>?_) (λ h=>absurd rfl h);refine⟨_,S.cell 8 rfl rfl,_,S.cell 8 rfl rfl,Aq (λ _=>?_) (λ h=>absurd h (by decide))⟩;refine⟨_,S.cell 6 rfl rfl,_,S.cell 6 rfl rfl,Aq (λ _=>?_) (λ h=>absurd h (by decide))⟩;refine Ao (λ _=>?_) (λ h=>absurd rfl h);refine⟨_,S.cell 0 rfl rfl,_,S.cell 0 rfl rfl,_,S.cell 6 rfl rfl,_,S.cell 6 rfl rfl,Aq (λ _=>?_) (λ h=>absurd h (by decide))⟩;refine Ao (λ _=>?_) (λ h=>absurd rfl h)
 have S:=S.drop 2;refine (Ug (H:=_) S xu.np).mono ?_;rintro _ fD ⟨_,rfl,a',c',rfl,P⟩;exact⟨_,_,_,rfl,rfl,Ac S.Ar P.Ar⟩
def Acu(ns:List ByteArray)(s:ByteArray):List UInt8:=3 :: (Af ns.length++(ns++[s]).flatMap BA)
def Rl(ns:List ByteArray)(s:ByteArray):Prop:=ns.length<2\/256<ns.length\/262144<s.size\/∃ x∈ns,x.size≠64
instance (ns:List ByteArray) (s:ByteArray):Decidable (Rl ns s):=by unfold Rl;infer_instance
def To(ns:List ByteArray)(s:ByteArray):Int:=if Rl ns s then 2 else if 262144<(Acu ns s).length then 130 else 0
def Wc(ns:List ByteArray)(s:ByteArray):Value:=if To ns s=0 then .tuple #[.string (BC (Acu ns s)),.int .i64 0] else .tuple #[.string (BC []),.int .i64 (To ns s)]
theorem Aho{s:ByteArray}(h:s.size<=262144):(BA s).length<=262154:=by
 have:=Al (n:=s.size) (by omega);simp only [BA,Alb,Bb];omega
theorem Xz{ns:List ByteArray}(h:∀ s∈ns,s.size<=262144):(ns.flatMap BA).length<=ns.length*262154:=by
 induction ns with
 | nil=>simp
 | cons s ns ih =>
  have h1:=Aho (h s (by simp));have h2:=ih λ x hx=>h x (by simp [hx]);rw [List.flatMap_cons,Alb,Ald];omega
theorem Qq{w:World}{a:Option Addr}{ns:List ByteArray}(h:Rd w a (ns.map Value.string)){i:Nat}(hi:i<ns.length):∃ p,a=some p/\w.cell? (p.add (i*1))=some (.string ns[i]):=by
 obtain⟨p,hp,h0⟩:=h i _ (by rw [List.getElem?_map,List.getElem?_eq_getElem hi];rfl);exact⟨p,hp,by rw [Nat.mul_one];exact h0⟩
theorem VD:M9 Tryz.prog ty.Co=some (ty.string,1,16,.string ⟨#[]⟩):=by kernel_rfl
section
variable {w0 w:World}{H:List It}{a:Option Addr}{c:Nat}{ns:List ByteArray}
theorem Zv(s:ByteArray)(w:World):Calls Tryz.prog f.EO #[.string s] w (AG λ v w'=>v=.bool (decide (s.size≠64))/\w'=w):=by
 apply R.Jv
 delta R.G;try dsimp only [R.Ps]
 refine⟨?_,rfl⟩;congr 1;by_cases h:s.size=64
 ·simp [h]
 ·have:¬ (s.size:Int)=64:=by omega
  simp [h,this]
theorem Zr(h:Rd w a (ns.map Value.string))(hn:ns.length<=9223372036854775807):Calls Tryz.prog f.DX #[.slice a ns.length c,.func (.func f.EO) #[] #[]] w (AG λ v w'=>∃ z:Int,v=.int .i64 z/\w'=w/\(0<=z↔∃ x∈ns,x.size≠64)):=by
 apply R.CW
 delta R.Ad R.F R.G R.I R.Lt R.Qi R.T R.W R.X;try dsimp only [R.Ps]
 refine⟨λ s wx=>∃ i:Nat,s=[.int .i64 (i:Int)]/\i<=ns.length/\(∀ x∈ns.take i,x.size=64)/\wx=w,λ s _=>match s with
  | [.int _ i]=>ns.length-i.toNat
  | _=>0,⟨0,rfl,by omega,by simp,rfl⟩,?_⟩
 rintro _ w1 ⟨i,hs,hi,aF,rfl⟩;cases hs;refine Aa (λ aB=>?_) (λ aI=>⟨_,rfl,rfl,?_⟩)
 ·have aD:i<ns.length:=by omega
  obtain⟨p,rfl,hc⟩:=Qq h aD;refine⟨⟨by omega,by omega⟩,_,by rw [Ale];exact hc,?_⟩;rw [show enters Tryz.prog f.EO=true by kernel_rfl];refine (Zv ns[i] w1).mono ?_;rintro _ w2 ⟨_,rfl,rfl,rfl⟩;refine⟨_,rfl,Aa (λ h2=>⟨_,rfl,rfl,⟨λ _=>⟨_,AlS aD,h2⟩,λ _=>by omega⟩⟩) (λ h2=>?_)⟩;rw [Ae (by omega)];refine⟨⟨i+1,rfl,by omega,λ x hx=>?_,rfl⟩,by simp only [Ale];omega⟩;rw [Al6 aD] at hx;rcases Al8.1 hx with h | h
  ·exact aF x h
  ·rw [Al9.1 h];exact Decidable.not_not.1 h2
 ·rw [AlK (by omega)] at aF;constructor
  ·intro h;omega
  ·rintro⟨x,hx,h2⟩;exact absurd (aF x hx) h2
theorem Aef(h:Rd w a (ns.map Value.string))(hl:ns.length<=100000):Calls Tryz.prog f.H3 #[.slice a ns.length c] w (AG λ v w'=>∃ a' c',v=.slice a' ns.length c'/\ST w w' [It.row ty.string 1 a' ns.length c' (ns.map Value.string)]):=by
 apply R.FY
 delta R.F R.J R.Ks R.N R.O R.S;try dsimp only [R.Ps]
 cases a with
 | none =>
  have h':Rd w none (ns.flatMap λ s=>[Value.string s]):=by rw [show ns.flatMap (λ s=>[Value.string s])=ns.map Value.string from Agk Value.string ns];exact h
  have:=Yz (k:=0) (λ _=>rfl) h';subst this;exact CN ⟨none,0,rfl,(ST.start w).nil _ _⟩
 | some q =>
  refine AV ((ST.start w).An λ b2 w1 _ B1 S=>?_);have S:=S.I2 0 rfl (.refl _ _) (It.row ty.string 1 (some ⟨b2,0,none⟩) 0 0 []) (RV (S.CJ 0 rfl)) (λ k hk=>.inl hk);refine S.app 0 rfl VD rfl (by omega) (by omega) (h.grown B1) (mm:=ns.length) (by simp) (λ u hu=>by obtain⟨s,_,rfl⟩:=List.mem_map.1 hu;rfl) (by omega) λ a' c' w' S=>⟨_,_,_,rfl,a',c',by rw [Alg],?_⟩;simp only [Alg,Ame] at S;exact S
theorem Ir(s:ByteArray)(h:Rl ns s):Value.tuple #[.string ⟨#[]⟩,.int .i64 2]=Wc ns s:=by
 have e:To ns s=2:=if_pos h;rw [Wc,e,if_neg (by decide)];rfl
set_option maxHeartbeats 1000000 in
theorem AjB(h:Rd w a (ns.map Value.string))(hn:ns.length<=9223372036854775807)(s:ByteArray):Calls Tryz.prog f.VW #[.slice a ns.length c,.string s] w (AG λ v w'=>v=Wc ns s/\Below w.heap.size w w'):=by
 apply R.MI
 delta R.Ad R.B R.AR R.Ix R.Cb R.Cs R.F R.H R.I R.J R.Ks R.Lt R.N R.EM R.S R.T R.U R.W R.Wu R.X;try dsimp only [R.Ps]
 refine Aa (λ h=>⟨Ir s (.inl (by omega)),.refl _ _⟩) (λ h1=>Aa (λ h=>⟨Ir s (.inr (.inl (by omega))),.refl _ _⟩) (λ h2=>Aa (λ h=>⟨Ir s (.inr (.inr (.inl (by omega)))),.refl _ _⟩) (λ h3=>?_)));have hC:Calls Tryz.prog f.Dm #[.slice a ns.length c,.func (.func f.EO) #[] #[]] w (AG λ v w'=>∃ z:Bool,v=.bool z/\w'=w/\(z=true↔∃ x∈ns,x.size≠64)):=by
  apply R.CL
  delta R.Ci R.G R.S;try dsimp only [R.Ps]
  refine (Zr h hn).mono ?_;rintro _ w1 ⟨_,rfl,z,rfl,rfl,hz⟩;exact⟨_,rfl,_,rfl,rfl,by rw [decide_eq_true_eq];exact hz⟩
 refine hC.mono ?_;rintro _ w1 ⟨_,rfl,z,rfl,rfl,hz⟩;refine⟨_,rfl,Aq (λ hb=>⟨Ir s (.inr (.inr (.inr (hz.1 hb)))),.refl _ _⟩) (λ hb=>?_)⟩;have iS:∀ x∈ns,x.size=64:=λ x hx=>Decidable.byContradiction λ aQ=>by
  rw [hz.2 ⟨x,hx,aQ⟩] at hb;cases hb
 have aP:¬ Rl ns s:=by
  rintro (h | h | h | ⟨x,hx,h⟩)
  ·omega
  ·omega
  ·omega
  ·exact h (iS x hx)
 refine (ST.start w1).An λ b5 w2 _ _ S=>?_;have dw:Rd w2 (some ⟨b5,0,none⟩) (([3]:List UInt8).map Ag):=S.GD 0 rfl;have d1:=Al (n:=ns.length) (by omega);rw [Aj (by omega) (by omega)];refine (Bg (c:=1) [3] dw ns.length (by omega) (by simp)).mono ?_;rintro _ w3 ⟨_,rfl,a3,c3,rfl,g3⟩;have S:=BJ S g3;refine⟨_,_,_,rfl,(Aef (h.grown S.Ar) (by omega)).mono ?_⟩;rintro _ w4 ⟨_,rfl,a4,c4,rfl,P⟩;have S:=S.join P;refine⟨_,_,_,rfl,S.An λ dJ w5 _ _ S=>?_⟩;refine S.app 1 rfl VD rfl (by omega) (by omega) (S.GD 0 rfl) (mm:=1) rfl (by simp;rfl) (by omega) λ a6 c6 w6 S=>⟨_,_,_,rfl,?_⟩;obtain⟨ms,iW⟩:∃ ms,ms=ns++[s]:=⟨_,rfl⟩;have lW:ms.length=ns.length+1:=by rw [iW];simp
 have S:ST w1 w6 [CP a3 c3 ([3]++Af ns.length),It.rd a6 (ms.map Value.string)]:=by
  have S:=(S.drop 1).AkH 0 rfl;have S:=S.sub (H':=[It.rd a6 (ns.map Value.string++[Value.string s]),CP a3 c3 ([3]++Af ns.length)]) (.cons_cons _ (.cons_cons _ (List.nil_sublist _)));have e:ns.map Value.string++[Value.string s]=ms.map Value.string:=by rw [iW];simp
  rw [e] at S;exact S.pull 1 rfl
 have aw:∀ x∈ms,x.size<=262144:=λ x hx=>by
  rw [iW] at hx;rcases Al8.1 hx with h | h
  ·have:=iS x h;omega
  ·rw [Al9.1 h];omega
 have gH:∀ i,((ms.take i).flatMap BA).length<=67500000:=λ i=>by
  have h1:=Xz (ns:=ms.take i) λ x hx=>aw x (List.mem_of_mem_take hx);have h2:(ms.take i).length<=257:=by rw [Al7];omega
  have:(ms.take i).length*262154<=257*262154:=Nat.mul_le_mul_right _ h2;omega
 rw [<- lW];refine⟨λ s wx=>∃(i:Nat) (out:List UInt8) (oa:Option Addr) (oc:Nat),s=[.slice oa out.length oc,.int .i64 (i:Int)]/\i<=ms.length/\out=[3]++Af ns.length++(ms.take i).flatMap BA/\ST w1 wx [CP oa oc out,It.rd a6 (ms.map Value.string)],λ s _=>match s with
  | [_,.int _ i]=>ms.length-i.toNat
  | _=>0,⟨0,_,a3,c3,rfl,by omega,by simp,S⟩,?_⟩
 clear S;rintro oa _ oc _ w7 ⟨i,out,_,_,aA,hi,bR,S⟩;cases aA;have cE:out.length<=68000000:=by
  have:=gH i;rw [bR];simp only [Alb,Ald,Amp];omega
 refine Aa (λ aB=>?_) (λ aI=>?_)
 ·have aD:i<ms.length:=by omega
  obtain⟨p,rfl,hc⟩:=Qq (S.get 1 rfl) aD;have h5:=aw ms[i] (AlS aD);refine⟨⟨by omega,by omega⟩,_,by rw [Ale];exact hc,?_⟩;refine (Hr out (Ew S 0 rfl) ms[i] (by omega) (by omega)).mono ?_;rintro _ w9 ⟨_,rfl,a9,c9,rfl,g9⟩;have S:=BJ S g9;rw [Ae (by omega)];refine⟨_,_,_,_,rfl,⟨i+1,out++BA ms[i],a9,c9,rfl,by omega,?_,S.sub (.cons_cons _ (.cons _ (AmX _)))⟩,by simp only [Ale];omega⟩;rw [bR,Al6 aD,AmW];simp
 ·obtain rfl:i=ms.length:=by omega
  rw [Ama] at bR;have e:out=Acu ns s:=by rw [bR,iW,Acu];simp
  subst e;refine (Um (Ew S 0 rfl)).mono ?_;rintro _ w8 ⟨_,rfl,rfl,rfl⟩;by_cases hb:262144<(Acu ns s).length
  ·rw [if_pos hb];refine⟨_,_,rfl,?_,S.Ar⟩;have e2:To ns s=130:=by rw [To,if_neg aP,if_pos hb]
   rw [Wc,e2,if_neg (by decide)]
  ·rw [if_neg hb];refine⟨_,_,rfl,?_,S.Ar⟩;have e2:To ns s=0:=by rw [To,if_neg aP,if_neg hb]
   rw [Wc,e2,if_pos rfl]
set_option maxHeartbeats 1000000 in
theorem Vh(h:Rd w a (ns.map Value.string))(hn:ns.length<=9223372036854775807)(s:ByteArray):Calls Tryz.prog f.AaZ #[.slice a ns.length c,.string s] w (AG λ v w'=>v=Wc ns s/\Below w.heap.size w w'):=by
 apply R.P8
 delta R.Ad R.B R.AR R.Cs R.F R.H R.I R.J R.Lt R.N R.EM R.Rt R.S R.T R.U R.W R.Wu R.X;try dsimp only [R.Ps]
 refine Aa (λ h=>⟨Ir s (.inl (by omega)),.refl _ _⟩) (λ h1=>Aa (λ h=>⟨Ir s (.inr (.inl (by omega))),.refl _ _⟩) (λ h2=>Aa (λ h=>⟨Ir s (.inr (.inr (.inl (by omega)))),.refl _ _⟩) (λ h3=>?_)));refine (ST.start w).An λ b5 w2 _ _ S=>?_;have dw:Rd w2 (some ⟨b5,0,none⟩) (([3]:List UInt8).map Ag):=S.GD 0 rfl;have d1:=Al (n:=ns.length) (by omega);rw [Aj (by omega) (by omega)];refine (Bh (c:=1) [3] dw ns.length (by omega) (by simp)).mono ?_;rintro _ w3 ⟨_,rfl,a3,c3,rfl,g3⟩;have S:=(BJ S g3).keep 1;refine⟨_,_,_,rfl,λ s wx=>∃(i:Nat) (out:List UInt8) (oa:Option Addr) (oc:Nat),s=[.slice oa out.length oc,.int .i64 (i:Int)]/\i<=ns.length/\out=[3]++Af ns.length++(ns.take i).flatMap BA/\(∀ x∈ns.take i,x.size=64)/\ST w wx [CP oa oc out],λ s _=>match s with
  | [_,.int _ i]=>ns.length-i.toNat
  | _=>0,⟨0,_,a3,c3,rfl,by omega,by simp,by simp,S⟩,?_⟩
 clear S;rintro oa _ oc _ w7 ⟨i,out,_,_,aA,hi,bR,aF,S⟩;cases aA;have cE:out.length<=68000000:=by
  have h1:=Xz (ns:=ns.take i) λ x hx=>by have:=aF x hx;omega
  have h2:(ns.take i).length<=257:=by rw [Al7];omega
  have:(ns.take i).length*262154<=257*262154:=Nat.mul_le_mul_right _ h2;rw [bR];simp only [Alb,Ald,Amp];omega
 refine Aa (λ aB=>?_) (λ aI=>?_)
 ·have aD:i<ns.length:=by omega
  obtain⟨p,rfl,hc⟩:=Qq (h.grown S.Ar) aD;refine⟨⟨by omega,by omega⟩,_,by rw [Ale];exact hc,?_⟩;refine Ah (λ h5=>⟨Ir s (.inr (.inr (.inr ⟨_,AlS aD,by omega⟩))),S.Ar⟩) (λ h5=>?_);refine⟨⟨by omega,by omega⟩,_,by rw [Ale];exact hc,?_⟩;refine (GF out (Ew S 0 rfl) ns[i] (by omega) (by omega)).mono ?_;rintro _ w9 ⟨_,rfl,a9,c9,rfl,g9⟩;have S:=BJ S g9;rw [Ae (by omega)];refine⟨_,_,_,_,rfl,⟨i+1,out++BA ns[i],a9,c9,rfl,by omega,?_,λ x hx=>?_,S.keep 1⟩,by simp only [Ale];omega⟩
  ·rw [bR,Al6 aD,AmW];simp
  ·rw [Al6 aD] at hx;rcases Al8.1 hx with h | h
   ·exact aF x h
   ·rw [Al9.1 h];omega
 ·obtain rfl:i=ns.length:=by omega
  rw [Ama] at bR aF;have aP:¬ Rl ns s:=by
   rintro (h | h | h | ⟨x,hx,h⟩)
   ·omega
   ·omega
   ·omega
   ·exact h (aF x hx)
  refine (GF out (Ew S 0 rfl) s (by omega) (by omega)).mono ?_;rintro _ w5 ⟨_,rfl,a5,c5,rfl,g5⟩;have e:out++BA s=Acu ns s:=by rw [bR,Acu];simp
  rw [e] at g5 ⊢;have B5:=Ac S.Ar g5.Ar;refine⟨_,_,_,_,rfl,Aa (λ hb=>⟨?_,B5⟩) (λ hb=>Ax CA rfl g5.rd ⟨_,rfl,?_,B5⟩)⟩
  ·have e2:To ns s=130:=by rw [To,if_neg aP,if_pos (by omega)]
   rw [Wc,e2,if_neg (by decide)];rfl
  ·have e2:To ns s=0:=by rw [To,if_neg aP,if_neg (by omega)]
   rw [Wc,e2,if_pos rfl]
end
section
variable {w0 w:World}{H:List It}{bc bm n N cc pc:Nat}{ca pa:Option Addr}{C:BX}
end
section
variable {w0 w:World}{H:List It}{b:Nat}{a:Option Addr}{c at_:Nat}{bad:Bool}{l:List UInt8}
theorem Abd(S:ST w0 w H)(n m:Nat)(hn:H[n]?=some (EV b a l.length c at_ bad))(hm:H[m]?=some (It.rd a (l.map Ag)))(hc:l.length<=c)(hs:l.length<=140737488355328)(most:Nat) :
  Calls Tryz.prog f.MK #[.pointer (some ⟨b,0,none⟩),.int .i64 (most:Int)] w (AG λ v w'=>∃(s:List UInt8) (at':Nat) (aX:Bool),v=.string (BC s)/\ST w0 w' (H.set n (EV b a l.length c at' aX))/\Sf bad aX (BD l (at_:Int) most) (s,at')):=by
 apply R.Ib
 delta R.Gv R.D R.F R.G R.I R.Lb R.Li R.Ls R.S R.Am R.T;try dsimp only [R.Ps]
 refine S.draw λ w1 B1 S=>⟨_,_,_,S.cell n hn rfl,_,S.cell n hn rfl,?_⟩;refine (Ex (S.get m hm) hc (by omega) (at_:Int) most).mono ?_;rintro _ w2 ⟨_,rfl,rfl,rfl⟩;have fail:∀ {X:Prop},(bad=true\/BD l (at_:Int) most=none)->DY (Addr.add ⟨b,0,none⟩ 2) (.bool true) (λ w'=>∃(s:List UInt8) (at':Nat) (aX:Bool),Value.string ⟨#[]⟩=.string (BC s)/\ST w0 w' (H.set n (EV b a l.length c at' aX))/\Sf bad aX (BD l (at_:Int) most) (s,at')) w2:=λ h =>
  S.BP n hn (i:=2) (aC:=#[.slice a l.length c,.int .i64 (at_:Int),.bool true]) (by simp) rfl λ w3 S=>⟨[],at_,true,rfl,S,.inr ⟨rfl,h⟩⟩
 cases ho:BD l (at_:Int) most with
 | none =>
  rw [ho] at fail;exact⟨_,_,_,rfl,_,S.cell n hn rfl,Aq (λ hb=>fail (X:=True) (.inl hb)) (λ hb=>Ah (λ h=>fail (X:=True) (.inr rfl)) (λ h=>by cases h))⟩
 | some x =>
  rw [ho] at fail;refine⟨_,_,_,rfl,_,S.cell n hn rfl,Aq (λ hb=>fail (X:=True) (.inl hb)) (λ hb=>?_)⟩;subst hb;exact Ah (λ h=>absurd rfl h) (λ h=>S.BP n hn (i:=1) (aC:=#[.slice a l.length c,.int .i64 (x.2:Int),.bool false]) (by simp) rfl λ w3 S=>⟨x.1,x.2,false,rfl,S,.inl ⟨rfl,rfl,rfl⟩⟩)
theorem Ag5(S:ST w0 w H)(n m:Nat)(hn:H[n]?=some (EV b a l.length c at_ bad))(hm:H[m]?=some (It.rd a (l.map Ag)))(hc:l.length<=c)(hs:l.length<=140737488355328) :
  Calls Tryz.prog f.MJ #[.pointer (some ⟨b,0,none⟩)] w (AG λ v w'=>∃(s:ByteArray) (at':Nat) (aX:Bool),v=.string s/\ST w0 w' (H.set n (EV b a l.length c at' aX))/\Sf bad aX (Sw l at_) (s,at')):=by
 apply R.Ia
 delta R.Ct R.F R.G R.I R.Lb R.P R.Am R.T;try dsimp only [R.Ps]
 have aB:=(AkX.1 hn).1;refine (Abd S n m hn hm hc hs 64).mono ?_;rintro _ w1 ⟨_,rfl,s,aL,b1,rfl,S,G⟩;have eR:(H.set n (EV b a l.length c aL b1))[n]?=some (EV b a l.length c aL b1):=AkZ aB;refine⟨_,rfl,_,S.cell n eR rfl,Aq (λ hb=>?_) (λ hb=>?_)⟩
 ·subst hb;refine S.BP n eR (i:=2) (aC:=#[.slice a l.length c,.int .i64 (aL:Int),.bool true]) (by simp) rfl λ w3 S=>⟨_,aL,true,rfl,?_,?_⟩
  ·rw [Ala] at S;exact S
  ·refine .inr ⟨rfl,?_⟩;rcases G.no with h | h
   ·exact .inl h
   ·exact .inr (by rw [Sw,h];rfl)
 ·subst hb;obtain⟨rfl,h2⟩:=G.ok;refine S.BP n eR (i:=2) (aC:=#[.slice a l.length c,.int .i64 (aL:Int),.bool (((BC s).size:Int) != 64)]) (by simp) rfl λ w3 S=>⟨_,aL,(((BC s).size:Int) != 64),rfl,?_,?_⟩
  ·rw [Ala] at S;exact S
  ·have e:Sw l at_=if s.length=64 then some (BC s,aL) else none:=by rw [Sw,h2,Amv]
   rw [A1];by_cases h:s.length=64
   ·refine .inl ⟨?_,rfl,by rw [e,if_pos h]⟩;simp [h]
   ·refine .inr ⟨?_,.inr (by rw [e,if_neg h])⟩;have:¬ (s.length:Int)=64:=by omega
    simp [this]
end
theorem Ai9{l:List UInt8}{b b':Bool}{lo hi at_ z at':Nat}(h:Sf b b' (Oa l lo hi at_) (z,at'))(hz:b'=true->z=0):z<=hi:=by
 cases b' with
 | true=>rw [hz rfl];exact Nat.zero_le _
 | false=>exact (HP h.ok.2).2.2
theorem Sf.same{α:Type}(b:Bool)(x:α):Sf b b (Option.some x) x:=by
 cases b with
 | false=>exact .inl ⟨rfl,rfl,rfl⟩
 | true=>exact .inr ⟨rfl,.inl rfl⟩
section
variable {w:World}
end
section
variable {w0 w:World}{H:List It}{b:Nat}{a:Option Addr}{c at_:Nat}{bad:Bool}{l:List UInt8}
end
def Q0(c:I1):List Value:=[.int .i64 (c.1:Int),.int .i64 (c.2.1:Int),.int .i64 (c.2.2.1:Int),.int .i64 (c.2.2.2:Int)]
def Dx(k:List I1):List Value:=k.flatMap Q0
theorem Lk(k:List I1):(Dx k).length=k.length*4:=by
 induction k with
 | nil=>rfl
 | cons p ps ih =>
  show (Q0 p++Dx ps).length=_;rw [Alb,ih,Ald];simp only [Q0,Ald,Amp];omega
theorem Ph(k:List I1)(i j:Nat)(hi:i<k.length)(hj:j<4):(Dx k)[i*4+j]?=(Q0 k[i])[j]?:=by
 induction k generalizing i with
 | nil=>simp at hi
 | cons p ps ih =>
  show (Q0 p++Dx ps)[_]?=_;cases i with
  | zero=>rw [Nat.zero_mul,Alg,List.getElem?_append_left (by simp [Q0];omega)];rfl
  | succ i =>
   rw [List.getElem?_append_right (by simp [Q0];omega)];rw [show (i+1)*4+j-(Q0 p).length=i*4+j by simp [Q0];omega,ih i (by simpa using hi)];rfl
def Np(a:Option Addr)(c:Nat)(k:List I1):It:=It.row ty.J0 4 a k.length c (Dx k)
theorem Ahj:M9 Tryz.prog ty.Df=some (ty.J0,4,32,.agg #[.int .i64 0,.int .i64 0,.int .i64 0,.int .i64 0]):=by kernel_rfl
def DO(b:Nat)(ca:Option Addr)(cc:Nat)(pa:Option Addr)(pc:Nat)(ka:Option Addr)(kc:Nat)(c:VT):List It :=
 [It.cells b #[.slice ca c.AM.length cc,.slice pa c.parts.length pc,.slice ka c.Dw.length kc] ty.Fk,CK ca cc c.AM,Dl pa pc c.parts,Np ka kc c.Dw]
section
variable {w0 w:World}{H:List It}{a:Option Addr}{c:Nat}
theorem Ut{k:List I1}(hl:Rd w a (Dx k)){i:Nat}(hi:i<k.length):∃ p,a=some p/\w.cell? (p.add (i*4))=some (.int .i64 (k[i].1:Int))/\w.cell? ((p.add (i*4)).add 1)=some (.int .i64 (k[i].2.1:Int))/\w.cell? ((p.add (i*4)).add 2)=some (.int .i64 (k[i].2.2.1:Int))/\w.cell? ((p.add (i*4)).add 3)=some (.int .i64 (k[i].2.2.2:Int)):=by
 obtain⟨p,hp,h0⟩:=hl (i*4+0) _ (by rw [Ph k i 0 hi (by omega)];rfl);obtain⟨p1,hp1,h1⟩:=hl (i*4+1) _ (by rw [Ph k i 1 hi (by omega)];rfl);obtain⟨p2,gm,h2⟩:=hl (i*4+2) _ (by rw [Ph k i 2 hi (by omega)];rfl);obtain⟨p3,oo,h3⟩:=hl (i*4+3) _ (by rw [Ph k i 3 hi (by omega)];rfl);rw [hp] at hp1 gm oo;cases hp1;cases gm;cases oo;exact⟨p,hp,h0,by rw [BH];exact h1,by rw [BH];exact h2,by rw [BH];exact h3⟩
theorem Aiq(S:ST w0 w H){n:Nat}{k:List I1}(hn:H[n]?=some (Np a c k)){x:I1}{b:Nat}(hs:Rd w (some ⟨b,0,none⟩) (Q0 x))(hl:k.length+1<=1000000){f:Value->World->Prop}
  (hf:∀ a' c' w',ST w0 w' (H.set n (Np a' c' (k++[x])))->f (.slice a' (k++[x]).length c') w') :
  DB Tryz.prog (Builtin.append_ #[ty.Df,ty.Df] ty.Df #[.slice a k.length c,.slice (some ⟨b,0,none⟩) 1 1]) f w:=by
 refine S.app n hn Ahj rfl (by omega) (by omega) hs (mm:=1) rfl (by simp [Q0];exact⟨rfl,rfl,rfl,rfl⟩) (by omega) λ a' c' w' S'=>?_;have e1:(k++[x]).length=k.length+1:=by simp
 have e2:Dx k++Q0 x=Dx (k++[x]):=by simp [Dx]
 rw [e2] at S';have:=hf a' c' w' (by unfold Np;rw [e1];exact S');rwa [e1] at this
end
section
variable {w:World}
end
theorem Aim(p q:H8):((p.1==q.1) && (((p.2:Int)==(q.2:Int)) && true))=decide (p=q):=by
 obtain⟨a,b⟩:=p;obtain⟨c,d⟩:=q;rw [Bool.eq_iff_iff];simp only [XV,Bool.and_true,AkM,beq_iff_eq,decide_eq_true_eq,Prod.mk.injEq];constructor
 ·rintro⟨h1,h2⟩;exact⟨h1,by omega⟩
 ·rintro⟨h1,h2⟩;exact⟨h1,by omega⟩
section
variable {w0 w:World}{H:List It}{a a2:Option Addr}{c c2:Nat}
theorem XT{ls ms:List H8}(hl:Rd w a (Bp ls))(hm:Rd w a2 (Bp ms))(hn:ls.length<=9223372036854775807) :
  Calls Tryz.prog f.TH #[.slice a ls.length c,.slice a2 ms.length c2] w (AG λ v w'=>Below w.heap.size w w'/\v=.bool (decide (ls=ms))):=by
 apply R.KG
 delta R.D R.F R.G R.I R.Li R.Lt R.Qi R.W R.X;try dsimp only [R.Ps]
 refine Ah (λ h=>⟨.refl _ _,?_⟩) (λ hlen=>?_)
 ·congr 1;rw [eq_comm,decide_eq_false_iff_not];rintro rfl;exact h rfl
 have bJ:ls.length=ms.length:=by omega
 refine⟨λ s w1=>∃ i:Nat,i<=ls.length/\s=[.int .i64 (i:Int)]/\Below w.heap.size w w1/\ls.take i=ms.take i,λ s _=>match s with
   | [.int _ i]=>ls.length-i.toNat
   | _=>0,⟨0,by omega,rfl,.refl _ _,rfl⟩,?_⟩
 rintro _ w1 ⟨i,hi,hs,B1,hT⟩;cases hs;refine Aa (λ aB=>?_) (λ aI=>⟨B1,?_⟩)
 ·have h1:i<ls.length:=by omega
  have h2:i<ms.length:=by omega
  refine (SH.start (λ _=>False) w1).E5 λ w2 B2 _=>⟨⟨by omega,aB⟩,?_⟩;have C2:=Ac B1 B2;obtain⟨p1,rfl,c0,c1⟩:=JT (hl.grown C2) h1;obtain⟨p2,rfl,d0,d1⟩:=JT (hm.grown C2) h2;refine⟨⟨by omega,by omega⟩,_,by rw [Ale];exact c0,_,by rw [Ale];exact c1,_,by rw [Ale];exact d0,_,by rw [Ale];exact d1,?_⟩;rw [Aim];refine As (Aa (λ he=>?_) (λ he=>⟨C2,?_⟩))
  ·rw [Ae (by omega)];refine⟨⟨i+1,by omega,rfl,C2,?_⟩,?_⟩
   ·rw [Al6 h1,Al6 h2,hT,he]
   ·simp only [Ale];omega
  ·congr 1;rw [eq_comm,decide_eq_false_iff_not];rintro rfl;exact he rfl
 ·congr 1;rw [eq_comm,decide_eq_true_eq];rw [AlK (by omega),AlK (by omega)] at hT;exact hT
end
section
variable {w:World}{a a2 a3:Option Addr}{c c2 c3:Nat}{cs:List BQ}{ps qs:List BF}
end
end Go.Proofs.YtpnaifmmggnimaaGreatDoor
