/-
  Texts of this claim, laid one behind the other by a program of mine (install.py): Y.Sig2, Y.Laid, Y.Enc, Y.Enc2, Y.IntsR, Y.IntsP, Y.IntsE, Y.IntsB, Y.RefEnc, Y.RefEnc2, Y.RefEnc3, Y.Best, Dn.Crc, Y.Sum, Y.Ch1, Y.Sch6, Y.Kd, Y.Qu, Y.Kd2, Y.Node, Y.Formed, Y.Formed2, Y.Idx, Y.PlLaw, Y.Kind, Y.Kind2, Y.SortC, Y.Same, Y.Uses, Y.Uses2, Y.Name, Y.Fits, Y.Fits2, Y.Fits3, Dn.Sh3, Y.RShow, Y.Txt, Y.Txt2, Y.Txt3.
-/
import Derived.Test.YtoepjfblppfabaaGreatDoorM4
import Derived.Test.YtoepjfblppfabaaGreatDoorM6
import Derived.Test.YtoepjfblppfabaaGreatDoorM1
import Derived.Test.YtoepjfblppfabaaGreatDoorM3
import Derived.Lib.ItoaLen
import Derived.Sort.OwnSorted
import Derived.Lib.SlicesCompact
namespace Go.Proofs.YtoepjfblppfabaaGreatDoor
open _root_.Array renaming getElem?_eq_some_iff -> AnV
open _root_.Int renaming toNat_natCast -> AnF
open _root_.List renaming getElem?_eq_getElem -> AnB, getElem_mem -> Aot, length_append -> Anp, length_cons -> AnQ, length_drop -> AnC, length_take -> Anw, map_append -> Aov, mem_append -> Aow, mem_cons -> Anh, mem_cons_self -> AnT, mem_map -> Ang, mem_singleton -> Aox, not_mem_nil -> AoB, take_length -> Aoz, take_of_length_le -> Aoy, take_succ_eq_append_getElem -> Aou
open _root_.Nat renaming le_refl -> AnD, le_trans -> AnJ, lt_or_ge -> AoA, mul_one -> AnI, zero_mul -> AoC
open _root_.UInt8 renaming ofNat -> AnG
set_option maxRecDepth 100000
open Go.Dn Go.Proofs
open Go.RowKit (Below)
set_option linter.unusedVariables false
section
variable {w:World}{a:Option Addr}{c:Nat}
end
def BD(ls:List ByteArray):List UInt8:=ls.flatMap CQ
theorem Ab5{ls:List ByteArray}{k:Nat}(hk:k<ls.length):BD (ls.take (k+1))=BD (ls.take k)++CQ ls[k]:=by
 unfold BD;rw [Aou hk,List.flatMap_append];simp
theorem WC{s:ByteArray}(h:s.size<=1024):(CQ s).length<=1034:=by
 have:=Aq (n:=s.size) (by omega);have:=CG s;simp [CQ];omega
theorem Iw{ls:List ByteArray}(h:∀ s∈ls,s.size<=1024):(BD ls).length<=ls.length*1034:=by
 induction ls with
 | nil=>simp [BD]
 | cons s ls ih =>
  have h1:=WC (h s (AnT ..));have h2:=ih λ x hx=>h x (List.mem_cons_of_mem _ hx);simp only [BD,List.flatMap_cons,Anp,AnQ] at *;omega
theorem tP:Ia Tryz.prog ty.VG=some (ty.AA,1,24,.slice none 0 0):=by kernel_rfl
theorem NC{w:World}{a:Option Addr}{ls:List ByteArray}(hl:Rd w a (ls.map Value.string)){i:Nat}(hi:i<ls.length):∃ p,a=some p/\w.cell? (p.add (i*1))=some (.string ls[i]):=by
 obtain⟨p,hp,hc⟩:=hl i (.string ls[i]) (by simp [hi]);exact⟨p,hp,by rw [AnI];exact hc⟩
theorem Oe{w:World}{a:Option Addr}{c:Nat}{ls:List ByteArray}(hl:Rd w a (ls.map Value.string))(hn:ls.length<=4096)(hz:∀ s∈ls,s.size<=1024) :
  Calls Tryz.prog f.Aeh #[.slice a ls.length c] w (AB λ v w'=>∃ a' c',v=.slice a' (BD ls).length c'/\Dh w w' (BD ls) a' c'):=by
 apply R.RE
 delta R.Ad R.BL R.Cs R.F R.I R.J R.Ks R.Lt R.N R.O R.Hz R.S R.T R.W R.X;try dsimp only [R.Ps]
 refine⟨λ s w1=>∃(ps:List Hx) (pa:Option Addr) (pc:Nat),s=[.slice pa ps.length pc,.int .i64 (ps.length:Int)]/\ps.length<=ls.length/\Row w1 ty.AA 1 pa ps.length pc (ps.map BQ)/\(∀ k,AG pa=some k->w.heap.size<=k) /\
   (∀ p∈ps,Rd w1 p.1 (p.2.2.map Af)/\(∀ k,AG pa=some k->AG p.1≠some k)/\∀ k,AG p.1=some k->k<w1.heap.size)/\BJ ps=BD (ls.take ps.length)/\Below w.heap.size w w1,λ s _=>match s with
   | [_,.int _ i]=>ls.length-i.toNat
   | _=>0,⟨[],none,0,rfl,by simp,Row.nil _ _ _,by simp [AG],by simp,by simp [BJ,BD],.refl _ _⟩,?_⟩
 rintro pa _ pc _ w1 ⟨ps,_,_,hs,hle,hR,bA,cU,eg,B1⟩;cases hs;refine Aa (λ aB=>⟨⟨by omega,aB⟩,?_⟩) (λ aL=>?_)
 ·have aq:ps.length<ls.length:=by omega
  obtain⟨p,rfl,hc⟩:=NC (hl.grown B1) aq;have av:=hz _ (Aot aq);refine⟨_,by rw [AnF];exact hc,(JH (c:=0) [] (Rd.nil _ _) ls[ps.length] (by omega) (by simp;omega)).mono ?_⟩;rintro _ w3 ⟨_,rfl,a3,c3,rfl,h3⟩;rw [List.nil_append] at h3 ⊢;refine⟨_,_,_,_,rfl,(SH.start (λ _=>False) w3).Aj λ eQ w4 mG B4 S4=>?_⟩;have h4:=h3.grown B4;have aZ:Rd w4 (some ⟨eQ,0,none⟩) [BQ (a3,c3,CQ ls[ps.length])]:=by
   have:=Rd.Ak (S4.get 0 rfl);simpa [BQ] using this
  obtain⟨a5,c5,w5,aD,aG,hk,hnw⟩:=Bq (ty:=ty.VG) (mc:=1) tP rfl (by omega) (by omega) (hR.grown (h4.An)) aZ (m:=1) rfl (by simp [BQ];rfl) (by omega);unfold CD;rw [aD];refine⟨_,_,_,rfl,?_⟩;have e1:(ps++[(a3,c3,CQ ls[ps.length])]).length=ps.length+1:=by simp
  have B4':Below w.heap.size w w4:=B1.trans (h4.An.mono B1.size);refine⟨⟨ps++[(a3,c3,CQ ls[ps.length])],a5,c5,?_,by omega,?_,λ k dF=>?_,λ q hq=>?_,?_,B4'.trans (hk.below B4'.size λ k aB gO=>?_)⟩,?_⟩
  ·rw [Ai (by omega),e1]
  ·rw [e1,Aov];exact aG
  ·rcases hnw k dF with h | h
   ·exact bA k h
   ·exact AnJ B4'.size h
  ·have bS:∀ k,AG pa=some k->k<w1.heap.size:=λ k h=>hR.lt h;have gi:∀ k,AG pa=some k->AG q.1≠some k:=by
    intro k dd bH;rcases Aow.1 hq with h | h
    ·exact (cU q h).2.1 k dd bH
    ·simp only [Aox] at h;subst h;have:=h3.new k bH;have:=bS k dd;omega
   have ry:Rd w4 q.1 (q.2.2.map Af):=by
    rcases Aow.1 hq with h | h
    ·exact (cU q h).1.grown h4.An
    ·simp only [Aox] at h;subst h;exact h4.rd
   have eJ:∀ k,AG q.1=some k->k<w4.heap.size:=by
    intro k bH;rcases Aow.1 hq with h' | h'
    ·exact Nat.lt_of_lt_of_le ((cU q h').2.2 k bH) h4.An.size
    ·simp only [Aox] at h';subst h';exact h4.row.lt bH
   refine⟨?_,λ k dF bH=>?_,λ k bH=>Nat.lt_of_lt_of_le (eJ k bH) hk.size⟩
   ·exact ry.keeps hk (λ p hp hF=>gi p.block hF (by rw [hp];rfl))
   ·rcases hnw k dF with h | h
    ·exact gi k h bH
    ·have:=eJ k bH;omega
  ·rw [e1,Ab5 aq,<- eg];simp [BJ]
  ·have:=bA k gO;omega
  ·simp only [AnF];rw [Ai (by omega)];omega
 ·have bS:ps.length=ls.length:=by omega
  rw [bS,Aoz] at eg;have hlen:=Iw hz;refine (Bf ps hR.rd (λ p hp=>(cU p hp).1) (by omega) (by rw [eg];omega)).mono ?_;rintro _ w2 ⟨_,rfl,a2,c2,rfl,h2⟩;rw [eg] at h2 ⊢;exact⟨_,_,_,rfl,a2,c2,rfl,h2.before B1⟩
def Q7(ls:List ByteArray):Bool:=ls.any λ s=>decide (1024<s.size)
theorem HI{ls:List ByteArray}(h:Q7 ls=false):∀ s∈ls,s.size<=1024:=by
 intro s hs;have:=List.any_eq_false.1 h s hs;simpa using this
theorem AiZ(w:World)(s:ByteArray):Calls Tryz.prog f.EU #[.string s] w (AB λ v w'=>w'=w/\v=.bool (decide (1024<s.size))):=by
 apply R.Km
 delta R.G;try dsimp only [R.Ps]
 refine⟨rfl,?_⟩;congr 1;rw [Bool.eq_iff_iff];simp;omega
theorem Zv:enters Tryz.prog f.EU=true:=by kernel_rfl
section
variable {w:World}{a:Option Addr}{c:Nat}{ls:List ByteArray}
theorem Rv(hl:Rd w a (ls.map Value.string))(hn:ls.length<=9223372036854775807) :
  Calls Tryz.prog f.EM #[.slice a ls.length c,.func (.func f.EU) #[] #[]] w (AB λ v w'=>w'=w/\v=.bool (Q7 ls)):=by
 have idx:Calls Tryz.prog f.FD #[.slice a ls.length c,.func (.func f.EU) #[] #[]] w (AB λ v w'=>w'=w/\∃ i:Int,v=.int .i64 i/\(0<=i↔Q7 ls=true)):=by
  apply R.Cj
  delta R.Ad R.F R.G R.I R.Lt R.Qi R.T R.W R.X;try dsimp only [R.Ps]
  refine⟨λ s w1=>w1=w/\∃ k:Nat,k<=ls.length/\s=[.int .i64 (k:Int)]/\Q7 (ls.take k)=false,λ s _=>match s with
    | [.int _ i]=>ls.length-i.toNat
    | _=>0,⟨rfl,0,by omega,rfl,rfl⟩,?_⟩
  rintro _ w1 ⟨rfl,k,hk,hs,jU⟩;cases hs;refine Aa (λ aB=>⟨⟨by omega,aB⟩,?_⟩) (λ aL=>?_)
  ·have aq:k<ls.length:=by omega
   obtain⟨p,rfl,hc⟩:=NC hl aq;refine⟨_,by rw [AnF];exact hc,?_⟩;rw [Zv];refine (AiZ w1 ls[k]).mono ?_;rintro _ w2 ⟨_,rfl,rfl,rfl⟩;refine⟨_,rfl,Aa (λ h=>⟨rfl,_,rfl,?_⟩) (λ h=>?_)⟩
   ·refine⟨λ _=>?_,λ _=>by omega⟩;exact List.any_eq_true.2 ⟨ls[k],Aot aq,by simpa using h⟩
   ·rw [Ai (by omega)];refine⟨⟨rfl,k+1,by omega,rfl,?_⟩,?_⟩
    ·unfold Q7 at jU ⊢;rw [Aou aq,List.any_append,jU];simp;omega
    ·simp only [AnF];omega
  ·have gO:ls.take k=ls:=Aoy (by omega);rw [gO] at jU;refine⟨rfl,_,rfl,?_⟩;rw [jU];simp
 apply R.BK
 delta R.Ci R.G R.S;try dsimp only [R.Ps]
 refine idx.mono ?_;rintro _ w1 ⟨_,rfl,rfl,i,rfl,hi⟩;refine⟨_,rfl,rfl,?_⟩;congr 1;rw [Bool.eq_iff_iff,decide_eq_true_eq];exact hi
end
def BA(t:List (List UInt8))(ls:List ByteArray):List Nat:=ls.map λ s=>t.idxOf (bl s)
inductive Fl (ls:List ByteArray):Int->List UInt8->Prop
 | plain:Fl ls 0 (0 :: BD ls)
 | table (t:List (List UInt8)) (w:Nat) (ht:HS (ls.map bl) t) (hw:Ea (Mf (BA t ls)) w):Fl ls 1 ((1 :: Ag t.length)++(BD (t.map CA)++(AnG w :: Ba (BA t ls) w)))
theorem Fl.one{ls:List ByteArray}{f:Int}{b c:List UInt8}(h:Fl ls f b)(h':Fl ls f c):b=c:=by
 cases h with
 | plain=>cases h';rfl
 | table t w ht hw =>
  cases h' with
  | table t' w' ht' kT =>
   have:=ht.one ht';subst this;rw [hw.one kT]
def ED(f:Int)(ls:List ByteArray):Prop:=0<=f/\f<=1/\ls.length<=4096/\Q7 ls=false
instance (f:Int) (ls:List ByteArray):Decidable (ED f ls):=by unfold ED;infer_instance
def Aj5(f:Int)(ls:List ByteArray)(w w':World)(r:Value):Prop :=
 (¬ ED f ls/\r=.tuple #[.slice none 0 0,.int .i64 2]/\Below w.heap.size w w')\/(ED f ls/\∃ b a c,Fl ls f b/\r=.tuple #[.slice a b.length c,.int .i64 0]/\Dh w w' b a c)
theorem LZ{α:Type}[DecidableEq α]:∀ {t l:List α},t.Nodup->(∀ x∈t,x∈l)->t.length<=l.length
 | [],_,_,_=>by simp
 | x :: t,l,hn,hs=>by
  have hx:=hs x (AnT ..);obtain⟨h1,h2⟩:=List.nodup_cons.1 hn;have:=LZ (t:=t) (l:=l.erase x) h2 λ y hy=>(List.mem_erase_of_ne (a:=y) (b:=x) (by rintro rfl;exact h1 hy)).2 (hs y (List.mem_cons_of_mem _ hy));rw [List.length_erase_of_mem hx] at this;have:0<l.length:=List.length_pos_of_mem hx;simp only [AnQ];omega
theorem Ag0{w:World}{f:Value->World->Prop}(hf:∀ b w',w.heap.size<=b->Below w.heap.size w w'->Ad0 w' b 0 (λ _=>none)->f (.map (some b)) w'):CD Tryz.prog (Instr.makeMap ty.DJ none) f w:=by
 unfold CD;rw [show (Instr.makeMap ty.DJ none).run Tryz.prog w=.ok (.map (some w.heap.size)) (w.alloc (.map #[] 0)) from rfl];refine hf _ _ (AnD _) ((Below.refl _ w).alloc (AnD _) _) ⟨_,World.ownsMap_made _ _ _ _,Maps.tidy_empty,λ x=>⟨rfl,rfl⟩⟩
theorem Yi:Tryz.prog.underlying ty.DJ=some (.map ty.string ty.uint64):=by kernel_rfl
theorem tU:Ia Tryz.prog ty.Ih=some (ty.uint64,1,8,.int .u64 0):=by kernel_rfl
theorem Ah0(w:World):(zeroValue ty.uint64).run Tryz.prog w=.ok (.int .u64 0) w:=by
 have h:(Tryz.prog.info? ty.uint64).bind (·.zero)=some (.int .u64 0):=by kernel_rfl
 cases hi:Tryz.prog.info? ty.uint64 with
 | none=>rw [hi] at h;cases h
 | some i =>
  rw [hi] at h;have hz:i.zero=some (.int .u64 0):=h;simp [zeroValue,typeInfo,hi,hz]
theorem AbN(x:List UInt8):encStr x=.string (CA x):=rfl
theorem Ai4(t:List (List UInt8)):t.map encStr=(t.map CA).map Value.string:=by simp [AbN]
section
variable {w:World}{a:Option Addr}{c:Nat}{ls:List ByteArray}
def g1(l:List (List UInt8))(x:List UInt8):Option Int:=if x∈l then some 0 else none
def g2(l t:List (List UInt8))(i:Nat)(x:List UInt8):Option Int:=if x∈t.take i then some (t.idxOf x:Int) else g1 l x
theorem AiA{l:List ByteArray}{k:Nat}(hk:k<l.length):(λ y=>if y=bl l[k] then some 0 else g1 ((l.take k).map bl) y)=g1 ((l.take (k+1)).map bl):=by
 funext y;unfold g1;rw [Aou hk,Aov];simp only [Aow,List.map_cons,List.map_nil,Aox];by_cases h1:y=bl l[k]
 ·simp [h1]
 ·simp [h1]
theorem AiB{l t:List (List UInt8)}(eo:t.Nodup){i:Nat}(hi:i<t.length):(λ y=>if y=t[i] then some (i:Int) else g2 l t i y)=g2 l t (i+1):=by
 funext y;unfold g2;rw [Aou hi];simp only [Aow,Aox];by_cases h1:y=t[i]
 ·subst h1;have:t.idxOf t[i]=i:=eo.idxOf_getElem i hi;simp [this]
 ·simp [h1]
theorem EV(form:Int)(hl:Rd w a (ls.map Value.string))(hn:ls.length<=9223372036854775807):Calls Tryz.prog f.Zg #[.int .i64 form,.slice a ls.length c] w (AB λ v w'=>Aj5 form ls w w' v):=by
 apply R.Od
 delta R.Ad R.B R.BL R.Cb R.Cf R.Ci R.Cs R.F R.H R.I R.J R.Ks R.Lt R.M R.N R.O R.Qi R.Hz R.Rm R.Ru R.S R.T R.U R.W R.Wb R.Wu R.X;try dsimp only [R.Ps]
 have bad:¬ ED form ls->Aj5 form ls w w (.tuple #[.slice none 0 0,.int .i64 2]):=λ h=>.inl ⟨h,rfl,.refl _ _⟩;refine Aa (λ h=>bad λ hk=>by have:=hk.1;omega) (λ h1=>Aa (λ h=>bad λ hk=>by have:=hk.2.1;omega) (λ h2=>Aa (λ h=>bad λ hk=>by have:=hk.2.2.1;omega) (λ h3=>(Rv hl hn).mono ?_)));rintro _ w ⟨_,rfl,rfl,rfl⟩;refine⟨_,rfl,AU (λ h=>bad λ hk=>by have:=hk.2.2.2;rw [h] at this;cases this) (λ dU=>?_)⟩;have ar:ED form ls:=⟨by omega,by omega,by omega,dU⟩;have hz:=HI dU;have nF:ls.length<=4096:=by omega
 have hlen:=Iw hz;refine Az (λ h0=>?_) (λ h0=>?_)
 ·subst h0;refine (SH.start (λ _=>False) w).Aj λ b5 w2 ij B2 S2=>(Oe (hl.grown B2) nF hz).mono ?_;rintro _ w3 ⟨_,rfl,a3,c3,rfl,h3⟩;have S3:=S2.grown h3.An;refine⟨_,_,_,rfl,S3.Aj λ b8 w4 xY B4 S4=>?_⟩;have hp:Rd w4 (some ⟨b8,0,none⟩) ([(some ⟨b5,0,none⟩,1,[0]),(a3,c3,BD ls)].map BQ):=by
   have:=Rd.Ak (S4.get 0 rfl);simpa [BQ] using this
  have qb:Rd w4 (some ⟨b5,0,none⟩) ([0].map Af):=by
   have:=Rd.Ak (S4.get 1 rfl);simpa [Af] using this
  refine (Bf (c:=2) [(some ⟨b5,0,none⟩,1,[0]),(a3,c3,BD ls)] hp (λ p hp=>?_) (by simp) (by rw [TG];simp;omega)).mono ?_
  ·simp only [Anh,AoB,or_false] at hp;rcases hp with rfl | rfl
   ·exact qb
   ·exact (h3.grown B4).rd
  rintro _ w5 ⟨_,rfl,a5,c5,rfl,h5⟩;refine⟨_,_,_,rfl,.inr ⟨ar,0 :: BD ls,a5,c5,.plain,?_,?_⟩⟩
  ·rw [TG];rfl
  ·rw [TG] at h5;exact h5.before S4.below
 ·have gh:form=1:=by omega
  subst gh;have m4:8193<=maxLen:=by decide
  refine Ag0 λ b w6 hb B6 M6=>⟨_,rfl,?_⟩;have M6':Ad0 w6 b 0 (g1 ((ls.take 0).map bl)):=by
   have:g1 ((ls.take 0).map bl)=λ _=>none:=by funext x;simp [g1]
   rw [this];exact M6
  refine⟨λ s w7=>∃ k:Nat,k<=ls.length/\s=[.int .i64 (k:Int)]/\Ad0 w7 b k (g1 ((ls.take k).map bl))/\Ae (·=b) w6 w7,λ s _=>match s with
    | [.int _ i]=>ls.length-i.toNat
    | _=>0,⟨0,by omega,rfl,M6',.refl _ _⟩,?_⟩
  rintro _ w7 ⟨k,hk,hs,M7,K7⟩;cases hs;have B7:Below w.heap.size w w7:=B6.trans (K7.below B6.size λ k hk he=>by omega);refine Aa (λ aB=>⟨⟨by omega,aB⟩,?_⟩) (λ aL=>?_)
  ·have aq:k<ls.length:=by omega
   obtain⟨p,rfl,hc⟩:=NC (hl.grown B7) aq;have av:=hz _ (Aot aq);refine⟨_,by rw [AnF];exact hc,M7.put JF Yj Yi (by omega) (by omega) (by decide) λ w8 K8 M8=>?_⟩;rw [AiA aq] at M8;rw [Ai (by omega)];refine⟨⟨k+1,by omega,rfl,M8,K7.trans K8 (λ _ _ h=>h)⟩,?_⟩;simp only [AnF];omega
  have gO:k=ls.length:=by omega
  rw [gO,Aoz] at M7;refine (Vq M7 nF (ls:=ls.map bl) (λ x=>by unfold g1;split <;> simp [*]) (k:=λ v w'=>∃ a c t,v=.slice a t.length c/\HS (ls.map bl) t/\Row w' ty.string 1 a t.length c (t.map encStr)/\(∀ k,AG a=some k->w7.heap.size<=k)/\Below w7.heap.size w7 w')
   (λ a c t w' q1 q2 q3 q4=>⟨a,c,t,rfl,q1,q2,q3,q4⟩)).mono ?_
  rintro _ w9 ⟨fn,fi,ca,rfl,hS⟩;refine⟨_,_,_,rfl,hS.mono ?_⟩;rintro _ cX ⟨aT,lT,cT,rfl,vl,wM,t,ht,hr,mA,bA,eB⟩;obtain⟨rfl,rfl,rfl⟩:aT=vl/\lT=t.length/\cT=wM:=by cases ht;exact⟨rfl,rfl,rfl⟩
  refine⟨_,_,_,rfl,?_⟩;have cI:=M7.lt;have uz:=M7.kept (Ae.Al (F:=λ _=>False) eB) (by simp);have eo:=KT hr.up;have fE:t.length<=ls.length:=by
   have:=LZ eo (λ x hx=>(hr.mem x).1 hx);simpa using this
  have kR:∀ s∈t.map CA,s.size<=1024:=by
   intro s hs;obtain⟨x,hx,rfl⟩:=Ang.1 hs;obtain⟨s',de,rfl⟩:=Ang.1 ((hr.mem x).1 hx);rw [DH];exact hz s' de
  rw [Ai4] at mA;have uA:(t.map CA).length=t.length:=by simp
  have M10':Ad0 cX b (ls.length+0) (g2 (ls.map bl) t 0):=by
   have:g2 (ls.map bl) t 0=g1 (ls.map bl):=by funext x;simp [g2]
   rw [this];exact uz
  have far:∀ p,aT=some p->¬ p.block=b:=by
   intro p hp he;have:=bA p.block (by rw [hp];rfl);omega
  refine⟨λ s aW=>∃ i:Nat,i<=t.length/\s=[.int .i64 (i:Int)]/\Ad0 aW b (ls.length+i) (g2 (ls.map bl) t i)/\Ae (·=b) cX aW,λ s _=>match s with
    | [.int _ i]=>t.length-i.toNat
    | _=>0,⟨0,by omega,rfl,M10',.refl _ _⟩,?_⟩
  rintro _ aW ⟨i,hi,hs,pA,dm⟩;cases hs;have jL:Rd aW aT ((t.map CA).map Value.string):=mA.rd.keeps dm far;refine Aa (λ aB=>⟨⟨by omega,aB⟩,?_⟩) (λ aL=>?_)
  ·have aF:i<t.length:=by omega
   obtain⟨p,hp,hc⟩:=NC jL (by rw [uA];exact aF);subst hp;have av:(CA t[i]).size<=1024:=kR _ (Ang.2 ⟨_,Aot aF,rfl⟩);rw [List.getElem_map] at hc;refine⟨_,by rw [AnF];exact hc,?_⟩;rw [Ar (by omega) (by omega)];refine pA.put JF Yj Yi (by omega) (by omega) (by simp [Lit.wf,IntKind.min,IntKind.max,IntKind.signed,IntKind.bits];omega) λ dN uu sv=>?_;rw [Dq,AiB eo aF] at sv;rw [Ai (by omega)];refine⟨⟨i+1,by omega,rfl,sv,dm.trans uu (λ _ _ h=>h)⟩,?_⟩;simp only [AnF];omega
  have xn:i=t.length:=by omega
  rw [xn] at pA;have dO:Below w.heap.size w aW:=by
   have B0:Below w.heap.size w cX:=B7.trans (eB.mono B7.size);exact B0.trans (dm.below B0.size λ k hk he=>by omega)
  refine⟨λ s bN=>∃(kk:Nat) (pa:Option Addr) (pc:Nat),s=[.slice pa kk pc,.int .i64 (kk:Int)]/\kk<=ls.length/\Row bN ty.uint64 1 pa kk pc ((BA t (ls.take kk)).map Hr)/\(∀ k,AG pa=some k->aW.heap.size<=k)/\Below aW.heap.size aW bN,λ s _=>match s with
    | [_,.int _ i]=>ls.length-i.toNat
    | _=>0,⟨0,none,0,rfl,by omega,Row.nil _ _ _,by simp [AG],.refl _ _⟩,?_⟩
  rintro pa kk pc _ bN ⟨_,_,_,hs,aq,jm,jW,gR⟩;cases hs;have Bw13:Below w.heap.size w bN:=dO.trans (gR.mono dO.size);have vA:=pA.kept (Ae.Al (F:=λ _=>False) gR) (by simp);refine Aa (λ aB=>⟨⟨by omega,aB⟩,?_⟩) (λ aL=>?_)
  ·have ej:kk<ls.length:=by omega
   obtain⟨p,hp,hc⟩:=NC (hl.grown Bw13) ej;subst hp;have av:=hz _ (Aot ej);have cB:bl ls[kk]∈t:=(hr.mem _).2 (Ang.2 ⟨_,Aot ej,rfl⟩);have mj:(g2 (ls.map bl) t t.length (bl ls[kk])).getD 0=(t.idxOf (bl ls[kk]):Int):=by
    unfold g2;rw [Aoz,if_pos cB];rfl
   refine⟨_,by rw [AnF];exact hc,vA.get JF Yj Yi (Ah0 _) (by omega) ?_⟩;rw [mj];refine⟨_,rfl,(SH.start (λ _=>False) bN).Aj λ vq ay xS eL gH=>?_⟩;have aZ:Rd ay (some ⟨vq,0,none⟩) [Hr (t.idxOf (bl ls[kk]))]:=by
    have:=Rd.Ak (gH.get 0 rfl);simpa [Hr] using this
   obtain⟨a5,c5,dY,aD,aG,dF,hnw⟩:=Bq (ty:=ty.Ih) (mc:=1) tU rfl (by omega) (by omega) (jm.grown eL) aZ (m:=1) rfl (by simp [Hr];rfl) (by omega);unfold CD;rw [aD];refine⟨_,_,_,rfl,?_⟩;have B15':Below aW.heap.size aW ay:=gR.trans (eL.mono gR.size);rw [Ai (by omega)];refine⟨⟨kk+1,a5,c5,rfl,by omega,?_,λ k hk=>?_,B15'.trans (dF.below B15'.size λ k hk he=>by have:=jW k he;omega)⟩,?_⟩
   ·have:BA t (ls.take (kk+1))=BA t (ls.take kk)++[t.idxOf (bl ls[kk])]:=by
     unfold BA;rw [Aou ej,Aov];rfl
    rw [this,Aov];exact aG
   ·rcases hnw k hk with h | h
    ·exact jW k h
    ·exact AnJ B15'.size h
   ·simp only [AnF];omega
  have mw:kk=ls.length:=by omega
  subst mw;rw [Aoz] at jm;have bS:(BA t ls).length=ls.length:=by simp [BA]
  have re:∀ x∈BA t ls,x<4097:=by
   intro x hx;obtain⟨s,hs,rfl⟩:=Ang.1 hx;have:=List.idxOf_le_length (l:=t) (a:=bl s);omega
  have tj:=jm.rd;rw [<- bS];refine (H0 tj (by omega) (λ x hx=>by have:=re x hx;omega)).mono ?_;rintro _ gF ⟨_,rfl,wd,rfl,lD,dW,rfl⟩;refine⟨_,rfl,(Jr tj (by omega) dW ((Jo _ _).1 lD.1)).mono ?_⟩;rintro _ gG ⟨_,rfl,tC,tM,rfl,iG⟩;refine⟨_,_,_,_,rfl,(SH.start (λ _=>False) gG).Aj λ tF jD qX ox iS=>?_⟩;have mN:Rd jD (some ⟨tF,0,none⟩) ([1].map Af):=by
   have:=Rd.Ak (iS.get 0 rfl);simpa [Af] using this
  rw [Ar (by omega) (by omega)];refine (Bt (c:=1) [1] mN t.length (by omega) (by simp)).mono ?_;rintro _ iP ⟨_,rfl,a20,wJ,rfl,jg⟩;have o6:Below aW.heap.size aW iP:=by
   refine gR.trans ((iG.An.mono gR.size).trans ?_);exact (ox.mono (AnJ gR.size iG.An.size)).trans (jg.An.mono (AnJ gR.size (AnJ iG.An.size ox.size)))
  have ly:=jL.grown o6;refine⟨_,_,_,rfl,?_⟩;rw [<- uA];refine (Oe (c:=cT) ly (by omega) kR).mono ?_;rintro _ iQ ⟨_,rfl,a21,wK,rfl,ld⟩;refine⟨_,_,_,rfl,(SH.start (λ _=>False) iQ).Aj λ tG kZ qY lK gI=>gI.Aj λ vw ka xX ny fp=>?_⟩;rw [Bh (by omega) (by omega)] at gI fp;obtain⟨ps,cU⟩:∃ ps:List Hx,ps=[(a20,wJ,[1]++Ag t.length),(a21,wK,BD (t.map CA)),(some ⟨tG,0,none⟩,1,[AnG wd]),(tC,tM,Ba (BA t ls) wd)]:=⟨_,rfl⟩;have hp:Rd ka (some ⟨vw,0,none⟩) (ps.map BQ):=by
   have:=Rd.Ak (fp.get 0 rfl);rw [cU];simpa [BQ] using this
  have n23:=Ac lK ny;have yE:∀ p∈ps,Rd ka p.1 (p.2.2.map Af):=by
   intro p hp;rw [cU] at hp;simp only [Anh,AoB,or_false] at hp;rcases hp with rfl | rfl | rfl | rfl
   ·exact (jg.rd.grown ld.An).grown n23
   ·exact ld.rd.grown n23
   ·have:=Rd.Ak (fp.get 1 rfl);simpa [DO (show wd<256 by omega)] using this
   ·exact ((((iG.rd.grown ox).grown jg.An).grown ld.An).grown n23)
  have eg:BJ ps=(1 :: Ag t.length)++(BD (t.map CA)++(AnG wd :: Ba (BA t ls) wd)):=by
   rw [cU];simp [BJ]
  have l1:=Aq (n:=t.length) (by omega);have l2:=Iw kR;have l3:=CH (BA t ls) wd;have l4:EI (BA t ls).length wd<=4096*64+7:=by
   unfold EI;have:(BA t ls).length*wd<=4096*64:=Nat.mul_le_mul (by omega) dW;omega
  have rZ:ps.length=4:=by rw [cU];rfl
  have fP:=Bf (c:=4) ps hp yE (by omega) (by rw [eg];simp only [Anp,AnQ];omega);rw [rZ] at fP;refine fP.mono ?_;rintro _ nq ⟨_,rfl,a24,pU,rfl,pk⟩;rw [eg] at pk ⊢;refine⟨_,_,_,rfl,.inr ⟨ar,_,a24,pU,.table t wd hr lD,rfl,pk.before ?_⟩⟩;exact (dO.trans (o6.mono dO.size)).trans (((ld.An).mono (AnJ dO.size o6.size)).trans (n23.mono (AnJ (AnJ dO.size o6.size) ld.An.size)))
end
structure PA(w w':World)(xs:List Nat)(a:Option Addr)(c:Nat):Prop where
 row:Row w' ty.uint64 1 a xs.length c (xs.map Hr)
 new:∀ k,AG a=some k->w.heap.size<=k
 An:Below w.heap.size w w'
theorem PA.nil(w:World):PA w w [] none 0:=⟨Row.nil _ _ _,by simp [AG],.refl _ _⟩
theorem PA.grown{w w1 w2:World}{xs:List Nat}{a:Option Addr}{c:Nat}(h:PA w w1 xs a c)(hb:Below w1.heap.size w1 w2):PA w w2 xs a c:=⟨h.row.grown hb,h.new,Ac h.An hb⟩
theorem IX{w w1:World}{a:Option Addr}{c:Nat}{xs:List Nat}(h:PA w w1 xs a c)(hl:xs.length+1<=1000000){x:Nat}{v:Value}(hv:v=Hr x){b:Nat}{t:TypeId}(hb:w1.heap[b]?=some (.cells #[v] t (0,0))){f:Value->World->Prop}
  (hf:∀ a' c' w',PA w w' (xs++[x]) a' c'->f (.slice a' (xs++[x]).length c') w'):CD Tryz.prog (Builtin.append_ #[ty.Ih,ty.Ih] ty.Ih #[.slice a xs.length c,.slice (some ⟨b,0,none⟩) 1 1]) f w1:=by
 subst hv;have aZ:Rd w1 (some ⟨b,0,none⟩) ([x].map Hr):=by
  have:=Rd.Ak hb;simpa using this
 obtain⟨a5,c5,w2,aD,aG,dF,hnw⟩:=Bq (ty:=ty.Ih) (mc:=1) tU rfl (by omega) (by omega) h.row aZ (m:=1) rfl (by simp [Hr];rfl) (by omega);unfold CD;rw [aD];have e:xs.length+1=(xs++[x]).length:=by simp
 rw [e] at aG ⊢;refine hf a5 c5 w2 ⟨by rw [Aov];exact aG,λ k hk=>?_,h.An.trans (dF.below h.An.size λ k hk he=>by have:=h.new k he;omega)⟩;rcases hnw k hk with h1 | h1
 ·exact h.new k h1
 ·exact AnJ h.An.size h1
theorem Ga{w:World}{a:Option Addr}{l:List Int}(hl:Rd w a (l.map DK)){i:Nat}(hi:i<l.length):∃ p,a=some p/\w.cell? (p.add (i*1))=some (.int .i64 l[i]):=by
 obtain⟨p,hp,hc⟩:=hl i (DK l[i]) (by simp [hi]);exact⟨p,hp,by rw [AnI];exact hc⟩
theorem TR{w:World}{a:Option Addr}{l:List Int}(hl:Rd w a (l.map DK))(h0:0<l.length):∃ p,a=some p/\w.cell? p=some (.int .i64 (l.headD 0)):=by
 obtain⟨p,hp,hc⟩:=Ga hl h0;rw [AoC,CS] at hc;refine⟨p,hp,?_⟩;rw [hc];cases l with
 | nil=>simp at h0
 | cons y l=>rfl
theorem GV{l:List Int}{i:Nat}(h:i<l.length):l.getD i 0=l[i]:=by simp [h]
section
variable {w0 w:World}{ba a:Option Addr}{bc c:Nat}{bs:List UInt8}{l:List Int}
theorem AaN{l:List Int}{i:Nat}(hi:i+1<l.length):(CC l).take (i+1)=(CC l).take i++[Fk (IntKind.i64.wrap (l[i+1]-l[i]))]:=by
 have hl:i<(CC l).length:=by simp [CC];omega
 rw [Aou hl];congr 2;simp only [CC,List.getElem_map,List.getElem_range];rw [GV hi,GV (by omega)]
theorem ZH{l:List Int}{i:Nat}(hi:i<l.length):(CU l).take (i+1)=(CU l).take i++[(l[i]-HZ l).toNat]:=by
 have hl:i<(CU l).length:=by simpa [CU] using hi
 rw [Aou hl];congr 2;simp [CU]
theorem Wi{l:List Int}(h0:0<l.length):Fp l 1=l.headD 0:=by
 cases l with
 | nil=>simp at h0
 | cons y l=>simp [Fp]
end
def Nd(f:Int)(l:List Int):Prop:=0<=f/\f<=3/\l.length<=4096
instance (f:Int) (l:List Int):Decidable (Nd f l):=by unfold Nd;infer_instance
def QH(f:Int)(l:List Int)(w w':World)(r:Value):Prop :=
 (¬ Nd f l/\r=.tuple #[.slice none 0 0,.int .i64 2]/\Below w.heap.size w w')\/(Nd f l/\∃ a c,r=.tuple #[.slice a (DR f.toNat l).length c,.int .i64 0]/\Dh w w' (DR f.toNat l) a c)
theorem Xp{l:List Int}{k:Nat}(hk:k<l.length):(l.take (k+1)).flatMap E6=(l.take k).flatMap E6++E6 l[k]:=by
 rw [Aou hk,List.flatMap_append];simp
theorem ZR(w:World){d:Int}(h:Hw d):Calls Tryz.prog f.AgK #[.int .i64 d] w (AB λ v w'=>w'=w/\v=.int .u64 (Fk d:Int)):=by
 apply R.TX
 delta R.U R.W R.Wu;try dsimp only [R.Ps]
 rw [Abb h.1 h.2];exact⟨rfl,rfl⟩
theorem KG{w:World}{a:Option Addr}{c:Nat}{s:List Nat}{fm:Nat}(hf:fm<256){first:Int}(kr:Hw first)(hs:Rd w a (s.map Hr))(hn:s.length<=4096)(hx:∀ x∈s,x<18446744073709551616) :
  Calls Tryz.prog f.ZP #[.int .u8 (fm:Int),.int .i64 first,.slice a s.length c] w (AB λ v w'=>∃ a' c',v=.slice a' (AnG fm :: E4 first s).length c'/\Dh w w' (AnG fm :: E4 first s) a' c'):=by
 apply R.OB
 delta R.B R.BL R.Ci R.Cs R.I R.J R.N R.S R.Wb;try dsimp only [R.Ps]
 refine (H0 hs (by omega) hx).mono ?_;rintro _ w ⟨_,rfl,wd,rfl,lD,dW,rfl⟩;obtain rfl:=lD.one (XB _);refine⟨_,rfl,(Jr hs hn dW ((Jo _ _).1 lD.1)).mono ?_⟩;rintro _ w2 ⟨_,rfl,a2,c2,rfl,h2⟩;obtain⟨wd,hwdd⟩:∃ wd,wd=GZ (Mf s):=⟨_,rfl⟩;rw [<- hwdd] at h2 lD dW ⊢;have l3:=CH s wd;have l4:EI s.length wd<=4096*64+7:=by
  unfold EI;have:s.length*wd<=4096*64:=Nat.mul_le_mul (by omega) dW;omega
 refine⟨_,_,_,_,rfl,(SH.start (λ _=>False) w2).Aj λ b3 w3 cf B3 S3=>?_⟩;have yH:Rd w3 (some ⟨b3,0,none⟩) ([AnG fm].map Af):=by
  have:=Rd.Ak (S3.get 0 rfl);simpa [DO hf] using this
 refine (Ff (c:=1) [AnG fm] yH first kr.1 kr.2 (by simp)).mono ?_;rintro _ w4 ⟨_,rfl,a4,c4,rfl,h4⟩;rw [Bh (by omega) (by omega)];refine⟨_,_,_,rfl,(SH.start (λ _=>False) w4).Aj λ b5 w5 ij B5 S5=>S5.Aj λ b6 w6 kn B6 S6=>?_⟩;have hd:=Aq (HP kr.1 kr.2);have hc:=Bf (w:=w6) (a:=some ⟨b6,0,none⟩) (c:=3) [(a4,c4,[AnG fm]++Ag (Fk first)),(some ⟨b5,0,none⟩,1,[AnG wd]),(a2,c2,Ba s wd)] (by
   have:=Rd.Ak (S6.get 0 rfl);simpa [BQ] using this) (by
   intro p hp;simp only [Anh,AoB,or_false] at hp;rcases hp with rfl | rfl | rfl
   ·exact (h4.rd.grown B5).grown B6
   ·have:=Rd.Ak (S6.get 1 rfl);simpa [DO (show wd<256 by omega)] using this
   ·exact (((h2.rd.grown B3).grown h4.An).grown B5).grown B6) (by simp) (by rw [VZ];simp;omega)
 refine hc.mono ?_;rintro _ w7 ⟨_,rfl,a7,c7,rfl,h7⟩;rw [VZ] at h7 ⊢;have e:[AnG fm]++Ag (Fk first)++([AnG wd]++Ba s wd)=AnG fm :: E4 first s:=by simp [E4,E6,hwdd]
 simp only at h7 ⊢;rw [e] at h7 ⊢;exact⟨_,_,_,rfl,a7,c7,rfl,h7.before (Ac (Ac (Ac (Ac h2.An B3) h4.An) B5) B6)⟩
section
variable {w:World}{a:Option Addr}{c:Nat}{l:List Int}
theorem Vp(hl:Rd w a (l.map DK))(h0:0<l.length)(hn:l.length<=1000000) :
  Calls Tryz.prog f.JB #[.slice a l.length c] w (AB λ v w'=>w'=w/\v=.int .i64 (HZ l)):=by
 apply R.Gi
 delta R.Ad R.F R.I R.Li R.U0 R.W R.X;try dsimp only [R.Ps]
 obtain⟨p,rfl,aJ⟩:=TR hl h0;refine Aa (λ h=>by omega) (λ _=>⟨⟨by omega,by omega⟩,_,aJ,?_⟩);refine⟨λ s w1=>w1=w/\∃ i:Nat,i<=l.length/\s=[.int .i64 (Fp l i),.int .i64 (i:Int)],λ s _=>match s with
   | [_,.int _ i]=>l.length-i.toNat
   | _=>0,⟨rfl,1,by omega,by rw [Wi h0];rfl⟩,?_⟩
 rintro _ _ w1 ⟨rfl,i,hi,aA⟩;cases aA;refine Aa (λ aB=>⟨⟨by omega,aB⟩,?_⟩) (λ aL=>⟨rfl,?_⟩)
 ·have aF:i<l.length:=by omega
  obtain⟨p',bj,hc⟩:=Ga hl aF;cases bj;refine⟨_,by rw [AnF];exact hc,?_⟩;rw [Ai (by omega),<- Ue aF];refine⟨⟨rfl,i+1,by omega,rfl⟩,?_⟩;simp only [AnF];omega
 ·have:i=l.length:=by omega
  subst this;rfl
theorem AdE{q:Nat}{vs:List Value}(h:Rd w a vs)(hc:vs.length<=c):Rd w (Cc a q c 1) (vs.drop q):=by
 have h:=h.Yr q vs.length c 1 hc;rw [AnI,AnI] at h;have e:(vs.drop q).take (vs.length-q)=vs.drop q:=Aoy (by simp);rwa [e] at h
theorem TT:Calls Tryz.prog f.Q1 #[.slice a l.length c] w (AB λ v w'=>∃ b,v=.func (.func f.Ky) #[] #[.pointer (some ⟨b,0,none⟩)]/\SH (λ _=>False) w w' [(b,#[.slice a l.length c],ty.AY)]):=by
 apply R.OA
 delta R.J R.N R.P R.S;try dsimp only [R.Ps]
 exact (SH.start (λ _=>False) w).Aj λ b1 w1 _ _ S1=>⟨b1,rfl,S1⟩
theorem Xv{L b:Nat}(hc:l.length<=c)(hn:l.length<=1000000)(J:Nat->World->Prop)(aU:∀ k w,J k w->Rd w a (l.map DK))(fV:∀ k w w',J k w->Ae (·=b) w w'->J k w')
  (bD:∀ k n w,k<l.length->AfI l k n->J k w->GJ Tryz.prog L #[.int .i64 (n:Int),.int .i64 (l.getD k 0)] (λ y w'=>y=true/\J (k+n) w'/\w'.heap[b]?=w.heap[b]?) w)
  (h0:J 0 w) (hb:w.heap[b]?=some (.cells #[.slice a l.length c] ty.AY (0,0))) :
  Calls Tryz.prog f.Ky #[.func (.yield L) #[] #[],.pointer (some ⟨b,0,none⟩)] w (AB λ _ w'=>J l.length w'):=by
 apply R.KA
 delta R.A R.Ad R.D R.F R.H R.I R.Li R.Ls R.Q R.Qi R.S R.Ah R.W R.X R.Y R.Zi;try dsimp only [R.Ps]
 have cell_of:∀ {w':World} {v:Value},w'.heap[b]?=some (.cells #[v] ty.AY (0,0))->w'.cell? ⟨b,0,none⟩=some v:=λ h=>by simp [World.cell?,h]
 refine⟨λ s w1=>s=[]/\∃(k:Nat) (ak:Option Addr) (ck:Nat),k<=l.length/\J k w1/\w1.heap[b]?=some (.cells #[.slice ak (l.length-k) ck] ty.AY (0,0))/\l.length-k<=ck/\(∀ w,Rd w a (l.map DK)->Rd w ak ((l.drop k).map DK)),λ _ w=>match w.cell? ⟨b,0,none⟩ with
   | some (.slice _ n _)=>n
   | _=>0,⟨rfl,0,a,c,by omega,h0,by simpa using hb,by omega,λ w h=>by simpa using h⟩,?_⟩
 rintro w1 ⟨_,k,ak,ck,hk,hj,dC,kq,hr⟩;refine⟨_,_,_,cell_of dC,Aa (λ fA=>?_) (λ hz=>?_)⟩
 ·have aq:k<l.length:=by omega
  refine⟨λ s w4=>∃ n:Nat,s=[.int .i64 (n:Int)]/\AfI l k n/\J k w4/\w4.heap[b]?=some (.cells #[.slice ak (l.length-k) ck] ty.AY (0,0)),?_,?_⟩
  ·have one:∀ j,j<1->l[k+j]?=l[k]?:=by
    intro j hj;have:j=0:=by omega
    subst this;rfl
   refine⟨λ s w2=>∃ n:Nat,s=[.int .i64 (n:Int)]/\0<n/\k+n<=l.length/\(∀ j,j<n->l[k+j]?=l[k]?)/\J k w2/\w2.heap[b]?=some (.cells #[.slice ak (l.length-k) ck] ty.AY (0,0)),λ s _=>match s with
     | [.int _ i]=>l.length-i.toNat
     | _=>0,⟨1,rfl,by omega,by omega,one,hj,dC⟩,?_⟩
   rintro _ w2 ⟨n,aA,cZ,er,aE,ku,d'⟩;cases aA;unfold WM;have kv:J k w2.drew:=fV _ _ _ ku ((Ae.refl _ _).drew);have cf:w2.drew.heap[b]?=some (.cells #[.slice ak (l.length-k) ck] ty.AY (0,0)):=d';refine⟨_,_,_,cell_of cf,Aa (λ aB=>?_) (λ aL=>⟨n,rfl,⟨cZ,er,aE,.inl (by omega)⟩,kv,cf⟩)⟩;have oV:=hr _ (aU _ _ kv);have iq:k+n<l.length:=by omega
   have il:n<(l.drop k).length:=by rw [AnC];omega
   have mY:0<(l.drop k).length:=by omega
   obtain⟨p,rfl,eV⟩:=Ga oV il;obtain⟨p',bj,cR⟩:=Ga oV mY;cases bj;rw [AoC,CS] at cR;refine⟨_,_,_,cell_of cf,⟨by omega,by omega⟩,_,by rw [AnF];exact eV,_,_,_,cell_of cf,⟨by omega,by omega⟩,_,cR,?_⟩;have e1:(l.drop k)[n]=l[k+n]:=by simp
   have e2:(l.drop k)[0]=l[k]:=by simp
   rw [e1,e2];refine Az (λ he=>?_) (λ aQ=>⟨n,rfl,⟨cZ,er,aE,.inr ?_⟩,kv,cf⟩)
   ·rw [Ai (by omega)];refine⟨⟨n+1,rfl,by omega,by omega,λ j hj=>?_,kv,cf⟩,?_⟩
    ·rcases AoA j n with h | h
     ·exact aE j h
     ·have:j=n:=by omega
      subst this;rw [AnB iq,AnB aq,he]
    ·simp only [AnF];omega
   ·rw [AnB iq,AnB aq];simpa using aQ
  rintro _ w4 ⟨n,aA,aD,u9,jM⟩;cases aA;have nE:=aD.pos;have kL:=aD.le;have oV:=hr _ (aU _ _ u9);have mY:0<(l.drop k).length:=by rw [AnC];omega
  obtain⟨p',bj,cR⟩:=Ga oV mY;subst bj;rw [AoC,CS] at cR;have e2:(l.drop k)[0]=l.getD k 0:=by simp [aq]
  rw [e2] at cR;refine⟨_,_,_,cell_of jM,⟨by omega,by omega⟩,_,cR,?_⟩;obtain⟨fn,tm,Rx,bo,hy,iM⟩:=bD k n w4 aq aD u9;refine⟨fn,tm,Rx,bo,hy,iM.mono ?_⟩;rintro e w5 ⟨y,he,rfl,oQ,ij⟩;rw [jM] at ij;refine⟨true,he,Aw ⟨_,_,_,cell_of ij,⟨by omega,by omega,by omega⟩,?_⟩⟩;rw [AnF];refine Fb ij (by simp) λ w6 K6 kn=>?_;have jt:w6.heap[b]?=some (.cells #[.slice (Cc (some p') n ck 1) (l.length-k-n) (ck-n)] ty.AY (0,0)):=kn;have ek:l.length-k-n=l.length-(k+n):=by omega
  rw [ek] at jt;refine⟨⟨rfl,k+n,_,_,by omega,fV _ _ _ oQ K6,jt,by omega,λ w h=>?_⟩,?_⟩
  ·have:=AdE (q:=n) (c:=ck) (hr w h) (by simp;omega);rwa [<- List.map_drop,List.drop_drop] at this
  ·show (match w6.cell? ⟨b,0,none⟩ with | some (.slice _ n _)=>n | _=>0)<(match w1.cell? ⟨b,0,none⟩ with | some (.slice _ n _)=>n | _=>0);rw [cell_of jt,cell_of dC];simp only;omega
 ·have:k=l.length:=by omega
  subst this;exact hj
end
theorem cell0{w:World}{b:Nat}{v:Value}{t:TypeId}{f:Nat × Nat}(h:w.heap[b]?=some (.cells #[v] t f)):w.cell? ⟨b,0,none⟩=some v:=by simp [World.cell?,h]
section
variable {w:World}{a:Option Addr}{c:Nat}{l:List Int}
structure DZ(w:World)(b4:Nat)(F:Nat->Prop)(wx:World)(bs:List UInt8):Prop where
 ex:∃(ba:Option Addr) (bc:Nat),wx.heap[b4]?=some (.cells #[.slice ba bs.length bc] ty.AA (0,0))/\Row wx ty.uint8 1 ba bs.length bc (bs.map Af)/\∀ x,AG ba=some x->w.heap.size<=x/\x≠b4/\¬ F x
theorem DZ.keeps{w wx wy:World}{b4:Nat}{F G:Nat->Prop}{bs:List UInt8}(h:DZ w b4 F wx bs)(K:Ae G wx wy)(h4:¬ G b4)(hG:∀ x,G x->F x\/wx.heap.size<=x):DZ w b4 F wy bs:=by
 obtain⟨ba,bc,h1,h2,h3⟩:=h.ex;refine⟨ba,bc,K.at h1 h4,h2.keeps K λ x hx hg=>?_,h3⟩;rcases hG x hg with h | h
 ·exact (h3 x hx).2.2 h
 ·have:=h2.lt hx;omega
theorem Xy{w w3:World}{b4:Nat}(hl:Rd w a (l.map DK))(hc:l.length<=c)(hn:l.length<=4096)(hx:∀ x∈l,Hw x)(B:Below w.heap.size w w3)(qX:w.heap.size<=b4)
  (hH:DZ w b4 (λ _=>False) w3 [1]) {k:Value->World->Prop} (hk:∀ w',Below w.heap.size w w'->DZ w b4 (λ _=>False) w' (DR 1 l)->∀ ba bc,w'.cell? ⟨b4,0,none⟩=some (.slice ba (DR 1 l).length bc)->k (.tuple #[.slice ba (DR 1 l).length bc,.int .i64 0]) w') :
  Calls Tryz.prog f.Q1 #[.slice a l.length c] w3 (λ e_15 w7=>∃(t52_14:FuncId) (t52_14f t52_14c:Array Value),e_15=.returned (.func (.func t52_14) t52_14f t52_14c)/\enters Tryz.prog t52_14=true/\∀ rr_16:Loop,rr_16.state=.ready->rr_16.pending=none->(∀(t53_17:Int),∀(t54_18:Int),∀(k_16:Bool->World->Prop) (w8:World),w8.heap[(w7.heap.size+1)]?=some (.loop rr_16)->(Ic rr_16 (w7.heap.size+1) (λ w9=>∃(t55_19:Option Addr) (t55_19l t55_19c:Nat),w9.cell? ⟨b4,0,none⟩=some (.slice t55_19 t55_19l t55_19c) /\
   Calls Tryz.prog f.Rp #[.slice t55_19 t55_19l t55_19c,.int .u64 (IntKind.u64.wrap (t53_17))] w9 (λ e_21 cX=>∃(t58_20:Option Addr) (t58_20l t58_20c:Nat),e_21=.returned (.slice t58_20 t58_20l t58_20c)/\Calls Tryz.prog f.Rq #[.slice t58_20 t58_20l t58_20c,.int .i64 t54_18] cX (λ e_23 aW=>∃(t60_22:Option Addr) (t60_22l t60_22c:Nat),e_23=.returned (.slice t60_22 t60_22l t60_22c)/\Cd ⟨b4,0,none⟩ (.slice t60_22 t60_22l t60_22c) (λ dN=>Bv rr_16 (w7.heap.size+1) k_16 none dN) aW))) w8)->GJ Tryz.prog (w7.heap.size+1) #[.int .i64 t53_17,.int .i64 t54_18] k_16 w8) ->
   Calls Tryz.prog t52_14 ⟨t52_14f.toList++[.func (.yield (w7.heap.size+1)) #[] #[]]++t52_14c.toList⟩ ((w7.alloc (.deferred (some []))).alloc (.loop rr_16)) (λ e_24 bN=>(∃ v,e_24=.returned v)/\Ie rr_16 (w7.heap.size+1) (λ j_24 bF=>(j_24=none/\∃(t112_25:Option Addr) (t112_25l t112_25c:Nat),bF.cell? ⟨b4,0,none⟩=some (.slice t112_25 t112_25l t112_25c)/\bF.heap[w7.heap.size]?=some (.deferred (some []))/\k (.tuple #[.slice t112_25 t112_25l t112_25c,.int .i64 0]) (bF.putObj w7.heap.size (.deferred none)))) bN)):=by
 have hlen:=Qw 4096 l hn (by omega) hx;refine TT.mono ?_;rintro _ w9 ⟨_,rfl,bI,rfl,S9⟩;refine⟨_,_,_,rfl,by kernel_rfl,λ rr aA bJ hy=>?_⟩;obtain⟨W1,hW1⟩:∃ W1,W1=(w9.alloc (.deferred (some []))).alloc (.loop rr):=⟨_,rfl⟩;rw [<- hW1];have eM:Below w9.heap.size w9 W1:=by rw [hW1];exact (((Below.refl _ w9).alloc (AnD _) _).alloc (by simp) _)
 have oh:W1.heap.size=w9.heap.size+2:=by rw [hW1];simp
 have fM:W1.heap[w9.heap.size+1]?=some (.loop rr):=by
  rw [hW1];have:=World.alloc_heap_new (w9.alloc (.deferred (some []))) (.loop rr);rwa [World.size_alloc] at this
 have i':W1.heap[w9.heap.size]?=some (.deferred (some [])):=by
  rw [hW1];exact (Below.heap_alloc _ _ _ (by simp)).trans (World.alloc_heap_new w9 _)
 have dP:=Ae.Al (F:=λ _=>False) eM;obtain⟨L,hLd⟩:∃ L,L=w9.heap.size+1:=⟨_,rfl⟩;rw [<- hLd] at fM hy ⊢;obtain⟨ba0,bc0,e1,e2,e3⟩:=hH.ex;have jM:b4<w3.heap.size:=(AnV.1 e1).1;have zk:w3.heap.size<=bI:=by simpa using S9.own (bI,_,_) (AnT ..)
 have xZ:bI<w9.heap.size:=S9.lt (x:=(bI,_,_)) (AnT ..);have gT:=S9.below;have Bw1:Below w.heap.size w W1:=(Ac B gT).trans (eM.mono (Ac B gT).size);have w03:=B.size;have ke:=gT.size;have x9:W1.heap[bI]?=some (.cells #[.slice a l.length c] ty.AY (0,0)):=dP.at (S9.get 0 rfl) (by simp);let F:Nat->Prop:=λ x=>x=L\/x=bI\/x=w9.heap.size;have xA:DZ w b4 F W1 [1]:=by
  refine⟨ba0,bc0,dP.at ((Ae.Al (F:=λ _=>False) gT).at e1 (by simp)) (by simp),(e2.grown gT).grown eM,λ x hx=>⟨(e3 x hx).1,(e3 x hx).2.1,?_⟩⟩;have:=e2.lt hx;show ¬ (x=L\/x=bI\/x=w9.heap.size);omega
 let J:Nat->World->Prop:=λ q wx=>Ae (λ x=>x=b4\/x=L\/x=bI) W1 wx/\wx.heap[L]?=some (.loop rr)/\∃ bs,DZ w b4 F wx bs/\1 :: Fq l=bs++Fq (l.drop q);have low:∀ {w':World},Ae (λ x=>x=b4\/x=L\/x=bI) W1 w'->Below w.heap.size w w':=λ K=>Bw1.trans (K.below Bw1.size λ k hk h=>by omega);have aj:=Xv (w:=W1) (L:=L) (b:=bI) hc (by omega) J (λ q wx hj=>hl.grown (low hj.1)) (λ q wx wy hj K=>by
   obtain⟨j1,j2,bs,j3,j4⟩:=hj;exact⟨j1.trans K (λ x _ h=>.inr (.inr h)),K.at j2 (by show ¬ L=bI;omega),bs,j3.keeps K (by show ¬ b4=bI;omega) (λ x h=>.inl (.inr (.inl h))),j4⟩) (by
  rintro q n wx hq aD ⟨K,hL,bs,qA,hE⟩;obtain⟨ba,bc,f1,f2,f3⟩:=qA.ex;have cI:bs.length<=1+4096*20:=by
   have:=congrArg List.length hE;simp only [Anp,AnQ] at this;omega
  have zv:=aD.le;have cZ:=aD.pos;refine hy _ _ _ wx hL ⟨hL,?_⟩;obtain⟨aW,hw11⟩:∃ aW,aW=wx.putObj L (.loop { rr with state:=.busy }):=⟨_,rfl⟩;rw [<- hw11];have dZ:L<wx.heap.size:=(AnV.1 hL).1;have dm:Ae (λ k=>k=L) wx aW:=by rw [hw11];exact Ay _ _ _
  have gU:aW.heap[L]?=some (.loop { rr with state:=.busy }):=by rw [hw11];exact World.putObj_heap_same dZ
  have g1:=dm.at f1 (show ¬ b4=L by omega);have g2:=f2.keeps dm λ x hx he=>(f3 x hx).2.2 (.inl he);rw [Ar (by omega) (by omega)];refine⟨_,_,_,cell0 g1,(Bt bs g2.rd n (by omega) (by omega)).mono ?_⟩;rintro _ dN ⟨_,rfl,a12,pS,rfl,iY⟩;have d10:=Aq (n:=n) (by omega);have uQ:Hw (l.getD q 0):=by rw [GV hq];exact hx _ (Aot hq)
  refine⟨_,_,_,rfl,(Ff _ iY.rd _ uQ.1 uQ.2 (by rw [Anp];omega)).mono ?_⟩;rintro _ bN ⟨_,rfl,lQ,oA,rfl,jK⟩;have gR:=Ac iY.An jK.An;have iR:=Ae.Al (F:=λ _=>False) gR;have g3:=iR.at g1 (by simp);refine⟨_,_,_,rfl,Fb g3 (by simp) λ bF gS jr=>?_⟩;have s11:aW.heap.size=wx.heap.size:=by rw [hw11];simp
  have sx:=K.size;have yv:=iY.An.size;have cQ:bF.heap[L]?=some (.loop { rr with state:=.busy }):=gS.at (iR.at gU (by simp)) (by show ¬ L=b4;omega);refine⟨cQ,rfl,?_⟩;rw [H6 aA bJ];have gq:L<bF.heap.size:=(AnV.1 cQ).1;have KP:=Ay bF L (.loop rr);have KK:Ae (λ x=>x=b4\/x=L) wx (bF.putObj L (.loop rr)) :=
   (((dm.mono (G:=λ x=>x=b4\/x=L) (λ x _ h=>.inr h)).trans iR (λ x _ h=>h.elim)).trans gS (λ x _ h=>.inl h)).trans KP (λ x _ h=>.inr h)
  have iC:∀ x,AG lQ=some x->wx.heap.size<=x:=λ x hx=>by have:=jK.new x hx;omega
  have vO:Row (bF.putObj L (.loop rr)) ty.uint8 1 lQ (bs++Ag n++Ag (Fk (l.getD q 0))).length oA ((bs++Ag n++Ag (Fk (l.getD q 0))).map Af) :=
   (jK.row.keeps gS λ x hx he=>by have:=iC x hx;have:=(AnV.1 f1).1;omega).keeps KP λ x hx he=>by have:=iC x hx;omega
  refine⟨⟨K.trans KK (λ x _ h=>by rcases h with h | h <;> simp [h]),World.putObj_heap_same gq,_,⟨lQ,oA,?_,vO,λ x hx=>?_⟩,?_⟩,?_⟩
  ·exact KP.at jr (by show ¬ b4=L;omega)
  ·have:=iC x hx;have:=Bw1.size;refine⟨by omega,by omega,?_⟩;show ¬ (x=L\/x=bI\/x=w9.heap.size);omega
  ·rw [hE,Ahu aD];simp [E6]
  ·exact KK.block bI (by omega) (by show ¬ (bI=b4\/bI=L);omega)) ⟨.refl _ _,fM,[1],xA,by simp⟩ x9
 refine aj.mono ?_;rintro _ bF ⟨_,rfl,gS,cQ,bs,qA,hE⟩;have hd:l.drop l.length=[]:=by simp
 rw [hd,L6,List.append_nil] at hE;subst hE;refine⟨⟨_,rfl⟩,none,by rw [H6 aA bJ];exact cQ,rfl,?_⟩;obtain⟨ay,hw15⟩:∃ ay,ay=bF.putObj L (.loop { rr with state:=.exhausted,pending:=none }):=⟨_,rfl⟩;rw [<- hw15];have eN:Ae (λ k=>k=L) bF ay:=by rw [hw15];exact Ay _ _ _
 have sl:=qA.keeps eN (show ¬ b4=L by omega) (λ x h=>.inl (.inl h));have KF:=gS.trans eN (λ x _ h=>.inr (.inl h));have eT:ay.heap[w9.heap.size]?=some (.deferred (some [])):=KF.at i' (by show ¬ (w9.heap.size=b4\/w9.heap.size=L\/w9.heap.size=bI);omega);have KD:=Ay ay w9.heap.size (.deferred none);have uq:=sl.keeps KD (show ¬ b4=w9.heap.size by omega) (λ x h=>.inl (.inr (.inr h)));have eL:=low KF;obtain⟨ba,bc,f1,f2,f3⟩:=sl.ex;obtain⟨tK,tL,f1',f2',f3'⟩:=uq.ex;refine⟨_,_,_,cell0 f1,eT,hk _ (eL.trans (KD.below eL.size λ k hk he=>by omega)) ⟨tK,tL,f1',f2',λ x hx=>⟨(f3' x hx).1,(f3' x hx).2.1,λ h=>h⟩⟩ ba bc ?_⟩;have:=KD.at f1 (show ¬ b4=w9.heap.size by omega);exact cell0 this
theorem GX(form:Int)(hl:Rd w a (l.map DK))(hc:l.length<=c)(hx:∀ x∈l,Hw x) :
  Calls Tryz.prog f.ZO #[.int .i64 form,.slice a l.length c] w (AB λ v w'=>QH form l w w' v):=by
 apply R.Oz
 delta R.A R.Ad R.B R.Cf R.Ci R.Cs R.Cu R.F R.H R.I R.J R.Ks R.Li R.Ls R.N R.O R.Qi R.Hz R.S R.Ah R.U R.W R.Wb R.Wu R.X R.Y;try dsimp only [R.Ps]
 have bad:¬ Nd form l->QH form l w w (.tuple #[.slice none 0 0,.int .i64 2]):=λ h=>.inl ⟨h,rfl,.refl _ _⟩;refine Aa (λ h=>bad λ hk=>by have:=hk.1;omega) (λ h1=>Aa (λ h=>bad λ hk=>by have:=hk.2.1;omega) (λ h2=>Aa (λ h=>bad λ hk=>by have:=hk.2.2;omega) (λ h3=>?_)));have ar:Nd form l:=⟨by omega,by omega,by omega⟩;have hn:l.length<=4096:=by omega
 obtain⟨fm,rfl⟩:∃ m:Nat,form=(m:Int):=⟨form.toNat,by omega⟩;rw [Bh (by omega) (by omega)];refine (SH.start (λ _=>False) w).Aj λ b3 w1 cf B1 S1=>S1.Aj λ b4 w2 jM B2 S2=>S2.AaO 0 rfl (show 0<1 by decide) λ w3 K3 S3=>?_;have oN:fm<256:=by omega
 have B3:=S3.below;have gb:b3≠b4:=S3.ne 1 0 rfl rfl (by decide);have qW:w.heap.size<=b3:=cf;have mP:w.heap.size<=b4:=by have:=B1.size;omega
 have hN:Dh w w3 [AnG fm] (some ⟨b3,0,none⟩) 1:=by
  refine⟨⟨rfl,.inr ⟨b3,_,rfl,S3.get 1 rfl,by simp,by omega,rfl,?_⟩⟩,λ k hk=>?_,B3⟩
  ·simp [DO oN]
  ·cases hk;exact cf
 have kC:w3.heap[b4]?=some (.cells #[.slice (some ⟨b3,0,none⟩) 1 1] ty.AA (0,0)):=S3.get 0 rfl;have fin:∀ {wx:World} {bs:List UInt8} {ba:Option Addr} {bc:Nat},Dh w wx bs ba bc->bs=DR fm l->QH (fm:Int) l w wx (.tuple #[.slice ba bs.length bc,.int .i64 0]):=by
  rintro wx bs ba bc h rfl;exact .inr ⟨ar,ba,bc,by rw [AnF],by rw [AnF];exact h⟩
 refine Az (λ hz=>⟨_,_,_,cell0 kC,?_⟩) (λ l8=>?_)
 ·have kF:l=[]:=List.eq_nil_of_length_eq_zero (by omega);refine fin hN ?_;subst kF;rcases (by omega:fm=0\/fm=1\/fm=2\/fm=3) with rfl | rfl | rfl | rfl
  ·rfl
  ·show _=1 :: Fq [];rw [L6];rfl
  ·rfl
  ·rfl
 have hp:0<l.length:=by omega
 have nG:l≠[]:=List.length_pos_iff.1 hp;refine Az (λ hf=>?_) (λ k9=>Az (λ hf=>?_) (λ gh=>Az (λ hf=>?_) (λ iJ=>Az (λ hf=>?_) (λ zm=>by omega))))
 ·have:fm=0:=by omega
  subst this;refine⟨λ s w5=>∃(i:Nat) (b:List UInt8) (a5:Option Addr) (c5:Nat),s=[.int .i64 (i:Int)]/\i<=l.length/\b=0 :: (l.take i).flatMap E6/\Dh w w5 b a5 c5/\w5.heap[b4]?=some (.cells #[.slice a5 b.length c5] ty.AA (0,0))/\(∀ x,AG a5=some x->x≠b4),λ s _=>match s with
    | [.int _ i]=>l.length-i.toNat
    | _=>0,⟨0,[0],_,_,rfl,by omega,by simp,hN,kC,λ x hx=>by cases hx;exact gb⟩,?_⟩
  rintro _ w5 ⟨i,b,a5,c5,aA,hi,hb,h5,g5,n5⟩;cases aA;have cI:b.length<=1+4096*10:=by
   have:=QX (l:=l.take i) λ x h=>hx x (List.mem_of_mem_take h);rw [Anw] at this;rw [hb,AnQ];omega
  refine Aa (λ aB=>⟨⟨by omega,aB⟩,?_⟩) (λ aL=>⟨_,_,_,cell0 g5,?_⟩)
  ·have aF:i<l.length:=by omega
   obtain⟨p,rfl,hc⟩:=Ga (hl.grown h5.An) aF;have gD:=hx _ (Aot aF);refine⟨_,by rw [AnF];exact hc,_,_,_,cell0 g5,(Ff b h5.rd l[i] gD.1 gD.2 (by omega)).mono ?_⟩;rintro _ w6 ⟨_,rfl,a6,c6,rfl,h6⟩;have g6:=(Ae.Al (F:=λ _=>False) h6.An).at g5 (by simp);have l5:b4<w5.heap.size:=(AnV.1 g5).1;refine⟨_,_,_,rfl,Fb g6 (by simp) λ w7 K7 g7=>?_⟩;rw [Ai (by omega)];have fJ:=h6.before h5.An;have n6:∀ x,AG a6=some x->x≠b4:=λ x hx=>by have:=h6.new x hx;omega
   refine⟨⟨i+1,_,a6,c6,rfl,by omega,?_,⟨fJ.row.keeps K7 λ x hx he=>n6 x hx he,fJ.new,fJ.An.trans (K7.below fJ.An.size λ k hk he=>by omega)⟩,g7,n6⟩,?_⟩
   ·rw [Xp aF,hb];rfl
   ·simp only [AnF];omega
  ·have cL:l.take i=l:=Aoy (by omega);rw [cL] at hb;exact fin h5 hb
 ·have:fm=1:=by omega
  subst this;refine Xy (k:=λ v w'=>QH ((1:Nat):Int) l w w' v) hl hc hn hx B3 mP ⟨_,_,kC,hN.row,λ x hx=>by cases hx;exact⟨cf,gb,λ h=>h⟩⟩ ?_;rintro w' B' ⟨tK,tL,f1,f2,f3⟩ ba bc aJ;have e:=(cell0 f1).symm.trans aJ;simp only [Option.some.injEq,Value.slice.injEq,true_and] at e;obtain⟨rfl,rfl⟩:=e;exact fin ⟨f2,λ k hk=>(f3 k hk).1,B'⟩ rfl
 ·have:fm=2:=by omega
  subst this;have bm:(CC l).length=l.length-1:=by simp [CC]
  refine⟨⟨by omega,by omega,by omega⟩,λ s w1=>∃(i:Nat) (a1:Option Addr) (c1:Nat),s=[.slice a1 ((CC l).take i).length c1,.int .i64 (i:Int)]/\i+1<=l.length/\PA w3 w1 ((CC l).take i) a1 c1,λ s _=>match s with
   | [_,.int _ i]=>l.length-i.toNat
   | _=>0,⟨0,none,0,rfl,by omega,PA.nil w3⟩,?_⟩
  rintro a1 _ c1 _ ay ⟨i,_,_,aA,hi,h1⟩;cases aA;have C1:=Ac B3 h1.An;refine Aa (λ aB=>⟨⟨by omega,by omega⟩,?_⟩) (λ aL=>?_)
  ·have fy:i+1<l.length:=by omega
   have ml:i<l.length:=by omega
   have nQ:=AdE (q:=1) (hl.grown C1) (by rw [List.length_map];exact hc);rw [<- List.map_drop] at nQ;have il:i<(l.drop 1).length:=by rw [AnC];omega
   obtain⟨p1,hp1,eV⟩:=Ga nQ il;rw [hp1];have e1:(l.drop 1)[i]=l[i+1]:=by simp
   rw [e1] at eV;obtain⟨p,rfl,cR⟩:=Ga (hl.grown C1) ml;refine⟨_,by rw [AnF];exact eV,⟨by omega,by omega⟩,_,by rw [AnF];exact cR,?_⟩;refine (ZR ay (LN (l[i+1]-l[i]))).mono ?_;rintro _ w5 ⟨_,rfl,rfl,rfl⟩;refine⟨_,rfl,(SH.start (λ _=>False) w5).Aj λ b6 w6 kn B6 S6=>?_⟩;refine IX (h1.grown B6) (by rw [Anw];omega) rfl (S6.get 0 rfl) λ a7 c7 w7 h7=>⟨_,_,_,rfl,?_⟩;rw [<- AaN fy] at h7 ⊢;rw [Ai (by omega)];refine⟨⟨i+1,a7,c7,rfl,by omega,h7⟩,?_⟩;simp only [AnF];omega
  ·have cL:(CC l).take i=CC l:=Aoy (by omega);rw [cL] at h1 ⊢;obtain⟨p,rfl,aJ⟩:=TR (hl.grown C1) hp;have hh:Hw (l.headD 0):=by
    have:=EF hx hp 0;simpa [Fp] using this
   refine⟨⟨by omega,by omega⟩,_,aJ,(KG (fm:=2) (by omega) hh h1.row.rd (by omega) Qz).mono ?_⟩;rintro _ w6 ⟨_,rfl,a6,c6,rfl,h6⟩;have g6:=(Ae.Al (F:=λ _=>False) (Ac h1.An h6.An)).at kC (by simp);have l3:b4<w3.heap.size:=(AnV.1 kC).1;have yu:=h1.An.size;refine⟨_,_,_,rfl,Fb g6 (by simp) λ w7 K7 g7=>⟨_,_,_,cell0 g7,?_⟩⟩;have fJ:=h6.before C1;exact fin ⟨fJ.row.keeps K7 λ x hx he=>by have:=h6.new x hx;omega,fJ.new,fJ.An.trans (K7.below fJ.An.size λ k hk he=>by omega)⟩ (by simp only [DR];rw [if_neg nG];rfl)
 ·have:fm=3:=by omega
  subst this;have bm:(CU l).length=l.length:=by simp [CU]
  have rH:=EF hx hp l.length;have hm:Fp l l.length=HZ l:=rfl;rw [hm] at rH;refine (Vp (hl.grown B3) hp (by omega)).mono ?_;rintro _ w3 ⟨_,rfl,rfl,rfl⟩;refine⟨_,rfl,λ s w1=>∃(i:Nat) (a1:Option Addr) (c1:Nat),s=[.slice a1 ((CU l).take i).length c1,.int .i64 (i:Int)]/\i<=l.length/\PA w3 w1 ((CU l).take i) a1 c1,λ s _=>match s with
   | [_,.int _ i]=>l.length-i.toNat
   | _=>0,⟨0,none,0,rfl,by omega,PA.nil w3⟩,?_⟩
  rintro a1 _ c1 _ ay ⟨i,_,_,aA,hi,h1⟩;cases aA;have C1:=Ac B3 h1.An;refine Aa (λ aB=>⟨⟨by omega,by omega⟩,?_⟩) (λ aL=>?_)
  ·have ml:i<l.length:=by omega
   obtain⟨p,rfl,cR⟩:=Ga (hl.grown C1) ml;have bB:=Aot ml;refine⟨_,by rw [AnF];exact cR,(SH.start (λ _=>False) ay).Aj λ b6 w6 kn B6 S6=>?_⟩;have ew:IntKind.u64.wrap (IntKind.i64.wrap (l[i]-HZ l))=((l[i]-HZ l).toNat:Int):=by
    have q1:=hx _ bB;have q2:=Sv bB;unfold Hw at q1 rH;rw [wrap_u64,Co];split <;> omega
   rw [ew] at S6;refine IX (h1.grown B6) (by rw [Anw];omega) rfl (S6.get 0 rfl) λ a7 c7 w7 h7=>⟨_,_,_,rfl,?_⟩;rw [<- ZH ml] at h7 ⊢;rw [Ai (by omega)];refine⟨⟨i+1,a7,c7,rfl,by omega,h7⟩,?_⟩;simp only [AnF];omega
  ·have cL:(CU l).take i=CU l:=Aoy (by omega);rw [cL] at h1 ⊢;refine (KG (fm:=3) (by omega) rH h1.row.rd (by omega) (PT hx)).mono ?_;rintro _ w6 ⟨_,rfl,a6,c6,rfl,h6⟩;have g6:=(Ae.Al (F:=λ _=>False) (Ac h1.An h6.An)).at kC (by simp);have l3:b4<w3.heap.size:=(AnV.1 kC).1;have yu:=h1.An.size;refine⟨_,_,_,rfl,Fb g6 (by simp) λ w7 K7 g7=>⟨_,_,_,cell0 g7,?_⟩⟩;have fJ:=h6.before C1;exact fin ⟨fJ.row.keeps K7 λ x hx he=>by have:=h6.new x hx;omega,fJ.new,fJ.An.trans (K7.below fJ.An.size λ k hk he=>by omega)⟩ (by simp only [DR];rw [if_neg nG];rfl)
end
def BH(s:Nat->Nat):Nat->Nat
 | 0=>0
 | f+1=>if f=0 then 0 else if s f<s (BH s f) then f else BH s f
def LF(l:List Int)(f:Nat):Nat:=(DR f l).length
def VK(l:List Int):Nat:=BH (LF l) 4
theorem Kh(s:Nat->Nat):∀ f,0<f->BH s f<f/\(∀ j,j<f->s (BH s f)<=s j)/\(∀ j,j<BH s f->s (BH s f)<s j)
 | 0,h=>by omega
 | f+1,_=>by
  by_cases h0:f=0
  ·subst h0;have e:BH s (0+1)=0:=by simp [BH]
   rw [e];refine⟨by omega,λ j hj=>?_,λ j hj=>by omega⟩;have:j=0:=by omega
   subst this;exact AnD _
  ·obtain⟨h1,h2,h3⟩:=Kh s f (by omega);by_cases hs:s f<s (BH s f)
   ·have e:BH s (f+1)=f:=by simp only [BH];rw [if_neg h0,if_pos hs]
    rw [e];refine⟨by omega,λ j hj=>?_,λ j hj=>?_⟩
    ·rcases AoA j f with h | h
     ·have:=h2 j h;omega
     ·have:j=f:=by omega
      subst this;exact AnD _
    ·have:=h2 j hj;omega
   ·have e:BH s (f+1)=BH s f:=by simp only [BH];rw [if_neg h0,if_neg hs]
    rw [e];refine⟨by omega,λ j hj=>?_,h3⟩;rcases AoA j f with h | h
    ·exact h2 j h
    ·have:j=f:=by omega
     subst this;omega
theorem Ti(l:List Int):VK l<=3:=by
 have:=(Kh (LF l) 4 (by omega)).1;unfold VK;omega
theorem AiI{f:Nat}{l:List Int}(hf:f<=3)(hn:l.length<=4096):Nd (f:Int) l:=⟨by omega,by omega,by omega⟩
section
variable {w:World}{a:Option Addr}{c:Nat}{l:List Int}
theorem QH.F9{f:Nat}{w':World}{r:Value}(hf:f<=3)(hn:l.length<=4096)(h:QH (f:Int) l w w' r):∃ a c,r=.tuple #[.slice a (LF l f) c,.int .i64 0]/\Dh w w' (DR f l) a c:=by
 rcases h with ⟨h,_⟩ | ⟨_,a,c,rfl,h⟩
 ·exact absurd (AiI hf hn) h
 ·rw [AnF] at h ⊢;exact⟨a,c,rfl,h⟩
theorem UF(hl:Rd w a (l.map DK))(h0:0<l.length)(hn:l.length<=1000000) :
  Calls Tryz.prog f.Nz #[.slice a l.length c] w (AB λ v w'=>w'=w/\v=.int .i64 (HZ l)):=by
 apply R.H9
 delta R.Ad R.F R.I R.Li R.U0 R.W R.X;try dsimp only [R.Ps]
 obtain⟨p,rfl,aJ⟩:=TR hl h0;refine Aa (λ h=>by omega) (λ _=>⟨⟨by omega,by omega⟩,_,aJ,?_⟩);refine⟨λ s w1=>w1=w/\∃ i:Nat,i<=l.length/\s=[.int .i64 (Fp l i),.int .i64 (i:Int)],λ s _=>match s with
   | [_,.int _ i]=>l.length-i.toNat
   | _=>0,⟨rfl,1,by omega,by rw [Wi h0];rfl⟩,?_⟩
 rintro _ _ w1 ⟨rfl,i,hi,aA⟩;cases aA;refine Aa (λ aB=>⟨⟨by omega,aB⟩,?_⟩) (λ aL=>⟨rfl,?_⟩)
 ·have aF:i<l.length:=by omega
  obtain⟨p',bj,hc⟩:=Ga hl aF;cases bj;refine⟨_,by rw [AnF];exact hc,?_⟩;rw [Ai (by omega),<- Ue aF];refine⟨⟨rfl,i+1,by omega,rfl⟩,?_⟩;simp only [AnF];omega
 ·have:i=l.length:=by omega
  subst this;rfl
theorem Sh(x:Int)(hl:Rd w a (l.map DK))(hn:l.length<=1000000) :
  Calls Tryz.prog f.LH #[.slice a l.length c,.int .i64 x] w (AB λ v w'=>w'=w/\∃ i:Int,v=.int .i64 i/\((i = -1/\x∉l)\/∃ k:Nat,i=k/\l[k]?=some x/\∀ j,j<k->l[j]?≠some x)):=by
 apply R.He
 delta R.Ad R.F R.I R.Li R.Qi R.W R.X;try dsimp only [R.Ps]
 refine⟨λ s w1=>w1=w/\∃ i:Nat,i<=l.length/\s=[.int .i64 (i:Int)]/\∀ j,j<i->l[j]?≠some x,λ s _=>match s with
   | [.int _ i]=>l.length-i.toNat
   | _=>0,⟨rfl,0,by omega,rfl,by omega⟩,?_⟩
 rintro _ w1 ⟨rfl,i,hi,aA,aE⟩;cases aA;refine Aa (λ aB=>⟨⟨by omega,aB⟩,?_⟩) (λ aL=>⟨rfl,_,rfl,.inl ⟨rfl,λ hx=>?_⟩⟩)
 ·have aF:i<l.length:=by omega
  obtain⟨p,rfl,hc⟩:=Ga hl aF;refine⟨_,by rw [AnF];exact hc,Az (λ he=>⟨rfl,_,rfl,.inr ⟨i,rfl,?_,aE⟩⟩) (λ aQ=>?_)⟩
  ·rw [AnB aF,he]
  ·rw [Ai (by omega)];refine⟨⟨rfl,i+1,by omega,rfl,λ j hj=>?_⟩,?_⟩
   ·rcases AoA j i with h | h
    ·exact aE j h
    ·have:j=i:=by omega
     subst this;rw [AnB aF];simpa using λ h=>aQ h.symm
   ·simp only [AnF];omega
 ·obtain⟨k,hk⟩:=List.mem_iff_getElem?.1 hx;have aq:=(List.getElem?_eq_some_iff.1 hk).1;exact aE k (by omega) hk
theorem tI:Ia Tryz.prog ty.GK=some (ty.int,1,8,.int .i64 0):=by kernel_rfl
theorem Z3(s:Nat->Nat){k:Nat}(h1:[(s 0:Int),s 1,s 2,s 3][k]?=some (HZ [(s 0:Int),s 1,s 2,s 3]))(h2:∀ j,j<k->[(s 0:Int),s 1,s 2,s 3][j]?≠some (HZ [(s 0:Int),s 1,s 2,s 3])):k=BH s 4:=by
 have hm:∀ x∈[(s 0:Int),s 1,s 2,s 3],HZ [(s 0:Int),s 1,s 2,s 3]<=x:=λ x hx=>Sv hx;obtain⟨m,hmd⟩:∃ m,m=HZ [(s 0:Int),s 1,s 2,s 3]:=⟨_,rfl⟩;rw [<- hmd] at h1 h2 hm;have m0:=hm (s 0) (by simp);have m1:=hm (s 1) (by simp);have m2:=hm (s 2) (by simp);have m3:=hm (s 3) (by simp);have hk:k<4:=by
  have:=(List.getElem?_eq_some_iff.1 h1).1;simpa using this
 obtain⟨q1,q2,q3⟩:=Kh s 4 (by omega);have get:∀ j,j<4->[(s 0:Int),s 1,s 2,s 3][j]?=some ((s j:Nat):Int):=by
  intro j hj;rcases (by omega:j=0\/j=1\/j=2\/j=3) with rfl | rfl | rfl | rfl <;> rfl
 have mk:m=s k:=by have:=get k hk;rw [h1] at this;exact Option.some.inj this
 rcases Nat.lt_trichotomy k (BH s 4) with h | h | h
 ·have:=q3 k h;have:m<=s (BH s 4):=by
   rcases (by omega:BH s 4=0\/BH s 4=1\/BH s 4=2\/BH s 4=3) with e | e | e | e <;> rw [e] <;> assumption
  omega
 ·exact h
 ·exfalso;have:=q2 k hk;apply h2 _ h;rw [get _ q1];have:m<=s (BH s 4):=by
   rcases (by omega:BH s 4=0\/BH s 4=1\/BH s 4=2\/BH s 4=3) with e | e | e | e <;> rw [e] <;> assumption
  congr 1;omega
theorem Xx(hl:Rd w a (l.map DK))(hc:l.length<=c)(hn:l.length<=4096)(hx:∀ x∈l,Hw x) :
  Calls Tryz.prog f.AeJ #[.slice a l.length c] w (AB λ v w'=>v=.tuple #[.int .i64 (VK l:Int),.int .i64 0]/\Below w.heap.size w w'):=by
 apply R.RT
 delta R.BL R.Ci R.F R.H R.I R.J R.Ks R.N R.O R.Hz R.S R.W;try dsimp only [R.Ps]
 let S:Nat->List Int:=λ k=>(List.range k).map λ f=>((LF l f:Nat):Int);have hS:∀ k,(S k).length=k:=λ k=>by simp [S]
 refine⟨λ s w1=>∃(k:Nat) (a1:Option Addr) (c1:Nat),s=[.slice a1 k c1,.int .i64 (k:Int)]/\k<=4/\Row w1 ty.int 1 a1 k c1 ((S k).map DK)/\(∀ x,AG a1=some x->w.heap.size<=x)/\Below w.heap.size w w1,λ s _=>match s with
   | [_,.int _ i]=>4-i.toNat
   | _=>0,⟨0,none,0,rfl,by omega,Row.nil _ _ _,by simp [AG],.refl _ _⟩,?_⟩
 rintro a1 k c1 _ w1 ⟨_,_,_,aA,hk,R1,N1,B1⟩;cases aA;refine Aa (λ aB=>?_) (λ aL=>?_)
 ·refine (GX (k:Int) (hl.grown B1) hc hx).mono ?_;rintro _ w2 ⟨_,rfl,h2⟩;obtain⟨a2,c2,rfl,cH⟩:=h2.F9 (by omega) hn;clear h2;have h2:=cH;refine⟨_,_,_,_,rfl,Au (λ h=>absurd rfl h) (λ _=>(SH.start (λ _=>False) w2).Aj λ b3 w3 cf B3 S3=>?_)⟩;have aZ:Rd w3 (some ⟨b3,0,none⟩) [DK (LF l k)]:=by
   have:=Rd.Ak (S3.get 0 rfl);simpa [DK] using this
  have C3:=Ac (Ac B1 h2.An) B3;obtain⟨a5,c5,w5,aD,aG,dF,hnw⟩:=Bq (ty:=ty.GK) (mc:=1) tI rfl (by omega) (by omega) ((R1.grown h2.An).grown B3) aZ (m:=1) rfl (by simp [DK];rfl) (by omega);unfold CD;rw [aD];refine⟨_,_,_,rfl,?_⟩;rw [Ai (by omega)];refine⟨⟨k+1,a5,c5,rfl,by omega,?_,λ x hx=>?_,C3.trans (dF.below C3.size λ x hx he=>by have:=N1 x he;omega)⟩,?_⟩
  ·have e:S (k+1)=S k++[((LF l k:Nat):Int)]:=by simp [S,List.range_succ]
   rw [e,Aov];exact aG
  ·rcases hnw x hx with h | h
   ·exact N1 x h
   ·exact AnJ C3.size h
  ·simp only [AnF];omega
 ·have:k=4:=by omega
  subst this;have kH:Calls Tryz.prog f.TU #[.slice a1 4 c1] w1 (AB λ v w'=>w'=w1/\v=.int .i64 (VK l:Int)):=by
   apply R.KC
   delta R.Ci R.I R.S;try dsimp only [R.Ps]
   have h4:(4:Nat)=(S 4).length:=(hS 4).symm;rw [h4];refine (UF R1.rd (by rw [hS];omega) (by rw [hS];omega)).mono ?_;rintro _ w1 ⟨_,rfl,rfl,rfl⟩;refine⟨_,rfl,(Sh _ R1.rd (by rw [hS];omega)).mono ?_⟩;rintro _ w1 ⟨_,rfl,rfl,i,rfl,aM⟩;refine⟨_,rfl,rfl,?_⟩;have tk:S 4=[((LF l 0:Nat):Int),LF l 1,LF l 2,LF l 3]:=rfl;rcases aM with ⟨_,bC⟩ | ⟨k,rfl,g1,g2⟩
   ·exfalso;apply bC;rcases (Je ((S 4).take (S 4).length) ((S 4).headD 0)).2.2 with e | e
    ·unfold HZ Fp;rw [e,tk];simp
    ·unfold HZ Fp;exact List.mem_of_mem_take e
   ·rw [tk] at g1 g2;rw [Z3 (LF l) g1 g2];rfl
  refine kH.mono ?_;rintro _ w2 ⟨_,rfl,rfl,rfl⟩;exact⟨_,rfl,rfl,B1⟩
end
section
variable {w:World}{a:Option Addr}{c:Nat}{ls:List ByteArray}
end
section
variable {w:World}{a:Option Addr}{c:Nat}{t:List (List UInt8)}
end
def strs(t:List (List UInt8)):List Value:=(t.map CA).map Value.string
theorem AhG(t:List (List UInt8)):(strs t).length=t.length:=by simp [strs]
theorem AaR(t u:List (List UInt8)):strs (t++u)=strs t++strs u:=by simp [strs]
theorem AhH(t:List (List UInt8)):∀ u∈strs t,u.oneCell'=true:=by
 intro u hu;obtain⟨s,_,rfl⟩:=Ang.1 hu;rfl
theorem tS:Ia Tryz.prog ty.BC=some (ty.string,1,16,.string ⟨#[]⟩):=by kernel_rfl
theorem QM{w:World}{a:Option Addr}{c:Nat}{t u:List (List UInt8)}(hr:Row w ty.string 1 a t.length c (strs t)){b:Option Addr}{m mc:Nat}(hm:m=u.length)(hb:Rd w b (strs u))(hl:t.length+u.length<=8796093022208){f:Value->World->Prop}
  (hf:∀ a' c' w',Row w' ty.string 1 a' (t++u).length c' (strs (t++u))->Ae (λ k=>AG a=some k) w w'->(∀ k,AG a'=some k->AG a=some k\/w.heap.size<=k)->f (.slice a' (t++u).length c') w') :
  CD Tryz.prog (Builtin.append_ #[ty.BC,ty.BC] ty.BC #[.slice a t.length c,.slice b m mc]) f w:=by
 subst hm;obtain⟨a',c',w',aD,aG,hk,bA⟩:=Bq (ty:=ty.BC) (mc:=mc) tS rfl (by omega) (by omega) hr hb (m:=u.length) (by rw [AhG];simp) (AhH u) (by omega);unfold CD;rw [aD];have hlen:(t++u).length=t.length+u.length:=by simp
 rw [<- AaR,<- hlen] at aG;rw [<- hlen];exact hf a' c' w' aG hk bA
theorem Ni(ls:List ByteArray):(ls.map bl).map CA=ls:=by
 rw [List.map_map]
 conv=>rhs;rw [<- List.map_id ls]
 apply List.map_congr_left;intro s _;simp [DH]
section
variable {w:World}{a:Option Addr}{c:Nat}{ls:List ByteArray}
end
theorem Tz{f:Int}{ls:List ByteArray}{w w':World}{r:Value}(h:Aj5 f ls w w' r):∃(bs:List UInt8) (a:Option Addr) (c:Nat) (e:Int),r=.tuple #[.slice a bs.length c,.int .i64 e]/\Rd w' a (bs.map Af)/\Below w.heap.size w w'/\((ED f ls/\Fl ls f bs/\e=0)\/(¬ ED f ls/\bs=[]/\e=2)):=by
 rcases h with ⟨h1,rfl,hb⟩ | ⟨h1,b,a,c,h2,rfl,h3⟩
 ·exact⟨[],none,0,2,rfl,Rd.nil _ _,hb,.inr ⟨h1,rfl,rfl⟩⟩
 ·exact⟨b,a,c,0,rfl,h3.rd,h3.An,.inl ⟨h1,h2,rfl⟩⟩
theorem AmY(ls:List ByteArray):ED 0 ls↔ED 1 ls:=by simp [ED]
def Alw(ls:List ByteArray)(r:Value):Prop :=
 (¬ ED 0 ls/\r=.tuple #[.int .i64 0,.int .i64 2])\/(∃ b0 b1,Fl ls 0 b0/\Fl ls 1 b1/\ED 0 ls/\r=.tuple #[.int .i64 (if b1.length<b0.length then 1 else 0),.int .i64 0])
section
variable {w:World}{a:Option Addr}{c:Nat}{ls:List ByteArray}
theorem W8(hl:Rd w a (ls.map Value.string))(hn:ls.length<=9223372036854775807):Calls Tryz.prog f.Aeg #[.slice a ls.length c] w (AB λ v w'=>Alw ls v/\Below w.heap.size w w'):=by
 apply R.RD
 delta R.BL R.F R.H R.I R.S;try dsimp only [R.Ps]
 refine (EV 0 hl hn).mono ?_;rintro _ w1 ⟨_,rfl,h1⟩;obtain⟨b0,a0,c0,e0,rfl,_,B1,q0⟩:=Tz h1;refine⟨_,_,_,_,rfl,(EV 1 (hl.grown B1) hn).mono ?_⟩;rintro _ w2 ⟨_,rfl,h2⟩;obtain⟨b1,a1,c1,e1,rfl,_,B2,q1⟩:=Tz h2;have B:=Ac B1 B2;refine⟨_,_,_,_,rfl,?_⟩;rcases q0 with ⟨k0,i0,rfl⟩ | ⟨k0,rfl,rfl⟩
 ·rcases q1 with ⟨k1,i1,rfl⟩ | ⟨k1,_⟩
  ·refine Au (λ h=>absurd rfl h) (λ _=>Aa (λ h=>⟨.inr ⟨b0,b1,i0,i1,k0,?_⟩,B⟩) (λ h=>⟨.inr ⟨b0,b1,i0,i1,k0,?_⟩,B⟩))
   ·rw [if_neg (by omega)]
   ·rw [if_pos (by omega)]
  ·exact absurd ((AmY ls).1 k0) k1
 ·exact Au (λ _=>⟨.inl ⟨k0,rfl⟩,B⟩) (λ h=>absurd h (by decide))
end
end Go.Proofs.YtoepjfblppfabaaGreatDoor
namespace Go.Dn
open _root_.BitVec renaming ofInt -> Am6
set_option linter.unusedVariables false
set_option maxRecDepth 100000
def W6(r:BitVec 32):BitVec 32:=(r >>> 1) ^^^ (2197175160#32 &&& -(r &&& 1#32))
def FN:Nat->BitVec 32->BitVec 32
 | 0,r=>r
 | n+1,r=>FN n (W6 r)
def Abp(c:UInt8):BitVec 32:=BitVec.ofNat 32 c.toNat
def Ac4(r:BitVec 32)(c:UInt8):BitVec 32:=FN 8 (r ^^^ Abp c)
def CY(r:BitVec 32)(l:List UInt8):BitVec 32:=l.foldl Ac4 r
def crc(l:List UInt8):BitVec 32:=4294967295#32 ^^^ CY 4294967295#32 l
theorem Mz:∀(n:Nat) (r:BitVec 32),FN (n+1) r=W6 (FN n r)
 | 0,_=>rfl
 | n+1,r=>by rw [FN,Mz n,FN]
theorem Kl(r:BitVec 32)(l m:List UInt8):CY r (l++m)=CY (CY r l) m:=by simp [CY]
theorem Afl(r:BitVec 32):(IntKind.u32.wrap (((Am6 32 (Int.fdiv (r.toNat:Int) (2 ^ (min 1 32))) ^^^ Am6 32 (IntKind.u32.wrap (((Am6 32 2197175160 &&& Am6 32 (IntKind.u32.wrap (0-(IntKind.u32.wrap (((Am6 32 (r.toNat:Int) &&& Am6 32 1).toNat:Int)))))).toNat:Int)))).toNat:Int)))=((W6 r).toNat:Int):=by
 have h1:min 1 32=1:=by decide
 rw [h1,I9,CV,BU,Dt,BU,Dt,Ace,Dt,BU,BU];rfl
end Go.Dn
namespace Go.Dn
def AcL(x:BitVec 32):UInt8:=UInt8.ofNat x.toNat
def Ye(x:BitVec 32):List UInt8:=[AcL x,AcL (x >>> 8),AcL (x >>> 16),AcL (x >>> 24)]
theorem AaX(x:BitVec 32):IntKind.u8.wrap (x.toNat:Int)=((AcL x).toNat:Int):=by
 rw [wrap_u8];simp [AcL]
theorem NH(x:BitVec 32)(k:Nat):IntKind.u8.wrap (Int.fdiv (x.toNat:Int) (2 ^ (min k 32)))=((AcL (x >>> (min k 32))).toNat:Int):=by
 rw [I9,AaX]
end Go.Dn
namespace Go.Proofs.YtoepjfblppfabaaGreatDoor
open _root_.Int renaming toNat_natCast -> AnF
open _root_.Nat renaming zero_le -> Aob
set_option maxRecDepth 100000
open Go.Dn Go.Proofs
set_option linter.unusedVariables false
theorem Oa(ps:List Hx)(k:Nat)(hk:k<ps.length)(r:BitVec 32) :
  CY r ((ps.take (k+1)).flatMap (·.2.2))=CY (CY r ((ps.take k).flatMap (·.2.2))) ps[k].2.2:=by
 rw [List.take_succ_eq_append_getElem hk,List.flatMap_append,Kl];simp
theorem Ob(l:List UInt8)(k:Nat)(hk:k<l.length)(r:BitVec 32):CY r (l.take (k+1))=Ac4 (CY r (l.take k)) l[k]:=by
 rw [List.take_succ_eq_append_getElem hk,Kl];rfl
theorem Aa7{w:World}{a:Option Addr}{c:Nat}(ps:List Hx)(hp:Rd w a (ps.map BQ))(hb:∀ p∈ps,Rd w p.1 (p.2.2.map Af))(hn:ps.length<9223372036854775807)(hl:∀ p∈ps,p.2.2.length<9223372036854775807) :
  Calls Tryz.prog f.AhZ #[.slice a ps.length c] w (AB λ v w'=>v=.int .u32 ((crc (ps.flatMap (·.2.2))).toNat:Int)/\w'=w):=by
 apply R.UP
 delta R.Ad R.F R.I R.Ls R.Ly R.Qvi R.V R.W R.Wv R.X;try dsimp only [R.Ps]
 refine⟨λ s w1=>match s with
   | [.int _ r,.int _ i]=>w1=w/\∃ k:Nat,i=k/\k<=ps.length/\r=((CY 4294967295#32 ((ps.take k).flatMap (·.2.2))).toNat:Int)
   | _=>False,
  λ s _=>match s with
   | [_,.int _ i]=>ps.length-i.toNat
   | _=>0,⟨rfl,0,rfl,Aob _,by simp [CY]⟩,?_⟩
 rintro r i w1 ⟨rfl,k,rfl,hk,rfl⟩;refine Aa (λ aB=>?_) (λ aL=>?_)
 ·have aq:k<ps.length:=by omega
  refine⟨⟨by omega,by omega⟩,?_⟩;obtain⟨p,rfl,hc⟩:=hp k (BQ ps[k]) (by simp [aq]);have bB:ps[k]∈ps:=List.getElem_mem aq;have mQ:=hb _ bB;have eH:=hl _ bB;have fS:=Oa ps k aq 4294967295#32;generalize hR:CY 4294967295#32 ((ps.take k).flatMap (·.2.2))=R at fS ⊢;generalize hq:ps[k]=q at mQ eH fS hc;obtain⟨qa,qc,l⟩:=q;simp only at mQ eH fS;refine⟨qa,l.length,qc,by simpa [BQ] using hc,?_⟩;refine⟨λ s w2=>match s with
    | [.int _ r,.int _ i]=>w2=w1/\∃ j:Nat,i=j/\j<=l.length/\r=((CY R (l.take j)).toNat:Int)
    | _=>False,
   λ s _=>match s with
    | [_,.int _ i]=>l.length-i.toNat
    | _=>0,⟨rfl,0,rfl,Aob _,by simp [CY]⟩,?_⟩
  rintro r i w2 ⟨rfl,j,rfl,hj,rfl⟩;refine Aa (λ dr=>?_) (λ mh=>?_)
  ·have gN:j<l.length:=by omega
   refine⟨⟨by omega,by omega⟩,?_⟩;obtain⟨p2,rfl,cR⟩:=mQ j (Af l[j]) (by simp [gN]);have uM:=Ob l j gN R;generalize zj:CY R (l.take j)=R2 at uM ⊢;refine⟨(l[j].toNat:Int),by simpa [Af] using cR,?_⟩;have h0:(IntKind.u32.wrap (((BitVec.ofInt 32 (R2.toNat:Int) ^^^ BitVec.ofInt 32 (IntKind.u32.wrap ((l[j].toNat:Int)))).toNat:Int)))=((R2 ^^^ Abp l[j]).toNat:Int):=by
    rw [Dt,BU,CV,BitVec.ofInt_natCast];rfl
   rw [h0];refine⟨λ s w3=>match s with
     | [.int _ r,.int _ i]=>w3=w2/\∃ m:Nat,i=m/\m<=8/\r=((FN m (R2 ^^^ Abp l[j])).toNat:Int)
     | _=>False,
    λ s _=>match s with
     | [_,.int _ i]=>8-i.toNat
     | _=>0,⟨rfl,0,rfl,Aob _,by simp [FN]⟩,?_⟩
   rintro r i w3 ⟨rfl,m,rfl,hm,rfl⟩;refine Aa (λ xz=>?_) (λ xi=>?_)
   ·rw [Afl,Ai (by omega)];refine⟨⟨rfl,m+1,rfl,by omega,by rw [Mz]⟩,?_⟩;simp only [AnF];omega
   ·have:m=8:=by omega
    subst this;rw [Ai (by omega)];refine⟨⟨rfl,j+1,rfl,by omega,by rw [uM];rfl⟩,?_⟩;simp only [AnF];omega
  ·have:j=l.length:=by omega
   subst this;rw [Ai (by omega)];refine⟨⟨rfl,k+1,rfl,by omega,by rw [fS,List.take_length]⟩,?_⟩;simp only [AnF];omega
 ·have:k=ps.length:=by omega
  subst this;refine⟨?_,rfl⟩;rw [List.take_length,BU,CV];rfl
end Go.Proofs.YtoepjfblppfabaaGreatDoor
namespace Go.Proofs.YtoepjfblppfabaaGreatDoor
open _root_.Int renaming toNat_natCast -> AnF
open _root_.List renaming flatMap_cons -> AoD, getElem_mem -> Aot, map_append -> Aov, take_succ_eq_append_getElem -> Aou
set_option maxRecDepth 100000
open Go.Dn Go.Proofs
open Go.RowKit (Below)
set_option linter.unusedVariables false
abbrev AW(ls:List Ax):List Value:=ls.flatMap Hs
theorem Hj:∀(ls:List Ax) (i j:Nat) (hi:i<ls.length),j<3->(AW ls)[i*3+j]?=(Hs ls[i])[j]?
 | [],i,j,hi,_=>by simp at hi
 | v :: ls,0,j,_,hj=>by
  simp only [AW,AoD,Nat.zero_mul,Nat.zero_add,List.getElem_cons_zero];rw [List.getElem?_append_left (by simpa [Hs] using hj)]
 | v :: ls,i+1,j,hi,hj=>by
  simp only [AW,AoD,List.getElem_cons_succ];rw [List.getElem?_append_right (by simp [Hs];omega)];have e:(i+1)*3+j-(Hs v).length=i*3+j:=by simp [Hs];omega
  rw [e];exact Hj ls i j (by simpa using hi) hj
theorem II(ls:List Ax):(AW ls).length=ls.length*3:=by
 induction ls with
 | nil=>rfl
 | cons v ls ih=>simp only [AW,AoD,List.length_append,List.length_cons] at ih ⊢;rw [ih];simp [Hs];omega
section
variable {w:World}{a:Option Addr}{c:Nat}{ls:List Ax}
theorem FG(hl:Rd w a (AW ls)){i:Nat}(hi:i<ls.length):∃ p,a=some p/\w.cell? (p.add (i*3))=some (.int .i64 ls[i].1)/\w.cell? ((p.add (i*3)).add 1)=some (.int .i64 ls[i].2.1)/\w.cell? ((p.add (i*3)).add 2)=some (.string ls[i].2.2):=by
 obtain⟨p,hp,h0⟩:=hl (i*3+0) _ (by rw [Hj ls i 0 hi (by omega)];rfl);obtain⟨p1,hp1,h1⟩:=hl (i*3+1) _ (by rw [Hj ls i 1 hi (by omega)];rfl);obtain⟨p2,iw,h2⟩:=hl (i*3+2) _ (by rw [Hj ls i 2 hi (by omega)];rfl);subst hp;cases hp1;cases iw;exact⟨p,rfl,h0,by rw [Cm];exact h1,by rw [Cm];exact h2⟩
def okV(kind:Int)(v:Ax):Bool:=AL v && (decide (v.1=kind) || decide (v.1=0))
def DU(kind:Int)(ls:List Ax):Bool:=ls.all (okV kind) && decide (1<=kind/\kind<=3/\ls.length<=1024)
theorem Af1{p:Ax->Bool}{i:Nat}(hi:i<ls.length)(h:(ls.take i).all p=true)(hp:p ls[i]=true):(ls.take (i+1)).all p=true:=by
 rw [Aou hi,List.all_append,h];simp [hp]
theorem Acu{kind:Int}{i:Nat}(hi:i<ls.length)(hp:okV kind ls[i]=false):DU kind ls=false:=by
 have:ls.all (okV kind)=false:=by
  rw [List.all_eq_false];exact⟨_,Aot hi,by simp [hp]⟩
 simp [DU,this]
theorem Afc{kind:Int}(aE:ls.all (okV kind)=true){w':World}(hb:Below w.heap.size w w'){k:Value->World->Prop}(hk:∀ v w',v=Value.bool (DU kind ls)->Below w.heap.size w w'->k v w') :
  VD (decide (kind>=1)) (VD (decide (kind<=3)) (k (Value.bool (decide ((ls.length:Int)<=1024))) w') (k (Value.bool false) w')) (k (Value.bool false) w'):=by
 have e:DU kind ls=decide (1<=kind/\kind<=3/\ls.length<=1024):=by simp [DU,aE]
 refine Aa (λ h1=>Aa (λ h2=>hk _ _ ?_ hb) (λ h2=>hk _ _ ?_ hb)) (λ h1=>hk _ _ ?_ hb)
 ·rw [e];congr 1;rw [decide_eq_decide];omega
 ·rw [e];congr 1;rw [eq_comm,decide_eq_false_iff_not];omega
 ·rw [e];congr 1;rw [eq_comm,decide_eq_false_iff_not];omega
theorem Tm(kind:Int)(hl:Rd w a (AW ls))(hn:ls.length<=9223372036854775807) :
  Calls Tryz.prog f.Y3 #[.int .i64 kind,.slice a ls.length c] w (AB λ v w'=>v=.bool (DU kind ls)/\Below w.heap.size w w'):=by
 apply R.N0
 delta R.A R.Ab R.Cb R.E R.F R.G R.I R.Li R.Lt R.N R.Qi R.Ah R.T R.W R.X;try dsimp only [R.Ps]
 refine⟨λ s w1=>∃ i:Nat,i<=ls.length/\s=[.int .i64 (i:Int)]/\Below w.heap.size w w1/\(ls.take i).all (okV kind)=true,λ s _=>match s with
   | [.int _ i]=>ls.length-i.toNat
   | _=>0,⟨0,by omega,rfl,.refl _ _,rfl⟩,?_⟩
 rintro _ w1 ⟨i,hi,aA,B1,aE⟩;cases aA;refine Aa (λ aB=>⟨⟨by omega,aB⟩,?_⟩) (λ aL=>?_)
 ·have aF:i<ls.length:=by omega
  obtain⟨p,rfl,h0,h1,h2⟩:=FG (hl.grown B1) aF;refine⟨_,by rw [AnF];exact h0,_,by rw [AnF];exact h1,_,by rw [AnF];exact h2,(SH.start (λ _=>False) w1).KQ λ b9 w5 tq B5 S5=>?_⟩;refine⟨_,S5.cell 0 rfl rfl,_,S5.cell 0 rfl rfl,_,S5.cell 0 rfl rfl,(Cz w5 ls[i]).mono ?_⟩;rintro _ w6 ⟨_,rfl,rfl,B6⟩;have S6:=S5.grown B6;have C6:=Ac (Ac B1 B5) B6;have bad:okV kind ls[i]=false->(Value.bool false=.bool (DU kind ls))/\Below w.heap.size w w6:=λ h=>⟨by rw [Acu aF h],C6⟩;have step:okV kind ls[i]=true->(∃ j:Nat,j<=ls.length/\[Value.int .i64 (IntKind.i64.wrap ((i:Int)+1))]=[.int .i64 (j:Int)]/\Below w.heap.size w w6/\(ls.take j).all (okV kind)=true)/\ls.length-(IntKind.i64.wrap ((i:Int)+1)).toNat<ls.length-((i:Nat):Int).toNat:=by
   intro h;rw [Ai (by omega)];refine⟨⟨i+1,by omega,rfl,C6,Af1 aF aE h⟩,?_⟩;simp only [AnF];omega
  refine⟨_,rfl,A5 (AU (λ hr=>?_) (λ hr=>bad (by simp [okV,hr])))⟩;refine⟨_,S6.cell 0 rfl rfl,Au (λ hk=>⟨_,S6.cell 0 rfl rfl,Au (λ hz=>bad ?_) (λ hz=>step ?_)⟩) (λ hk=>step ?_)⟩
  ·simp [okV,hk,hz]
  ·simp [okV,hr,hz]
  ·simp [okV,hr,hk]
 ·have cL:ls.take i=ls:=List.take_of_length_le (by omega);rw [cL] at aE;exact Afc (k:=λ v w'=>v=Value.bool (DU kind ls)/\Below w.heap.size w w') aE B1 λ v w' h1 h2=>⟨h1,h2⟩
def Av(ls:List Ax):Nat:=ls.countP λ v=>decide (v.1=0)
def Ce(ls:List Ax):List Nat:=ls.map λ v=>if v.1=0 then 1 else 0
def AP(ls:List Ax):List Ax:=ls.filter λ v=>!decide (v.1=0)
theorem Q8{i:Nat}(hi:i<ls.length):Av (ls.take (i+1))=Av (ls.take i)+if ls[i].1=0 then 1 else 0:=by
 unfold Av;rw [Aou hi,List.countP_append];by_cases h:ls[i].1=0 <;> simp [h]
theorem EG(ls:List Ax):Av ls<=ls.length:=List.countP_le_length
theorem IZ{i:Nat}(hi:i<ls.length):Ce (ls.take (i+1))=Ce (ls.take i)++[if ls[i].1=0 then 1 else 0]:=by
 unfold Ce;rw [Aou hi,Aov];rfl
theorem Ds{i:Nat}(hi:i<ls.length):AP (ls.take (i+1))=AP (ls.take i)++(if ls[i].1=0 then [] else [ls[i]]):=by
 unfold AP;rw [Aou hi,List.filter_append];by_cases h:ls[i].1=0 <;> simp [h]
theorem Mx:Calls Tryz.prog f.Abs #[.slice a ls.length c] w (AB λ v w'=>∃ b,v=.func (.func f.Mw) #[] #[.pointer (some ⟨b,0,none⟩)]/\SH (λ _=>False) w w' [(b,#[.slice a ls.length c],ty.BM)]):=by
 apply R.PH
 delta R.J R.N R.P R.S;try dsimp only [R.Ps]
 exact (SH.start (λ _=>False) w).Aj λ b1 w1 _ _ S1=>⟨b1,rfl,S1⟩
theorem TJ{L b:Nat}(hn:ls.length<=1000000)(J:Nat->World->Prop)(aU:∀ k w,J k w->Rd w a (AW ls))(bu:∀ k w w',J k w->Below w.heap.size w w'->J k w')(nT:∀ k w (hk:k<ls.length),ls[k].1=0->J k w->J (k+1) w)
  (bD:∀ k w (hk:k<ls.length),ls[k].1≠0->J k w->GJ Tryz.prog L #[Aft ls[k]] (λ y w'=>y=true/\J (k+1) w') w) (h0:J 0 w) (hb:w.cell? ⟨b,0,none⟩=some (.slice a ls.length c)) :
  Calls Tryz.prog f.Mw #[.func (.yield L) #[] #[],.pointer (some ⟨b,0,none⟩)] w (AB λ _ w'=>J ls.length w'):=by
 apply R.Mb
 delta R.A R.Ab R.E R.F R.H R.I R.Li R.Ls R.Lt R.N R.Qi R.Ah R.T R.W R.X;try dsimp only [R.Ps]
 refine⟨_,_,_,hb,λ s w1=>∃ k:Nat,k<=ls.length/\s=[.int .i64 (k:Int)]/\J k w1,λ s _=>match s with
   | [.int _ i]=>ls.length-i.toNat
   | _=>0,⟨0,by omega,rfl,h0⟩,?_⟩
 rintro _ w1 ⟨k,hk,aA,hj⟩;cases aA;refine Aa (λ aB=>⟨⟨by omega,aB⟩,?_⟩) (λ aL=>?_)
 ·have aq:k<ls.length:=by omega
  obtain⟨p,hp,c0,c1,c2⟩:=FG (aU _ _ hj) aq;subst hp;refine⟨_,by rw [AnF];exact c0,_,by rw [AnF];exact c1,_,by rw [AnF];exact c2,(SH.start (λ _=>False) w1).KQ λ b9 w5 tq B5 S5=>?_⟩;have oQ:=bu _ _ _ hj B5;rw [Ai (by omega)];have gQ:ls.length-((k+1:Nat):Int).toNat<ls.length-((k:Nat):Int).toNat:=by
   simp only [AnF];omega
  refine⟨_,S5.cell 0 rfl rfl,Au (λ aQ=>⟨_,S5.cell 0 rfl rfl,_,S5.cell 0 rfl rfl,_,S5.cell 0 rfl rfl,?_⟩) (λ hz=>⟨⟨k+1,by omega,rfl,nT k _ aq hz oQ⟩,gQ⟩)⟩;obtain⟨fn,tm,Rx,bo,hy,iM⟩:=bD k w5 aq aQ oQ;refine⟨fn,tm,Rx,bo,hy,iM.mono ?_⟩;rintro e w6 ⟨y,he,rfl,oR⟩;exact⟨true,he,Aw ⟨⟨k+1,by omega,rfl,oR⟩,gQ⟩⟩
 ·have:k=ls.length:=by omega
  subst this;exact hj
end
theorem Is{α:Type}{g:α->List Value}{n:Nat}(hg:∀ x,(g x).length=n):∀(ls:List α) (i j:Nat) (hi:i<ls.length),j<n->(ls.flatMap g)[i*n+j]?=(g ls[i])[j]?
 | [],i,j,hi,_=>by simp at hi
 | v :: ls,0,j,_,hj=>by
  simp only [AoD,Nat.zero_mul,Nat.zero_add,List.getElem_cons_zero];rw [List.getElem?_append_left (by rw [hg];exact hj)]
 | v :: ls,i+1,j,hi,hj=>by
  simp only [AoD,List.getElem_cons_succ];have e:(i+1)*n+j=n+(i*n+j):=by rw [Nat.add_mul];omega
  rw [e,List.getElem?_append_right (by rw [hg];omega),hg,Nat.add_sub_cancel_left];exact Is hg ls i j (by simpa using hi) hj
theorem Agu{α:Type}{g:α->List Value}{n:Nat}(hg:∀ x,(g x).length=n)(ls:List α):(ls.flatMap g).length=ls.length*n:=by
 induction ls with
 | nil=>simp
 | cons v ls ih=>rw [AoD,List.length_append,ih,hg,List.length_cons,Nat.add_mul];omega
abbrev A0:=ByteArray × Int × Bool
def I1(c:A0):List Value:=[.string c.1,.int .i64 c.2.1,.bool c.2.2]
abbrev A9(cs:List A0):List Value:=cs.flatMap I1
theorem N9(c:A0):(I1 c).length=3:=rfl
theorem Y5(cs:List A0):(A9 cs).length=cs.length*3:=Agu N9 cs
theorem I3{w:World}{a:Option Addr}{cs:List A0}(hl:Rd w a (A9 cs)){i:Nat}(hi:i<cs.length):∃ p,a=some p/\w.cell? (p.add (i*3))=some (.string cs[i].1)/\w.cell? ((p.add (i*3)).add 1)=some (.int .i64 cs[i].2.1)/\w.cell? ((p.add (i*3)).add 2)=some (.bool cs[i].2.2):=by
 obtain⟨p,hp,h0⟩:=hl (i*3+0) _ (by rw [Is N9 cs i 0 hi (by omega)];rfl);obtain⟨p1,hp1,h1⟩:=hl (i*3+1) _ (by rw [Is N9 cs i 1 hi (by omega)];rfl);obtain⟨p2,iw,h2⟩:=hl (i*3+2) _ (by rw [Is N9 cs i 2 hi (by omega)];rfl);subst hp;cases hp1;cases iw;exact⟨p,rfl,h0,by rw [Cm];exact h1,by rw [Cm];exact h2⟩
def Io(c:A0):Bool:=HH c.1 && decide (1<=c.2.1/\c.2.1<=3)
def Ao(cs:List A0):Bool:=decide (1<=cs.length/\cs.length<=16) && cs.all Io && decide ((cs.map (·.1)).Nodup)
theorem Afa{cs:List A0}{i:Nat}(hi:i<cs.length)(h:Io cs[i]=false\/cs[i].1∈(cs.take i).map (·.1)):Ao cs=false:=by
 rcases h with h | h
 ·have:cs.all Io=false:=by
   rw [List.all_eq_false];exact⟨_,Aot hi,by simp [h]⟩
  simp [Ao,this]
 ·have:¬ (cs.map (·.1)).Nodup:=by
   intro hn;obtain⟨j,hj,he⟩:=List.getElem_of_mem h;simp only [List.length_take,List.length_map] at hj;have dE:j<i:=by omega
   have:=(List.pairwise_iff_getElem.1 hn) j i (by simp;omega) (by simpa using hi) dE;apply this;simp only [List.getElem_take,List.getElem_map] at he ⊢;exact he
  simp [Ao,this]
theorem Ae9{cs:List A0}(h:∀ i (hi:i<cs.length),Io cs[i]=true/\cs[i].1∉(cs.take i).map (·.1)):Ao cs=decide (1<=cs.length/\cs.length<=16):=by
 have h1:cs.all Io=true:=by
  rw [List.all_eq_true];intro c hc;obtain⟨i,hi,rfl⟩:=List.getElem_of_mem hc;exact (h i hi).1
 have h2:(cs.map (·.1)).Nodup:=by
  refine List.pairwise_iff_getElem.2 λ i j hi hj dc=>?_;have cC:j<cs.length:=by simpa using hj
  intro he;apply (h j cC).2;refine List.mem_iff_getElem.2 ⟨i,by simp;omega,?_⟩;simp only [List.getElem_take,List.getElem_map] at he ⊢;exact he
 simp [Ao,h1,h2]
section
variable {w:World}{a:Option Addr}{c:Nat}{cs:List A0}
theorem AaY:Tryz.prog.underlying ty.bool=some .bool:=by kernel_rfl
theorem AaZ:Tryz.prog.underlying ty.Gb=some (.map ty.string ty.bool):=by kernel_rfl
theorem AfA(w:World):(zeroValue ty.bool).run Tryz.prog w=.ok (.bool false) w:=by
 have h:(Tryz.prog.info? ty.bool).bind (·.zero)=some (.bool false):=by kernel_rfl
 cases hi:Tryz.prog.info? ty.bool with
 | none=>rw [hi] at h;cases h
 | some i =>
  rw [hi] at h;have hz:i.zero=some (.bool false):=h;simp [zeroValue,typeInfo,hi,hz]
abbrev Aka(w:World)(b n:Nat)(g:List UInt8->Bool):Prop:=WQ Tryz.prog ty.string ty.bool w b n g
theorem Ag1{w:World}{f:Value->World->Prop}(hf:∀ b w',w.heap.size<=b->Below w.heap.size w w'->Aka w' b 0 (λ _=>false)->f (.map (some b)) w'):CD Tryz.prog (Instr.makeMap ty.Gb none) f w:=by
 unfold CD;rw [show (Instr.makeMap ty.Gb none).run Tryz.prog w=.ok (.map (some w.heap.size)) (w.alloc (.map #[] 0)) from rfl];exact hf _ _ (Nat.le_refl _) ((Below.refl _ w).alloc (Nat.le_refl _) _) ⟨_,World.ownsMap_made _ _ _ _,Maps.tidy_empty,λ x=>rfl⟩
def inN(cs:List A0)(i:Nat)(x:List UInt8):Bool:=decide (x∈((cs.take i).map (·.1)).map bl)
theorem AgH{i:Nat}(hi:i<cs.length):(λ y=>if y=bl cs[i].1 then true else inN cs i y)=inN cs (i+1):=by
 funext y;unfold inN;rw [Aou hi,Aov,Aov];by_cases h1:y=bl cs[i].1
 ·simp [h1]
 ·simp [h1]
theorem Adi{i:Nat}(hi:i<cs.length):inN cs i (bl cs[i].1)=true↔cs[i].1∈(cs.take i).map (·.1):=by
 unfold inN;rw [decide_eq_true_eq,List.mem_map];constructor
 ·rintro⟨s,hs,he⟩;rw [<- MW he];exact hs
 ·intro h;exact⟨_,h,rfl⟩
theorem Qb:maxLen=9223372036854775807:=rfl
theorem DA(hl:Rd w a (A9 cs))(hn:cs.length<=9223372036854775807)(hq:∀ c∈cs,c.1.size<=9223372036854775807) :
  Calls Tryz.prog f.XY #[.slice a cs.length c] w (AB λ r w'=>r=.bool (Ao cs)/\Below w.heap.size w w'):=by
 apply R.Nu
 delta R.A R.Ab R.Cb R.F R.G R.I R.Lb R.Li R.Lt R.M R.N R.Qi R.Rb R.Rm R.Ah R.T R.W R.X;try dsimp only [R.Ps]
 refine Ag1 λ b w1 hb B1 xB=>?_;refine⟨_,rfl,λ st w2=>∃ i:Nat,st=[.int .i64 (i:Int)]/\i<=cs.length/\(∀ j (hj:j<cs.length),j<i->Io cs[j]=true/\cs[j].1∉(cs.take j).map (·.1))/\Aka w2 b i (inN cs i)/\Below w.heap.size w w2,
  λ st _=>match st with | [.int _ t]=>cs.length-t.toNat | _=>0,⟨0,rfl,by omega,λ j _ hj=>by omega,xB,B1⟩,?_⟩
 rintro t w2 ⟨i,aA,hi,aE,hM,C2⟩;cases aA;refine Aa (λ aB=>⟨⟨by omega,aB⟩,?_⟩) (λ aL=>?_)
 ·have aF:i<cs.length:=by omega
  have av:=hq _ (Aot aF);obtain⟨p,rfl,c0,c1,c2⟩:=I3 (hl.grown C2) aF;refine⟨_,by rw [AnF];exact c0,_,by rw [AnF];exact c1,_,by rw [AnF];exact c2,(SH.start (λ _=>False) w2).KQ λ bW w6 jq B6 S6=>⟨_,S6.cell 0 rfl rfl,(IC _ av w6).mono ?_⟩⟩;rintro _ w7 ⟨_,rfl,rfl,B7⟩;have S7:=S6.grown B7;have C7:Below w.heap.size w w7:=Ac (Ac C2 B6) B7;have tf:Aka w7 b i (inN cs i):=(hM.kept (F:=λ _=>False) (Ae.Al B6) (by simp)).kept (F:=λ _=>False) (Ae.Al B7) (by simp);have bad:Io cs[i]=false\/cs[i].1∈(cs.take i).map (·.1)->Value.bool false=.bool (Ao cs)/\Below w.heap.size w w7:=λ h=>⟨by rw [Afa aF h],C7⟩;refine⟨_,rfl,A5 (AU (λ h1=>?_) (λ h1=>bad (.inl (by simp [Io,h1]))))⟩;refine⟨_,S7.cell 0 rfl rfl,tf.get JF AaY AaZ (AfA w7) (by rw [Qb];exact av) ⟨_,rfl,?_⟩⟩;refine AU (λ h2=>bad (.inr ((Adi aF).1 h2))) (λ h2=>⟨_,S7.cell 0 rfl rfl,?_⟩);refine Aa (λ h3=>bad (.inl ?_)) (λ h3=>⟨_,S7.cell 0 rfl rfl,Aa (λ h4=>bad (.inl ?_)) (λ h4=>⟨_,S7.cell 0 rfl rfl,?_⟩)⟩)
  ·have:¬ (1<=cs[i].2.1/\cs[i].2.1<=3):=by omega
   simp only [Io,this,decide_false,Bool.and_false]
  ·have:¬ (1<=cs[i].2.1/\cs[i].2.1<=3):=by omega
   simp only [Io,this,decide_false,Bool.and_false]
  ·refine tf.put JF AaY AaZ (by rw [Qb];omega) (by rw [Qb];exact av) λ w9 K9 tg=>?_;rw [AgH aF] at tg;rw [Ai (by omega)];have ok:Io cs[i]=true:=by
    have:1<=cs[i].2.1/\cs[i].2.1<=3:=by omega
    simp only [Io,h1,this,and_self,decide_true,Bool.and_self]
   refine⟨⟨i+1,rfl,by omega,λ j hj dE=>?_,tg,?_⟩,?_⟩
   ·rcases Nat.lt_or_ge j i with h | h
    ·exact aE j hj h
    ·obtain rfl:j=i:=by omega
     exact⟨ok,λ hm=>by rw [(Adi aF).2 hm] at h2;cases h2⟩
   ·exact C7.trans (K9.below C7.size λ k hk he=>by subst he;omega)
   ·show cs.length-((i+1:Nat):Int).toNat<cs.length-((i:Nat):Int).toNat;simp only [AnF];omega
 ·have hR:Ao cs=decide (1<=cs.length/\cs.length<=16):=Ae9 λ j hj=>aE j hj (by omega);refine Aa (λ h=>⟨?_,C2⟩) (λ h=>⟨?_,C2⟩)
  ·rw [hR];congr 1;rw [decide_eq_decide];omega
  ·rw [hR];congr 1;rw [eq_comm,decide_eq_false_iff_not];omega
end
end Go.Proofs.YtoepjfblppfabaaGreatDoor
namespace Go.Proofs.YtoepjfblppfabaaGreatDoor
set_option maxRecDepth 100000
open Go.Dn Go.Proofs
open Go.RowKit (Below)
set_option linter.unusedVariables false
/-! ### kinds -/
def AhY(op:Int):Int:=if op=12\/op=13\/op=14 then 2 else if op=16 then 3 else if 3<=op/\op<=8 then 1 else 0
def Ajd(op:Int):Int:=if 9<=op/\op<=15 then 2 else 1
def AfZ(a b:Int):Bool:=decide (a=b) || decide (a=0) || decide (b=0)
def JN(cs:List A0)(s:ByteArray):Option Nat:=cs.findIdx? λ c=>decide (c.1=s)
def AkE(cs:List A0)(s:ByteArray):Except Int Int :=
 match JN cs s with
 | none=>.error 120
 | some i=>.ok (cs.getD i (E0,0,false)).2.1
def Al4(cs:List A0)(op:Int)(nm:ByteArray)(v:Ax)(l:List Int):Except Int Int :=
 if AhY op≠0/\l.any (λ k=>!AfZ k (AhY op))=true then .error 121 else
 if op=1 then AkE cs nm else if op=2 then .ok v.1 else
 if (op=9\/op=10\/op=11)/\AfZ (l.getD 0 0) (l.getD 1 0)=false then .error 121 else .ok (Ajd op)
mutual
def Ex.kind(cs:List A0):Ex->Except Int Int
 | .mk op nm v ks =>
  match Ex.kinds cs ks with
  | .error e=>.error e
  | .ok l=>Al4 cs op nm v l
def Ex.kinds(cs:List A0):List Ex->Except Int (List Int)
 | []=>.ok []
 | k :: ks =>
  match Ex.kind cs k with
  | .error e=>.error e
  | .ok i=>match Ex.kinds cs ks with
   | .error e=>.error e
   | .ok l=>.ok (i :: l)
end
def WE(cs:List A0)(x:Ex):Except Int Int :=
 if Ao cs then (if x.formed then x.kind cs else .error 122) else .error 50
/-! ### names -/
mutual
def Ex.names:Ex->List ByteArray
 | .mk op nm _ ks=>(if op=1 then [nm] else [])++Ex.Ag2 ks
def Ex.Ag2:List Ex->List ByteArray
 | []=>[]
 | k :: ks=>k.names++Ex.Ag2 ks
end
/-! ### alike -/
mutual
def Ex.same:Ex->Ex->Bool
 | .mk op nm v ks,.mk op' nm' v' ks'=>decide (op=op'/\nm=nm'/\v=v') && Ex.AjT ks ks'
def Ex.AjT:List Ex->List Ex->Bool
 | [],[]=>true
 | x :: xs,y :: ys=>x.same y && Ex.AjT xs ys
 | _,_=>false
end
/-! ### texts -/
def lit(l:List UInt8):ByteArray:=⟨l.toArray⟩
def Ak6(op:Int):ByteArray :=
 if op=13 then ⟨#[111,114]⟩ else if op=12 then ⟨#[97,110,100]⟩ else if op=9 then ⟨#[61]⟩ else if op=10 then ⟨#[60]⟩ else if op=11 then ⟨#[60,61]⟩ else
 if op=3 then ⟨#[43]⟩ else if op=4 then ⟨#[45]⟩ else if op=5 then ⟨#[42]⟩ else if op=6 then ⟨#[47]⟩ else ⟨#[37]⟩
def rowOf(op:Int):Int :=
 if op=13 then 1 else if op=12 then 2 else if op=14 then 3 else if op=15 then 4 else if op=9\/op=10\/op=11 then 5 else if op=3\/op=4 then 6 else if op=5\/op=6\/op=7 then 7 else
 if op=8 then 8 else 9
def Amd(op:Int)(v:Ax):Int:=if op=2/\v.2.1<0 then 8 else rowOf op
def Ex.lvl(x:Ex):Int:=Amd x.op x.v
def AmF(s:ByteArray):ByteArray:=⟨#[40]⟩++s++⟨#[41]⟩
def Amv(l need:Int)(s:ByteArray):ByteArray:=if l<need then AmF s else s
def isNum(op:Int)(v:Ax):Bool:=decide (op=2/\v.1=1)
def AgT(op:Int):Int:=if rowOf op=5 then 6 else rowOf op
def Ab4(ts:List (Int × Bool × ByteArray))(i:Nat)(need:Int):ByteArray:=Amv (ts.getD i (9,false,E0)).1 need (ts.getD i (9,false,E0)).2.2
def Ame(op:Int)(nm:ByteArray)(v:Ax)(ts:List (Int × Bool × ByteArray)):ByteArray :=
 if op=1 then nm else if op=2 then CA (Amm v) else
 if op=16 then ⟨#[108,101,110,40]⟩++Ab4 ts 0 1++⟨#[41]⟩ else
 if op=14 then ⟨#[110,111,116,32]⟩++Ab4 ts 0 3 else
 if op=15 then Ab4 ts 0 5++⟨#[32,105,115,32,110,117,108,108]⟩ else
 if op=8 then (if (ts.getD 0 (9,false,E0)).2.1=true then ⟨#[45,40]⟩++Ab4 ts 0 1++⟨#[41]⟩ else ⟨#[45]⟩++Ab4 ts 0 8) else
 Ab4 ts 0 (AgT op)++⟨#[32]⟩++Ak6 op++⟨#[32]⟩++Ab4 ts 1 (rowOf op+1)
mutual
def Ex.text:Ex->ByteArray
 | .mk op nm v ks=>Ame op nm v (Ex.texts ks)
def Ex.texts:List Ex->List (Int × Bool × ByteArray)
 | []=>[]
 | k :: ks=>(k.lvl,isNum k.op k.v,k.text) :: Ex.texts ks
end
end Go.Proofs.YtoepjfblppfabaaGreatDoor
namespace Go.Proofs.YtoepjfblppfabaaGreatDoor
open _root_.Int renaming toNat_natCast -> AnF
open _root_.List renaming getElem_mem -> Aot, mem_append -> Aow, mem_singleton -> Aox, take_of_length_le -> Aoy, take_succ_eq_append_getElem -> Aou
open _root_.Nat renaming add_mul -> Ann
set_option maxRecDepth 100000
open Go.Dn Go.Proofs
open Go.RowKit (Below)
set_option linter.unusedVariables false
abbrev Pq:=ByteArray × Int × Ex
structure Qu where
 it:List Pq
 wh:List Ex
 gr:List Ex
 od:List (Int × Bool)
 lim:Int
/-! ### cells -/
def ItC(F:Nat->Prop)(w:World)(i:Pq)(cs:List Value):Prop:=∃ c,cs=.string i.1 :: .int .i64 i.2.1 :: c/\ExC F w i.2.2 c/\i.1.size<=maxLen/\i64 i.2.1
def Ca{α:Type}(C:α->List Value->Prop):List α->List Value->Prop
 | [],cs=>cs=[]
 | x :: xs,cs=>∃ c r,cs=c++r/\C x c/\Ca C xs r
def XA(k:Int × Bool)(cs:List Value):Prop:=cs=[.int .i64 k.1,.bool k.2]/\i64 k.1
section
variable {α:Type}{C D:α->List Value->Prop}{F G:Nat->Prop}{w w':World}
theorem Ca.mono(h:∀ x c,C x c->D x c):∀ {l:List α} {cs:List Value},Ca C l cs->Ca D l cs
 | [],cs,hr=>hr
 | x :: l,cs,⟨c,r,e,h1,h2⟩=>⟨c,r,e,h x c h1,Ca.mono h h2⟩
theorem Ca.len{n:Nat}(hn:∀ x c,C x c->c.length=n):∀ {l:List α} {cs:List Value},Ca C l cs->cs.length=l.length*n
 | [],cs,h=>by unfold Ca at h;subst h;simp
 | x :: xs,cs,⟨c,r,e,h1,h2⟩=>by
  subst e;have:=hn x c h1;have:=Ca.len hn h2;simp only [List.length_append,List.length_cons,Ann,Nat.one_mul];omega
theorem Ca.get{n:Nat}(hn:∀ x c,C x c->c.length=n):∀ {l:List α} {cs:List Value},Ca C l cs->∀(i:Nat) (hi:i<l.length),C l[i] ((cs.drop (i*n)).take n)
 | [],cs,h,i,hi=>by simp at hi
 | x :: xs,cs,⟨c,r,e,h1,h2⟩,i,hi=>by
  subst e;have hl:=hn x c h1;cases i with
  | zero =>
   have:((c++r).drop (0*n)).take n=c:=by rw [Nat.zero_mul,List.drop_zero,List.take_append_of_le_length (by omega),Aoy (by omega)]
   rw [this];exact h1
  | succ i =>
   have:((c++r).drop ((i+1)*n)).take n=(r.drop (i*n)).take n:=by
    rw [List.drop_append,List.drop_eq_nil_of_le (by rw [Ann];omega),List.nil_append,hl,Ann];congr 2;omega
   rw [this];exact Ca.get hn h2 i (by simpa using hi)
theorem Ca.of{n:Nat}:∀ {l:List α} {cs:List Value},cs.length=l.length*n->(∀(i:Nat) (hi:i<l.length),C l[i] ((cs.drop (i*n)).take n))->Ca C l cs
 | [],cs,hl,h=>by unfold Ca;simpa using hl
 | x :: xs,cs,hl,h=>by
  simp only [List.length_cons,Ann,Nat.one_mul] at hl;refine⟨cs.take n,cs.drop n,(List.take_append_drop n cs).symm,by have:=h 0 (by simp);rw [List.getElem_cons_zero,Nat.zero_mul,List.drop_zero] at this;exact this,Ca.of (n:=n) (by simp;omega) λ i hi=>?_⟩;have:=h (i+1) (by simpa using hi);simp only [List.getElem_cons_succ] at this;rw [List.drop_drop];rwa [show n+i*n=(i+1)*n by rw [Ann];omega]
theorem ItC.len{i:Pq}{cs:List Value}(h:ItC F w i cs):cs.length=8:=by
 obtain⟨c,rfl,h,_⟩:=h;have:=h.len;simp [this]
theorem AgQ{k:Int × Bool}{cs:List Value}(h:XA k cs):cs.length=2:=by rw [h.1];rfl
end
/-! ### which queries may be -/
def Ch:List ByteArray :=
 [⟨#[115,101,108,101,99,116]⟩,⟨#[119,104,101,114,101]⟩,⟨#[103,114,111,117,112]⟩,⟨#[98,121]⟩,⟨#[111,114,100,101,114]⟩,⟨#[108,105,109,105,116]⟩,⟨#[97,115]⟩,⟨#[97,110,100]⟩,⟨#[111,114]⟩,⟨#[110,111,116]⟩,
 ⟨#[105,115]⟩,⟨#[110,117,108,108]⟩,⟨#[116,114,117,101]⟩,⟨#[102,97,108,115,101]⟩,⟨#[108,101,110]⟩,⟨#[100,101,115,99]⟩,⟨#[99,111,117,110,116]⟩,⟨#[115,117,109]⟩,⟨#[109,105,110]⟩,⟨#[109,97,120]⟩]
def Nf(s:ByteArray):Bool:=Ch.any λ k=>decide (k=s)
def Jn(s:ByteArray):Bool:=HH s && !Nf s
def Acw(x:Ex):Bool:=x.formed && x.names.all Jn
def AlQ(x:Ex):Bool:=decide (x.op=0) && decide (x.nm=E0) && decide (x.v=V0) && decide (x.ks.length=0)
def Ak3(i:Pq):Bool:=Jn i.1 && decide (0<=i.2.1/\i.2.1<=5) && (if i.2.1=1 then AlQ i.2.2 else Acw i.2.2)
def placeOf(l:List Pq)(s:ByteArray):Option Nat:=l.findIdx? λ x=>decide (x.1=s)
def Ak4(l:List Pq)(k:Int):Bool:=decide (0<=k/\k<l.length) && decide (placeOf l (l.getD k.toNat (E0,0,.mk 0 E0 V0 [])).1=some k.toNat)
def Ak7(q:Qu):Bool :=
 decide (1<=q.it.length/\q.it.length<=16/\q.wh.length<=1/\q.gr.length<=4/\q.od.length<=4 /\ -1<=q.lim/\q.lim<=4096) && q.it.all Ak3 && q.wh.all Acw && q.gr.all Acw && q.od.all λ k=>Ak4 q.it k.1
def Aie(a:Int):ByteArray:=if a=2 then ⟨#[99,111,117,110,116]⟩ else if a=3 then ⟨#[115,117,109]⟩ else if a=4 then ⟨#[109,105,110]⟩ else ⟨#[109,97,120]⟩
def Al2(i:Pq):ByteArray :=
 (if i.2.1=0 then i.2.2.text else if i.2.1=1 then ⟨#[99,111,117,110,116,40,42,41]⟩ else Aie i.2.1++⟨#[40]⟩++i.2.2.text++⟨#[41]⟩)++⟨#[32,97,115,32]⟩++i.1
def GP:List ByteArray->ByteArray
 | []=>E0
 | [x]=>x
 | x :: y :: l=>x++⟨#[44,32]⟩++GP (y :: l)
def AdA(head:ByteArray)(l:List ByteArray):ByteArray:=if l.length=0 then E0 else head++GP l
def AmR(l:List Pq)(k:Int × Bool):ByteArray:=(l.getD k.1.toNat (E0,0,.mk 0 E0 V0 [])).1++if k.2 then ⟨#[32,100,101,115,99]⟩ else E0
def AmT(n:Int):ByteArray:=if 0<=n then ⟨#[32,108,105,109,105,116,32]⟩++CA (Lib.itoa n) else E0
def quT(q:Qu):ByteArray :=
 AdA ⟨#[115,101,108,101,99,116,32]⟩ (q.it.map Al2)++AdA ⟨#[32,119,104,101,114,101,32]⟩ (q.wh.map Ex.text)++AdA ⟨#[32,103,114,111,117,112,32,98,121,32]⟩ (q.gr.map Ex.text) ++
 AdA ⟨#[32,111,114,100,101,114,32,98,121,32]⟩ (q.od.map (AmR q.it))++AmT q.lim
def Acv(q:Qu):Bool:=Ak7 q && decide ((quT q).size<=4096)
/-! ### plans -/
def Agz(q:Qu):Bool:=(q.it.any λ i=>decide (i.2.1≠0)) || decide (0<q.gr.length)
def Akd(x:Ex)(l:List Ex):Bool:=l.any λ g=>x.formed && g.formed && x.same g
def Ui(k:Int):Int:=if k=0 then 1 else k
def AjM(q:Qu)(i:Nat)(x:Pq)(k:Int):Except Int A0 :=
 if x.2.1=3/\Ui k≠1 then .error 121 else
 if (Agz q=true/\x.2.1=0/\Akd x.2.2 q.gr=false)\/((q.it.take i).any λ y=>decide (y.1=x.1))=true then .error 122 else
 .ok (x.1,if x.2.1=1\/x.2.1=2 then 1 else Ui k,true)
def AgN(cs:List A0)(q:Qu)(i:Nat)(x:Pq):Except Int A0 :=
 if x.2.1=1 then AjM q i x 1 else
 match WE cs x.2.2 with
 | .error e=>.error e
 | .ok k=>AjM q i x k
def T3(cs:List A0)(q:Qu):Nat->List Pq->Except Int (List A0)
 | _,[]=>.ok []
 | i,x :: l =>
  match AgN cs q i x with
  | .error e=>.error e
  | .ok c=>match T3 cs q (i+1) l with
   | .error e=>.error e
   | .ok r=>.ok (c :: r)
def QG(cs:List A0):List Ex->Option Int
 | []=>none
 | x :: l =>
  match WE cs x with
  | .error e=>some e
  | .ok k=>if k≠2/\k≠0 then some 121 else QG cs l
def PU(cs:List A0):List Ex->Option Int
 | []=>none
 | x :: l =>
  match WE cs x with
  | .error e=>some e
  | .ok _=>PU cs l
def AjR(cs:List A0)(q:Qu):Except Int (List A0) :=
 if Ao cs=false then .error 50 else if Acv q=false then .error 110 else
 match QG cs q.wh with
 | some e=>.error e
 | none=>match PU cs q.gr with
  | some e=>.error e
  | none=>T3 cs q 0 q.it
def Age(b d:Nat):It:=It.cells b #[.int .i64 (d:Int)] ty.int
def exI(b:Nat)(cs:List Value):It:=It.cells b ⟨cs⟩ ty.GM
theorem MF{w:World}{x:Ex}{a:Option Addr}{cap:Nat}(d:Nat):Calls Tryz.prog f.AbO #[.agg ⟨M5 x a cap⟩,.int .i64 (d:Int)] w (AB λ v w'=>∃ bd bx,v=.func (.func f.ME) #[] #[.pointer (some ⟨bd,0,none⟩),.pointer (some ⟨bx,0,none⟩)] /\
  ST w w' [Age bd d,exI bx (M5 x a cap)]):=by
 apply R.PQ
 delta R.I R.J R.N R.P R.S R.T;try dsimp only [R.Ps]
 exact (ST.start w).Aj λ b1 w1 _ _ S1=>S1.Aj λ b2 w2 _ _ S2=>⟨b2,b1,rfl,S2⟩
def AkX(L:Nat):Array Value:=#[.func (.yield L) #[] #[]]
def Vb(o:Option Nat):Int:=match o with | none => -1 | some i=>i
theorem XV{α:Type}{C:α->List Value->Prop}{n:Nat}(hn:∀ x c,C x c->c.length=n)(h0:0<n){w:World}{a:Option Addr}{rs:List Value}{l:List α}(hr:Rd w a rs)(hC:Ca C l rs){i:Nat}(hi:i<l.length) :
  ∃ p c,a=some p/\C l[i] c/\∀ j v,c[j]?=some v->w.cell? ((p.add (i*n)).add j)=some v:=by
 have h:=hC.get hn i hi;have hl:=hn _ _ h;obtain⟨v0,hv0⟩:∃ v,((rs.drop (i*n)).take n)[0]?=some v:=⟨_,List.getElem?_eq_getElem (by omega)⟩;have get:∀ j v,((rs.drop (i*n)).take n)[j]?=some v->rs[i*n+j]?=some v:=by
  intro j v hj;rw [List.getElem?_take] at hj;split at hj
  ·rw [List.getElem?_drop] at hj;exact hj
  ·cases hj
 obtain⟨p,rfl,_⟩:=hr (i*n+0) _ (get 0 _ hv0);refine⟨p,_,rfl,h,λ j v hj=>?_⟩;obtain⟨q,hq,hc⟩:=hr (i*n+j) v (get j v hj);cases hq;rwa [Cm]
theorem Jb{α:Type}{p:α->Bool}{l:List α}{i:Nat}(hi:i<l.length)(h:∀ x∈l.take i,p x=false)(hp:p l[i]=true):l.findIdx? p=some i:=by
 rw [List.findIdx?_eq_some_iff_getElem];exact⟨hi,hp,λ j hj=>by rw [h l[j] (List.mem_take_iff_getElem.2 ⟨j,by omega,rfl⟩)];decide⟩
theorem Gy{α:Type}{p:α->Bool}{l:List α}(h:∀ x∈l,p x=false):l.findIdx? p=none:=List.findIdx?_eq_none_iff.2 h
theorem Kf{α:Type}(p:α->Bool)(l:List α):l.any p=decide (Vb (l.findIdx? p)>=0):=by
 cases h:l.findIdx? p with
 | none =>
  have:=List.findIdx?_eq_none_iff.1 h;rw [Bool.eq_iff_iff,List.any_eq_true,decide_eq_true_eq];show _↔(-1:Int)>=0;constructor
  ·rintro⟨x,hx,hp⟩;rw [this x hx] at hp;cases hp
  ·intro h;omega
 | some i =>
  obtain⟨hi,hp,_⟩:=List.findIdx?_eq_some_iff_getElem.1 h;rw [Bool.eq_iff_iff,List.any_eq_true,decide_eq_true_eq];show _↔((i:Nat):Int)>=0;exact⟨λ _=>by omega,λ _=>⟨_,Aot hi,hp⟩⟩
theorem Ow{w:World}{a:Option Addr}{c0:Nat}{rs:List Value}{l:List A0}(hl:Rd w a rs)(hC:Ca (λ x c=>c=I1 x) l rs)(hn:l.length<=9223372036854775807){fn:FuncId}{fi ca:Array Value}(bP:enters Tryz.prog fn=true)(p:A0->Bool)(hf:∀ w' x c,Below w.heap.size w w'->x∈l->(λ x c=>c=I1 x) x c->Calls Tryz.prog fn ⟨fi.toList++[.agg ⟨c⟩]++ca.toList⟩ w' (AB λ r au=>r=.bool (p x)/\Below w'.heap.size w' au)) :
  Calls Tryz.prog f.DW #[.slice a l.length c0,.func (.func fn) fi ca] w (AB λ r w'=>r=.int .i64 (Vb (l.findIdx? p))/\Below w.heap.size w w'):=by
 apply R.Dd
 delta R.E R.F R.G R.I R.Lb R.Li R.Lt R.Qi R.T R.W R.X;try dsimp only [R.Ps]
 refine⟨λ st w1=>∃ i:Nat,st=[.int .i64 (i:Int)]/\i<=l.length/\(∀ x∈l.take i,p x=false)/\Below w.heap.size w w1,λ st _=>match st with | [.int _ t]=>l.length-t.toNat | _=>0,⟨0,rfl,by omega,by simp,.refl _ _⟩,?_⟩;rintro t w1 ⟨i,aA,hi,aE,B1⟩;cases aA;refine Aa (λ aB=>⟨⟨by omega,aB⟩,?_⟩) (λ aL=>⟨?_,B1⟩)
 ·have aF:i<l.length:=by omega
  obtain⟨q,c,rfl,hc,cell⟩:=XV (n:=3) (λ x c h=>by rw [h];rfl) (by decide) (hl.grown B1) hC aF;have fP:=hc;have eV:c=I1 l[i]:=hc;subst eV;refine⟨_,by rw [AnF];exact cell 0 _ rfl,_,by rw [AnF];exact cell 1 _ rfl,_,by rw [AnF];exact cell 2 _ rfl,?_⟩;rw [bP];refine (hf w1 _ _ B1 (Aot aF) fP).mono ?_;rintro _ w2 ⟨_,rfl,rfl,B2⟩;refine⟨_,rfl,AU (λ h=>⟨by rw [Jb aF aE h];rfl,Ac B1 B2⟩) (λ h=>?_)⟩;rw [Ai (by omega)];refine⟨⟨i+1,rfl,by omega,λ x hx=>?_,Ac B1 B2⟩,?_⟩
  ·rw [Aou aF] at hx;rcases Aow.1 hx with hx | hx
   ·exact aE x hx
   ·rw [Aox.1 hx];exact h
  ·show l.length-((i+1:Nat):Int).toNat<l.length-((i:Nat):Int).toNat;simp only [AnF];omega
 ·rw [Aoy (by omega)] at aE;rw [Gy aE];rfl
theorem RS{w0:World}{w:World}{a:Option Addr}{c0:Nat}{rs:List Value}{l:List Pq}(hl:Rd w a rs)(hC:Ca (ItC (λ _=>False) w0) l rs)(hn:l.length<=9223372036854775807){fn:FuncId}{fi ca:Array Value}(bP:enters Tryz.prog fn=true)(p:Pq->Bool)(hf:∀ w' x c,Below w.heap.size w w'->x∈l->(ItC (λ _=>False) w0) x c->Calls Tryz.prog fn ⟨fi.toList++[.agg ⟨c⟩]++ca.toList⟩ w' (AB λ r au=>r=.bool (p x)/\Below w'.heap.size w' au)) :
  Calls Tryz.prog f.Ez #[.slice a l.length c0,.func (.func fn) fi ca] w (AB λ r w'=>r=.int .i64 (Vb (l.findIdx? p))/\Below w.heap.size w w'):=by
 apply R.DG
 delta R.E R.F R.G R.I R.Li R.Ls R.Lt R.Qi R.S R.T R.W R.X;try dsimp only [R.Ps]
 refine⟨λ st w1=>∃ i:Nat,st=[.int .i64 (i:Int)]/\i<=l.length/\(∀ x∈l.take i,p x=false)/\Below w.heap.size w w1,λ st _=>match st with | [.int _ t]=>l.length-t.toNat | _=>0,⟨0,rfl,by omega,by simp,.refl _ _⟩,?_⟩;rintro t w1 ⟨i,aA,hi,aE,B1⟩;cases aA;refine Aa (λ aB=>⟨⟨by omega,aB⟩,?_⟩) (λ aL=>⟨?_,B1⟩)
 ·have aF:i<l.length:=by omega
  obtain⟨q,c,rfl,hc,cell⟩:=XV (n:=8) (λ x c h=>ItC.len h) (by decide) (hl.grown B1) hC aF;have fP:=hc;obtain⟨ce,rfl,hx,hy⟩:=id hc;obtain⟨a9,cap9,_,rfl,_⟩:=ExC.open hx;refine⟨_,by rw [AnF];exact cell 0 _ rfl,_,by rw [AnF];exact cell 1 _ rfl,_,by rw [AnF];exact cell 2 _ rfl,_,by rw [AnF];exact cell 3 _ rfl,_,by rw [AnF];exact cell 4 _ rfl,_,by rw [AnF];exact cell 5 _ rfl,_,by rw [AnF];exact cell 6 _ rfl,_,_,_,by rw [AnF];exact cell 7 _ rfl,?_⟩;rw [bP];refine (hf w1 _ _ B1 (Aot aF) fP).mono ?_;rintro _ w2 ⟨_,rfl,rfl,B2⟩;refine⟨_,rfl,AU (λ h=>⟨by rw [Jb aF aE h];rfl,Ac B1 B2⟩) (λ h=>?_)⟩;rw [Ai (by omega)];refine⟨⟨i+1,rfl,by omega,λ x hx=>?_,Ac B1 B2⟩,?_⟩
  ·rw [Aou aF] at hx;rcases Aow.1 hx with hx | hx
   ·exact aE x hx
   ·rw [Aox.1 hx];exact h
  ·show l.length-((i+1:Nat):Int).toNat<l.length-((i:Nat):Int).toNat;simp only [AnF];omega
 ·rw [Aoy (by omega)] at aE;rw [Gy aE];rfl
theorem JJ{w0:World}{w:World}{a:Option Addr}{c0:Nat}{rs:List Value}{l:List Pq}(hl:Rd w a rs)(hC:Ca (ItC (λ _=>False) w0) l rs)(hn:l.length<=9223372036854775807){fn:FuncId}{fi ca:Array Value}(bP:enters Tryz.prog fn=true)(p:Pq->Bool)(hf:∀ w' x c,Below w.heap.size w w'->x∈l->(ItC (λ _=>False) w0) x c->Calls Tryz.prog fn ⟨fi.toList++[.agg ⟨c⟩]++ca.toList⟩ w' (AB λ r au=>r=.bool (p x)/\Below w'.heap.size w' au)) :
  Calls Tryz.prog f.D8 #[.slice a l.length c0,.func (.func fn) fi ca] w (AB λ r w'=>r=.bool (l.any p)/\Below w.heap.size w w'):=by
 apply R.Di
 delta R.Ci R.G R.S;try dsimp only [R.Ps]
 refine (RS hl hC hn bP p hf).mono ?_;rintro _ w1 ⟨_,rfl,rfl,B1⟩;exact⟨_,rfl,by rw [Kf],B1⟩
theorem TO{w:World}{a:Option Addr}{c0:Nat}{rs:List Value}{l:List (Int × Bool)}(hl:Rd w a rs)(hC:Ca (XA) l rs)(hn:l.length<=9223372036854775807){fn:FuncId}{fi ca:Array Value}(bP:enters Tryz.prog fn=true)(p:(Int × Bool)->Bool)(hf:∀ w' x c,Below w.heap.size w w'->x∈l->(XA) x c->Calls Tryz.prog fn ⟨fi.toList++[.agg ⟨c⟩]++ca.toList⟩ w' (AB λ r au=>r=.bool (p x)/\Below w'.heap.size w' au)) :
  Calls Tryz.prog f.Fa #[.slice a l.length c0,.func (.func fn) fi ca] w (AB λ r w'=>r=.int .i64 (Vb (l.findIdx? p))/\Below w.heap.size w w'):=by
 apply R.BR
 delta R.E R.F R.G R.I R.Lb R.Li R.Qi R.W R.X;try dsimp only [R.Ps]
 refine⟨λ st w1=>∃ i:Nat,st=[.int .i64 (i:Int)]/\i<=l.length/\(∀ x∈l.take i,p x=false)/\Below w.heap.size w w1,λ st _=>match st with | [.int _ t]=>l.length-t.toNat | _=>0,⟨0,rfl,by omega,by simp,.refl _ _⟩,?_⟩;rintro t w1 ⟨i,aA,hi,aE,B1⟩;cases aA;refine Aa (λ aB=>⟨⟨by omega,aB⟩,?_⟩) (λ aL=>⟨?_,B1⟩)
 ·have aF:i<l.length:=by omega
  obtain⟨q,c,rfl,hc,cell⟩:=XV (n:=2) (λ x c h=>AgQ h) (by decide) (hl.grown B1) hC aF;have fP:=hc;obtain rfl:=hc.1;refine⟨_,by rw [AnF];exact cell 0 _ rfl,_,by rw [AnF];exact cell 1 _ rfl,?_⟩;rw [bP];refine (hf w1 _ _ B1 (Aot aF) fP).mono ?_;rintro _ w2 ⟨_,rfl,rfl,B2⟩;refine⟨_,rfl,AU (λ h=>⟨by rw [Jb aF aE h];rfl,Ac B1 B2⟩) (λ h=>?_)⟩;rw [Ai (by omega)];refine⟨⟨i+1,rfl,by omega,λ x hx=>?_,Ac B1 B2⟩,?_⟩
  ·rw [Aou aF] at hx;rcases Aow.1 hx with hx | hx
   ·exact aE x hx
   ·rw [Aox.1 hx];exact h
  ·show l.length-((i+1:Nat):Int).toNat<l.length-((i:Nat):Int).toNat;simp only [AnF];omega
 ·rw [Aoy (by omega)] at aE;rw [Gy aE];rfl
theorem Tb{w:World}{a:Option Addr}{c0:Nat}{rs:List Value}{l:List (Int × Bool)}(hl:Rd w a rs)(hC:Ca (XA) l rs)(hn:l.length<=9223372036854775807){fn:FuncId}{fi ca:Array Value}(bP:enters Tryz.prog fn=true)(p:(Int × Bool)->Bool)(hf:∀ w' x c,Below w.heap.size w w'->x∈l->(XA) x c->Calls Tryz.prog fn ⟨fi.toList++[.agg ⟨c⟩]++ca.toList⟩ w' (AB λ r au=>r=.bool (p x)/\Below w'.heap.size w' au)) :
  Calls Tryz.prog f.Eo #[.slice a l.length c0,.func (.func fn) fi ca] w (AB λ r w'=>r=.bool (l.any p)/\Below w.heap.size w w'):=by
 apply R.Bw
 delta R.Ci R.G R.S;try dsimp only [R.Ps]
 refine (TO hl hC hn bP p hf).mono ?_;rintro _ w1 ⟨_,rfl,rfl,B1⟩;exact⟨_,rfl,by rw [Kf],B1⟩
end Go.Proofs.YtoepjfblppfabaaGreatDoor
namespace Go.Proofs.YtoepjfblppfabaaGreatDoor
set_option maxRecDepth 100000
open Go.Dn Go.Proofs
open Go.RowKit (Below)
set_option linter.unusedVariables false
/-! ### which columns are used -/
/-! ### kinds -/
/-! ### what a plan's columns are -/
/-! ### a column that is not used is taken away -/
section
variable {cs:List A0}{c:Nat}
end
/-! ### a query with its first item twice -/
end Go.Proofs.YtoepjfblppfabaaGreatDoor
namespace Go.Proofs.YtoepjfblppfabaaGreatDoor
set_option maxRecDepth 100000
open Go.Dn Go.Proofs
open Go.RowKit (Below)
set_option linter.unusedVariables false
/-! ### lists of numbers, of texts -/
def Dk(a:Option Addr)(c:Nat)(xs:List Int):It:=It.row ty.int 1 a xs.length c (xs.map DK)
def IG(a:Option Addr)(c:Nat)(xs:List ByteArray):It:=It.row ty.string 1 a xs.length c (xs.map Value.string)
theorem AcG:Ia Tryz.prog ty.GK=some (ty.int,1,8,.int .i64 0):=by kernel_rfl
theorem Alj:Ia Tryz.prog ty.BC=some (ty.string,1,16,.string ⟨#[]⟩):=by kernel_rfl
section
variable {w0 w:World}{H:List It}{a:Option Addr}{c:Nat}
theorem AdJ(S:ST w0 w H)(n:Nat){xs:List ByteArray}(hn:H[n]?=some (IG a c xs)){b:Option Addr}{mm mc:Nat}{ys:List ByteArray}(hy:ys.length=mm)(hs:Rd w b (ys.map Value.string))(hl:xs.length+mm<=1000000){f:Value->World->Prop}
  (hf:∀ a' c' w',ST w0 w' (H.set n (IG a' c' (xs++ys)))->f (.slice a' (xs++ys).length c') w') :
  CD Tryz.prog (Builtin.append_ #[ty.BC,ty.BC] ty.BC #[.slice a xs.length c,.slice b mm mc]) f w:=by
 refine S.app n hn Alj rfl (by omega) (by omega) hs (mm:=mm) (by simp [hy]) (by intro u hu;obtain⟨y,_,rfl⟩:=List.mem_map.1 hu;rfl) (by omega) λ a' c' w' S'=>?_;have e1:(xs++ys).length=xs.length+mm:=by simp [hy]
 have e2:xs.map Value.string++ys.map Value.string=(xs++ys).map Value.string:=by simp
 rw [e2] at S';have:=hf a' c' w' (by unfold IG;rw [e1];exact S');rwa [e1] at this
end
/-! ### a column of a name -/
theorem Ut:∀ cs:List A0,Ca (λ x c=>c=I1 x) cs (A9 cs)
 | []=>rfl
 | x :: cs=>⟨I1 x,A9 cs,rfl,rfl,Ut cs⟩
section
variable {w:World}{a1:Option Addr}{c1:Nat}{cs:List A0}
theorem G8(hl:Rd w a1 (A9 cs))(hn:cs.length<=9223372036854775807)(s:ByteArray):Calls Tryz.prog f.AaC #[.slice a1 cs.length c1,.string s] w (AB λ r w'=>r=.int .i64 (Vb (JN cs s))/\Below w.heap.size w w'):=by
 apply R.OZ
 delta R.Ci R.I R.J R.N R.P R.S R.T;try dsimp only [R.Ps]
 refine (ST.start w).Aj λ b3 w1 _ _ S1=>(Ow (hl.grown S1.An) (Ut cs) hn (by kernel_rfl) (λ c=>decide (c.1=s)) ?_).mono ?_
 ·rintro w2 x _ B2 _ rfl;show Calls Tryz.prog f.Uu #[.agg #[.string x.1,.int .i64 x.2.1,.bool x.2.2],.pointer (some ⟨b3,0,none⟩)] w2 _;apply R.Lr
  delta R.A R.G R.I R.Lt R.N R.T;try dsimp only [R.Ps]
  have S2:=S1.grown B2;exact (ST.start w2).Aj λ b5 w3 _ B3 S3=>⟨_,S3.cell 0 rfl rfl,_,(S2.grown B3).cell 0 rfl rfl,by rw [AK],S3.An⟩
 ·rintro _ w2 ⟨_,rfl,rfl,B2⟩;exact⟨_,rfl,rfl,(S1.grown B2).An⟩
/-! ### kinds -/
end
end Go.Proofs.YtoepjfblppfabaaGreatDoor
namespace Go.Proofs.YtoepjfblppfabaaGreatDoor
set_option maxRecDepth 100000
open Go.Dn Go.Proofs
open Go.RowKit (Below)
set_option linter.unusedVariables false
section
variable {w:World}{a1:Option Addr}{c1:Nat}{cs:List A0}
end
end Go.Proofs.YtoepjfblppfabaaGreatDoor
namespace Go.Proofs.YtoepjfblppfabaaGreatDoor
open _root_.Go.Sort renaming ahead -> AoF, grow -> AoE
open _root_.List renaming mem_singleton -> Aox
set_option maxRecDepth 100000
open Go.Dn Go.Proofs
open Go.RowKit (Below)
open Go.Sort (putRow putCells Holds)
set_option linter.unusedVariables false
section
variable {α:Type}[Inhabited α]
theorem Aar(enc:α->Value)(w:World)(g m:Nat)(d:Array α)(os:Array Obj){k:Nat}(hk:k<w.heap.size):(AoE (putRow enc (AoF w m) g 0 d) os).heap[k]?=if g=k then (w.heap[k]?).map (Go.Sort.onCells (putCells enc 0 d)) else w.heap[k]?:=by
 simp only [AoE,putRow,Go.Sort.mapBlock,AoF];rw [Array.getElem?_append_left (by simpa using hk),Array.getElem?_modify]
theorem Qk(enc:α->Value)(w:World)(g m:Nat)(d:Array α)(os:Array Obj):Ae (λ k=>some g=some k) w (AoE (putRow enc (AoF w m) g 0 d) os) where
 os:=rfl
 tape:=rfl
 output:=rfl
 size:=by simp [AoE,putRow,Go.Sort.mapBlock,AoF]
 block:=λ k hk hn=>by rw [Aar enc w g m d os hk,if_neg (λ e=>hn (by rw [e]))]
theorem AhO(enc:α->Value)(cur:Array Value)(ts:List α){k:Nat}(hk:k<=ts.length)(h:ts.length<=cur.size):(putCells enc 0 ts.toArray cur).toList.take k=(ts.take k).map enc:=by
 apply List.ext_getElem?;intro j;by_cases hj:j<k
 ·have ku:j<ts.length:=by omega
  rw [List.getElem?_take_of_lt hj,Array.getElem?_toList];simp [putCells,hj,ku,show j<cur.size by omega]
 ·rw [List.getElem?_take_eq_none (by omega),List.getElem?_eq_none (by simp;omega)]
theorem XU(enc:α->Value){w:World}{e:TypeId}{g n c m:Nat}{xs:List Value}{os:Array Obj}(ts:List α){k:Nat}(hr:Row w e 1 (some ⟨g,0,none⟩) n c xs)(ht:ts.length<=n)(hk:k<=ts.length) :
  Row (AoE (putRow enc (AoF w m) g 0 ts.toArray) os) e 1 (some ⟨g,0,none⟩) k c ((ts.take k).map enc):=by
 rcases hr.2 with ⟨h,_⟩ | ⟨g',cur,aV,hh,h1,h2,h3,h4⟩
 ·cases h
 ·cases aV;refine⟨by simp;omega,.inr ⟨g,putCells enc 0 ts.toArray cur,rfl,?_,by omega,h2,by simp [putCells,h3],?_⟩⟩
  ·rw [Aar enc w g m _ os (Array.getElem?_eq_some_iff.1 hh).1,if_pos rfl,hh];rfl
  ·rw [Nat.mul_one];exact AhO enc cur ts hk (by omega)
theorem PV(enc:α->Value){w:World}{e:TypeId}{g n c:Nat}{ts:List α}(hr:Row w e 1 (some ⟨g,0,none⟩) n c (ts.map enc)):Holds enc w g 0 ts.toArray/\g<w.heap.size/\ts.length=n/\n<=c:=by
 rcases hr.2 with ⟨h,_⟩ | ⟨g',cur,aV,hh,h1,h2,h3,h4⟩
 ·cases h
 ·cases aV;have hl:ts.length=n:=by have:=hr.1;simpa using this
  refine⟨λ j hj=>?_,(Array.getElem?_eq_some_iff.1 hh).1,hl,h1⟩;have cC:j<ts.length:=by simpa using hj
  refine⟨?_,by simp [World.frozen?,hh]⟩;have e1:(cur.toList.take (n*1))[j]?=(ts.map enc)[j]?:=by rw [h4]
  rw [List.getElem?_take_of_lt (by omega)] at e1;simp only [World.cell?,hh,Nat.zero_add,Option.isSome_none,Bool.false_eq_true,if_false];rw [<- Array.getElem?_toList,e1];simp [cC]
end
theorem Abx{α:Type}[Inhabited α][DecidableEq α](le:α->α->Prop)(tr:∀ a b c,le a b->le b c->le a c)(an:∀ a b,le a b->le b a->a=b)(d:Array α)(hs:∀ i j,i<j->j<d.size->le d[i]! d[j]!) :
  ∀ m,m<=d.size->(Lib.compactUpTo d m).Pairwise (λ a b=>le a b/\a≠b)/\(∀ x,x∈Lib.compactUpTo d m↔∃ j,j<m/\d[j]! = x)/\(∀ x∈Lib.compactUpTo d m,0<m->x=d[m-1]! \/ le x d[m-1]!):=by
 intro m
 induction m with
 | zero=>intro _;simp [Lib.compactUpTo]
 | succ m ih =>
  intro hm;obtain⟨h1,h2,h3⟩:=ih (by omega);rw [Lib.compactUpTo_succ];have jZ:∀ x,(∃ j,j<m/\d[j]! = x)->le x d[m]! := by
   rintro x ⟨j,hj,rfl⟩;exact hs j m hj (by omega)
  by_cases hk:Lib.keeps d m=true
  ·rw [if_pos hk];refine⟨List.pairwise_append.2 ⟨h1,by simp,λ a ha b hb=>?_⟩,λ x=>?_,λ x hx _=>?_⟩
   ·rw [Aox.1 hb];have fN:=(h2 a).1 ha;refine⟨jZ a fN,λ e=>?_⟩;have fW:0<m:=by obtain⟨j,hj,_⟩:=fN;omega
    have aQ:d[m]! ≠ d[m-1]! := by
     intro e2;rw [Lib.keeps_neg fW e2] at hk;cases hk
    have hle:le d[m-1]! d[m]! := hs (m-1) m (by omega) (by omega);rcases h3 a ha fW with h | h
    ·exact aQ (by rw [<- e,h])
    ·exact aQ (by rw [e] at h;exact an _ _ h hle)
   ·rw [List.mem_append,Aox,h2];constructor
    ·rintro (⟨j,hj,h⟩ | rfl)
     ·exact⟨j,by omega,h⟩
     ·exact⟨m,by omega,rfl⟩
    ·rintro⟨j,hj,h⟩;rcases Nat.lt_or_ge j m with h' | h'
     ·exact .inl ⟨j,h',h⟩
     ·obtain rfl:j=m:=by omega
      exact .inr h.symm
   ·rw [Nat.add_sub_cancel];rcases List.mem_append.1 hx with hx | hx
    ·exact .inr (jZ x ((h2 x).1 hx))
    ·exact .inl (Aox.1 hx)
  ·rw [if_neg hk,List.append_nil];have fW:0<m:=by
    apply Classical.byContradiction;intro h0;obtain rfl:m=0:=by omega
    exact hk (Lib.keeps_lt_one d 0 (by omega))
   have he:d[m]! = d[m-1]! := by
    apply Classical.byContradiction;intro h;exact hk (Lib.keeps_pos h)
   refine⟨h1,λ x=>?_,λ x hx _=>?_⟩
   ·rw [h2];constructor
    ·rintro⟨j,hj,h⟩;exact⟨j,by omega,h⟩
    ·rintro⟨j,hj,h⟩;rcases Nat.lt_or_ge j m with h' | h'
     ·exact⟨j,h',h⟩
     ·obtain rfl:j=m:=by omega
      exact⟨j-1,by omega,by rw [<- he];exact h⟩
   ·rw [Nat.add_sub_cancel,he];exact h3 x hx fW
theorem Tp{α:Type}[Inhabited α][DecidableEq α](le:α->α->Prop)(tr:∀ a b c,le a b->le b c->le a c)(an:∀ a b,le a b->le b a->a=b)(l:List α)(hs:l.Pairwise le) :
  (Lib.compact l).Pairwise (λ a b=>le a b/\a≠b)/\∀ x,x∈Lib.compact l↔x∈l:=by
 have hg:∀ i (hi:i<l.length),l.toArray[i]! = l[i]:=λ i hi=>by simp [hi]
 obtain⟨h1,h2,_⟩:=Abx le tr an l.toArray (λ i j dc hj=>by
  have cC:j<l.length:=by simpa using hj
  rw [hg i (by omega),hg j cC];exact List.pairwise_iff_getElem.1 hs i j (by omega) cC dc) l.length (by simp)
 refine⟨h1,λ x=>?_⟩;unfold Lib.compact;rw [h2,List.mem_iff_getElem];constructor
 ·rintro⟨j,hj,h⟩;exact⟨j,hj,by rw [<- hg j hj];exact h⟩
 ·rintro⟨j,hj,h⟩;exact⟨j,hj,by rw [hg j hj];exact h⟩
theorem AgC(w:World):AoE w #[]=w:=by cases w;simp [AoE]
theorem UB{α:Type}{H:List α}{n:Nat}{x:α}(hn:H[n]?=some x):H.set n x=H:=by
 obtain⟨h,rfl⟩:=List.getElem?_eq_some_iff.1 hn;exact List.set_getElem_self h
theorem AdL(xs:List ByteArray):xs.map Value.string=(xs.map bl).map encStr:=by
 rw [List.map_map];rfl
theorem AaK(ts:List (List UInt8)):(ts.map CA).map bl=ts:=by
 rw [List.map_map];have:(bl ∘ CA)=id:=by funext x;exact Dq x
 rw [this,List.map_id]
section
variable {w0 w:World}{H:List It}{a:Option Addr}{c:Nat}
theorem Ahx(S:ST w0 w H)(n:Nat){xs:List ByteArray}(hn:H[n]?=some (IG a c xs))(hl:xs.length<=1000000):Calls Tryz.prog f.Ee #[.slice a xs.length c] w (AB λ v w'=>v=.tuple #[]/\∃ ys:List ByteArray,ys.length=xs.length/\ys.map bl=(xs.map bl).mergeSort (λ x y=>decide (x<=y)) /\
  ST w0 w' (H.set n (IG a c ys))):=by
 have hR:Row w ty.string 1 a xs.length c (xs.map Value.string):=S.get n hn;have dy:H.set n (IG a c xs)=H:=UB hn;have cu:xs=[]->Calls Tryz.prog f.Ee #[.slice a xs.length c] w (AB λ v w'=>v=.tuple #[]/\∃ ys:List ByteArray,ys.length=xs.length/\ys.map bl=(xs.map bl).mergeSort (λ x y=>decide (x<=y))/\ST w0 w' (H.set n (IG a c ys))):=by
  rintro rfl;refine (Tryz.slices_Sort_string_none a c w).mono ?_;rintro _ w' ⟨rfl,rfl⟩;exact⟨_,rfl,rfl,[],rfl,by simp,by rw [dy];exact S⟩
 rcases a with _ | ⟨g,o,idx⟩
 ·refine cu ?_;rcases hR.2 with ⟨_,h,_⟩ | ⟨_,_,h,_⟩
  ·exact List.eq_nil_of_length_eq_zero h
  ·cases h
 ·have mi:o=0/\idx=none:=by
   rcases hR.2 with ⟨h,_⟩ | ⟨_,_,h,_⟩
   ·cases h
   ·cases h;exact⟨rfl,rfl⟩
  obtain⟨rfl,rfl⟩:=mi;have zi:=hR;rw [AdL] at hR;obtain⟨hH,hg,hlen,cj⟩:=PV encStr hR;have nA:(xs.map bl).length=xs.length:=by simp
  have aj:=Tryz.slices_Sort_string g 0 c (xs.map bl) w hH hg (by rw [nA];omega);rw [nA] at aj;refine aj.mono ?_;rintro _ w' ⟨rfl,m,os,rfl⟩;have jV:((xs.map bl).mergeSort λ x y=>decide (x<=y)).length=xs.length:=by rw [List.length_mergeSort,nA]
  have lH:(((xs.map bl).mergeSort λ x y=>decide (x<=y)).map CA).length=xs.length:=by rw [List.length_map,jV]
  refine⟨_,rfl,rfl,((xs.map bl).mergeSort λ x y=>decide (x<=y)).map CA,lH,AaK _,?_⟩;refine S.IM n hn (Qk encStr w g m _ os) _ ?_ (λ k hk=>.inl hk);show Row _ ty.string 1 _ _ c _;have:=XU encStr (m:=m) (os:=os) ((xs.map bl).mergeSort λ x y=>decide (x<=y)) (k:=xs.length) hR (by omega) (by omega);rw [List.take_of_length_le (by omega)] at this;rw [lH,AdL,AaK];exact this
end
end Go.Proofs.YtoepjfblppfabaaGreatDoor
namespace Go.Proofs.YtoepjfblppfabaaGreatDoor
set_option maxRecDepth 100000
open Go.Dn Go.Proofs
open Go.RowKit (Below)
set_option linter.unusedVariables false
section
variable {w:World}{x y:Ex}{a a':Option Addr}{cap pV:Nat}
end
section
variable {w:World}{x y:Ex}{a a':Option Addr}{cap pV:Nat}
end
section
variable {ls T:List (List UInt8)}
end
theorem SN:∀(us:List ByteArray) {n:Nat} {a:Addr} {i:Nat} {k:List Value->Prop} {w:World},us.length=n->(∀ j u,us[j]?=some u->w.cell? (a.add (i+j))=some (.string u)) ->
  k (us.map Value.string)->CZ (List.replicate n (.string ⟨#[]⟩)) a i k w
 | [],n,a,i,k,w,hn,hc,h=>by subst hn;exact h
 | u :: us,n,a,i,k,w,hn,hc,h=>by
  subst hn;exact⟨u,hc 0 u rfl,SN us rfl (λ j x hj=>by have:=hc (j+1) x (by simpa using hj);rwa [show i+(j+1)=i+1+j by omega] at this) h⟩
theorem ZU:T4=Ch.map Value.string:=rfl
theorem CM:Ch.length=20:=rfl
theorem V7{s:ByteArray}{i:Nat}(hi:i<20)(h:Ch[i]'(by rw [CM];exact hi)=s):Nf s=true:=List.any_eq_true.2 ⟨_,List.getElem_mem (by rw [CM];exact hi),by simpa using h⟩
theorem TZ{s:ByteArray}(h:∀ k∈Ch,k≠s):Nf s=false:=by
 unfold Nf;rw [List.any_eq_false];intro k hk;simpa using h k hk
theorem Adk{s:ByteArray}{i:Nat}(hi:i<20)(h:∀ k∈Ch.take i,k≠s)(h2:Ch[i]'(by rw [CM];exact hi)≠s):∀ k∈Ch.take (i+1),k≠s:=by
 intro k hk;rw [List.take_succ_eq_append_getElem (by rw [CM];exact hi)] at hk;rcases List.mem_append.1 hk with hk | hk
 ·exact h k hk
 ·rw [List.mem_singleton.1 hk];exact h2
section
variable {w:World}(s:ByteArray)
theorem Uq(E:Env w):Calls Tryz.prog f.Aas #[.string s] w (AB λ r w'=>r=.bool (Nf s)/\w'=w):=by
 apply R.OQ
 delta R.A R.F R.G R.I R.Qi R.T R.W R.X;try dsimp only [R.Ps]
 refine SN Ch rfl (λ j u hj=>?_) ?_
 ·obtain⟨p,hp,hc⟩:=E.key j (.string u) (by rw [ZU,List.getElem?_map,hj];rfl);cases hp;rw [Nat.zero_add];exact hc
 refine⟨λ st w1=>∃ i:Nat,st=[.int .i64 (i:Int)]/\i<=20/\(∀ k∈Ch.take i,k≠s)/\w1=w,λ st _=>match st with | [.int _ q]=>20-q.toNat | _=>0,⟨0,rfl,by omega,by simp,rfl⟩,?_⟩;rintro q w1 ⟨i,aA,hi,aE,rfl⟩;cases aA;refine Aa (λ aB=>⟨⟨by omega,aB⟩,?_⟩) (λ aL=>?_)
 ·have gM:i<20:=by omega
  have hl:i<Ch.length:=by rw [CM];exact gM
  refine⟨Ch[i],by rw [Int.toNat_natCast,Nat.mul_one];simp [hl],?_⟩;rw [AK];refine Aa (λ h=>⟨by rw [V7 gM h],rfl⟩) (λ h=>?_);rw [Ai (by omega)];refine⟨⟨i+1,rfl,by omega,Adk gM aE h,rfl⟩,?_⟩;show 20-((i+1:Nat):Int).toNat<20-((i:Nat):Int).toNat;simp only [Int.toNat_natCast];omega
 ·rw [List.take_of_length_le (by rw [CM];omega)] at aE;exact⟨by rw [TZ aE],rfl⟩
theorem JO(E:Env w)(hs:s.size<=9223372036854775807):Calls Tryz.prog f.XR #[.string s] w (AB λ r w'=>r=.bool (Jn s)/\Below w.heap.size w w'):=by
 apply R.Ns
 delta R.Cb R.F R.G R.T;try dsimp only [R.Ps]
 refine (IC s hs w).mono ?_;rintro _ w1 ⟨_,rfl,rfl,B1⟩;refine⟨_,rfl,AU (λ h=>(Uq s (E.grown B1)).mono ?_) (λ h=>⟨by simp [Jn,h],B1⟩)⟩;rintro _ w2 ⟨_,rfl,rfl,rfl⟩;exact⟨_,rfl,by simp [Jn,h],B1⟩
end
/-! ### expressions -/
section
variable {w:World}{x:Ex}{a:Option Addr}{cap:Nat}
end
/-! ### items -/
section
variable {w:World}{a:Option Addr}{c:Nat}{rs:List Value}{l:List Pq}
def Ab1(i:Pq)(a:Option Addr)(cap:Nat):List Value:=.string i.1 :: .int .i64 i.2.1 :: M5 i.2.2 a cap
end
end Go.Proofs.YtoepjfblppfabaaGreatDoor
namespace Go.Proofs.YtoepjfblppfabaaGreatDoor
set_option maxRecDepth 100000
open Go.Dn Go.Proofs
open Go.RowKit (Below)
set_option linter.unusedVariables false
/-! ### lists of expressions -/
def zEx:Value:=.agg #[.int .i64 0,.string ⟨#[]⟩,.int .i64 0,.int .i64 0,.string ⟨#[]⟩,.slice none 0 0]
theorem Am2:Ia Tryz.prog ty.IU=some (ty.GM,6,80,zEx):=by kernel_rfl
/-! ### a query's value -/
end Go.Proofs.YtoepjfblppfabaaGreatDoor
namespace Go.Proofs.YtoepjfblppfabaaGreatDoor
set_option maxRecDepth 100000
open Go.Dn Go.Proofs
open Go.RowKit (Below)
set_option linter.unusedVariables false
def itI(b:Nat)(i:Pq)(a:Option Addr)(cap:Nat):It:=It.cells b ⟨Ab1 i a cap⟩ ty.Tc
section
variable {w:World}{q:Qu}{ai aw ag ao:Option Addr}{ci cw cg co:Nat}
end
section
variable {w:World}{q:Qu}{ai aw ag ao:Option Addr}{ci cw cg co:Nat}
end
end Go.Proofs.YtoepjfblppfabaaGreatDoor
namespace Go.Dn
set_option linter.unusedVariables false
set_option maxRecDepth 100000
theorem SH.v3{F:Nat->Prop}{w0 w:World}{H:List Yy}(S:SH F w0 w H)(n:Nat){b:Nat}{x y:Int}{s:ByteArray}{t:TypeId}(hn:H[n]?=some (b,#[.int .i64 x,.int .i64 y,.string s],t)){Q:Int->Int->ByteArray->Prop}(h:Q x y s) :
  ∃ a:Int,w.cell? ⟨b,0,none⟩=some (.int .i64 a)/\∃ c:Int,w.cell? ⟨b,1,none⟩=some (.int .i64 c)/\∃ d:ByteArray,w.cell? ⟨b,2,none⟩=some (.string d)/\Q a c d :=
 ⟨x,S.cell n hn rfl,y,S.cell n hn rfl,s,S.cell n hn rfl,h⟩
end Go.Dn
namespace Go.Proofs.YtoepjfblppfabaaGreatDoor
set_option maxRecDepth 100000
open Go.Dn Go.Proofs
open Go.RowKit (Below)
set_option linter.unusedVariables false
/-! ### quoted -/
/-! ### Digits -/
/-! ### the program's Parse -/
end Go.Proofs.YtoepjfblppfabaaGreatDoor
namespace Go.Proofs.YtoepjfblppfabaaGreatDoor
set_option maxRecDepth 100000
open Go.Dn Go.Proofs
open Go.RowKit (Below)
set_option linter.unusedVariables false
/-! ### signs, rows -/
end Go.Proofs.YtoepjfblppfabaaGreatDoor
namespace Go.Proofs.YtoepjfblppfabaaGreatDoor
set_option maxRecDepth 100000
open Go.Dn Go.Proofs
open Go.RowKit (Below)
set_option linter.unusedVariables false
section
variable {op:Int}{nm:ByteArray}{v:Ax}{k k':Ex}
end
end Go.Proofs.YtoepjfblppfabaaGreatDoor
