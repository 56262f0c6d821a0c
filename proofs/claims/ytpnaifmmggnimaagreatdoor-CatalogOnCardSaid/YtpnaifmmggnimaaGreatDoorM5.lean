/- Texts of this claim, laid one behind the other by a program of mine. -/
import Derived.Test.YtpnaifmmggnimaaGreatDoorM4
import Derived.Test.YtpnaifmmggnimaaGreatDoorM1
import Derived.Test.YtpnaifmmggnimaaGreatDoorM3
namespace Go.Proofs.YtpnaifmmggnimaaGreatDoor
open R
open _root_.Go.Proofs.Tryz renaming prog -> Aix
open _root_.Array renaming getElem?_eq_some_iff -> Ai5
open _root_.Bool renaming eq_iff_iff -> AiY
open _root_.Int renaming toNat_natCast -> Ait
open _root_.List renaming append_nil -> Ajr, eq_nil_of_length_eq_zero -> Aii, getElem?_eq_getElem -> Ajk, getElem?_eq_some_iff -> Aic, getElem_map -> Ajq, getElem_mem -> Ai7, length_append -> Aiq, length_cons -> Ais, length_drop -> AiT, length_pos_iff -> Ajw, length_take -> Ajm, map_append -> AiK, map_drop -> AiU, mem_append -> Ajn, mem_cons -> Aia, mem_cons_self -> Ai2, mem_iff_getElem -> Ajy, mem_map -> Ah9, mem_of_mem_take -> Ajs, mem_singleton -> Ajo, nil_append -> Ajt, not_mem_nil -> Aju, take_length -> Ajp, take_of_length_le -> AiZ, take_succ_eq_append_getElem -> Ajl
open _root_.Nat renaming le_refl -> Ain, le_trans -> AiI, lt_or_ge -> Ai6, mul_le_mul -> Ajf, mul_one -> Aiw, zero_mul -> Ajv
open _root_.Option.some renaming inj -> Ajx
open _root_.UInt8 renaming ofNat -> Aiz
set_option maxRecDepth 100000
open Go.Dn Go.Proofs
open Go.RowKit (Below)
set_option linter.unusedVariables false
section
variable {w:World}{a:Option Addr}{c:Nat}
theorem T9(n:Int)(h1 : -9223372036854775808<=n)(h2:n<=9223372036854775807):Cw 168 #[.int .i64 n] w λ v w'=>v=.int .u64 (DQ n:Int)/\w'=w:=by
 apply RT
 delta F U W Wu;try dsimp only [Ps]
 refine Aa (λ h=>⟨?_,rfl⟩) (λ h=>⟨?_,rfl⟩)
 ·rw [wrap_i64 (n:=n+1) Omg Omg,wrap_i64 (n:=0-(n+1)) Omg Omg,Aj (n:=0-(n+1)) Omg Omg,Aj (n:=2*(0-(n+1))) Omg Omg,Aj Omg Omg];unfold DQ;rw [if_pos h];congr 1;omega
 ·rw [Aj (n:=n) Omg Omg,Aj Omg Omg];unfold DQ;rw [if_neg h];congr 1;omega
theorem E5(l:List UInt8)(hl:Rd w a (l.map Ag))(n:Int)(h1 : -9223372036854775808<=n)(h2:n<=9223372036854775807)(hs:l.length+10<=140737488355328) :
  Cw 137 #[.slice a l.length c,.int .i64 n] w λ v w'=>∃ a c,v=.slice a (l++Af (DQ n)).length c/\Bj w w' (l++Af (DQ n)) a c:=by
 apply Nb
 delta Cs Cu I S U;try dsimp only [Ps]
 refine (T9 n h1 h2).mono ?_;rintro _ w ⟨_,rfl,rfl,rfl⟩;refine⟨_,rfl,(Bf l hl (DQ n) (FE h1 h2) hs).mono ?_⟩;rintro _ w1 ⟨_,rfl,a1,c1,rfl,h⟩;exact⟨_,_,_,rfl,a1,c1,rfl,h⟩
end
def BU(ls:List ByteArray):List UInt8:=ls.flatMap Bm
theorem TO{ls:List ByteArray}{k:Nat}(hk:k<ls.length):BU (ls.take (k+1))=BU (ls.take k)++Bm ls[k]:=by
 unfold BU;rw [Ajl hk,List.flatMap_append];simp
theorem QW{s:ByteArray}(h:s.size<=1024):(Bm s).length<=1034:=by
 have:=Ah (n:=s.size) Omg;have:=AW s;simp [Bm];omega
theorem FX{ls:List ByteArray}(h:∀ s∈ls,s.size<=1024):(BU ls).length<=ls.length*1034:=by
 induction ls with
 | nil=>simp [BU]
 | cons s ls ih =>
  have h1:=QW (h s (Ai2 ..));have h2:=ih λ x hx=>h x (List.mem_cons_of_mem _ hx);simp only [BU,List.flatMap_cons,Aiq,Ais] at *;omega
theorem tP:Me Aix 150=some (77,1,24,.slice none 0 0):=by kernel_rfl
theorem ES{w:World}{a:Option Addr}{ls:List ByteArray}(hl:Rd w a (ls.map Value.string)){i:Nat}(hi:i<ls.length):∃ p,a=some p/\w.cell? (p.add (i*1))=some (.string ls[i]):=by
 obtain⟨p,hp,hc⟩:=hl i (.string ls[i]) (by simp [hi]);exact⟨p,hp,by rw [Aiw];exact hc⟩
theorem Oo{w:World}{a:Option Addr}{c:Nat}{ls:List ByteArray}(hl:Rd w a (ls.map Value.string))(hn:ls.length<=4096)(hz:∀ s∈ls,s.size<=1024) :
  Cw 254 #[.slice a ls.length c] w λ v w'=>∃ a' c',v=.slice a' (BU ls).length c'/\Bj w w' (BU ls) a' c':=by
 apply RG
 delta Ad AM Cs F I J Ks Lt N O Eg S T W X;try dsimp only [Ps]
 refine⟨λ s w1=>∃(ps:List DH) (pa:Option Addr) (pc:Nat),s=[.slice pa ps.length pc,.int .i64 (ps.length:Int)]/\ps.length<=ls.length/\Row w1 77 1 pa ps.length pc (ps.map BZ)/\(∀ k,AF pa=some k->w.heap.size<=k) /\
   (∀ p∈ps,Rd w1 p.1 (p.2.2.map Ag)/\(∀ k,AF pa=some k->AF p.1≠some k)/\∀ k,AF p.1=some k->k<w1.heap.size)/\BR ps=BU (ls.take ps.length)/\Below w.heap.size w w1,λ s _=>match s with
   | [_,.int _ i]=>ls.length-i.toNat
   | _=>0,⟨[],none,0,rfl,Osi,Row.nil _ _ _,by simp [AF],Osi,by simp [BR,BU],.refl _ _⟩,?_⟩
 rintro pa _ pc _ w1 ⟨ps,_,_,hs,hle,hR,ax,dr,ct,B1⟩;cases hs;refine Aa (λ aB=>⟨⟨Omg,aB⟩,?_⟩) (λ aJ=>?_)
 ·have aO:ps.length<ls.length:=Omg;obtain⟨p,rfl,hc⟩:=ES (hl.grown B1) aO;have ao:=hz _ (Ai7 aO);refine⟨_,by rw [Ait];exact hc,(FC (c:=0) [] (Rd.nil _ _) ls[ps.length] Omg (by simp;omega)).mono ?_⟩;rintro _ w3 ⟨_,rfl,a3,c3,rfl,h3⟩;rw [Ajt] at h3 ⊢;refine⟨_,_,_,_,rfl,(SH.start (λ _=>False) w3).An λ dv w4 nH B4 S4=>?_⟩;have h4:=h3.grown B4;have aY:Rd w4 (some ⟨dv,0,none⟩) [BZ (a3,c3,Bm ls[ps.length])]:=by
   have:=Rd.Al (S4.get 0 rfl);simpa [BZ] using this
  obtain⟨a5,c5,w5,aG,aI,hk,hnw⟩:=BV (ty:=150) (mc:=1) tP rfl Omg Omg (hR.grown (h4.Ar)) aY (m:=1) rfl (by simp [BZ];rfl) Omg;unfold De;rw [aG];refine⟨_,_,_,rfl,?_⟩;have e1:(ps++[(a3,c3,Bm ls[ps.length])]).length=ps.length+1:=Osi;have B4':Below w.heap.size w w4:=B1.trans (h4.Ar.mono B1.size);refine⟨⟨ps++[(a3,c3,Bm ls[ps.length])],a5,c5,?_,Omg,?_,λ k cw=>?_,λ q hq=>?_,?_,B4'.trans (hk.below B4'.size λ k aB fA=>?_)⟩,?_⟩
  ·rw [Ae Omg,e1]
  ·rw [e1,AiK];exact aI
  ·rcases hnw k cw with h | h
   ·exact ax k h
   ·exact AiI B4'.size h
  ·have bM:∀ k,AF pa=some k->k<w1.heap.size:=λ k h=>hR.lt h;have je:∀ k,AF pa=some k->AF q.1≠some k:=by
    intro k cu ay;rcases Ajn.1 hq with h | h
    ·exact (dr q h).2.1 k cu ay
    ·simp only [Ajo] at h;subst h;have:=h3.new k ay;have:=bM k cu;omega
   have xH:Rd w4 q.1 (q.2.2.map Ag):=by
    rcases Ajn.1 hq with h | h
    ·exact (dr q h).1.grown h4.Ar
    ·simp only [Ajo] at h;subst h;exact h4.rd
   have lI:∀ k,AF q.1=some k->k<w4.heap.size:=by
    intro k ay;rcases Ajn.1 hq with h' | h'
    ·exact Nat.lt_of_lt_of_le ((dr q h').2.2 k ay) h4.Ar.size
    ·simp only [Ajo] at h';subst h';exact h4.row.lt ay
   refine⟨?_,λ k cw ay=>?_,λ k ay=>Nat.lt_of_lt_of_le (lI k ay) hk.size⟩
   ·exact xH.keeps hk (λ p hp hF=>je p.block hF (by rw [hp];rfl))
   ·rcases hnw k cw with h | h
    ·exact je k h ay
    ·have:=lI k ay;omega
  ·rw [e1,TO aO,<- ct];simp [BR]
  ·have:=ax k fA;omega
  ·simp only [Ait];rw [Ae Omg];omega
 ·have bM:ps.length=ls.length:=Omg;rw [bM,Ajp] at ct;have hlen:=FX hz;refine (Bl ps hR.rd (λ p hp=>(dr p hp).1) Omg (by rw [ct];omega)).mono ?_;rintro _ w2 ⟨_,rfl,a2,c2,rfl,h2⟩;rw [ct] at h2 ⊢;exact⟨_,_,_,rfl,a2,c2,rfl,h2.before B1⟩
def JK(ls:List ByteArray):Bool:=ls.any λ s=>decide (1024<s.size)
theorem Ge{ls:List ByteArray}(h:JK ls=false):∀ s∈ls,s.size<=1024:=by
 intro s hs;have:=List.any_eq_false.1 h s hs;simpa using this
theorem Aft(w:World)(s:ByteArray):Cw 253 #[.string s] w λ v w'=>w'=w/\v=.bool (decide (1024<s.size)):=by
 apply Kj
 delta G;try dsimp only [Ps]
 refine⟨rfl,?_⟩;congr 1;rw [AiY];simp;omega
theorem XV:enters Aix 253=true:=by kernel_rfl
section
variable {w:World}{a:Option Addr}{c:Nat}{ls:List ByteArray}
theorem RA(hl:Rd w a (ls.map Value.string))(hn:ls.length<=9223372036854775807) :
  Cw 54 #[.slice a ls.length c,.func (.func 253) #[] #[]] w λ v w'=>w'=w/\v=.bool (JK ls):=by
 have idx:Cw 102 #[.slice a ls.length c,.func (.func 253) #[] #[]] w λ v w'=>w'=w/\∃ i:Int,v=.int .i64 i/\(0<=i↔JK ls=true):=by
  apply CO
  delta Ad F G I Lt Qi T W X;try dsimp only [Ps]
  refine⟨λ s w1=>w1=w/\∃ k:Nat,k<=ls.length/\s=[.int .i64 (k:Int)]/\JK (ls.take k)=false,λ s _=>match s with
    | [.int _ i]=>ls.length-i.toNat
    | _=>0,⟨rfl,0,Omg,rfl,rfl⟩,?_⟩
  rintro _ w1 ⟨rfl,k,hk,hs,ff⟩;cases hs;refine Aa (λ aB=>⟨⟨Omg,aB⟩,?_⟩) (λ aJ=>?_)
  ·have aO:k<ls.length:=Omg;obtain⟨p,rfl,hc⟩:=ES hl aO;refine⟨_,by rw [Ait];exact hc,?_⟩;rw [XV];refine (Aft w1 ls[k]).mono ?_;rintro _ w2 ⟨_,rfl,rfl,rfl⟩;refine⟨_,rfl,Aa (λ h=>⟨rfl,_,rfl,?_⟩) (λ h=>?_)⟩
   ·refine⟨λ _=>?_,λ _=>Omg⟩;exact List.any_eq_true.2 ⟨ls[k],Ai7 aO,by simpa using h⟩
   ·rw [Ae Omg];refine⟨⟨rfl,k+1,Omg,rfl,?_⟩,?_⟩
    ·unfold JK at ff ⊢;rw [Ajl aO,List.any_append,ff];simp;omega
    ·simp only [Ait];omega
  ·have fA:ls.take k=ls:=AiZ Omg;rw [fA] at ff;refine⟨rfl,_,rfl,?_⟩;rw [ff];simp
 apply CE
 delta Ci G S;try dsimp only [Ps]
 refine idx.mono ?_;rintro _ w1 ⟨_,rfl,rfl,i,rfl,hi⟩;refine⟨_,rfl,rfl,?_⟩;congr 1;rw [AiY,decide_eq_true_eq];exact hi
end
def A4(t:List (List UInt8))(ls:List ByteArray):List Nat:=ls.map λ s=>t.idxOf (bl s)
inductive FK (ls:List ByteArray):Int->List UInt8->Prop
 | plain:FK ls 0 (0 :: BU ls)
 | table (t:List (List UInt8)) (w:Nat) (ht:D6 (ls.map bl) t) (hw:Dt (HL (A4 t ls)) w):FK ls 1 ((1 :: Af t.length)++(BU (t.map Bu)++(Aiz w :: AZ (A4 t ls) w)))
theorem FK.one{ls:List ByteArray}{f:Int}{b c:List UInt8}(h:FK ls f b)(h':FK ls f c):b=c:=by
 cases h with
 | plain=>cases h';rfl
 | table t w ht hw =>
  cases h' with
  | table t' w' ht' lP =>
   have:=ht.one ht';subst this;rw [hw.one lP]
def EM(f:Int)(ls:List ByteArray):Prop:=0<=f/\f<=1/\ls.length<=4096/\JK ls=false
instance (f:Int) (ls:List ByteArray):Decidable (EM f ls):=by unfold EM;infer_instance
def Ac3(f:Int)(ls:List ByteArray)(w w':World)(r:Value):Prop :=
 (¬ EM f ls/\r=.tuple #[.slice none 0 0,.int .i64 2]/\Below w.heap.size w w')\/(EM f ls/\∃ b a c,FK ls f b/\r=.tuple #[.slice a b.length c,.int .i64 0]/\Bj w w' b a c)
theorem G8{α:Type}[DecidableEq α]:∀ {t l:List α},t.Nodup->(∀ x∈t,x∈l)->t.length<=l.length
 | [],_,_,_=>Osi
 | x :: t,l,hn,hs=>by
  have hx:=hs x (Ai2 ..);obtain⟨h1,h2⟩:=List.nodup_cons.1 hn;have:=G8 (t:=t) (l:=l.erase x) h2 λ y hy=>(List.mem_erase_of_ne (a:=y) (b:=x) (by rintro rfl;exact h1 hy)).2 (hs y (List.mem_cons_of_mem _ hy));rw [List.length_erase_of_mem hx] at this;have:0<l.length:=List.length_pos_of_mem hx;simp only [Ais];omega
theorem Ad4{w:World}{f:Value->World->Prop}(hf:∀ b w',w.heap.size<=b->Below w.heap.size w w'->AbK w' b 0 (λ _=>none)->f (.map (some b)) w'):De Aix (Instr.makeMap 318 none) f w:=by
 unfold De;rw [show (Instr.makeMap 318 none).run Aix w=.ok (.map (some w.heap.size)) (w.alloc (.map #[] 0)) from rfl];refine hf _ _ (Ain _) ((Below.refl _ w).alloc (Ain _) _) ⟨_,World.ownsMap_made _ _ _ _,Maps.tidy_empty,λ x=>⟨rfl,rfl⟩⟩
theorem Xk:Aix.underlying 318=some (.map 9 92):=by kernel_rfl
theorem tU:Me Aix 205=some (92,1,8,.int .u64 0):=by kernel_rfl
theorem AeQ(w:World):(zeroValue 92).run Aix w=.ok (.int .u64 0) w:=by
 have h:(Aix.info? 92).bind (·.zero)=some (.int .u64 0):=by kernel_rfl
 cases hi:Aix.info? 92 with
 | none=>rw [hi] at h;cases h
 | some i =>
  rw [hi] at h;have hz:i.zero=some (.int .u64 0):=h;simp [zeroValue,typeInfo,hi,hz]
theorem ZV(x:List UInt8):encStr x=.string (Bu x):=rfl
theorem Afv(t:List (List UInt8)):t.map encStr=(t.map Bu).map Value.string:=by simp [ZV]
section
variable {w:World}{a:Option Addr}{c:Nat}{ls:List ByteArray}
def g1(l:List (List UInt8))(x:List UInt8):Option Int:=if x∈l then some 0 else none
def g2(l t:List (List UInt8))(i:Nat)(x:List UInt8):Option Int:=if x∈t.take i then some (t.idxOf x:Int) else g1 l x
theorem Afe{l:List ByteArray}{k:Nat}(hk:k<l.length):(λ y=>if y=bl l[k] then some 0 else g1 ((l.take k).map bl) y)=g1 ((l.take (k+1)).map bl):=by
 funext y;unfold g1;rw [Ajl hk,AiK];simp only [Ajn,List.map_cons,List.map_nil,Ajo];by_cases h1:y=bl l[k]
 ·simp [h1]
 ·simp [h1]
theorem Aff{l t:List (List UInt8)}(dm:t.Nodup){i:Nat}(hi:i<t.length):(λ y=>if y=t[i] then some (i:Int) else g2 l t i y)=g2 l t (i+1):=by
 funext y;unfold g2;rw [Ajl hi];simp only [Ajn,Ajo];by_cases h1:y=t[i]
 ·subst h1;have:t.idxOf t[i]=i:=dm.idxOf_getElem i hi;simp [this]
 ·simp [h1]
theorem Fs(form:Int)(hl:Rd w a (ls.map Value.string))(hn:ls.length<=9223372036854775807):Cw 229 #[.int .i64 form,.slice a ls.length c] w λ v w'=>Ac3 form ls w w' v:=by
 apply On
 delta Ad B AM Cb Cf Ci Cs F H I J Ks Lt M N O Qi Eg Rm Ru S T U W Wb Wu X;try dsimp only [Ps]
 have bad:¬ EM form ls->Ac3 form ls w w (.tuple #[.slice none 0 0,.int .i64 2]):=λ h=>.inl ⟨h,rfl,.refl _ _⟩;refine Aa (λ h=>bad λ hk=>by have:=hk.1;omega) (λ h1=>Aa (λ h=>bad λ hk=>by have:=hk.2.1;omega) (λ h2=>Aa (λ h=>bad λ hk=>by have:=hk.2.2.1;omega) (λ h3=>(RA hl hn).mono ?_)));rintro _ w ⟨_,rfl,rfl,rfl⟩;refine⟨_,rfl,Aq (λ h=>bad λ hk=>by have:=hk.2.2.2;rw [h] at this;cases this) (λ cj=>?_)⟩;have aK:EM form ls:=⟨Omg,Omg,Omg,cj⟩;have hz:=Ge cj;have iv:ls.length<=4096:=Omg;have hlen:=FX hz;refine Ap (λ h0=>?_) (λ h0=>?_)
 ·subst h0;refine (SH.start (λ _=>False) w).An λ b5 w2 gB B2 S2=>(Oo (hl.grown B2) iv hz).mono ?_;rintro _ w3 ⟨_,rfl,a3,c3,rfl,h3⟩;have S3:=S2.grown h3.Ar;refine⟨_,_,_,rfl,S3.An λ b8 w4 qQ B4 S4=>?_⟩;have hp:Rd w4 (some ⟨b8,0,none⟩) ([(some ⟨b5,0,none⟩,1,[0]),(a3,c3,BU ls)].map BZ):=by
   have:=Rd.Al (S4.get 0 rfl);simpa [BZ] using this
  have vC:Rd w4 (some ⟨b5,0,none⟩) ([0].map Ag):=by
   have:=Rd.Al (S4.get 1 rfl);simpa [Ag] using this
  refine (Bl (c:=2) [(some ⟨b5,0,none⟩,1,[0]),(a3,c3,BU ls)] hp (λ p hp=>?_) Osi (by rw [Tt];simp;omega)).mono ?_
  ·simp only [Aia,Aju,or_false] at hp;rcases hp with rfl | rfl
   ·exact vC
   ·exact (h3.grown B4).rd
  rintro _ w5 ⟨_,rfl,a5,c5,rfl,h5⟩;refine⟨_,_,_,rfl,.inr ⟨aK,0 :: BU ls,a5,c5,.plain,?_,?_⟩⟩
  ·rw [Tt];rfl
  ·rw [Tt] at h5;exact h5.before S4.below
 ·have gv:form=1:=Omg;subst gv;have m4:8193<=maxLen:=Ode;refine Ad4 λ b w6 hb B6 M6=>⟨_,rfl,?_⟩;have M6':AbK w6 b 0 (g1 ((ls.take 0).map bl)):=by
   have:g1 ((ls.take 0).map bl)=λ _=>none:=by funext x;simp [g1]
   rw [this];exact M6
  refine⟨λ s w7=>∃ k:Nat,k<=ls.length/\s=[.int .i64 (k:Int)]/\AbK w7 b k (g1 ((ls.take k).map bl))/\Ak (·=b) w6 w7,λ s _=>match s with
    | [.int _ i]=>ls.length-i.toNat
    | _=>0,⟨0,Omg,rfl,M6',.refl _ _⟩,?_⟩
  rintro _ w7 ⟨k,hk,hs,M7,K7⟩;cases hs;have B7:Below w.heap.size w w7:=B6.trans (K7.below B6.size λ k hk he=>Omg);refine Aa (λ aB=>⟨⟨Omg,aB⟩,?_⟩) (λ aJ=>?_)
  ·have aO:k<ls.length:=Omg;obtain⟨p,rfl,hc⟩:=ES (hl.grown B7) aO;have ao:=hz _ (Ai7 aO);refine⟨_,by rw [Ait];exact hc,M7.put JA Xl Xk Omg Omg Ode λ w8 K8 M8=>?_⟩;rw [Afe aO] at M8;rw [Ae Omg];refine⟨⟨k+1,Omg,rfl,M8,K7.trans K8 (λ _ _ h=>h)⟩,?_⟩;simp only [Ait];omega
  have fA:k=ls.length:=Omg;rw [fA,Ajp] at M7;refine (U6 M7 iv (ls:=ls.map bl) (λ x=>by unfold g1;split <;> simp [*]) (k:=λ v w'=>∃ a c t,v=.slice a t.length c/\D6 (ls.map bl) t/\Row w' 9 1 a t.length c (t.map encStr)/\(∀ k,AF a=some k->w7.heap.size<=k)/\Below w7.heap.size w7 w')
   (λ a c t w' q1 q2 q3 q4=>⟨a,c,t,rfl,q1,q2,q3,q4⟩)).mono ?_
  rintro _ w9 ⟨fn,fi,ca,rfl,hS⟩;refine⟨_,_,_,rfl,hS.mono ?_⟩;rintro _ bX ⟨aT,lT,cT,rfl,aT2,cT2,t,ht,hr,qE,ax,bu⟩;obtain⟨rfl,rfl,rfl⟩:aT=aT2/\lT=t.length/\cT=cT2:=by cases ht;exact⟨rfl,rfl,rfl⟩
  refine⟨_,_,_,rfl,?_⟩;have an:=M7.lt;have zj:=M7.kept (Ak.AB (F:=λ _=>False) bu) Osi;have dm:=Gf hr.up;have fD:t.length<=ls.length:=by
   have:=G8 dm (λ x hx=>(hr.mem x).1 hx);simpa using this
  have k8:∀ s∈t.map Bu,s.size<=1024:=by
   intro s hs;obtain⟨x,hx,rfl⟩:=Ah9.1 hs;obtain⟨s',bR,rfl⟩:=Ah9.1 ((hr.mem x).1 hx);rw [DP];exact hz s' bR
  rw [Afv] at qE;have ny:(t.map Bu).length=t.length:=Osi;have M10':AbK bX b (ls.length+0) (g2 (ls.map bl) t 0):=by
   have:g2 (ls.map bl) t 0=g1 (ls.map bl):=by funext x;simp [g2]
   rw [this];exact zj
  have ZW:∀ p,aT=some p->¬ p.block=b:=by
   intro p hp he;have:=ax p.block (by rw [hp];rfl);omega
  refine⟨λ s aZ=>∃ i:Nat,i<=t.length/\s=[.int .i64 (i:Int)]/\AbK aZ b (ls.length+i) (g2 (ls.map bl) t i)/\Ak (·=b) bX aZ,λ s _=>match s with
    | [.int _ i]=>t.length-i.toNat
    | _=>0,⟨0,Omg,rfl,M10',.refl _ _⟩,?_⟩
  rintro _ aZ ⟨i,hi,hs,tM,eV⟩;cases hs;have lj:Rd aZ aT ((t.map Bu).map Value.string):=qE.rd.keeps eV ZW;refine Aa (λ aB=>⟨⟨Omg,aB⟩,?_⟩) (λ aJ=>?_)
  ·have aD:i<t.length:=Omg;obtain⟨p,hp,hc⟩:=ES lj (by rw [ny];exact aD);subst hp;have ao:(Bu t[i]).size<=1024:=k8 _ (Ah9.2 ⟨_,Ai7 aD,rfl⟩);rw [Ajq] at hc;refine⟨_,by rw [Ait];exact hc,?_⟩;rw [Aj Omg Omg];refine tM.put JA Xl Xk Omg Omg (by simp [Lit.wf,IntKind.min,IntKind.max,IntKind.signed,IntKind.bits];omega) λ bL zf xu=>?_;rw [Bn,Aff dm aD] at xu;rw [Ae Omg];refine⟨⟨i+1,Omg,rfl,xu,eV.trans zf (λ _ _ h=>h)⟩,?_⟩;simp only [Ait];omega
  have hii:i=t.length:=Omg;rw [hii] at tM;have cH:Below w.heap.size w aZ:=by
   have B0:Below w.heap.size w bX:=B7.trans (bu.mono B7.size);exact B0.trans (eV.below B0.size λ k hk he=>Omg)
  refine⟨λ s al=>∃(kk:Nat) (pa:Option Addr) (pc:Nat),s=[.slice pa kk pc,.int .i64 (kk:Int)]/\kk<=ls.length/\Row al 92 1 pa kk pc ((A4 t (ls.take kk)).map EI)/\(∀ k,AF pa=some k->aZ.heap.size<=k)/\Below aZ.heap.size aZ al,λ s _=>match s with
    | [_,.int _ i]=>ls.length-i.toNat
    | _=>0,⟨0,none,0,rfl,Omg,Row.nil _ _ _,by simp [AF],.refl _ _⟩,?_⟩
  rintro pa kk pc _ al ⟨_,_,_,hs,aO,nB,m8,j8⟩;cases hs;have Bw13:Below w.heap.size w al:=cH.trans (j8.mono cH.size);have zk:=tM.kept (Ak.AB (F:=λ _=>False) j8) Osi;refine Aa (λ aB=>⟨⟨Omg,aB⟩,?_⟩) (λ aJ=>?_)
  ·have dj:kk<ls.length:=Omg;obtain⟨p,hp,hc⟩:=ES (hl.grown Bw13) dj;subst hp;have ao:=hz _ (Ai7 dj);have cG:bl ls[kk]∈t:=(hr.mem _).2 (Ah9.2 ⟨_,Ai7 dj,rfl⟩);have vm:(g2 (ls.map bl) t t.length (bl ls[kk])).getD 0=(t.idxOf (bl ls[kk]):Int):=by
    unfold g2;rw [Ajp,if_pos cG];rfl
   refine⟨_,by rw [Ait];exact hc,zk.get JA Xl Xk (AeQ _) Omg ?_⟩;rw [vm];refine⟨_,rfl,(SH.start (λ _=>False) al).An λ pY ah hb32 eB mS=>?_⟩;have aY:Rd ah (some ⟨pY,0,none⟩) [EI (t.idxOf (bl ls[kk]))]:=by
    have:=Rd.Al (mS.get 0 rfl);simpa [EI] using this
   obtain⟨a5,c5,cd,aG,aI,cw,hnw⟩:=BV (ty:=205) (mc:=1) tU rfl Omg Omg (nB.grown eB) aY (m:=1) rfl (by simp [EI];rfl) Omg;unfold De;rw [aG];refine⟨_,_,_,rfl,?_⟩;have B15':Below aZ.heap.size aZ ah:=j8.trans (eB.mono j8.size);rw [Ae Omg];refine⟨⟨kk+1,a5,c5,rfl,Omg,?_,λ k hk=>?_,B15'.trans (cw.below B15'.size λ k hk he=>by have:=m8 k he;omega)⟩,?_⟩
   ·have:A4 t (ls.take (kk+1))=A4 t (ls.take kk)++[t.idxOf (bl ls[kk])]:=by
     unfold A4;rw [Ajl dj,AiK];rfl
    rw [this,AiK];exact aI
   ·rcases hnw k hk with h | h
    ·exact m8 k h
    ·exact AiI B15'.size h
   ·simp only [Ait];omega
  have ji:kk=ls.length:=Omg;subst ji;rw [Ajp] at nB;have bM:(A4 t ls).length=ls.length:=by simp [A4]
  have oE:∀ x∈A4 t ls,x<4097:=by
   intro x hx;obtain⟨s,hs,rfl⟩:=Ah9.1 hx;have:=List.idxOf_le_length (l:=t) (a:=bl s);omega
  have qF:=nB.rd;rw [<- bM];refine (Ie qF Omg (λ x hx=>by have:=oE x hx;omega)).mono ?_;rintro _ cF ⟨_,rfl,wd,rfl,iZ,bT,rfl⟩;refine⟨_,rfl,(Jp qF Omg bT ((Hr _ _).1 iZ.1)).mono ?_⟩;rintro _ fG ⟨_,rfl,td,u5,rfl,gj⟩;refine⟨_,_,_,_,rfl,(SH.start (λ _=>False) fG).An λ y6 gb uy pQ zt=>?_⟩;have qN:Rd gb (some ⟨y6,0,none⟩) ([1].map Ag):=by
   have:=Rd.Al (zt.get 0 rfl);simpa [Ag] using this
  rw [Aj Omg Omg];refine (AE (c:=1) [1] qN t.length Omg Osi).mono ?_;rintro _ eT ⟨_,rfl,a20,rz,rfl,jJ⟩;have rk:Below aZ.heap.size aZ eT:=by
   refine j8.trans ((gj.Ar.mono j8.size).trans ?_);exact (pQ.mono (AiI j8.size gj.Ar.size)).trans (jJ.Ar.mono (AiI j8.size (AiI gj.Ar.size pQ.size)))
  have qC:=lj.grown rk;refine⟨_,_,_,rfl,?_⟩;rw [<- ny];refine (Oo (c:=cT) qC Omg k8).mono ?_;rintro _ gG ⟨_,rfl,a21,c21,rfl,px⟩;refine⟨_,_,_,rfl,(SH.start (λ _=>False) gG).An λ y7 gd vA j9 kZ=>kZ.An λ b46 fN hb46 iI mT=>?_⟩;rw [AG Omg Omg] at kZ mT;obtain⟨ps,dr⟩:∃ ps:List DH,ps=[(a20,rz,[1]++Af t.length),(a21,c21,BU (t.map Bu)),(some ⟨y7,0,none⟩,1,[Aiz wd]),(td,u5,AZ (A4 t ls) wd)]:=⟨_,rfl⟩;have hp:Rd fN (some ⟨b46,0,none⟩) (ps.map BZ):=by
   have:=Rd.Al (mT.get 0 rfl);rw [dr];simpa [BZ] using this
  have n23:=Ac j9 iI;have hpb:∀ p∈ps,Rd fN p.1 (p.2.2.map Ag):=by
   intro p hp;rw [dr] at hp;simp only [Aia,Aju,or_false] at hp;rcases hp with rfl | rfl | rfl | rfl
   ·exact (jJ.rd.grown px.Ar).grown n23
   ·exact px.rd.grown n23
   ·have:=Rd.Al (mT.get 1 rfl);simpa [Ck (show wd<256 by omega)] using this
   ·exact ((((gj.rd.grown pQ).grown jJ.Ar).grown px.Ar).grown n23)
  have ct:BR ps=(1 :: Af t.length)++(BU (t.map Bu)++(Aiz wd :: AZ (A4 t ls) wd)):=by
   rw [dr];simp [BR]
  have l1:=Ah (n:=t.length) Omg;have l2:=FX k8;have l3:=BP (A4 t ls) wd;have l4:Dl (A4 t ls).length wd<=4096*64+7:=by
   unfold Dl;have:(A4 t ls).length*wd<=4096*64:=Ajf Omg bT;omega
  have wk:ps.length=4:=by rw [dr];rfl
  have iq:=Bl (c:=4) ps hp hpb Omg (by rw [ct];simp only [Aiq,Ais];omega);rw [wk] at iq;refine iq.mono ?_;rintro _ du ⟨_,rfl,a24,ov,rfl,sC⟩;rw [ct] at sC ⊢;refine⟨_,_,_,rfl,.inr ⟨aK,_,a24,ov,.table t wd hr iZ,rfl,sC.before ?_⟩⟩;exact (cH.trans (rk.mono cH.size)).trans (((px.Ar).mono (AiI cH.size rk.size)).trans (n23.mono (AiI (AiI cH.size rk.size) px.Ar.size)))
end
structure I1(w w':World)(xs:List Nat)(a:Option Addr)(c:Nat):Prop where
 row:Row w' 92 1 a xs.length c (xs.map EI)
 new:∀ k,AF a=some k->w.heap.size<=k
 Ar:Below w.heap.size w w'
theorem I1.nil(w:World):I1 w w [] none 0:=⟨Row.nil _ _ _,by simp [AF],.refl _ _⟩
theorem I1.grown{w w1 w2:World}{xs:List Nat}{a:Option Addr}{c:Nat}(h:I1 w w1 xs a c)(hb:Below w1.heap.size w1 w2):I1 w w2 xs a c:=⟨h.row.grown hb,h.new,Ac h.Ar hb⟩
theorem El{w w1:World}{a:Option Addr}{c:Nat}{xs:List Nat}(h:I1 w w1 xs a c)(hl:xs.length+1<=1000000){x:Nat}{v:Value}(hv:v=EI x){b:Nat}{t:TypeId}(hb:w1.heap[b]?=some (.cells #[v] t (0,0))){f:Value->World->Prop}
  (hf:∀ a' c' w',I1 w w' (xs++[x]) a' c'->f (.slice a' (xs++[x]).length c') w'):De Aix (Builtin.append_ #[205,205] 205 #[.slice a xs.length c,.slice (some ⟨b,0,none⟩) 1 1]) f w1:=by
 subst hv;have aY:Rd w1 (some ⟨b,0,none⟩) ([x].map EI):=by
  have:=Rd.Al hb;simpa using this
 obtain⟨a5,c5,w2,aG,aI,cw,hnw⟩:=BV (ty:=205) (mc:=1) tU rfl Omg Omg h.row aY (m:=1) rfl (by simp [EI];rfl) Omg;unfold De;rw [aG];have e:xs.length+1=(xs++[x]).length:=Osi;rw [e] at aI ⊢;refine hf a5 c5 w2 ⟨by rw [AiK];exact aI,λ k hk=>?_,h.Ar.trans (cw.below h.Ar.size λ k hk he=>by have:=h.new k he;omega)⟩;rcases hnw k hk with h1 | h1
 ·exact h.new k h1
 ·exact AiI h.Ar.size h1
theorem Df{w:World}{a:Option Addr}{l:List Int}(hl:Rd w a (l.map Ep)){i:Nat}(hi:i<l.length):∃ p,a=some p/\w.cell? (p.add (i*1))=some (.int .i64 l[i]):=by
 obtain⟨p,hp,hc⟩:=hl i (Ep l[i]) (by simp [hi]);exact⟨p,hp,by rw [Aiw];exact hc⟩
theorem Kx{w:World}{a:Option Addr}{l:List Int}(hl:Rd w a (l.map Ep))(h0:0<l.length):∃ p,a=some p/\w.cell? p=some (.int .i64 (l.headD 0)):=by
 obtain⟨p,hp,hc⟩:=Df hl h0;rw [Ajv,CS] at hc;refine⟨p,hp,?_⟩;rw [hc];cases l with
 | nil=>simp at h0
 | cons y l=>rfl
theorem EU{l:List Int}{i:Nat}(h:i<l.length):l.getD i 0=l[i]:=by simp [h]
theorem Mw{w0 w:World}{a a2:Option Addr}{c c2:Nat}{l:List UInt8}{s:List Nat}(h:Bj w0 w l a c)(hl:l.length<=1000000)(hs:Rd w a2 (s.map EI))(hn:s.length<=4096)(hx:∀ x∈s,x<18446744073709551616) :
  Cw 251 #[.slice a l.length c,.slice a2 s.length c2] w λ v w'=>∃ a' c',v=.slice a' (l++(Aiz (EY (HL s)) :: AZ s (EY (HL s)))).length c'/\Bj w0 w' (l++(Aiz (EY (HL s)) :: AZ s (EY (HL s)))) a' c':=by
 apply Nh
 delta B AM Ci I J Ks N S Wb;try dsimp only [Ps]
 refine (O9 hs Omg hx).mono ?_;rintro _ w ⟨_,rfl,wd,rfl,iZ,bT,rfl⟩;obtain rfl:=iZ.one (Sw _);refine⟨_,rfl,(HY hs hn bT ((Hr _ _).1 iZ.1)).mono ?_⟩;rintro _ au ⟨_,rfl,pV,tz,rfl,gh⟩;obtain⟨wd,hwdd⟩:∃ wd,wd=EY (HL s):=⟨_,rfl⟩;rw [<- hwdd] at gh iZ bT ⊢;have l3:=BP s wd;have l4:Dl s.length wd<=4096*64+7:=by
  unfold Dl;have:s.length*wd<=4096*64:=Ajf Omg bT;omega
 refine⟨_,_,_,_,rfl,(SH.start (λ _=>False) au).An λ tj ah nL eB mS=>?_⟩;rw [AG Omg Omg] at mS;have B6:Below w.heap.size w ah:=Ac gh.Ar eB;have fJ:=h.grown B6;refine CH fJ.row Omg (x:=Aiz wd) (Ck Omg) (mS.get 0 rfl) λ kb kf cd mR kF mQ=>⟨_,_,_,rfl,?_⟩;have gi:=h.Bs B6 mR kF mQ;have oF:Rd cd pV ((AZ s wd).map Ag):=(gh.rd.grown eB).keeps kF λ p hp hF=>by
  have e1:=gh.new p.block (by rw [hp];rfl);have e2:=h.row.lt hF;omega
 refine A0 gi.row oF (by simp;omega) λ tb u0 cF tT tD tN=>⟨_,_,_,rfl,tb,u0,?_,?_⟩
 ·simp
 ·have fQ:=gi.Bs (.refl _ _) tT tD tN;have el:(l++[Aiz wd])++AZ s wd=l++(Aiz wd :: AZ s wd):=Osi;rw [el] at fQ;exact fQ
section
variable {w0 w:World}{ba a:Option Addr}{bc c:Nat}{bs:List UInt8}{l:List Int}
theorem YJ(h:Bj w0 w bs ba bc)(ya:bs.length<=10)(hl:Rd w0 a (l.map Ep))(hn:l.length<=4096)(hx:∀ x∈l,E9 x) :
  Cw 222 #[.slice ba bs.length bc,.slice a l.length c] w λ v w'=>∃ a' c',v=.slice a' (bs++EP l).length c'/\Bj w0 w' (bs++EP l) a' c':=by
 apply QF
 delta Ad Cs D F G I Li AbN S U W Wu X Zb;try dsimp only [Ps]
 have hlen:=LP 4096 l hn Omg hx;refine⟨λ s w1=>∃(k i:Nat) (b:List UInt8) (a1:Option Addr) (c1:Nat),s=[.slice a1 b.length c1,.int .i64 (k:Int),.int .i64 (i:Int)]/\Bj w0 w1 b a1 c1/\bs++EP l=b++EP (l.drop k)/\(i<=l.length->k<i)/\(i<=l.length\/(i=l.length+1/\l.length<=k))/\(∀ j,k+j<i->i<=l.length->l[k+j]?=l[k]?)/\0<i,λ s _=>match s with
   | [_,_,.int _ i]=>l.length+1-i.toNat
   | _=>0,⟨0,1,bs,ba,bc,rfl,h,Osi,Omg,Omg,λ j hj _=>by simp at hj;subst hj;rfl,Omg⟩,?_⟩
 rintro a1 _ c1 _ _ w1 ⟨k,i,b,_,_,aA,h1,hE,wF,aH,aF,ir⟩;cases aA;have an:b.length<=10+4096*20:=by
  have:=congrArg List.length hE;simp only [Aiq] at this;omega
 refine Aa (λ hle=>?_) (λ nh=>?_)
 ·have aD:i<=l.length:=Omg;have hk:=wF aD;refine⟨λ s w3=>∃ t:Bool,s=[.bool t]/\Below w1.heap.size w1 w3/\(t=true↔AaN l k (i-k))/\(t=false->i<l.length/\l[i]?=l[k]?),?_,?_⟩
  ·refine (SH.start (λ _=>False) w1).EL λ w2 B2 _=>?_;have ll:∀ j,j<i-k->l[k+j]?=l[k]?:=λ j hj=>aF j Omg aD;refine Ap (λ he=>?_) (λ aQ=>?_)
   ·refine⟨true,rfl,B2,⟨λ _=>⟨Omg,Omg,ll,.inl Omg⟩,λ _=>rfl⟩,λ h=>by cases h⟩
   ·have aB:i<l.length:=Omg;have aO:k<l.length:=Omg;have C2:=Ac h1.Ar B2;obtain⟨p,rfl,gO⟩:=Df (hl.grown C2) aB;obtain⟨p',hp',cI⟩:=Df (hl.grown C2) aO;cases hp';refine⟨⟨Omg,Omg⟩,⟨Omg,Omg⟩,_,by rw [Ait];exact gO,_,by rw [Ait];exact cI,_,rfl,B2,?_,?_⟩
    ·simp only [bne_iff_ne,ne_eq];constructor
     ·intro hd;refine⟨Omg,Omg,ll,.inr ?_⟩;rw [show k+(i-k)=i by omega,Ajk aB,Ajk aO];simpa using hd
     ·intro hr;rcases hr.stop with h | h
      ·omega
      ·rw [show k+(i-k)=i by omega,Ajk aB,Ajk aO] at h;simpa using h
    ·intro hd;refine⟨aB,?_⟩;rw [Ajk aB,Ajk aO];have:l[i]=l[k]:=by simpa using hd
     rw [this]
  rintro _ w3 ⟨t,aA,B3,pJ,ht2⟩;cases aA;have C3:=Ac h1.Ar B3;have aO:k<l.length:=Omg;refine Aq (λ ht=>?_) (λ hf=>?_)
  ·have aG:=pJ.1 ht;refine (SH.start (λ _=>False) w3).EL λ w4 B4 _=>⟨⟨Omg,Omg⟩,?_⟩;have C4:=Ac C3 B4;obtain⟨p,rfl,aE⟩:=Df (hl.grown C4) aO;refine⟨_,by rw [Ait];exact aE,?_⟩;have ek:IntKind.u64.wrap (IntKind.i64.wrap ((i:Int)-(k:Int)))=((i-k:Nat):Int):=by
    rw [wrap_i64 Omg Omg,Aj Omg Omg];omega
   rw [ek];have ia:=hx _ (Ai7 aO);have h4:=(h1.grown B3).grown B4;refine (Bf b h4.rd (i-k) Omg Omg).mono ?_;rintro _ w5 ⟨_,rfl,a5,c5,rfl,h5⟩;have C5:=Ac C4 h5.Ar;have d10:=Ah (n:=i-k) Omg;refine⟨_,_,_,rfl,?_,(E5 _ h5.rd l[k] ia.1 ia.2 (by simp;omega)).mono ?_⟩
   ·obtain⟨p',hp',dV⟩:=Df (hl.grown C5) aO;cases hp';rw [Ait];exact dV
   rintro _ w6 ⟨_,rfl,a6,c6,rfl,h6⟩;rw [Ae Omg];refine⟨_,_,_,rfl,⟨i,i+1,_,a6,c6,rfl,h6.before (Ac h4.Ar h5.Ar),?_,Omg,Omg,λ j hj _=>?_,Omg⟩,?_⟩
   ·rw [hE,YY aG,show k+(i-k)=i by omega,EU aO];simp [D8]
   ·have:j=0:=Omg;subst this;rfl
   ·simp only [Ait];omega
  ·obtain⟨aB,heq⟩:=ht2 hf;rw [Ae Omg];refine⟨⟨k,i+1,b,a1,c1,rfl,h1.grown B3,hE,Omg,Omg,λ j hj _=>?_,Omg⟩,?_⟩
   ·rcases Ai6 (k+j) i with h | h
    ·exact aF j h aD
    ·have:k+j=i:=Omg;rw [this];exact heq
   ·simp only [Ait];omega
 ·have hk:l.length<=k:=Omg;have hd:l.drop k=[]:=List.drop_of_length_le hk;rw [hd,IM,Ajr] at hE;rw [hE];exact⟨a1,c1,rfl,h1⟩
theorem Rp{l:List Int}{i:Nat}(hi:i+1<l.length):(BB l).take (i+1)=(BB l).take i++[DQ (IntKind.i64.wrap (l[i+1]-l[i]))]:=by
 have hl:i<(BB l).length:=by simp [BB];omega
 rw [Ajl hl];congr 2;simp only [BB,Ajq,List.getElem_range];rw [EU hi,EU Omg]
theorem W9(h:Bj w0 w bs ba bc)(ya:bs.length<=10)(hl:Rd w0 a (l.map Ep))(hn:l.length<=4096)(hx:∀ x∈l,E9 x) :
  Cw 223 #[.slice ba bs.length bc,.slice a l.length c] w λ v w'=>∃ a' c',v=.slice a' (bs++(if l=[] then [] else CF (l.headD 0) (BB l))).length c'/\Bj w0 w' (bs++(if l=[] then [] else CF (l.headD 0) (BB l))) a' c':=by
 apply O0
 delta Ad Cs Cu D F I J Ks Li N O Eg S U W X;try dsimp only [Ps]
 refine Ap (λ h0=>?_) (λ aQ=>?_)
 ·have:l=[]:=Aii Omg;rw [if_pos this,Ajr];exact⟨ba,bc,rfl,h⟩
 have hp:0<l.length:=Omg;have fh:l≠[]:=Ajw.1 hp;rw [if_neg fh];have bF:(BB l).length=l.length-1:=by simp [BB]
 refine⟨λ s w1=>∃(i:Nat) (a1:Option Addr) (c1:Nat),s=[.slice a1 ((BB l).take i).length c1,.int .i64 ((i+1:Nat):Int)]/\i+1<=l.length/\I1 w w1 ((BB l).take i) a1 c1,λ s _=>match s with
   | [_,.int _ i]=>l.length-i.toNat
   | _=>0,⟨0,none,0,rfl,Omg,I1.nil w⟩,?_⟩
 rintro a1 _ c1 _ w1 ⟨i,_,_,aA,hi,h1⟩;cases aA;have C1:=Ac h.Ar h1.Ar;refine Aa (λ aB=>?_) (λ aJ=>?_)
 ·have dW:i+1<l.length:=Omg;have ir:i<l.length:=Omg;refine (SH.start (λ _=>False) w1).EL λ w4 B4 _=>⟨⟨Omg,Omg⟩,?_⟩;have C4:=Ac C1 B4;rw [wrap_i64 (n:=(((i+1:Nat):Int))-1) Omg Omg,show ((((i+1:Nat):Int))-1)=(i:Int) by omega];obtain⟨p,rfl,gO⟩:=Df (hl.grown C4) dW;obtain⟨p',hp',cI⟩:=Df (hl.grown C4) ir;cases hp';refine⟨⟨Omg,Omg⟩,_,by rw [Ait];exact gO,_,by rw [Ait];exact cI,?_⟩;have hw:=FD (l[i+1]-l[i]);refine (T9 _ hw.1 hw.2).mono ?_;rintro _ w5 ⟨_,rfl,rfl,rfl⟩;refine⟨_,rfl,(SH.start (λ _=>False) w5).An λ b6 w6 ky B6 S6=>?_⟩;refine El ((h1.grown B4).grown B6) (by rw [Ajm];omega) rfl (S6.get 0 rfl) λ a7 c7 w7 h7=>⟨_,_,_,rfl,?_⟩;rw [<- Rp dW] at h7 ⊢;rw [Ae Omg];refine⟨⟨i+1,a7,c7,rfl,Omg,h7⟩,?_⟩;simp only [Ait];omega
 ·have bK:(BB l).take i=BB l:=AiZ Omg;rw [bK] at h1 ⊢;obtain⟨p,rfl,aE⟩:=Kx (hl.grown C1) hp;have hh:E9 (l.headD 0):=by
   have:=DC hx hp 0;simpa [EN] using this
  refine⟨⟨Omg,Omg⟩,_,aE,(E5 bs (h.grown h1.Ar).rd (l.headD 0) hh.1 hh.2 Omg).mono ?_⟩;rintro _ w2 ⟨_,rfl,a2,c2,rfl,h2⟩;have hd:=Ah (FE hh.1 hh.2);refine⟨_,_,_,rfl,(Mw (h2.before C1) (by rw [Aiq];omega) (h1.row.rd.grown h2.Ar) Omg LS).mono ?_⟩;rintro _ w3 ⟨_,rfl,a3,c3,rfl,h3⟩;refine⟨_,_,_,rfl,a3,c3,?_,?_⟩
  ·simp [CF,D8]
  ·have e:bs++Af (DQ (l.headD 0))++(Aiz (EY (HL (BB l))) :: AZ (BB l) (EY (HL (BB l))))=bs++CF (l.headD 0) (BB l):=by simp [CF,D8]
   rw [e] at h3;exact h3
theorem Q8{l:List Int}{i:Nat}(hi:i<l.length):(BK l).take (i+1)=(BK l).take i++[(l[i]-Fo l).toNat]:=by
 have hl:i<(BK l).length:=by simpa [BK] using hi
 rw [Ajl hl];congr 2;simp [BK]
theorem Z1{x m:Int}(hx:E9 x)(hm:E9 m)(hle:m<=x):IntKind.u64.wrap (IntKind.u64.wrap x-IntKind.u64.wrap m)=((x-m).toNat:Int):=by
 unfold E9 at hx hm;rw [wrap_u64,wrap_u64,wrap_u64,<- Int.sub_emod];omega
theorem VL{l:List Int}(h0:0<l.length):EN l 1=l.headD 0:=by
 cases l with
 | nil=>simp at h0
 | cons y l=>simp [EN]
theorem W8(h:Bj w0 w bs ba bc)(ya:bs.length<=10)(hl:Rd w0 a (l.map Ep))(hn:l.length<=4096)(hx:∀ x∈l,E9 x) :
  Cw 224 #[.slice ba bs.length bc,.slice a l.length c] w λ v w'=>∃ a' c',v=.slice a' (bs++(if l=[] then [] else CF (Fo l) (BK l))).length c'/\Bj w0 w' (bs++(if l=[] then [] else CF (Fo l) (BK l))) a' c':=by
 apply OZ
 delta Ad Cs F I J Ks Li N O MH Eg S U W Wu X;try dsimp only [Ps]
 refine Ap (λ h0=>?_) (λ aQ=>?_)
 ·have:l=[]:=Aii Omg;rw [if_pos this,Ajr];exact⟨ba,bc,rfl,h⟩
 have hp:0<l.length:=Omg;have fh:l≠[]:=Ajw.1 hp;rw [if_neg fh];have bF:(BK l).length=l.length:=by simp [BK]
 obtain⟨p,rfl,aE⟩:=Kx (hl.grown h.Ar) hp;refine⟨⟨Omg,Omg⟩,_,aE,?_⟩;refine⟨λ s w1=>w1=w/\∃ i:Nat,i<=l.length/\s=[.int .i64 (EN l i),.int .i64 (i:Int)],λ s _=>match s with
   | [_,.int _ i]=>l.length-i.toNat
   | _=>0,⟨rfl,0,Omg,by simp [EN]⟩,?_⟩
 rintro _ _ w1 ⟨rfl,i,hi,aA⟩;cases aA;refine Aa (λ aB=>⟨⟨Omg,aB⟩,?_⟩) (λ aJ=>?_)
 ·have aD:i<l.length:=Omg;obtain⟨p',hp',hc⟩:=Df (hl.grown h.Ar) aD;cases hp';refine⟨_,by rw [Ait];exact hc,?_⟩;rw [Ae Omg,<- M3 aD];refine⟨⟨rfl,i+1,Omg,rfl⟩,?_⟩;simp only [Ait];omega
 have aD:i=l.length:=Omg;subst aD;have kS:=DC hx hp l.length;have hm:EN l l.length=Fo l:=rfl;rw [hm] at kS ⊢;refine⟨λ s w2=>∃(i:Nat) (a1:Option Addr) (c1:Nat),s=[.slice a1 ((BK l).take i).length c1,.int .i64 (i:Int)]/\i<=l.length/\I1 w1 w2 ((BK l).take i) a1 c1,λ s _=>match s with
   | [_,.int _ i]=>l.length-i.toNat
   | _=>0,⟨0,none,0,rfl,Omg,I1.nil w1⟩,?_⟩
 rintro a1 _ c1 _ w2 ⟨i,_,_,aA,hi,h1⟩;cases aA;have C1:=Ac h.Ar h1.Ar;refine Aa (λ aB=>⟨⟨Omg,aB⟩,?_⟩) (λ aJ=>?_)
 ·have ir:i<l.length:=Omg;obtain⟨p',hp',cI⟩:=Df (hl.grown C1) ir;cases hp';have aV:=Ai7 ir;refine⟨_,by rw [Ait];exact cI,(SH.start (λ _=>False) w2).An λ b6 w6 ky B6 S6=>?_⟩;rw [Z1 (hx _ aV) kS (LM aV)] at S6;refine El (h1.grown B6) (by rw [Ajm];omega) rfl (S6.get 0 rfl) λ a7 c7 w7 h7=>⟨_,_,_,rfl,?_⟩;rw [<- Q8 ir] at h7 ⊢;rw [Ae Omg];refine⟨⟨i+1,a7,c7,rfl,Omg,h7⟩,?_⟩;simp only [Ait];omega
 ·have bK:(BK l).take i=BK l:=AiZ Omg;rw [bK] at h1 ⊢;refine (E5 bs (h.grown h1.Ar).rd (Fo l) kS.1 kS.2 Omg).mono ?_;rintro _ w3 ⟨_,rfl,a2,c2,rfl,h2⟩;have hd:=Ah (FE kS.1 kS.2);refine⟨_,_,_,rfl,(Mw (h2.before C1) (by rw [Aiq];omega) (h1.row.rd.grown h2.Ar) Omg (LI hx)).mono ?_⟩;rintro _ w4 ⟨_,rfl,a3,c3,rfl,h3⟩;refine⟨_,_,_,rfl,a3,c3,?_,?_⟩
  ·simp [CF,D8]
  ·have e:bs++Af (DQ (Fo l))++(Aiz (EY (HL (BK l))) :: AZ (BK l) (EY (HL (BK l))))=bs++CF (Fo l) (BK l):=by simp [CF,D8]
   rw [e] at h3;exact h3
end
def Jg(f:Int)(l:List Int):Prop:=0<=f/\f<=3/\l.length<=4096
instance (f:Int) (l:List Int):Decidable (Jg f l):=by unfold Jg;infer_instance
def JE(f:Int)(l:List Int)(w w':World)(r:Value):Prop :=
 (¬ Jg f l/\r=.tuple #[.slice none 0 0,.int .i64 2]/\Below w.heap.size w w')\/(Jg f l/\∃ a c,r=.tuple #[.slice a (DA f.toNat l).length c,.int .i64 0]/\Bj w w' (DA f.toNat l) a c)
theorem Ow{l:List Int}{k:Nat}(hk:k<l.length):(l.take (k+1)).flatMap D8=(l.take k).flatMap D8++D8 l[k]:=by
 rw [Ajl hk,List.flatMap_append];simp
theorem Fe{w:World}{a:Option Addr}{c:Nat}{l:List Int}(form:Int)(hl:Rd w a (l.map Ep))(hx:∀ x∈l,E9 x) :
  Cw 185 #[.int .i64 form,.slice a l.length c] w λ v w'=>JE form l w w' v:=by
 apply Ng
 delta Ad B Cs F H I J Li N O Eg S W Wb X;try dsimp only [Ps]
 have bad:¬ Jg form l->JE form l w w (.tuple #[.slice none 0 0,.int .i64 2]):=λ h=>.inl ⟨h,rfl,.refl _ _⟩;refine Aa (λ h=>bad λ hk=>by have:=hk.1;omega) (λ h1=>Aa (λ h=>bad λ hk=>by have:=hk.2.1;omega) (λ h2=>Aa (λ h=>bad λ hk=>by have:=hk.2.2;omega) (λ h3=>?_)));have aK:Jg form l:=⟨Omg,Omg,Omg⟩;have hn:l.length<=4096:=Omg;obtain⟨fm,rfl⟩:∃ m:Nat,form=(m:Int):=⟨form.toNat,Omg⟩;rw [AG Omg Omg];refine (SH.start (λ _=>False) w).An λ b3 w1 dI B1 S1=>?_;have hN:Bj w w1 [Aiz fm] (some ⟨b3,0,none⟩) 1:=by
  refine⟨⟨rfl,.inr ⟨b3,_,rfl,S1.get 0 rfl,Osi,Omg,rfl,?_⟩⟩,λ k hk=>?_,B1⟩
  ·simp [Ck (show fm<256 by omega)]
  ·cases hk;exact dI
 refine Ap (λ hf=>?_) (λ gv=>Ap (λ hf=>?_) (λ ve=>Ap (λ hf=>?_) (λ hf3=>?_)))
 ·have:fm=1:=Omg;subst this;refine (YJ (c:=c) hN Osi hl hn hx).mono ?_;rintro _ w2 ⟨_,rfl,a2,c2,rfl,h2⟩;exact⟨_,_,_,rfl,.inr ⟨aK,a2,c2,rfl,h2⟩⟩
 ·have:fm=2:=Omg;subst this;refine (W9 (c:=c) hN Osi hl hn hx).mono ?_;rintro _ w2 ⟨_,rfl,a2,c2,rfl,h2⟩;exact⟨_,_,_,rfl,.inr ⟨aK,a2,c2,rfl,h2⟩⟩
 ·have:fm=3:=Omg;subst this;refine (W8 (c:=c) hN Osi hl hn hx).mono ?_;rintro _ w2 ⟨_,rfl,a2,c2,rfl,h2⟩;exact⟨_,_,_,rfl,.inr ⟨aK,a2,c2,rfl,h2⟩⟩
 ·have:fm=0:=Omg;subst this;refine⟨λ s w5=>∃(i:Nat) (b:List UInt8) (a5:Option Addr) (c5:Nat),s=[.slice a5 b.length c5,.int .i64 (i:Int)]/\i<=l.length/\b=0 :: (l.take i).flatMap D8/\Bj w w5 b a5 c5,λ s _=>match s with
    | [_,.int _ i]=>l.length-i.toNat
    | _=>0,⟨0,[0],_,_,rfl,Omg,Osi,hN⟩,?_⟩
  rintro a5 _ c5 _ w5 ⟨i,b,_,_,aA,hi,hb,h5⟩;cases aA;have an:b.length<=1+4096*10:=by
   have:=Ko (l:=l.take i) λ x h=>hx x (Ajs h);rw [Ajm] at this;rw [hb,Ais];omega
  refine Aa (λ aB=>⟨⟨Omg,aB⟩,?_⟩) (λ aJ=>?_)
  ·have aD:i<l.length:=Omg;obtain⟨p,rfl,hc⟩:=Df (hl.grown h5.Ar) aD;have dM:=hx _ (Ai7 aD);refine⟨_,by rw [Ait];exact hc,(E5 b h5.rd l[i] dM.1 dM.2 Omg).mono ?_⟩;rintro _ w6 ⟨_,rfl,a6,c6,rfl,h6⟩;rw [Ae Omg];refine⟨_,_,_,rfl,⟨i+1,_,a6,c6,rfl,Omg,?_,h6.before h5.Ar⟩,?_⟩
   ·rw [Ow aD,hb];rfl
   ·simp only [Ait];omega
  ·have bK:l.take i=l:=AiZ Omg;rw [bK] at hb;subst hb;exact .inr ⟨aK,a5,c5,rfl,h5⟩
theorem Yj(w:World){d:Int}(h:E9 d):Cw 259 #[.int .i64 d] w λ v w'=>w'=w/\v=.int .u64 (DQ d:Int):=by
 apply TK
 delta U W Wu;try dsimp only [Ps]
 rw [ZA h.1 h.2];exact⟨rfl,rfl⟩
theorem KC{w:World}{a:Option Addr}{c:Nat}{s:List Nat}{fm:Nat}(hf:fm<256){first:Int}(l8:E9 first)(hs:Rd w a (s.map EI))(hn:s.length<=4096)(hx:∀ x∈s,x<18446744073709551616) :
  Cw 260 #[.int .u8 (fm:Int),.int .i64 first,.slice a s.length c] w λ v w'=>∃ a' c',v=.slice a' (Aiz fm :: CF first s).length c'/\Bj w w' (Aiz fm :: CF first s) a' c':=by
 apply OG
 delta B AM Ci Cs I J N S Wb;try dsimp only [Ps]
 refine (Ie hs Omg hx).mono ?_;rintro _ w ⟨_,rfl,wd,rfl,iZ,bT,rfl⟩;obtain rfl:=iZ.one (Sw _);refine⟨_,rfl,(Jp hs hn bT ((Hr _ _).1 iZ.1)).mono ?_⟩;rintro _ w2 ⟨_,rfl,a2,c2,rfl,h2⟩;obtain⟨wd,hwdd⟩:∃ wd,wd=EY (HL s):=⟨_,rfl⟩;rw [<- hwdd] at h2 iZ bT ⊢;have l3:=BP s wd;have l4:Dl s.length wd<=4096*64+7:=by
  unfold Dl;have:s.length*wd<=4096*64:=Ajf Omg bT;omega
 refine⟨_,_,_,_,rfl,(SH.start (λ _=>False) w2).An λ b3 w3 dI B3 S3=>?_⟩;have sY:Rd w3 (some ⟨b3,0,none⟩) ([Aiz fm].map Ag):=by
  have:=Rd.Al (S3.get 0 rfl);simpa [Ck hf] using this
 refine (FB (c:=1) [Aiz fm] sY first l8.1 l8.2 Osi).mono ?_;rintro _ w4 ⟨_,rfl,a4,c4,rfl,h4⟩;rw [AG Omg Omg];refine⟨_,_,_,rfl,(SH.start (λ _=>False) w4).An λ b5 w5 gB B5 S5=>S5.An λ b6 w6 ky B6 S6=>?_⟩;have hd:=Ah (FE l8.1 l8.2);have hc:=Bl (w:=w6) (a:=some ⟨b6,0,none⟩) (c:=3) [(a4,c4,[Aiz fm]++Af (DQ first)),(some ⟨b5,0,none⟩,1,[Aiz wd]),(a2,c2,AZ s wd)] (by
   have:=Rd.Al (S6.get 0 rfl);simpa [BZ] using this) (by
   intro p hp;simp only [Aia,Aju,or_false] at hp;rcases hp with rfl | rfl | rfl
   ·exact (h4.rd.grown B5).grown B6
   ·have:=Rd.Al (S6.get 1 rfl);simpa [Ck (show wd<256 by omega)] using this
   ·exact (((h2.rd.grown B3).grown h4.Ar).grown B5).grown B6) Osi (by rw [Vx];simp;omega)
 refine hc.mono ?_;rintro _ w7 ⟨_,rfl,a7,c7,rfl,h7⟩;rw [Vx] at h7 ⊢;have e:[Aiz fm]++Af (DQ first)++([Aiz wd]++AZ s wd)=Aiz fm :: CF first s:=by simp [CF,D8,hwdd]
 simp only at h7 ⊢;rw [e] at h7 ⊢;exact⟨_,_,_,rfl,a7,c7,rfl,h7.before (Ac (Ac (Ac (Ac h2.Ar B3) h4.Ar) B5) B6)⟩
section
variable {w:World}{a:Option Addr}{c:Nat}{l:List Int}
theorem U5(hl:Rd w a (l.map Ep))(h0:0<l.length)(hn:l.length<=1000000) :
  Cw 261 #[.slice a l.length c] w λ v w'=>w'=w/\v=.int .i64 (Fo l):=by
 apply Gz
 delta Ad F I Li MH W X;try dsimp only [Ps]
 obtain⟨p,rfl,aE⟩:=Kx hl h0;refine Aa (λ h=>Omg) (λ _=>⟨⟨Omg,Omg⟩,_,aE,?_⟩);refine⟨λ s w1=>w1=w/\∃ i:Nat,i<=l.length/\s=[.int .i64 (EN l i),.int .i64 (i:Int)],λ s _=>match s with
   | [_,.int _ i]=>l.length-i.toNat
   | _=>0,⟨rfl,1,Omg,by rw [VL h0];rfl⟩,?_⟩
 rintro _ _ w1 ⟨rfl,i,hi,aA⟩;cases aA;refine Aa (λ aB=>⟨⟨Omg,aB⟩,?_⟩) (λ aJ=>⟨rfl,?_⟩)
 ·have aD:i<l.length:=Omg;obtain⟨p',hp',hc⟩:=Df hl aD;cases hp';refine⟨_,by rw [Ait];exact hc,?_⟩;rw [Ae Omg,<- M3 aD];refine⟨⟨rfl,i+1,Omg,rfl⟩,?_⟩;simp only [Ait];omega
 ·have:i=l.length:=Omg;subst this;rfl
theorem Abf{q:Nat}{vs:List Value}(h:Rd w a vs)(hc:vs.length<=c):Rd w (Ch a q c 1) (vs.drop q):=by
 have h:=h.NQ q vs.length c 1 hc;rw [Aiw,Aiw] at h;have e:(vs.drop q).take (vs.length-q)=vs.drop q:=AiZ Osi;rwa [e] at h
theorem TH:Cw 258 #[.slice a l.length c] w λ v w'=>∃ b,v=.func (.func 275) #[] #[.pointer (some ⟨b,0,none⟩)]/\SH (λ _=>False) w w' [(b,#[.slice a l.length c],103)]:=by
 apply OE
 delta J N P S;try dsimp only [Ps]
 exact (SH.start (λ _=>False) w).An λ b1 w1 _ _ S1=>⟨b1,rfl,S1⟩
theorem WO{L b:Nat}(hc:l.length<=c)(hn:l.length<=1000000)(J:Nat->World->Prop)(cm:∀ k w,J k w->Rd w a (l.map Ep))(lx:∀ k w w',J k w->Ak (·=b) w w'->J k w')
  (af:∀ k n w,k<l.length->AaN l k n->J k w->N0 Aix L #[.int .i64 (n:Int),.int .i64 (l.getD k 0)] (λ y w'=>y=true/\J (k+n) w'/\w'.heap[b]?=w.heap[b]?) w)
  (h0:J 0 w) (hb:w.heap[b]?=some (.cells #[.slice a l.length c] 103 (0,0))) :
  Cw 275 #[.func (.yield L) #[] #[],.pointer (some ⟨b,0,none⟩)] w λ _ w'=>J l.length w':=by
 apply Ky
 delta A Ad D F H I Li Ls Q Qi S Am W X Y Zi;try dsimp only [Ps]
 have cell_of:∀ {w':World} {v:Value},w'.heap[b]?=some (.cells #[v] 103 (0,0))->w'.cell? ⟨b,0,none⟩=some v:=λ h=>by simp [World.cell?,h]
 refine⟨λ s w1=>s=[]/\∃(k:Nat) (ak:Option Addr) (ck:Nat),k<=l.length/\J k w1/\w1.heap[b]?=some (.cells #[.slice ak (l.length-k) ck] 103 (0,0))/\l.length-k<=ck/\(∀ w,Rd w a (l.map Ep)->Rd w ak ((l.drop k).map Ep)),λ _ w=>match w.cell? ⟨b,0,none⟩ with
   | some (.slice _ n _)=>n
   | _=>0,⟨rfl,0,a,c,Omg,h0,by simpa using hb,Omg,λ w h=>by simpa using h⟩,?_⟩
 rintro w1 ⟨_,k,ak,ck,hk,hj,cK,hck,hr⟩;refine⟨_,_,_,cell_of cK,Aa (λ iU=>?_) (λ hz=>?_)⟩
 ·have aO:k<l.length:=Omg;refine⟨λ s w4=>∃ n:Nat,s=[.int .i64 (n:Int)]/\AaN l k n/\J k w4/\w4.heap[b]?=some (.cells #[.slice ak (l.length-k) ck] 103 (0,0)),?_,?_⟩
  ·have one:∀ j,j<1->l[k+j]?=l[k]?:=by
    intro j hj;have:j=0:=Omg;subst this;rfl
   refine⟨λ s w2=>∃ n:Nat,s=[.int .i64 (n:Int)]/\0<n/\k+n<=l.length/\(∀ j,j<n->l[k+j]?=l[k]?)/\J k w2/\w2.heap[b]?=some (.cells #[.slice ak (l.length-k) ck] 103 (0,0)),λ s _=>match s with
     | [.int _ i]=>l.length-i.toNat
     | _=>0,⟨1,rfl,Omg,Omg,one,hj,cK⟩,?_⟩
   rintro _ w2 ⟨n,aA,cY,br,aF,qk,cW⟩;cases aA;unfold PF;have pD:J k w2.drew:=lx _ _ _ qk ((Ak.refl _ _).drew);have dI:w2.drew.heap[b]?=some (.cells #[.slice ak (l.length-k) ck] 103 (0,0)):=cW;refine⟨_,_,_,cell_of dI,Aa (λ aB=>?_) (λ aJ=>⟨n,rfl,⟨cY,br,aF,.inl Omg⟩,pD,dI⟩)⟩;have sZ:=hr _ (cm _ _ pD);have lF:k+n<l.length:=Omg;have ja:n<(l.drop k).length:=by rw [AiT];omega
   have vV:0<(l.drop k).length:=Omg;obtain⟨p,rfl,gO⟩:=Df sZ ja;obtain⟨p',hp',cI⟩:=Df sZ vV;cases hp';rw [Ajv,CS] at cI;refine⟨_,_,_,cell_of dI,⟨Omg,Omg⟩,_,by rw [Ait];exact gO,_,_,_,cell_of dI,⟨Omg,Omg⟩,_,cI,?_⟩;have e1:(l.drop k)[n]=l[k+n]:=Osi;have e2:(l.drop k)[0]=l[k]:=Osi;rw [e1,e2];refine Ap (λ he=>?_) (λ aQ=>⟨n,rfl,⟨cY,br,aF,.inr ?_⟩,pD,dI⟩)
   ·rw [Ae Omg];refine⟨⟨n+1,rfl,Omg,Omg,λ j hj=>?_,pD,dI⟩,?_⟩
    ·rcases Ai6 j n with h | h
     ·exact aF j h
     ·have:j=n:=Omg;subst this;rw [Ajk lF,Ajk aO,he]
    ·simp only [Ait];omega
   ·rw [Ajk lF,Ajk aO];simpa using aQ
  rintro _ w4 ⟨n,aA,aG,yl,kM⟩;cases aA;have fB:=aG.pos;have iA:=aG.le;have sZ:=hr _ (cm _ _ yl);have vV:0<(l.drop k).length:=by rw [AiT];omega
  obtain⟨p',hp',cI⟩:=Df sZ vV;subst hp';rw [Ajv,CS] at cI;have e2:(l.drop k)[0]=l.getD k 0:=by simp [aO]
  rw [e2] at cI;refine⟨_,_,_,cell_of kM,⟨Omg,Omg⟩,_,cI,?_⟩;obtain⟨fn,tm,asg,bo,hy,hrr⟩:=af k n w4 aO aG yl;refine⟨fn,tm,asg,bo,hy,hrr.mono ?_⟩;rintro e w5 ⟨y,he,rfl,sR,gB⟩;rw [kM] at gB;refine⟨true,he,AN ⟨_,_,_,cell_of gB,⟨Omg,Omg,Omg⟩,?_⟩⟩;rw [Ait];refine EH gB Osi λ w6 K6 ky=>?_;have nM:w6.heap[b]?=some (.cells #[.slice (Ch (some p') n ck 1) (l.length-k-n) (ck-n)] 103 (0,0)):=ky;have ek:l.length-k-n=l.length-(k+n):=Omg;rw [ek] at nM;refine⟨⟨rfl,k+n,_,_,Omg,lx _ _ _ sR K6,nM,Omg,λ w h=>?_⟩,?_⟩
  ·have:=Abf (q:=n) (c:=ck) (hr w h) (by simp;omega);rwa [<- AiU,List.drop_drop] at this
  ·show (match w6.cell? ⟨b,0,none⟩ with | some (.slice _ n _)=>n | _=>0)<(match w1.cell? ⟨b,0,none⟩ with | some (.slice _ n _)=>n | _=>0);rw [cell_of nM,cell_of cK];simp only;omega
 ·have:k=l.length:=Omg;subst this;exact hj
end
theorem Di{w:World}{b:Nat}{v:Value}{t:TypeId}{f:Nat × Nat}(h:w.heap[b]?=some (.cells #[v] t f)):w.cell? ⟨b,0,none⟩=some v:=by simp [World.cell?,h]
section
variable {w:World}{a:Option Addr}{c:Nat}{l:List Int}
structure Gp(w:World)(b4:Nat)(F:Nat->Prop)(wx:World)(bs:List UInt8):Prop where
 ex:∃(ba:Option Addr) (bc:Nat),wx.heap[b4]?=some (.cells #[.slice ba bs.length bc] 77 (0,0))/\Row wx 5 1 ba bs.length bc (bs.map Ag)/\∀ x,AF ba=some x->w.heap.size<=x/\x≠b4/\¬ F x
theorem Gp.keeps{w wx wy:World}{b4:Nat}{F G:Nat->Prop}{bs:List UInt8}(h:Gp w b4 F wx bs)(K:Ak G wx wy)(h4:¬ G b4)(hG:∀ x,G x->F x\/wx.heap.size<=x):Gp w b4 F wy bs:=by
 obtain⟨ba,bc,h1,h2,h3⟩:=h.ex;refine⟨ba,bc,K.at h1 h4,h2.keeps K λ x hx hg=>?_,h3⟩;rcases hG x hg with h | h
 ·exact (h3 x hx).2.2 h
 ·have:=h2.lt hx;omega
theorem WT{w w3:World}{b4:Nat}(hl:Rd w a (l.map Ep))(hc:l.length<=c)(hn:l.length<=4096)(hx:∀ x∈l,E9 x)(B:Below w.heap.size w w3)(uy:w.heap.size<=b4)
  (hH:Gp w b4 (λ _=>False) w3 [1]) {k:Value->World->Prop} (hk:∀ w',Below w.heap.size w w'->Gp w b4 (λ _=>False) w' (DA 1 l)->∀ ba bc,w'.cell? ⟨b4,0,none⟩=some (.slice ba (DA 1 l).length bc)->k (.tuple #[.slice ba (DA 1 l).length bc,.int .i64 0]) w') :
  Calls Aix 258 #[.slice a l.length c] w3 (λ e_15 w7=>∃(t52_14:FuncId) (t52_14f t52_14c:Array Value),e_15=.returned (.func (.func t52_14) t52_14f t52_14c)/\enters Aix t52_14=true/\∀ rr_16:Loop,rr_16.state=.ready->rr_16.pending=none->(∀(t53_17:Int),∀(t54_18:Int),∀(k_16:Bool->World->Prop) (w8:World),w8.heap[(w7.heap.size+1)]?=some (.loop rr_16)->(PD rr_16 (w7.heap.size+1) (λ w9=>∃(t55_19:Option Addr) (t55_19l t55_19c:Nat),w9.cell? ⟨b4,0,none⟩=some (.slice t55_19 t55_19l t55_19c) /\
   Calls Aix 48 #[.slice t55_19 t55_19l t55_19c,.int .u64 (IntKind.u64.wrap (t53_17))] w9 (λ e_21 bX=>∃(t58_20:Option Addr) (t58_20l t58_20c:Nat),e_21=.returned (.slice t58_20 t58_20l t58_20c)/\Calls Aix 135 #[.slice t58_20 t58_20l t58_20c,.int .i64 t54_18] bX (λ e_23 aZ=>∃(t60_22:Option Addr) (t60_22l t60_22c:Nat),e_23=.returned (.slice t60_22 t60_22l t60_22c)/\DG ⟨b4,0,none⟩ (.slice t60_22 t60_22l t60_22c) (λ bL=>FO rr_16 (w7.heap.size+1) k_16 none bL) aZ))) w8)->N0 Aix (w7.heap.size+1) #[.int .i64 t53_17,.int .i64 t54_18] k_16 w8) ->
   Calls Aix t52_14 ⟨t52_14f.toList++[.func (.yield (w7.heap.size+1)) #[] #[]]++t52_14c.toList⟩ ((w7.alloc (.deferred (some []))).alloc (.loop rr_16)) (λ e_24 al=>(∃ v,e_24=.returned v)/\PG rr_16 (w7.heap.size+1) (λ j_24 au=>(j_24=none/\∃(t112_25:Option Addr) (t112_25l t112_25c:Nat),au.cell? ⟨b4,0,none⟩=some (.slice t112_25 t112_25l t112_25c)/\au.heap[w7.heap.size]?=some (.deferred (some []))/\k (.tuple #[.slice t112_25 t112_25l t112_25c,.int .i64 0]) (au.putObj w7.heap.size (.deferred none)))) al)):=by
 have hlen:=LP 4096 l hn Omg hx;refine TH.mono ?_;rintro _ w9 ⟨_,rfl,bI,rfl,S9⟩;refine⟨_,_,_,rfl,by kernel_rfl,λ rr aA dZ hy=>?_⟩;obtain⟨W1,hW1⟩:∃ W1,W1=(w9.alloc (.deferred (some []))).alloc (.loop rr):=⟨_,rfl⟩;rw [<- hW1];have gH:Below w9.heap.size w9 W1:=by rw [hW1];exact (((Below.refl _ w9).alloc (Ain _) _).alloc Osi _)
 have sy:W1.heap.size=w9.heap.size+2:=by rw [hW1];simp
 have gm:W1.heap[w9.heap.size+1]?=some (.loop rr):=by
  rw [hW1];have:=World.alloc_heap_new (w9.alloc (.deferred (some []))) (.loop rr);rwa [World.size_alloc] at this
 have kh:W1.heap[w9.heap.size]?=some (.deferred (some [])):=by
  rw [hW1];exact (Below.heap_alloc _ _ _ Osi).trans (World.alloc_heap_new w9 _)
 have eN:=Ak.AB (F:=λ _=>False) gH;obtain⟨L,hLd⟩:∃ L,L=w9.heap.size+1:=⟨_,rfl⟩;rw [<- hLd] at gm hy ⊢;obtain⟨ba0,bc0,e1,e2,e3⟩:=hH.ex;have kM:b4<w3.heap.size:=(Ai5.1 e1).1;have hbI:w3.heap.size<=bI:=by simpa using S9.own (bI,_,_) (Ai2 ..)
 have hbI9:bI<w9.heap.size:=S9.lt (x:=(bI,_,_)) (Ai2 ..);have jK:=S9.below;have Bw1:Below w.heap.size w W1:=(Ac B jK).trans (gH.mono (Ac B jK).size);have w03:=B.size;have kX:=jK.size;have hI1:W1.heap[bI]?=some (.cells #[.slice a l.length c] 103 (0,0)):=eN.at (S9.get 0 rfl) Osi;let F:Nat->Prop:=λ x=>x=L\/x=bI\/x=w9.heap.size;have hJ0:Gp w b4 F W1 [1]:=by
  refine⟨ba0,bc0,eN.at ((Ak.AB (F:=λ _=>False) jK).at e1 Osi) Osi,(e2.grown jK).grown gH,λ x hx=>⟨(e3 x hx).1,(e3 x hx).2.1,?_⟩⟩;have:=e2.lt hx;show ¬ (x=L\/x=bI\/x=w9.heap.size);omega
 let J:Nat->World->Prop:=λ q wx=>Ak (λ x=>x=b4\/x=L\/x=bI) W1 wx/\wx.heap[L]?=some (.loop rr)/\∃ bs,Gp w b4 F wx bs/\1 :: EP l=bs++EP (l.drop q);have low:∀ {w':World},Ak (λ x=>x=b4\/x=L\/x=bI) W1 w'->Below w.heap.size w w':=λ K=>Bw1.trans (K.below Bw1.size λ k hk h=>Omg);have bB:=WO (w:=W1) (L:=L) (b:=bI) hc Omg J (λ q wx hj=>hl.grown (low hj.1)) (λ q wx wy hj K=>by
   obtain⟨j1,j2,bs,j3,j4⟩:=hj;exact⟨j1.trans K (λ x _ h=>.inr (.inr h)),K.at j2 (by show ¬ L=bI;omega),bs,j3.keeps K (by show ¬ b4=bI;omega) (λ x h=>.inl (.inr (.inl h))),j4⟩) (by
  rintro q n wx hq aG ⟨K,hL,bs,ud,hE⟩;obtain⟨ba,bc,f1,f2,f3⟩:=ud.ex;have an:bs.length<=1+4096*20:=by
   have:=congrArg List.length hE;simp only [Aiq,Ais] at this;omega
  have qy:=aG.le;have cY:=aG.pos;refine hy _ _ _ wx hL ⟨hL,?_⟩;obtain⟨aZ,hw11⟩:∃ aZ,aZ=wx.putObj L (.loop { rr with state:=.busy }):=⟨_,rfl⟩;rw [<- hw11];have eZ:L<wx.heap.size:=(Ai5.1 hL).1;have eV:Ak (λ k=>k=L) wx aZ:=by rw [hw11];exact AO _ _ _
  have jL:aZ.heap[L]?=some (.loop { rr with state:=.busy }):=by rw [hw11];exact World.putObj_heap_same eZ
  have g1:=eV.at f1 (show ¬ b4=L by omega);have g2:=f2.keeps eV λ x hx he=>(f3 x hx).2.2 (.inl he);rw [Aj Omg Omg];refine⟨_,_,_,Di g1,(AE bs g2.rd n Omg Omg).mono ?_⟩;rintro _ bL ⟨_,rfl,a12,lY,rfl,fI⟩;have d10:=Ah (n:=n) Omg;have zF:E9 (l.getD q 0):=by rw [EU hq];exact hx _ (Ai7 hq)
  refine⟨_,_,_,rfl,(FB _ fI.rd _ zF.1 zF.2 (by rw [Aiq];omega)).mono ?_⟩;rintro _ al ⟨_,rfl,mV,ou,rfl,kK⟩;have j8:=Ac fI.Ar kK.Ar;have kY:=Ak.AB (F:=λ _=>False) j8;have g3:=kY.at g1 Osi;refine⟨_,_,_,rfl,EH g3 Osi λ au jB ku=>?_⟩;have s11:aZ.heap.size=wx.heap.size:=by rw [hw11];simp
  have sx:=K.size;have sz12:=fI.Ar.size;have dP:au.heap[L]?=some (.loop { rr with state:=.busy }):=jB.at (kY.at jL Osi) (by show ¬ L=b4;omega);refine⟨dP,rfl,?_⟩;rw [Il aA dZ];have jn:L<au.heap.size:=(Ai5.1 dP).1;have KP:=AO au L (.loop rr);have KK:Ak (λ x=>x=b4\/x=L) wx (au.putObj L (.loop rr)) :=
   (((eV.mono (G:=λ x=>x=b4\/x=L) (λ x _ h=>.inr h)).trans kY (λ x _ h=>h.elim)).trans jB (λ x _ h=>.inl h)).trans KP (λ x _ h=>.inr h)
  have kC:∀ x,AF mV=some x->wx.heap.size<=x:=λ x hx=>by have:=kK.new x hx;omega
  have zq:Row (au.putObj L (.loop rr)) 5 1 mV (bs++Af n++Af (DQ (l.getD q 0))).length ou ((bs++Af n++Af (DQ (l.getD q 0))).map Ag) :=
   (kK.row.keeps jB λ x hx he=>by have:=kC x hx;have:=(Ai5.1 f1).1;omega).keeps KP λ x hx he=>by have:=kC x hx;omega
  refine⟨⟨K.trans KK (λ x _ h=>by rcases h with h | h <;> simp [h]),World.putObj_heap_same jn,_,⟨mV,ou,?_,zq,λ x hx=>?_⟩,?_⟩,?_⟩
  ·exact KP.at ku (by show ¬ b4=L;omega)
  ·have:=kC x hx;have:=Bw1.size;refine⟨Omg,Omg,?_⟩;show ¬ (x=L\/x=bI\/x=w9.heap.size);omega
  ·rw [hE,YY aG];simp [D8]
  ·exact KK.block bI Omg (by show ¬ (bI=b4\/bI=L);omega)) ⟨.refl _ _,gm,[1],hJ0,Osi⟩ hI1
 refine bB.mono ?_;rintro _ au ⟨_,rfl,jB,dP,bs,ud,hE⟩;have hd:l.drop l.length=[]:=Osi;rw [hd,IM,Ajr] at hE;subst hE;refine⟨⟨_,rfl⟩,none,by rw [Il aA dZ];exact dP,rfl,?_⟩;obtain⟨ah,hw15⟩:∃ ah,ah=au.putObj L (.loop { rr with state:=.exhausted,pending:=none }):=⟨_,rfl⟩;rw [<- hw15];have gI:Ak (λ k=>k=L) au ah:=by rw [hw15];exact AO _ _ _
 have xo:=ud.keeps gI (show ¬ b4=L by omega) (λ x h=>.inl (.inl h));have KF:=jB.trans gI (λ x _ h=>.inr (.inl h));have gL:ah.heap[w9.heap.size]?=some (.deferred (some [])):=KF.at kh (by show ¬ (w9.heap.size=b4\/w9.heap.size=L\/w9.heap.size=bI);omega);have KD:=AO ah w9.heap.size (.deferred none);have zd:=xo.keeps KD (show ¬ b4=w9.heap.size by omega) (λ x h=>.inl (.inr (.inr h)));have eB:=low KF;obtain⟨ba,bc,f1,f2,f3⟩:=xo.ex;obtain⟨jE,mZ,f1',f2',f3'⟩:=zd.ex;refine⟨_,_,_,Di f1,gL,hk _ (eB.trans (KD.below eB.size λ k hk he=>Omg)) ⟨jE,mZ,f1',f2',λ x hx=>⟨(f3' x hx).1,(f3' x hx).2.1,λ h=>h⟩⟩ ba bc ?_⟩;have:=KD.at f1 (show ¬ b4=w9.heap.size by omega);exact Di this
theorem Hn(form:Int)(hl:Rd w a (l.map Ep))(hc:l.length<=c)(hx:∀ x∈l,E9 x) :
  Cw 231 #[.int .i64 form,.slice a l.length c] w λ v w'=>JE form l w w' v:=by
 apply OD
 delta A Ad B Cf Ci Cs Cu F H I J Ks Li Ls N O Qi Eg S Am U W Wb Wu X Y;try dsimp only [Ps]
 have bad:¬ Jg form l->JE form l w w (.tuple #[.slice none 0 0,.int .i64 2]):=λ h=>.inl ⟨h,rfl,.refl _ _⟩;refine Aa (λ h=>bad λ hk=>by have:=hk.1;omega) (λ h1=>Aa (λ h=>bad λ hk=>by have:=hk.2.1;omega) (λ h2=>Aa (λ h=>bad λ hk=>by have:=hk.2.2;omega) (λ h3=>?_)));have aK:Jg form l:=⟨Omg,Omg,Omg⟩;have hn:l.length<=4096:=Omg;obtain⟨fm,rfl⟩:∃ m:Nat,form=(m:Int):=⟨form.toNat,Omg⟩;rw [AG Omg Omg];refine (SH.start (λ _=>False) w).An λ b3 w1 dI B1 S1=>S1.An λ b4 w2 kM B2 S2=>S2.Y8 0 rfl (show 0<1 by decide) λ w3 K3 S3=>?_;have kP:fm<256:=Omg;have B3:=S3.below;have jU:b3≠b4:=S3.ne 1 0 rfl rfl Ode;have ux:w.heap.size<=b3:=dI;have qO:w.heap.size<=b4:=by have:=B1.size;omega
 have hN:Bj w w3 [Aiz fm] (some ⟨b3,0,none⟩) 1:=by
  refine⟨⟨rfl,.inr ⟨b3,_,rfl,S3.get 1 rfl,Osi,Omg,rfl,?_⟩⟩,λ k hk=>?_,B3⟩
  ·simp [Ck kP]
  ·cases hk;exact dI
 have nZ:w3.heap[b4]?=some (.cells #[.slice (some ⟨b3,0,none⟩) 1 1] 77 (0,0)):=S3.get 0 rfl;have fin:∀ {wx:World} {bs:List UInt8} {ba:Option Addr} {bc:Nat},Bj w wx bs ba bc->bs=DA fm l->JE (fm:Int) l w wx (.tuple #[.slice ba bs.length bc,.int .i64 0]):=by
  rintro wx bs ba bc h rfl;exact .inr ⟨aK,ba,bc,by rw [Ait],by rw [Ait];exact h⟩
 refine Ap (λ hz=>⟨_,_,_,Di nZ,?_⟩) (λ ju=>?_)
 ·have nv:l=[]:=Aii Omg;refine fin hN ?_;subst nv;rcases (by omega:fm=0\/fm=1\/fm=2\/fm=3) with rfl | rfl | rfl | rfl
  ·rfl
  ·show _=1 :: EP [];rw [IM];rfl
  ·rfl
  ·rfl
 have hp:0<l.length:=Omg;have fh:l≠[]:=Ajw.1 hp;refine Ap (λ hf=>?_) (λ fY=>Ap (λ hf=>?_) (λ gv=>Ap (λ hf=>?_) (λ ve=>Ap (λ hf=>?_) (λ hf3=>Omg))))
 ·have:fm=0:=Omg;subst this;refine⟨λ s w5=>∃(i:Nat) (b:List UInt8) (a5:Option Addr) (c5:Nat),s=[.int .i64 (i:Int)]/\i<=l.length/\b=0 :: (l.take i).flatMap D8/\Bj w w5 b a5 c5/\w5.heap[b4]?=some (.cells #[.slice a5 b.length c5] 77 (0,0))/\(∀ x,AF a5=some x->x≠b4),λ s _=>match s with
    | [.int _ i]=>l.length-i.toNat
    | _=>0,⟨0,[0],_,_,rfl,Omg,Osi,hN,nZ,λ x hx=>by cases hx;exact jU⟩,?_⟩
  rintro _ w5 ⟨i,b,a5,c5,aA,hi,hb,h5,g5,n5⟩;cases aA;have an:b.length<=1+4096*10:=by
   have:=Ko (l:=l.take i) λ x h=>hx x (Ajs h);rw [Ajm] at this;rw [hb,Ais];omega
  refine Aa (λ aB=>⟨⟨Omg,aB⟩,?_⟩) (λ aJ=>⟨_,_,_,Di g5,?_⟩)
  ·have aD:i<l.length:=Omg;obtain⟨p,rfl,hc⟩:=Df (hl.grown h5.Ar) aD;have dM:=hx _ (Ai7 aD);refine⟨_,by rw [Ait];exact hc,_,_,_,Di g5,(FB b h5.rd l[i] dM.1 dM.2 Omg).mono ?_⟩;rintro _ w6 ⟨_,rfl,a6,c6,rfl,h6⟩;have g6:=(Ak.AB (F:=λ _=>False) h6.Ar).at g5 Osi;have l5:b4<w5.heap.size:=(Ai5.1 g5).1;refine⟨_,_,_,rfl,EH g6 Osi λ w7 K7 g7=>?_⟩;rw [Ae Omg];have gk:=h6.before h5.Ar;have n6:∀ x,AF a6=some x->x≠b4:=λ x hx=>by have:=h6.new x hx;omega
   refine⟨⟨i+1,_,a6,c6,rfl,Omg,?_,⟨gk.row.keeps K7 λ x hx he=>n6 x hx he,gk.new,gk.Ar.trans (K7.below gk.Ar.size λ k hk he=>Omg)⟩,g7,n6⟩,?_⟩
   ·rw [Ow aD,hb];rfl
   ·simp only [Ait];omega
  ·have bK:l.take i=l:=AiZ Omg;rw [bK] at hb;exact fin h5 hb
 ·have:fm=1:=Omg;subst this;refine WT (k:=λ v w'=>JE ((1:Nat):Int) l w w' v) hl hc hn hx B3 qO ⟨_,_,nZ,hN.row,λ x hx=>by cases hx;exact⟨dI,jU,λ h=>h⟩⟩ ?_;rintro w' B' ⟨jE,mZ,f1,f2,f3⟩ ba bc aE;have e:=(Di f1).symm.trans aE;simp only [Option.some.injEq,Value.slice.injEq,true_and] at e;obtain⟨rfl,rfl⟩:=e;exact fin ⟨f2,λ k hk=>(f3 k hk).1,B'⟩ rfl
 ·have:fm=2:=Omg;subst this;have bF:(BB l).length=l.length-1:=by simp [BB]
  refine⟨⟨Omg,Omg,Omg⟩,λ s w1=>∃(i:Nat) (a1:Option Addr) (c1:Nat),s=[.slice a1 ((BB l).take i).length c1,.int .i64 (i:Int)]/\i+1<=l.length/\I1 w3 w1 ((BB l).take i) a1 c1,λ s _=>match s with
   | [_,.int _ i]=>l.length-i.toNat
   | _=>0,⟨0,none,0,rfl,Omg,I1.nil w3⟩,?_⟩
  rintro a1 _ c1 _ ah ⟨i,_,_,aA,hi,h1⟩;cases aA;have C1:=Ac B3 h1.Ar;refine Aa (λ aB=>⟨⟨Omg,Omg⟩,?_⟩) (λ aJ=>?_)
  ·have dW:i+1<l.length:=Omg;have ir:i<l.length:=Omg;have rB:=Abf (q:=1) (hl.grown C1) (by rw [List.length_map];exact hc);rw [<- AiU] at rB;have ja:i<(l.drop 1).length:=by rw [AiT];omega
   obtain⟨p1,hp1,gO⟩:=Df rB ja;rw [hp1];have e1:(l.drop 1)[i]=l[i+1]:=Osi;rw [e1] at gO;obtain⟨p,rfl,cI⟩:=Df (hl.grown C1) ir;refine⟨_,by rw [Ait];exact gO,⟨Omg,Omg⟩,_,by rw [Ait];exact cI,?_⟩;refine (Yj ah (FD (l[i+1]-l[i]))).mono ?_;rintro _ w5 ⟨_,rfl,rfl,rfl⟩;refine⟨_,rfl,(SH.start (λ _=>False) w5).An λ b6 w6 ky B6 S6=>?_⟩;refine El (h1.grown B6) (by rw [Ajm];omega) rfl (S6.get 0 rfl) λ a7 c7 w7 h7=>⟨_,_,_,rfl,?_⟩;rw [<- Rp dW] at h7 ⊢;rw [Ae Omg];refine⟨⟨i+1,a7,c7,rfl,Omg,h7⟩,?_⟩;simp only [Ait];omega
  ·have bK:(BB l).take i=BB l:=AiZ Omg;rw [bK] at h1 ⊢;obtain⟨p,rfl,aE⟩:=Kx (hl.grown C1) hp;have hh:E9 (l.headD 0):=by
    have:=DC hx hp 0;simpa [EN] using this
   refine⟨⟨Omg,Omg⟩,_,aE,(KC (fm:=2) Omg hh h1.row.rd Omg LS).mono ?_⟩;rintro _ w6 ⟨_,rfl,a6,c6,rfl,h6⟩;have g6:=(Ak.AB (F:=λ _=>False) (Ac h1.Ar h6.Ar)).at nZ Osi;have l3:b4<w3.heap.size:=(Ai5.1 nZ).1;have s13:=h1.Ar.size;refine⟨_,_,_,rfl,EH g6 Osi λ w7 K7 g7=>⟨_,_,_,Di g7,?_⟩⟩;have gk:=h6.before C1;exact fin ⟨gk.row.keeps K7 λ x hx he=>by have:=h6.new x hx;omega,gk.new,gk.Ar.trans (K7.below gk.Ar.size λ k hk he=>Omg)⟩ (by simp only [DA];rw [if_neg fh];rfl)
 ·have:fm=3:=Omg;subst this;have bF:(BK l).length=l.length:=by simp [BK]
  have kS:=DC hx hp l.length;have hm:EN l l.length=Fo l:=rfl;rw [hm] at kS;refine (U5 (hl.grown B3) hp Omg).mono ?_;rintro _ w3 ⟨_,rfl,rfl,rfl⟩;refine⟨_,rfl,λ s w1=>∃(i:Nat) (a1:Option Addr) (c1:Nat),s=[.slice a1 ((BK l).take i).length c1,.int .i64 (i:Int)]/\i<=l.length/\I1 w3 w1 ((BK l).take i) a1 c1,λ s _=>match s with
   | [_,.int _ i]=>l.length-i.toNat
   | _=>0,⟨0,none,0,rfl,Omg,I1.nil w3⟩,?_⟩
  rintro a1 _ c1 _ ah ⟨i,_,_,aA,hi,h1⟩;cases aA;have C1:=Ac B3 h1.Ar;refine Aa (λ aB=>⟨⟨Omg,Omg⟩,?_⟩) (λ aJ=>?_)
  ·have ir:i<l.length:=Omg;obtain⟨p,rfl,cI⟩:=Df (hl.grown C1) ir;have aV:=Ai7 ir;refine⟨_,by rw [Ait];exact cI,(SH.start (λ _=>False) ah).An λ b6 w6 ky B6 S6=>?_⟩;have ew:IntKind.u64.wrap (IntKind.i64.wrap (l[i]-Fo l))=((l[i]-Fo l).toNat:Int):=by
    have q1:=hx _ aV;have q2:=LM aV;unfold E9 at q1 kS;rw [wrap_u64,CQ];split <;> omega
   rw [ew] at S6;refine El (h1.grown B6) (by rw [Ajm];omega) rfl (S6.get 0 rfl) λ a7 c7 w7 h7=>⟨_,_,_,rfl,?_⟩;rw [<- Q8 ir] at h7 ⊢;rw [Ae Omg];refine⟨⟨i+1,a7,c7,rfl,Omg,h7⟩,?_⟩;simp only [Ait];omega
  ·have bK:(BK l).take i=BK l:=AiZ Omg;rw [bK] at h1 ⊢;refine (KC (fm:=3) Omg kS h1.row.rd Omg (LI hx)).mono ?_;rintro _ w6 ⟨_,rfl,a6,c6,rfl,h6⟩;have g6:=(Ak.AB (F:=λ _=>False) (Ac h1.Ar h6.Ar)).at nZ Osi;have l3:b4<w3.heap.size:=(Ai5.1 nZ).1;have s13:=h1.Ar.size;refine⟨_,_,_,rfl,EH g6 Osi λ w7 K7 g7=>⟨_,_,_,Di g7,?_⟩⟩;have gk:=h6.before C1;exact fin ⟨gk.row.keeps K7 λ x hx he=>by have:=h6.new x hx;omega,gk.new,gk.Ar.trans (K7.below gk.Ar.size λ k hk he=>Omg)⟩ (by simp only [DA];rw [if_neg fh];rfl)
end
def BA(s:Nat->Nat):Nat->Nat
 | 0=>0
 | f+1=>if f=0 then 0 else if s f<s (BA s f) then f else BA s f
def Gk(l:List Int)(f:Nat):Nat:=(DA f l).length
def Ta(l:List Int):Nat:=BA (Gk l) 4
theorem Kc(s:Nat->Nat):∀ f,0<f->BA s f<f/\(∀ j,j<f->s (BA s f)<=s j)/\(∀ j,j<BA s f->s (BA s f)<s j)
 | 0,h=>Omg
 | f+1,_=>by
  by_cases h0:f=0
  ·subst h0;have e:BA s (0+1)=0:=by simp [BA]
   rw [e];refine⟨Omg,λ j hj=>?_,λ j hj=>Omg⟩;have:j=0:=Omg;subst this;exact Ain _
  ·obtain⟨h1,h2,h3⟩:=Kc s f Omg;by_cases hs:s f<s (BA s f)
   ·have e:BA s (f+1)=f:=by simp only [BA];rw [if_neg h0,if_pos hs]
    rw [e];refine⟨Omg,λ j hj=>?_,λ j hj=>?_⟩
    ·rcases Ai6 j f with h | h
     ·have:=h2 j h;omega
     ·have:j=f:=Omg;subst this;exact Ain _
    ·have:=h2 j hj;omega
   ·have e:BA s (f+1)=BA s f:=by simp only [BA];rw [if_neg h0,if_neg hs]
    rw [e];refine⟨Omg,λ j hj=>?_,h3⟩;rcases Ai6 j f with h | h
    ·exact h2 j h
    ·have:j=f:=Omg;subst this;omega
theorem Od(l:List Int):Ta l<=3:=by
 have:=(Kc (Gk l) 4 Omg).1;unfold Ta;omega
theorem Afl{f:Nat}{l:List Int}(hf:f<=3)(hn:l.length<=4096):Jg (f:Int) l:=⟨Omg,Omg,Omg⟩
section
variable {w:World}{a:Option Addr}{c:Nat}{l:List Int}
theorem JE.DN{f:Nat}{w':World}{r:Value}(hf:f<=3)(hn:l.length<=4096)(h:JE (f:Int) l w w' r):∃ a c,r=.tuple #[.slice a (Gk l f) c,.int .i64 0]/\Bj w w' (DA f l) a c:=by
 rcases h with ⟨h,_⟩ | ⟨_,a,c,rfl,h⟩
 ·exact absurd (Afl hf hn) h
 ·rw [Ait] at h ⊢;exact⟨a,c,rfl,h⟩
theorem QN(hl:Rd w a (l.map Ep))(hn:l.length<=4096)(hx:∀ x∈l,E9 x) :
  Cw 184 #[.slice a l.length c] w λ v w'=>v=.tuple #[.int .i64 (Ta l:Int),.int .i64 0]/\Below w.heap.size w w':=by
 apply QE
 delta AM F H I AgR S W;try dsimp only [Ps]
 refine Aa (λ h=>Omg) (λ _=>?_);refine⟨λ s w1=>∃ f:Nat,f<=4/\s=[.int .i64 (BA (Gk l) f:Int),.int .i64 ((if f=0 then 0 else Gk l (BA (Gk l) f):Nat):Int),.int .i64 (f:Int)]/\Below w.heap.size w w1,λ s _=>match s with
   | [_,_,.int _ i]=>4-i.toNat
   | _=>0,⟨0,Omg,rfl,.refl _ _⟩,?_⟩
 rintro _ _ _ w1 ⟨f,hf,aA,B1⟩;cases aA;refine Aa (λ aB=>?_) (λ aJ=>?_)
 ·refine (Fe (f:Int) (hl.grown B1) hx).mono ?_;rintro _ w2 ⟨_,rfl,h2⟩;obtain⟨a2,c2,rfl,bY⟩:=h2.DN Omg hn;clear h2;have h2:=bY;have C2:=Ac B1 h2.Ar;refine⟨_,_,_,_,rfl,?_⟩;rw [Ae Omg];refine Ap (λ h0=>?_) (λ aQ=>Aa (λ hs=>?_) (λ hs=>?_))
  ·have:f=0:=Omg;subst this;exact⟨⟨1,Omg,by simp [BA],C2⟩,Osi⟩
  ·have fY:f≠0:=Omg;rw [if_neg fY] at hs;refine⟨⟨f+1,Omg,?_,C2⟩,by simp only [Ait];omega⟩;have e:BA (Gk l) (f+1)=f:=by simp only [BA];rw [if_neg fY,if_pos Omg]
   rw [e,if_neg Omg]
  ·have fY:f≠0:=Omg;rw [if_neg fY] at hs;refine⟨⟨f+1,Omg,?_,C2⟩,by simp only [Ait];omega⟩;have e:BA (Gk l) (f+1)=BA (Gk l) f:=by simp only [BA];rw [if_neg fY,if_neg Omg]
   simp [e,fY]
 ·have:f=4:=Omg;subst this;exact⟨rfl,B1⟩
theorem Uk(hl:Rd w a (l.map Ep))(h0:0<l.length)(hn:l.length<=1000000) :
  Cw 274 #[.slice a l.length c] w λ v w'=>w'=w/\v=.int .i64 (Fo l):=by
 apply Io
 delta Ad F I Li MH W X;try dsimp only [Ps]
 obtain⟨p,rfl,aE⟩:=Kx hl h0;refine Aa (λ h=>Omg) (λ _=>⟨⟨Omg,Omg⟩,_,aE,?_⟩);refine⟨λ s w1=>w1=w/\∃ i:Nat,i<=l.length/\s=[.int .i64 (EN l i),.int .i64 (i:Int)],λ s _=>match s with
   | [_,.int _ i]=>l.length-i.toNat
   | _=>0,⟨rfl,1,Omg,by rw [VL h0];rfl⟩,?_⟩
 rintro _ _ w1 ⟨rfl,i,hi,aA⟩;cases aA;refine Aa (λ aB=>⟨⟨Omg,aB⟩,?_⟩) (λ aJ=>⟨rfl,?_⟩)
 ·have aD:i<l.length:=Omg;obtain⟨p',hp',hc⟩:=Df hl aD;cases hp';refine⟨_,by rw [Ait];exact hc,?_⟩;rw [Ae Omg,<- M3 aD];refine⟨⟨rfl,i+1,Omg,rfl⟩,?_⟩;simp only [Ait];omega
 ·have:i=l.length:=Omg;subst this;rfl
theorem Sh(x:Int)(hl:Rd w a (l.map Ep))(hn:l.length<=1000000) :
  Cw 273 #[.slice a l.length c,.int .i64 x] w λ v w'=>w'=w/\∃ i:Int,v=.int .i64 i/\((i = -1/\x∉l)\/∃ k:Nat,i=k/\l[k]?=some x/\∀ j,j<k->l[j]?≠some x):=by
 apply HE
 delta Ad F I Li Qi W X;try dsimp only [Ps]
 refine⟨λ s w1=>w1=w/\∃ i:Nat,i<=l.length/\s=[.int .i64 (i:Int)]/\∀ j,j<i->l[j]?≠some x,λ s _=>match s with
   | [.int _ i]=>l.length-i.toNat
   | _=>0,⟨rfl,0,Omg,rfl,Omg⟩,?_⟩
 rintro _ w1 ⟨rfl,i,hi,aA,aF⟩;cases aA;refine Aa (λ aB=>⟨⟨Omg,aB⟩,?_⟩) (λ aJ=>⟨rfl,_,rfl,.inl ⟨rfl,λ hx=>?_⟩⟩)
 ·have aD:i<l.length:=Omg;obtain⟨p,rfl,hc⟩:=Df hl aD;refine⟨_,by rw [Ait];exact hc,Ap (λ he=>⟨rfl,_,rfl,.inr ⟨i,rfl,?_,aF⟩⟩) (λ aQ=>?_)⟩
  ·rw [Ajk aD,he]
  ·rw [Ae Omg];refine⟨⟨rfl,i+1,Omg,rfl,λ j hj=>?_⟩,?_⟩
   ·rcases Ai6 j i with h | h
    ·exact aF j h
    ·have:j=i:=Omg;subst this;rw [Ajk aD];simpa using λ h=>aQ h.symm
   ·simp only [Ait];omega
 ·obtain⟨k,hk⟩:=List.mem_iff_getElem?.1 hx;have aO:=(Aic.1 hk).1;exact aF k Omg hk
theorem tI:Me Aix 187=some (3,1,8,.int .i64 0):=by kernel_rfl
theorem Yr(s:Nat->Nat){k:Nat}(h1:[(s 0:Int),s 1,s 2,s 3][k]?=some (Fo [(s 0:Int),s 1,s 2,s 3]))(h2:∀ j,j<k->[(s 0:Int),s 1,s 2,s 3][j]?≠some (Fo [(s 0:Int),s 1,s 2,s 3])):k=BA s 4:=by
 have hm:∀ x∈[(s 0:Int),s 1,s 2,s 3],Fo [(s 0:Int),s 1,s 2,s 3]<=x:=λ x hx=>LM hx;obtain⟨m,hmd⟩:∃ m,m=Fo [(s 0:Int),s 1,s 2,s 3]:=⟨_,rfl⟩;rw [<- hmd] at h1 h2 hm;have m0:=hm (s 0) Osi;have m1:=hm (s 1) Osi;have m2:=hm (s 2) Osi;have m3:=hm (s 3) Osi;have hk:k<4:=by
  have:=(Aic.1 h1).1;simpa using this
 obtain⟨q1,q2,q3⟩:=Kc s 4 Omg;have get:∀ j,j<4->[(s 0:Int),s 1,s 2,s 3][j]?=some ((s j:Nat):Int):=by
  intro j hj;rcases (by omega:j=0\/j=1\/j=2\/j=3) with rfl | rfl | rfl | rfl <;> rfl
 have mk:m=s k:=by have:=get k hk;rw [h1] at this;exact Ajx this
 rcases Nat.lt_trichotomy k (BA s 4) with h | h | h
 ·have:=q3 k h;have:m<=s (BA s 4):=by
   rcases (by omega:BA s 4=0\/BA s 4=1\/BA s 4=2\/BA s 4=3) with e | e | e | e <;> rw [e] <;> assumption
  omega
 ·exact h
 ·exfalso;have:=q2 k hk;apply h2 _ h;rw [get _ q1];have:m<=s (BA s 4):=by
   rcases (by omega:BA s 4=0\/BA s 4=1\/BA s 4=2\/BA s 4=3) with e | e | e | e <;> rw [e] <;> assumption
  congr 1;omega
theorem WS(hl:Rd w a (l.map Ep))(hc:l.length<=c)(hn:l.length<=4096)(hx:∀ x∈l,E9 x) :
  Cw 230 #[.slice a l.length c] w λ v w'=>v=.tuple #[.int .i64 (Ta l:Int),.int .i64 0]/\Below w.heap.size w w':=by
 apply RM
 delta AM Ci F H I J Ks N O Eg S W;try dsimp only [Ps]
 let S:Nat->List Int:=λ k=>(List.range k).map λ f=>((Gk l f:Nat):Int);have hS:∀ k,(S k).length=k:=λ k=>by simp [S]
 refine⟨λ s w1=>∃(k:Nat) (a1:Option Addr) (c1:Nat),s=[.slice a1 k c1,.int .i64 (k:Int)]/\k<=4/\Row w1 3 1 a1 k c1 ((S k).map Ep)/\(∀ x,AF a1=some x->w.heap.size<=x)/\Below w.heap.size w w1,λ s _=>match s with
   | [_,.int _ i]=>4-i.toNat
   | _=>0,⟨0,none,0,rfl,Omg,Row.nil _ _ _,by simp [AF],.refl _ _⟩,?_⟩
 rintro a1 k c1 _ w1 ⟨_,_,_,aA,hk,R1,N1,B1⟩;cases aA;refine Aa (λ aB=>?_) (λ aJ=>?_)
 ·refine (Hn (k:Int) (hl.grown B1) hc hx).mono ?_;rintro _ w2 ⟨_,rfl,h2⟩;obtain⟨a2,c2,rfl,bY⟩:=h2.DN Omg hn;clear h2;have h2:=bY;refine⟨_,_,_,_,rfl,Ai (λ h=>absurd rfl h) (λ _=>(SH.start (λ _=>False) w2).An λ b3 w3 dI B3 S3=>?_)⟩;have aY:Rd w3 (some ⟨b3,0,none⟩) [Ep (Gk l k)]:=by
   have:=Rd.Al (S3.get 0 rfl);simpa [Ep] using this
  have C3:=Ac (Ac B1 h2.Ar) B3;obtain⟨a5,c5,w5,aG,aI,cw,hnw⟩:=BV (ty:=187) (mc:=1) tI rfl Omg Omg ((R1.grown h2.Ar).grown B3) aY (m:=1) rfl (by simp [Ep];rfl) Omg;unfold De;rw [aG];refine⟨_,_,_,rfl,?_⟩;rw [Ae Omg];refine⟨⟨k+1,a5,c5,rfl,Omg,?_,λ x hx=>?_,C3.trans (cw.below C3.size λ x hx he=>by have:=N1 x he;omega)⟩,?_⟩
  ·have e:S (k+1)=S k++[((Gk l k:Nat):Int)]:=by simp [S,List.range_succ]
   rw [e,AiK];exact aI
  ·rcases hnw x hx with h | h
   ·exact N1 x h
   ·exact AiI C3.size h
  ·simp only [Ait];omega
 ·have:k=4:=Omg;subst this;have nz:Cw 257 #[.slice a1 4 c1] w1 λ v w'=>w'=w1/\v=.int .i64 (Ta l:Int):=by
   apply KA
   delta Ci I S;try dsimp only [Ps]
   have h4:(4:Nat)=(S 4).length:=(hS 4).symm;rw [h4];refine (Uk R1.rd (by rw [hS];omega) (by rw [hS];omega)).mono ?_;rintro _ w1 ⟨_,rfl,rfl,rfl⟩;refine⟨_,rfl,(Sh _ R1.rd (by rw [hS];omega)).mono ?_⟩;rintro _ w1 ⟨_,rfl,rfl,i,rfl,aH⟩;refine⟨_,rfl,rfl,?_⟩;have yY:S 4=[((Gk l 0:Nat):Int),Gk l 1,Gk l 2,Gk l 3]:=rfl;rcases aH with ⟨_,aP⟩ | ⟨k,rfl,g1,g2⟩
   ·exfalso;apply aP;rcases (Ja ((S 4).take (S 4).length) ((S 4).headD 0)).2.2 with e | e
    ·unfold Fo EN;rw [e,yY];simp
    ·unfold Fo EN;exact Ajs e
   ·rw [yY] at g1 g2;rw [Yr (Gk l) g1 g2];rfl
  refine nz.mono ?_;rintro _ w2 ⟨_,rfl,rfl,rfl⟩;exact⟨_,rfl,rfl,B1⟩
end
theorem ZL(a b:ByteArray):Ex a b=decide (bl a<bl b):=by
 unfold Ex;rw [ByteArray.toList_eq,ByteArray.toList_eq,bytesLess_eq];rfl
section
variable {w:World}{a:Option Addr}{c:Nat}{ls:List ByteArray}
theorem W7(hl:Rd w a (ls.map Value.string))(hn:ls.length<=9223372036854775807):Cw 218 #[.slice a ls.length c] w λ v w'=>w'=w/\v=.bool (decide (ls.length<=4096/\JK ls=false)):=by
 apply O1
 delta Ad F G I Lt Qi W X;try dsimp only [Ps]
 refine⟨λ s w1=>w1=w/\∃ k:Nat,k<=ls.length/\s=[.int .i64 (k:Int)]/\JK (ls.take k)=false,λ s _=>match s with
   | [.int _ i]=>ls.length-i.toNat
   | _=>0,⟨rfl,0,Omg,rfl,rfl⟩,?_⟩
 rintro _ w1 ⟨rfl,k,hk,hs,ff⟩;cases hs;refine Aa (λ aB=>⟨⟨Omg,aB⟩,?_⟩) (λ aJ=>?_)
 ·have aO:k<ls.length:=Omg;obtain⟨p,rfl,hc⟩:=ES hl aO;refine⟨_,by rw [Ait];exact hc,Aa (λ h=>⟨rfl,?_⟩) (λ h=>?_)⟩
  ·have:JK ls=true:=List.any_eq_true.2 ⟨ls[k],Ai7 aO,by simp;omega⟩;rw [this];simp
  ·rw [Ae Omg];refine⟨⟨rfl,k+1,Omg,rfl,?_⟩,?_⟩
   ·unfold JK at ff ⊢;rw [Ajl aO,List.any_append,ff];simp;omega
   ·simp only [Ait];omega
 ·have fA:ls.take k=ls:=AiZ Omg;rw [fA] at ff;refine⟨rfl,?_⟩;rw [ff];congr 1;rw [AiY];simp;omega
end
structure I2(t:List (List UInt8))(x:List UInt8)(lo:Nat):Prop where
 le:lo<=t.length
 below:∀ y∈t.take lo,y<x
 AfW:∀ y∈t.drop lo,¬ y<x
theorem AaF{t:List (List UInt8)}(h:t.Pairwise (·<·)){i j:Nat}(dQ:i<j)(hj:j<t.length):t[i]<t[j]:=List.pairwise_iff_getElem.1 h i j Omg hj dQ
section
variable {w:World}{a:Option Addr}{c:Nat}{t:List (List UInt8)}
theorem Pa(hl:Rd w a ((t.map Bu).map Value.string))(hn:t.length<=140737488355328)(cp:t.Pairwise (·<·))(s:ByteArray) :
  Cw 220 #[.slice a t.length c,.string s] w λ v w'=>∃ lo:Nat,v=.tuple #[.int .i64 (lo:Int),.bool (decide (t[lo]?=some (bl s)))]/\I2 t (bl s) lo/\Below w.heap.size w w':=by
 have ny:(t.map Bu).length=t.length:=Osi;apply O2
 delta Ad D F G H I Lt MH W X;try dsimp only [Ps]
 refine⟨λ st w1=>w1=w/\∃ lo hi:Nat,st=[.int .i64 (lo:Int),.int .i64 (hi:Int)]/\lo<=hi/\hi<=t.length/\(∀ j,(hj:j<t.length)->j<lo->t[j]<bl s)/\(∀ j,(hj:j<t.length)->hi<=j->¬ t[j]<bl s),λ st _=>match st with
   | [.int _ i,.int _ j]=>j.toNat-i.toNat
   | _=>0,⟨rfl,0,t.length,rfl,Omg,Omg,λ j hj h=>Omg,λ j hj h=>Omg⟩,?_⟩
 rintro _ _ w1 ⟨rfl,lo,hi,hs,h1,h2,h3,h4⟩;cases hs;refine Aa (λ aB=>?_) (λ aJ=>?_)
 ·have em:IntKind.i64.wrap (Int.tdiv (IntKind.i64.wrap ((lo:Int)+(hi:Int))) 2)=(((lo+hi) / 2:Nat):Int):=by
   rw [wrap_i64 (n:=(lo:Int)+(hi:Int)) Omg Omg,Int.tdiv_eq_ediv_of_nonneg Omg,wrap_i64 Omg Omg];omega
  rw [em];have jq:(lo+hi) / 2<t.length:=Omg;obtain⟨p,hp,hc⟩:=ES hl (by rw [ny];exact jq);subst hp;rw [Ajq] at hc;refine⟨⟨Omg,Omg⟩,_,by rw [Ait];exact hc,?_⟩;rw [ZL,Bn];refine Aa (λ m6=>?_) (λ aP=>?_)
  ·rw [Ae Omg];refine⟨⟨rfl,(lo+hi) / 2+1,hi,rfl,Omg,h2,λ j hj h=>?_,h4⟩,?_⟩
   ·rcases Ai6 j ((lo+hi) / 2) with hh | hh
    ·exact List.lt_trans (AaF cp hh jq) m6
    ·have:j=(lo+hi) / 2:=Omg;subst this;exact m6
   ·simp only [Ait];omega
  ·refine⟨⟨rfl,lo,(lo+hi) / 2,rfl,Omg,Omg,h3,λ j hj h=>?_⟩,?_⟩
   ·intro ym;rcases Ai6 ((lo+hi) / 2) j with hh | hh
    ·exact aP (List.lt_trans (AaF cp hh hj) ym)
    ·have:j=(lo+hi) / 2:=Omg;subst this;exact aP ym
   ·simp only [Ait];omega
 ·have:lo=hi:=Omg;subst this;have hP:I2 t (bl s) lo:=by
   refine⟨h2,λ y hy=>?_,λ y hy=>?_⟩
   ·obtain⟨j,hj,rfl⟩:=Ajy.1 hy;rw [Ajm] at hj;rw [List.getElem_take];exact h3 j Omg Omg
   ·obtain⟨j,hj,rfl⟩:=Ajy.1 hy;rw [AiT] at hj;rw [List.getElem_drop];exact h4 _ Omg Omg
  have Bd:Below w1.heap.size w1 w1.drew:=(Below.refl _ w1).drew;unfold PF;refine Aa (λ aB=>?_) (λ bz=>?_)
  ·have ff:lo<t.length:=Omg;obtain⟨p,hp,hc⟩:=ES (hl.grown Bd) (by rw [ny];exact ff);subst hp;rw [Ajq] at hc;refine⟨⟨Omg,Omg⟩,_,by rw [Ait];exact hc,lo,?_,hP,Bd⟩;rw [AU,Ajk ff];congr 4;congr 1;rw [AiY];simp only [decide_eq_true_eq,Option.some.injEq];constructor
   ·intro h;rw [<- h,Bn]
   ·intro h;rw [h,DP]
  ·refine⟨lo,?_,hP,Bd⟩;rw [List.getElem?_eq_none Omg];simp
end
theorem I2.mem{t:List (List UInt8)}{x:List UInt8}{lo:Nat}(h:I2 t x lo)(cp:t.Pairwise (·<·)):x∈t↔t[lo]?=some x:=by
 constructor
 ·intro hx;obtain⟨j,hj,rfl⟩:=Ajy.1 hx;have h1:¬ j<lo:=λ aB=>List.lt_irrefl _ (h.below t[j] (List.mem_take_iff_getElem.2 ⟨j,Omg,rfl⟩));have h2:¬ lo<j:=λ aB=>by
   have h3:=AaF cp aB hj;have h4:t[lo]∈t.drop lo:=by rw [List.drop_eq_getElem_cons Omg];exact Ai2 ..
   exact h.AfW _ h4 h3
  have:j=lo:=Omg;subst this;exact Ajk hj
 ·intro hx;exact List.mem_of_getElem? hx
theorem I2.idx{t:List (List UInt8)}{x:List UInt8}{lo:Nat}(h:I2 t x lo)(cp:t.Pairwise (·<·))(hx:x∈t):t.idxOf x=lo:=by
 have h1:=(h.mem cp).1 hx;obtain⟨aB,rfl⟩:=Aic.1 h1;exact (Gf cp).idxOf_getElem lo aB
theorem YL{l t:List (List UInt8)}{x:List UInt8}{lo:Nat}(hr:D6 l t)(h:I2 t x lo)(hx:x∉t):D6 (l++[x]) (t.take lo++(x :: t.drop lo)):=by
 have fM:∀ y∈t.drop lo,x<y:=by
  intro y hy;have h1:=h.AfW y hy;have h2:y≠x:=by rintro rfl;exact hx (List.mem_of_mem_drop hy)
  rcases Decidable.em (x<y) with h3 | h3
  ·exact h3
  ·exact absurd (List.le_antisymm (List.not_lt.1 h3) (List.not_lt.1 h1)) h2
 refine⟨?_,λ y=>?_⟩
 ·have hp:=hr.up;rw [<- List.take_append_drop lo t] at hp;obtain⟨p1,p2,p3⟩:=List.pairwise_append.1 hp;refine List.pairwise_append.2 ⟨p1,List.pairwise_cons.2 ⟨fM,p2⟩,λ y hy z hz=>?_⟩;rcases Aia.1 hz with rfl | hz
  ·exact h.below y hy
  ·exact p3 y hy z hz
 ·have e:y∈t↔y∈t.take lo\/y∈t.drop lo:=by
   conv=>lhs;rw [<- List.take_append_drop lo t]
   exact Ajn
  rw [Ajn,Aia,Ajn,Ajo,<- hr.mem y,e];constructor
  ·rintro (h | h | h)
   ·exact .inl (.inl h)
   ·exact .inr h
   ·exact .inl (.inr h)
  ·rintro ((h | h) | h)
   ·exact .inl h
   ·exact .inr (.inr h)
   ·exact .inr (.inl h)
theorem Aap{l t:List (List UInt8)}{x:List UInt8}(hr:D6 l t)(hx:x∈t):D6 (l++[x]) t:=by
 refine⟨hr.up,λ y=>?_⟩;rw [Ajn,Ajo,<- hr.mem y];exact⟨λ h=>.inl h,λ h=>h.elim id (λ e=>e ▸ hx)⟩
def strs(t:List (List UInt8)):List Value:=(t.map Bu).map Value.string
theorem Za(t:List (List UInt8)):(strs t).length=t.length:=by simp [strs]
theorem Y9(t u:List (List UInt8)):strs (t++u)=strs t++strs u:=by simp [strs]
theorem AeC(t:List (List UInt8)):∀ u∈strs t,u.oneCell'=true:=by
 intro u hu;obtain⟨s,_,rfl⟩:=Ah9.1 hu;rfl
theorem tS:Me Aix 50=some (9,1,16,.string ⟨#[]⟩):=by kernel_rfl
theorem Ek{w:World}{a:Option Addr}{c:Nat}{t u:List (List UInt8)}(hr:Row w 9 1 a t.length c (strs t)){b:Option Addr}{m mc:Nat}(hm:m=u.length)(hb:Rd w b (strs u))(hl:t.length+u.length<=8796093022208){f:Value->World->Prop}
  (hf:∀ a' c' w',Row w' 9 1 a' (t++u).length c' (strs (t++u))->Ak (λ k=>AF a=some k) w w'->(∀ k,AF a'=some k->AF a=some k\/w.heap.size<=k)->f (.slice a' (t++u).length c') w') :
  De Aix (Builtin.append_ #[50,50] 50 #[.slice a t.length c,.slice b m mc]) f w:=by
 subst hm;obtain⟨a',c',w',aG,aI,hk,ax⟩:=BV (ty:=50) (mc:=mc) tS rfl Omg Omg hr hb (m:=u.length) (by rw [Za];simp) (AeC u) Omg;unfold De;rw [aG];have hlen:(t++u).length=t.length+u.length:=Osi;rw [<- Y9,<- hlen] at aI;rw [<- hlen];exact hf a' c' w' aI hk ax
theorem U2{w:World}{a:Option Addr}{c:Nat}{ls:List ByteArray}(hl:Rd w a (ls.map Value.string))(hn:ls.length<=4096) :
  Cw 219 #[.slice a ls.length c] w λ v w'=>∃ a' c' t,v=.slice a' t.length c'/\D6 (ls.map bl) t/\Rd w' a' (strs t)/\Below w.heap.size w w':=by
 apply Nn
 delta Ad Abz D F I J Ks Lt N O Eg Rs S T W X Y;try dsimp only [Ps]
 refine⟨λ s w1=>∃(k:Nat) (oa:Option Addr) (oc:Nat) (t:List (List UInt8)),s=[.slice oa t.length oc,.int .i64 (k:Int)]/\k<=ls.length/\t.length<=oc/\t.length<=4096/\D6 ((ls.take k).map bl) t/\Rd w1 oa (strs t)/\Below w.heap.size w w1,λ s _=>match s with
   | [_,.int _ i]=>ls.length-i.toNat
   | _=>0,⟨0,none,0,[],rfl,Omg,Osi,Osi,⟨List.Pairwise.nil,Osi⟩,Rd.nil _ _,.refl _ _⟩,?_⟩
 rintro oa _ oc _ w1 ⟨k,_,_,t,hs,hk,yu,ht4,hr,kL,B1⟩;cases hs;refine Aa (λ aB=>⟨⟨Omg,aB⟩,?_⟩) (λ aJ=>?_)
 ·have aO:k<ls.length:=Omg;obtain⟨p,hp,hc⟩:=ES (hl.grown B1) aO;subst hp;refine⟨_,by rw [Ait];exact hc,(Pa kL Omg hr.up ls[k]).mono ?_⟩;rintro _ w2 ⟨_,rfl,lo,rfl,hP,B2⟩;have e1:(ls.take (k+1)).map bl=(ls.take k).map bl++[bl ls[k]]:=by rw [Ajl aO,AiK];rfl
  have B2':Below w.heap.size w w2:=B1.trans (B2.mono B1.size);refine⟨_,_,rfl,Aa (λ aK=>?_) (λ aP=>?_)⟩
  ·rw [Ae Omg];refine⟨⟨k+1,oa,oc,t,rfl,Omg,yu,ht4,?_,kL.grown B2,B2'⟩,?_⟩
   ·rw [e1];exact Aap hr ((hP.mem hr.up).2 aK)
   ·simp only [Ait];omega
  ·have hx:bl ls[k]∉t:=λ h=>aP ((hP.mem hr.up).1 h);have lB:=YL hr hP hx;rw [<- e1] at lB;have ff:=hP.le;unfold PF;have B3:Below w2.heap.size w2 w2.drew:=(Below.refl _ w2).drew;have qD:=(kL.grown B2).grown B3;refine⟨⟨Omg,Omg,Omg⟩,?_⟩;have ew:IntKind.i64.wrap ((t.length:Int)+1)=((t.length+1:Nat):Int):=Ae Omg;rw [ew,Ait];refine G7 tS Omg Omg λ bx w4 yb B4 R4=>⟨_,_,_,rfl,?_⟩;have uk:=qD.grown B4;have jy:Rd w4 (Ch oa 0 oc 1) (strs (t.take lo)):=by
    have:=uk.NQ 0 lo oc 1 Omg;simpa [strs,List.map_take] using this
   refine Ek (t:=[]) (u:=t.take lo) (by simpa [strs] using R4) (by rw [Ajm];omega) jy (by simp;omega) λ a5 c5 w5 R5 K5 N5=>⟨_,_,_,rfl,⟨Omg,aB⟩,?_⟩;rw [Ajt] at R5 ⊢;have sz4:=B4.size;have szd:w2.drew.heap.size=w2.heap.size:=rfl;have tK:Below w2.drew.heap.size w2.drew w5:=B4.trans (K5.below B4.size λ k hk he=>by have h':bx=k:=Ajx he;omega);have N5':∀ k,AF a5=some k->w2.heap.size<=k:=λ k hk=>by
    rcases N5 k hk with h | h
    ·have h':bx=k:=Ajx h;omega
    ·omega
   have Bw5:Below w.heap.size w w5:=(B2'.trans (B3.mono B2'.size)).trans (tK.mono B2'.size);obtain⟨p',hp',dV⟩:=ES (hl.grown Bw5) aO;cases hp';refine⟨_,by rw [Ait];exact dV,(SH.start (λ _=>False) w5).An λ dH w6 iL B6 S6=>?_⟩;have eS:Rd w6 (some ⟨dH,0,none⟩) (strs [bl ls[k]]):=by
    have:=Rd.Al (S6.get 0 rfl);simpa [strs,DP] using this
   refine Ek (u:=[bl ls[k]]) (R5.grown B6) rfl eS (by simp;omega) λ a7 c7 w7 R7 K7 N7=>⟨_,_,_,rfl,⟨Omg,Omg,Omg⟩,?_⟩;have zM:=tK.size;have sz6:=B6.size;have tG:Below w2.drew.heap.size w2.drew w7:=(tK.trans (B6.mono zM)).trans (K7.below (AiI zM sz6) λ k hk he=>by have:=N5' k he;omega);have hs3:Rd w7 (Ch oa lo oc 1) (strs (t.drop lo)):=by
    have:=(qD.grown tG).NQ lo t.length oc 1 yu;rw [Aiw,Aiw] at this;have e:((strs t).drop lo).take (t.length-lo)=strs (t.drop lo):=by
     rw [AiZ (by rw [AiT,Za];omega)];simp [strs,AiU]
    rwa [e] at this
   refine Ek (u:=t.drop lo) R7 (by rw [AiT]) hs3 (by simp;omega) λ a8 c8 w8 R8 K8 N8=>⟨_,_,_,rfl,?_⟩;have sz7:=K7.size;have zg:Below w2.drew.heap.size w2.drew w8:=tG.trans (K8.below tG.size λ k hk he=>by
    rcases N7 k he with h | h
    ·have:=N5' k h;omega
    ·omega)
   have et:(t.take lo++[bl ls[k]])++t.drop lo=t.take lo++(bl ls[k] :: t.drop lo):=Osi;rw [et] at R8 ⊢;rw [Ae Omg];refine⟨⟨k+1,a8,c8,_,rfl,Omg,R8.le,?_,lB,R8.rd,(B2'.trans (B3.mono B2'.size)).trans (zg.mono B2'.size)⟩,?_⟩
   ·have:=G8 (Gf lB.up) (λ y hy=>(lB.mem y).1 hy);rw [List.length_map,Ajm] at this;omega
   ·simp only [Ait];omega
 ·have:ls.take k=ls:=AiZ Omg;rw [this] at hr;exact⟨oa,oc,t,rfl,hr,kL,B1⟩
theorem AfJ(ls:List ByteArray):strs (ls.map bl)=ls.map Value.string:=by
 simp only [strs,List.map_map];apply List.map_congr_left;intro s _;simp [DP]
theorem Hp(ls:List ByteArray):(ls.map bl).map Bu=ls:=by
 rw [List.map_map]
 conv=>rhs;rw [<- List.map_id ls]
 apply List.map_congr_left;intro s _;simp [DP]
structure Tx(w:World)(ba ta:Option Addr)(tx:List (List UInt8)):Prop where
 rd:Rd w ta (strs tx)
 ZW:∀ p,ta=some p->AF ba=some p.block->tx=[]
theorem Tx.lt{w:World}{ba ta:Option Addr}{tx:List (List UInt8)}(h:Tx w ba ta tx){p:Addr}(hp:ta=some p)(aQ:tx≠[]):p.block<w.heap.size:=by
 cases tx with
 | nil=>exact absurd rfl aQ
 | cons x r =>
  obtain⟨q,hq,hc⟩:=h.rd 0 (.string (Bu x)) (by simp [strs]);rw [hp] at hq;cases hq;have:=World.block_lt_of_cell? _ _ hc;rwa [Dv] at this
theorem Tx.grown{w w':World}{ba ta:Option Addr}{tx:List (List UInt8)}(h:Tx w ba ta tx)(hb:Below w.heap.size w w'):Tx w' ba ta tx:=⟨h.rd.grown hb,h.ZW⟩
theorem Tx.Bs{w w':World}{ba jE ta:Option Addr}{tx:List (List UInt8)}(h:Tx w ba ta tx)(K:Ak (λ k=>AF ba=some k) w w')(N:∀ k,AF jE=some k->AF ba=some k\/w.heap.size<=k):Tx w' jE ta tx:=by
 by_cases aQ:tx=[]
 ·subst aQ;exact⟨Rd.nil _ _,λ _ _ _=>rfl⟩
 ·refine⟨h.rd.keeps K λ p hp hF=>aQ (h.ZW p hp hF),λ p hp hb=>?_⟩;rcases N _ hb with h1 | h1
  ·exact h.ZW p hp h1
  ·have:=h.lt hp aQ;omega
theorem Tx.fresh{w w':World}{ba ta:Option Addr}{tx:List (List UInt8)}(hr:Rd w ta (strs tx))(hb:Below w.heap.size w w')(hn:∀ k,AF ba=some k->w.heap.size<=k):Tx w' ba ta tx:=by
 by_cases aQ:tx=[]
 ·subst aQ;exact⟨Rd.nil _ _,λ _ _ _=>rfl⟩
 ·refine⟨hr.grown hb,λ p hp hk=>?_⟩;have h1:=hn _ hk;have h2:=(Tx.lt (ba:=none) ⟨hr,by simp [AF]⟩ hp aQ:p.block<w.heap.size);omega
section
variable {w:World}{a:Option Addr}{c:Nat}{ls:List ByteArray}
theorem F8(form:Int)(hl:Rd w a (ls.map Value.string))(hn:ls.length<=9223372036854775807):Cw 183 #[.int .i64 form,.slice a ls.length c] w λ v w'=>Ac3 form ls w w' v:=by
 apply Nk
 delta Ad B Abz AM Cb Ci Cs F H I J Ks Lt N O Eg S T U W Wb Wu X Zss;try dsimp only [Ps]
 refine (W7 hl hn).mono ?_;rintro _ w ⟨_,rfl,rfl,rfl⟩;have bad:¬ EM form ls->Ac3 form ls w w (.tuple #[.slice none 0 0,.int .i64 2]):=λ h=>.inl ⟨h,rfl,.refl _ _⟩;refine⟨_,rfl,Aa (λ h=>bad λ hk=>by have:=hk.1;omega) (λ h1=>Aa (λ h=>bad λ hk=>by have:=hk.2.1;omega) (λ h2=>As (Aa (λ hR=>?_) (λ h=>bad λ hk=>h hk.2.2))))⟩;obtain⟨iv,cj⟩:=hR;have aK:EM form ls:=⟨Omg,Omg,iv,cj⟩;have hz:=Ge cj;rw [AG Omg Omg];refine (SH.start (λ _=>False) w).An λ b5 w2 gB B2 S2=>?_;have kP:Value.int .u8 form=Ag (Aiz form.toNat):=by
  rcases (by omega:form=0\/form=1) with rfl | rfl <;> rfl
 have kj:Bj w w2 [Aiz form.toNat] (some ⟨b5,0,none⟩) 1:=by
  refine⟨⟨rfl,.inr ⟨b5,_,rfl,S2.get 0 rfl,Osi,Omg,rfl,?_⟩⟩,λ k hk=>?_,B2⟩
  ·simp [kP]
  ·cases hk;exact gB
 refine⟨λ st w5=>∃(hd:List UInt8) (ba:Option Addr) (bc:Nat) (tx:List (List UInt8)) (ta:Option Addr) (tc:Nat),st=[.slice ba hd.length bc,.slice ta tx.length tc]/\Bj w w5 hd ba bc/\Tx w5 ba ta tx/\hd.length<=11/\tx.length<=4096/\(∀ s∈tx.map Bu,s.size<=1024) /\
   ((form=0/\hd=[0]/\tx=ls.map bl)\/(form=1/\D6 (ls.map bl) tx/\hd=1 :: Af tx.length)),?_,?_⟩
 ·refine Ap (λ hf=>?_) (λ hf=>?_)
  ·subst hf;refine (U2 (hl.grown B2) iv).mono ?_;rintro _ w3 ⟨_,rfl,ta,tc,t,rfl,hr,kL,B3⟩;have fD:t.length<=ls.length:=by
    have:=G8 (Gf hr.up) (λ x hx=>(hr.mem x).1 hx);simpa using this
   have yW:=kj.grown B3;refine⟨_,_,_,rfl,?_⟩;rw [Aj Omg Omg];refine (Bf (c:=1) [1] yW.rd t.length Omg Osi).mono ?_;rintro _ w4 ⟨_,rfl,a4,c4,rfl,h4⟩;refine⟨_,_,_,rfl,[1]++Af t.length,a4,c4,t,ta,tc,rfl,h4.before yW.Ar,.fresh kL h4.Ar h4.new,?_,Omg,?_,.inr ⟨rfl,hr,rfl⟩⟩
   ·have:=Ah (n:=t.length) Omg;simp;omega
   ·intro s hs;obtain⟨x,hx,rfl⟩:=Ah9.1 hs;obtain⟨s',bR,rfl⟩:=Ah9.1 ((hr.mem x).1 hx);rw [DP];exact hz s' bR
  ·have fY:form=0:=Omg;subst fY;refine⟨[0],some ⟨b5,0,none⟩,1,ls.map bl,a,c,Osi,kj,.fresh (by rw [AfJ];exact hl) B2 (λ k hk=>by cases hk;exact gB),Osi,by simpa using iv,by rw [Hp];exact hz,.inl ⟨rfl,rfl,rfl⟩⟩
 rintro ba _ bc ta _ tc w5 ⟨hd,_,_,tx,_,_,aA,h5,T5,yj,htx,k8,aH⟩;cases aA;have l2:=FX k8;have ny:(tx.map Bu).length=tx.length:=Osi;refine⟨λ s w6=>∃(i:Nat) (l:List UInt8) (jE:Option Addr) (mZ:Nat),s=[.slice jE l.length mZ,.int .i64 (i:Int)]/\i<=tx.length/\l=hd++BU ((tx.map Bu).take i)/\Bj w w6 l jE mZ/\Tx w6 jE ta tx,λ s _=>match s with
   | [_,.int _ i]=>tx.length-i.toNat
   | _=>0,⟨0,hd,_,_,rfl,Omg,by simp [BU],h5,T5⟩,?_⟩
 rintro jE _ mZ _ w6 ⟨i,l,_,_,hs,hi,jk,h6,T6⟩;cases hs;have fe:l.length<=11+4096*1034:=by
  have h1:(BU ((tx.map Bu).take i)).length<=((tx.map Bu).take i).length*1034:=FX λ s hs=>k8 s (Ajs hs);have h2:((tx.map Bu).take i).length<=4096:=by rw [Ajm];omega
  rw [jk,Aiq];omega
 refine Aa (λ aB=>⟨⟨Omg,aB⟩,?_⟩) (λ aJ=>?_)
 ·have aD:i<(tx.map Bu).length:=Omg;obtain⟨p,hp,hc⟩:=ES (ls:=tx.map Bu) T6.rd aD;have ao:=k8 _ (Ai7 aD);subst hp;refine⟨_,by rw [Ait];exact hc,(Gg (c:=0) [] (Rd.nil _ _) (tx.map Bu)[i] Omg (by rw [List.length_nil];omega)).mono ?_⟩;rintro _ w7 ⟨_,rfl,a7,c7,rfl,h7⟩;rw [Ajt] at h7 ⊢;have fD:=QW ao;refine⟨_,_,_,_,rfl,A0 (h6.grown h7.Ar).row h7.rd Omg λ a8 c8 w8 R8 K8 N8=>⟨_,_,_,rfl,?_⟩⟩;rw [Ae Omg];refine⟨⟨i+1,_,a8,c8,rfl,Omg,?_,h6.Bs h7.Ar R8 K8 N8,(T6.grown h7.Ar).Bs K8 N8⟩,?_⟩
  ·rw [TO aD,jk,List.append_assoc]
  ·simp only [Ait];omega
 have bK:i=tx.length:=Omg;rw [bK,<- ny,Ajp] at jk;refine Ap (λ hf=>?_) (λ hf=>?_)
 ·rcases aH with ⟨_,e1,e2⟩ | ⟨e1,_⟩
  ·subst hf;have el:l=0 :: BU ls:=by rw [jk,e1,e2,Hp];rfl
   subst el;exact .inr ⟨aK,_,jE,mZ,.plain,rfl,h6⟩
  ·omega
 obtain⟨gv,hr,hhd2⟩:form=1/\D6 (ls.map bl) tx/\hd=1 :: Af tx.length:=by
  rcases aH with ⟨e1,_⟩ | h
  ·exact absurd e1 hf
  ·exact h
 subst gv;refine⟨λ s w9=>∃(kk:Nat) (pa:Option Addr) (pc:Nat),s=[.slice pa kk pc,.int .i64 (kk:Int)]/\kk<=ls.length/\Row w9 92 1 pa kk pc ((A4 tx (ls.take kk)).map EI)/\(∀ k,AF pa=some k->w6.heap.size<=k)/\Below w6.heap.size w6 w9,λ s _=>match s with
   | [_,.int _ i]=>ls.length-i.toNat
   | _=>0,⟨0,none,0,rfl,Omg,Row.nil _ _ _,by simp [AF],.refl _ _⟩,?_⟩
 rintro pa kk pc _ w9 ⟨_,_,_,hs,aO,uj,r7,B9⟩;cases hs;have Bw9:Below w.heap.size w w9:=h6.Ar.trans (B9.mono h6.Ar.size);refine Aa (λ aB=>⟨⟨Omg,aB⟩,?_⟩) (λ bz=>?_)
 ·have dj:kk<ls.length:=Omg;obtain⟨p,hp,hc⟩:=ES (hl.grown Bw9) dj;subst hp;refine⟨_,by rw [Ait];exact hc,(Pa (T6.rd.grown B9) Omg hr.up ls[kk]).mono ?_⟩;rintro _ bX ⟨_,rfl,lo,rfl,hP,bu⟩;have cG:bl ls[kk]∈tx:=(hr.mem _).2 (Ah9.2 ⟨_,Ai7 dj,rfl⟩);have ff:=hP.idx hr.up cG;have hle:=hP.le;refine⟨_,_,rfl,(SH.start (λ _=>False) bX).An λ b31 aZ hb31 cH bG=>?_⟩;rw [Aj Omg Omg] at bG;have aY:Rd aZ (some ⟨b31,0,none⟩) [EI (tx.idxOf (bl ls[kk]))]:=by
   have:=Rd.Al (bG.get 0 rfl);rw [ff];simpa [EI] using this
  obtain⟨a5,c5,bL,aG,aI,cw,hnw⟩:=BV (ty:=205) (mc:=1) tU rfl Omg Omg ((uj.grown bu).grown cH) aY (m:=1) rfl (by simp [EI];rfl) Omg;unfold De;rw [aG];refine⟨_,_,_,rfl,?_⟩;have B11':Below w6.heap.size w6 aZ:=(B9.trans (bu.mono B9.size)).trans (cH.mono (AiI B9.size bu.size));rw [Ae Omg];refine⟨⟨kk+1,a5,c5,rfl,Omg,?_,λ k hk=>?_,B11'.trans (cw.below B11'.size λ k hk he=>by have:=r7 k he;omega)⟩,?_⟩
  ·have:A4 tx (ls.take (kk+1))=A4 tx (ls.take kk)++[tx.idxOf (bl ls[kk])]:=by
    unfold A4;rw [Ajl dj,AiK];rfl
   rw [this,AiK];exact aI
  ·rcases hnw k hk with h | h
   ·exact r7 k h
   ·exact AiI B11'.size h
  ·simp only [Ait];omega
 have ji:kk=ls.length:=Omg;subst ji;rw [Ajp] at uj;have bM:(A4 tx ls).length=ls.length:=by simp [A4]
 have oE:∀ x∈A4 tx ls,x<4097:=by
  intro x hx;obtain⟨s,hs,rfl⟩:=Ah9.1 hx;have:=List.idxOf_le_length (l:=tx) (a:=bl s);omega
 have qF:=uj.rd;rw [<- bM];refine (O9 qF Omg (λ x hx=>by have:=oE x hx;omega)).mono ?_;rintro _ al ⟨_,rfl,wd,rfl,iZ,bT,rfl⟩;refine⟨_,rfl,(HY qF Omg bT ((Hr _ _).1 iZ.1)).mono ?_⟩;rintro _ au ⟨_,rfl,pV,tz,rfl,gh⟩;have l3:=BP (A4 tx ls) wd;have l4:Dl (A4 tx ls).length wd<=4096*64+7:=by
  unfold Dl;have:(A4 tx ls).length*wd<=4096*64:=Ajf Omg bT;omega
 refine⟨_,_,_,_,rfl,(SH.start (λ _=>False) au).An λ tj ah nL eB mS=>?_⟩;rw [AG Omg Omg] at mS;have B6:Below w6.heap.size w6 ah:=(B9.trans (gh.Ar.mono B9.size)).trans (eB.mono (AiI B9.size gh.Ar.size));have fJ:=h6.grown B6;refine CH fJ.row Omg (x:=Aiz wd) (Ck Omg) (mS.get 0 rfl) λ kb kf cd mR kF mQ=>⟨_,_,_,rfl,?_⟩;have gi:=h6.Bs B6 mR kF mQ;have oF:Rd cd pV ((AZ (A4 tx ls) wd).map Ag):=(gh.rd.grown eB).keeps kF λ p hp hF=>by
  have e1:=gh.new p.block (by rw [hp];rfl);have e2:=h6.row.lt hF;have:=B9.size;omega
 refine A0 gi.row oF (by simp;omega) λ tb u0 cF tT tD tN=>⟨_,_,_,rfl,.inr ⟨aK,_,tb,u0,.table tx wd hr iZ,?_,?_⟩⟩
 ·rw [jk,hhd2];simp
 ·have fQ:=gi.Bs (.refl _ _) tT tD tN;have el:(l++[Aiz wd])++AZ (A4 tx ls) wd=(1 :: Af tx.length)++(BU (tx.map Bu)++(Aiz wd :: AZ (A4 tx ls) wd)):=by
   rw [jk,hhd2];simp
  rw [el] at fQ;exact fQ
end
theorem IA{f:Int}{ls:List ByteArray}{w w':World}{r:Value}(h:Ac3 f ls w w' r):∃(bs:List UInt8) (a:Option Addr) (c:Nat) (e:Int),r=.tuple #[.slice a bs.length c,.int .i64 e]/\Rd w' a (bs.map Ag)/\Below w.heap.size w w'/\((EM f ls/\FK ls f bs/\e=0)\/(¬ EM f ls/\bs=[]/\e=2)):=by
 rcases h with ⟨h1,rfl,hb⟩ | ⟨h1,b,a,c,h2,rfl,h3⟩
 ·exact⟨[],none,0,2,rfl,Rd.nil _ _,hb,.inr ⟨h1,rfl,rfl⟩⟩
 ·exact⟨b,a,c,0,rfl,h3.rd,h3.Ar,.inl ⟨h1,h2,rfl⟩⟩
theorem Ahj(ls:List ByteArray):EM 0 ls↔EM 1 ls:=by simp [EM]
def AfS(ls:List ByteArray)(r:Value):Prop :=
 (¬ EM 0 ls/\r=.tuple #[.int .i64 0,.int .i64 2])\/(∃ b0 b1,FK ls 0 b0/\FK ls 1 b1/\EM 0 ls/\r=.tuple #[.int .i64 (if b1.length<b0.length then 1 else 0),.int .i64 0])
section
variable {w:World}{a:Option Addr}{c:Nat}{ls:List ByteArray}
theorem WE(hl:Rd w a (ls.map Value.string))(hn:ls.length<=9223372036854775807):Cw 228 #[.slice a ls.length c] w λ v w'=>AfS ls v/\Below w.heap.size w w':=by
 apply RF
 delta AM F H I S;try dsimp only [Ps]
 refine (Fs 0 hl hn).mono ?_;rintro _ w1 ⟨_,rfl,h1⟩;obtain⟨b0,a0,c0,e0,rfl,_,B1,q0⟩:=IA h1;refine⟨_,_,_,_,rfl,(Fs 1 (hl.grown B1) hn).mono ?_⟩;rintro _ w2 ⟨_,rfl,h2⟩;obtain⟨b1,a1,c1,e1,rfl,_,B2,q1⟩:=IA h2;have B:=Ac B1 B2;refine⟨_,_,_,_,rfl,?_⟩;rcases q0 with ⟨k0,i0,rfl⟩ | ⟨k0,rfl,rfl⟩
 ·rcases q1 with ⟨k1,i1,rfl⟩ | ⟨k1,_⟩
  ·refine Ai (λ h=>absurd rfl h) (λ _=>Aa (λ h=>⟨.inr ⟨b0,b1,i0,i1,k0,?_⟩,B⟩) (λ h=>⟨.inr ⟨b0,b1,i0,i1,k0,?_⟩,B⟩))
   ·rw [if_neg Omg]
   ·rw [if_pos Omg]
  ·exact absurd ((Ahj ls).1 k0) k1
 ·exact Ai (λ _=>⟨.inl ⟨k0,rfl⟩,B⟩) (λ h=>absurd h Ode)
theorem YI(hl:Rd w a (ls.map Value.string))(hn:ls.length<=9223372036854775807):Cw 182 #[.slice a ls.length c] w λ v w'=>AfS ls v/\Below w.heap.size w w':=by
 apply QG
 delta AM F H I S;try dsimp only [Ps]
 refine (F8 0 hl hn).mono ?_;rintro _ w1 ⟨_,rfl,h1⟩;obtain⟨b0,a0,c0,e0,rfl,_,B1,q0⟩:=IA h1;refine⟨_,_,_,_,rfl,(F8 1 (hl.grown B1) hn).mono ?_⟩;rintro _ w2 ⟨_,rfl,h2⟩;obtain⟨b1,a1,c1,e1,rfl,_,B2,q1⟩:=IA h2;have B:=Ac B1 B2;refine⟨_,_,_,_,rfl,?_⟩;rcases q0 with ⟨k0,i0,rfl⟩ | ⟨k0,rfl,rfl⟩
 ·rcases q1 with ⟨k1,i1,rfl⟩ | ⟨k1,_⟩
  ·refine Ai (λ h=>absurd rfl h) (λ _=>Aa (λ h=>⟨.inr ⟨b0,b1,i0,i1,k0,?_⟩,B⟩) (λ h=>⟨.inr ⟨b0,b1,i0,i1,k0,?_⟩,B⟩))
   ·rw [if_pos Omg]
   ·rw [if_neg Omg]
  ·exact absurd ((Ahj ls).1 k0) k1
 ·exact Ai (λ _=>⟨.inl ⟨k0,rfl⟩,B⟩) (λ h=>absurd h Ode)
end
end Go.Proofs.YtpnaifmmggnimaaGreatDoor
namespace Go.Dn
open _root_.BitVec renaming ofInt -> AhZ
set_option linter.unusedVariables false
set_option maxRecDepth 100000
def Ol(r:BitVec 32):BitVec 32:=(r >>> 1) ^^^ (2197175160#32 &&& -(r &&& 1#32))
def En:Nat->BitVec 32->BitVec 32
 | 0,r=>r
 | n+1,r=>En n (Ol r)
def ML(c:UInt8):BitVec 32:=BitVec.ofNat 32 c.toNat
def AaV(r:BitVec 32)(c:UInt8):BitVec 32:=En 8 (r ^^^ ML c)
def CP(r:BitVec 32)(l:List UInt8):BitVec 32:=l.foldl AaV r
def crc(l:List UInt8):BitVec 32:=4294967295#32 ^^^ CP 4294967295#32 l
theorem H8:∀(n:Nat) (r:BitVec 32),En (n+1) r=Ol (En n r)
 | 0,_=>rfl
 | n+1,r=>by rw [En,H8 n,En]
theorem Yx(b:Bool):(-(if b then 1#32 else 0#32))=if b then 4294967295#32 else 0#32:=by cases b <;> decide
theorem and_one(r:BitVec 32):r &&& 1#32=if r.getLsbD 0 then 1#32 else 0#32:=by
 apply BitVec.eq_of_getLsbD_eq;intro i hi;by_cases h0:i=0
 ·subst h0;cases h:r.getLsbD 0
  ·simpa using h
  ·simpa using h
 ·cases h:r.getLsbD 0 <;> simp [h0]
theorem Tl(r:BitVec 32):Ol r=(r >>> 1) ^^^ (if r.getLsbD 0 then 2197175160#32 else 0#32):=by
 unfold Ol;rw [and_one,Yx];cases r.getLsbD 0 <;> simp <;> rfl
theorem Ki(r:BitVec 32)(l m:List UInt8):CP r (l++m)=CP (CP r l) m:=by simp [CP]
theorem AcQ(r:BitVec 32):(IntKind.u32.wrap (((AhZ 32 (Int.fdiv (r.toNat:Int) (2 ^ (min 1 32))) ^^^ AhZ 32 (IntKind.u32.wrap (((AhZ 32 2197175160 &&& AhZ 32 (IntKind.u32.wrap (0-(IntKind.u32.wrap (((AhZ 32 (r.toNat:Int) &&& AhZ 32 1).toNat:Int)))))).toNat:Int)))).toNat:Int)))=((Ol r).toNat:Int):=by
 have h1:min 1 32=1:=Ode;rw [h1,I7,Bp,Bk,Cn,Bk,Cn,Aag,Cn,Bk,Bk];rfl
end Go.Dn
namespace Go.Dn
def AaD(x:BitVec 32):UInt8:=UInt8.ofNat x.toNat
def Uo(x:BitVec 32):List UInt8:=[AaD x,AaD (x >>> 8),AaD (x >>> 16),AaD (x >>> 24)]
theorem Zo(x:BitVec 32):IntKind.u8.wrap (x.toNat:Int)=((AaD x).toNat:Int):=by
 rw [wrap_u8];simp [AaD]
theorem NM(x:BitVec 32)(k:Nat):IntKind.u8.wrap (Int.fdiv (x.toNat:Int) (2 ^ (min k 32)))=((AaD (x >>> (min k 32))).toNat:Int):=by
 rw [I7,Zo]
end Go.Dn
namespace Go.Proofs.YtpnaifmmggnimaaGreatDoor
open R
open _root_.Int renaming toNat_natCast -> Ait
open _root_.Nat renaming zero_le -> Ajz
set_option maxRecDepth 100000
open Go.Dn Go.Proofs
set_option linter.unusedVariables false
theorem Oj(ps:List DH)(k:Nat)(hk:k<ps.length)(r:BitVec 32) :
  CP r ((ps.take (k+1)).flatMap (·.2.2))=CP (CP r ((ps.take k).flatMap (·.2.2))) ps[k].2.2:=by
 rw [List.take_succ_eq_append_getElem hk,List.flatMap_append,Ki];simp
theorem HT(l:List UInt8)(k:Nat)(hk:k<l.length)(r:BitVec 32):CP r (l.take (k+1))=AaV (CP r (l.take k)) l[k]:=by
 rw [List.take_succ_eq_append_getElem hk,Ki];rfl
theorem Zw{w:World}{a:Option Addr}{c:Nat}(ps:List DH)(hp:Rd w a (ps.map BZ))(hb:∀ p∈ps,Rd w p.1 (p.2.2.map Ag))(hn:ps.length<9223372036854775807)(hl:∀ p∈ps,p.2.2.length<9223372036854775807) :
  Cw 193 #[.slice a ps.length c] w λ v w'=>v=.int .u32 ((crc (ps.flatMap (·.2.2))).toNat:Int)/\w'=w:=by
 apply Uu
 delta Ad F I Ls Ly Qvi V W Wv X;try dsimp only [Ps]
 refine⟨λ s w1=>match s with
   | [.int _ r,.int _ i]=>w1=w/\∃ k:Nat,i=k/\k<=ps.length/\r=((CP 4294967295#32 ((ps.take k).flatMap (·.2.2))).toNat:Int)
   | _=>False,
  λ s _=>match s with
   | [_,.int _ i]=>ps.length-i.toNat
   | _=>0,⟨rfl,0,rfl,Ajz _,by simp [CP]⟩,?_⟩
 rintro r i w1 ⟨rfl,k,rfl,hk,rfl⟩;refine Aa (λ aB=>?_) (λ aJ=>?_)
 ·have aO:k<ps.length:=Omg;refine⟨⟨Omg,Omg⟩,?_⟩;obtain⟨p,rfl,hc⟩:=hp k (BZ ps[k]) (by simp [aO]);have aV:ps[k]∈ps:=List.getElem_mem aO;have vD:=hb _ aV;have yo:=hl _ aV;have gz:=Oj ps k aO 4294967295#32;generalize hR:CP 4294967295#32 ((ps.take k).flatMap (·.2.2))=R at gz ⊢;generalize hq:ps[k]=q at vD yo gz hc;obtain⟨qa,qc,l⟩:=q;simp only at vD yo gz;refine⟨qa,l.length,qc,by simpa [BZ] using hc,?_⟩;refine⟨λ s w2=>match s with
    | [.int _ r,.int _ i]=>w2=w1/\∃ j:Nat,i=j/\j<=l.length/\r=((CP R (l.take j)).toNat:Int)
    | _=>False,
   λ s _=>match s with
    | [_,.int _ i]=>l.length-i.toNat
    | _=>0,⟨rfl,0,rfl,Ajz _,by simp [CP]⟩,?_⟩
  rintro r i w2 ⟨rfl,j,rfl,hj,rfl⟩;refine Aa (λ av=>?_) (λ bz=>?_)
  ·have f':j<l.length:=Omg;refine⟨⟨Omg,Omg⟩,?_⟩;obtain⟨p2,rfl,cI⟩:=vD j (Ag l[j]) (by simp [f']);have rF:=HT l j f' R;generalize hR2:CP R (l.take j)=R2 at rF ⊢;refine⟨(l[j].toNat:Int),by simpa [Ag] using cI,?_⟩;have h0:(IntKind.u32.wrap (((BitVec.ofInt 32 (R2.toNat:Int) ^^^ BitVec.ofInt 32 (IntKind.u32.wrap ((l[j].toNat:Int)))).toNat:Int)))=((R2 ^^^ ML l[j]).toNat:Int):=by
    rw [Cn,Bk,Bp,BitVec.ofInt_natCast];rfl
   rw [h0];refine⟨λ s w3=>match s with
     | [.int _ r,.int _ i]=>w3=w2/\∃ m:Nat,i=m/\m<=8/\r=((En m (R2 ^^^ ML l[j])).toNat:Int)
     | _=>False,
    λ s _=>match s with
     | [_,.int _ i]=>8-i.toNat
     | _=>0,⟨rfl,0,rfl,Ajz _,by simp [En]⟩,?_⟩
   rintro r i w3 ⟨rfl,m,rfl,hm,rfl⟩;refine Aa (λ qu=>?_) (λ ng=>?_)
   ·rw [AcQ,Ae Omg];refine⟨⟨rfl,m+1,rfl,Omg,by rw [H8]⟩,?_⟩;simp only [Ait];omega
   ·have:m=8:=Omg;subst this;rw [Ae Omg];refine⟨⟨rfl,j+1,rfl,Omg,by rw [rF];rfl⟩,?_⟩;simp only [Ait];omega
  ·have:j=l.length:=Omg;subst this;rw [Ae Omg];refine⟨⟨rfl,k+1,rfl,Omg,by rw [gz,List.take_length]⟩,?_⟩;simp only [Ait];omega
 ·have:k=ps.length:=Omg;subst this;refine⟨?_,rfl⟩;rw [List.take_length,Bk,Bp];rfl
end Go.Proofs.YtpnaifmmggnimaaGreatDoor
namespace Go.Proofs.YtpnaifmmggnimaaGreatDoor
open R
open _root_.Int renaming toNat_natCast -> Ait
open _root_.List renaming flatMap_cons -> AjA, take_of_length_le -> AiZ, take_succ_eq_append_getElem -> Ajl
set_option maxRecDepth 100000
open Go.Dn Go.Proofs
open Go.RowKit (Below)
set_option linter.unusedVariables false
abbrev AR(ls:List AD):List Value:=ls.flatMap HG
theorem HH:∀(ls:List AD) (i j:Nat) (hi:i<ls.length),j<3->(AR ls)[i*3+j]?=(HG ls[i])[j]?
 | [],i,j,hi,_=>by simp at hi
 | v :: ls,0,j,_,hj=>by
  simp only [AR,AjA,Nat.zero_mul,Nat.zero_add,List.getElem_cons_zero];rw [List.getElem?_append_left (by simpa [HG] using hj)]
 | v :: ls,i+1,j,hi,hj=>by
  simp only [AR,AjA,List.getElem_cons_succ];rw [List.getElem?_append_right (by simp [HG];omega)];have e:(i+1)*3+j-(HG v).length=i*3+j:=by simp [HG];omega
  rw [e];exact HH ls i j (by simpa using hi) hj
theorem IX(ls:List AD):(AR ls).length=ls.length*3:=by
 induction ls with
 | nil=>rfl
 | cons v ls ih=>simp only [AR,AjA,List.length_append,List.length_cons] at ih ⊢;rw [ih];simp [HG];omega
section
variable {w:World}{a:Option Addr}{c:Nat}{ls:List AD}
theorem Db(hl:Rd w a (AR ls)){i:Nat}(hi:i<ls.length):∃ p,a=some p/\w.cell? (p.add (i*3))=some (.int .i64 ls[i].1)/\w.cell? ((p.add (i*3)).add 1)=some (.int .i64 ls[i].2.1)/\w.cell? ((p.add (i*3)).add 2)=some (.string ls[i].2.2):=by
 obtain⟨p,hp,h0⟩:=hl (i*3+0) _ (by rw [HH ls i 0 hi Omg];rfl);obtain⟨p1,hp1,h1⟩:=hl (i*3+1) _ (by rw [HH ls i 1 hi Omg];rfl);obtain⟨p2,iD,h2⟩:=hl (i*3+2) _ (by rw [HH ls i 2 hi Omg];rfl);subst hp;cases hp1;cases iD;exact⟨p,rfl,h0,by rw [BJ];exact h1,by rw [BJ];exact h2⟩
def okV(kind:Int)(v:AD):Bool:=AK v && (decide (v.1=kind) || decide (v.1=0))
def DF(kind:Int)(ls:List AD):Bool:=ls.all (okV kind) && decide (1<=kind/\kind<=3/\ls.length<=1024)
theorem XE{p:AD->Bool}{i:Nat}(hi:i<ls.length)(h:(ls.take i).all p=true)(hp:p ls[i]=true):(ls.take (i+1)).all p=true:=by
 rw [Ajl hi,List.all_append,h];simp [hp]
theorem Uc{kind:Int}{i:Nat}(hi:i<ls.length)(hp:okV kind ls[i]=false):DF kind ls=false:=by
 have:ls.all (okV kind)=false:=by
  rw [List.all_eq_false];exact⟨_,List.getElem_mem hi,by simp [hp]⟩
 simp [DF,this]
theorem VX{kind:Int}(aF:ls.all (okV kind)=true){w':World}(hb:Below w.heap.size w w'){k:Value->World->Prop}(hk:∀ v w',v=Value.bool (DF kind ls)->Below w.heap.size w w'->k v w') :
  ZB (decide (kind>=1)) (ZB (decide (kind<=3)) (k (Value.bool (decide ((ls.length:Int)<=1024))) w') (k (Value.bool false) w')) (k (Value.bool false) w'):=by
 have e:DF kind ls=decide (1<=kind/\kind<=3/\ls.length<=1024):=by simp [DF,aF]
 refine Aa (λ h1=>Aa (λ h2=>hk _ _ ?_ hb) (λ h2=>hk _ _ ?_ hb)) (λ h1=>hk _ _ ?_ hb)
 ·rw [e];congr 1;rw [decide_eq_decide];omega
 ·rw [e];congr 1;rw [eq_comm,decide_eq_false_iff_not];omega
 ·rw [e];congr 1;rw [eq_comm,decide_eq_false_iff_not];omega
theorem Tf(kind:Int)(hl:Rd w a (AR ls))(hn:ls.length<=9223372036854775807) :
  Cw 190 #[.int .i64 kind,.slice a ls.length c] w λ v w'=>v=.bool (DF kind ls)/\Below w.heap.size w w':=by
 apply Og
 delta A Ab Cb E F G I Li Lt N Qi Am T W X;try dsimp only [Ps]
 refine⟨λ s w1=>∃ i:Nat,i<=ls.length/\s=[.int .i64 (i:Int)]/\Below w.heap.size w w1/\(ls.take i).all (okV kind)=true,λ s _=>match s with
   | [.int _ i]=>ls.length-i.toNat
   | _=>0,⟨0,Omg,rfl,.refl _ _,rfl⟩,?_⟩
 rintro _ w1 ⟨i,hi,aA,B1,aF⟩;cases aA;refine Aa (λ aB=>⟨⟨Omg,aB⟩,?_⟩) (λ aJ=>?_)
 ·have aD:i<ls.length:=Omg;obtain⟨p,rfl,h0,h1,h2⟩:=Db (hl.grown B1) aD;refine⟨_,by rw [Ait];exact h0,_,by rw [Ait];exact h1,_,by rw [Ait];exact h2,(SH.start (λ _=>False) w1).Ic λ b9 w5 sL B5 S5=>?_⟩;refine⟨_,S5.cell 0 rfl rfl,_,S5.cell 0 rfl rfl,_,S5.cell 0 rfl rfl,(Ev w5 ls[i]).mono ?_⟩;rintro _ w6 ⟨_,rfl,rfl,B6⟩;have S6:=S5.grown B6;have C6:=Ac (Ac B1 B5) B6;have bad:okV kind ls[i]=false->(Value.bool false=.bool (DF kind ls))/\Below w.heap.size w w6:=λ h=>⟨by rw [Uc aD h],C6⟩;have step:okV kind ls[i]=true->(∃ j:Nat,j<=ls.length/\[Value.int .i64 (IntKind.i64.wrap ((i:Int)+1))]=[.int .i64 (j:Int)]/\Below w.heap.size w w6/\(ls.take j).all (okV kind)=true)/\ls.length-(IntKind.i64.wrap ((i:Int)+1)).toNat<ls.length-((i:Nat):Int).toNat:=by
   intro h;rw [Ae Omg];refine⟨⟨i+1,Omg,rfl,C6,XE aD aF h⟩,?_⟩;simp only [Ait];omega
  refine⟨_,rfl,As (Aq (λ hr=>?_) (λ hr=>bad (by simp [okV,hr])))⟩;refine⟨_,S6.cell 0 rfl rfl,Ai (λ hk=>⟨_,S6.cell 0 rfl rfl,Ai (λ hz=>bad ?_) (λ hz=>step ?_)⟩) (λ hk=>step ?_)⟩
  ·simp [okV,hk,hz]
  ·simp [okV,hr,hz]
  ·simp [okV,hr,hk]
 ·have bK:ls.take i=ls:=AiZ Omg;rw [bK] at aF;exact VX (k:=λ v w'=>v=Value.bool (DF kind ls)/\Below w.heap.size w w') aF B1 λ v w' h1 h2=>⟨h1,h2⟩
theorem T1(kind:Int)(hl:Rd w a (AR ls))(hn:ls.length<=9223372036854775807) :
  Cw 141 #[.int .i64 kind,.slice a ls.length c] w λ v w'=>v=.bool (DF kind ls)/\Below w.heap.size w w':=by
 apply O4
 delta Cb E F G I Li Lt Qi T W X;try dsimp only [Ps]
 refine⟨λ s w1=>∃ i:Nat,i<=ls.length/\s=[.int .i64 (i:Int)]/\Below w.heap.size w w1/\(ls.take i).all (okV kind)=true,λ s _=>match s with
   | [.int _ i]=>ls.length-i.toNat
   | _=>0,⟨0,Omg,rfl,.refl _ _,rfl⟩,?_⟩
 rintro _ w1 ⟨i,hi,aA,B1,aF⟩;cases aA;refine Aa (λ aB=>⟨⟨Omg,aB⟩,?_⟩) (λ aJ=>?_)
 ·have aD:i<ls.length:=Omg;obtain⟨p,rfl,h0,h1,h2⟩:=Db (hl.grown B1) aD;refine⟨_,by rw [Ait];exact h0,_,by rw [Ait];exact h1,_,by rw [Ait];exact h2,(Fv w1 ls[i]).mono ?_⟩;rintro _ w6 ⟨_,rfl,rfl,B6⟩;have C6:=Ac B1 B6;obtain⟨p',hp',sA,_,_⟩:=Db (hl.grown C6) aD;cases hp';have bad:okV kind ls[i]=false->(Value.bool false=.bool (DF kind ls))/\Below w.heap.size w w6:=λ h=>⟨by rw [Uc aD h],C6⟩;have step:okV kind ls[i]=true->(∃ j:Nat,j<=ls.length/\[Value.int .i64 (IntKind.i64.wrap ((i:Int)+1))]=[.int .i64 (j:Int)]/\Below w.heap.size w w6/\(ls.take j).all (okV kind)=true)/\ls.length-(IntKind.i64.wrap ((i:Int)+1)).toNat<ls.length-((i:Nat):Int).toNat:=by
   intro h;rw [Ae Omg];refine⟨⟨i+1,Omg,rfl,C6,XE aD aF h⟩,?_⟩;simp only [Ait];omega
  refine⟨_,rfl,As (Aq (λ hr=>?_) (λ hr=>bad (by simp [okV,hr])))⟩;refine⟨⟨Omg,aB⟩,_,by rw [Ait];exact sA,Ai (λ hk=>⟨⟨Omg,aB⟩,_,by rw [Ait];exact sA,Ai (λ hz=>bad ?_) (λ hz=>step ?_)⟩) (λ hk=>step ?_)⟩
  ·simp [okV,hk,hz]
  ·simp [okV,hr,hz]
  ·simp [okV,hr,hk]
 ·have bK:ls.take i=ls:=AiZ Omg;rw [bK] at aF;exact VX (k:=λ v w'=>v=Value.bool (DF kind ls)/\Below w.heap.size w w') aF B1 λ v w' h1 h2=>⟨h1,h2⟩
def Au(ls:List AD):Nat:=ls.countP λ v=>decide (v.1=0)
def AY(ls:List AD):List Nat:=ls.map λ v=>if v.1=0 then 1 else 0
def AV(ls:List AD):List AD:=ls.filter λ v=>!decide (v.1=0)
theorem Fj{i:Nat}(hi:i<ls.length):Au (ls.take (i+1))=Au (ls.take i)+if ls[i].1=0 then 1 else 0:=by
 unfold Au;rw [Ajl hi,List.countP_append];by_cases h:ls[i].1=0 <;> simp [h]
theorem CW(ls:List AD):Au ls<=ls.length:=List.countP_le_length
theorem Em{i:Nat}(hi:i<ls.length):AY (ls.take (i+1))=AY (ls.take i)++[if ls[i].1=0 then 1 else 0]:=by
 unfold AY;rw [Ajl hi,List.map_append];rfl
theorem CM{i:Nat}(hi:i<ls.length):AV (ls.take (i+1))=AV (ls.take i)++(if ls[i].1=0 then [] else [ls[i]]):=by
 unfold AV;rw [Ajl hi,List.filter_append];by_cases h:ls[i].1=0 <;> simp [h]
theorem T4(hl:Rd w a (AR ls))(hn:ls.length<=1000000):Cw 142 #[.slice a ls.length c] w λ v w'=>w'=w/\v=.int .i64 (Au ls:Int):=by
 apply O5
 delta F I Li MH W X;try dsimp only [Ps]
 refine⟨λ s w1=>w1=w/\∃ i:Nat,i<=ls.length/\s=[.int .i64 (Au (ls.take i):Int),.int .i64 (i:Int)],λ s _=>match s with
   | [_,.int _ i]=>ls.length-i.toNat
   | _=>0,⟨rfl,0,Omg,rfl⟩,?_⟩
 rintro _ _ w1 ⟨rfl,i,hi,aA⟩;cases aA;have hle:=CW (ls.take i);rw [List.length_take] at hle;refine Aa (λ aB=>⟨⟨Omg,aB⟩,?_⟩) (λ aJ=>⟨rfl,?_⟩)
 ·have aD:i<ls.length:=Omg;obtain⟨p,rfl,h0,h1,h2⟩:=Db hl aD;refine⟨_,by rw [Ait];exact h0,Ap (λ hz=>?_) (λ hz=>?_)⟩
  ·rw [Ae Omg,Ae Omg];refine⟨⟨rfl,i+1,Omg,by rw [Fj aD,if_pos hz]⟩,?_⟩;simp only [Ait];omega
  ·rw [Ae Omg];refine⟨⟨rfl,i+1,Omg,by rw [Fj aD,if_neg hz];rfl⟩,?_⟩;simp only [Ait];omega
 ·have bK:ls.take i=ls:=AiZ Omg;rw [bK]
theorem Mn:Cw 194 #[.slice a ls.length c] w λ v w'=>∃ b,v=.func (.func 232) #[] #[.pointer (some ⟨b,0,none⟩)]/\SH (λ _=>False) w w' [(b,#[.slice a ls.length c],68)]:=by
 apply PV
 delta J N P S;try dsimp only [Ps]
 exact (SH.start (λ _=>False) w).An λ b1 w1 _ _ S1=>⟨b1,rfl,S1⟩
theorem Ty{L b:Nat}(hn:ls.length<=1000000)(J:Nat->World->Prop)(cm:∀ k w,J k w->Rd w a (AR ls))(cA:∀ k w w',J k w->Below w.heap.size w w'->J k w')(rE:∀ k w (hk:k<ls.length),ls[k].1=0->J k w->J (k+1) w)
  (af:∀ k w (hk:k<ls.length),ls[k].1≠0->J k w->N0 Tryz.prog L #[Sk ls[k]] (λ y w'=>y=true/\J (k+1) w') w) (h0:J 0 w) (hb:w.cell? ⟨b,0,none⟩=some (.slice a ls.length c)) :
  Cw 232 #[.func (.yield L) #[] #[],.pointer (some ⟨b,0,none⟩)] w λ _ w'=>J ls.length w':=by
 apply LZ
 delta A Ab E F H I Li Ls Lt N Qi Am T W X;try dsimp only [Ps]
 refine⟨_,_,_,hb,λ s w1=>∃ k:Nat,k<=ls.length/\s=[.int .i64 (k:Int)]/\J k w1,λ s _=>match s with
   | [.int _ i]=>ls.length-i.toNat
   | _=>0,⟨0,Omg,rfl,h0⟩,?_⟩
 rintro _ w1 ⟨k,hk,aA,hj⟩;cases aA;refine Aa (λ aB=>⟨⟨Omg,aB⟩,?_⟩) (λ aJ=>?_)
 ·have aO:k<ls.length:=Omg;obtain⟨p,hp,c0,c1,c2⟩:=Db (cm _ _ hj) aO;subst hp;refine⟨_,by rw [Ait];exact c0,_,by rw [Ait];exact c1,_,by rw [Ait];exact c2,(SH.start (λ _=>False) w1).Ic λ b9 w5 sL B5 S5=>?_⟩;have sR:=cA _ _ _ hj B5;rw [Ae Omg];have cP:ls.length-((k+1:Nat):Int).toNat<ls.length-((k:Nat):Int).toNat:=by
   simp only [Ait];omega
  refine⟨_,S5.cell 0 rfl rfl,Ai (λ aQ=>⟨_,S5.cell 0 rfl rfl,_,S5.cell 0 rfl rfl,_,S5.cell 0 rfl rfl,?_⟩) (λ hz=>⟨⟨k+1,Omg,rfl,rE k _ aO hz sR⟩,cP⟩)⟩;obtain⟨fn,tm,asg,bo,hy,hrr⟩:=af k w5 aO aQ sR;refine⟨fn,tm,asg,bo,hy,hrr.mono ?_⟩;rintro e w6 ⟨y,he,rfl,sS⟩;exact⟨true,he,AN ⟨⟨k+1,Omg,rfl,sS⟩,cP⟩⟩
 ·have:k=ls.length:=Omg;subst this;exact hj
end
end Go.Proofs.YtpnaifmmggnimaaGreatDoor
namespace Go.Dn
set_option linter.unusedVariables false
set_option maxRecDepth 100000
open Go.RowKit (Below)
open Go.Maps (has Tidy Keyed)
def Wr(P:Program)(k e:TypeId)(w:World)(b n:Nat)(g:List UInt8->Bool):Prop :=
 ∃ D:DataW Unit,w.ownsMap P k (plainElem P e) b n D/\Tidy D/\∀ x,D.atKey (.string x) (.lit (.bool false))=.lit (.bool (g x))
theorem M4{H:Type}{P:Program}{e:TypeId}(he:P.underlying e=some .bool){v:Value}{z:DataW H × List MemPlace}(h:plainElem P e v=some z):∃ a,v=.bool a/\z=(.lit (.bool a),[]):=by
 unfold plainElem at h;rw [he] at h;cases v <;> simp at h;exact⟨_,rfl,h.symm⟩
section
variable {P:Program}{k e t:TypeId}{w:World}{b n:Nat}{g:List UInt8->Bool}
theorem Wr.kept(h:Wr P k e w b n g){F:Nat->Prop}{w':World}(K:Ak F w w')(hn:¬ F b):Wr P k e w' b n g:=by
 obtain⟨D,⟨es,clock,hb,r⟩,h2⟩:=h;exact⟨D,⟨es,clock,K.at hb hn,r⟩,h2⟩
theorem Wr.put(h:Wr P k e w b n g)(hk:P.underlying k=some .string)(he:P.underlying e=some .bool)(ht:P.underlying t=some (.map k e))(hn:n<maxLen){s:ByteArray}(hs:s.size<=maxLen){v:Bool}
  {f:World->Prop} (hf:∀ w',Ak (·=b) w w'->Wr P k e w' b (n+1) (λ y=>if y=bl s then v else g y)->f w'):ZD P (Instr.mapUpdate t (.map (some b)) (.string s) (.bool v)) f w:=by
 obtain⟨D,hD,hT,hg⟩:=h;have gR:keyOf P k (.string s)=some (.string (bl s)):=by simp [keyOf,hk,mapKey,hs,bl]
 obtain⟨w',aG,dq,cA⟩:=hD.update (Maps.string_keyed hk) ht hn gR (plainElem_bool he v);unfold ZD;rw [aG];have aO:WideAt.IsKeyLit (.string (bl s)):=by simp [WideAt.IsKeyLit]
 refine hf w' (.of_grownBy cA) ⟨_,dq,hT.put aO _,λ x=>?_⟩;by_cases hx:x=bl s
 ·subst hx;simp only [if_true];exact Maps.atKey_put_same hT.isMap aO _ _
 ·have aQ:Lit.string x≠.string (bl s):=λ e=>hx (by injection e);simp only [hx,if_false];exact (Maps.atKey_put_other aQ _ _).trans (hg x)
theorem Wr.get(h:Wr P k e w b n g)(hk:P.underlying k=some .string)(he:P.underlying e=some .bool)(ht:P.underlying t=some (.map k e))(hz:(zeroValue e).run P w=.ok (.bool false) w){s:ByteArray}(hs:s.size<=maxLen)
  {f:Value->World->Prop} (hf:f (.bool (g (bl s))) w):De P (Instr.lookup t (.map (some b)) (.string s) false) f w:=by
 obtain⟨D,hD,hT,hg⟩:=h;have gR:keyOf P k (.string s)=some (.string (bl s)):=by simp [keyOf,hk,mapKey,hs,bl]
 obtain⟨v,ps,aG,hv⟩:=hD.lookup (Maps.string_keyed hk) ht hz (plainElem_bool he false) gR;obtain⟨c,rfl,hc⟩:=M4 he hv;simp only [Prod.mk.injEq] at hc;have cV:=hc.1;rw [hg (bl s)] at cV;have:c=g (bl s):=by injection cV with h1;injection h1 with h2;exact h2.symm
 unfold De;rw [aG,this];exact hf
end
end Go.Dn
