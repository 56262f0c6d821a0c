/-
  Texts of this claim, laid one behind the other by a program of mine (install.py): G.Sig2, G.Laid, G.Enc, G.Enc2, G.IntsR, G.IntsP, G.IntsE, G.IntsB, G.RefEnc, G.RefEnc2, G.RefEnc3, G.Best, Dn.Crc, G.Sum, G.Ch1, Dn.MapsB.
-/
import Derived.Test.YtpnaifmmggnimaaGreatDoorM4
import Derived.Test.YtpnaifmmggnimaaGreatDoorM1
import Derived.Test.YtpnaifmmggnimaaGreatDoorM3
namespace Go.Proofs.YtpnaifmmggnimaaGreatDoor
open _root_.Array renaming getElem?_eq_some_iff -> AlQ
open _root_.Bool renaming eq_iff_iff -> AlJ
open _root_.Int renaming toNat_natCast -> Ale
open _root_.List renaming append_nil -> Amc, eq_nil_of_length_eq_zero -> Ak3, getElem?_eq_getElem -> Al5, getElem?_eq_some_iff -> AkX, getElem_map -> Amb, getElem_mem -> AlS, length_append -> Alb, length_cons -> Ald, length_drop -> AlE, length_pos_iff -> Amh, length_take -> Al7, map_append -> Alv, map_drop -> AlF, mem_append -> Al8, mem_cons -> AkV, mem_cons_self -> AlN, mem_iff_getElem -> Amj, mem_map -> AkU, mem_of_mem_take -> Amd, mem_singleton -> Al9, nil_append -> Ame, not_mem_nil -> Amf, take_length -> Ama, take_of_length_le -> AlK, take_succ_eq_append_getElem -> Al6
open _root_.Nat renaming le_refl -> Ak8, le_trans -> Als, lt_or_ge -> AlR, mul_le_mul -> Al0, mul_one -> Alh, zero_mul -> Amg
open _root_.Option.some renaming inj -> Ami
open _root_.UInt8 renaming ofNat -> Alj
set_option maxRecDepth 100000
open Go.Dn Go.Proofs
open Go.RowKit (Below)
set_option linter.unusedVariables false
section
variable {w:World}{a:Option Addr}{c:Nat}
theorem Vi(n:Int)(h1 : -9223372036854775808<=n)(h2:n<=9223372036854775807):Calls Tryz.prog f.Afh #[.int .i64 n] w (AG λ v w'=>v=.int .u64 (D8 n:Int)/\w'=w):=by
 apply R.Tu
 delta R.F R.U R.W R.Wu;try dsimp only [R.Ps]
 refine Aa (λ h=>⟨?_,rfl⟩) (λ h=>⟨?_,rfl⟩)
 ·rw [wrap_i64 (n:=n+1) (by omega) (by omega),wrap_i64 (n:=0-(n+1)) (by omega) (by omega),Aj (n:=0-(n+1)) (by omega) (by omega),Aj (n:=2*(0-(n+1))) (by omega) (by omega),Aj (by omega) (by omega)];unfold D8;rw [if_pos h];congr 1;omega
 ·rw [Aj (n:=n) (by omega) (by omega),Aj (by omega) (by omega)];unfold D8;rw [if_neg h];congr 1;omega
theorem Fl(l:List UInt8)(hl:Rd w a (l.map Ag))(n:Int)(h1 : -9223372036854775808<=n)(h2:n<=9223372036854775807)(hs:l.length+10<=140737488355328) :
  Calls Tryz.prog f.YC #[.slice a l.length c,.int .i64 n] w (AG λ v w'=>∃ a c,v=.slice a (l++Af (D8 n)).length c/\Bm w w' (l++Af (D8 n)) a c):=by
 apply R.Of
 delta R.Cs R.Cu R.I R.S R.U;try dsimp only [R.Ps]
 refine (Vi n h1 h2).mono ?_;rintro _ w ⟨_,rfl,rfl,rfl⟩;refine⟨_,rfl,(Bh l hl (D8 n) (F2 h1 h2) hs).mono ?_⟩;rintro _ w1 ⟨_,rfl,a1,c1,rfl,h⟩;exact⟨_,_,_,rfl,a1,c1,rfl,h⟩
end
def BW(ls:List ByteArray):List UInt8:=ls.flatMap BA
theorem U0{ls:List ByteArray}{k:Nat}(hk:k<ls.length):BW (ls.take (k+1))=BW (ls.take k)++BA ls[k]:=by
 unfold BW;rw [Al6 hk,List.flatMap_append];simp
theorem Sa{s:ByteArray}(h:s.size<=1024):(BA s).length<=1034:=by
 have:=Al (n:=s.size) (by omega);have:=Bb s;simp [BA];omega
theorem Gi{ls:List ByteArray}(h:∀ s∈ls,s.size<=1024):(BW ls).length<=ls.length*1034:=by
 induction ls with
 | nil=>simp [BW]
 | cons s ls ih =>
  have h1:=Sa (h s (AlN ..));have h2:=ih λ x hx=>h x (List.mem_cons_of_mem _ hx);simp only [BW,List.flatMap_cons,Alb,Ald] at *;omega
theorem tP:M9 Tryz.prog ty.Hv=some (ty.AH,1,24,.slice none 0 0):=by kernel_rfl
theorem Fa{w:World}{a:Option Addr}{ls:List ByteArray}(hl:Rd w a (ls.map Value.string)){i:Nat}(hi:i<ls.length):∃ p,a=some p/\w.cell? (p.add (i*1))=some (.string ls[i]):=by
 obtain⟨p,hp,hc⟩:=hl i (.string ls[i]) (by simp [hi]);exact⟨p,hp,by rw [Alh];exact hc⟩
theorem Pp{w:World}{a:Option Addr}{c:Nat}{ls:List ByteArray}(hl:Rd w a (ls.map Value.string))(hn:ls.length<=4096)(hz:∀ s∈ls,s.size<=1024) :
  Calls Tryz.prog f.AeE #[.slice a ls.length c] w (AG λ v w'=>∃ a' c',v=.slice a' (BW ls).length c'/\Bm w w' (BW ls) a' c'):=by
 apply R.Tf
 delta R.Ad R.AR R.Cs R.F R.I R.J R.Ks R.Lt R.N R.O R.EM R.S R.T R.W R.X;try dsimp only [R.Ps]
 refine⟨λ s w1=>∃(ps:List DZ) (pa:Option Addr) (pc:Nat),s=[.slice pa ps.length pc,.int .i64 (ps.length:Int)]/\ps.length<=ls.length/\Row w1 ty.AH 1 pa ps.length pc (ps.map Cc)/\(∀ k,AD pa=some k->w.heap.size<=k) /\
   (∀ p∈ps,Rd w1 p.1 (p.2.2.map Ag)/\(∀ k,AD pa=some k->AD p.1≠some k)/\∀ k,AD p.1=some k->k<w1.heap.size)/\BT ps=BW (ls.take ps.length)/\Below w.heap.size w w1,λ s _=>match s with
   | [_,.int _ i]=>ls.length-i.toNat
   | _=>0,⟨[],none,0,rfl,by simp,Row.nil _ _ _,by simp [AD],by simp,by simp [BT,BW],.refl _ _⟩,?_⟩
 rintro pa _ pc _ w1 ⟨ps,_,_,hs,hle,hR,bG,dz,cd,B1⟩;cases hs;refine Aa (λ aB=>⟨⟨by omega,aB⟩,?_⟩) (λ aI=>?_)
 ·have aO:ps.length<ls.length:=by omega
  obtain⟨p,rfl,hc⟩:=Fa (hl.grown B1) aO;have aw:=hz _ (AlS aO);refine⟨_,by rw [Ale];exact hc,(Hr (c:=0) [] (Rd.nil _ _) ls[ps.length] (by omega) (by simp;omega)).mono ?_⟩;rintro _ w3 ⟨_,rfl,a3,c3,rfl,h3⟩;rw [Ame] at h3 ⊢;refine⟨_,_,_,_,rfl,(SH.start (λ _=>False) w3).An λ dk w4 mX B4 S4=>?_⟩;have h4:=h3.grown B4;have aW:Rd w4 (some ⟨dk,0,none⟩) [Cc (a3,c3,BA ls[ps.length])]:=by
   have:=Rd.Ak (S4.get 0 rfl);simpa [Cc] using this
  obtain⟨a5,c5,w5,aH,aJ,hk,hnw⟩:=BZ (ty:=ty.Hv) (mc:=1) tP rfl (by omega) (by omega) (hR.grown (h4.Ar)) aW (m:=1) rfl (by simp [Cc];rfl) (by omega);unfold DB;rw [aH];refine⟨_,_,_,rfl,?_⟩;have e1:(ps++[(a3,c3,BA ls[ps.length])]).length=ps.length+1:=by simp
  have B4':Below w.heap.size w w4:=B1.trans (h4.Ar.mono B1.size);refine⟨⟨ps++[(a3,c3,BA ls[ps.length])],a5,c5,?_,by omega,?_,λ k cj=>?_,λ q hq=>?_,?_,B4'.trans (hk.below B4'.size λ k aB eQ=>?_)⟩,?_⟩
  ·rw [Ae (by omega),e1]
  ·rw [e1,Alv];exact aJ
  ·rcases hnw k cj with h | h
   ·exact bG k h
   ·exact Als B4'.size h
  ·have bM:∀ k,AD pa=some k->k<w1.heap.size:=λ k h=>hR.lt h;have jP:∀ k,AD pa=some k->AD q.1≠some k:=by
    intro k cg bA;rcases Al8.1 hq with h | h
    ·exact (dz q h).2.1 k cg bA
    ·simp only [Al9] at h;subst h;have:=h3.new k bA;have:=bM k cg;omega
   have wX:Rd w4 q.1 (q.2.2.map Ag):=by
    rcases Al8.1 hq with h | h
    ·exact (dz q h).1.grown h4.Ar
    ·simp only [Al9] at h;subst h;exact h4.rd
   have ku:∀ k,AD q.1=some k->k<w4.heap.size:=by
    intro k bA;rcases Al8.1 hq with h' | h'
    ·exact Nat.lt_of_lt_of_le ((dz q h').2.2 k bA) h4.Ar.size
    ·simp only [Al9] at h';subst h';exact h4.row.lt bA
   refine⟨?_,λ k cj bA=>?_,λ k bA=>Nat.lt_of_lt_of_le (ku k bA) hk.size⟩
   ·exact wX.keeps hk (λ p hp hF=>jP p.block hF (by rw [hp];rfl))
   ·rcases hnw k cj with h | h
    ·exact jP k h bA
    ·have:=ku k bA;omega
  ·rw [e1,U0 aO,<- cd];simp [BT]
  ·have:=bG k eQ;omega
  ·simp only [Ale];rw [Ae (by omega)];omega
 ·have bM:ps.length=ls.length:=by omega
  rw [bM,Ama] at cd;have hlen:=Gi hz;refine (Bo ps hR.rd (λ p hp=>(dz p hp).1) (by omega) (by rw [cd];omega)).mono ?_;rintro _ w2 ⟨_,rfl,a2,c2,rfl,h2⟩;rw [cd] at h2 ⊢;exact⟨_,_,_,rfl,a2,c2,rfl,h2.before B1⟩
def Kk(ls:List ByteArray):Bool:=ls.any λ s=>decide (1024<s.size)
theorem Gz{ls:List ByteArray}(h:Kk ls=false):∀ s∈ls,s.size<=1024:=by
 intro s hs;have:=List.any_eq_false.1 h s hs;simpa using this
theorem Aic(w:World)(s:ByteArray):Calls Tryz.prog f.FR #[.string s] w (AG λ v w'=>w'=w/\v=.bool (decide (1024<s.size))):=by
 apply R.Ln
 delta R.G;try dsimp only [R.Ps]
 refine⟨rfl,?_⟩;congr 1;rw [AlJ];simp;omega
theorem ZZ:enters Tryz.prog f.FR=true:=by kernel_rfl
section
variable {w:World}{a:Option Addr}{c:Nat}{ls:List ByteArray}
theorem SW(hl:Rd w a (ls.map Value.string))(hn:ls.length<=9223372036854775807) :
  Calls Tryz.prog f.Dm #[.slice a ls.length c,.func (.func f.FR) #[] #[]] w (AG λ v w'=>w'=w/\v=.bool (Kk ls)):=by
 have idx:Calls Tryz.prog f.DX #[.slice a ls.length c,.func (.func f.FR) #[] #[]] w (AG λ v w'=>w'=w/\∃ i:Int,v=.int .i64 i/\(0<=i↔Kk ls=true)):=by
  apply R.CW
  delta R.Ad R.F R.G R.I R.Lt R.Qi R.T R.W R.X;try dsimp only [R.Ps]
  refine⟨λ s w1=>w1=w/\∃ k:Nat,k<=ls.length/\s=[.int .i64 (k:Int)]/\Kk (ls.take k)=false,λ s _=>match s with
    | [.int _ i]=>ls.length-i.toNat
    | _=>0,⟨rfl,0,by omega,rfl,rfl⟩,?_⟩
  rintro _ w1 ⟨rfl,k,hk,hs,fS⟩;cases hs;refine Aa (λ aB=>⟨⟨by omega,aB⟩,?_⟩) (λ aI=>?_)
  ·have aO:k<ls.length:=by omega
   obtain⟨p,rfl,hc⟩:=Fa hl aO;refine⟨_,by rw [Ale];exact hc,?_⟩;rw [ZZ];refine (Aic w1 ls[k]).mono ?_;rintro _ w2 ⟨_,rfl,rfl,rfl⟩;refine⟨_,rfl,Aa (λ h=>⟨rfl,_,rfl,?_⟩) (λ h=>?_)⟩
   ·refine⟨λ _=>?_,λ _=>by omega⟩;exact List.any_eq_true.2 ⟨ls[k],AlS aO,by simpa using h⟩
   ·rw [Ae (by omega)];refine⟨⟨rfl,k+1,by omega,rfl,?_⟩,?_⟩
    ·unfold Kk at fS ⊢;rw [Al6 aO,List.any_append,fS];simp;omega
    ·simp only [Ale];omega
  ·have eQ:ls.take k=ls:=AlK (by omega);rw [eQ] at fS;refine⟨rfl,_,rfl,?_⟩;rw [fS];simp
 apply R.CL
 delta R.Ci R.G R.S;try dsimp only [R.Ps]
 refine idx.mono ?_;rintro _ w1 ⟨_,rfl,rfl,i,rfl,hi⟩;refine⟨_,rfl,rfl,?_⟩;congr 1;rw [AlJ,decide_eq_true_eq];exact hi
end
def A9(t:List (List UInt8))(ls:List ByteArray):List Nat:=ls.map λ s=>t.idxOf (bl s)
inductive F7 (ls:List ByteArray):Int->List UInt8->Prop
 | plain:F7 ls 0 (0 :: BW ls)
 | table (t:List (List UInt8)) (w:Nat) (ht:Em (ls.map bl) t) (hw:DL (Ic (A9 t ls)) w):F7 ls 1 ((1 :: Af t.length)++(BW (t.map BC)++(Alj w :: A5 (A9 t ls) w)))
theorem F7.one{ls:List ByteArray}{f:Int}{b c:List UInt8}(h:F7 ls f b)(h':F7 ls f c):b=c:=by
 cases h with
 | plain=>cases h';rfl
 | table t w ht hw =>
  cases h' with
  | table t' w' ht' l8 =>
   have:=ht.one ht';subst this;rw [hw.one l8]
def E6(f:Int)(ls:List ByteArray):Prop:=0<=f/\f<=1/\ls.length<=4096/\Kk ls=false
instance (f:Int) (ls:List ByteArray):Decidable (E6 f ls):=by unfold E6;infer_instance
def AfN(f:Int)(ls:List ByteArray)(w w':World)(r:Value):Prop :=
 (¬ E6 f ls/\r=.tuple #[.slice none 0 0,.int .i64 2]/\Below w.heap.size w w')\/(E6 f ls/\∃ b a c,F7 ls f b/\r=.tuple #[.slice a b.length c,.int .i64 0]/\Bm w w' b a c)
theorem Hx{α:Type}[DecidableEq α]:∀ {t l:List α},t.Nodup->(∀ x∈t,x∈l)->t.length<=l.length
 | [],_,_,_=>by simp
 | x :: t,l,hn,hs=>by
  have hx:=hs x (AlN ..);obtain⟨h1,h2⟩:=List.nodup_cons.1 hn;have:=Hx (t:=t) (l:=l.erase x) h2 λ y hy=>(List.mem_erase_of_ne (a:=y) (b:=x) (by rintro rfl;exact h1 hy)).2 (hs y (List.mem_cons_of_mem _ hy));rw [List.length_erase_of_mem hx] at this;have:0<l.length:=List.length_pos_of_mem hx;simp only [Ald];omega
theorem AgM{w:World}{f:Value->World->Prop}(hf:∀ b w',w.heap.size<=b->Below w.heap.size w w'->Aen w' b 0 (λ _=>none)->f (.map (some b)) w'):DB Tryz.prog (Instr.makeMap ty.Ev none) f w:=by
 unfold DB;rw [show (Instr.makeMap ty.Ev none).run Tryz.prog w=.ok (.map (some w.heap.size)) (w.alloc (.map #[] 0)) from rfl];refine hf _ _ (Ak8 _) ((Below.refl _ w).alloc (Ak8 _) _) ⟨_,World.ownsMap_made _ _ _ _,Maps.tidy_empty,λ x=>⟨rfl,rfl⟩⟩
theorem Ze:Tryz.prog.underlying ty.Ev=some (.map ty.string ty.uint64):=by kernel_rfl
theorem tU:M9 Tryz.prog ty.HA=some (ty.uint64,1,8,.int .u64 0):=by kernel_rfl
theorem AhC(w:World):(zeroValue ty.uint64).run Tryz.prog w=.ok (.int .u64 0) w:=by
 have h:(Tryz.prog.info? ty.uint64).bind (·.zero)=some (.int .u64 0):=by kernel_rfl
 cases hi:Tryz.prog.info? ty.uint64 with
 | none=>rw [hi] at h;cases h
 | some i =>
  rw [hi] at h;have hz:i.zero=some (.int .u64 0):=h;simp [zeroValue,typeInfo,hi,hz]
theorem Acd(x:List UInt8):encStr x=.string (BC x):=rfl
theorem Aie(t:List (List UInt8)):t.map encStr=(t.map BC).map Value.string:=by simp [Acd]
section
variable {w:World}{a:Option Addr}{c:Nat}{ls:List ByteArray}
def g1(l:List (List UInt8))(x:List UInt8):Option Int:=if x∈l then some 0 else none
def g2(l t:List (List UInt8))(i:Nat)(x:List UInt8):Option Int:=if x∈t.take i then some (t.idxOf x:Int) else g1 l x
theorem AhX{l:List ByteArray}{k:Nat}(hk:k<l.length):(λ y=>if y=bl l[k] then some 0 else g1 ((l.take k).map bl) y)=g1 ((l.take (k+1)).map bl):=by
 funext y;unfold g1;rw [Al6 hk,Alv];simp only [Al8,List.map_cons,List.map_nil,Al9];by_cases h1:y=bl l[k]
 ·simp [h1]
 ·simp [h1]
theorem AhY{l t:List (List UInt8)}(eS:t.Nodup){i:Nat}(hi:i<t.length):(λ y=>if y=t[i] then some (i:Int) else g2 l t i y)=g2 l t (i+1):=by
 funext y;unfold g2;rw [Al6 hi];simp only [Al8,Al9];by_cases h1:y=t[i]
 ·subst h1;have:t.idxOf t[i]=i:=eS.idxOf_getElem i hi;simp [this]
 ·simp [h1]
theorem FT(form:Int)(hl:Rd w a (ls.map Value.string))(hn:ls.length<=9223372036854775807):Calls Tryz.prog f.ZY #[.int .i64 form,.slice a ls.length c] w (AG λ v w'=>AfN form ls w w' v):=by
 apply R.Po
 delta R.Ad R.B R.AR R.Cb R.Cf R.Ci R.Cs R.F R.H R.I R.J R.Ks R.Lt R.M R.N R.O R.Qi R.EM R.Rm R.Ru R.S R.T R.U R.W R.Wb R.Wu R.X;try dsimp only [R.Ps]
 have bad:¬ E6 form ls->AfN form ls w w (.tuple #[.slice none 0 0,.int .i64 2]):=λ h=>.inl ⟨h,rfl,.refl _ _⟩;refine Aa (λ h=>bad λ hk=>by have:=hk.1;omega) (λ h1=>Aa (λ h=>bad λ hk=>by have:=hk.2.1;omega) (λ h2=>Aa (λ h=>bad λ hk=>by have:=hk.2.2.1;omega) (λ h3=>(SW hl hn).mono ?_)));rintro _ w ⟨_,rfl,rfl,rfl⟩;refine⟨_,rfl,Aq (λ h=>bad λ hk=>by have:=hk.2.2.2;rw [h] at this;cases this) (λ cX=>?_)⟩;have aK:E6 form ls:=⟨by omega,by omega,by omega,cX⟩;have hz:=Gz cX;have iX:ls.length<=4096:=by omega
 have hlen:=Gi hz;refine Ao (λ h0=>?_) (λ h0=>?_)
 ·subst h0;refine (SH.start (λ _=>False) w).An λ b5 w2 fg B2 S2=>(Pp (hl.grown B2) iX hz).mono ?_;rintro _ w3 ⟨_,rfl,a3,c3,rfl,h3⟩;have S3:=S2.grown h3.Ar;refine⟨_,_,_,rfl,S3.An λ b8 w4 pr B4 S4=>?_⟩;have hp:Rd w4 (some ⟨b8,0,none⟩) ([(some ⟨b5,0,none⟩,1,[0]),(a3,c3,BW ls)].map Cc):=by
   have:=Rd.Ak (S4.get 0 rfl);simpa [Cc] using this
  have uY:Rd w4 (some ⟨b5,0,none⟩) ([0].map Ag):=by
   have:=Rd.Ak (S4.get 1 rfl);simpa [Ag] using this
  refine (Bo (c:=2) [(some ⟨b5,0,none⟩,1,[0]),(a3,c3,BW ls)] hp (λ p hp=>?_) (by simp) (by rw [UF];simp;omega)).mono ?_
  ·simp only [AkV,Amf,or_false] at hp;rcases hp with rfl | rfl
   ·exact uY
   ·exact (h3.grown B4).rd
  rintro _ w5 ⟨_,rfl,a5,c5,rfl,h5⟩;refine⟨_,_,_,rfl,.inr ⟨aK,0 :: BW ls,a5,c5,.plain,?_,?_⟩⟩
  ·rw [UF];rfl
  ·rw [UF] at h5;exact h5.before S4.below
 ·have gg:form=1:=by omega
  subst gg;have m4:8193<=maxLen:=by decide
  refine AgM λ b w6 hb B6 M6=>⟨_,rfl,?_⟩;have M6':Aen w6 b 0 (g1 ((ls.take 0).map bl)):=by
   have:g1 ((ls.take 0).map bl)=λ _=>none:=by funext x;simp [g1]
   rw [this];exact M6
  refine⟨λ s w7=>∃ k:Nat,k<=ls.length/\s=[.int .i64 (k:Int)]/\Aen w7 b k (g1 ((ls.take k).map bl))/\Ai (·=b) w6 w7,λ s _=>match s with
    | [.int _ i]=>ls.length-i.toNat
    | _=>0,⟨0,by omega,rfl,M6',.refl _ _⟩,?_⟩
  rintro _ w7 ⟨k,hk,hs,M7,K7⟩;cases hs;have B7:Below w.heap.size w w7:=B6.trans (K7.below B6.size λ k hk he=>by omega);refine Aa (λ aB=>⟨⟨by omega,aB⟩,?_⟩) (λ aI=>?_)
  ·have aO:k<ls.length:=by omega
   obtain⟨p,rfl,hc⟩:=Fa (hl.grown B7) aO;have aw:=hz _ (AlS aO);refine⟨_,by rw [Ale];exact hc,M7.put J7 Zg Ze (by omega) (by omega) (by decide) λ w8 K8 M8=>?_⟩;rw [AhX aO] at M8;rw [Ae (by omega)];refine⟨⟨k+1,by omega,rfl,M8,K7.trans K8 (λ _ _ h=>h)⟩,?_⟩;simp only [Ale];omega
  have eQ:k=ls.length:=by omega
  rw [eQ,Ama] at M7;refine (Wt M7 iX (ls:=ls.map bl) (λ x=>by unfold g1;split <;> simp [*]) (k:=λ v w'=>∃ a c t,v=.slice a t.length c/\Em (ls.map bl) t/\Row w' ty.string 1 a t.length c (t.map encStr)/\(∀ k,AD a=some k->w7.heap.size<=k)/\Below w7.heap.size w7 w')
   (λ a c t w' q1 q2 q3 q4=>⟨a,c,t,rfl,q1,q2,q3,q4⟩)).mono ?_
  rintro _ w9 ⟨fn,fi,ca,rfl,hS⟩;refine⟨_,_,_,rfl,hS.mono ?_⟩;rintro _ bV ⟨aT,lT,cT,rfl,zX,zy,t,ht,hr,pU,bG,bp⟩;obtain⟨rfl,rfl,rfl⟩:aT=zX/\lT=t.length/\cT=zy:=by cases ht;exact⟨rfl,rfl,rfl⟩
  refine⟨_,_,_,rfl,?_⟩;have au:=M7.lt;have zG:=M7.kept (Ai.AA (F:=λ _=>False) bp) (by simp);have eS:=GA hr.up;have eU:t.length<=ls.length:=by
   have:=Hx eS (λ x hx=>(hr.mem x).1 hx);simpa using this
  have jj:∀ s∈t.map BC,s.size<=1024:=by
   intro s hs;obtain⟨x,hx,rfl⟩:=AkU.1 hs;obtain⟨s',bS,rfl⟩:=AkU.1 ((hr.mem x).1 hx);rw [EJ];exact hz s' bS
  rw [Aie] at pU;have nN:(t.map BC).length=t.length:=by simp
  have M10':Aen bV b (ls.length+0) (g2 (ls.map bl) t 0):=by
   have:g2 (ls.map bl) t 0=g1 (ls.map bl):=by funext x;simp [g2]
   rw [this];exact zG
  have fw:∀ p,aT=some p->¬ p.block=b:=by
   intro p hp he;have:=bG p.block (by rw [hp];rfl);omega
  refine⟨λ s aY=>∃ i:Nat,i<=t.length/\s=[.int .i64 (i:Int)]/\Aen aY b (ls.length+i) (g2 (ls.map bl) t i)/\Ai (·=b) bV aY,λ s _=>match s with
    | [.int _ i]=>t.length-i.toNat
    | _=>0,⟨0,by omega,rfl,M10',.refl _ _⟩,?_⟩
  rintro _ aY ⟨i,hi,hs,sY,eL⟩;cases hs;have lM:Rd aY aT ((t.map BC).map Value.string):=pU.rd.keeps eL fw;refine Aa (λ aB=>⟨⟨by omega,aB⟩,?_⟩) (λ aI=>?_)
  ·have aD:i<t.length:=by omega
   obtain⟨p,hp,hc⟩:=Fa lM (by rw [nN];exact aD);subst hp;have aw:(BC t[i]).size<=1024:=jj _ (AkU.2 ⟨_,AlS aD,rfl⟩);rw [Amb] at hc;refine⟨_,by rw [Ale];exact hc,?_⟩;rw [Aj (by omega) (by omega)];refine sY.put J7 Zg Ze (by omega) (by omega) (by simp [Lit.wf,IntKind.min,IntKind.max,IntKind.signed,IntKind.bits];omega) λ bK zA xR=>?_;rw [BN,AhY eS aD] at xR;rw [Ae (by omega)];refine⟨⟨i+1,by omega,rfl,xR,eL.trans zA (λ _ _ h=>h)⟩,?_⟩;simp only [Ale];omega
  have hii:i=t.length:=by omega
  rw [hii] at sY;have cF:Below w.heap.size w aY:=by
   have B0:Below w.heap.size w bV:=B7.trans (bp.mono B7.size);exact B0.trans (eL.below B0.size λ k hk he=>by omega)
  refine⟨λ s al=>∃(kk:Nat) (pa:Option Addr) (pc:Nat),s=[.slice pa kk pc,.int .i64 (kk:Int)]/\kk<=ls.length/\Row al ty.uint64 1 pa kk pc ((A9 t (ls.take kk)).map E1)/\(∀ k,AD pa=some k->aY.heap.size<=k)/\Below aY.heap.size aY al,λ s _=>match s with
    | [_,.int _ i]=>ls.length-i.toNat
    | _=>0,⟨0,none,0,rfl,by omega,Row.nil _ _ _,by simp [AD],.refl _ _⟩,?_⟩
  rintro pa kk pc _ al ⟨_,_,_,hs,aO,mR,lX,ie⟩;cases hs;have Bw13:Below w.heap.size w al:=cF.trans (ie.mono cF.size);have zH:=sY.kept (Ai.AA (F:=λ _=>False) ie) (by simp);refine Aa (λ aB=>⟨⟨by omega,aB⟩,?_⟩) (λ aI=>?_)
  ·have dh:kk<ls.length:=by omega
   obtain⟨p,hp,hc⟩:=Fa (hl.grown Bw13) dh;subst hp;have aw:=hz _ (AlS dh);have cD:bl ls[kk]∈t:=(hr.mem _).2 (AkU.2 ⟨_,AlS dh,rfl⟩);have vL:(g2 (ls.map bl) t t.length (bl ls[kk])).getD 0=(t.idxOf (bl ls[kk]):Int):=by
    unfold g2;rw [Ama,if_pos cD];rfl
   refine⟨_,by rw [Ale];exact hc,zH.get J7 Zg Ze (AhC _) (by omega) ?_⟩;rw [vL];refine⟨_,rfl,(SH.start (λ _=>False) al).An λ pA ah hb32 dm m6=>?_⟩;have aW:Rd ah (some ⟨pA,0,none⟩) [E1 (t.idxOf (bl ls[kk]))]:=by
    have:=Rd.Ak (m6.get 0 rfl);simpa [E1] using this
   obtain⟨a5,c5,cp,aH,aJ,cj,hnw⟩:=BZ (ty:=ty.HA) (mc:=1) tU rfl (by omega) (by omega) (mR.grown dm) aW (m:=1) rfl (by simp [E1];rfl) (by omega);unfold DB;rw [aH];refine⟨_,_,_,rfl,?_⟩;have B15':Below aY.heap.size aY ah:=ie.trans (dm.mono ie.size);rw [Ae (by omega)];refine⟨⟨kk+1,a5,c5,rfl,by omega,?_,λ k hk=>?_,B15'.trans (cj.below B15'.size λ k hk he=>by have:=lX k he;omega)⟩,?_⟩
   ·have:A9 t (ls.take (kk+1))=A9 t (ls.take kk)++[t.idxOf (bl ls[kk])]:=by
     unfold A9;rw [Al6 dh,Alv];rfl
    rw [this,Alv];exact aJ
   ·rcases hnw k hk with h | h
    ·exact lX k h
    ·exact Als B15'.size h
   ·simp only [Ale];omega
  have jS:kk=ls.length:=by omega
  subst jS;rw [Ama] at mR;have bM:(A9 t ls).length=ls.length:=by simp [A9]
  have nZ:∀ x∈A9 t ls,x<4097:=by
   intro x hx;obtain⟨s,hs,rfl⟩:=AkU.1 hx;have:=List.idxOf_le_length (l:=t) (a:=bl s);omega
  have pV:=mR.rd;rw [<- bM];refine (IJ pV (by omega) (λ x hx=>by have:=nZ x hx;omega)).mono ?_;rintro _ cP ⟨_,rfl,wd,rfl,iJ,bO,rfl⟩;refine⟨_,rfl,(JR pV (by omega) bO ((HQ _ _).1 iJ.1)).mono ?_⟩;rintro _ eZ ⟨_,rfl,tA,tR,rfl,gV⟩;refine⟨_,_,_,_,rfl,(SH.start (λ _=>False) eZ).An λ xY fB uU p4 zN=>?_⟩;have pk:Rd fB (some ⟨xY,0,none⟩) ([1].map Ag):=by
   have:=Rd.Ak (zN.get 0 rfl);simpa [Ag] using this
  rw [Aj (by omega) (by omega)];refine (Bg (c:=1) [1] pk t.length (by omega) (by simp)).mono ?_;rintro _ fC ⟨_,rfl,a20,rJ,rfl,iw⟩;have r9:Below aY.heap.size aY fC:=by
   refine ie.trans ((gV.Ar.mono ie.size).trans ?_);exact (p4.mono (Als ie.size gV.Ar.size)).trans (iw.Ar.mono (Als ie.size (Als gV.Ar.size p4.size)))
  have pS:=lM.grown r9;refine⟨_,_,_,rfl,?_⟩;rw [<- nN];refine (Pp (c:=cT) pS (by omega) jj).mono ?_;rintro _ fD ⟨_,rfl,a21,zv,rfl,pL⟩;refine⟨_,_,_,rfl,(SH.start (λ _=>False) fD).An λ xZ iM uW ig kJ=>kJ.An λ zd fp hb46 ij m7=>?_⟩;rw [AE (by omega) (by omega)] at kJ m7;obtain⟨ps,dz⟩:∃ ps:List DZ,ps=[(a20,rJ,[1]++Af t.length),(a21,zv,BW (t.map BC)),(some ⟨xZ,0,none⟩,1,[Alj wd]),(tA,tR,A5 (A9 t ls) wd)]:=⟨_,rfl⟩;have hp:Rd fp (some ⟨zd,0,none⟩) (ps.map Cc):=by
   have:=Rd.Ak (m7.get 0 rfl);rw [dz];simpa [Cc] using this
  have n23:=Ac ig ij;have hpb:∀ p∈ps,Rd fp p.1 (p.2.2.map Ag):=by
   intro p hp;rw [dz] at hp;simp only [AkV,Amf,or_false] at hp;rcases hp with rfl | rfl | rfl | rfl
   ·exact (iw.rd.grown pL.Ar).grown n23
   ·exact pL.rd.grown n23
   ·have:=Rd.Ak (m7.get 1 rfl);simpa [Cq (show wd<256 by omega)] using this
   ·exact ((((gV.rd.grown p4).grown iw.Ar).grown pL.Ar).grown n23)
  have cd:BT ps=(1 :: Af t.length)++(BW (t.map BC)++(Alj wd :: A5 (A9 t ls) wd)):=by
   rw [dz];simp [BT]
  have l1:=Al (n:=t.length) (by omega);have l2:=Gi jj;have l3:=BR (A9 t ls) wd;have l4:DA (A9 t ls).length wd<=4096*64+7:=by
   unfold DA;have:(A9 t ls).length*wd<=4096*64:=Al0 (by omega) bO;omega
  have wC:ps.length=4:=by rw [dz];rfl
  have iT:=Bo (c:=4) ps hp hpb (by omega) (by rw [cd];simp only [Alb,Ald];omega);rw [wC] at iT;refine iT.mono ?_;rintro _ fE ⟨_,rfl,a24,oO,rfl,rT⟩;rw [cd] at rT ⊢;refine⟨_,_,_,rfl,.inr ⟨aK,_,a24,oO,.table t wd hr iJ,rfl,rT.before ?_⟩⟩;exact (cF.trans (r9.mono cF.size)).trans (((pL.Ar).mono (Als cF.size r9.size)).trans (n23.mono (Als (Als cF.size r9.size) pL.Ar.size)))
end
structure Jt(w w':World)(xs:List Nat)(a:Option Addr)(c:Nat):Prop where
 row:Row w' ty.uint64 1 a xs.length c (xs.map E1)
 new:∀ k,AD a=some k->w.heap.size<=k
 Ar:Below w.heap.size w w'
theorem Jt.nil(w:World):Jt w w [] none 0:=⟨Row.nil _ _ _,by simp [AD],.refl _ _⟩
theorem Jt.grown{w w1 w2:World}{xs:List Nat}{a:Option Addr}{c:Nat}(h:Jt w w1 xs a c)(hb:Below w1.heap.size w1 w2):Jt w w2 xs a c:=⟨h.row.grown hb,h.new,Ac h.Ar hb⟩
theorem EA{w w1:World}{a:Option Addr}{c:Nat}{xs:List Nat}(h:Jt w w1 xs a c)(hl:xs.length+1<=1000000){x:Nat}{v:Value}(hv:v=E1 x){b:Nat}{t:TypeId}(hb:w1.heap[b]?=some (.cells #[v] t (0,0))){f:Value->World->Prop}
  (hf:∀ a' c' w',Jt w w' (xs++[x]) a' c'->f (.slice a' (xs++[x]).length c') w'):DB Tryz.prog (Builtin.append_ #[ty.HA,ty.HA] ty.HA #[.slice a xs.length c,.slice (some ⟨b,0,none⟩) 1 1]) f w1:=by
 subst hv;have aW:Rd w1 (some ⟨b,0,none⟩) ([x].map E1):=by
  have:=Rd.Ak hb;simpa using this
 obtain⟨a5,c5,w2,aH,aJ,cj,hnw⟩:=BZ (ty:=ty.HA) (mc:=1) tU rfl (by omega) (by omega) h.row aW (m:=1) rfl (by simp [E1];rfl) (by omega);unfold DB;rw [aH];have e:xs.length+1=(xs++[x]).length:=by simp
 rw [e] at aJ ⊢;refine hf a5 c5 w2 ⟨by rw [Alv];exact aJ,λ k hk=>?_,h.Ar.trans (cj.below h.Ar.size λ k hk he=>by have:=h.new k he;omega)⟩;rcases hnw k hk with h1 | h1
 ·exact h.new k h1
 ·exact Als h.Ar.size h1
theorem Dq{w:World}{a:Option Addr}{l:List Int}(hl:Rd w a (l.map EE)){i:Nat}(hi:i<l.length):∃ p,a=some p/\w.cell? (p.add (i*1))=some (.int .i64 l[i]):=by
 obtain⟨p,hp,hc⟩:=hl i (EE l[i]) (by simp [hi]);exact⟨p,hp,by rw [Alh];exact hc⟩
theorem LG{w:World}{a:Option Addr}{l:List Int}(hl:Rd w a (l.map EE))(h0:0<l.length):∃ p,a=some p/\w.cell? p=some (.int .i64 (l.headD 0)):=by
 obtain⟨p,hp,hc⟩:=Dq hl h0;rw [Amg,C0] at hc;refine⟨p,hp,?_⟩;rw [hc];cases l with
 | nil=>simp at h0
 | cons y l=>rfl
theorem Fe{l:List Int}{i:Nat}(h:i<l.length):l.getD i 0=l[i]:=by simp [h]
theorem Nx{w0 w:World}{a a2:Option Addr}{c c2:Nat}{l:List UInt8}{s:List Nat}(h:Bm w0 w l a c)(hl:l.length<=1000000)(hs:Rd w a2 (s.map E1))(hn:s.length<=4096)(hx:∀ x∈s,x<18446744073709551616) :
  Calls Tryz.prog f.YJ #[.slice a l.length c,.slice a2 s.length c2] w (AG λ v w'=>∃ a' c',v=.slice a' (l++(Alj (Fi (Ic s)) :: A5 s (Fi (Ic s)))).length c'/\Bm w0 w' (l++(Alj (Fi (Ic s)) :: A5 s (Fi (Ic s)))) a' c'):=by
 apply R.Ol
 delta R.B R.AR R.Ci R.I R.J R.Ks R.N R.S R.Wb;try dsimp only [R.Ps]
 refine (Qa hs (by omega) hx).mono ?_;rintro _ w ⟨_,rfl,wd,rfl,iJ,bO,rfl⟩;obtain rfl:=iJ.one (T1 _);refine⟨_,rfl,(Is hs hn bO ((HQ _ _).1 iJ.1)).mono ?_⟩;rintro _ an ⟨_,rfl,sw,zt,rfl,iv⟩;obtain⟨wd,hwdd⟩:∃ wd,wd=Fi (Ic s):=⟨_,rfl⟩;rw [<- hwdd] at iv iJ bO ⊢;have l3:=BR s wd;have l4:DA s.length wd<=4096*64+7:=by
  unfold DA;have:s.length*wd<=4096*64:=Al0 (by omega) bO;omega
 refine⟨_,_,_,_,rfl,(SH.start (λ _=>False) an).An λ rF ah mf dm m6=>?_⟩;rw [AE (by omega) (by omega)] at m6;have B6:Below w.heap.size w ah:=Ac iv.Ar dm;have eo:=h.grown B6;refine CO eo.row (by omega) (x:=Alj wd) (Cq (by omega)) (m6.get 0 rfl) λ kK kM cp m5 jr ly=>⟨_,_,_,rfl,?_⟩;have gU:=h.Br B6 m5 jr ly;have nb:Rd cp sw ((A5 s wd).map Ag):=(iv.rd.grown dm).keeps jr λ p hp hF=>by
  have e1:=iv.new p.block (by rw [hp];rfl);have e2:=h.row.lt hF;omega
 refine A8 gU.row nb (by simp;omega) λ sy tQ cP sl sP sZ=>⟨_,_,_,rfl,sy,tQ,?_,?_⟩
 ·simp
 ·have fH:=gU.Br (.refl _ _) sl sP sZ;have el:(l++[Alj wd])++A5 s wd=l++(Alj wd :: A5 s wd):=by simp
  rw [el] at fH;exact fH
section
variable {w0 w:World}{ba a:Option Addr}{bc c:Nat}{bs:List UInt8}{l:List Int}
theorem Aa1(h:Bm w0 w bs ba bc)(y8:bs.length<=10)(hl:Rd w0 a (l.map EE))(hn:l.length<=4096)(hx:∀ x∈l,Fs x) :
  Calls Tryz.prog f.AcU #[.slice ba bs.length bc,.slice a l.length c] w (AG λ v w'=>∃ a' c',v=.slice a' (bs++E8 l).length c'/\Bm w0 w' (bs++E8 l) a' c'):=by
 apply R.RJ
 delta R.Ad R.Cs R.D R.F R.G R.I R.Li R.Aer R.S R.U R.W R.Wu R.X R.Zb;try dsimp only [R.Ps]
 have hlen:=MD 4096 l hn (by omega) hx;refine⟨λ s w1=>∃(k i:Nat) (b:List UInt8) (a1:Option Addr) (c1:Nat),s=[.slice a1 b.length c1,.int .i64 (k:Int),.int .i64 (i:Int)]/\Bm w0 w1 b a1 c1/\bs++E8 l=b++E8 (l.drop k)/\(i<=l.length->k<i)/\(i<=l.length\/(i=l.length+1/\l.length<=k))/\(∀ j,k+j<i->i<=l.length->l[k+j]?=l[k]?)/\0<i,λ s _=>match s with
   | [_,_,.int _ i]=>l.length+1-i.toNat
   | _=>0,⟨0,1,bs,ba,bc,rfl,h,by simp,by omega,by omega,λ j hj _=>by simp at hj;subst hj;rfl,by omega⟩,?_⟩
 rintro a1 _ c1 _ _ w1 ⟨k,i,b,_,_,aA,h1,hE,v',aG,aF,iV⟩;cases aA;have au:b.length<=10+4096*20:=by
  have:=congrArg List.length hE;simp only [Alb] at this;omega
 refine Aa (λ hle=>?_) (λ nG=>?_)
 ·have aD:i<=l.length:=by omega
  have hk:=v' aD;refine⟨λ s w3=>∃ t:Bool,s=[.bool t]/\Below w1.heap.size w1 w3/\(t=true↔Adr l k (i-k))/\(t=false->i<l.length/\l[i]?=l[k]?),?_,?_⟩
  ·refine (SH.start (λ _=>False) w1).E5 λ w2 B2 _=>?_;have lN:∀ j,j<i-k->l[k+j]?=l[k]?:=λ j hj=>aF j (by omega) aD;refine Ao (λ he=>?_) (λ aQ=>?_)
   ·refine⟨true,rfl,B2,⟨λ _=>⟨by omega,by omega,lN,.inl (by omega)⟩,λ _=>rfl⟩,λ h=>by cases h⟩
   ·have aB:i<l.length:=by omega
    have aO:k<l.length:=by omega
    have C2:=Ac h1.Ar B2;obtain⟨p,rfl,gC⟩:=Dq (hl.grown C2) aB;obtain⟨p',hp',cG⟩:=Dq (hl.grown C2) aO;cases hp';refine⟨⟨by omega,by omega⟩,⟨by omega,by omega⟩,_,by rw [Ale];exact gC,_,by rw [Ale];exact cG,_,rfl,B2,?_,?_⟩
    ·simp only [bne_iff_ne,ne_eq];constructor
     ·intro hd;refine⟨by omega,by omega,lN,.inr ?_⟩;rw [show k+(i-k)=i by omega,Al5 aB,Al5 aO];simpa using hd
     ·intro hr;rcases hr.stop with h | h
      ·omega
      ·rw [show k+(i-k)=i by omega,Al5 aB,Al5 aO] at h;simpa using h
    ·intro hd;refine⟨aB,?_⟩;rw [Al5 aB,Al5 aO];have:l[i]=l[k]:=by simpa using hd
     rw [this]
  rintro _ w3 ⟨t,aA,B3,oq,ht2⟩;cases aA;have C3:=Ac h1.Ar B3;have aO:k<l.length:=by omega
  refine Aq (λ ht=>?_) (λ hf=>?_)
  ·have aH:=oq.1 ht;refine (SH.start (λ _=>False) w3).E5 λ w4 B4 _=>⟨⟨by omega,by omega⟩,?_⟩;have C4:=Ac C3 B4;obtain⟨p,rfl,aE⟩:=Dq (hl.grown C4) aO;refine⟨_,by rw [Ale];exact aE,?_⟩;have ek:IntKind.u64.wrap (IntKind.i64.wrap ((i:Int)-(k:Int)))=((i-k:Nat):Int):=by
    rw [wrap_i64 (by omega) (by omega),Aj (by omega) (by omega)];omega
   rw [ek];have iK:=hx _ (AlS aO);have h4:=(h1.grown B3).grown B4;refine (Bh b h4.rd (i-k) (by omega) (by omega)).mono ?_;rintro _ w5 ⟨_,rfl,a5,c5,rfl,h5⟩;have C5:=Ac C4 h5.Ar;have d10:=Al (n:=i-k) (by omega);refine⟨_,_,_,rfl,?_,(Fl _ h5.rd l[k] iK.1 iK.2 (by simp;omega)).mono ?_⟩
   ·obtain⟨p',hp',dr⟩:=Dq (hl.grown C5) aO;cases hp';rw [Ale];exact dr
   rintro _ w6 ⟨_,rfl,a6,c6,rfl,h6⟩;rw [Ae (by omega)];refine⟨_,_,_,rfl,⟨i,i+1,_,a6,c6,rfl,h6.before (Ac h4.Ar h5.Ar),?_,by omega,by omega,λ j hj _=>?_,by omega⟩,?_⟩
   ·rw [hE,Abg aH,show k+(i-k)=i by omega,Fe aO];simp [En]
   ·have:j=0:=by omega
    subst this;rfl
   ·simp only [Ale];omega
  ·obtain⟨aB,heq⟩:=ht2 hf;rw [Ae (by omega)];refine⟨⟨k,i+1,b,a1,c1,rfl,h1.grown B3,hE,by omega,by omega,λ j hj _=>?_,by omega⟩,?_⟩
   ·rcases AlR (k+j) i with h | h
    ·exact aF j h aD
    ·have:k+j=i:=by omega
     rw [this];exact heq
   ·simp only [Ale];omega
 ·have hk:l.length<=k:=by omega
  have hd:l.drop k=[]:=List.drop_of_length_le hk;rw [hd,Ji,Amc] at hE;rw [hE];exact⟨a1,c1,rfl,h1⟩
theorem SL{l:List Int}{i:Nat}(hi:i+1<l.length):(Bz l).take (i+1)=(Bz l).take i++[D8 (IntKind.i64.wrap (l[i+1]-l[i]))]:=by
 have hl:i<(Bz l).length:=by simp [Bz];omega
 rw [Al6 hl];congr 2;simp only [Bz,Amb,List.getElem_range];rw [Fe hi,Fe (by omega)]
theorem YY(h:Bm w0 w bs ba bc)(y8:bs.length<=10)(hl:Rd w0 a (l.map EE))(hn:l.length<=4096)(hx:∀ x∈l,Fs x) :
  Calls Tryz.prog f.AaR #[.slice ba bs.length bc,.slice a l.length c] w (AG λ v w'=>∃ a' c',v=.slice a' (bs++(if l=[] then [] else CM (l.headD 0) (Bz l))).length c'/\Bm w0 w' (bs++(if l=[] then [] else CM (l.headD 0) (Bz l))) a' c'):=by
 apply R.PZ
 delta R.Ad R.Cs R.Cu R.D R.F R.I R.J R.Ks R.Li R.N R.O R.EM R.S R.U R.W R.X;try dsimp only [R.Ps]
 refine Ao (λ h0=>?_) (λ aQ=>?_)
 ·have:l=[]:=Ak3 (by omega);rw [if_pos this,Amc];exact⟨ba,bc,rfl,h⟩
 have hp:0<l.length:=by omega
 have fV:l≠[]:=Amh.1 hp;rw [if_neg fV];have bD:(Bz l).length=l.length-1:=by simp [Bz]
 refine⟨λ s w1=>∃(i:Nat) (a1:Option Addr) (c1:Nat),s=[.slice a1 ((Bz l).take i).length c1,.int .i64 ((i+1:Nat):Int)]/\i+1<=l.length/\Jt w w1 ((Bz l).take i) a1 c1,λ s _=>match s with
   | [_,.int _ i]=>l.length-i.toNat
   | _=>0,⟨0,none,0,rfl,by omega,Jt.nil w⟩,?_⟩
 rintro a1 _ c1 _ w1 ⟨i,_,_,aA,hi,h1⟩;cases aA;have C1:=Ac h.Ar h1.Ar;refine Aa (λ aB=>?_) (λ aI=>?_)
 ·have dS:i+1<l.length:=by omega
  have iV:i<l.length:=by omega
  refine (SH.start (λ _=>False) w1).E5 λ w4 B4 _=>⟨⟨by omega,by omega⟩,?_⟩;have C4:=Ac C1 B4;rw [wrap_i64 (n:=(((i+1:Nat):Int))-1) (by omega) (by omega),show ((((i+1:Nat):Int))-1)=(i:Int) by omega];obtain⟨p,rfl,gC⟩:=Dq (hl.grown C4) dS;obtain⟨p',hp',cG⟩:=Dq (hl.grown C4) iV;cases hp';refine⟨⟨by omega,by omega⟩,_,by rw [Ale];exact gC,_,by rw [Ale];exact cG,?_⟩;have hw:=F1 (l[i+1]-l[i]);refine (Vi _ hw.1 hw.2).mono ?_;rintro _ w5 ⟨_,rfl,rfl,rfl⟩;refine⟨_,rfl,(SH.start (λ _=>False) w5).An λ b6 w6 kb B6 S6=>?_⟩;refine EA ((h1.grown B4).grown B6) (by rw [Al7];omega) rfl (S6.get 0 rfl) λ a7 c7 w7 h7=>⟨_,_,_,rfl,?_⟩;rw [<- SL dS] at h7 ⊢;rw [Ae (by omega)];refine⟨⟨i+1,a7,c7,rfl,by omega,h7⟩,?_⟩;simp only [Ale];omega
 ·have bF:(Bz l).take i=Bz l:=AlK (by omega);rw [bF] at h1 ⊢;obtain⟨p,rfl,aE⟩:=LG (hl.grown C1) hp;have hh:Fs (l.headD 0):=by
   have:=DT hx hp 0;simpa [E7] using this
  refine⟨⟨by omega,by omega⟩,_,aE,(Fl bs (h.grown h1.Ar).rd (l.headD 0) hh.1 hh.2 (by omega)).mono ?_⟩;rintro _ w2 ⟨_,rfl,a2,c2,rfl,h2⟩;have hd:=Al (F2 hh.1 hh.2);refine⟨_,_,_,rfl,(Nx (h2.before C1) (by rw [Alb];omega) (h1.row.rd.grown h2.Ar) (by omega) MF).mono ?_⟩;rintro _ w3 ⟨_,rfl,a3,c3,rfl,h3⟩;refine⟨_,_,_,rfl,a3,c3,?_,?_⟩
  ·simp [CM,En]
  ·have e:bs++Af (D8 (l.headD 0))++(Alj (Fi (Ic (Bz l))) :: A5 (Bz l) (Fi (Ic (Bz l))))=bs++CM (l.headD 0) (Bz l):=by simp [CM,En]
   rw [e] at h3;exact h3
theorem Sp{l:List Int}{i:Nat}(hi:i<l.length):(BI l).take (i+1)=(BI l).take i++[(l[i]-FK l).toNat]:=by
 have hl:i<(BI l).length:=by simpa [BI] using hi
 rw [Al6 hl];congr 2;simp [BI]
theorem Ach{x m:Int}(hx:Fs x)(hm:Fs m)(hle:m<=x):IntKind.u64.wrap (IntKind.u64.wrap x-IntKind.u64.wrap m)=((x-m).toNat:Int):=by
 unfold Fs at hx hm;rw [wrap_u64,wrap_u64,wrap_u64,<- Int.sub_emod];omega
theorem Xd{l:List Int}(h0:0<l.length):E7 l 1=l.headD 0:=by
 cases l with
 | nil=>simp at h0
 | cons y l=>simp [E7]
theorem YX(h:Bm w0 w bs ba bc)(y8:bs.length<=10)(hl:Rd w0 a (l.map EE))(hn:l.length<=4096)(hx:∀ x∈l,Fs x) :
  Calls Tryz.prog f.AaQ #[.slice ba bs.length bc,.slice a l.length c] w (AG λ v w'=>∃ a' c',v=.slice a' (bs++(if l=[] then [] else CM (FK l) (BI l))).length c'/\Bm w0 w' (bs++(if l=[] then [] else CM (FK l) (BI l))) a' c'):=by
 apply R.PY
 delta R.Ad R.Cs R.F R.I R.J R.Ks R.Li R.N R.O R.NH R.EM R.S R.U R.W R.Wu R.X;try dsimp only [R.Ps]
 refine Ao (λ h0=>?_) (λ aQ=>?_)
 ·have:l=[]:=Ak3 (by omega);rw [if_pos this,Amc];exact⟨ba,bc,rfl,h⟩
 have hp:0<l.length:=by omega
 have fV:l≠[]:=Amh.1 hp;rw [if_neg fV];have bD:(BI l).length=l.length:=by simp [BI]
 obtain⟨p,rfl,aE⟩:=LG (hl.grown h.Ar) hp;refine⟨⟨by omega,by omega⟩,_,aE,?_⟩;refine⟨λ s w1=>w1=w/\∃ i:Nat,i<=l.length/\s=[.int .i64 (E7 l i),.int .i64 (i:Int)],λ s _=>match s with
   | [_,.int _ i]=>l.length-i.toNat
   | _=>0,⟨rfl,0,by omega,by simp [E7]⟩,?_⟩
 rintro _ _ w1 ⟨rfl,i,hi,aA⟩;cases aA;refine Aa (λ aB=>⟨⟨by omega,aB⟩,?_⟩) (λ aI=>?_)
 ·have aD:i<l.length:=by omega
  obtain⟨p',hp',hc⟩:=Dq (hl.grown h.Ar) aD;cases hp';refine⟨_,by rw [Ale];exact hc,?_⟩;rw [Ae (by omega),<- N0 aD];refine⟨⟨rfl,i+1,by omega,rfl⟩,?_⟩;simp only [Ale];omega
 have aD:i=l.length:=by omega
 subst aD;have k9:=DT hx hp l.length;have hm:E7 l l.length=FK l:=rfl;rw [hm] at k9 ⊢;refine⟨λ s w2=>∃(i:Nat) (a1:Option Addr) (c1:Nat),s=[.slice a1 ((BI l).take i).length c1,.int .i64 (i:Int)]/\i<=l.length/\Jt w1 w2 ((BI l).take i) a1 c1,λ s _=>match s with
   | [_,.int _ i]=>l.length-i.toNat
   | _=>0,⟨0,none,0,rfl,by omega,Jt.nil w1⟩,?_⟩
 rintro a1 _ c1 _ w2 ⟨i,_,_,aA,hi,h1⟩;cases aA;have C1:=Ac h.Ar h1.Ar;refine Aa (λ aB=>⟨⟨by omega,aB⟩,?_⟩) (λ aI=>?_)
 ·have iV:i<l.length:=by omega
  obtain⟨p',hp',cG⟩:=Dq (hl.grown C1) iV;cases hp';have ag:=AlS iV;refine⟨_,by rw [Ale];exact cG,(SH.start (λ _=>False) w2).An λ b6 w6 kb B6 S6=>?_⟩;rw [Ach (hx _ ag) k9 (MB ag)] at S6;refine EA (h1.grown B6) (by rw [Al7];omega) rfl (S6.get 0 rfl) λ a7 c7 w7 h7=>⟨_,_,_,rfl,?_⟩;rw [<- Sp iV] at h7 ⊢;rw [Ae (by omega)];refine⟨⟨i+1,a7,c7,rfl,by omega,h7⟩,?_⟩;simp only [Ale];omega
 ·have bF:(BI l).take i=BI l:=AlK (by omega);rw [bF] at h1 ⊢;refine (Fl bs (h.grown h1.Ar).rd (FK l) k9.1 k9.2 (by omega)).mono ?_;rintro _ w3 ⟨_,rfl,a2,c2,rfl,h2⟩;have hd:=Al (F2 k9.1 k9.2);refine⟨_,_,_,rfl,(Nx (h2.before C1) (by rw [Alb];omega) (h1.row.rd.grown h2.Ar) (by omega) (My hx)).mono ?_⟩;rintro _ w4 ⟨_,rfl,a3,c3,rfl,h3⟩;refine⟨_,_,_,rfl,a3,c3,?_,?_⟩
  ·simp [CM,En]
  ·have e:bs++Af (D8 (FK l))++(Alj (Fi (Ic (BI l))) :: A5 (BI l) (Fi (Ic (BI l))))=bs++CM (FK l) (BI l):=by simp [CM,En]
   rw [e] at h3;exact h3
end
def JI(f:Int)(l:List Int):Prop:=0<=f/\f<=3/\l.length<=4096
instance (f:Int) (l:List Int):Decidable (JI f l):=by unfold JI;infer_instance
def Kc(f:Int)(l:List Int)(w w':World)(r:Value):Prop :=
 (¬ JI f l/\r=.tuple #[.slice none 0 0,.int .i64 2]/\Below w.heap.size w w')\/(JI f l/\∃ a c,r=.tuple #[.slice a (DR f.toNat l).length c,.int .i64 0]/\Bm w w' (DR f.toNat l) a c)
theorem Pw{l:List Int}{k:Nat}(hk:k<l.length):(l.take (k+1)).flatMap En=(l.take k).flatMap En++En l[k]:=by
 rw [Al6 hk,List.flatMap_append];simp
theorem Fy{w:World}{a:Option Addr}{c:Nat}{l:List Int}(form:Int)(hl:Rd w a (l.map EE))(hx:∀ x∈l,Fs x) :
  Calls Tryz.prog f.YI #[.int .i64 form,.slice a l.length c] w (AG λ v w'=>Kc form l w w' v):=by
 apply R.Oj
 delta R.Ad R.B R.Cs R.F R.H R.I R.J R.Li R.N R.O R.EM R.S R.W R.Wb R.X;try dsimp only [R.Ps]
 have bad:¬ JI form l->Kc form l w w (.tuple #[.slice none 0 0,.int .i64 2]):=λ h=>.inl ⟨h,rfl,.refl _ _⟩;refine Aa (λ h=>bad λ hk=>by have:=hk.1;omega) (λ h1=>Aa (λ h=>bad λ hk=>by have:=hk.2.1;omega) (λ h2=>Aa (λ h=>bad λ hk=>by have:=hk.2.2;omega) (λ h3=>?_)));have aK:JI form l:=⟨by omega,by omega,by omega⟩;have hn:l.length<=4096:=by omega
 obtain⟨fm,rfl⟩:∃ m:Nat,form=(m:Int):=⟨form.toNat,by omega⟩;rw [AE (by omega) (by omega)];refine (SH.start (λ _=>False) w).An λ b3 w1 dG B1 S1=>?_;have hN:Bm w w1 [Alj fm] (some ⟨b3,0,none⟩) 1:=by
  refine⟨⟨rfl,.inr ⟨b3,_,rfl,S1.get 0 rfl,by simp,by omega,rfl,?_⟩⟩,λ k hk=>?_,B1⟩
  ·simp [Cq (show fm<256 by omega)]
  ·cases hk;exact dG
 refine Ao (λ hf=>?_) (λ gg=>Ao (λ hf=>?_) (λ vB=>Ao (λ hf=>?_) (λ hf3=>?_)))
 ·have:fm=1:=by omega
  subst this;refine (Aa1 (c:=c) hN (by simp) hl hn hx).mono ?_;rintro _ w2 ⟨_,rfl,a2,c2,rfl,h2⟩;exact⟨_,_,_,rfl,.inr ⟨aK,a2,c2,rfl,h2⟩⟩
 ·have:fm=2:=by omega
  subst this;refine (YY (c:=c) hN (by simp) hl hn hx).mono ?_;rintro _ w2 ⟨_,rfl,a2,c2,rfl,h2⟩;exact⟨_,_,_,rfl,.inr ⟨aK,a2,c2,rfl,h2⟩⟩
 ·have:fm=3:=by omega
  subst this;refine (YX (c:=c) hN (by simp) hl hn hx).mono ?_;rintro _ w2 ⟨_,rfl,a2,c2,rfl,h2⟩;exact⟨_,_,_,rfl,.inr ⟨aK,a2,c2,rfl,h2⟩⟩
 ·have:fm=0:=by omega
  subst this;refine⟨λ s w5=>∃(i:Nat) (b:List UInt8) (a5:Option Addr) (c5:Nat),s=[.slice a5 b.length c5,.int .i64 (i:Int)]/\i<=l.length/\b=0 :: (l.take i).flatMap En/\Bm w w5 b a5 c5,λ s _=>match s with
    | [_,.int _ i]=>l.length-i.toNat
    | _=>0,⟨0,[0],_,_,rfl,by omega,by simp,hN⟩,?_⟩
  rintro a5 _ c5 _ w5 ⟨i,b,_,_,aA,hi,hb,h5⟩;cases aA;have au:b.length<=1+4096*10:=by
   have:=Lw (l:=l.take i) λ x h=>hx x (Amd h);rw [Al7] at this;rw [hb,Ald];omega
  refine Aa (λ aB=>⟨⟨by omega,aB⟩,?_⟩) (λ aI=>?_)
  ·have aD:i<l.length:=by omega
   obtain⟨p,rfl,hc⟩:=Dq (hl.grown h5.Ar) aD;have dI:=hx _ (AlS aD);refine⟨_,by rw [Ale];exact hc,(Fl b h5.rd l[i] dI.1 dI.2 (by omega)).mono ?_⟩;rintro _ w6 ⟨_,rfl,a6,c6,rfl,h6⟩;rw [Ae (by omega)];refine⟨_,_,_,rfl,⟨i+1,_,a6,c6,rfl,by omega,?_,h6.before h5.Ar⟩,?_⟩
   ·rw [Pw aD,hb];rfl
   ·simp only [Ale];omega
  ·have bF:l.take i=l:=AlK (by omega);rw [bF] at hb;subst hb;exact .inr ⟨aK,a5,c5,rfl,h5⟩
theorem Aag(w:World){d:Int}(h:Fs d):Calls Tryz.prog f.AgA #[.int .i64 d] w (AG λ v w'=>w'=w/\v=.int .u64 (D8 d:Int)):=by
 apply R.UX
 delta R.U R.W R.Wu;try dsimp only [R.Ps]
 rw [AbQ h.1 h.2];exact⟨rfl,rfl⟩
theorem LK{w:World}{a:Option Addr}{c:Nat}{s:List Nat}{fm:Nat}(hf:fm<256){first:Int}(kg:Fs first)(hs:Rd w a (s.map E1))(hn:s.length<=4096)(hx:∀ x∈s,x<18446744073709551616) :
  Calls Tryz.prog f.Aae #[.int .u8 (fm:Int),.int .i64 first,.slice a s.length c] w (AG λ v w'=>∃ a' c',v=.slice a' (Alj fm :: CM first s).length c'/\Bm w w' (Alj fm :: CM first s) a' c'):=by
 apply R.PE
 delta R.B R.AR R.Ci R.Cs R.I R.J R.N R.S R.Wb;try dsimp only [R.Ps]
 refine (IJ hs (by omega) hx).mono ?_;rintro _ w ⟨_,rfl,wd,rfl,iJ,bO,rfl⟩;obtain rfl:=iJ.one (T1 _);refine⟨_,rfl,(JR hs hn bO ((HQ _ _).1 iJ.1)).mono ?_⟩;rintro _ w2 ⟨_,rfl,a2,c2,rfl,h2⟩;obtain⟨wd,hwdd⟩:∃ wd,wd=Fi (Ic s):=⟨_,rfl⟩;rw [<- hwdd] at h2 iJ bO ⊢;have l3:=BR s wd;have l4:DA s.length wd<=4096*64+7:=by
  unfold DA;have:s.length*wd<=4096*64:=Al0 (by omega) bO;omega
 refine⟨_,_,_,_,rfl,(SH.start (λ _=>False) w2).An λ b3 w3 dG B3 S3=>?_⟩;have rv:Rd w3 (some ⟨b3,0,none⟩) ([Alj fm].map Ag):=by
  have:=Rd.Ak (S3.get 0 rfl);simpa [Cq hf] using this
 refine (F0 (c:=1) [Alj fm] rv first kg.1 kg.2 (by simp)).mono ?_;rintro _ w4 ⟨_,rfl,a4,c4,rfl,h4⟩;rw [AE (by omega) (by omega)];refine⟨_,_,_,rfl,(SH.start (λ _=>False) w4).An λ b5 w5 fg B5 S5=>S5.An λ b6 w6 kb B6 S6=>?_⟩;have hd:=Al (F2 kg.1 kg.2);have hc:=Bo (w:=w6) (a:=some ⟨b6,0,none⟩) (c:=3) [(a4,c4,[Alj fm]++Af (D8 first)),(some ⟨b5,0,none⟩,1,[Alj wd]),(a2,c2,A5 s wd)] (by
   have:=Rd.Ak (S6.get 0 rfl);simpa [Cc] using this) (by
   intro p hp;simp only [AkV,Amf,or_false] at hp;rcases hp with rfl | rfl | rfl
   ·exact (h4.rd.grown B5).grown B6
   ·have:=Rd.Ak (S6.get 1 rfl);simpa [Cq (show wd<256 by omega)] using this
   ·exact (((h2.rd.grown B3).grown h4.Ar).grown B5).grown B6) (by simp) (by rw [WY];simp;omega)
 refine hc.mono ?_;rintro _ w7 ⟨_,rfl,a7,c7,rfl,h7⟩;rw [WY] at h7 ⊢;have e:[Alj fm]++Af (D8 first)++([Alj wd]++A5 s wd)=Alj fm :: CM first s:=by simp [CM,En,hwdd]
 simp only at h7 ⊢;rw [e] at h7 ⊢;exact⟨_,_,_,rfl,a7,c7,rfl,h7.before (Ac (Ac (Ac (Ac h2.Ar B3) h4.Ar) B5) B6)⟩
section
variable {w:World}{a:Option Addr}{c:Nat}{l:List Int}
theorem Ws(hl:Rd w a (l.map EE))(h0:0<l.length)(hn:l.length<=1000000) :
  Calls Tryz.prog f.J4 #[.slice a l.length c] w (AG λ v w'=>w'=w/\v=.int .i64 (FK l)):=by
 apply R.G7
 delta R.Ad R.F R.I R.Li R.NH R.W R.X;try dsimp only [R.Ps]
 obtain⟨p,rfl,aE⟩:=LG hl h0;refine Aa (λ h=>by omega) (λ _=>⟨⟨by omega,by omega⟩,_,aE,?_⟩);refine⟨λ s w1=>w1=w/\∃ i:Nat,i<=l.length/\s=[.int .i64 (E7 l i),.int .i64 (i:Int)],λ s _=>match s with
   | [_,.int _ i]=>l.length-i.toNat
   | _=>0,⟨rfl,1,by omega,by rw [Xd h0];rfl⟩,?_⟩
 rintro _ _ w1 ⟨rfl,i,hi,aA⟩;cases aA;refine Aa (λ aB=>⟨⟨by omega,aB⟩,?_⟩) (λ aI=>⟨rfl,?_⟩)
 ·have aD:i<l.length:=by omega
  obtain⟨p',hp',hc⟩:=Dq hl aD;cases hp';refine⟨_,by rw [Ale];exact hc,?_⟩;rw [Ae (by omega),<- N0 aD];refine⟨⟨rfl,i+1,by omega,rfl⟩,?_⟩;simp only [Ale];omega
 ·have:i=l.length:=by omega
  subst this;rfl
theorem AdS{q:Nat}{vs:List Value}(h:Rd w a vs)(hc:vs.length<=c):Rd w (Cm a q c 1) (vs.drop q):=by
 have h:=h.OY q vs.length c 1 hc;rw [Alh,Alh] at h;have e:(vs.drop q).take (vs.length-q)=vs.drop q:=AlK (by simp);rwa [e] at h
theorem US:Calls Tryz.prog f.Sr #[.slice a l.length c] w (AG λ v w'=>∃ b,v=.func (.func f.LH) #[] #[.pointer (some ⟨b,0,none⟩)]/\SH (λ _=>False) w w' [(b,#[.slice a l.length c],ty.Bk)]):=by
 apply R.PD
 delta R.J R.N R.P R.S;try dsimp only [R.Ps]
 exact (SH.start (λ _=>False) w).An λ b1 w1 _ _ S1=>⟨b1,rfl,S1⟩
theorem Yj{L b:Nat}(hc:l.length<=c)(hn:l.length<=1000000)(J:Nat->World->Prop)(cw:∀ k w,J k w->Rd w a (l.map EE))(lS:∀ k w w',J k w->Ai (·=b) w w'->J k w')
  (ae:∀ k n w,k<l.length->Adr l k n->J k w->O8 Tryz.prog L #[.int .i64 (n:Int),.int .i64 (l.getD k 0)] (λ y w'=>y=true/\J (k+n) w'/\w'.heap[b]?=w.heap[b]?) w)
  (h0:J 0 w) (hb:w.heap[b]?=some (.cells #[.slice a l.length c] ty.Bk (0,0))) :
  Calls Tryz.prog f.LH #[.func (.yield L) #[] #[],.pointer (some ⟨b,0,none⟩)] w (AG λ _ w'=>J l.length w'):=by
 apply R.LI
 delta R.A R.Ad R.D R.F R.H R.I R.Li R.Ls R.Q R.Qi R.S R.Am R.W R.X R.Y R.Zi;try dsimp only [R.Ps]
 have cell_of:∀ {w':World} {v:Value},w'.heap[b]?=some (.cells #[v] ty.Bk (0,0))->w'.cell? ⟨b,0,none⟩=some v:=λ h=>by simp [World.cell?,h]
 refine⟨λ s w1=>s=[]/\∃(k:Nat) (ak:Option Addr) (ck:Nat),k<=l.length/\J k w1/\w1.heap[b]?=some (.cells #[.slice ak (l.length-k) ck] ty.Bk (0,0))/\l.length-k<=ck/\(∀ w,Rd w a (l.map EE)->Rd w ak ((l.drop k).map EE)),λ _ w=>match w.cell? ⟨b,0,none⟩ with
   | some (.slice _ n _)=>n
   | _=>0,⟨rfl,0,a,c,by omega,h0,by simpa using hb,by omega,λ w h=>by simpa using h⟩,?_⟩
 rintro w1 ⟨_,k,ak,ck,hk,hj,cI,hck,hr⟩;refine⟨_,_,_,cell_of cI,Aa (λ iE=>?_) (λ hz=>?_)⟩
 ·have aO:k<l.length:=by omega
  refine⟨λ s w4=>∃ n:Nat,s=[.int .i64 (n:Int)]/\Adr l k n/\J k w4/\w4.heap[b]?=some (.cells #[.slice ak (l.length-k) ck] ty.Bk (0,0)),?_,?_⟩
  ·have one:∀ j,j<1->l[k+j]?=l[k]?:=by
    intro j hj;have:j=0:=by omega
    subst this;rfl
   refine⟨λ s w2=>∃ n:Nat,s=[.int .i64 (n:Int)]/\0<n/\k+n<=l.length/\(∀ j,j<n->l[k+j]?=l[k]?)/\J k w2/\w2.heap[b]?=some (.cells #[.slice ak (l.length-k) ck] ty.Bk (0,0)),λ s _=>match s with
     | [.int _ i]=>l.length-i.toNat
     | _=>0,⟨1,rfl,by omega,by omega,one,hj,cI⟩,?_⟩
   rintro _ w2 ⟨n,aA,ct,bn,aF,qG,dF⟩;cases aA;unfold QI;have od:J k w2.drew:=lS _ _ _ qG ((Ai.refl _ _).drew);have dG:w2.drew.heap[b]?=some (.cells #[.slice ak (l.length-k) ck] ty.Bk (0,0)):=dF;refine⟨_,_,_,cell_of dG,Aa (λ aB=>?_) (λ aI=>⟨n,rfl,⟨ct,bn,aF,.inl (by omega)⟩,od,dG⟩)⟩;have ry:=hr _ (cw _ _ od);have kq:k+n<l.length:=by omega
   have jL:n<(l.drop k).length:=by rw [AlE];omega
   have uw:0<(l.drop k).length:=by omega
   obtain⟨p,rfl,gC⟩:=Dq ry jL;obtain⟨p',hp',cG⟩:=Dq ry uw;cases hp';rw [Amg,C0] at cG;refine⟨_,_,_,cell_of dG,⟨by omega,by omega⟩,_,by rw [Ale];exact gC,_,_,_,cell_of dG,⟨by omega,by omega⟩,_,cG,?_⟩;have e1:(l.drop k)[n]=l[k+n]:=by simp
   have e2:(l.drop k)[0]=l[k]:=by simp
   rw [e1,e2];refine Ao (λ he=>?_) (λ aQ=>⟨n,rfl,⟨ct,bn,aF,.inr ?_⟩,od,dG⟩)
   ·rw [Ae (by omega)];refine⟨⟨n+1,rfl,by omega,by omega,λ j hj=>?_,od,dG⟩,?_⟩
    ·rcases AlR j n with h | h
     ·exact aF j h
     ·have:j=n:=by omega
      subst this;rw [Al5 kq,Al5 aO,he]
    ·simp only [Ale];omega
   ·rw [Al5 kq,Al5 aO];simpa using aQ
  rintro _ w4 ⟨n,aA,aH,yH,jy⟩;cases aA;have eR:=aH.pos;have gI:=aH.le;have ry:=hr _ (cw _ _ yH);have uw:0<(l.drop k).length:=by rw [AlE];omega
  obtain⟨p',hp',cG⟩:=Dq ry uw;subst hp';rw [Amg,C0] at cG;have e2:(l.drop k)[0]=l.getD k 0:=by simp [aO]
  rw [e2] at cG;refine⟨_,_,_,cell_of jy,⟨by omega,by omega⟩,_,cG,?_⟩;obtain⟨fn,tm,asg,bo,hy,hrr⟩:=ae k n w4 aO aH yH;refine⟨fn,tm,asg,bo,hy,hrr.mono ?_⟩;rintro e w5 ⟨y,he,rfl,ri,fg⟩;rw [jy] at fg;refine⟨true,he,AV ⟨_,_,_,cell_of fg,⟨by omega,by omega,by omega⟩,?_⟩⟩;rw [Ale];refine EZ fg (by simp) λ w6 K6 kb=>?_;have mg:w6.heap[b]?=some (.cells #[.slice (Cm (some p') n ck 1) (l.length-k-n) (ck-n)] ty.Bk (0,0)):=kb;have ek:l.length-k-n=l.length-(k+n):=by omega
  rw [ek] at mg;refine⟨⟨rfl,k+n,_,_,by omega,lS _ _ _ ri K6,mg,by omega,λ w h=>?_⟩,?_⟩
  ·have:=AdS (q:=n) (c:=ck) (hr w h) (by simp;omega);rwa [<- AlF,List.drop_drop] at this
  ·show (match w6.cell? ⟨b,0,none⟩ with | some (.slice _ n _)=>n | _=>0)<(match w1.cell? ⟨b,0,none⟩ with | some (.slice _ n _)=>n | _=>0);rw [cell_of mg,cell_of cI];simp only;omega
 ·have:k=l.length:=by omega
  subst this;exact hj
end
theorem Du{w:World}{b:Nat}{v:Value}{t:TypeId}{f:Nat × Nat}(h:w.heap[b]?=some (.cells #[v] t f)):w.cell? ⟨b,0,none⟩=some v:=by simp [World.cell?,h]
section
variable {w:World}{a:Option Addr}{c:Nat}{l:List Int}
structure GR(w:World)(b4:Nat)(F:Nat->Prop)(wx:World)(bs:List UInt8):Prop where
 ex:∃(ba:Option Addr) (bc:Nat),wx.heap[b4]?=some (.cells #[.slice ba bs.length bc] ty.AH (0,0))/\Row wx ty.uint8 1 ba bs.length bc (bs.map Ag)/\∀ x,AD ba=some x->w.heap.size<=x/\x≠b4/\¬ F x
theorem GR.keeps{w wx wy:World}{b4:Nat}{F G:Nat->Prop}{bs:List UInt8}(h:GR w b4 F wx bs)(K:Ai G wx wy)(h4:¬ G b4)(hG:∀ x,G x->F x\/wx.heap.size<=x):GR w b4 F wy bs:=by
 obtain⟨ba,bc,h1,h2,h3⟩:=h.ex;refine⟨ba,bc,K.at h1 h4,h2.keeps K λ x hx hg=>?_,h3⟩;rcases hG x hg with h | h
 ·exact (h3 x hx).2.2 h
 ·have:=h2.lt hx;omega
theorem Yn{w w3:World}{b4:Nat}(hl:Rd w a (l.map EE))(hc:l.length<=c)(hn:l.length<=4096)(hx:∀ x∈l,Fs x)(B:Below w.heap.size w w3)(uU:w.heap.size<=b4)
  (hH:GR w b4 (λ _=>False) w3 [1]) {k:Value->World->Prop} (hk:∀ w',Below w.heap.size w w'->GR w b4 (λ _=>False) w' (DR 1 l)->∀ ba bc,w'.cell? ⟨b4,0,none⟩=some (.slice ba (DR 1 l).length bc)->k (.tuple #[.slice ba (DR 1 l).length bc,.int .i64 0]) w') :
  Calls Tryz.prog f.Sr #[.slice a l.length c] w3 (λ e_15 w7=>∃(t52_14:FuncId) (t52_14f t52_14c:Array Value),e_15=.returned (.func (.func t52_14) t52_14f t52_14c)/\enters Tryz.prog t52_14=true/\∀ rr_16:Loop,rr_16.state=.ready->rr_16.pending=none->(∀(t53_17:Int),∀(t54_18:Int),∀(k_16:Bool->World->Prop) (w8:World),w8.heap[(w7.heap.size+1)]?=some (.loop rr_16)->(QG rr_16 (w7.heap.size+1) (λ w9=>∃(t55_19:Option Addr) (t55_19l t55_19c:Nat),w9.cell? ⟨b4,0,none⟩=some (.slice t55_19 t55_19l t55_19c) /\
   Calls Tryz.prog f.SS #[.slice t55_19 t55_19l t55_19c,.int .u64 (IntKind.u64.wrap (t53_17))] w9 (λ e_21 bV=>∃(t58_20:Option Addr) (t58_20l t58_20c:Nat),e_21=.returned (.slice t58_20 t58_20l t58_20c)/\Calls Tryz.prog f.SU #[.slice t58_20 t58_20l t58_20c,.int .i64 t54_18] bV (λ e_23 aY=>∃(t60_22:Option Addr) (t60_22l t60_22c:Nat),e_23=.returned (.slice t60_22 t60_22l t60_22c)/\DY ⟨b4,0,none⟩ (.slice t60_22 t60_22l t60_22c) (λ bK=>Gb rr_16 (w7.heap.size+1) k_16 none bK) aY))) w8)->O8 Tryz.prog (w7.heap.size+1) #[.int .i64 t53_17,.int .i64 t54_18] k_16 w8) ->
   Calls Tryz.prog t52_14 ⟨t52_14f.toList++[.func (.yield (w7.heap.size+1)) #[] #[]]++t52_14c.toList⟩ ((w7.alloc (.deferred (some []))).alloc (.loop rr_16)) (λ e_24 al=>(∃ v,e_24=.returned v)/\QJ rr_16 (w7.heap.size+1) (λ j_24 an=>(j_24=none/\∃(t112_25:Option Addr) (t112_25l t112_25c:Nat),an.cell? ⟨b4,0,none⟩=some (.slice t112_25 t112_25l t112_25c)/\an.heap[w7.heap.size]?=some (.deferred (some []))/\k (.tuple #[.slice t112_25 t112_25l t112_25c,.int .i64 0]) (an.putObj w7.heap.size (.deferred none)))) al)):=by
 have hlen:=MD 4096 l hn (by omega) hx;refine US.mono ?_;rintro _ w9 ⟨_,rfl,bI,rfl,S9⟩;refine⟨_,_,_,rfl,by kernel_rfl,λ rr aA dW hy=>?_⟩;obtain⟨W1,hW1⟩:∃ W1,W1=(w9.alloc (.deferred (some []))).alloc (.loop rr):=⟨_,rfl⟩;rw [<- hW1];have fq:Below w9.heap.size w9 W1:=by rw [hW1];exact (((Below.refl _ w9).alloc (Ak8 _) _).alloc (by simp) _)
 have sL:W1.heap.size=w9.heap.size+2:=by rw [hW1];simp
 have gX:W1.heap[w9.heap.size+1]?=some (.loop rr):=by
  rw [hW1];have:=World.alloc_heap_new (w9.alloc (.deferred (some []))) (.loop rr);rwa [World.size_alloc] at this
 have kP:W1.heap[w9.heap.size]?=some (.deferred (some [])):=by
  rw [hW1];exact (Below.heap_alloc _ _ _ (by simp)).trans (World.alloc_heap_new w9 _)
 have eB:=Ai.AA (F:=λ _=>False) fq;obtain⟨L,hLd⟩:∃ L,L=w9.heap.size+1:=⟨_,rfl⟩;rw [<- hLd] at gX hy ⊢;obtain⟨ba0,bc0,e1,e2,e3⟩:=hH.ex;have jy:b4<w3.heap.size:=(AlQ.1 e1).1;have hbI:w3.heap.size<=bI:=by simpa using S9.own (bI,_,_) (AlN ..)
 have hbI9:bI<w9.heap.size:=S9.lt (x:=(bI,_,_)) (AlN ..);have ix:=S9.below;have Bw1:Below w.heap.size w W1:=(Ac B ix).trans (fq.mono (Ac B ix).size);have w03:=B.size;have kH:=ix.size;have hI1:W1.heap[bI]?=some (.cells #[.slice a l.length c] ty.Bk (0,0)):=eB.at (S9.get 0 rfl) (by simp);let F:Nat->Prop:=λ x=>x=L\/x=bI\/x=w9.heap.size;have hJ0:GR w b4 F W1 [1]:=by
  refine⟨ba0,bc0,eB.at ((Ai.AA (F:=λ _=>False) ix).at e1 (by simp)) (by simp),(e2.grown ix).grown fq,λ x hx=>⟨(e3 x hx).1,(e3 x hx).2.1,?_⟩⟩;have:=e2.lt hx;show ¬ (x=L\/x=bI\/x=w9.heap.size);omega
 let J:Nat->World->Prop:=λ q wx=>Ai (λ x=>x=b4\/x=L\/x=bI) W1 wx/\wx.heap[L]?=some (.loop rr)/\∃ bs,GR w b4 F wx bs/\1 :: E8 l=bs++E8 (l.drop q);have low:∀ {w':World},Ai (λ x=>x=b4\/x=L\/x=bI) W1 w'->Below w.heap.size w w':=λ K=>Bw1.trans (K.below Bw1.size λ k hk h=>by omega);have ay:=Yj (w:=W1) (L:=L) (b:=bI) hc (by omega) J (λ q wx hj=>hl.grown (low hj.1)) (λ q wx wy hj K=>by
   obtain⟨j1,j2,bs,j3,j4⟩:=hj;exact⟨j1.trans K (λ x _ h=>.inr (.inr h)),K.at j2 (by show ¬ L=bI;omega),bs,j3.keeps K (by show ¬ b4=bI;omega) (λ x h=>.inl (.inr (.inl h))),j4⟩) (by
  rintro q n wx hq aH ⟨K,hL,bs,uC,hE⟩;obtain⟨ba,bc,f1,f2,f3⟩:=uC.ex;have au:bs.length<=1+4096*20:=by
   have:=congrArg List.length hE;simp only [Alb,Ald] at this;omega
  have qQ:=aH.le;have ct:=aH.pos;refine hy _ _ _ wx hL ⟨hL,?_⟩;obtain⟨aY,hw11⟩:∃ aY,aY=wx.putObj L (.loop { rr with state:=.busy }):=⟨_,rfl⟩;rw [<- hw11];have eM:L<wx.heap.size:=(AlQ.1 hL).1;have eL:Ai (λ k=>k=L) wx aY:=by rw [hw11];exact AN _ _ _
  have iy:aY.heap[L]?=some (.loop { rr with state:=.busy }):=by rw [hw11];exact World.putObj_heap_same eM
  have g1:=eL.at f1 (show ¬ b4=L by omega);have g2:=f2.keeps eL λ x hx he=>(f3 x hx).2.2 (.inl he);rw [Aj (by omega) (by omega)];refine⟨_,_,_,Du g1,(Bg bs g2.rd n (by omega) (by omega)).mono ?_⟩;rintro _ bK ⟨_,rfl,a12,oM,rfl,ff⟩;have d10:=Al (n:=n) (by omega);have ye:Fs (l.getD q 0):=by rw [Fe hq];exact hx _ (AlS hq)
  refine⟨_,_,_,rfl,(F0 _ ff.rd _ ye.1 ye.2 (by rw [Alb];omega)).mono ?_⟩;rintro _ al ⟨_,rfl,m9,oN,rfl,jw⟩;have ie:=Ac ff.Ar jw.Ar;have kI:=Ai.AA (F:=λ _=>False) ie;have g3:=kI.at g1 (by simp);refine⟨_,_,_,rfl,EZ g3 (by simp) λ an il kX=>?_⟩;have s11:aY.heap.size=wx.heap.size:=by rw [hw11];simp
  have sx:=K.size;have sz12:=ff.Ar.size;have dN:an.heap[L]?=some (.loop { rr with state:=.busy }):=il.at (kI.at iy (by simp)) (by show ¬ L=b4;omega);refine⟨dN,rfl,?_⟩;rw [IU aA dW];have jW:L<an.heap.size:=(AlQ.1 dN).1;have KP:=AN an L (.loop rr);have KK:Ai (λ x=>x=b4\/x=L) wx (an.putObj L (.loop rr)) :=
   (((eL.mono (G:=λ x=>x=b4\/x=L) (λ x _ h=>.inr h)).trans kI (λ x _ h=>h.elim)).trans il (λ x _ h=>.inl h)).trans KP (λ x _ h=>.inr h)
  have jn:∀ x,AD m9=some x->wx.heap.size<=x:=λ x hx=>by have:=jw.new x hx;omega
  have zL:Row (an.putObj L (.loop rr)) ty.uint8 1 m9 (bs++Af n++Af (D8 (l.getD q 0))).length oN ((bs++Af n++Af (D8 (l.getD q 0))).map Ag) :=
   (jw.row.keeps il λ x hx he=>by have:=jn x hx;have:=(AlQ.1 f1).1;omega).keeps KP λ x hx he=>by have:=jn x hx;omega
  refine⟨⟨K.trans KK (λ x _ h=>by rcases h with h | h <;> simp [h]),World.putObj_heap_same jW,_,⟨m9,oN,?_,zL,λ x hx=>?_⟩,?_⟩,?_⟩
  ·exact KP.at kX (by show ¬ b4=L;omega)
  ·have:=jn x hx;have:=Bw1.size;refine⟨by omega,by omega,?_⟩;show ¬ (x=L\/x=bI\/x=w9.heap.size);omega
  ·rw [hE,Abg aH];simp [En]
  ·exact KK.block bI (by omega) (by show ¬ (bI=b4\/bI=L);omega)) ⟨.refl _ _,gX,[1],hJ0,by simp⟩ hI1
 refine ay.mono ?_;rintro _ an ⟨_,rfl,il,dN,bs,uC,hE⟩;have hd:l.drop l.length=[]:=by simp
 rw [hd,Ji,Amc] at hE;subst hE;refine⟨⟨_,rfl⟩,none,by rw [IU aA dW];exact dN,rfl,?_⟩;obtain⟨ah,hw15⟩:∃ ah,ah=an.putObj L (.loop { rr with state:=.exhausted,pending:=none }):=⟨_,rfl⟩;rw [<- hw15];have fu:Ai (λ k=>k=L) an ah:=by rw [hw15];exact AN _ _ _
 have xM:=uC.keeps fu (show ¬ b4=L by omega) (λ x h=>.inl (.inl h));have KF:=il.trans fu (λ x _ h=>.inr (.inl h));have gA:ah.heap[w9.heap.size]?=some (.deferred (some [])):=KF.at kP (by show ¬ (w9.heap.size=b4\/w9.heap.size=L\/w9.heap.size=bI);omega);have KD:=AN ah w9.heap.size (.deferred none);have z8:=xM.keeps KD (show ¬ b4=w9.heap.size by omega) (λ x h=>.inl (.inr (.inr h)));have dm:=low KF;obtain⟨ba,bc,f1,f2,f3⟩:=xM.ex;obtain⟨ir,mD,f1',f2',f3'⟩:=z8.ex;refine⟨_,_,_,Du f1,gA,hk _ (dm.trans (KD.below dm.size λ k hk he=>by omega)) ⟨ir,mD,f1',f2',λ x hx=>⟨(f3' x hx).1,(f3' x hx).2.1,λ h=>h⟩⟩ ba bc ?_⟩;have:=KD.at f1 (show ¬ b4=w9.heap.size by omega);exact Du this
theorem HK(form:Int)(hl:Rd w a (l.map EE))(hc:l.length<=c)(hx:∀ x∈l,Fs x) :
  Calls Tryz.prog f.Aad #[.int .i64 form,.slice a l.length c] w (AG λ v w'=>Kc form l w w' v):=by
 apply R.PC
 delta R.A R.Ad R.B R.Cf R.Ci R.Cs R.Cu R.F R.H R.I R.J R.Ks R.Li R.Ls R.N R.O R.Qi R.EM R.S R.Am R.U R.W R.Wb R.Wu R.X R.Y;try dsimp only [R.Ps]
 have bad:¬ JI form l->Kc form l w w (.tuple #[.slice none 0 0,.int .i64 2]):=λ h=>.inl ⟨h,rfl,.refl _ _⟩;refine Aa (λ h=>bad λ hk=>by have:=hk.1;omega) (λ h1=>Aa (λ h=>bad λ hk=>by have:=hk.2.1;omega) (λ h2=>Aa (λ h=>bad λ hk=>by have:=hk.2.2;omega) (λ h3=>?_)));have aK:JI form l:=⟨by omega,by omega,by omega⟩;have hn:l.length<=4096:=by omega
 obtain⟨fm,rfl⟩:∃ m:Nat,form=(m:Int):=⟨form.toNat,by omega⟩;rw [AE (by omega) (by omega)];refine (SH.start (λ _=>False) w).An λ b3 w1 dG B1 S1=>S1.An λ b4 w2 jy B2 S2=>S2.Abt 0 rfl (show 0<1 by decide) λ w3 K3 S3=>?_;have k7:fm<256:=by omega
 have B3:=S3.below;have jD:b3≠b4:=S3.ne 1 0 rfl rfl (by decide);have uT:w.heap.size<=b3:=dG;have po:w.heap.size<=b4:=by have:=B1.size;omega
 have hN:Bm w w3 [Alj fm] (some ⟨b3,0,none⟩) 1:=by
  refine⟨⟨rfl,.inr ⟨b3,_,rfl,S3.get 1 rfl,by simp,by omega,rfl,?_⟩⟩,λ k hk=>?_,B3⟩
  ·simp [Cq k7]
  ·cases hk;exact dG
 have nE:w3.heap[b4]?=some (.cells #[.slice (some ⟨b3,0,none⟩) 1 1] ty.AH (0,0)):=S3.get 0 rfl;have fin:∀ {wx:World} {bs:List UInt8} {ba:Option Addr} {bc:Nat},Bm w wx bs ba bc->bs=DR fm l->Kc (fm:Int) l w wx (.tuple #[.slice ba bs.length bc,.int .i64 0]):=by
  rintro wx bs ba bc h rfl;exact .inr ⟨aK,ba,bc,by rw [Ale],by rw [Ale];exact h⟩
 refine Ao (λ hz=>⟨_,_,_,Du nE,?_⟩) (λ jb=>?_)
 ·have nL:l=[]:=Ak3 (by omega);refine fin hN ?_;subst nL;rcases (by omega:fm=0\/fm=1\/fm=2\/fm=3) with rfl | rfl | rfl | rfl
  ·rfl
  ·show _=1 :: E8 [];rw [Ji];rfl
  ·rfl
  ·rfl
 have hp:0<l.length:=by omega
 have fV:l≠[]:=Amh.1 hp;refine Ao (λ hf=>?_) (λ fQ=>Ao (λ hf=>?_) (λ gg=>Ao (λ hf=>?_) (λ vB=>Ao (λ hf=>?_) (λ hf3=>by omega))))
 ·have:fm=0:=by omega
  subst this;refine⟨λ s w5=>∃(i:Nat) (b:List UInt8) (a5:Option Addr) (c5:Nat),s=[.int .i64 (i:Int)]/\i<=l.length/\b=0 :: (l.take i).flatMap En/\Bm w w5 b a5 c5/\w5.heap[b4]?=some (.cells #[.slice a5 b.length c5] ty.AH (0,0))/\(∀ x,AD a5=some x->x≠b4),λ s _=>match s with
    | [.int _ i]=>l.length-i.toNat
    | _=>0,⟨0,[0],_,_,rfl,by omega,by simp,hN,nE,λ x hx=>by cases hx;exact jD⟩,?_⟩
  rintro _ w5 ⟨i,b,a5,c5,aA,hi,hb,h5,g5,n5⟩;cases aA;have au:b.length<=1+4096*10:=by
   have:=Lw (l:=l.take i) λ x h=>hx x (Amd h);rw [Al7] at this;rw [hb,Ald];omega
  refine Aa (λ aB=>⟨⟨by omega,aB⟩,?_⟩) (λ aI=>⟨_,_,_,Du g5,?_⟩)
  ·have aD:i<l.length:=by omega
   obtain⟨p,rfl,hc⟩:=Dq (hl.grown h5.Ar) aD;have dI:=hx _ (AlS aD);refine⟨_,by rw [Ale];exact hc,_,_,_,Du g5,(F0 b h5.rd l[i] dI.1 dI.2 (by omega)).mono ?_⟩;rintro _ w6 ⟨_,rfl,a6,c6,rfl,h6⟩;have g6:=(Ai.AA (F:=λ _=>False) h6.Ar).at g5 (by simp);have l5:b4<w5.heap.size:=(AlQ.1 g5).1;refine⟨_,_,_,rfl,EZ g6 (by simp) λ w7 K7 g7=>?_⟩;rw [Ae (by omega)];have gW:=h6.before h5.Ar;have n6:∀ x,AD a6=some x->x≠b4:=λ x hx=>by have:=h6.new x hx;omega
   refine⟨⟨i+1,_,a6,c6,rfl,by omega,?_,⟨gW.row.keeps K7 λ x hx he=>n6 x hx he,gW.new,gW.Ar.trans (K7.below gW.Ar.size λ k hk he=>by omega)⟩,g7,n6⟩,?_⟩
   ·rw [Pw aD,hb];rfl
   ·simp only [Ale];omega
  ·have bF:l.take i=l:=AlK (by omega);rw [bF] at hb;exact fin h5 hb
 ·have:fm=1:=by omega
  subst this;refine Yn (k:=λ v w'=>Kc ((1:Nat):Int) l w w' v) hl hc hn hx B3 po ⟨_,_,nE,hN.row,λ x hx=>by cases hx;exact⟨dG,jD,λ h=>h⟩⟩ ?_;rintro w' B' ⟨ir,mD,f1,f2,f3⟩ ba bc aE;have e:=(Du f1).symm.trans aE;simp only [Option.some.injEq,Value.slice.injEq,true_and] at e;obtain⟨rfl,rfl⟩:=e;exact fin ⟨f2,λ k hk=>(f3 k hk).1,B'⟩ rfl
 ·have:fm=2:=by omega
  subst this;have bD:(Bz l).length=l.length-1:=by simp [Bz]
  refine⟨⟨by omega,by omega,by omega⟩,λ s w1=>∃(i:Nat) (a1:Option Addr) (c1:Nat),s=[.slice a1 ((Bz l).take i).length c1,.int .i64 (i:Int)]/\i+1<=l.length/\Jt w3 w1 ((Bz l).take i) a1 c1,λ s _=>match s with
   | [_,.int _ i]=>l.length-i.toNat
   | _=>0,⟨0,none,0,rfl,by omega,Jt.nil w3⟩,?_⟩
  rintro a1 _ c1 _ ah ⟨i,_,_,aA,hi,h1⟩;cases aA;have C1:=Ac B3 h1.Ar;refine Aa (λ aB=>⟨⟨by omega,by omega⟩,?_⟩) (λ aI=>?_)
  ·have dS:i+1<l.length:=by omega
   have iV:i<l.length:=by omega
   have qY:=AdS (q:=1) (hl.grown C1) (by rw [List.length_map];exact hc);rw [<- AlF] at qY;have jL:i<(l.drop 1).length:=by rw [AlE];omega
   obtain⟨p1,hp1,gC⟩:=Dq qY jL;rw [hp1];have e1:(l.drop 1)[i]=l[i+1]:=by simp
   rw [e1] at gC;obtain⟨p,rfl,cG⟩:=Dq (hl.grown C1) iV;refine⟨_,by rw [Ale];exact gC,⟨by omega,by omega⟩,_,by rw [Ale];exact cG,?_⟩;refine (Aag ah (F1 (l[i+1]-l[i]))).mono ?_;rintro _ w5 ⟨_,rfl,rfl,rfl⟩;refine⟨_,rfl,(SH.start (λ _=>False) w5).An λ b6 w6 kb B6 S6=>?_⟩;refine EA (h1.grown B6) (by rw [Al7];omega) rfl (S6.get 0 rfl) λ a7 c7 w7 h7=>⟨_,_,_,rfl,?_⟩;rw [<- SL dS] at h7 ⊢;rw [Ae (by omega)];refine⟨⟨i+1,a7,c7,rfl,by omega,h7⟩,?_⟩;simp only [Ale];omega
  ·have bF:(Bz l).take i=Bz l:=AlK (by omega);rw [bF] at h1 ⊢;obtain⟨p,rfl,aE⟩:=LG (hl.grown C1) hp;have hh:Fs (l.headD 0):=by
    have:=DT hx hp 0;simpa [E7] using this
   refine⟨⟨by omega,by omega⟩,_,aE,(LK (fm:=2) (by omega) hh h1.row.rd (by omega) MF).mono ?_⟩;rintro _ w6 ⟨_,rfl,a6,c6,rfl,h6⟩;have g6:=(Ai.AA (F:=λ _=>False) (Ac h1.Ar h6.Ar)).at nE (by simp);have l3:b4<w3.heap.size:=(AlQ.1 nE).1;have s13:=h1.Ar.size;refine⟨_,_,_,rfl,EZ g6 (by simp) λ w7 K7 g7=>⟨_,_,_,Du g7,?_⟩⟩;have gW:=h6.before C1;exact fin ⟨gW.row.keeps K7 λ x hx he=>by have:=h6.new x hx;omega,gW.new,gW.Ar.trans (K7.below gW.Ar.size λ k hk he=>by omega)⟩ (by simp only [DR];rw [if_neg fV];rfl)
 ·have:fm=3:=by omega
  subst this;have bD:(BI l).length=l.length:=by simp [BI]
  have k9:=DT hx hp l.length;have hm:E7 l l.length=FK l:=rfl;rw [hm] at k9;refine (Ws (hl.grown B3) hp (by omega)).mono ?_;rintro _ w3 ⟨_,rfl,rfl,rfl⟩;refine⟨_,rfl,λ s w1=>∃(i:Nat) (a1:Option Addr) (c1:Nat),s=[.slice a1 ((BI l).take i).length c1,.int .i64 (i:Int)]/\i<=l.length/\Jt w3 w1 ((BI l).take i) a1 c1,λ s _=>match s with
   | [_,.int _ i]=>l.length-i.toNat
   | _=>0,⟨0,none,0,rfl,by omega,Jt.nil w3⟩,?_⟩
  rintro a1 _ c1 _ ah ⟨i,_,_,aA,hi,h1⟩;cases aA;have C1:=Ac B3 h1.Ar;refine Aa (λ aB=>⟨⟨by omega,by omega⟩,?_⟩) (λ aI=>?_)
  ·have iV:i<l.length:=by omega
   obtain⟨p,rfl,cG⟩:=Dq (hl.grown C1) iV;have ag:=AlS iV;refine⟨_,by rw [Ale];exact cG,(SH.start (λ _=>False) ah).An λ b6 w6 kb B6 S6=>?_⟩;have ew:IntKind.u64.wrap (IntKind.i64.wrap (l[i]-FK l))=((l[i]-FK l).toNat:Int):=by
    have q1:=hx _ ag;have q2:=MB ag;unfold Fs at q1 k9;rw [wrap_u64,CY];split <;> omega
   rw [ew] at S6;refine EA (h1.grown B6) (by rw [Al7];omega) rfl (S6.get 0 rfl) λ a7 c7 w7 h7=>⟨_,_,_,rfl,?_⟩;rw [<- Sp iV] at h7 ⊢;rw [Ae (by omega)];refine⟨⟨i+1,a7,c7,rfl,by omega,h7⟩,?_⟩;simp only [Ale];omega
  ·have bF:(BI l).take i=BI l:=AlK (by omega);rw [bF] at h1 ⊢;refine (LK (fm:=3) (by omega) k9 h1.row.rd (by omega) (My hx)).mono ?_;rintro _ w6 ⟨_,rfl,a6,c6,rfl,h6⟩;have g6:=(Ai.AA (F:=λ _=>False) (Ac h1.Ar h6.Ar)).at nE (by simp);have l3:b4<w3.heap.size:=(AlQ.1 nE).1;have s13:=h1.Ar.size;refine⟨_,_,_,rfl,EZ g6 (by simp) λ w7 K7 g7=>⟨_,_,_,Du g7,?_⟩⟩;have gW:=h6.before C1;exact fin ⟨gW.row.keeps K7 λ x hx he=>by have:=h6.new x hx;omega,gW.new,gW.Ar.trans (K7.below gW.Ar.size λ k hk he=>by omega)⟩ (by simp only [DR];rw [if_neg fV];rfl)
end
def Bw(s:Nat->Nat):Nat->Nat
 | 0=>0
 | f+1=>if f=0 then 0 else if s f<s (Bw s f) then f else Bw s f
def GM(l:List Int)(f:Nat):Nat:=(DR f l).length
def Ul(l:List Int):Nat:=Bw (GM l) 4
theorem La(s:Nat->Nat):∀ f,0<f->Bw s f<f/\(∀ j,j<f->s (Bw s f)<=s j)/\(∀ j,j<Bw s f->s (Bw s f)<s j)
 | 0,h=>by omega
 | f+1,_=>by
  by_cases h0:f=0
  ·subst h0;have e:Bw s (0+1)=0:=by simp [Bw]
   rw [e];refine⟨by omega,λ j hj=>?_,λ j hj=>by omega⟩;have:j=0:=by omega
   subst this;exact Ak8 _
  ·obtain⟨h1,h2,h3⟩:=La s f (by omega);by_cases hs:s f<s (Bw s f)
   ·have e:Bw s (f+1)=f:=by simp only [Bw];rw [if_neg h0,if_pos hs]
    rw [e];refine⟨by omega,λ j hj=>?_,λ j hj=>?_⟩
    ·rcases AlR j f with h | h
     ·have:=h2 j h;omega
     ·have:j=f:=by omega
      subst this;exact Ak8 _
    ·have:=h2 j hj;omega
   ·have e:Bw s (f+1)=Bw s f:=by simp only [Bw];rw [if_neg h0,if_neg hs]
    rw [e];refine⟨by omega,λ j hj=>?_,h3⟩;rcases AlR j f with h | h
    ·exact h2 j h
    ·have:j=f:=by omega
     subst this;omega
theorem Pd(l:List Int):Ul l<=3:=by
 have:=(La (GM l) 4 (by omega)).1;unfold Ul;omega
theorem Ah5{f:Nat}{l:List Int}(hf:f<=3)(hn:l.length<=4096):JI (f:Int) l:=⟨by omega,by omega,by omega⟩
section
variable {w:World}{a:Option Addr}{c:Nat}{l:List Int}
theorem Kc.D7{f:Nat}{w':World}{r:Value}(hf:f<=3)(hn:l.length<=4096)(h:Kc (f:Int) l w w' r):∃ a c,r=.tuple #[.slice a (GM l f) c,.int .i64 0]/\Bm w w' (DR f l) a c:=by
 rcases h with ⟨h,_⟩ | ⟨_,a,c,rfl,h⟩
 ·exact absurd (Ah5 hf hn) h
 ·rw [Ale] at h ⊢;exact⟨a,c,rfl,h⟩
theorem RS(hl:Rd w a (l.map EE))(hn:l.length<=4096)(hx:∀ x∈l,Fs x) :
  Calls Tryz.prog f.AcT #[.slice a l.length c] w (AG λ v w'=>v=.tuple #[.int .i64 (Ul l:Int),.int .i64 0]/\Below w.heap.size w w'):=by
 apply R.RI
 delta R.AR R.F R.H R.I R.AjF R.S R.W;try dsimp only [R.Ps]
 refine Aa (λ h=>by omega) (λ _=>?_);refine⟨λ s w1=>∃ f:Nat,f<=4/\s=[.int .i64 (Bw (GM l) f:Int),.int .i64 ((if f=0 then 0 else GM l (Bw (GM l) f):Nat):Int),.int .i64 (f:Int)]/\Below w.heap.size w w1,λ s _=>match s with
   | [_,_,.int _ i]=>4-i.toNat
   | _=>0,⟨0,by omega,rfl,.refl _ _⟩,?_⟩
 rintro _ _ _ w1 ⟨f,hf,aA,B1⟩;cases aA;refine Aa (λ aB=>?_) (λ aI=>?_)
 ·refine (Fy (f:Int) (hl.grown B1) hx).mono ?_;rintro _ w2 ⟨_,rfl,h2⟩;obtain⟨a2,c2,rfl,bW⟩:=h2.D7 (by omega) hn;clear h2;have h2:=bW;have C2:=Ac B1 h2.Ar;refine⟨_,_,_,_,rfl,?_⟩;rw [Ae (by omega)];refine Ao (λ h0=>?_) (λ aQ=>Aa (λ hs=>?_) (λ hs=>?_))
  ·have:f=0:=by omega
   subst this;exact⟨⟨1,by omega,by simp [Bw],C2⟩,by simp⟩
  ·have fQ:f≠0:=by omega
   rw [if_neg fQ] at hs;refine⟨⟨f+1,by omega,?_,C2⟩,by simp only [Ale];omega⟩;have e:Bw (GM l) (f+1)=f:=by simp only [Bw];rw [if_neg fQ,if_pos (by omega)]
   rw [e,if_neg (by omega)]
  ·have fQ:f≠0:=by omega
   rw [if_neg fQ] at hs;refine⟨⟨f+1,by omega,?_,C2⟩,by simp only [Ale];omega⟩;have e:Bw (GM l) (f+1)=Bw (GM l) f:=by simp only [Bw];rw [if_neg fQ,if_neg (by omega)]
   simp [e,fQ]
 ·have:f=4:=by omega
  subst this;exact⟨rfl,B1⟩
theorem Vx(hl:Rd w a (l.map EE))(h0:0<l.length)(hn:l.length<=1000000) :
  Calls Tryz.prog f.OP #[.slice a l.length c] w (AG λ v w'=>w'=w/\v=.int .i64 (FK l)):=by
 apply R.IX
 delta R.Ad R.F R.I R.Li R.NH R.W R.X;try dsimp only [R.Ps]
 obtain⟨p,rfl,aE⟩:=LG hl h0;refine Aa (λ h=>by omega) (λ _=>⟨⟨by omega,by omega⟩,_,aE,?_⟩);refine⟨λ s w1=>w1=w/\∃ i:Nat,i<=l.length/\s=[.int .i64 (E7 l i),.int .i64 (i:Int)],λ s _=>match s with
   | [_,.int _ i]=>l.length-i.toNat
   | _=>0,⟨rfl,1,by omega,by rw [Xd h0];rfl⟩,?_⟩
 rintro _ _ w1 ⟨rfl,i,hi,aA⟩;cases aA;refine Aa (λ aB=>⟨⟨by omega,aB⟩,?_⟩) (λ aI=>⟨rfl,?_⟩)
 ·have aD:i<l.length:=by omega
  obtain⟨p',hp',hc⟩:=Dq hl aD;cases hp';refine⟨_,by rw [Ale];exact hc,?_⟩;rw [Ae (by omega),<- N0 aD];refine⟨⟨rfl,i+1,by omega,rfl⟩,?_⟩;simp only [Ale];omega
 ·have:i=l.length:=by omega
  subst this;rfl
theorem TO(x:Int)(hl:Rd w a (l.map EE))(hn:l.length<=1000000) :
  Calls Tryz.prog f.Mi #[.slice a l.length c,.int .i64 x] w (AG λ v w'=>w'=w/\∃ i:Int,v=.int .i64 i/\((i = -1/\x∉l)\/∃ k:Nat,i=k/\l[k]?=some x/\∀ j,j<k->l[j]?≠some x)):=by
 apply R.H4
 delta R.Ad R.F R.I R.Li R.Qi R.W R.X;try dsimp only [R.Ps]
 refine⟨λ s w1=>w1=w/\∃ i:Nat,i<=l.length/\s=[.int .i64 (i:Int)]/\∀ j,j<i->l[j]?≠some x,λ s _=>match s with
   | [.int _ i]=>l.length-i.toNat
   | _=>0,⟨rfl,0,by omega,rfl,by omega⟩,?_⟩
 rintro _ w1 ⟨rfl,i,hi,aA,aF⟩;cases aA;refine Aa (λ aB=>⟨⟨by omega,aB⟩,?_⟩) (λ aI=>⟨rfl,_,rfl,.inl ⟨rfl,λ hx=>?_⟩⟩)
 ·have aD:i<l.length:=by omega
  obtain⟨p,rfl,hc⟩:=Dq hl aD;refine⟨_,by rw [Ale];exact hc,Ao (λ he=>⟨rfl,_,rfl,.inr ⟨i,rfl,?_,aF⟩⟩) (λ aQ=>?_)⟩
  ·rw [Al5 aD,he]
  ·rw [Ae (by omega)];refine⟨⟨rfl,i+1,by omega,rfl,λ j hj=>?_⟩,?_⟩
   ·rcases AlR j i with h | h
    ·exact aF j h
    ·have:j=i:=by omega
     subst this;rw [Al5 aD];simpa using λ h=>aQ h.symm
   ·simp only [Ale];omega
 ·obtain⟨k,hk⟩:=List.mem_iff_getElem?.1 hx;have aO:=(AkX.1 hk).1;exact aF k (by omega) hk
theorem tI:M9 Tryz.prog ty.WI=some (ty.int,1,8,.int .i64 0):=by kernel_rfl
theorem Aap(s:Nat->Nat){k:Nat}(h1:[(s 0:Int),s 1,s 2,s 3][k]?=some (FK [(s 0:Int),s 1,s 2,s 3]))(h2:∀ j,j<k->[(s 0:Int),s 1,s 2,s 3][j]?≠some (FK [(s 0:Int),s 1,s 2,s 3])):k=Bw s 4:=by
 have hm:∀ x∈[(s 0:Int),s 1,s 2,s 3],FK [(s 0:Int),s 1,s 2,s 3]<=x:=λ x hx=>MB hx;obtain⟨m,hmd⟩:∃ m,m=FK [(s 0:Int),s 1,s 2,s 3]:=⟨_,rfl⟩;rw [<- hmd] at h1 h2 hm;have m0:=hm (s 0) (by simp);have m1:=hm (s 1) (by simp);have m2:=hm (s 2) (by simp);have m3:=hm (s 3) (by simp);have hk:k<4:=by
  have:=(AkX.1 h1).1;simpa using this
 obtain⟨q1,q2,q3⟩:=La s 4 (by omega);have get:∀ j,j<4->[(s 0:Int),s 1,s 2,s 3][j]?=some ((s j:Nat):Int):=by
  intro j hj;rcases (by omega:j=0\/j=1\/j=2\/j=3) with rfl | rfl | rfl | rfl <;> rfl
 have mk:m=s k:=by have:=get k hk;rw [h1] at this;exact Ami this
 rcases Nat.lt_trichotomy k (Bw s 4) with h | h | h
 ·have:=q3 k h;have:m<=s (Bw s 4):=by
   rcases (by omega:Bw s 4=0\/Bw s 4=1\/Bw s 4=2\/Bw s 4=3) with e | e | e | e <;> rw [e] <;> assumption
  omega
 ·exact h
 ·exfalso;have:=q2 k hk;apply h2 _ h;rw [get _ q1];have:m<=s (Bw s 4):=by
   rcases (by omega:Bw s 4=0\/Bw s 4=1\/Bw s 4=2\/Bw s 4=3) with e | e | e | e <;> rw [e] <;> assumption
  congr 1;omega
theorem Ym(hl:Rd w a (l.map EE))(hc:l.length<=c)(hn:l.length<=4096)(hx:∀ x∈l,Fs x) :
  Calls Tryz.prog f.AeV #[.slice a l.length c] w (AG λ v w'=>v=.tuple #[.int .i64 (Ul l:Int),.int .i64 0]/\Below w.heap.size w w'):=by
 apply R.Tk
 delta R.AR R.Ci R.F R.H R.I R.J R.Ks R.N R.O R.EM R.S R.W;try dsimp only [R.Ps]
 let S:Nat->List Int:=λ k=>(List.range k).map λ f=>((GM l f:Nat):Int);have hS:∀ k,(S k).length=k:=λ k=>by simp [S]
 refine⟨λ s w1=>∃(k:Nat) (a1:Option Addr) (c1:Nat),s=[.slice a1 k c1,.int .i64 (k:Int)]/\k<=4/\Row w1 ty.int 1 a1 k c1 ((S k).map EE)/\(∀ x,AD a1=some x->w.heap.size<=x)/\Below w.heap.size w w1,λ s _=>match s with
   | [_,.int _ i]=>4-i.toNat
   | _=>0,⟨0,none,0,rfl,by omega,Row.nil _ _ _,by simp [AD],.refl _ _⟩,?_⟩
 rintro a1 k c1 _ w1 ⟨_,_,_,aA,hk,R1,N1,B1⟩;cases aA;refine Aa (λ aB=>?_) (λ aI=>?_)
 ·refine (HK (k:Int) (hl.grown B1) hc hx).mono ?_;rintro _ w2 ⟨_,rfl,h2⟩;obtain⟨a2,c2,rfl,bW⟩:=h2.D7 (by omega) hn;clear h2;have h2:=bW;refine⟨_,_,_,_,rfl,Ah (λ h=>absurd rfl h) (λ _=>(SH.start (λ _=>False) w2).An λ b3 w3 dG B3 S3=>?_)⟩;have aW:Rd w3 (some ⟨b3,0,none⟩) [EE (GM l k)]:=by
   have:=Rd.Ak (S3.get 0 rfl);simpa [EE] using this
  have C3:=Ac (Ac B1 h2.Ar) B3;obtain⟨a5,c5,w5,aH,aJ,cj,hnw⟩:=BZ (ty:=ty.WI) (mc:=1) tI rfl (by omega) (by omega) ((R1.grown h2.Ar).grown B3) aW (m:=1) rfl (by simp [EE];rfl) (by omega);unfold DB;rw [aH];refine⟨_,_,_,rfl,?_⟩;rw [Ae (by omega)];refine⟨⟨k+1,a5,c5,rfl,by omega,?_,λ x hx=>?_,C3.trans (cj.below C3.size λ x hx he=>by have:=N1 x he;omega)⟩,?_⟩
  ·have e:S (k+1)=S k++[((GM l k:Nat):Int)]:=by simp [S,List.range_succ]
   rw [e,Alv];exact aJ
  ·rcases hnw x hx with h | h
   ·exact N1 x h
   ·exact Als C3.size h
  ·simp only [Ale];omega
 ·have:k=4:=by omega
  subst this;have nO:Calls Tryz.prog f.UT #[.slice a1 4 c1] w1 (AG λ v w'=>w'=w1/\v=.int .i64 (Ul l:Int)):=by
   apply R.LJ
   delta R.Ci R.I R.S;try dsimp only [R.Ps]
   have h4:(4:Nat)=(S 4).length:=(hS 4).symm;rw [h4];refine (Vx R1.rd (by rw [hS];omega) (by rw [hS];omega)).mono ?_;rintro _ w1 ⟨_,rfl,rfl,rfl⟩;refine⟨_,rfl,(TO _ R1.rd (by rw [hS];omega)).mono ?_⟩;rintro _ w1 ⟨_,rfl,rfl,i,rfl,aG⟩;refine⟨_,rfl,rfl,?_⟩;have y5:S 4=[((GM l 0:Nat):Int),GM l 1,GM l 2,GM l 3]:=rfl;rcases aG with ⟨_,aP⟩ | ⟨k,rfl,g1,g2⟩
   ·exfalso;apply aP;rcases (JC ((S 4).take (S 4).length) ((S 4).headD 0)).2.2 with e | e
    ·unfold FK E7;rw [e,y5];simp
    ·unfold FK E7;exact Amd e
   ·rw [y5] at g1 g2;rw [Aap (GM l) g1 g2];rfl
  refine nO.mono ?_;rintro _ w2 ⟨_,rfl,rfl,rfl⟩;exact⟨_,rfl,rfl,B1⟩
end
theorem AbZ(a b:ByteArray):EN a b=decide (bl a<bl b):=by
 unfold EN;rw [ByteArray.toList_eq,ByteArray.toList_eq,bytesLess_eq];rfl
section
variable {w:World}{a:Option Addr}{c:Nat}{ls:List ByteArray}
theorem YW(hl:Rd w a (ls.map Value.string))(hn:ls.length<=9223372036854775807):Calls Tryz.prog f.AaS #[.slice a ls.length c] w (AG λ v w'=>w'=w/\v=.bool (decide (ls.length<=4096/\Kk ls=false))):=by
 apply R.P0
 delta R.Ad R.F R.G R.I R.Lt R.Qi R.W R.X;try dsimp only [R.Ps]
 refine⟨λ s w1=>w1=w/\∃ k:Nat,k<=ls.length/\s=[.int .i64 (k:Int)]/\Kk (ls.take k)=false,λ s _=>match s with
   | [.int _ i]=>ls.length-i.toNat
   | _=>0,⟨rfl,0,by omega,rfl,rfl⟩,?_⟩
 rintro _ w1 ⟨rfl,k,hk,hs,fS⟩;cases hs;refine Aa (λ aB=>⟨⟨by omega,aB⟩,?_⟩) (λ aI=>?_)
 ·have aO:k<ls.length:=by omega
  obtain⟨p,rfl,hc⟩:=Fa hl aO;refine⟨_,by rw [Ale];exact hc,Aa (λ h=>⟨rfl,?_⟩) (λ h=>?_)⟩
  ·have:Kk ls=true:=List.any_eq_true.2 ⟨ls[k],AlS aO,by simp;omega⟩;rw [this];simp
  ·rw [Ae (by omega)];refine⟨⟨rfl,k+1,by omega,rfl,?_⟩,?_⟩
   ·unfold Kk at fS ⊢;rw [Al6 aO,List.any_append,fS];simp;omega
   ·simp only [Ale];omega
 ·have eQ:ls.take k=ls:=AlK (by omega);rw [eQ] at fS;refine⟨rfl,?_⟩;rw [fS];congr 1;rw [AlJ];simp;omega
end
structure Ju(t:List (List UInt8))(x:List UInt8)(lo:Nat):Prop where
 le:lo<=t.length
 below:∀ y∈t.take lo,y<x
 AiD:∀ y∈t.drop lo,¬ y<x
theorem Adj{t:List (List UInt8)}(h:t.Pairwise (·<·)){i j:Nat}(dO:i<j)(hj:j<t.length):t[i]<t[j]:=List.pairwise_iff_getElem.1 h i j (by omega) hj dO
section
variable {w:World}{a:Option Addr}{c:Nat}{t:List (List UInt8)}
theorem Qb(hl:Rd w a ((t.map BC).map Value.string))(hn:t.length<=140737488355328)(gM:t.Pairwise (·<·))(s:ByteArray) :
  Calls Tryz.prog f.AaT #[.slice a t.length c,.string s] w (AG λ v w'=>∃ lo:Nat,v=.tuple #[.int .i64 (lo:Int),.bool (decide (t[lo]?=some (bl s)))]/\Ju t (bl s) lo/\Below w.heap.size w w'):=by
 have nN:(t.map BC).length=t.length:=by simp
 apply R.P1
 delta R.Ad R.D R.F R.G R.H R.I R.Lt R.NH R.W R.X;try dsimp only [R.Ps]
 refine⟨λ st w1=>w1=w/\∃ lo hi:Nat,st=[.int .i64 (lo:Int),.int .i64 (hi:Int)]/\lo<=hi/\hi<=t.length/\(∀ j,(hj:j<t.length)->j<lo->t[j]<bl s)/\(∀ j,(hj:j<t.length)->hi<=j->¬ t[j]<bl s),λ st _=>match st with
   | [.int _ i,.int _ j]=>j.toNat-i.toNat
   | _=>0,⟨rfl,0,t.length,rfl,by omega,by omega,λ j hj h=>by omega,λ j hj h=>by omega⟩,?_⟩
 rintro _ _ w1 ⟨rfl,lo,hi,hs,h1,h2,h3,h4⟩;cases hs;refine Aa (λ aB=>?_) (λ aI=>?_)
 ·have em:IntKind.i64.wrap (Int.tdiv (IntKind.i64.wrap ((lo:Int)+(hi:Int))) 2)=(((lo+hi) / 2:Nat):Int):=by
   rw [wrap_i64 (n:=(lo:Int)+(hi:Int)) (by omega) (by omega),Int.tdiv_eq_ediv_of_nonneg (by omega),wrap_i64 (by omega) (by omega)];omega
  rw [em];have nP:(lo+hi) / 2<t.length:=by omega
  obtain⟨p,hp,hc⟩:=Fa hl (by rw [nN];exact nP);subst hp;rw [Amb] at hc;refine⟨⟨by omega,by omega⟩,_,by rw [Ale];exact hc,?_⟩;rw [AbZ,BN];refine Aa (λ lV=>?_) (λ aP=>?_)
  ·rw [Ae (by omega)];refine⟨⟨rfl,(lo+hi) / 2+1,hi,rfl,by omega,h2,λ j hj h=>?_,h4⟩,?_⟩
   ·rcases AlR j ((lo+hi) / 2) with hh | hh
    ·exact List.lt_trans (Adj gM hh nP) lV
    ·have:j=(lo+hi) / 2:=by omega
     subst this;exact lV
   ·simp only [Ale];omega
  ·refine⟨⟨rfl,lo,(lo+hi) / 2,rfl,by omega,by omega,h3,λ j hj h=>?_⟩,?_⟩
   ·intro yI;rcases AlR ((lo+hi) / 2) j with hh | hh
    ·exact aP (List.lt_trans (Adj gM hh hj) yI)
    ·have:j=(lo+hi) / 2:=by omega
     subst this;exact aP yI
   ·simp only [Ale];omega
 ·have:lo=hi:=by omega
  subst this;have hP:Ju t (bl s) lo:=by
   refine⟨h2,λ y hy=>?_,λ y hy=>?_⟩
   ·obtain⟨j,hj,rfl⟩:=Amj.1 hy;rw [Al7] at hj;rw [List.getElem_take];exact h3 j (by omega) (by omega)
   ·obtain⟨j,hj,rfl⟩:=Amj.1 hy;rw [AlE] at hj;rw [List.getElem_drop];exact h4 _ (by omega) (by omega)
  have Bd:Below w1.heap.size w1 w1.drew:=(Below.refl _ w1).drew;unfold QI;refine Aa (λ aB=>?_) (λ br=>?_)
  ·have fS:lo<t.length:=by omega
   obtain⟨p,hp,hc⟩:=Fa (hl.grown Bd) (by rw [nN];exact fS);subst hp;rw [Amb] at hc;refine⟨⟨by omega,by omega⟩,_,by rw [Ale];exact hc,lo,?_,hP,Bd⟩;rw [A0,Al5 fS];congr 4;congr 1;rw [AlJ];simp only [decide_eq_true_eq,Option.some.injEq];constructor
   ·intro h;rw [<- h,BN]
   ·intro h;rw [h,EJ]
  ·refine⟨lo,?_,hP,Bd⟩;rw [List.getElem?_eq_none (by omega)];simp
end
theorem Ju.mem{t:List (List UInt8)}{x:List UInt8}{lo:Nat}(h:Ju t x lo)(gM:t.Pairwise (·<·)):x∈t↔t[lo]?=some x:=by
 constructor
 ·intro hx;obtain⟨j,hj,rfl⟩:=Amj.1 hx;have h1:¬ j<lo:=λ aB=>List.lt_irrefl _ (h.below t[j] (List.mem_take_iff_getElem.2 ⟨j,by omega,rfl⟩));have h2:¬ lo<j:=λ aB=>by
   have h3:=Adj gM aB hj;have h4:t[lo]∈t.drop lo:=by rw [List.drop_eq_getElem_cons (by omega)];exact AlN ..
   exact h.AiD _ h4 h3
  have:j=lo:=by omega
  subst this;exact Al5 hj
 ·intro hx;exact List.mem_of_getElem? hx
theorem Ju.idx{t:List (List UInt8)}{x:List UInt8}{lo:Nat}(h:Ju t x lo)(gM:t.Pairwise (·<·))(hx:x∈t):t.idxOf x=lo:=by
 have h1:=(h.mem gM).1 hx;obtain⟨aB,rfl⟩:=AkX.1 h1;exact (GA gM).idxOf_getElem lo aB
theorem Aa3{l t:List (List UInt8)}{x:List UInt8}{lo:Nat}(hr:Em l t)(h:Ju t x lo)(hx:x∉t):Em (l++[x]) (t.take lo++(x :: t.drop lo)):=by
 have j8:∀ y∈t.drop lo,x<y:=by
  intro y hy;have h1:=h.AiD y hy;have h2:y≠x:=by rintro rfl;exact hx (List.mem_of_mem_drop hy)
  rcases Decidable.em (x<y) with h3 | h3
  ·exact h3
  ·exact absurd (List.le_antisymm (List.not_lt.1 h3) (List.not_lt.1 h1)) h2
 refine⟨?_,λ y=>?_⟩
 ·have hp:=hr.up;rw [<- List.take_append_drop lo t] at hp;obtain⟨p1,p2,p3⟩:=List.pairwise_append.1 hp;refine List.pairwise_append.2 ⟨p1,List.pairwise_cons.2 ⟨j8,p2⟩,λ y hy z hz=>?_⟩;rcases AkV.1 hz with rfl | hz
  ·exact h.below y hy
  ·exact p3 y hy z hz
 ·have e:y∈t↔y∈t.take lo\/y∈t.drop lo:=by
   conv=>lhs;rw [<- List.take_append_drop lo t]
   exact Al8
  rw [Al8,AkV,Al8,Al9,<- hr.mem y,e];constructor
  ·rintro (h | h | h)
   ·exact .inl (.inl h)
   ·exact .inr h
   ·exact .inl (.inr h)
  ·rintro ((h | h) | h)
   ·exact .inl h
   ·exact .inr (.inr h)
   ·exact .inr (.inl h)
theorem Ac1{l t:List (List UInt8)}{x:List UInt8}(hr:Em l t)(hx:x∈t):Em (l++[x]) t:=by
 refine⟨hr.up,λ y=>?_⟩;rw [Al8,Al9,<- hr.mem y];exact⟨λ h=>.inl h,λ h=>h.elim id (λ e=>e ▸ hx)⟩
def strs(t:List (List UInt8)):List Value:=(t.map BC).map Value.string
theorem Abv(t:List (List UInt8)):(strs t).length=t.length:=by simp [strs]
theorem Abu(t u:List (List UInt8)):strs (t++u)=strs t++strs u:=by simp [strs]
theorem Ahi(t:List (List UInt8)):∀ u∈strs t,u.oneCell'=true:=by
 intro u hu;obtain⟨s,_,rfl⟩:=AkU.1 hu;rfl
theorem tS:M9 Tryz.prog ty.Co=some (ty.string,1,16,.string ⟨#[]⟩):=by kernel_rfl
theorem Ez{w:World}{a:Option Addr}{c:Nat}{t u:List (List UInt8)}(hr:Row w ty.string 1 a t.length c (strs t)){b:Option Addr}{m mc:Nat}(hm:m=u.length)(hb:Rd w b (strs u))(hl:t.length+u.length<=8796093022208){f:Value->World->Prop}
  (hf:∀ a' c' w',Row w' ty.string 1 a' (t++u).length c' (strs (t++u))->Ai (λ k=>AD a=some k) w w'->(∀ k,AD a'=some k->AD a=some k\/w.heap.size<=k)->f (.slice a' (t++u).length c') w') :
  DB Tryz.prog (Builtin.append_ #[ty.Co,ty.Co] ty.Co #[.slice a t.length c,.slice b m mc]) f w:=by
 subst hm;obtain⟨a',c',w',aH,aJ,hk,bG⟩:=BZ (ty:=ty.Co) (mc:=mc) tS rfl (by omega) (by omega) hr hb (m:=u.length) (by rw [Abv];simp) (Ahi u) (by omega);unfold DB;rw [aH];have hlen:(t++u).length=t.length+u.length:=by simp
 rw [<- Abu,<- hlen] at aJ;rw [<- hlen];exact hf a' c' w' aJ hk bG
theorem Wn{w:World}{a:Option Addr}{c:Nat}{ls:List ByteArray}(hl:Rd w a (ls.map Value.string))(hn:ls.length<=4096) :
  Calls Tryz.prog f.YO #[.slice a ls.length c] w (AG λ v w'=>∃ a' c' t,v=.slice a' t.length c'/\Em (ls.map bl) t/\Rd w' a' (strs t)/\Below w.heap.size w w'):=by
 apply R.Ot
 delta R.Ad R.Aec R.D R.F R.I R.J R.Ks R.Lt R.N R.O R.EM R.Rs R.S R.T R.W R.X R.Y;try dsimp only [R.Ps]
 refine⟨λ s w1=>∃(k:Nat) (oa:Option Addr) (oc:Nat) (t:List (List UInt8)),s=[.slice oa t.length oc,.int .i64 (k:Int)]/\k<=ls.length/\t.length<=oc/\t.length<=4096/\Em ((ls.take k).map bl) t/\Rd w1 oa (strs t)/\Below w.heap.size w w1,λ s _=>match s with
   | [_,.int _ i]=>ls.length-i.toNat
   | _=>0,⟨0,none,0,[],rfl,by omega,by simp,by simp,⟨List.Pairwise.nil,by simp⟩,Rd.nil _ _,.refl _ _⟩,?_⟩
 rintro oa _ oc _ w1 ⟨k,_,_,t,hs,hk,yR,ht4,hr,jx,B1⟩;cases hs;refine Aa (λ aB=>⟨⟨by omega,aB⟩,?_⟩) (λ aI=>?_)
 ·have aO:k<ls.length:=by omega
  obtain⟨p,hp,hc⟩:=Fa (hl.grown B1) aO;subst hp;refine⟨_,by rw [Ale];exact hc,(Qb jx (by omega) hr.up ls[k]).mono ?_⟩;rintro _ w2 ⟨_,rfl,lo,rfl,hP,B2⟩;have e1:(ls.take (k+1)).map bl=(ls.take k).map bl++[bl ls[k]]:=by rw [Al6 aO,Alv];rfl
  have B2':Below w.heap.size w w2:=B1.trans (B2.mono B1.size);refine⟨_,_,rfl,Aa (λ aK=>?_) (λ aP=>?_)⟩
  ·rw [Ae (by omega)];refine⟨⟨k+1,oa,oc,t,rfl,by omega,yR,ht4,?_,jx.grown B2,B2'⟩,?_⟩
   ·rw [e1];exact Ac1 hr ((hP.mem hr.up).2 aK)
   ·simp only [Ale];omega
  ·have hx:bl ls[k]∉t:=λ h=>aP ((hP.mem hr.up).1 h);have kj:=Aa3 hr hP hx;rw [<- e1] at kj;have fS:=hP.le;unfold QI;have B3:Below w2.heap.size w2 w2.drew:=(Below.refl _ w2).drew;have pT:=(jx.grown B2).grown B3;refine⟨⟨by omega,by omega,by omega⟩,?_⟩;have ew:IntKind.i64.wrap ((t.length:Int)+1)=((t.length+1:Nat):Int):=Ae (by omega);rw [ew,Ale];refine Hw tS (by omega) (by omega) λ bx w4 y9 B4 R4=>⟨_,_,_,rfl,?_⟩;have uL:=pT.grown B4;have je:Rd w4 (Cm oa 0 oc 1) (strs (t.take lo)):=by
    have:=uL.OY 0 lo oc 1 (by omega);simpa [strs,List.map_take] using this
   refine Ez (t:=[]) (u:=t.take lo) (by simpa [strs] using R4) (by rw [Al7];omega) je (by simp;omega) λ a5 c5 w5 R5 K5 N5=>⟨_,_,_,rfl,⟨by omega,aB⟩,?_⟩;rw [Ame] at R5 ⊢;have sz4:=B4.size;have szd:w2.drew.heap.size=w2.heap.size:=rfl;have sW:Below w2.drew.heap.size w2.drew w5:=B4.trans (K5.below B4.size λ k hk he=>by have h':bx=k:=Ami he;omega);have N5':∀ k,AD a5=some k->w2.heap.size<=k:=λ k hk=>by
    rcases N5 k hk with h | h
    ·have h':bx=k:=Ami h;omega
    ·omega
   have Bw5:Below w.heap.size w w5:=(B2'.trans (B3.mono B2'.size)).trans (sW.mono B2'.size);obtain⟨p',hp',dr⟩:=Fa (hl.grown Bw5) aO;cases hp';refine⟨_,by rw [Ale];exact dr,(SH.start (λ _=>False) w5).An λ dE w6 gw B6 S6=>?_⟩;have eJ:Rd w6 (some ⟨dE,0,none⟩) (strs [bl ls[k]]):=by
    have:=Rd.Ak (S6.get 0 rfl);simpa [strs,EJ] using this
   refine Ez (u:=[bl ls[k]]) (R5.grown B6) rfl eJ (by simp;omega) λ a7 c7 w7 R7 K7 N7=>⟨_,_,_,rfl,⟨by omega,by omega,by omega⟩,?_⟩;have yl:=sW.size;have sz6:=B6.size;have sS:Below w2.drew.heap.size w2.drew w7:=(sW.trans (B6.mono yl)).trans (K7.below (Als yl sz6) λ k hk he=>by have:=N5' k he;omega);have hs3:Rd w7 (Cm oa lo oc 1) (strs (t.drop lo)):=by
    have:=(pT.grown sS).OY lo t.length oc 1 yR;rw [Alh,Alh] at this;have e:((strs t).drop lo).take (t.length-lo)=strs (t.drop lo):=by
     rw [AlK (by rw [AlE,Abv];omega)];simp [strs,AlF]
    rwa [e] at this
   refine Ez (u:=t.drop lo) R7 (by rw [AlE]) hs3 (by simp;omega) λ a8 c8 w8 R8 K8 N8=>⟨_,_,_,rfl,?_⟩;have sz7:=K7.size;have zD:Below w2.drew.heap.size w2.drew w8:=sS.trans (K8.below sS.size λ k hk he=>by
    rcases N7 k he with h | h
    ·have:=N5' k h;omega
    ·omega)
   have et:(t.take lo++[bl ls[k]])++t.drop lo=t.take lo++(bl ls[k] :: t.drop lo):=by simp
   rw [et] at R8 ⊢;rw [Ae (by omega)];refine⟨⟨k+1,a8,c8,_,rfl,by omega,R8.le,?_,kj,R8.rd,(B2'.trans (B3.mono B2'.size)).trans (zD.mono B2'.size)⟩,?_⟩
   ·have:=Hx (GA kj.up) (λ y hy=>(kj.mem y).1 hy);rw [List.length_map,Al7] at this;omega
   ·simp only [Ale];omega
 ·have:ls.take k=ls:=AlK (by omega);rw [this] at hr;exact⟨oa,oc,t,rfl,hr,jx,B1⟩
theorem Ais(ls:List ByteArray):strs (ls.map bl)=ls.map Value.string:=by
 simp only [strs,List.map_map];apply List.map_congr_left;intro s _;simp [EJ]
theorem HO(ls:List ByteArray):(ls.map bl).map BC=ls:=by
 rw [List.map_map]
 conv=>rhs;rw [<- List.map_id ls]
 apply List.map_congr_left;intro s _;simp [EJ]
structure Tx(w:World)(ba ta:Option Addr)(tx:List (List UInt8)):Prop where
 rd:Rd w ta (strs tx)
 fw:∀ p,ta=some p->AD ba=some p.block->tx=[]
theorem Tx.lt{w:World}{ba ta:Option Addr}{tx:List (List UInt8)}(h:Tx w ba ta tx){p:Addr}(hp:ta=some p)(aQ:tx≠[]):p.block<w.heap.size:=by
 cases tx with
 | nil=>exact absurd rfl aQ
 | cons x r =>
  obtain⟨q,hq,hc⟩:=h.rd 0 (.string (BC x)) (by simp [strs]);rw [hp] at hq;cases hq;have:=World.block_lt_of_cell? _ _ hc;rwa [DN] at this
theorem Tx.grown{w w':World}{ba ta:Option Addr}{tx:List (List UInt8)}(h:Tx w ba ta tx)(hb:Below w.heap.size w w'):Tx w' ba ta tx:=⟨h.rd.grown hb,h.fw⟩
theorem Tx.Br{w w':World}{ba ir ta:Option Addr}{tx:List (List UInt8)}(h:Tx w ba ta tx)(K:Ai (λ k=>AD ba=some k) w w')(N:∀ k,AD ir=some k->AD ba=some k\/w.heap.size<=k):Tx w' ir ta tx:=by
 by_cases aQ:tx=[]
 ·subst aQ;exact⟨Rd.nil _ _,λ _ _ _=>rfl⟩
 ·refine⟨h.rd.keeps K λ p hp hF=>aQ (h.fw p hp hF),λ p hp hb=>?_⟩;rcases N _ hb with h1 | h1
  ·exact h.fw p hp h1
  ·have:=h.lt hp aQ;omega
theorem Tx.fresh{w w':World}{ba ta:Option Addr}{tx:List (List UInt8)}(hr:Rd w ta (strs tx))(hb:Below w.heap.size w w')(hn:∀ k,AD ba=some k->w.heap.size<=k):Tx w' ba ta tx:=by
 by_cases aQ:tx=[]
 ·subst aQ;exact⟨Rd.nil _ _,λ _ _ _=>rfl⟩
 ·refine⟨hr.grown hb,λ p hp hk=>?_⟩;have h1:=hn _ hk;have h2:=(Tx.lt (ba:=none) ⟨hr,by simp [AD]⟩ hp aQ:p.block<w.heap.size);omega
section
variable {w:World}{a:Option Addr}{c:Nat}{ls:List ByteArray}
theorem Gt(form:Int)(hl:Rd w a (ls.map Value.string))(hn:ls.length<=9223372036854775807):Calls Tryz.prog f.YM #[.int .i64 form,.slice a ls.length c] w (AG λ v w'=>AfN form ls w w' v):=by
 apply R.Oo
 delta R.Ad R.B R.Aec R.AR R.Cb R.Ci R.Cs R.F R.H R.I R.J R.Ks R.Lt R.N R.O R.EM R.S R.T R.U R.W R.Wb R.Wu R.X R.Zss;try dsimp only [R.Ps]
 refine (YW hl hn).mono ?_;rintro _ w ⟨_,rfl,rfl,rfl⟩;have bad:¬ E6 form ls->AfN form ls w w (.tuple #[.slice none 0 0,.int .i64 2]):=λ h=>.inl ⟨h,rfl,.refl _ _⟩;refine⟨_,rfl,Aa (λ h=>bad λ hk=>by have:=hk.1;omega) (λ h1=>Aa (λ h=>bad λ hk=>by have:=hk.2.1;omega) (λ h2=>As (Aa (λ hR=>?_) (λ h=>bad λ hk=>h hk.2.2))))⟩;obtain⟨iX,cX⟩:=hR;have aK:E6 form ls:=⟨by omega,by omega,iX,cX⟩;have hz:=Gz cX;rw [AE (by omega) (by omega)];refine (SH.start (λ _=>False) w).An λ b5 w2 fg B2 S2=>?_;have k7:Value.int .u8 form=Ag (Alj form.toNat):=by
  rcases (by omega:form=0\/form=1) with rfl | rfl <;> rfl
 have kR:Bm w w2 [Alj form.toNat] (some ⟨b5,0,none⟩) 1:=by
  refine⟨⟨rfl,.inr ⟨b5,_,rfl,S2.get 0 rfl,by simp,by omega,rfl,?_⟩⟩,λ k hk=>?_,B2⟩
  ·simp [k7]
  ·cases hk;exact fg
 refine⟨λ st w5=>∃(hd:List UInt8) (ba:Option Addr) (bc:Nat) (tx:List (List UInt8)) (ta:Option Addr) (tc:Nat),st=[.slice ba hd.length bc,.slice ta tx.length tc]/\Bm w w5 hd ba bc/\Tx w5 ba ta tx/\hd.length<=11/\tx.length<=4096/\(∀ s∈tx.map BC,s.size<=1024) /\
   ((form=0/\hd=[0]/\tx=ls.map bl)\/(form=1/\Em (ls.map bl) tx/\hd=1 :: Af tx.length)),?_,?_⟩
 ·refine Ao (λ hf=>?_) (λ hf=>?_)
  ·subst hf;refine (Wn (hl.grown B2) iX).mono ?_;rintro _ w3 ⟨_,rfl,ta,tc,t,rfl,hr,jx,B3⟩;have eU:t.length<=ls.length:=by
    have:=Hx (GA hr.up) (λ x hx=>(hr.mem x).1 hx);simpa using this
   have xz:=kR.grown B3;refine⟨_,_,_,rfl,?_⟩;rw [Aj (by omega) (by omega)];refine (Bh (c:=1) [1] xz.rd t.length (by omega) (by simp)).mono ?_;rintro _ w4 ⟨_,rfl,a4,c4,rfl,h4⟩;refine⟨_,_,_,rfl,[1]++Af t.length,a4,c4,t,ta,tc,rfl,h4.before xz.Ar,.fresh jx h4.Ar h4.new,?_,by omega,?_,.inr ⟨rfl,hr,rfl⟩⟩
   ·have:=Al (n:=t.length) (by omega);simp;omega
   ·intro s hs;obtain⟨x,hx,rfl⟩:=AkU.1 hs;obtain⟨s',bS,rfl⟩:=AkU.1 ((hr.mem x).1 hx);rw [EJ];exact hz s' bS
  ·have fQ:form=0:=by omega
   subst fQ;refine⟨[0],some ⟨b5,0,none⟩,1,ls.map bl,a,c,by simp,kR,.fresh (by rw [Ais];exact hl) B2 (λ k hk=>by cases hk;exact fg),by simp,by simpa using iX,by rw [HO];exact hz,.inl ⟨rfl,rfl,rfl⟩⟩
 rintro ba _ bc ta _ tc w5 ⟨hd,_,_,tx,_,_,aA,h5,T5,yF,htx,jj,aG⟩;cases aA;have l2:=Gi jj;have nN:(tx.map BC).length=tx.length:=by simp
 refine⟨λ s w6=>∃(i:Nat) (l:List UInt8) (ir:Option Addr) (mD:Nat),s=[.slice ir l.length mD,.int .i64 (i:Int)]/\i<=tx.length/\l=hd++BW ((tx.map BC).take i)/\Bm w w6 l ir mD/\Tx w6 ir ta tx,λ s _=>match s with
   | [_,.int _ i]=>tx.length-i.toNat
   | _=>0,⟨0,hd,_,_,rfl,by omega,by simp [BW],h5,T5⟩,?_⟩
 rintro ir _ mD _ w6 ⟨i,l,_,_,hs,hi,jT,h6,T6⟩;cases hs;have oh:l.length<=11+4096*1034:=by
  have h1:(BW ((tx.map BC).take i)).length<=((tx.map BC).take i).length*1034:=Gi λ s hs=>jj s (Amd hs);have h2:((tx.map BC).take i).length<=4096:=by rw [Al7];omega
  rw [jT,Alb];omega
 refine Aa (λ aB=>⟨⟨by omega,aB⟩,?_⟩) (λ aI=>?_)
 ·have aD:i<(tx.map BC).length:=by omega
  obtain⟨p,hp,hc⟩:=Fa (ls:=tx.map BC) T6.rd aD;have aw:=jj _ (AlS aD);subst hp;refine⟨_,by rw [Ale];exact hc,(GF (c:=0) [] (Rd.nil _ _) (tx.map BC)[i] (by omega) (by rw [List.length_nil];omega)).mono ?_⟩;rintro _ w7 ⟨_,rfl,a7,c7,rfl,h7⟩;rw [Ame] at h7 ⊢;have eU:=Sa aw;refine⟨_,_,_,_,rfl,A8 (h6.grown h7.Ar).row h7.rd (by omega) λ a8 c8 w8 R8 K8 N8=>⟨_,_,_,rfl,?_⟩⟩;rw [Ae (by omega)];refine⟨⟨i+1,_,a8,c8,rfl,by omega,?_,h6.Br h7.Ar R8 K8 N8,(T6.grown h7.Ar).Br K8 N8⟩,?_⟩
  ·rw [U0 aD,jT,List.append_assoc]
  ·simp only [Ale];omega
 have bF:i=tx.length:=by omega
 rw [bF,<- nN,Ama] at jT;refine Ao (λ hf=>?_) (λ hf=>?_)
 ·rcases aG with ⟨_,e1,e2⟩ | ⟨e1,_⟩
  ·subst hf;have el:l=0 :: BW ls:=by rw [jT,e1,e2,HO];rfl
   subst el;exact .inr ⟨aK,_,ir,mD,.plain,rfl,h6⟩
  ·omega
 obtain⟨gg,hr,hhd2⟩:form=1/\Em (ls.map bl) tx/\hd=1 :: Af tx.length:=by
  rcases aG with ⟨e1,_⟩ | h
  ·exact absurd e1 hf
  ·exact h
 subst gg;refine⟨λ s w9=>∃(kk:Nat) (pa:Option Addr) (pc:Nat),s=[.slice pa kk pc,.int .i64 (kk:Int)]/\kk<=ls.length/\Row w9 ty.uint64 1 pa kk pc ((A9 tx (ls.take kk)).map E1)/\(∀ k,AD pa=some k->w6.heap.size<=k)/\Below w6.heap.size w6 w9,λ s _=>match s with
   | [_,.int _ i]=>ls.length-i.toNat
   | _=>0,⟨0,none,0,rfl,by omega,Row.nil _ _ _,by simp [AD],.refl _ _⟩,?_⟩
 rintro pa kk pc _ w9 ⟨_,_,_,hs,aO,uK,qS,B9⟩;cases hs;have Bw9:Below w.heap.size w w9:=h6.Ar.trans (B9.mono h6.Ar.size);refine Aa (λ aB=>⟨⟨by omega,aB⟩,?_⟩) (λ br=>?_)
 ·have dh:kk<ls.length:=by omega
  obtain⟨p,hp,hc⟩:=Fa (hl.grown Bw9) dh;subst hp;refine⟨_,by rw [Ale];exact hc,(Qb (T6.rd.grown B9) (by omega) hr.up ls[kk]).mono ?_⟩;rintro _ bV ⟨_,rfl,lo,rfl,hP,bp⟩;have cD:bl ls[kk]∈tx:=(hr.mem _).2 (AkU.2 ⟨_,AlS dh,rfl⟩);have fS:=hP.idx hr.up cD;have hle:=hP.le;refine⟨_,_,rfl,(SH.start (λ _=>False) bV).An λ zZ aY hb31 cF bE=>?_⟩;rw [Aj (by omega) (by omega)] at bE;have aW:Rd aY (some ⟨zZ,0,none⟩) [E1 (tx.idxOf (bl ls[kk]))]:=by
   have:=Rd.Ak (bE.get 0 rfl);rw [fS];simpa [E1] using this
  obtain⟨a5,c5,bK,aH,aJ,cj,hnw⟩:=BZ (ty:=ty.HA) (mc:=1) tU rfl (by omega) (by omega) ((uK.grown bp).grown cF) aW (m:=1) rfl (by simp [E1];rfl) (by omega);unfold DB;rw [aH];refine⟨_,_,_,rfl,?_⟩;have B11':Below w6.heap.size w6 aY:=(B9.trans (bp.mono B9.size)).trans (cF.mono (Als B9.size bp.size));rw [Ae (by omega)];refine⟨⟨kk+1,a5,c5,rfl,by omega,?_,λ k hk=>?_,B11'.trans (cj.below B11'.size λ k hk he=>by have:=qS k he;omega)⟩,?_⟩
  ·have:A9 tx (ls.take (kk+1))=A9 tx (ls.take kk)++[tx.idxOf (bl ls[kk])]:=by
    unfold A9;rw [Al6 dh,Alv];rfl
   rw [this,Alv];exact aJ
  ·rcases hnw k hk with h | h
   ·exact qS k h
   ·exact Als B11'.size h
  ·simp only [Ale];omega
 have jS:kk=ls.length:=by omega
 subst jS;rw [Ama] at uK;have bM:(A9 tx ls).length=ls.length:=by simp [A9]
 have nZ:∀ x∈A9 tx ls,x<4097:=by
  intro x hx;obtain⟨s,hs,rfl⟩:=AkU.1 hx;have:=List.idxOf_le_length (l:=tx) (a:=bl s);omega
 have pV:=uK.rd;rw [<- bM];refine (Qa pV (by omega) (λ x hx=>by have:=nZ x hx;omega)).mono ?_;rintro _ al ⟨_,rfl,wd,rfl,iJ,bO,rfl⟩;refine⟨_,rfl,(Is pV (by omega) bO ((HQ _ _).1 iJ.1)).mono ?_⟩;rintro _ an ⟨_,rfl,sw,zt,rfl,iv⟩;have l3:=BR (A9 tx ls) wd;have l4:DA (A9 tx ls).length wd<=4096*64+7:=by
  unfold DA;have:(A9 tx ls).length*wd<=4096*64:=Al0 (by omega) bO;omega
 refine⟨_,_,_,_,rfl,(SH.start (λ _=>False) an).An λ rF ah mf dm m6=>?_⟩;rw [AE (by omega) (by omega)] at m6;have B6:Below w6.heap.size w6 ah:=(B9.trans (iv.Ar.mono B9.size)).trans (dm.mono (Als B9.size iv.Ar.size));have eo:=h6.grown B6;refine CO eo.row (by omega) (x:=Alj wd) (Cq (by omega)) (m6.get 0 rfl) λ kK kM cp m5 jr ly=>⟨_,_,_,rfl,?_⟩;have gU:=h6.Br B6 m5 jr ly;have nb:Rd cp sw ((A5 (A9 tx ls) wd).map Ag):=(iv.rd.grown dm).keeps jr λ p hp hF=>by
  have e1:=iv.new p.block (by rw [hp];rfl);have e2:=h6.row.lt hF;have:=B9.size;omega
 refine A8 gU.row nb (by simp;omega) λ sy tQ cP sl sP sZ=>⟨_,_,_,rfl,.inr ⟨aK,_,sy,tQ,.table tx wd hr iJ,?_,?_⟩⟩
 ·rw [jT,hhd2];simp
 ·have fH:=gU.Br (.refl _ _) sl sP sZ;have el:(l++[Alj wd])++A5 (A9 tx ls) wd=(1 :: Af tx.length)++(BW (tx.map BC)++(Alj wd :: A5 (A9 tx ls) wd)):=by
   rw [jT,hhd2];simp
  rw [el] at fH;exact fH
end
theorem I8{f:Int}{ls:List ByteArray}{w w':World}{r:Value}(h:AfN f ls w w' r):∃(bs:List UInt8) (a:Option Addr) (c:Nat) (e:Int),r=.tuple #[.slice a bs.length c,.int .i64 e]/\Rd w' a (bs.map Ag)/\Below w.heap.size w w'/\((E6 f ls/\F7 ls f bs/\e=0)\/(¬ E6 f ls/\bs=[]/\e=2)):=by
 rcases h with ⟨h1,rfl,hb⟩ | ⟨h1,b,a,c,h2,rfl,h3⟩
 ·exact⟨[],none,0,2,rfl,Rd.nil _ _,hb,.inr ⟨h1,rfl,rfl⟩⟩
 ·exact⟨b,a,c,0,rfl,h3.rd,h3.Ar,.inl ⟨h1,h2,rfl⟩⟩
theorem Aj6(ls:List ByteArray):E6 0 ls↔E6 1 ls:=by simp [E6]
def AiB(ls:List ByteArray)(r:Value):Prop :=
 (¬ E6 0 ls/\r=.tuple #[.int .i64 0,.int .i64 2])\/(∃ b0 b1,F7 ls 0 b0/\F7 ls 1 b1/\E6 0 ls/\r=.tuple #[.int .i64 (if b1.length<b0.length then 1 else 0),.int .i64 0])
section
variable {w:World}{a:Option Addr}{c:Nat}{ls:List ByteArray}
theorem Yc(hl:Rd w a (ls.map Value.string))(hn:ls.length<=9223372036854775807):Calls Tryz.prog f.AeD #[.slice a ls.length c] w (AG λ v w'=>AiB ls v/\Below w.heap.size w w'):=by
 apply R.Te
 delta R.AR R.F R.H R.I R.S;try dsimp only [R.Ps]
 refine (FT 0 hl hn).mono ?_;rintro _ w1 ⟨_,rfl,h1⟩;obtain⟨b0,a0,c0,e0,rfl,_,B1,q0⟩:=I8 h1;refine⟨_,_,_,_,rfl,(FT 1 (hl.grown B1) hn).mono ?_⟩;rintro _ w2 ⟨_,rfl,h2⟩;obtain⟨b1,a1,c1,e1,rfl,_,B2,q1⟩:=I8 h2;have B:=Ac B1 B2;refine⟨_,_,_,_,rfl,?_⟩;rcases q0 with ⟨k0,i0,rfl⟩ | ⟨k0,rfl,rfl⟩
 ·rcases q1 with ⟨k1,i1,rfl⟩ | ⟨k1,_⟩
  ·refine Ah (λ h=>absurd rfl h) (λ _=>Aa (λ h=>⟨.inr ⟨b0,b1,i0,i1,k0,?_⟩,B⟩) (λ h=>⟨.inr ⟨b0,b1,i0,i1,k0,?_⟩,B⟩))
   ·rw [if_neg (by omega)]
   ·rw [if_pos (by omega)]
  ·exact absurd ((Aj6 ls).1 k0) k1
 ·exact Ah (λ _=>⟨.inl ⟨k0,rfl⟩,B⟩) (λ h=>absurd h (by decide))
theorem Aa0(hl:Rd w a (ls.map Value.string))(hn:ls.length<=9223372036854775807):Calls Tryz.prog f.AcV #[.slice a ls.length c] w (AG λ v w'=>AiB ls v/\Below w.heap.size w w'):=by
 apply R.RL
 delta R.AR R.F R.H R.I R.S;try dsimp only [R.Ps]
 refine (Gt 0 hl hn).mono ?_;rintro _ w1 ⟨_,rfl,h1⟩;obtain⟨b0,a0,c0,e0,rfl,_,B1,q0⟩:=I8 h1;refine⟨_,_,_,_,rfl,(Gt 1 (hl.grown B1) hn).mono ?_⟩;rintro _ w2 ⟨_,rfl,h2⟩;obtain⟨b1,a1,c1,e1,rfl,_,B2,q1⟩:=I8 h2;have B:=Ac B1 B2;refine⟨_,_,_,_,rfl,?_⟩;rcases q0 with ⟨k0,i0,rfl⟩ | ⟨k0,rfl,rfl⟩
 ·rcases q1 with ⟨k1,i1,rfl⟩ | ⟨k1,_⟩
  ·refine Ah (λ h=>absurd rfl h) (λ _=>Aa (λ h=>⟨.inr ⟨b0,b1,i0,i1,k0,?_⟩,B⟩) (λ h=>⟨.inr ⟨b0,b1,i0,i1,k0,?_⟩,B⟩))
   ·rw [if_pos (by omega)]
   ·rw [if_neg (by omega)]
  ·exact absurd ((Aj6 ls).1 k0) k1
 ·exact Ah (λ _=>⟨.inl ⟨k0,rfl⟩,B⟩) (λ h=>absurd h (by decide))
end
end Go.Proofs.YtpnaifmmggnimaaGreatDoor
namespace Go.Dn
open _root_.BitVec renaming ofInt -> AkK
set_option linter.unusedVariables false
set_option maxRecDepth 100000
def Pm(r:BitVec 32):BitVec 32:=(r >>> 1) ^^^ (2197175160#32 &&& -(r &&& 1#32))
def EC:Nat->BitVec 32->BitVec 32
 | 0,r=>r
 | n+1,r=>EC n (Pm r)
def NL(c:UInt8):BitVec 32:=BitVec.ofNat 32 c.toNat
def Adz(r:BitVec 32)(c:UInt8):BitVec 32:=EC 8 (r ^^^ NL c)
def CX(r:BitVec 32)(l:List UInt8):BitVec 32:=l.foldl Adz r
def crc(l:List UInt8):BitVec 32:=4294967295#32 ^^^ CX 4294967295#32 l
theorem IC:∀(n:Nat) (r:BitVec 32),EC (n+1) r=Pm (EC n r)
 | 0,_=>rfl
 | n+1,r=>by rw [EC,IC n,EC]
theorem Aav(b:Bool):(-(if b then 1#32 else 0#32))=if b then 4294967295#32 else 0#32:=by cases b <;> decide
theorem and_one(r:BitVec 32):r &&& 1#32=if r.getLsbD 0 then 1#32 else 0#32:=by
 apply BitVec.eq_of_getLsbD_eq;intro i hi;by_cases h0:i=0
 ·subst h0;cases h:r.getLsbD 0
  ·simpa using h
  ·simpa using h
 ·cases h:r.getLsbD 0 <;> simp [h0]
theorem Uy(r:BitVec 32):Pm r=(r >>> 1) ^^^ (if r.getLsbD 0 then 2197175160#32 else 0#32):=by
 unfold Pm;rw [and_one,Aav];cases r.getLsbD 0 <;> simp <;> rfl
theorem Ll(r:BitVec 32)(l m:List UInt8):CX r (l++m)=CX (CX r l) m:=by simp [CX]
theorem Afz(r:BitVec 32):(IntKind.u32.wrap (((AkK 32 (Int.fdiv (r.toNat:Int) (2 ^ (min 1 32))) ^^^ AkK 32 (IntKind.u32.wrap (((AkK 32 2197175160 &&& AkK 32 (IntKind.u32.wrap (0-(IntKind.u32.wrap (((AkK 32 (r.toNat:Int) &&& AkK 32 1).toNat:Int)))))).toNat:Int)))).toNat:Int)))=((Pm r).toNat:Int):=by
 have h1:min 1 32=1:=by decide
 rw [h1,Jz,Bq,Bn,Cx,Bn,Cx,AcA,Cx,Bn,Bn];rfl
end Go.Dn
namespace Go.Dn
def Adh(x:BitVec 32):UInt8:=UInt8.ofNat x.toNat
def VC(x:BitVec 32):List UInt8:=[Adh x,Adh (x >>> 8),Adh (x >>> 16),Adh (x >>> 24)]
theorem AbE(x:BitVec 32):IntKind.u8.wrap (x.toNat:Int)=((Adh x).toNat:Int):=by
 rw [wrap_u8];simp [Adh]
theorem OU(x:BitVec 32)(k:Nat):IntKind.u8.wrap (Int.fdiv (x.toNat:Int) (2 ^ (min k 32)))=((Adh (x >>> (min k 32))).toNat:Int):=by
 rw [Jz,AbE]
end Go.Dn
namespace Go.Proofs.YtpnaifmmggnimaaGreatDoor
open _root_.Int renaming toNat_natCast -> Ale
open _root_.Nat renaming zero_le -> Amk
set_option maxRecDepth 100000
open Go.Dn Go.Proofs
set_option linter.unusedVariables false
theorem Pl(ps:List DZ)(k:Nat)(hk:k<ps.length)(r:BitVec 32) :
  CX r ((ps.take (k+1)).flatMap (·.2.2))=CX (CX r ((ps.take k).flatMap (·.2.2))) ps[k].2.2:=by
 rw [List.take_succ_eq_append_getElem hk,List.flatMap_append,Ll];simp
theorem Im(l:List UInt8)(k:Nat)(hk:k<l.length)(r:BitVec 32):CX r (l.take (k+1))=Adz (CX r (l.take k)) l[k]:=by
 rw [List.take_succ_eq_append_getElem hk,Ll];rfl
theorem AbL{w:World}{a:Option Addr}{c:Nat}(ps:List DZ)(hp:Rd w a (ps.map Cc))(hb:∀ p∈ps,Rd w p.1 (p.2.2.map Ag))(hn:ps.length<9223372036854775807)(hl:∀ p∈ps,p.2.2.length<9223372036854775807) :
  Calls Tryz.prog f.AhB #[.slice a ps.length c] w (AG λ v w'=>v=.int .u32 ((crc (ps.flatMap (·.2.2))).toNat:Int)/\w'=w):=by
 apply R.VJ
 delta R.Ad R.F R.I R.Ls R.Ly R.Qvi R.V R.W R.Wv R.X;try dsimp only [R.Ps]
 refine⟨λ s w1=>match s with
   | [.int _ r,.int _ i]=>w1=w/\∃ k:Nat,i=k/\k<=ps.length/\r=((CX 4294967295#32 ((ps.take k).flatMap (·.2.2))).toNat:Int)
   | _=>False,
  λ s _=>match s with
   | [_,.int _ i]=>ps.length-i.toNat
   | _=>0,⟨rfl,0,rfl,Amk _,by simp [CX]⟩,?_⟩
 rintro r i w1 ⟨rfl,k,rfl,hk,rfl⟩;refine Aa (λ aB=>?_) (λ aI=>?_)
 ·have aO:k<ps.length:=by omega
  refine⟨⟨by omega,by omega⟩,?_⟩;obtain⟨p,rfl,hc⟩:=hp k (Cc ps[k]) (by simp [aO]);have ag:ps[k]∈ps:=List.getElem_mem aO;have uZ:=hb _ ag;have yM:=hl _ ag;have gi:=Pl ps k aO 4294967295#32;generalize hR:CX 4294967295#32 ((ps.take k).flatMap (·.2.2))=R at gi ⊢;generalize hq:ps[k]=q at uZ yM gi hc;obtain⟨qa,qc,l⟩:=q;simp only at uZ yM gi;refine⟨qa,l.length,qc,by simpa [Cc] using hc,?_⟩;refine⟨λ s w2=>match s with
    | [.int _ r,.int _ i]=>w2=w1/\∃ j:Nat,i=j/\j<=l.length/\r=((CX R (l.take j)).toNat:Int)
    | _=>False,
   λ s _=>match s with
    | [_,.int _ i]=>l.length-i.toNat
    | _=>0,⟨rfl,0,rfl,Amk _,by simp [CX]⟩,?_⟩
  rintro r i w2 ⟨rfl,j,rfl,hj,rfl⟩;refine Aa (λ ao=>?_) (λ br=>?_)
  ·have fR:j<l.length:=by omega
   refine⟨⟨by omega,by omega⟩,?_⟩;obtain⟨p2,rfl,cG⟩:=uZ j (Ag l[j]) (by simp [fR]);have qe:=Im l j fR R;generalize hR2:CX R (l.take j)=R2 at qe ⊢;refine⟨(l[j].toNat:Int),by simpa [Ag] using cG,?_⟩;have h0:(IntKind.u32.wrap (((BitVec.ofInt 32 (R2.toNat:Int) ^^^ BitVec.ofInt 32 (IntKind.u32.wrap ((l[j].toNat:Int)))).toNat:Int)))=((R2 ^^^ NL l[j]).toNat:Int):=by
    rw [Cx,Bn,Bq,BitVec.ofInt_natCast];rfl
   rw [h0];refine⟨λ s w3=>match s with
     | [.int _ r,.int _ i]=>w3=w2/\∃ m:Nat,i=m/\m<=8/\r=((EC m (R2 ^^^ NL l[j])).toNat:Int)
     | _=>False,
    λ s _=>match s with
     | [_,.int _ i]=>8-i.toNat
     | _=>0,⟨rfl,0,rfl,Amk _,by simp [EC]⟩,?_⟩
   rintro r i w3 ⟨rfl,m,rfl,hm,rfl⟩;refine Aa (λ vi=>?_) (λ q8=>?_)
   ·rw [Afz,Ae (by omega)];refine⟨⟨rfl,m+1,rfl,by omega,by rw [IC]⟩,?_⟩;simp only [Ale];omega
   ·have:m=8:=by omega
    subst this;rw [Ae (by omega)];refine⟨⟨rfl,j+1,rfl,by omega,by rw [qe];rfl⟩,?_⟩;simp only [Ale];omega
  ·have:j=l.length:=by omega
   subst this;rw [Ae (by omega)];refine⟨⟨rfl,k+1,rfl,by omega,by rw [gi,List.take_length]⟩,?_⟩;simp only [Ale];omega
 ·have:k=ps.length:=by omega
  subst this;refine⟨?_,rfl⟩;rw [List.take_length,Bn,Bq];rfl
end Go.Proofs.YtpnaifmmggnimaaGreatDoor
namespace Go.Proofs.YtpnaifmmggnimaaGreatDoor
open _root_.Int renaming toNat_natCast -> Ale
open _root_.List renaming flatMap_cons -> Aml, take_of_length_le -> AlK, take_succ_eq_append_getElem -> Al6
set_option maxRecDepth 100000
open Go.Dn Go.Proofs
open Go.RowKit (Below)
set_option linter.unusedVariables false
abbrev AP(ls:List AB):List Value:=ls.flatMap H6
theorem H7:∀(ls:List AB) (i j:Nat) (hi:i<ls.length),j<3->(AP ls)[i*3+j]?=(H6 ls[i])[j]?
 | [],i,j,hi,_=>by simp at hi
 | v :: ls,0,j,_,hj=>by
  simp only [AP,Aml,Nat.zero_mul,Nat.zero_add,List.getElem_cons_zero];rw [List.getElem?_append_left (by simpa [H6] using hj)]
 | v :: ls,i+1,j,hi,hj=>by
  simp only [AP,Aml,List.getElem_cons_succ];rw [List.getElem?_append_right (by simp [H6];omega)];have e:(i+1)*3+j-(H6 v).length=i*3+j:=by simp [H6];omega
  rw [e];exact H7 ls i j (by simpa using hi) hj
theorem Jo(ls:List AB):(AP ls).length=ls.length*3:=by
 induction ls with
 | nil=>rfl
 | cons v ls ih=>simp only [AP,Aml,List.length_append,List.length_cons] at ih ⊢;rw [ih];simp [H6];omega
section
variable {w:World}{a:Option Addr}{c:Nat}{ls:List AB}
theorem Di(hl:Rd w a (AP ls)){i:Nat}(hi:i<ls.length):∃ p,a=some p/\w.cell? (p.add (i*3))=some (.int .i64 ls[i].1)/\w.cell? ((p.add (i*3)).add 1)=some (.int .i64 ls[i].2.1)/\w.cell? ((p.add (i*3)).add 2)=some (.string ls[i].2.2):=by
 obtain⟨p,hp,h0⟩:=hl (i*3+0) _ (by rw [H7 ls i 0 hi (by omega)];rfl);obtain⟨p1,hp1,h1⟩:=hl (i*3+1) _ (by rw [H7 ls i 1 hi (by omega)];rfl);obtain⟨p2,gm,h2⟩:=hl (i*3+2) _ (by rw [H7 ls i 2 hi (by omega)];rfl);subst hp;cases hp1;cases gm;exact⟨p,rfl,h0,by rw [BH];exact h1,by rw [BH];exact h2⟩
def okV(kind:Int)(v:AB):Bool:=AK v && (decide (v.1=kind) || decide (v.1=0))
def DW(kind:Int)(ls:List AB):Bool:=ls.all (okV kind) && decide (1<=kind/\kind<=3/\ls.length<=1024)
theorem ZD{p:AB->Bool}{i:Nat}(hi:i<ls.length)(h:(ls.take i).all p=true)(hp:p ls[i]=true):(ls.take (i+1)).all p=true:=by
 rw [Al6 hi,List.all_append,h];simp [hp]
theorem Vl{kind:Int}{i:Nat}(hi:i<ls.length)(hp:okV kind ls[i]=false):DW kind ls=false:=by
 have:ls.all (okV kind)=false:=by
  rw [List.all_eq_false];exact⟨_,List.getElem_mem hi,by simp [hp]⟩
 simp [DW,this]
theorem Xp{kind:Int}(aF:ls.all (okV kind)=true){w':World}(hb:Below w.heap.size w w'){k:Value->World->Prop}(hk:∀ v w',v=Value.bool (DW kind ls)->Below w.heap.size w w'->k v w') :
  VS (decide (kind>=1)) (VS (decide (kind<=3)) (k (Value.bool (decide ((ls.length:Int)<=1024))) w') (k (Value.bool false) w')) (k (Value.bool false) w'):=by
 have e:DW kind ls=decide (1<=kind/\kind<=3/\ls.length<=1024):=by simp [DW,aF]
 refine Aa (λ h1=>Aa (λ h2=>hk _ _ ?_ hb) (λ h2=>hk _ _ ?_ hb)) (λ h1=>hk _ _ ?_ hb)
 ·rw [e];congr 1;rw [decide_eq_decide];omega
 ·rw [e];congr 1;rw [eq_comm,decide_eq_false_iff_not];omega
 ·rw [e];congr 1;rw [eq_comm,decide_eq_false_iff_not];omega
theorem Us(kind:Int)(hl:Rd w a (AP ls))(hn:ls.length<=9223372036854775807) :
  Calls Tryz.prog f.ZR #[.int .i64 kind,.slice a ls.length c] w (AG λ v w'=>v=.bool (DW kind ls)/\Below w.heap.size w w'):=by
 apply R.Pg
 delta R.A R.Ab R.Cb R.E R.F R.G R.I R.Li R.Lt R.N R.Qi R.Am R.T R.W R.X;try dsimp only [R.Ps]
 refine⟨λ s w1=>∃ i:Nat,i<=ls.length/\s=[.int .i64 (i:Int)]/\Below w.heap.size w w1/\(ls.take i).all (okV kind)=true,λ s _=>match s with
   | [.int _ i]=>ls.length-i.toNat
   | _=>0,⟨0,by omega,rfl,.refl _ _,rfl⟩,?_⟩
 rintro _ w1 ⟨i,hi,aA,B1,aF⟩;cases aA;refine Aa (λ aB=>⟨⟨by omega,aB⟩,?_⟩) (λ aI=>?_)
 ·have aD:i<ls.length:=by omega
  obtain⟨p,rfl,h0,h1,h2⟩:=Di (hl.grown B1) aD;refine⟨_,by rw [Ale];exact h0,_,by rw [Ale];exact h1,_,by rw [Ale];exact h2,(SH.start (λ _=>False) w1).II λ b9 w5 rZ B5 S5=>?_⟩;refine⟨_,S5.cell 0 rfl rfl,_,S5.cell 0 rfl rfl,_,S5.cell 0 rfl rfl,(EK w5 ls[i]).mono ?_⟩;rintro _ w6 ⟨_,rfl,rfl,B6⟩;have S6:=S5.grown B6;have C6:=Ac (Ac B1 B5) B6;have bad:okV kind ls[i]=false->(Value.bool false=.bool (DW kind ls))/\Below w.heap.size w w6:=λ h=>⟨by rw [Vl aD h],C6⟩;have step:okV kind ls[i]=true->(∃ j:Nat,j<=ls.length/\[Value.int .i64 (IntKind.i64.wrap ((i:Int)+1))]=[.int .i64 (j:Int)]/\Below w.heap.size w w6/\(ls.take j).all (okV kind)=true)/\ls.length-(IntKind.i64.wrap ((i:Int)+1)).toNat<ls.length-((i:Nat):Int).toNat:=by
   intro h;rw [Ae (by omega)];refine⟨⟨i+1,by omega,rfl,C6,ZD aD aF h⟩,?_⟩;simp only [Ale];omega
  refine⟨_,rfl,As (Aq (λ hr=>?_) (λ hr=>bad (by simp [okV,hr])))⟩;refine⟨_,S6.cell 0 rfl rfl,Ah (λ hk=>⟨_,S6.cell 0 rfl rfl,Ah (λ hz=>bad ?_) (λ hz=>step ?_)⟩) (λ hk=>step ?_)⟩
  ·simp [okV,hk,hz]
  ·simp [okV,hr,hz]
  ·simp [okV,hr,hk]
 ·have bF:ls.take i=ls:=AlK (by omega);rw [bF] at aF;exact Xp (k:=λ v w'=>v=Value.bool (DW kind ls)/\Below w.heap.size w w') aF B1 λ v w' h1 h2=>⟨h1,h2⟩
theorem Ve(kind:Int)(hl:Rd w a (AP ls))(hn:ls.length<=9223372036854775807) :
  Calls Tryz.prog f.AaV #[.int .i64 kind,.slice a ls.length c] w (AG λ v w'=>v=.bool (DW kind ls)/\Below w.heap.size w w'):=by
 apply R.P4
 delta R.Cb R.E R.F R.G R.I R.Li R.Lt R.Qi R.T R.W R.X;try dsimp only [R.Ps]
 refine⟨λ s w1=>∃ i:Nat,i<=ls.length/\s=[.int .i64 (i:Int)]/\Below w.heap.size w w1/\(ls.take i).all (okV kind)=true,λ s _=>match s with
   | [.int _ i]=>ls.length-i.toNat
   | _=>0,⟨0,by omega,rfl,.refl _ _,rfl⟩,?_⟩
 rintro _ w1 ⟨i,hi,aA,B1,aF⟩;cases aA;refine Aa (λ aB=>⟨⟨by omega,aB⟩,?_⟩) (λ aI=>?_)
 ·have aD:i<ls.length:=by omega
  obtain⟨p,rfl,h0,h1,h2⟩:=Di (hl.grown B1) aD;refine⟨_,by rw [Ale];exact h0,_,by rw [Ale];exact h1,_,by rw [Ale];exact h2,(FV w1 ls[i]).mono ?_⟩;rintro _ w6 ⟨_,rfl,rfl,B6⟩;have C6:=Ac B1 B6;obtain⟨p',hp',rS,_,_⟩:=Di (hl.grown C6) aD;cases hp';have bad:okV kind ls[i]=false->(Value.bool false=.bool (DW kind ls))/\Below w.heap.size w w6:=λ h=>⟨by rw [Vl aD h],C6⟩;have step:okV kind ls[i]=true->(∃ j:Nat,j<=ls.length/\[Value.int .i64 (IntKind.i64.wrap ((i:Int)+1))]=[.int .i64 (j:Int)]/\Below w.heap.size w w6/\(ls.take j).all (okV kind)=true)/\ls.length-(IntKind.i64.wrap ((i:Int)+1)).toNat<ls.length-((i:Nat):Int).toNat:=by
   intro h;rw [Ae (by omega)];refine⟨⟨i+1,by omega,rfl,C6,ZD aD aF h⟩,?_⟩;simp only [Ale];omega
  refine⟨_,rfl,As (Aq (λ hr=>?_) (λ hr=>bad (by simp [okV,hr])))⟩;refine⟨⟨by omega,aB⟩,_,by rw [Ale];exact rS,Ah (λ hk=>⟨⟨by omega,aB⟩,_,by rw [Ale];exact rS,Ah (λ hz=>bad ?_) (λ hz=>step ?_)⟩) (λ hk=>step ?_)⟩
  ·simp [okV,hk,hz]
  ·simp [okV,hr,hz]
  ·simp [okV,hr,hk]
 ·have bF:ls.take i=ls:=AlK (by omega);rw [bF] at aF;exact Xp (k:=λ v w'=>v=Value.bool (DW kind ls)/\Below w.heap.size w w') aF B1 λ v w' h1 h2=>⟨h1,h2⟩
def Au(ls:List AB):Nat:=ls.countP λ v=>decide (v.1=0)
def A4(ls:List AB):List Nat:=ls.map λ v=>if v.1=0 then 1 else 0
def AQ(ls:List AB):List AB:=ls.filter λ v=>!decide (v.1=0)
theorem FG{i:Nat}(hi:i<ls.length):Au (ls.take (i+1))=Au (ls.take i)+if ls[i].1=0 then 1 else 0:=by
 unfold Au;rw [Al6 hi,List.countP_append];by_cases h:ls[i].1=0 <;> simp [h]
theorem Dc(ls:List AB):Au ls<=ls.length:=List.countP_le_length
theorem EB{i:Nat}(hi:i<ls.length):A4 (ls.take (i+1))=A4 (ls.take i)++[if ls[i].1=0 then 1 else 0]:=by
 unfold A4;rw [Al6 hi,List.map_append];rfl
theorem CU{i:Nat}(hi:i<ls.length):AQ (ls.take (i+1))=AQ (ls.take i)++(if ls[i].1=0 then [] else [ls[i]]):=by
 unfold AQ;rw [Al6 hi,List.filter_append];by_cases h:ls[i].1=0 <;> simp [h]
theorem Vf(hl:Rd w a (AP ls))(hn:ls.length<=1000000):Calls Tryz.prog f.AaW #[.slice a ls.length c] w (AG λ v w'=>w'=w/\v=.int .i64 (Au ls:Int)):=by
 apply R.P5
 delta R.F R.I R.Li R.NH R.W R.X;try dsimp only [R.Ps]
 refine⟨λ s w1=>w1=w/\∃ i:Nat,i<=ls.length/\s=[.int .i64 (Au (ls.take i):Int),.int .i64 (i:Int)],λ s _=>match s with
   | [_,.int _ i]=>ls.length-i.toNat
   | _=>0,⟨rfl,0,by omega,rfl⟩,?_⟩
 rintro _ _ w1 ⟨rfl,i,hi,aA⟩;cases aA;have hle:=Dc (ls.take i);rw [List.length_take] at hle;refine Aa (λ aB=>⟨⟨by omega,aB⟩,?_⟩) (λ aI=>⟨rfl,?_⟩)
 ·have aD:i<ls.length:=by omega
  obtain⟨p,rfl,h0,h1,h2⟩:=Di hl aD;refine⟨_,by rw [Ale];exact h0,Ao (λ hz=>?_) (λ hz=>?_)⟩
  ·rw [Ae (by omega),Ae (by omega)];refine⟨⟨rfl,i+1,by omega,by rw [FG aD,if_pos hz]⟩,?_⟩;simp only [Ale];omega
  ·rw [Ae (by omega)];refine⟨⟨rfl,i+1,by omega,by rw [FG aD,if_neg hz];rfl⟩,?_⟩;simp only [Ale];omega
 ·have bF:ls.take i=ls:=AlK (by omega);rw [bF]
theorem Nn:Calls Tryz.prog f.Ab3 #[.slice a ls.length c] w (AG λ v w'=>∃ b,v=.func (.func f.Nl) #[] #[.pointer (some ⟨b,0,none⟩)]/\SH (λ _=>False) w w' [(b,#[.slice a ls.length c],ty.CD)]):=by
 apply R.QY
 delta R.J R.N R.P R.S;try dsimp only [R.Ps]
 exact (SH.start (λ _=>False) w).An λ b1 w1 _ _ S1=>⟨b1,rfl,S1⟩
theorem UJ{L b:Nat}(hn:ls.length<=1000000)(J:Nat->World->Prop)(cw:∀ k w,J k w->Rd w a (AP ls))(bu:∀ k w w',J k w->Below w.heap.size w w'->J k w')(qd:∀ k w (hk:k<ls.length),ls[k].1=0->J k w->J (k+1) w)
  (ae:∀ k w (hk:k<ls.length),ls[k].1≠0->J k w->O8 Tryz.prog L #[TQ ls[k]] (λ y w'=>y=true/\J (k+1) w') w) (h0:J 0 w) (hb:w.cell? ⟨b,0,none⟩=some (.slice a ls.length c)) :
  Calls Tryz.prog f.Nl #[.func (.yield L) #[] #[],.pointer (some ⟨b,0,none⟩)] w (AG λ _ w'=>J ls.length w'):=by
 apply R.MN
 delta R.A R.Ab R.E R.F R.H R.I R.Li R.Ls R.Lt R.N R.Qi R.Am R.T R.W R.X;try dsimp only [R.Ps]
 refine⟨_,_,_,hb,λ s w1=>∃ k:Nat,k<=ls.length/\s=[.int .i64 (k:Int)]/\J k w1,λ s _=>match s with
   | [.int _ i]=>ls.length-i.toNat
   | _=>0,⟨0,by omega,rfl,h0⟩,?_⟩
 rintro _ w1 ⟨k,hk,aA,hj⟩;cases aA;refine Aa (λ aB=>⟨⟨by omega,aB⟩,?_⟩) (λ aI=>?_)
 ·have aO:k<ls.length:=by omega
  obtain⟨p,hp,c0,c1,c2⟩:=Di (cw _ _ hj) aO;subst hp;refine⟨_,by rw [Ale];exact c0,_,by rw [Ale];exact c1,_,by rw [Ale];exact c2,(SH.start (λ _=>False) w1).II λ b9 w5 rZ B5 S5=>?_⟩;have ri:=bu _ _ _ hj B5;rw [Ae (by omega)];have cM:ls.length-((k+1:Nat):Int).toNat<ls.length-((k:Nat):Int).toNat:=by
   simp only [Ale];omega
  refine⟨_,S5.cell 0 rfl rfl,Ah (λ aQ=>⟨_,S5.cell 0 rfl rfl,_,S5.cell 0 rfl rfl,_,S5.cell 0 rfl rfl,?_⟩) (λ hz=>⟨⟨k+1,by omega,rfl,qd k _ aO hz ri⟩,cM⟩)⟩;obtain⟨fn,tm,asg,bo,hy,hrr⟩:=ae k w5 aO aQ ri;refine⟨fn,tm,asg,bo,hy,hrr.mono ?_⟩;rintro e w6 ⟨y,he,rfl,rj⟩;exact⟨true,he,AV ⟨⟨k+1,by omega,rfl,rj⟩,cM⟩⟩
 ·have:k=ls.length:=by omega
  subst this;exact hj
end
end Go.Proofs.YtpnaifmmggnimaaGreatDoor
namespace Go.Dn
set_option linter.unusedVariables false
set_option maxRecDepth 100000
open Go.RowKit (Below)
open Go.Maps (has Tidy Keyed)
def XP(P:Program)(k e:TypeId)(w:World)(b n:Nat)(g:List UInt8->Bool):Prop :=
 ∃ D:DataW Unit,w.ownsMap P k (plainElem P e) b n D/\Tidy D/\∀ x,D.atKey (.string x) (.lit (.bool false))=.lit (.bool (g x))
theorem Ob{H:Type}{P:Program}{e:TypeId}(he:P.underlying e=some .bool){v:Value}{z:DataW H × List MemPlace}(h:plainElem P e v=some z):∃ a,v=.bool a/\z=(.lit (.bool a),[]):=by
 unfold plainElem at h;rw [he] at h;cases v <;> simp at h;exact⟨_,rfl,h.symm⟩
section
variable {P:Program}{k e t:TypeId}{w:World}{b n:Nat}{g:List UInt8->Bool}
theorem XP.kept(h:XP P k e w b n g){F:Nat->Prop}{w':World}(K:Ai F w w')(hn:¬ F b):XP P k e w' b n g:=by
 obtain⟨D,⟨es,clock,hb,r⟩,h2⟩:=h;exact⟨D,⟨es,clock,K.at hb hn,r⟩,h2⟩
theorem XP.put(h:XP P k e w b n g)(hk:P.underlying k=some .string)(he:P.underlying e=some .bool)(ht:P.underlying t=some (.map k e))(hn:n<maxLen){s:ByteArray}(hs:s.size<=maxLen){v:Bool}
  {f:World->Prop} (hf:∀ w',Ai (·=b) w w'->XP P k e w' b (n+1) (λ y=>if y=bl s then v else g y)->f w'):OPU P (Instr.mapUpdate t (.map (some b)) (.string s) (.bool v)) f w:=by
 obtain⟨D,hD,hT,hg⟩:=h;have gF:keyOf P k (.string s)=some (.string (bl s)):=by simp [keyOf,hk,mapKey,hs,bl]
 obtain⟨w',aH,fW,bu⟩:=hD.update (Maps.string_keyed hk) ht hn gF (plainElem_bool he v);unfold OPU;rw [aH];have aO:WideAt.IsKeyLit (.string (bl s)):=by simp [WideAt.IsKeyLit]
 refine hf w' (.of_grownBy bu) ⟨_,fW,hT.put aO _,λ x=>?_⟩;by_cases hx:x=bl s
 ·subst hx;simp only [if_true];exact Maps.atKey_put_same hT.isMap aO _ _
 ·have aQ:Lit.string x≠.string (bl s):=λ e=>hx (by injection e);simp only [hx,if_false];exact (Maps.atKey_put_other aQ _ _).trans (hg x)
theorem XP.get(h:XP P k e w b n g)(hk:P.underlying k=some .string)(he:P.underlying e=some .bool)(ht:P.underlying t=some (.map k e))(hz:(zeroValue e).run P w=.ok (.bool false) w){s:ByteArray}(hs:s.size<=maxLen)
  {f:Value->World->Prop} (hf:f (.bool (g (bl s))) w):DB P (Instr.lookup t (.map (some b)) (.string s) false) f w:=by
 obtain⟨D,hD,hT,hg⟩:=h;have gF:keyOf P k (.string s)=some (.string (bl s)):=by simp [keyOf,hk,mapKey,hs,bl]
 obtain⟨v,ps,aH,hv⟩:=hD.lookup (Maps.string_keyed hk) ht hz (plainElem_bool he false) gF;obtain⟨c,rfl,hc⟩:=Ob he hv;simp only [Prod.mk.injEq] at hc;have cU:=hc.1;rw [hg (bl s)] at cU;have:c=g (bl s):=by injection cU with h1;injection h1 with h2;exact h2.symm
 unfold DB;rw [aH,this];exact hf
end
end Go.Dn
