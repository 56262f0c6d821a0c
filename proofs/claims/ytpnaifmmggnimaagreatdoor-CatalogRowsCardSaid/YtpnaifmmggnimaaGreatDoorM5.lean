/-
  Texts of this claim, laid one behind the other by a program of mine (install.py): G.Sig2, G.Laid, G.Enc, G.Enc2, G.IntsR, G.IntsP, G.IntsE, G.IntsB, G.RefEnc, G.RefEnc2, G.RefEnc3, G.Best, Dn.Crc, G.Sum, G.Ch1, Dn.MapsB.
-/
import Derived.Test.YtpnaifmmggnimaaGreatDoorM4
import Derived.Test.YtpnaifmmggnimaaGreatDoorM1
import Derived.Test.YtpnaifmmggnimaaGreatDoorM3
namespace Go.Proofs.YtpnaifmmggnimaaGreatDoor
open _root_.Array renaming getElem?_eq_some_iff -> AlG
open _root_.Bool renaming eq_iff_iff -> Alz
open _root_.Int renaming toNat_natCast -> Ak4
open _root_.List renaming append_nil -> Al2, eq_nil_of_length_eq_zero -> AkT, getElem?_eq_getElem -> AlV, getElem?_eq_some_iff -> AkN, getElem_map -> Al1, getElem_mem -> AlI, length_append -> Ak1, length_cons -> Ak3, length_drop -> Alu, length_pos_iff -> Al7, length_take -> AlX, map_append -> Alk, map_drop -> Alv, mem_append -> AlY, mem_cons -> AkL, mem_cons_self -> AlD, mem_iff_getElem -> Al9, mem_map -> AkK, mem_of_mem_take -> Al3, mem_singleton -> AlZ, nil_append -> Al4, not_mem_nil -> Al5, take_length -> Al0, take_of_length_le -> AlA, take_succ_eq_append_getElem -> AlW
open _root_.Nat renaming le_refl -> AkY, le_trans -> Ali, lt_or_ge -> AlH, mul_le_mul -> AlQ, mul_one -> Ak7, zero_mul -> Al6
open _root_.Option.some renaming inj -> Al8
open _root_.UInt8 renaming ofNat -> Ak9
set_option maxRecDepth 100000
open Go.Dn Go.Proofs
open Go.RowKit (Below)
set_option linter.unusedVariables false
section
variable {w:World}{a:Option Addr}{c:Nat}
theorem Vm(n:Int)(h1 : -9223372036854775808<=n)(h2:n<=9223372036854775807):Calls Tryz.prog f.Ae4 #[.int .i64 n] w (AG λ v w'=>v=.int .u64 (D4 n:Int)/\w'=w):=by
 apply R.TN
 delta R.F R.U R.W R.Wu;try dsimp only [R.Ps]
 refine Aa (λ h=>⟨?_,rfl⟩) (λ h=>⟨?_,rfl⟩)
 ·rw [wrap_i64 (n:=n+1) (by omega) (by omega),wrap_i64 (n:=0-(n+1)) (by omega) (by omega),Aj (n:=0-(n+1)) (by omega) (by omega),Aj (n:=2*(0-(n+1))) (by omega) (by omega),Aj (by omega) (by omega)];unfold D4;rw [if_pos h];congr 1;omega
 ·rw [Aj (n:=n) (by omega) (by omega),Aj (by omega) (by omega)];unfold D4;rw [if_neg h];congr 1;omega
theorem Fb(l:List UInt8)(hl:Rd w a (l.map Ag))(n:Int)(h1 : -9223372036854775808<=n)(h2:n<=9223372036854775807)(hs:l.length+10<=140737488355328) :
  Calls Tryz.prog f.YC #[.slice a l.length c,.int .i64 n] w (AG λ v w'=>∃ a c,v=.slice a (l++Af (D4 n)).length c/\Bn w w' (l++Af (D4 n)) a c):=by
 apply R.OG
 delta R.Cs R.Cu R.I R.S R.U;try dsimp only [R.Ps]
 refine (Vm n h1 h2).mono ?_;rintro _ w ⟨_,rfl,rfl,rfl⟩;refine⟨_,rfl,(Bi l hl (D4 n) (FQ h1 h2) hs).mono ?_⟩;rintro _ w1 ⟨_,rfl,a1,c1,rfl,h⟩;exact⟨_,_,_,rfl,a1,c1,rfl,h⟩
end
def BW(ls:List ByteArray):List UInt8:=ls.flatMap Bu
theorem Vd{ls:List ByteArray}{k:Nat}(hk:k<ls.length):BW (ls.take (k+1))=BW (ls.take k)++Bu ls[k]:=by
 unfold BW;rw [AlW hk,List.flatMap_append];simp
theorem QT{s:ByteArray}(h:s.size<=1024):(Bu s).length<=1034:=by
 have:=Al (n:=s.size) (by omega);have:=A9 s;simp [Bu];omega
theorem Gi{ls:List ByteArray}(h:∀ s∈ls,s.size<=1024):(BW ls).length<=ls.length*1034:=by
 induction ls with
 | nil=>simp [BW]
 | cons s ls ih =>
  have h1:=QT (h s (AlD ..));have h2:=ih λ x hx=>h x (List.mem_cons_of_mem _ hx);simp only [BW,List.flatMap_cons,Ak1,Ak3] at *;omega
theorem tP:MN Tryz.prog ty.Hw=some (ty.AH,1,24,.slice none 0 0):=by kernel_rfl
theorem E7{w:World}{a:Option Addr}{ls:List ByteArray}(hl:Rd w a (ls.map Value.string)){i:Nat}(hi:i<ls.length):∃ p,a=some p/\w.cell? (p.add (i*1))=some (.string ls[i]):=by
 obtain⟨p,hp,hc⟩:=hl i (.string ls[i]) (by simp [hi]);exact⟨p,hp,by rw [Ak7];exact hc⟩
theorem Qs{w:World}{a:Option Addr}{c:Nat}{ls:List ByteArray}(hl:Rd w a (ls.map Value.string))(hn:ls.length<=4096)(hz:∀ s∈ls,s.size<=1024) :
  Calls Tryz.prog f.Afj #[.slice a ls.length c] w (AG λ v w'=>∃ a' c',v=.slice a' (BW ls).length c'/\Bn w w' (BW ls) a' c'):=by
 apply R.Tt
 delta R.Ad R.AR R.Cs R.F R.I R.J R.Ks R.Lt R.N R.O R.ER R.S R.T R.W R.X;try dsimp only [R.Ps]
 refine⟨λ s w1=>∃(ps:List DY) (pa:Option Addr) (pc:Nat),s=[.slice pa ps.length pc,.int .i64 (ps.length:Int)]/\ps.length<=ls.length/\Row w1 ty.AH 1 pa ps.length pc (ps.map BZ)/\(∀ k,AD pa=some k->w.heap.size<=k) /\
   (∀ p∈ps,Rd w1 p.1 (p.2.2.map Ag)/\(∀ k,AD pa=some k->AD p.1≠some k)/\∀ k,AD p.1=some k->k<w1.heap.size)/\BV ps=BW (ls.take ps.length)/\Below w.heap.size w w1,λ s _=>match s with
   | [_,.int _ i]=>ls.length-i.toNat
   | _=>0,⟨[],none,0,rfl,by simp,Row.nil _ _ _,by simp [AD],by simp,by simp [BV,BW],.refl _ _⟩,?_⟩
 rintro pa _ pc _ w1 ⟨ps,_,_,hs,hle,hR,bE,dk,cj,B1⟩;cases hs;refine Aa (λ aB=>⟨⟨by omega,aB⟩,?_⟩) (λ aJ=>?_)
 ·have aO:ps.length<ls.length:=by omega
  obtain⟨p,rfl,hc⟩:=E7 (hl.grown B1) aO;have aw:=hz _ (AlI aO);refine⟨_,by rw [Ak4];exact hc,(Hg (c:=0) [] (Rd.nil _ _) ls[ps.length] (by omega) (by simp;omega)).mono ?_⟩;rintro _ w3 ⟨_,rfl,a3,c3,rfl,h3⟩;rw [Al4] at h3 ⊢;refine⟨_,_,_,_,rfl,(SH.start (λ _=>False) w3).An λ df w4 o8 B4 S4=>?_⟩;have h4:=h3.grown B4;have aW:Rd w4 (some ⟨df,0,none⟩) [BZ (a3,c3,Bu ls[ps.length])]:=by
   have:=Rd.Ak (S4.get 0 rfl);simpa [BZ] using this
  obtain⟨a5,c5,w5,aH,aI,hk,hnw⟩:=BX (ty:=ty.Hw) (mc:=1) tP rfl (by omega) (by omega) (hR.grown (h4.Ar)) aW (m:=1) rfl (by simp [BZ];rfl) (by omega);unfold DE;rw [aH];refine⟨_,_,_,rfl,?_⟩;have e1:(ps++[(a3,c3,Bu ls[ps.length])]).length=ps.length+1:=by simp
  have B4':Below w.heap.size w w4:=B1.trans (h4.Ar.mono B1.size);refine⟨⟨ps++[(a3,c3,Bu ls[ps.length])],a5,c5,?_,by omega,?_,λ k cl=>?_,λ q hq=>?_,?_,B4'.trans (hk.below B4'.size λ k aB eQ=>?_)⟩,?_⟩
  ·rw [Ae (by omega),e1]
  ·rw [e1,Alk];exact aI
  ·rcases hnw k cl with h | h
   ·exact bE k h
   ·exact Ali B4'.size h
  ·have bL:∀ k,AD pa=some k->k<w1.heap.size:=λ k h=>hR.lt h;have j6:∀ k,AD pa=some k->AD q.1≠some k:=by
    intro k cm ax;rcases AlY.1 hq with h | h
    ·exact (dk q h).2.1 k cm ax
    ·simp only [AlZ] at h;subst h;have:=h3.new k ax;have:=bL k cm;omega
   have ui:Rd w4 q.1 (q.2.2.map Ag):=by
    rcases AlY.1 hq with h | h
    ·exact (dk q h).1.grown h4.Ar
    ·simp only [AlZ] at h;subst h;exact h4.rd
   have kQ:∀ k,AD q.1=some k->k<w4.heap.size:=by
    intro k ax;rcases AlY.1 hq with h' | h'
    ·exact Nat.lt_of_lt_of_le ((dk q h').2.2 k ax) h4.Ar.size
    ·simp only [AlZ] at h';subst h';exact h4.row.lt ax
   refine⟨?_,λ k cl ax=>?_,λ k ax=>Nat.lt_of_lt_of_le (kQ k ax) hk.size⟩
   ·exact ui.keeps hk (λ p hp hF=>j6 p.block hF (by rw [hp];rfl))
   ·rcases hnw k cl with h | h
    ·exact j6 k h ax
    ·have:=kQ k ax;omega
  ·rw [e1,Vd aO,<- cj];simp [BV]
  ·have:=bE k eQ;omega
  ·simp only [Ak4];rw [Ae (by omega)];omega
 ·have bL:ps.length=ls.length:=by omega
  rw [bL,Al0] at cj;have hlen:=Gi hz;refine (Bp ps hR.rd (λ p hp=>(dk p hp).1) (by omega) (by rw [cj];omega)).mono ?_;rintro _ w2 ⟨_,rfl,a2,c2,rfl,h2⟩;rw [cj] at h2 ⊢;exact⟨_,_,_,rfl,a2,c2,rfl,h2.before B1⟩
def J7(ls:List ByteArray):Bool:=ls.any λ s=>decide (1024<s.size)
theorem GN{ls:List ByteArray}(h:J7 ls=false):∀ s∈ls,s.size<=1024:=by
 intro s hs;have:=List.any_eq_false.1 h s hs;simpa using this
theorem Ahx(w:World)(s:ByteArray):Calls Tryz.prog f.FW #[.string s] w (AG λ v w'=>w'=w/\v=.bool (decide (1024<s.size))):=by
 apply R.LK
 delta R.G;try dsimp only [R.Ps]
 refine⟨rfl,?_⟩;congr 1;rw [Alz];simp;omega
theorem Abf:enters Tryz.prog f.FW=true:=by kernel_rfl
section
variable {w:World}{a:Option Addr}{c:Nat}{ls:List ByteArray}
theorem SV(hl:Rd w a (ls.map Value.string))(hn:ls.length<=9223372036854775807) :
  Calls Tryz.prog f.Dl #[.slice a ls.length c,.func (.func f.FW) #[] #[]] w (AG λ v w'=>w'=w/\v=.bool (J7 ls)):=by
 have idx:Calls Tryz.prog f.DN #[.slice a ls.length c,.func (.func f.FW) #[] #[]] w (AG λ v w'=>w'=w/\∃ i:Int,v=.int .i64 i/\(0<=i↔J7 ls=true)):=by
  apply R.CV
  delta R.Ad R.F R.G R.I R.Lt R.Qi R.T R.W R.X;try dsimp only [R.Ps]
  refine⟨λ s w1=>w1=w/\∃ k:Nat,k<=ls.length/\s=[.int .i64 (k:Int)]/\J7 (ls.take k)=false,λ s _=>match s with
    | [.int _ i]=>ls.length-i.toNat
    | _=>0,⟨rfl,0,by omega,rfl,rfl⟩,?_⟩
  rintro _ w1 ⟨rfl,k,hk,hs,fA⟩;cases hs;refine Aa (λ aB=>⟨⟨by omega,aB⟩,?_⟩) (λ aJ=>?_)
  ·have aO:k<ls.length:=by omega
   obtain⟨p,rfl,hc⟩:=E7 hl aO;refine⟨_,by rw [Ak4];exact hc,?_⟩;rw [Abf];refine (Ahx w1 ls[k]).mono ?_;rintro _ w2 ⟨_,rfl,rfl,rfl⟩;refine⟨_,rfl,Aa (λ h=>⟨rfl,_,rfl,?_⟩) (λ h=>?_)⟩
   ·refine⟨λ _=>?_,λ _=>by omega⟩;exact List.any_eq_true.2 ⟨ls[k],AlI aO,by simpa using h⟩
   ·rw [Ae (by omega)];refine⟨⟨rfl,k+1,by omega,rfl,?_⟩,?_⟩
    ·unfold J7 at fA ⊢;rw [AlW aO,List.any_append,fA];simp;omega
    ·simp only [Ak4];omega
  ·have eQ:ls.take k=ls:=AlA (by omega);rw [eQ] at fA;refine⟨rfl,_,rfl,?_⟩;rw [fA];simp
 apply R.CL
 delta R.Ci R.G R.S;try dsimp only [R.Ps]
 refine idx.mono ?_;rintro _ w1 ⟨_,rfl,rfl,i,rfl,hi⟩;refine⟨_,rfl,rfl,?_⟩;congr 1;rw [Alz,decide_eq_true_eq];exact hi
end
def A7(t:List (List UInt8))(ls:List ByteArray):List Nat:=ls.map λ s=>t.idxOf (bl s)
inductive F8 (ls:List ByteArray):Int->List UInt8->Prop
 | plain:F8 ls 0 (0 :: BW ls)
 | table (t:List (List UInt8)) (w:Nat) (ht:Ep (ls.map bl) t) (hw:DR (Ie (A7 t ls)) w):F8 ls 1 ((1 :: Af t.length)++(BW (t.map BC)++(Ak9 w :: A5 (A7 t ls) w)))
theorem F8.one{ls:List ByteArray}{f:Int}{b c:List UInt8}(h:F8 ls f b)(h':F8 ls f c):b=c:=by
 cases h with
 | plain=>cases h';rfl
 | table t w ht hw =>
  cases h' with
  | table t' w' ht' kt =>
   have:=ht.one ht';subst this;rw [hw.one kt]
def E4(f:Int)(ls:List ByteArray):Prop:=0<=f/\f<=1/\ls.length<=4096/\J7 ls=false
instance (f:Int) (ls:List ByteArray):Decidable (E4 f ls):=by unfold E4;infer_instance
def Ag0(f:Int)(ls:List ByteArray)(w w':World)(r:Value):Prop :=
 (¬ E4 f ls/\r=.tuple #[.slice none 0 0,.int .i64 2]/\Below w.heap.size w w')\/(E4 f ls/\∃ b a c,F8 ls f b/\r=.tuple #[.slice a b.length c,.int .i64 0]/\Bn w w' b a c)
theorem Hv{α:Type}[DecidableEq α]:∀ {t l:List α},t.Nodup->(∀ x∈t,x∈l)->t.length<=l.length
 | [],_,_,_=>by simp
 | x :: t,l,hn,hs=>by
  have hx:=hs x (AlD ..);obtain⟨h1,h2⟩:=List.nodup_cons.1 hn;have:=Hv (t:=t) (l:=l.erase x) h2 λ y hy=>(List.mem_erase_of_ne (a:=y) (b:=x) (by rintro rfl;exact h1 hy)).2 (hs y (List.mem_cons_of_mem _ hy));rw [List.length_erase_of_mem hx] at this;have:0<l.length:=List.length_pos_of_mem hx;simp only [Ak3];omega
theorem Agu{w:World}{f:Value->World->Prop}(hf:∀ b w',w.heap.size<=b->Below w.heap.size w w'->Aek w' b 0 (λ _=>none)->f (.map (some b)) w'):DE Tryz.prog (Instr.makeMap ty.Ev none) f w:=by
 unfold DE;rw [show (Instr.makeMap ty.Ev none).run Tryz.prog w=.ok (.map (some w.heap.size)) (w.alloc (.map #[] 0)) from rfl];refine hf _ _ (AkY _) ((Below.refl _ w).alloc (AkY _) _) ⟨_,World.ownsMap_made _ _ _ _,Maps.tidy_empty,λ x=>⟨rfl,rfl⟩⟩
theorem XL:Tryz.prog.underlying ty.Ev=some (.map ty.string ty.uint64):=by kernel_rfl
theorem tU:MN Tryz.prog ty.HH=some (ty.uint64,1,8,.int .u64 0):=by kernel_rfl
theorem AgM(w:World):(zeroValue ty.uint64).run Tryz.prog w=.ok (.int .u64 0) w:=by
 have h:(Tryz.prog.info? ty.uint64).bind (·.zero)=some (.int .u64 0):=by kernel_rfl
 cases hi:Tryz.prog.info? ty.uint64 with
 | none=>rw [hi] at h;cases h
 | some i =>
  rw [hi] at h;have hz:i.zero=some (.int .u64 0):=h;simp [zeroValue,typeInfo,hi,hz]
theorem Ac8(x:List UInt8):encStr x=.string (BC x):=rfl
theorem Ah6(t:List (List UInt8)):t.map encStr=(t.map BC).map Value.string:=by simp [Ac8]
section
variable {w:World}{a:Option Addr}{c:Nat}{ls:List ByteArray}
def g1(l:List (List UInt8))(x:List UInt8):Option Int:=if x∈l then some 0 else none
def g2(l t:List (List UInt8))(i:Nat)(x:List UInt8):Option Int:=if x∈t.take i then some (t.idxOf x:Int) else g1 l x
theorem AhW{l:List ByteArray}{k:Nat}(hk:k<l.length):(λ y=>if y=bl l[k] then some 0 else g1 ((l.take k).map bl) y)=g1 ((l.take (k+1)).map bl):=by
 funext y;unfold g1;rw [AlW hk,Alk];simp only [AlY,List.map_cons,List.map_nil,AlZ];by_cases h1:y=bl l[k]
 ·simp [h1]
 ·simp [h1]
theorem Aii{l t:List (List UInt8)}(eM:t.Nodup){i:Nat}(hi:i<t.length):(λ y=>if y=t[i] then some (i:Int) else g2 l t i y)=g2 l t (i+1):=by
 funext y;unfold g2;rw [AlW hi];simp only [AlY,AlZ];by_cases h1:y=t[i]
 ·subst h1;have:t.idxOf t[i]=i:=eM.idxOf_getElem i hi;simp [this]
 ·simp [h1]
theorem FL(form:Int)(hl:Rd w a (ls.map Value.string))(hn:ls.length<=9223372036854775807):Calls Tryz.prog f.Z1 #[.int .i64 form,.slice a ls.length c] w (AG λ v w'=>Ag0 form ls w w' v):=by
 apply R.Qh
 delta R.Ad R.B R.AR R.Cb R.Cf R.Ci R.Cs R.F R.H R.I R.J R.Ks R.Lt R.M R.N R.O R.Qi R.ER R.Rm R.Ru R.S R.T R.U R.W R.Wb R.Wu R.X;try dsimp only [R.Ps]
 have bad:¬ E4 form ls->Ag0 form ls w w (.tuple #[.slice none 0 0,.int .i64 2]):=λ h=>.inl ⟨h,rfl,.refl _ _⟩;refine Aa (λ h=>bad λ hk=>by have:=hk.1;omega) (λ h1=>Aa (λ h=>bad λ hk=>by have:=hk.2.1;omega) (λ h2=>Aa (λ h=>bad λ hk=>by have:=hk.2.2.1;omega) (λ h3=>(SV hl hn).mono ?_)));rintro _ w ⟨_,rfl,rfl,rfl⟩;refine⟨_,rfl,Ap (λ h=>bad λ hk=>by have:=hk.2.2.2;rw [h] at this;cases this) (λ cd=>?_)⟩;have aK:E4 form ls:=⟨by omega,by omega,by omega,cd⟩;have hz:=GN cd;have iK:ls.length<=4096:=by omega
 have hlen:=Gi hz;refine Ao (λ h0=>?_) (λ h0=>?_)
 ·subst h0;refine (SH.start (λ _=>False) w).An λ b5 w2 fX B2 S2=>(Qs (hl.grown B2) iK hz).mono ?_;rintro _ w3 ⟨_,rfl,a3,c3,rfl,h3⟩;have S3:=S2.grown h3.Ar;refine⟨_,_,_,rfl,S3.An λ b8 w4 pt B4 S4=>?_⟩;have hp:Rd w4 (some ⟨b8,0,none⟩) ([(some ⟨b5,0,none⟩,1,[0]),(a3,c3,BW ls)].map BZ):=by
   have:=Rd.Ak (S4.get 0 rfl);simpa [BZ] using this
  have uP:Rd w4 (some ⟨b5,0,none⟩) ([0].map Ag):=by
   have:=Rd.Ak (S4.get 1 rfl);simpa [Ag] using this
  refine (Bp (c:=2) [(some ⟨b5,0,none⟩,1,[0]),(a3,c3,BW ls)] hp (λ p hp=>?_) (by simp) (by rw [Vp];simp;omega)).mono ?_
  ·simp only [AkL,Al5,or_false] at hp;rcases hp with rfl | rfl
   ·exact uP
   ·exact (h3.grown B4).rd
  rintro _ w5 ⟨_,rfl,a5,c5,rfl,h5⟩;refine⟨_,_,_,rfl,.inr ⟨aK,0 :: BW ls,a5,c5,.plain,?_,?_⟩⟩
  ·rw [Vp];rfl
  ·rw [Vp] at h5;exact h5.before S4.below
 ·have gO:form=1:=by omega
  subst gO;have m4:8193<=maxLen:=by decide
  refine Agu λ b w6 hb B6 M6=>⟨_,rfl,?_⟩;have M6':Aek w6 b 0 (g1 ((ls.take 0).map bl)):=by
   have:g1 ((ls.take 0).map bl)=λ _=>none:=by funext x;simp [g1]
   rw [this];exact M6
  refine⟨λ s w7=>∃ k:Nat,k<=ls.length/\s=[.int .i64 (k:Int)]/\Aek w7 b k (g1 ((ls.take k).map bl))/\Ai (·=b) w6 w7,λ s _=>match s with
    | [.int _ i]=>ls.length-i.toNat
    | _=>0,⟨0,by omega,rfl,M6',.refl _ _⟩,?_⟩
  rintro _ w7 ⟨k,hk,hs,M7,K7⟩;cases hs;have B7:Below w.heap.size w w7:=B6.trans (K7.below B6.size λ k hk he=>by omega);refine Aa (λ aB=>⟨⟨by omega,aB⟩,?_⟩) (λ aJ=>?_)
  ·have aO:k<ls.length:=by omega
   obtain⟨p,rfl,hc⟩:=E7 (hl.grown B7) aO;have aw:=hz _ (AlI aO);refine⟨_,by rw [Ak4];exact hc,M7.put Jt XJ XL (by omega) (by omega) (by decide) λ w8 K8 M8=>?_⟩;rw [AhW aO] at M8;rw [Ae (by omega)];refine⟨⟨k+1,by omega,rfl,M8,K7.trans K8 (λ _ _ h=>h)⟩,?_⟩;simp only [Ak4];omega
  have eQ:k=ls.length:=by omega
  rw [eQ,Al0] at M7;refine (Wr M7 iK (ls:=ls.map bl) (λ x=>by unfold g1;split <;> simp [*]) (k:=λ v w'=>∃ a c t,v=.slice a t.length c/\Ep (ls.map bl) t/\Row w' ty.string 1 a t.length c (t.map encStr)/\(∀ k,AD a=some k->w7.heap.size<=k)/\Below w7.heap.size w7 w')
   (λ a c t w' q1 q2 q3 q4=>⟨a,c,t,rfl,q1,q2,q3,q4⟩)).mono ?_
  rintro _ w9 ⟨fn,fi,ca,rfl,hS⟩;refine⟨_,_,_,rfl,hS.mono ?_⟩;rintro _ bZ ⟨aT,lT,cT,rfl,aT2,cT2,t,ht,hr,pJ,bE,cA⟩;obtain⟨rfl,rfl,rfl⟩:aT=aT2/\lT=t.length/\cT=cT2:=by cases ht;exact⟨rfl,rfl,rfl⟩
  refine⟨_,_,_,rfl,?_⟩;have au:=M7.lt;have M10:=M7.kept (Ai.AA (F:=λ _=>False) cA) (by simp);have eM:=GP hr.up;have eR:t.length<=ls.length:=by
   have:=Hv eM (λ x hx=>(hr.mem x).1 hx);simpa using this
  have jX:∀ s∈t.map BC,s.size<=1024:=by
   intro s hs;obtain⟨x,hx,rfl⟩:=AkK.1 hs;obtain⟨s',bU,rfl⟩:=AkK.1 ((hr.mem x).1 hx);rw [EI];exact hz s' bU
  rw [Ah6] at pJ;have nZ:(t.map BC).length=t.length:=by simp
  have M10':Aek bZ b (ls.length+0) (g2 (ls.map bl) t 0):=by
   have:g2 (ls.map bl) t 0=g1 (ls.map bl):=by funext x;simp [g2]
   rw [this];exact M10
  have fq:∀ p,aT=some p->¬ p.block=b:=by
   intro p hp he;have:=bE p.block (by rw [hp];rfl);omega
  refine⟨λ s aX=>∃ i:Nat,i<=t.length/\s=[.int .i64 (i:Int)]/\Aek aX b (ls.length+i) (g2 (ls.map bl) t i)/\Ai (·=b) bZ aX,λ s _=>match s with
    | [.int _ i]=>t.length-i.toNat
    | _=>0,⟨0,by omega,rfl,M10',.refl _ _⟩,?_⟩
  rintro _ aX ⟨i,hi,hs,tn,eO⟩;cases hs;have lX:Rd aX aT ((t.map BC).map Value.string):=pJ.rd.keeps eO fq;refine Aa (λ aB=>⟨⟨by omega,aB⟩,?_⟩) (λ aJ=>?_)
  ·have aD:i<t.length:=by omega
   obtain⟨p,hp,hc⟩:=E7 lX (by rw [nZ];exact aD);subst hp;have aw:(BC t[i]).size<=1024:=jX _ (AkK.2 ⟨_,AlI aD,rfl⟩);rw [Al1] at hc;refine⟨_,by rw [Ak4];exact hc,?_⟩;rw [Aj (by omega) (by omega)];refine tn.put Jt XJ XL (by omega) (by omega) (by simp [Lit.wf,IntKind.min,IntKind.max,IntKind.signed,IntKind.bits];omega) λ bJ yw yd=>?_;rw [BP,Aii eM aD] at yd;rw [Ae (by omega)];refine⟨⟨i+1,by omega,rfl,yd,eO.trans yw (λ _ _ h=>h)⟩,?_⟩;simp only [Ak4];omega
  have yl:i=t.length:=by omega
  rw [yl] at tn;have cF:Below w.heap.size w aX:=by
   have B0:Below w.heap.size w bZ:=B7.trans (cA.mono B7.size);exact B0.trans (eO.below B0.size λ k hk he=>by omega)
  refine⟨λ s aj=>∃(kk:Nat) (pa:Option Addr) (pc:Nat),s=[.slice pa kk pc,.int .i64 (kk:Int)]/\kk<=ls.length/\Row aj ty.uint64 1 pa kk pc ((A7 t (ls.take kk)).map ES)/\(∀ k,AD pa=some k->aX.heap.size<=k)/\Below aX.heap.size aX aj,λ s _=>match s with
    | [_,.int _ i]=>ls.length-i.toNat
    | _=>0,⟨0,none,0,rfl,by omega,Row.nil _ _ _,by simp [AD],.refl _ _⟩,?_⟩
  rintro pa kk pc _ aj ⟨_,_,_,hs,aO,mz,lO,jF⟩;cases hs;have Bw13:Below w.heap.size w aj:=cF.trans (jF.mono cF.size);have zt:=tn.kept (Ai.AA (F:=λ _=>False) jF) (by simp);refine Aa (λ aB=>⟨⟨by omega,aB⟩,?_⟩) (λ aJ=>?_)
  ·have d':kk<ls.length:=by omega
   obtain⟨p,hp,hc⟩:=E7 (hl.grown Bw13) d';subst hp;have aw:=hz _ (AlI d');have cD:bl ls[kk]∈t:=(hr.mem _).2 (AkK.2 ⟨_,AlI d',rfl⟩);have tZ:(g2 (ls.map bl) t t.length (bl ls[kk])).getD 0=(t.idxOf (bl ls[kk]):Int):=by
    unfold g2;rw [Al0,if_pos cD];rfl
   refine⟨_,by rw [Ak4];exact hc,zt.get Jt XJ XL (AgM _) (by omega) ?_⟩;rw [tZ];refine⟨_,rfl,(SH.start (λ _=>False) aj).An λ pS ah zN dq mW=>?_⟩;have aW:Rd ah (some ⟨pS,0,none⟩) [ES (t.idxOf (bl ls[kk]))]:=by
    have:=Rd.Ak (mW.get 0 rfl);simpa [ES] using this
   obtain⟨a5,c5,cf,aH,aI,cl,hnw⟩:=BX (ty:=ty.HH) (mc:=1) tU rfl (by omega) (by omega) (mz.grown dq) aW (m:=1) rfl (by simp [ES];rfl) (by omega);unfold DE;rw [aH];refine⟨_,_,_,rfl,?_⟩;have B15':Below aX.heap.size aX ah:=jF.trans (dq.mono jF.size);rw [Ae (by omega)];refine⟨⟨kk+1,a5,c5,rfl,by omega,?_,λ k hk=>?_,B15'.trans (cl.below B15'.size λ k hk he=>by have:=lO k he;omega)⟩,?_⟩
   ·have:A7 t (ls.take (kk+1))=A7 t (ls.take kk)++[t.idxOf (bl ls[kk])]:=by
     unfold A7;rw [AlW d',Alk];rfl
    rw [this,Alk];exact aI
   ·rcases hnw k hk with h | h
    ·exact lO k h
    ·exact Ali B15'.size h
   ·simp only [Ak4];omega
  have jh:kk=ls.length:=by omega
  subst jh;rw [Al0] at mz;have bL:(A7 t ls).length=ls.length:=by simp [A7]
  have o9:∀ x∈A7 t ls,x<4097:=by
   intro x hx;obtain⟨s,hs,rfl⟩:=AkK.1 hx;have:=List.idxOf_le_length (l:=t) (a:=bl s);omega
  have pV:=mz.rd;rw [<- bL];refine (Ix pV (by omega) (λ x hx=>by have:=o9 x hx;omega)).mono ?_;rintro _ cP ⟨_,rfl,wd,rfl,gz,bO,rfl⟩;refine⟨_,rfl,(Jo pV (by omega) bO ((H0 _ _).1 gz.1)).mono ?_⟩;rintro _ eK ⟨_,rfl,tp,tJ,rfl,gY⟩;refine⟨_,_,_,_,rfl,(SH.start (λ _=>False) eK).An λ xL ff wX qU yf=>?_⟩;have pA:Rd ff (some ⟨xL,0,none⟩) ([1].map Ag):=by
   have:=Rd.Ak (yf.get 0 rfl);simpa [Ag] using this
  rw [Aj (by omega) (by omega)];refine (Bf (c:=1) [1] pA t.length (by omega) (by simp)).mono ?_;rintro _ eo ⟨_,rfl,a20,rE,rfl,ij⟩;have rV:Below aX.heap.size aX eo:=by
   refine jF.trans ((gY.Ar.mono jF.size).trans ?_);exact (qU.mono (Ali jF.size gY.Ar.size)).trans (ij.Ar.mono (Ali jF.size (Ali gY.Ar.size qU.size)))
  have qX:=lX.grown rV;refine⟨_,_,_,rfl,?_⟩;rw [<- nZ];refine (Qs (c:=cT) qX (by omega) jX).mono ?_;rintro _ gp ⟨_,rfl,a21,c21,rfl,qT⟩;refine⟨_,_,_,rfl,(SH.start (λ _=>False) gp).An λ ya iM uG kU kZ=>kZ.An λ b46 gW zX iy mC=>?_⟩;rw [AE (by omega) (by omega)] at kZ mC;obtain⟨ps,dk⟩:∃ ps:List DY,ps=[(a20,rE,[1]++Af t.length),(a21,c21,BW (t.map BC)),(some ⟨ya,0,none⟩,1,[Ak9 wd]),(tp,tJ,A5 (A7 t ls) wd)]:=⟨_,rfl⟩;have hp:Rd gW (some ⟨b46,0,none⟩) (ps.map BZ):=by
   have:=Rd.Ak (mC.get 0 rfl);rw [dk];simpa [BZ] using this
  have n23:=Ac kU iy;have z8:∀ p∈ps,Rd gW p.1 (p.2.2.map Ag):=by
   intro p hp;rw [dk] at hp;simp only [AkL,Al5,or_false] at hp;rcases hp with rfl | rfl | rfl | rfl
   ·exact (ij.rd.grown qT.Ar).grown n23
   ·exact qT.rd.grown n23
   ·have:=Rd.Ak (mC.get 1 rfl);simpa [CA (show wd<256 by omega)] using this
   ·exact ((((gY.rd.grown qU).grown ij.Ar).grown qT.Ar).grown n23)
  have cj:BV ps=(1 :: Af t.length)++(BW (t.map BC)++(Ak9 wd :: A5 (A7 t ls) wd)):=by
   rw [dk];simp [BV]
  have l1:=Al (n:=t.length) (by omega);have l2:=Gi jX;have l3:=BS (A7 t ls) wd;have l4:Dv (A7 t ls).length wd<=4096*64+7:=by
   unfold Dv;have:(A7 t ls).length*wd<=4096*64:=AlQ (by omega) bO;omega
  have tD:ps.length=4:=by rw [dk];rfl
  have iW:=Bp (c:=4) ps hp z8 (by omega) (by rw [cj];simp only [Ak1,Ak3];omega);rw [tD] at iW;refine iW.mono ?_;rintro _ fJ ⟨_,rfl,a24,oe,rfl,rq⟩;rw [cj] at rq ⊢;refine⟨_,_,_,rfl,.inr ⟨aK,_,a24,oe,.table t wd hr gz,rfl,rq.before ?_⟩⟩;exact (cF.trans (rV.mono cF.size)).trans (((qT.Ar).mono (Ali cF.size rV.size)).trans (n23.mono (Ali (Ali cF.size rV.size) qT.Ar.size)))
end
structure JR(w w':World)(xs:List Nat)(a:Option Addr)(c:Nat):Prop where
 row:Row w' ty.uint64 1 a xs.length c (xs.map ES)
 new:∀ k,AD a=some k->w.heap.size<=k
 Ar:Below w.heap.size w w'
theorem JR.nil(w:World):JR w w [] none 0:=⟨Row.nil _ _ _,by simp [AD],.refl _ _⟩
theorem JR.grown{w w1 w2:World}{xs:List Nat}{a:Option Addr}{c:Nat}(h:JR w w1 xs a c)(hb:Below w1.heap.size w1 w2):JR w w2 xs a c:=⟨h.row.grown hb,h.new,Ac h.Ar hb⟩
theorem EA{w w1:World}{a:Option Addr}{c:Nat}{xs:List Nat}(h:JR w w1 xs a c)(hl:xs.length+1<=1000000){x:Nat}{v:Value}(hv:v=ES x){b:Nat}{t:TypeId}(hb:w1.heap[b]?=some (.cells #[v] t (0,0))){f:Value->World->Prop}
  (hf:∀ a' c' w',JR w w' (xs++[x]) a' c'->f (.slice a' (xs++[x]).length c') w'):DE Tryz.prog (Builtin.append_ #[ty.HH,ty.HH] ty.HH #[.slice a xs.length c,.slice (some ⟨b,0,none⟩) 1 1]) f w1:=by
 subst hv;have aW:Rd w1 (some ⟨b,0,none⟩) ([x].map ES):=by
  have:=Rd.Ak hb;simpa using this
 obtain⟨a5,c5,w2,aH,aI,cl,hnw⟩:=BX (ty:=ty.HH) (mc:=1) tU rfl (by omega) (by omega) h.row aW (m:=1) rfl (by simp [ES];rfl) (by omega);unfold DE;rw [aH];have e:xs.length+1=(xs++[x]).length:=by simp
 rw [e] at aI ⊢;refine hf a5 c5 w2 ⟨by rw [Alk];exact aI,λ k hk=>?_,h.Ar.trans (cl.below h.Ar.size λ k hk he=>by have:=h.new k he;omega)⟩;rcases hnw k hk with h1 | h1
 ·exact h.new k h1
 ·exact Ali h.Ar.size h1
theorem Dm{w:World}{a:Option Addr}{l:List Int}(hl:Rd w a (l.map EG)){i:Nat}(hi:i<l.length):∃ p,a=some p/\w.cell? (p.add (i*1))=some (.int .i64 l[i]):=by
 obtain⟨p,hp,hc⟩:=hl i (EG l[i]) (by simp [hi]);exact⟨p,hp,by rw [Ak7];exact hc⟩
theorem LS{w:World}{a:Option Addr}{l:List Int}(hl:Rd w a (l.map EG))(h0:0<l.length):∃ p,a=some p/\w.cell? p=some (.int .i64 (l.headD 0)):=by
 obtain⟨p,hp,hc⟩:=Dm hl h0;rw [Al6,Db] at hc;refine⟨p,hp,?_⟩;rw [hc];cases l with
 | nil=>simp at h0
 | cons y l=>rfl
theorem Fi{l:List Int}{i:Nat}(h:i<l.length):l.getD i 0=l[i]:=by simp [h]
theorem Nv{w0 w:World}{a a2:Option Addr}{c c2:Nat}{l:List UInt8}{s:List Nat}(h:Bn w0 w l a c)(hl:l.length<=1000000)(hs:Rd w a2 (s.map ES))(hn:s.length<=4096)(hx:∀ x∈s,x<18446744073709551616) :
  Calls Tryz.prog f.Yj #[.slice a l.length c,.slice a2 s.length c2] w (AG λ v w'=>∃ a' c',v=.slice a' (l++(Ak9 (Fh (Ie s)) :: A5 s (Fh (Ie s)))).length c'/\Bn w0 w' (l++(Ak9 (Fh (Ie s)) :: A5 s (Fh (Ie s)))) a' c'):=by
 apply R.Ob
 delta R.B R.AR R.Ci R.I R.J R.Ks R.N R.S R.Wb;try dsimp only [R.Ps]
 refine (Qe hs (by omega) hx).mono ?_;rintro _ w ⟨_,rfl,wd,rfl,gz,bO,rfl⟩;obtain rfl:=gz.one (TX _);refine⟨_,rfl,(Ii hs hn bO ((H0 _ _).1 gz.1)).mono ?_⟩;rintro _ an ⟨_,rfl,u9,c14,rfl,j7⟩;obtain⟨wd,hwdd⟩:∃ wd,wd=Fh (Ie s):=⟨_,rfl⟩;rw [<- hwdd] at j7 gz bO ⊢;have l3:=BS s wd;have l4:Dv s.length wd<=4096*64+7:=by
  unfold Dv;have:s.length*wd<=4096*64:=AlQ (by omega) bO;omega
 refine⟨_,_,_,_,rfl,(SH.start (λ _=>False) an).An λ vd ah mG dq mW=>?_⟩;rw [AE (by omega) (by omega)] at mW;have B6:Below w.heap.size w ah:=Ac j7.Ar dq;have eY:=h.grown B6;refine CN eY.row (by omega) (x:=Ak9 wd) (CA (by omega)) (mW.get 0 rfl) λ kf kV cf ln jz mf=>⟨_,_,_,rfl,?_⟩;have gM:=h.Br B6 ln jz mf;have nB:Rd cf u9 ((A5 s wd).map Ag):=(j7.rd.grown dq).keeps jz λ p hp hF=>by
  have e1:=j7.new p.block (by rw [hp];rfl);have e2:=h.row.lt hF;omega
 refine A8 gM.row nB (by simp;omega) λ wi uc cP tY tG u6=>⟨_,_,_,rfl,wi,uc,?_,?_⟩
 ·simp
 ·have fU:=gM.Br (.refl _ _) tY tG u6;have el:(l++[Ak9 wd])++A5 s wd=l++(Ak9 wd :: A5 s wd):=by simp
  rw [el] at fU;exact fU
section
variable {w0 w:World}{ba a:Option Addr}{bc c:Nat}{bs:List UInt8}{l:List Int}
theorem Zd(h:Bn w0 w bs ba bc)(y9:bs.length<=10)(hl:Rd w0 a (l.map EG))(hn:l.length<=4096)(hx:∀ x∈l,Fs x) :
  Calls Tryz.prog f.AcB #[.slice ba bs.length bc,.slice a l.length c] w (AG λ v w'=>∃ a' c',v=.slice a' (bs++E3 l).length c'/\Bn w0 w' (bs++E3 l) a' c'):=by
 apply R.RQ
 delta R.Ad R.Cs R.D R.F R.G R.I R.Li R.Ae0 R.S R.U R.W R.Wu R.X R.Zb;try dsimp only [R.Ps]
 have hlen:=Mz 4096 l hn (by omega) hx;refine⟨λ s w1=>∃(k i:Nat) (b:List UInt8) (a1:Option Addr) (c1:Nat),s=[.slice a1 b.length c1,.int .i64 (k:Int),.int .i64 (i:Int)]/\Bn w0 w1 b a1 c1/\bs++E3 l=b++E3 (l.drop k)/\(i<=l.length->k<i)/\(i<=l.length\/(i=l.length+1/\l.length<=k))/\(∀ j,k+j<i->i<=l.length->l[k+j]?=l[k]?)/\0<i,λ s _=>match s with
   | [_,_,.int _ i]=>l.length+1-i.toNat
   | _=>0,⟨0,1,bs,ba,bc,rfl,h,by simp,by omega,by omega,λ j hj _=>by simp at hj;subst hj;rfl,by omega⟩,?_⟩
 rintro a1 _ c1 _ _ w1 ⟨k,i,b,_,_,aA,h1,hE,su,aG,aF,iP⟩;cases aA;have au:b.length<=10+4096*20:=by
  have:=congrArg List.length hE;simp only [Ak1] at this;omega
 refine Aa (λ hle=>?_) (λ nz=>?_)
 ·have aD:i<=l.length:=by omega
  have hk:=su aD;refine⟨λ s w3=>∃ t:Bool,s=[.bool t]/\Below w1.heap.size w1 w3/\(t=true↔AdE l k (i-k))/\(t=false->i<l.length/\l[i]?=l[k]?),?_,?_⟩
  ·refine (SH.start (λ _=>False) w1).E9 λ w2 B2 _=>?_;have lE:∀ j,j<i-k->l[k+j]?=l[k]?:=λ j hj=>aF j (by omega) aD;refine Ao (λ he=>?_) (λ aQ=>?_)
   ·refine⟨true,rfl,B2,⟨λ _=>⟨by omega,by omega,lE,.inl (by omega)⟩,λ _=>rfl⟩,λ h=>by cases h⟩
   ·have aB:i<l.length:=by omega
    have aO:k<l.length:=by omega
    have C2:=Ac h1.Ar B2;obtain⟨p,rfl,gH⟩:=Dm (hl.grown C2) aB;obtain⟨p',hp',cG⟩:=Dm (hl.grown C2) aO;cases hp';refine⟨⟨by omega,by omega⟩,⟨by omega,by omega⟩,_,by rw [Ak4];exact gH,_,by rw [Ak4];exact cG,_,rfl,B2,?_,?_⟩
    ·simp only [bne_iff_ne,ne_eq];constructor
     ·intro hd;refine⟨by omega,by omega,lE,.inr ?_⟩;rw [show k+(i-k)=i by omega,AlV aB,AlV aO];simpa using hd
     ·intro hr;rcases hr.stop with h | h
      ·omega
      ·rw [show k+(i-k)=i by omega,AlV aB,AlV aO] at h;simpa using h
    ·intro hd;refine⟨aB,?_⟩;rw [AlV aB,AlV aO];have:l[i]=l[k]:=by simpa using hd
     rw [this]
  rintro _ w3 ⟨t,aA,B3,oZ,ht2⟩;cases aA;have C3:=Ac h1.Ar B3;have aO:k<l.length:=by omega
  refine Ap (λ ht=>?_) (λ hf=>?_)
  ·have aH:=oZ.1 ht;refine (SH.start (λ _=>False) w3).E9 λ w4 B4 _=>⟨⟨by omega,by omega⟩,?_⟩;have C4:=Ac C3 B4;obtain⟨p,rfl,aE⟩:=Dm (hl.grown C4) aO;refine⟨_,by rw [Ak4];exact aE,?_⟩;have ek:IntKind.u64.wrap (IntKind.i64.wrap ((i:Int)-(k:Int)))=((i-k:Nat):Int):=by
    rw [wrap_i64 (by omega) (by omega),Aj (by omega) (by omega)];omega
   rw [ek];have iG:=hx _ (AlI aO);have h4:=(h1.grown B3).grown B4;refine (Bi b h4.rd (i-k) (by omega) (by omega)).mono ?_;rintro _ w5 ⟨_,rfl,a5,c5,rfl,h5⟩;have C5:=Ac C4 h5.Ar;have d10:=Al (n:=i-k) (by omega);refine⟨_,_,_,rfl,?_,(Fb _ h5.rd l[k] iG.1 iG.2 (by simp;omega)).mono ?_⟩
   ·obtain⟨p',hp',dw⟩:=Dm (hl.grown C5) aO;cases hp';rw [Ak4];exact dw
   rintro _ w6 ⟨_,rfl,a6,c6,rfl,h6⟩;rw [Ae (by omega)];refine⟨_,_,_,rfl,⟨i,i+1,_,a6,c6,rfl,h6.before (Ac h4.Ar h5.Ar),?_,by omega,by omega,λ j hj _=>?_,by omega⟩,?_⟩
   ·rw [hE,Zh aH,show k+(i-k)=i by omega,Fi aO];simp [Em]
   ·have:j=0:=by omega
    subst this;rfl
   ·simp only [Ak4];omega
  ·obtain⟨aB,heq⟩:=ht2 hf;rw [Ae (by omega)];refine⟨⟨k,i+1,b,a1,c1,rfl,h1.grown B3,hE,by omega,by omega,λ j hj _=>?_,by omega⟩,?_⟩
   ·rcases AlH (k+j) i with h | h
    ·exact aF j h aD
    ·have:k+j=i:=by omega
     rw [this];exact heq
   ·simp only [Ak4];omega
 ·have hk:l.length<=k:=by omega
  have hd:l.drop k=[]:=List.drop_of_length_le hk;rw [hd,Jh,Al2] at hE;rw [hE];exact⟨a1,c1,rfl,h1⟩
theorem Sq{l:List Int}{i:Nat}(hi:i+1<l.length):(BB l).take (i+1)=(BB l).take i++[D4 (IntKind.i64.wrap (l[i+1]-l[i]))]:=by
 have hl:i<(BB l).length:=by simp [BB];omega
 rw [AlW hl];congr 2;simp only [BB,Al1,List.getElem_range];rw [Fi hi,Fi (by omega)]
theorem YT(h:Bn w0 w bs ba bc)(y9:bs.length<=10)(hl:Rd w0 a (l.map EG))(hn:l.length<=4096)(hx:∀ x∈l,Fs x) :
  Calls Tryz.prog f.Z8 #[.slice ba bs.length bc,.slice a l.length c] w (AG λ v w'=>∃ a' c',v=.slice a' (bs++(if l=[] then [] else CM (l.headD 0) (BB l))).length c'/\Bn w0 w' (bs++(if l=[] then [] else CM (l.headD 0) (BB l))) a' c'):=by
 apply R.PK
 delta R.Ad R.Cs R.Cu R.D R.F R.I R.J R.Ks R.Li R.N R.O R.ER R.S R.U R.W R.X;try dsimp only [R.Ps]
 refine Ao (λ h0=>?_) (λ aQ=>?_)
 ·have:l=[]:=AkT (by omega);rw [if_pos this,Al2];exact⟨ba,bc,rfl,h⟩
 have hp:0<l.length:=by omega
 have fB:l≠[]:=Al7.1 hp;rw [if_neg fB];have bD:(BB l).length=l.length-1:=by simp [BB]
 refine⟨λ s w1=>∃(i:Nat) (a1:Option Addr) (c1:Nat),s=[.slice a1 ((BB l).take i).length c1,.int .i64 ((i+1:Nat):Int)]/\i+1<=l.length/\JR w w1 ((BB l).take i) a1 c1,λ s _=>match s with
   | [_,.int _ i]=>l.length-i.toNat
   | _=>0,⟨0,none,0,rfl,by omega,JR.nil w⟩,?_⟩
 rintro a1 _ c1 _ w1 ⟨i,_,_,aA,hi,h1⟩;cases aA;have C1:=Ac h.Ar h1.Ar;refine Aa (λ aB=>?_) (λ aJ=>?_)
 ·have dS:i+1<l.length:=by omega
  have iP:i<l.length:=by omega
  refine (SH.start (λ _=>False) w1).E9 λ w4 B4 _=>⟨⟨by omega,by omega⟩,?_⟩;have C4:=Ac C1 B4;rw [wrap_i64 (n:=(((i+1:Nat):Int))-1) (by omega) (by omega),show ((((i+1:Nat):Int))-1)=(i:Int) by omega];obtain⟨p,rfl,gH⟩:=Dm (hl.grown C4) dS;obtain⟨p',hp',cG⟩:=Dm (hl.grown C4) iP;cases hp';refine⟨⟨by omega,by omega⟩,_,by rw [Ak4];exact gH,_,by rw [Ak4];exact cG,?_⟩;have hw:=FY (l[i+1]-l[i]);refine (Vm _ hw.1 hw.2).mono ?_;rintro _ w5 ⟨_,rfl,rfl,rfl⟩;refine⟨_,rfl,(SH.start (λ _=>False) w5).An λ b6 w6 kq B6 S6=>?_⟩;refine EA ((h1.grown B4).grown B6) (by rw [AlX];omega) rfl (S6.get 0 rfl) λ a7 c7 w7 h7=>⟨_,_,_,rfl,?_⟩;rw [<- Sq dS] at h7 ⊢;rw [Ae (by omega)];refine⟨⟨i+1,a7,c7,rfl,by omega,h7⟩,?_⟩;simp only [Ak4];omega
 ·have bG:(BB l).take i=BB l:=AlA (by omega);rw [bG] at h1 ⊢;obtain⟨p,rfl,aE⟩:=LS (hl.grown C1) hp;have hh:Fs (l.headD 0):=by
   have:=DJ hx hp 0;simpa [E6] using this
  refine⟨⟨by omega,by omega⟩,_,aE,(Fb bs (h.grown h1.Ar).rd (l.headD 0) hh.1 hh.2 (by omega)).mono ?_⟩;rintro _ w2 ⟨_,rfl,a2,c2,rfl,h2⟩;have hd:=Al (FQ hh.1 hh.2);refine⟨_,_,_,rfl,(Nv (h2.before C1) (by rw [Ak1];omega) (h1.row.rd.grown h2.Ar) (by omega) MF).mono ?_⟩;rintro _ w3 ⟨_,rfl,a3,c3,rfl,h3⟩;refine⟨_,_,_,rfl,a3,c3,?_,?_⟩
  ·simp [CM,Em]
  ·have e:bs++Af (D4 (l.headD 0))++(Ak9 (Fh (Ie (BB l))) :: A5 (BB l) (Fh (Ie (BB l))))=bs++CM (l.headD 0) (BB l):=by simp [CM,Em]
   rw [e] at h3;exact h3
theorem SG{l:List Int}{i:Nat}(hi:i<l.length):(BJ l).take (i+1)=(BJ l).take i++[(l[i]-FJ l).toNat]:=by
 have hl:i<(BJ l).length:=by simpa [BJ] using hi
 rw [AlW hl];congr 2;simp [BJ]
theorem Ach{x m:Int}(hx:Fs x)(hm:Fs m)(hle:m<=x):IntKind.u64.wrap (IntKind.u64.wrap x-IntKind.u64.wrap m)=((x-m).toNat:Int):=by
 unfold Fs at hx hm;rw [wrap_u64,wrap_u64,wrap_u64,<- Int.sub_emod];omega
theorem XD{l:List Int}(h0:0<l.length):E6 l 1=l.headD 0:=by
 cases l with
 | nil=>simp at h0
 | cons y l=>simp [E6]
theorem YP(h:Bn w0 w bs ba bc)(y9:bs.length<=10)(hl:Rd w0 a (l.map EG))(hn:l.length<=4096)(hx:∀ x∈l,Fs x) :
  Calls Tryz.prog f.Abh #[.slice ba bs.length bc,.slice a l.length c] w (AG λ v w'=>∃ a' c',v=.slice a' (bs++(if l=[] then [] else CM (FJ l) (BJ l))).length c'/\Bn w0 w' (bs++(if l=[] then [] else CM (FJ l) (BJ l))) a' c'):=by
 apply R.P2
 delta R.Ad R.Cs R.F R.I R.J R.Ks R.Li R.N R.O R.MJ R.ER R.S R.U R.W R.Wu R.X;try dsimp only [R.Ps]
 refine Ao (λ h0=>?_) (λ aQ=>?_)
 ·have:l=[]:=AkT (by omega);rw [if_pos this,Al2];exact⟨ba,bc,rfl,h⟩
 have hp:0<l.length:=by omega
 have fB:l≠[]:=Al7.1 hp;rw [if_neg fB];have bD:(BJ l).length=l.length:=by simp [BJ]
 obtain⟨p,rfl,aE⟩:=LS (hl.grown h.Ar) hp;refine⟨⟨by omega,by omega⟩,_,aE,?_⟩;refine⟨λ s w1=>w1=w/\∃ i:Nat,i<=l.length/\s=[.int .i64 (E6 l i),.int .i64 (i:Int)],λ s _=>match s with
   | [_,.int _ i]=>l.length-i.toNat
   | _=>0,⟨rfl,0,by omega,by simp [E6]⟩,?_⟩
 rintro _ _ w1 ⟨rfl,i,hi,aA⟩;cases aA;refine Aa (λ aB=>⟨⟨by omega,aB⟩,?_⟩) (λ aJ=>?_)
 ·have aD:i<l.length:=by omega
  obtain⟨p',hp',hc⟩:=Dm (hl.grown h.Ar) aD;cases hp';refine⟨_,by rw [Ak4];exact hc,?_⟩;rw [Ae (by omega),<- OO aD];refine⟨⟨rfl,i+1,by omega,rfl⟩,?_⟩;simp only [Ak4];omega
 have aD:i=l.length:=by omega
 subst aD;have jk:=DJ hx hp l.length;have hm:E6 l l.length=FJ l:=rfl;rw [hm] at jk ⊢;refine⟨λ s w2=>∃(i:Nat) (a1:Option Addr) (c1:Nat),s=[.slice a1 ((BJ l).take i).length c1,.int .i64 (i:Int)]/\i<=l.length/\JR w1 w2 ((BJ l).take i) a1 c1,λ s _=>match s with
   | [_,.int _ i]=>l.length-i.toNat
   | _=>0,⟨0,none,0,rfl,by omega,JR.nil w1⟩,?_⟩
 rintro a1 _ c1 _ w2 ⟨i,_,_,aA,hi,h1⟩;cases aA;have C1:=Ac h.Ar h1.Ar;refine Aa (λ aB=>⟨⟨by omega,aB⟩,?_⟩) (λ aJ=>?_)
 ·have iP:i<l.length:=by omega
  obtain⟨p',hp',cG⟩:=Dm (hl.grown C1) iP;cases hp';have ag:=AlI iP;refine⟨_,by rw [Ak4];exact cG,(SH.start (λ _=>False) w2).An λ b6 w6 kq B6 S6=>?_⟩;rw [Ach (hx _ ag) jk (MD ag)] at S6;refine EA (h1.grown B6) (by rw [AlX];omega) rfl (S6.get 0 rfl) λ a7 c7 w7 h7=>⟨_,_,_,rfl,?_⟩;rw [<- SG iP] at h7 ⊢;rw [Ae (by omega)];refine⟨⟨i+1,a7,c7,rfl,by omega,h7⟩,?_⟩;simp only [Ak4];omega
 ·have bG:(BJ l).take i=BJ l:=AlA (by omega);rw [bG] at h1 ⊢;refine (Fb bs (h.grown h1.Ar).rd (FJ l) jk.1 jk.2 (by omega)).mono ?_;rintro _ w3 ⟨_,rfl,a2,c2,rfl,h2⟩;have hd:=Al (FQ jk.1 jk.2);refine⟨_,_,_,rfl,(Nv (h2.before C1) (by rw [Ak1];omega) (h1.row.rd.grown h2.Ar) (by omega) (Mt hx)).mono ?_⟩;rintro _ w4 ⟨_,rfl,a3,c3,rfl,h3⟩;refine⟨_,_,_,rfl,a3,c3,?_,?_⟩
  ·simp [CM,Em]
  ·have e:bs++Af (D4 (FJ l))++(Ak9 (Fh (Ie (BJ l))) :: A5 (BJ l) (Fh (Ie (BJ l))))=bs++CM (FJ l) (BJ l):=by simp [CM,Em]
   rw [e] at h3;exact h3
end
def Jz(f:Int)(l:List Int):Prop:=0<=f/\f<=3/\l.length<=4096
instance (f:Int) (l:List Int):Decidable (Jz f l):=by unfold Jz;infer_instance
def J8(f:Int)(l:List Int)(w w':World)(r:Value):Prop :=
 (¬ Jz f l/\r=.tuple #[.slice none 0 0,.int .i64 2]/\Below w.heap.size w w')\/(Jz f l/\∃ a c,r=.tuple #[.slice a (DS f.toNat l).length c,.int .i64 0]/\Bn w w' (DS f.toNat l) a c)
theorem PR{l:List Int}{k:Nat}(hk:k<l.length):(l.take (k+1)).flatMap Em=(l.take k).flatMap Em++Em l[k]:=by
 rw [AlW hk,List.flatMap_append];simp
theorem FA{w:World}{a:Option Addr}{c:Nat}{l:List Int}(form:Int)(hl:Rd w a (l.map EG))(hx:∀ x∈l,Fs x) :
  Calls Tryz.prog f.Yw #[.int .i64 form,.slice a l.length c] w (AG λ v w'=>J8 form l w w' v):=by
 apply R.NW
 delta R.Ad R.B R.Cs R.F R.H R.I R.J R.Li R.N R.O R.ER R.S R.W R.Wb R.X;try dsimp only [R.Ps]
 have bad:¬ Jz form l->J8 form l w w (.tuple #[.slice none 0 0,.int .i64 2]):=λ h=>.inl ⟨h,rfl,.refl _ _⟩;refine Aa (λ h=>bad λ hk=>by have:=hk.1;omega) (λ h1=>Aa (λ h=>bad λ hk=>by have:=hk.2.1;omega) (λ h2=>Aa (λ h=>bad λ hk=>by have:=hk.2.2;omega) (λ h3=>?_)));have aK:Jz form l:=⟨by omega,by omega,by omega⟩;have hn:l.length<=4096:=by omega
 obtain⟨fm,rfl⟩:∃ m:Nat,form=(m:Int):=⟨form.toNat,by omega⟩;rw [AE (by omega) (by omega)];refine (SH.start (λ _=>False) w).An λ b3 w1 dE B1 S1=>?_;have hN:Bn w w1 [Ak9 fm] (some ⟨b3,0,none⟩) 1:=by
  refine⟨⟨rfl,.inr ⟨b3,_,rfl,S1.get 0 rfl,by simp,by omega,rfl,?_⟩⟩,λ k hk=>?_,B1⟩
  ·simp [CA (show fm<256 by omega)]
  ·cases hk;exact dE
 refine Ao (λ hf=>?_) (λ gO=>Ao (λ hf=>?_) (λ tz=>Ao (λ hf=>?_) (λ hf3=>?_)))
 ·have:fm=1:=by omega
  subst this;refine (Zd (c:=c) hN (by simp) hl hn hx).mono ?_;rintro _ w2 ⟨_,rfl,a2,c2,rfl,h2⟩;exact⟨_,_,_,rfl,.inr ⟨aK,a2,c2,rfl,h2⟩⟩
 ·have:fm=2:=by omega
  subst this;refine (YT (c:=c) hN (by simp) hl hn hx).mono ?_;rintro _ w2 ⟨_,rfl,a2,c2,rfl,h2⟩;exact⟨_,_,_,rfl,.inr ⟨aK,a2,c2,rfl,h2⟩⟩
 ·have:fm=3:=by omega
  subst this;refine (YP (c:=c) hN (by simp) hl hn hx).mono ?_;rintro _ w2 ⟨_,rfl,a2,c2,rfl,h2⟩;exact⟨_,_,_,rfl,.inr ⟨aK,a2,c2,rfl,h2⟩⟩
 ·have:fm=0:=by omega
  subst this;refine⟨λ s w5=>∃(i:Nat) (b:List UInt8) (a5:Option Addr) (c5:Nat),s=[.slice a5 b.length c5,.int .i64 (i:Int)]/\i<=l.length/\b=0 :: (l.take i).flatMap Em/\Bn w w5 b a5 c5,λ s _=>match s with
    | [_,.int _ i]=>l.length-i.toNat
    | _=>0,⟨0,[0],_,_,rfl,by omega,by simp,hN⟩,?_⟩
  rintro a5 _ c5 _ w5 ⟨i,b,_,_,aA,hi,hb,h5⟩;cases aA;have au:b.length<=1+4096*10:=by
   have:=KM (l:=l.take i) λ x h=>hx x (Al3 h);rw [AlX] at this;rw [hb,Ak3];omega
  refine Aa (λ aB=>⟨⟨by omega,aB⟩,?_⟩) (λ aJ=>?_)
  ·have aD:i<l.length:=by omega
   obtain⟨p,rfl,hc⟩:=Dm (hl.grown h5.Ar) aD;have dF:=hx _ (AlI aD);refine⟨_,by rw [Ak4];exact hc,(Fb b h5.rd l[i] dF.1 dF.2 (by omega)).mono ?_⟩;rintro _ w6 ⟨_,rfl,a6,c6,rfl,h6⟩;rw [Ae (by omega)];refine⟨_,_,_,rfl,⟨i+1,_,a6,c6,rfl,by omega,?_,h6.before h5.Ar⟩,?_⟩
   ·rw [PR aD,hb];rfl
   ·simp only [Ak4];omega
  ·have bG:l.take i=l:=AlA (by omega);rw [bG] at hb;subst hb;exact .inr ⟨aK,a5,c5,rfl,h5⟩
theorem Aaj(w:World){d:Int}(h:Fs d):Calls Tryz.prog f.Agr #[.int .i64 d] w (AG λ v w'=>w'=w/\v=.int .u64 (D4 d:Int)):=by
 apply R.U5
 delta R.U R.W R.Wu;try dsimp only [R.Ps]
 rw [AaA h.1 h.2];exact⟨rfl,rfl⟩
theorem KX{w:World}{a:Option Addr}{c:Nat}{s:List Nat}{fm:Nat}(hf:fm<256){first:Int}(kh:Fs first)(hs:Rd w a (s.map ES))(hn:s.length<=4096)(hx:∀ x∈s,x<18446744073709551616) :
  Calls Tryz.prog f.Aaf #[.int .u8 (fm:Int),.int .i64 first,.slice a s.length c] w (AG λ v w'=>∃ a' c',v=.slice a' (Ak9 fm :: CM first s).length c'/\Bn w w' (Ak9 fm :: CM first s) a' c'):=by
 apply R.PG
 delta R.B R.AR R.Ci R.Cs R.I R.J R.N R.S R.Wb;try dsimp only [R.Ps]
 refine (Ix hs (by omega) hx).mono ?_;rintro _ w ⟨_,rfl,wd,rfl,gz,bO,rfl⟩;obtain rfl:=gz.one (TX _);refine⟨_,rfl,(Jo hs hn bO ((H0 _ _).1 gz.1)).mono ?_⟩;rintro _ w2 ⟨_,rfl,a2,c2,rfl,h2⟩;obtain⟨wd,hwdd⟩:∃ wd,wd=Fh (Ie s):=⟨_,rfl⟩;rw [<- hwdd] at h2 gz bO ⊢;have l3:=BS s wd;have l4:Dv s.length wd<=4096*64+7:=by
  unfold Dv;have:s.length*wd<=4096*64:=AlQ (by omega) bO;omega
 refine⟨_,_,_,_,rfl,(SH.start (λ _=>False) w2).An λ b3 w3 dE B3 S3=>?_⟩;have qv:Rd w3 (some ⟨b3,0,none⟩) ([Ak9 fm].map Ag):=by
  have:=Rd.Ak (S3.get 0 rfl);simpa [CA hf] using this
 refine (F0 (c:=1) [Ak9 fm] qv first kh.1 kh.2 (by simp)).mono ?_;rintro _ w4 ⟨_,rfl,a4,c4,rfl,h4⟩;rw [AE (by omega) (by omega)];refine⟨_,_,_,rfl,(SH.start (λ _=>False) w4).An λ b5 w5 fX B5 S5=>S5.An λ b6 w6 kq B6 S6=>?_⟩;have hd:=Al (FQ kh.1 kh.2);have hc:=Bp (w:=w6) (a:=some ⟨b6,0,none⟩) (c:=3) [(a4,c4,[Ak9 fm]++Af (D4 first)),(some ⟨b5,0,none⟩,1,[Ak9 wd]),(a2,c2,A5 s wd)] (by
   have:=Rd.Ak (S6.get 0 rfl);simpa [BZ] using this) (by
   intro p hp;simp only [AkL,Al5,or_false] at hp;rcases hp with rfl | rfl | rfl
   ·exact (h4.rd.grown B5).grown B6
   ·have:=Rd.Ak (S6.get 1 rfl);simpa [CA (show wd<256 by omega)] using this
   ·exact (((h2.rd.grown B3).grown h4.Ar).grown B5).grown B6) (by simp) (by rw [Xl];simp;omega)
 refine hc.mono ?_;rintro _ w7 ⟨_,rfl,a7,c7,rfl,h7⟩;rw [Xl] at h7 ⊢;have e:[Ak9 fm]++Af (D4 first)++([Ak9 wd]++A5 s wd)=Ak9 fm :: CM first s:=by simp [CM,Em,hwdd]
 simp only at h7 ⊢;rw [e] at h7 ⊢;exact⟨_,_,_,rfl,a7,c7,rfl,h7.before (Ac (Ac (Ac (Ac h2.Ar B3) h4.Ar) B5) B6)⟩
section
variable {w:World}{a:Option Addr}{c:Nat}{l:List Int}
theorem V1(hl:Rd w a (l.map EG))(h0:0<l.length)(hn:l.length<=1000000) :
  Calls Tryz.prog f.JO #[.slice a l.length c] w (AG λ v w'=>w'=w/\v=.int .i64 (FJ l)):=by
 apply R.G9
 delta R.Ad R.F R.I R.Li R.MJ R.W R.X;try dsimp only [R.Ps]
 obtain⟨p,rfl,aE⟩:=LS hl h0;refine Aa (λ h=>by omega) (λ _=>⟨⟨by omega,by omega⟩,_,aE,?_⟩);refine⟨λ s w1=>w1=w/\∃ i:Nat,i<=l.length/\s=[.int .i64 (E6 l i),.int .i64 (i:Int)],λ s _=>match s with
   | [_,.int _ i]=>l.length-i.toNat
   | _=>0,⟨rfl,1,by omega,by rw [XD h0];rfl⟩,?_⟩
 rintro _ _ w1 ⟨rfl,i,hi,aA⟩;cases aA;refine Aa (λ aB=>⟨⟨by omega,aB⟩,?_⟩) (λ aJ=>⟨rfl,?_⟩)
 ·have aD:i<l.length:=by omega
  obtain⟨p',hp',hc⟩:=Dm hl aD;cases hp';refine⟨_,by rw [Ak4];exact hc,?_⟩;rw [Ae (by omega),<- OO aD];refine⟨⟨rfl,i+1,by omega,rfl⟩,?_⟩;simp only [Ak4];omega
 ·have:i=l.length:=by omega
  subst this;rfl
theorem Adn{q:Nat}{vs:List Value}(h:Rd w a vs)(hc:vs.length<=c):Rd w (Ck a q c 1) (vs.drop q):=by
 have h:=h.OV q vs.length c 1 hc;rw [Ak7,Ak7] at h;have e:(vs.drop q).take (vs.length-q)=vs.drop q:=AlA (by simp);rwa [e] at h
theorem UN:Calls Tryz.prog f.SF #[.slice a l.length c] w (AG λ v w'=>∃ b,v=.func (.func f.Mn) #[] #[.pointer (some ⟨b,0,none⟩)]/\SH (λ _=>False) w w' [(b,#[.slice a l.length c],ty.Bl)]):=by
 apply R.Pk
 delta R.J R.N R.P R.S;try dsimp only [R.Ps]
 exact (SH.start (λ _=>False) w).An λ b1 w1 _ _ S1=>⟨b1,rfl,S1⟩
theorem Yh{L b:Nat}(hc:l.length<=c)(hn:l.length<=1000000)(J:Nat->World->Prop)(cr:∀ k w,J k w->Rd w a (l.map EG))(lR:∀ k w w',J k w->Ai (·=b) w w'->J k w')
  (ae:∀ k n w,k<l.length->AdE l k n->J k w->PQ Tryz.prog L #[.int .i64 (n:Int),.int .i64 (l.getD k 0)] (λ y w'=>y=true/\J (k+n) w'/\w'.heap[b]?=w.heap[b]?) w)
  (h0:J 0 w) (hb:w.heap[b]?=some (.cells #[.slice a l.length c] ty.Bl (0,0))) :
  Calls Tryz.prog f.Mn #[.func (.yield L) #[] #[],.pointer (some ⟨b,0,none⟩)] w (AG λ _ w'=>J l.length w'):=by
 apply R.LB
 delta R.A R.Ad R.D R.F R.H R.I R.Li R.Ls R.Q R.Qi R.S R.Am R.W R.X R.Y R.Zi;try dsimp only [R.Ps]
 have cell_of:∀ {w':World} {v:Value},w'.heap[b]?=some (.cells #[v] ty.Bl (0,0))->w'.cell? ⟨b,0,none⟩=some v:=λ h=>by simp [World.cell?,h]
 refine⟨λ s w1=>s=[]/\∃(k:Nat) (ak:Option Addr) (ck:Nat),k<=l.length/\J k w1/\w1.heap[b]?=some (.cells #[.slice ak (l.length-k) ck] ty.Bl (0,0))/\l.length-k<=ck/\(∀ w,Rd w a (l.map EG)->Rd w ak ((l.drop k).map EG)),λ _ w=>match w.cell? ⟨b,0,none⟩ with
   | some (.slice _ n _)=>n
   | _=>0,⟨rfl,0,a,c,by omega,h0,by simpa using hb,by omega,λ w h=>by simpa using h⟩,?_⟩
 rintro w1 ⟨_,k,ak,ck,hk,hj,cJ,hck,hr⟩;refine⟨_,_,_,cell_of cJ,Aa (λ iH=>?_) (λ hz=>?_)⟩
 ·have aO:k<l.length:=by omega
  refine⟨λ s w4=>∃ n:Nat,s=[.int .i64 (n:Int)]/\AdE l k n/\J k w4/\w4.heap[b]?=some (.cells #[.slice ak (l.length-k) ck] ty.Bl (0,0)),?_,?_⟩
  ·have one:∀ j,j<1->l[k+j]?=l[k]?:=by
    intro j hj;have:j=0:=by omega
    subst this;rfl
   refine⟨λ s w2=>∃ n:Nat,s=[.int .i64 (n:Int)]/\0<n/\k+n<=l.length/\(∀ j,j<n->l[k+j]?=l[k]?)/\J k w2/\w2.heap[b]?=some (.cells #[.slice ak (l.length-k) ck] ty.Bl (0,0)),λ s _=>match s with
     | [.int _ i]=>l.length-i.toNat
     | _=>0,⟨1,rfl,by omega,by omega,one,hj,cJ⟩,?_⟩
   rintro _ w2 ⟨n,aA,dB,bn,aF,qE,dC⟩;cases aA;unfold RR;have oW:J k w2.drew:=lR _ _ _ qE ((Ai.refl _ _).drew);have dE:w2.drew.heap[b]?=some (.cells #[.slice ak (l.length-k) ck] ty.Bl (0,0)):=dC;refine⟨_,_,_,cell_of dE,Aa (λ aB=>?_) (λ aJ=>⟨n,rfl,⟨dB,bn,aF,.inl (by omega)⟩,oW,dE⟩)⟩;have rh:=hr _ (cr _ _ oW);have lA:k+n<l.length:=by omega
   have gw:n<(l.drop k).length:=by rw [Alu];omega
   have uo:0<(l.drop k).length:=by omega
   obtain⟨p,rfl,gH⟩:=Dm rh gw;obtain⟨p',hp',cG⟩:=Dm rh uo;cases hp';rw [Al6,Db] at cG;refine⟨_,_,_,cell_of dE,⟨by omega,by omega⟩,_,by rw [Ak4];exact gH,_,_,_,cell_of dE,⟨by omega,by omega⟩,_,cG,?_⟩;have e1:(l.drop k)[n]=l[k+n]:=by simp
   have e2:(l.drop k)[0]=l[k]:=by simp
   rw [e1,e2];refine Ao (λ he=>?_) (λ aQ=>⟨n,rfl,⟨dB,bn,aF,.inr ?_⟩,oW,dE⟩)
   ·rw [Ae (by omega)];refine⟨⟨n+1,rfl,by omega,by omega,λ j hj=>?_,oW,dE⟩,?_⟩
    ·rcases AlH j n with h | h
     ·exact aF j h
     ·have:j=n:=by omega
      subst this;rw [AlV lA,AlV aO,he]
    ·simp only [Ak4];omega
   ·rw [AlV lA,AlV aO];simpa using aQ
  rintro _ w4 ⟨n,aA,aH,yS,jx⟩;cases aA;have eN:=aH.pos;have gi:=aH.le;have rh:=hr _ (cr _ _ yS);have uo:0<(l.drop k).length:=by rw [Alu];omega
  obtain⟨p',hp',cG⟩:=Dm rh uo;subst hp';rw [Al6,Db] at cG;have e2:(l.drop k)[0]=l.getD k 0:=by simp [aO]
  rw [e2] at cG;refine⟨_,_,_,cell_of jx,⟨by omega,by omega⟩,_,cG,?_⟩;obtain⟨fn,tm,asg,bo,hy,hrr⟩:=ae k n w4 aO aH yS;refine⟨fn,tm,asg,bo,hy,hrr.mono ?_⟩;rintro e w5 ⟨y,he,rfl,rF,fX⟩;rw [jx] at fX;refine⟨true,he,AV ⟨_,_,_,cell_of fX,⟨by omega,by omega,by omega⟩,?_⟩⟩;rw [Ak4];refine EO fX (by simp) λ w6 K6 kq=>?_;have m7:w6.heap[b]?=some (.cells #[.slice (Ck (some p') n ck 1) (l.length-k-n) (ck-n)] ty.Bl (0,0)):=kq;have ek:l.length-k-n=l.length-(k+n):=by omega
  rw [ek] at m7;refine⟨⟨rfl,k+n,_,_,by omega,lR _ _ _ rF K6,m7,by omega,λ w h=>?_⟩,?_⟩
  ·have:=Adn (q:=n) (c:=ck) (hr w h) (by simp;omega);rwa [<- Alv,List.drop_drop] at this
  ·show (match w6.cell? ⟨b,0,none⟩ with | some (.slice _ n _)=>n | _=>0)<(match w1.cell? ⟨b,0,none⟩ with | some (.slice _ n _)=>n | _=>0);rw [cell_of m7,cell_of cJ];simp only;omega
 ·have:k=l.length:=by omega
  subst this;exact hj
end
theorem Dw{w:World}{b:Nat}{v:Value}{t:TypeId}{f:Nat × Nat}(h:w.heap[b]?=some (.cells #[v] t f)):w.cell? ⟨b,0,none⟩=some v:=by simp [World.cell?,h]
section
variable {w:World}{a:Option Addr}{c:Nat}{l:List Int}
structure G0(w:World)(b4:Nat)(F:Nat->Prop)(wx:World)(bs:List UInt8):Prop where
 ex:∃(ba:Option Addr) (bc:Nat),wx.heap[b4]?=some (.cells #[.slice ba bs.length bc] ty.AH (0,0))/\Row wx ty.uint8 1 ba bs.length bc (bs.map Ag)/\∀ x,AD ba=some x->w.heap.size<=x/\x≠b4/\¬ F x
theorem G0.keeps{w wx wy:World}{b4:Nat}{F G:Nat->Prop}{bs:List UInt8}(h:G0 w b4 F wx bs)(K:Ai G wx wy)(h4:¬ G b4)(hG:∀ x,G x->F x\/wx.heap.size<=x):G0 w b4 F wy bs:=by
 obtain⟨ba,bc,h1,h2,h3⟩:=h.ex;refine⟨ba,bc,K.at h1 h4,h2.keeps K λ x hx hg=>?_,h3⟩;rcases hG x hg with h | h
 ·exact (h3 x hx).2.2 h
 ·have:=h2.lt hx;omega
theorem Y3{w w3:World}{b4:Nat}(hl:Rd w a (l.map EG))(hc:l.length<=c)(hn:l.length<=4096)(hx:∀ x∈l,Fs x)(B:Below w.heap.size w w3)(wX:w.heap.size<=b4)
  (hH:G0 w b4 (λ _=>False) w3 [1]) {k:Value->World->Prop} (hk:∀ w',Below w.heap.size w w'->G0 w b4 (λ _=>False) w' (DS 1 l)->∀ ba bc,w'.cell? ⟨b4,0,none⟩=some (.slice ba (DS 1 l).length bc)->k (.tuple #[.slice ba (DS 1 l).length bc,.int .i64 0]) w') :
  Calls Tryz.prog f.SF #[.slice a l.length c] w3 (λ e_15 w7=>∃(t52_14:FuncId) (t52_14f t52_14c:Array Value),e_15=.returned (.func (.func t52_14) t52_14f t52_14c)/\enters Tryz.prog t52_14=true/\∀ rr_16:Loop,rr_16.state=.ready->rr_16.pending=none->(∀(t53_17:Int),∀(t54_18:Int),∀(k_16:Bool->World->Prop) (w8:World),w8.heap[(w7.heap.size+1)]?=some (.loop rr_16)->(QW rr_16 (w7.heap.size+1) (λ w9=>∃(t55_19:Option Addr) (t55_19l t55_19c:Nat),w9.cell? ⟨b4,0,none⟩=some (.slice t55_19 t55_19l t55_19c) /\
   Calls Tryz.prog f.Sf #[.slice t55_19 t55_19l t55_19c,.int .u64 (IntKind.u64.wrap (t53_17))] w9 (λ e_21 bZ=>∃(t58_20:Option Addr) (t58_20l t58_20c:Nat),e_21=.returned (.slice t58_20 t58_20l t58_20c)/\Calls Tryz.prog f.SC #[.slice t58_20 t58_20l t58_20c,.int .i64 t54_18] bZ (λ e_23 aX=>∃(t60_22:Option Addr) (t60_22l t60_22c:Nat),e_23=.returned (.slice t60_22 t60_22l t60_22c)/\DV ⟨b4,0,none⟩ (.slice t60_22 t60_22l t60_22c) (λ bJ=>Gk rr_16 (w7.heap.size+1) k_16 none bJ) aX))) w8)->PQ Tryz.prog (w7.heap.size+1) #[.int .i64 t53_17,.int .i64 t54_18] k_16 w8) ->
   Calls Tryz.prog t52_14 ⟨t52_14f.toList++[.func (.yield (w7.heap.size+1)) #[] #[]]++t52_14c.toList⟩ ((w7.alloc (.deferred (some []))).alloc (.loop rr_16)) (λ e_24 aj=>(∃ v,e_24=.returned v)/\RP rr_16 (w7.heap.size+1) (λ j_24 an=>(j_24=none/\∃(t112_25:Option Addr) (t112_25l t112_25c:Nat),an.cell? ⟨b4,0,none⟩=some (.slice t112_25 t112_25l t112_25c)/\an.heap[w7.heap.size]?=some (.deferred (some []))/\k (.tuple #[.slice t112_25 t112_25l t112_25c,.int .i64 0]) (an.putObj w7.heap.size (.deferred none)))) aj)):=by
 have hlen:=Mz 4096 l hn (by omega) hx;refine UN.mono ?_;rintro _ w9 ⟨_,rfl,bI,rfl,S9⟩;refine⟨_,_,_,rfl,by kernel_rfl,λ rr aA dR hy=>?_⟩;obtain⟨W1,hW1⟩:∃ W1,W1=(w9.alloc (.deferred (some []))).alloc (.loop rr):=⟨_,rfl⟩;rw [<- hW1];have gK:Below w9.heap.size w9 W1:=by rw [hW1];exact (((Below.refl _ w9).alloc (AkY _) _).alloc (by simp) _)
 have rR:W1.heap.size=w9.heap.size+2:=by rw [hW1];simp
 have gf:W1.heap[w9.heap.size+1]?=some (.loop rr):=by
  rw [hW1];have:=World.alloc_heap_new (w9.alloc (.deferred (some []))) (.loop rr);rwa [World.size_alloc] at this
 have ku:W1.heap[w9.heap.size]?=some (.deferred (some [])):=by
  rw [hW1];exact (Below.heap_alloc _ _ _ (by simp)).trans (World.alloc_heap_new w9 _)
 have dz:=Ai.AA (F:=λ _=>False) gK;obtain⟨L,hLd⟩:∃ L,L=w9.heap.size+1:=⟨_,rfl⟩;rw [<- hLd] at gf hy ⊢;obtain⟨ba0,bc0,e1,e2,e3⟩:=hH.ex;have jx:b4<w3.heap.size:=(AlG.1 e1).1;have hbI:w3.heap.size<=bI:=by simpa using S9.own (bI,_,_) (AlD ..)
 have hbI9:bI<w9.heap.size:=S9.lt (x:=(bI,_,_)) (AlD ..);have jM:=S9.below;have Bw1:Below w.heap.size w W1:=(Ac B jM).trans (gK.mono (Ac B jM).size);have w03:=B.size;have jt:=jM.size;have hI1:W1.heap[bI]?=some (.cells #[.slice a l.length c] ty.Bl (0,0)):=dz.at (S9.get 0 rfl) (by simp);let F:Nat->Prop:=λ x=>x=L\/x=bI\/x=w9.heap.size;have hJ0:G0 w b4 F W1 [1]:=by
  refine⟨ba0,bc0,dz.at ((Ai.AA (F:=λ _=>False) jM).at e1 (by simp)) (by simp),(e2.grown jM).grown gK,λ x hx=>⟨(e3 x hx).1,(e3 x hx).2.1,?_⟩⟩;have:=e2.lt hx;show ¬ (x=L\/x=bI\/x=w9.heap.size);omega
 let J:Nat->World->Prop:=λ q wx=>Ai (λ x=>x=b4\/x=L\/x=bI) W1 wx/\wx.heap[L]?=some (.loop rr)/\∃ bs,G0 w b4 F wx bs/\1 :: E3 l=bs++E3 (l.drop q);have low:∀ {w':World},Ai (λ x=>x=b4\/x=L\/x=bI) W1 w'->Below w.heap.size w w':=λ K=>Bw1.trans (K.below Bw1.size λ k hk h=>by omega);have bA:=Yh (w:=W1) (L:=L) (b:=bI) hc (by omega) J (λ q wx hj=>hl.grown (low hj.1)) (λ q wx wy hj K=>by
   obtain⟨j1,j2,bs,j3,j4⟩:=hj;exact⟨j1.trans K (λ x _ h=>.inr (.inr h)),K.at j2 (by show ¬ L=bI;omega),bs,j3.keeps K (by show ¬ b4=bI;omega) (λ x h=>.inl (.inr (.inl h))),j4⟩) (by
  rintro q n wx hq aH ⟨K,hL,bs,tR,hE⟩;obtain⟨ba,bc,f1,f2,f3⟩:=tR.ex;have au:bs.length<=1+4096*20:=by
   have:=congrArg List.length hE;simp only [Ak1,Ak3] at this;omega
  have ow:=aH.le;have dB:=aH.pos;refine hy _ _ _ wx hL ⟨hL,?_⟩;obtain⟨aX,hw11⟩:∃ aX,aX=wx.putObj L (.loop { rr with state:=.busy }):=⟨_,rfl⟩;rw [<- hw11];have eT:L<wx.heap.size:=(AlG.1 hL).1;have eO:Ai (λ k=>k=L) wx aX:=by rw [hw11];exact AP _ _ _
  have ik:aX.heap[L]?=some (.loop { rr with state:=.busy }):=by rw [hw11];exact World.putObj_heap_same eT
  have g1:=eO.at f1 (show ¬ b4=L by omega);have g2:=f2.keeps eO λ x hx he=>(f3 x hx).2.2 (.inl he);rw [Aj (by omega) (by omega)];refine⟨_,_,_,Dw g1,(Bf bs g2.rd n (by omega) (by omega)).mono ?_⟩;rintro _ bJ ⟨_,rfl,a12,oI,rfl,f'⟩;have d10:=Al (n:=n) (by omega);have xo:Fs (l.getD q 0):=by rw [Fi hq];exact hx _ (AlI hq)
  refine⟨_,_,_,rfl,(F0 _ f'.rd _ xo.1 xo.2 (by rw [Ak1];omega)).mono ?_⟩;rintro _ aj ⟨_,rfl,m8,oF,rfl,jv⟩;have jF:=Ac f'.Ar jv.Ar;have kj:=Ai.AA (F:=λ _=>False) jF;have g3:=kj.at g1 (by simp);refine⟨_,_,_,rfl,EO g3 (by simp) λ an jD kK=>?_⟩;have s11:aX.heap.size=wx.heap.size:=by rw [hw11];simp
  have sx:=K.size;have zo:=f'.Ar.size;have dJ:an.heap[L]?=some (.loop { rr with state:=.busy }):=jD.at (kj.at ik (by simp)) (by show ¬ L=b4;omega);refine⟨dJ,rfl,?_⟩;rw [IU aA dR];have ia:L<an.heap.size:=(AlG.1 dJ).1;have KP:=AP an L (.loop rr);have KK:Ai (λ x=>x=b4\/x=L) wx (an.putObj L (.loop rr)) :=
   (((eO.mono (G:=λ x=>x=b4\/x=L) (λ x _ h=>.inr h)).trans kj (λ x _ h=>h.elim)).trans jD (λ x _ h=>.inl h)).trans KP (λ x _ h=>.inr h)
  have jc:∀ x,AD m8=some x->wx.heap.size<=x:=λ x hx=>by have:=jv.new x hx;omega
  have R14:Row (an.putObj L (.loop rr)) ty.uint8 1 m8 (bs++Af n++Af (D4 (l.getD q 0))).length oF ((bs++Af n++Af (D4 (l.getD q 0))).map Ag) :=
   (jv.row.keeps jD λ x hx he=>by have:=jc x hx;have:=(AlG.1 f1).1;omega).keeps KP λ x hx he=>by have:=jc x hx;omega
  refine⟨⟨K.trans KK (λ x _ h=>by rcases h with h | h <;> simp [h]),World.putObj_heap_same ia,_,⟨m8,oF,?_,R14,λ x hx=>?_⟩,?_⟩,?_⟩
  ·exact KP.at kK (by show ¬ b4=L;omega)
  ·have:=jc x hx;have:=Bw1.size;refine⟨by omega,by omega,?_⟩;show ¬ (x=L\/x=bI\/x=w9.heap.size);omega
  ·rw [hE,Zh aH];simp [Em]
  ·exact KK.block bI (by omega) (by show ¬ (bI=b4\/bI=L);omega)) ⟨.refl _ _,gf,[1],hJ0,by simp⟩ hI1
 refine bA.mono ?_;rintro _ an ⟨_,rfl,jD,dJ,bs,tR,hE⟩;have hd:l.drop l.length=[]:=by simp
 rw [hd,Jh,Al2] at hE;subst hE;refine⟨⟨_,rfl⟩,none,by rw [IU aA dR];exact dJ,rfl,?_⟩;obtain⟨ah,hw15⟩:∃ ah,ah=an.putObj L (.loop { rr with state:=.exhausted,pending:=none }):=⟨_,rfl⟩;rw [<- hw15];have gL:Ai (λ k=>k=L) an ah:=by rw [hw15];exact AP _ _ _
 have xp:=tR.keeps gL (show ¬ b4=L by omega) (λ x h=>.inl (.inl h));have KF:=jD.trans gL (λ x _ h=>.inr (.inl h));have gI:ah.heap[w9.heap.size]?=some (.deferred (some [])):=KF.at ku (by show ¬ (w9.heap.size=b4\/w9.heap.size=L\/w9.heap.size=bI);omega);have KD:=AP ah w9.heap.size (.deferred none);have H16:=xp.keeps KD (show ¬ b4=w9.heap.size by omega) (λ x h=>.inl (.inr (.inr h)));have dq:=low KF;obtain⟨ba,bc,f1,f2,f3⟩:=xp.ex;obtain⟨jV,mR,f1',f2',f3'⟩:=H16.ex;refine⟨_,_,_,Dw f1,gI,hk _ (dq.trans (KD.below dq.size λ k hk he=>by omega)) ⟨jV,mR,f1',f2',λ x hx=>⟨(f3' x hx).1,(f3' x hx).2.1,λ h=>h⟩⟩ ba bc ?_⟩;have:=KD.at f1 (show ¬ b4=w9.heap.size by omega);exact Dw this
theorem H5(form:Int)(hl:Rd w a (l.map EG))(hc:l.length<=c)(hx:∀ x∈l,Fs x) :
  Calls Tryz.prog f.Abj #[.int .i64 form,.slice a l.length c] w (AG λ v w'=>J8 form l w w' v):=by
 apply R.Pf
 delta R.A R.Ad R.B R.Cf R.Ci R.Cs R.Cu R.F R.H R.I R.J R.Ks R.Li R.Ls R.N R.O R.Qi R.ER R.S R.Am R.U R.W R.Wb R.Wu R.X R.Y;try dsimp only [R.Ps]
 have bad:¬ Jz form l->J8 form l w w (.tuple #[.slice none 0 0,.int .i64 2]):=λ h=>.inl ⟨h,rfl,.refl _ _⟩;refine Aa (λ h=>bad λ hk=>by have:=hk.1;omega) (λ h1=>Aa (λ h=>bad λ hk=>by have:=hk.2.1;omega) (λ h2=>Aa (λ h=>bad λ hk=>by have:=hk.2.2;omega) (λ h3=>?_)));have aK:Jz form l:=⟨by omega,by omega,by omega⟩;have hn:l.length<=4096:=by omega
 obtain⟨fm,rfl⟩:∃ m:Nat,form=(m:Int):=⟨form.toNat,by omega⟩;rw [AE (by omega) (by omega)];refine (SH.start (λ _=>False) w).An λ b3 w1 dE B1 S1=>S1.An λ b4 w2 jx B2 S2=>S2.ZR 0 rfl (show 0<1 by decide) λ w3 K3 S3=>?_;have jm:fm<256:=by omega
 have B3:=S3.below;have jK:b3≠b4:=S3.ne 1 0 rfl rfl (by decide);have vE:w.heap.size<=b3:=dE;have qV:w.heap.size<=b4:=by have:=B1.size;omega
 have hN:Bn w w3 [Ak9 fm] (some ⟨b3,0,none⟩) 1:=by
  refine⟨⟨rfl,.inr ⟨b3,_,rfl,S3.get 1 rfl,by simp,by omega,rfl,?_⟩⟩,λ k hk=>?_,B3⟩
  ·simp [CA jm]
  ·cases hk;exact dE
 have nT:w3.heap[b4]?=some (.cells #[.slice (some ⟨b3,0,none⟩) 1 1] ty.AH (0,0)):=S3.get 0 rfl;have fin:∀ {wx:World} {bs:List UInt8} {ba:Option Addr} {bc:Nat},Bn w wx bs ba bc->bs=DS fm l->J8 (fm:Int) l w wx (.tuple #[.slice ba bs.length bc,.int .i64 0]):=by
  rintro wx bs ba bc h rfl;exact .inr ⟨aK,ba,bc,by rw [Ak4],by rw [Ak4];exact h⟩
 refine Ao (λ hz=>⟨_,_,_,Dw nT,?_⟩) (λ jN=>?_)
 ·have nR:l=[]:=AkT (by omega);refine fin hN ?_;subst nR;rcases (by omega:fm=0\/fm=1\/fm=2\/fm=3) with rfl | rfl | rfl | rfl
  ·rfl
  ·show _=1 :: E3 [];rw [Jh];rfl
  ·rfl
  ·rfl
 have hp:0<l.length:=by omega
 have fB:l≠[]:=Al7.1 hp;refine Ao (λ hf=>?_) (λ fF=>Ao (λ hf=>?_) (λ gO=>Ao (λ hf=>?_) (λ tz=>Ao (λ hf=>?_) (λ hf3=>by omega))))
 ·have:fm=0:=by omega
  subst this;refine⟨λ s w5=>∃(i:Nat) (b:List UInt8) (a5:Option Addr) (c5:Nat),s=[.int .i64 (i:Int)]/\i<=l.length/\b=0 :: (l.take i).flatMap Em/\Bn w w5 b a5 c5/\w5.heap[b4]?=some (.cells #[.slice a5 b.length c5] ty.AH (0,0))/\(∀ x,AD a5=some x->x≠b4),λ s _=>match s with
    | [.int _ i]=>l.length-i.toNat
    | _=>0,⟨0,[0],_,_,rfl,by omega,by simp,hN,nT,λ x hx=>by cases hx;exact jK⟩,?_⟩
  rintro _ w5 ⟨i,b,a5,c5,aA,hi,hb,h5,g5,n5⟩;cases aA;have au:b.length<=1+4096*10:=by
   have:=KM (l:=l.take i) λ x h=>hx x (Al3 h);rw [AlX] at this;rw [hb,Ak3];omega
  refine Aa (λ aB=>⟨⟨by omega,aB⟩,?_⟩) (λ aJ=>⟨_,_,_,Dw g5,?_⟩)
  ·have aD:i<l.length:=by omega
   obtain⟨p,rfl,hc⟩:=Dm (hl.grown h5.Ar) aD;have dF:=hx _ (AlI aD);refine⟨_,by rw [Ak4];exact hc,_,_,_,Dw g5,(F0 b h5.rd l[i] dF.1 dF.2 (by omega)).mono ?_⟩;rintro _ w6 ⟨_,rfl,a6,c6,rfl,h6⟩;have g6:=(Ai.AA (F:=λ _=>False) h6.Ar).at g5 (by simp);have l5:b4<w5.heap.size:=(AlG.1 g5).1;refine⟨_,_,_,rfl,EO g6 (by simp) λ w7 K7 g7=>?_⟩;rw [Ae (by omega)];have gk:=h6.before h5.Ar;have n6:∀ x,AD a6=some x->x≠b4:=λ x hx=>by have:=h6.new x hx;omega
   refine⟨⟨i+1,_,a6,c6,rfl,by omega,?_,⟨gk.row.keeps K7 λ x hx he=>n6 x hx he,gk.new,gk.Ar.trans (K7.below gk.Ar.size λ k hk he=>by omega)⟩,g7,n6⟩,?_⟩
   ·rw [PR aD,hb];rfl
   ·simp only [Ak4];omega
  ·have bG:l.take i=l:=AlA (by omega);rw [bG] at hb;exact fin h5 hb
 ·have:fm=1:=by omega
  subst this;refine Y3 (k:=λ v w'=>J8 ((1:Nat):Int) l w w' v) hl hc hn hx B3 qV ⟨_,_,nT,hN.row,λ x hx=>by cases hx;exact⟨dE,jK,λ h=>h⟩⟩ ?_;rintro w' B' ⟨jV,mR,f1,f2,f3⟩ ba bc aE;have e:=(Dw f1).symm.trans aE;simp only [Option.some.injEq,Value.slice.injEq,true_and] at e;obtain⟨rfl,rfl⟩:=e;exact fin ⟨f2,λ k hk=>(f3 k hk).1,B'⟩ rfl
 ·have:fm=2:=by omega
  subst this;have bD:(BB l).length=l.length-1:=by simp [BB]
  refine⟨⟨by omega,by omega,by omega⟩,λ s w1=>∃(i:Nat) (a1:Option Addr) (c1:Nat),s=[.slice a1 ((BB l).take i).length c1,.int .i64 (i:Int)]/\i+1<=l.length/\JR w3 w1 ((BB l).take i) a1 c1,λ s _=>match s with
   | [_,.int _ i]=>l.length-i.toNat
   | _=>0,⟨0,none,0,rfl,by omega,JR.nil w3⟩,?_⟩
  rintro a1 _ c1 _ ah ⟨i,_,_,aA,hi,h1⟩;cases aA;have C1:=Ac B3 h1.Ar;refine Aa (λ aB=>⟨⟨by omega,by omega⟩,?_⟩) (λ aJ=>?_)
  ·have dS:i+1<l.length:=by omega
   have iP:i<l.length:=by omega
   have pD:=Adn (q:=1) (hl.grown C1) (by rw [List.length_map];exact hc);rw [<- Alv] at pD;have gw:i<(l.drop 1).length:=by rw [Alu];omega
   obtain⟨p1,hp1,gH⟩:=Dm pD gw;rw [hp1];have e1:(l.drop 1)[i]=l[i+1]:=by simp
   rw [e1] at gH;obtain⟨p,rfl,cG⟩:=Dm (hl.grown C1) iP;refine⟨_,by rw [Ak4];exact gH,⟨by omega,by omega⟩,_,by rw [Ak4];exact cG,?_⟩;refine (Aaj ah (FY (l[i+1]-l[i]))).mono ?_;rintro _ w5 ⟨_,rfl,rfl,rfl⟩;refine⟨_,rfl,(SH.start (λ _=>False) w5).An λ b6 w6 kq B6 S6=>?_⟩;refine EA (h1.grown B6) (by rw [AlX];omega) rfl (S6.get 0 rfl) λ a7 c7 w7 h7=>⟨_,_,_,rfl,?_⟩;rw [<- Sq dS] at h7 ⊢;rw [Ae (by omega)];refine⟨⟨i+1,a7,c7,rfl,by omega,h7⟩,?_⟩;simp only [Ak4];omega
  ·have bG:(BB l).take i=BB l:=AlA (by omega);rw [bG] at h1 ⊢;obtain⟨p,rfl,aE⟩:=LS (hl.grown C1) hp;have hh:Fs (l.headD 0):=by
    have:=DJ hx hp 0;simpa [E6] using this
   refine⟨⟨by omega,by omega⟩,_,aE,(KX (fm:=2) (by omega) hh h1.row.rd (by omega) MF).mono ?_⟩;rintro _ w6 ⟨_,rfl,a6,c6,rfl,h6⟩;have g6:=(Ai.AA (F:=λ _=>False) (Ac h1.Ar h6.Ar)).at nT (by simp);have l3:b4<w3.heap.size:=(AlG.1 nT).1;have zY:=h1.Ar.size;refine⟨_,_,_,rfl,EO g6 (by simp) λ w7 K7 g7=>⟨_,_,_,Dw g7,?_⟩⟩;have gk:=h6.before C1;exact fin ⟨gk.row.keeps K7 λ x hx he=>by have:=h6.new x hx;omega,gk.new,gk.Ar.trans (K7.below gk.Ar.size λ k hk he=>by omega)⟩ (by simp only [DS];rw [if_neg fB];rfl)
 ·have:fm=3:=by omega
  subst this;have bD:(BJ l).length=l.length:=by simp [BJ]
  have jk:=DJ hx hp l.length;have hm:E6 l l.length=FJ l:=rfl;rw [hm] at jk;refine (V1 (hl.grown B3) hp (by omega)).mono ?_;rintro _ w3 ⟨_,rfl,rfl,rfl⟩;refine⟨_,rfl,λ s w1=>∃(i:Nat) (a1:Option Addr) (c1:Nat),s=[.slice a1 ((BJ l).take i).length c1,.int .i64 (i:Int)]/\i<=l.length/\JR w3 w1 ((BJ l).take i) a1 c1,λ s _=>match s with
   | [_,.int _ i]=>l.length-i.toNat
   | _=>0,⟨0,none,0,rfl,by omega,JR.nil w3⟩,?_⟩
  rintro a1 _ c1 _ ah ⟨i,_,_,aA,hi,h1⟩;cases aA;have C1:=Ac B3 h1.Ar;refine Aa (λ aB=>⟨⟨by omega,by omega⟩,?_⟩) (λ aJ=>?_)
  ·have iP:i<l.length:=by omega
   obtain⟨p,rfl,cG⟩:=Dm (hl.grown C1) iP;have ag:=AlI iP;refine⟨_,by rw [Ak4];exact cG,(SH.start (λ _=>False) ah).An λ b6 w6 kq B6 S6=>?_⟩;have ew:IntKind.u64.wrap (IntKind.i64.wrap (l[i]-FJ l))=((l[i]-FJ l).toNat:Int):=by
    have q1:=hx _ ag;have q2:=MD ag;unfold Fs at q1 jk;rw [wrap_u64,CX];split <;> omega
   rw [ew] at S6;refine EA (h1.grown B6) (by rw [AlX];omega) rfl (S6.get 0 rfl) λ a7 c7 w7 h7=>⟨_,_,_,rfl,?_⟩;rw [<- SG iP] at h7 ⊢;rw [Ae (by omega)];refine⟨⟨i+1,a7,c7,rfl,by omega,h7⟩,?_⟩;simp only [Ak4];omega
  ·have bG:(BJ l).take i=BJ l:=AlA (by omega);rw [bG] at h1 ⊢;refine (KX (fm:=3) (by omega) jk h1.row.rd (by omega) (Mt hx)).mono ?_;rintro _ w6 ⟨_,rfl,a6,c6,rfl,h6⟩;have g6:=(Ai.AA (F:=λ _=>False) (Ac h1.Ar h6.Ar)).at nT (by simp);have l3:b4<w3.heap.size:=(AlG.1 nT).1;have zY:=h1.Ar.size;refine⟨_,_,_,rfl,EO g6 (by simp) λ w7 K7 g7=>⟨_,_,_,Dw g7,?_⟩⟩;have gk:=h6.before C1;exact fin ⟨gk.row.keeps K7 λ x hx he=>by have:=h6.new x hx;omega,gk.new,gk.Ar.trans (K7.below gk.Ar.size λ k hk he=>by omega)⟩ (by simp only [DS];rw [if_neg fB];rfl)
end
def Bw(s:Nat->Nat):Nat->Nat
 | 0=>0
 | f+1=>if f=0 then 0 else if s f<s (Bw s f) then f else Bw s f
def Gy(l:List Int)(f:Nat):Nat:=(DS f l).length
def Vr(l:List Int):Nat:=Bw (Gy l) 4
theorem Mh(s:Nat->Nat):∀ f,0<f->Bw s f<f/\(∀ j,j<f->s (Bw s f)<=s j)/\(∀ j,j<Bw s f->s (Bw s f)<s j)
 | 0,h=>by omega
 | f+1,_=>by
  by_cases h0:f=0
  ·subst h0;have e:Bw s (0+1)=0:=by simp [Bw]
   rw [e];refine⟨by omega,λ j hj=>?_,λ j hj=>by omega⟩;have:j=0:=by omega
   subst this;exact AkY _
  ·obtain⟨h1,h2,h3⟩:=Mh s f (by omega);by_cases hs:s f<s (Bw s f)
   ·have e:Bw s (f+1)=f:=by simp only [Bw];rw [if_neg h0,if_pos hs]
    rw [e];refine⟨by omega,λ j hj=>?_,λ j hj=>?_⟩
    ·rcases AlH j f with h | h
     ·have:=h2 j h;omega
     ·have:j=f:=by omega
      subst this;exact AkY _
    ·have:=h2 j hj;omega
   ·have e:Bw s (f+1)=Bw s f:=by simp only [Bw];rw [if_neg h0,if_neg hs]
    rw [e];refine⟨by omega,λ j hj=>?_,h3⟩;rcases AlH j f with h | h
    ·exact h2 j h
    ·have:j=f:=by omega
     subst this;omega
theorem PM(l:List Int):Vr l<=3:=by
 have:=(Mh (Gy l) 4 (by omega)).1;unfold Vr;omega
theorem Aio{f:Nat}{l:List Int}(hf:f<=3)(hn:l.length<=4096):Jz (f:Int) l:=⟨by omega,by omega,by omega⟩
section
variable {w:World}{a:Option Addr}{c:Nat}{l:List Int}
theorem J8.D1{f:Nat}{w':World}{r:Value}(hf:f<=3)(hn:l.length<=4096)(h:J8 (f:Int) l w w' r):∃ a c,r=.tuple #[.slice a (Gy l f) c,.int .i64 0]/\Bn w w' (DS f l) a c:=by
 rcases h with ⟨h,_⟩ | ⟨_,a,c,rfl,h⟩
 ·exact absurd (Aio hf hn) h
 ·rw [Ak4] at h ⊢;exact⟨a,c,rfl,h⟩
theorem QJ(hl:Rd w a (l.map EG))(hn:l.length<=4096)(hx:∀ x∈l,Fs x) :
  Calls Tryz.prog f.AcN #[.slice a l.length c] w (AG λ v w'=>v=.tuple #[.int .i64 (Vr l:Int),.int .i64 0]/\Below w.heap.size w w'):=by
 apply R.Q7
 delta R.AR R.F R.H R.I R.AjH R.S R.W;try dsimp only [R.Ps]
 refine Aa (λ h=>by omega) (λ _=>?_);refine⟨λ s w1=>∃ f:Nat,f<=4/\s=[.int .i64 (Bw (Gy l) f:Int),.int .i64 ((if f=0 then 0 else Gy l (Bw (Gy l) f):Nat):Int),.int .i64 (f:Int)]/\Below w.heap.size w w1,λ s _=>match s with
   | [_,_,.int _ i]=>4-i.toNat
   | _=>0,⟨0,by omega,rfl,.refl _ _⟩,?_⟩
 rintro _ _ _ w1 ⟨f,hf,aA,B1⟩;cases aA;refine Aa (λ aB=>?_) (λ aJ=>?_)
 ·refine (FA (f:Int) (hl.grown B1) hx).mono ?_;rintro _ w2 ⟨_,rfl,h2⟩;obtain⟨a2,c2,rfl,bW⟩:=h2.D1 (by omega) hn;clear h2;have h2:=bW;have C2:=Ac B1 h2.Ar;refine⟨_,_,_,_,rfl,?_⟩;rw [Ae (by omega)];refine Ao (λ h0=>?_) (λ aQ=>Aa (λ hs=>?_) (λ hs=>?_))
  ·have:f=0:=by omega
   subst this;exact⟨⟨1,by omega,by simp [Bw],C2⟩,by simp⟩
  ·have fF:f≠0:=by omega
   rw [if_neg fF] at hs;refine⟨⟨f+1,by omega,?_,C2⟩,by simp only [Ak4];omega⟩;have e:Bw (Gy l) (f+1)=f:=by simp only [Bw];rw [if_neg fF,if_pos (by omega)]
   rw [e,if_neg (by omega)]
  ·have fF:f≠0:=by omega
   rw [if_neg fF] at hs;refine⟨⟨f+1,by omega,?_,C2⟩,by simp only [Ak4];omega⟩;have e:Bw (Gy l) (f+1)=Bw (Gy l) f:=by simp only [Bw];rw [if_neg fF,if_neg (by omega)]
   simp [e,fF]
 ·have:f=4:=by omega
  subst this;exact⟨rfl,B1⟩
theorem Ub(hl:Rd w a (l.map EG))(h0:0<l.length)(hn:l.length<=1000000) :
  Calls Tryz.prog f.OK #[.slice a l.length c] w (AG λ v w'=>w'=w/\v=.int .i64 (FJ l)):=by
 apply R.IV
 delta R.Ad R.F R.I R.Li R.MJ R.W R.X;try dsimp only [R.Ps]
 obtain⟨p,rfl,aE⟩:=LS hl h0;refine Aa (λ h=>by omega) (λ _=>⟨⟨by omega,by omega⟩,_,aE,?_⟩);refine⟨λ s w1=>w1=w/\∃ i:Nat,i<=l.length/\s=[.int .i64 (E6 l i),.int .i64 (i:Int)],λ s _=>match s with
   | [_,.int _ i]=>l.length-i.toNat
   | _=>0,⟨rfl,1,by omega,by rw [XD h0];rfl⟩,?_⟩
 rintro _ _ w1 ⟨rfl,i,hi,aA⟩;cases aA;refine Aa (λ aB=>⟨⟨by omega,aB⟩,?_⟩) (λ aJ=>⟨rfl,?_⟩)
 ·have aD:i<l.length:=by omega
  obtain⟨p',hp',hc⟩:=Dm hl aD;cases hp';refine⟨_,by rw [Ak4];exact hc,?_⟩;rw [Ae (by omega),<- OO aD];refine⟨⟨rfl,i+1,by omega,rfl⟩,?_⟩;simp only [Ak4];omega
 ·have:i=l.length:=by omega
  subst this;rfl
theorem TA(x:Int)(hl:Rd w a (l.map EG))(hn:l.length<=1000000) :
  Calls Tryz.prog f.LV #[.slice a l.length c,.int .i64 x] w (AG λ v w'=>w'=w/\∃ i:Int,v=.int .i64 i/\((i = -1/\x∉l)\/∃ k:Nat,i=k/\l[k]?=some x/\∀ j,j<k->l[j]?≠some x)):=by
 apply R.HO
 delta R.Ad R.F R.I R.Li R.Qi R.W R.X;try dsimp only [R.Ps]
 refine⟨λ s w1=>w1=w/\∃ i:Nat,i<=l.length/\s=[.int .i64 (i:Int)]/\∀ j,j<i->l[j]?≠some x,λ s _=>match s with
   | [.int _ i]=>l.length-i.toNat
   | _=>0,⟨rfl,0,by omega,rfl,by omega⟩,?_⟩
 rintro _ w1 ⟨rfl,i,hi,aA,aF⟩;cases aA;refine Aa (λ aB=>⟨⟨by omega,aB⟩,?_⟩) (λ aJ=>⟨rfl,_,rfl,.inl ⟨rfl,λ hx=>?_⟩⟩)
 ·have aD:i<l.length:=by omega
  obtain⟨p,rfl,hc⟩:=Dm hl aD;refine⟨_,by rw [Ak4];exact hc,Ao (λ he=>⟨rfl,_,rfl,.inr ⟨i,rfl,?_,aF⟩⟩) (λ aQ=>?_)⟩
  ·rw [AlV aD,he]
  ·rw [Ae (by omega)];refine⟨⟨rfl,i+1,by omega,rfl,λ j hj=>?_⟩,?_⟩
   ·rcases AlH j i with h | h
    ·exact aF j h
    ·have:j=i:=by omega
     subst this;rw [AlV aD];simpa using λ h=>aQ h.symm
   ·simp only [Ak4];omega
 ·obtain⟨k,hk⟩:=List.mem_iff_getElem?.1 hx;have aO:=(AkN.1 hk).1;exact aF k (by omega) hk
theorem tI:MN Tryz.prog ty.Xi=some (ty.int,1,8,.int .i64 0):=by kernel_rfl
theorem Zj(s:Nat->Nat){k:Nat}(h1:[(s 0:Int),s 1,s 2,s 3][k]?=some (FJ [(s 0:Int),s 1,s 2,s 3]))(h2:∀ j,j<k->[(s 0:Int),s 1,s 2,s 3][j]?≠some (FJ [(s 0:Int),s 1,s 2,s 3])):k=Bw s 4:=by
 have hm:∀ x∈[(s 0:Int),s 1,s 2,s 3],FJ [(s 0:Int),s 1,s 2,s 3]<=x:=λ x hx=>MD hx;obtain⟨m,hmd⟩:∃ m,m=FJ [(s 0:Int),s 1,s 2,s 3]:=⟨_,rfl⟩;rw [<- hmd] at h1 h2 hm;have m0:=hm (s 0) (by simp);have m1:=hm (s 1) (by simp);have m2:=hm (s 2) (by simp);have m3:=hm (s 3) (by simp);have hk:k<4:=by
  have:=(AkN.1 h1).1;simpa using this
 obtain⟨q1,q2,q3⟩:=Mh s 4 (by omega);have get:∀ j,j<4->[(s 0:Int),s 1,s 2,s 3][j]?=some ((s j:Nat):Int):=by
  intro j hj;rcases (by omega:j=0\/j=1\/j=2\/j=3) with rfl | rfl | rfl | rfl <;> rfl
 have mk:m=s k:=by have:=get k hk;rw [h1] at this;exact Al8 this
 rcases Nat.lt_trichotomy k (Bw s 4) with h | h | h
 ·have:=q3 k h;have:m<=s (Bw s 4):=by
   rcases (by omega:Bw s 4=0\/Bw s 4=1\/Bw s 4=2\/Bw s 4=3) with e | e | e | e <;> rw [e] <;> assumption
  omega
 ·exact h
 ·exfalso;have:=q2 k hk;apply h2 _ h;rw [get _ q1];have:m<=s (Bw s 4):=by
   rcases (by omega:Bw s 4=0\/Bw s 4=1\/Bw s 4=2\/Bw s 4=3) with e | e | e | e <;> rw [e] <;> assumption
  congr 1;omega
theorem YU(hl:Rd w a (l.map EG))(hc:l.length<=c)(hn:l.length<=4096)(hx:∀ x∈l,Fs x) :
  Calls Tryz.prog f.AeA #[.slice a l.length c] w (AG λ v w'=>v=.tuple #[.int .i64 (Vr l:Int),.int .i64 0]/\Below w.heap.size w w'):=by
 apply R.TC
 delta R.AR R.Ci R.F R.H R.I R.J R.Ks R.N R.O R.ER R.S R.W;try dsimp only [R.Ps]
 let S:Nat->List Int:=λ k=>(List.range k).map λ f=>((Gy l f:Nat):Int);have hS:∀ k,(S k).length=k:=λ k=>by simp [S]
 refine⟨λ s w1=>∃(k:Nat) (a1:Option Addr) (c1:Nat),s=[.slice a1 k c1,.int .i64 (k:Int)]/\k<=4/\Row w1 ty.int 1 a1 k c1 ((S k).map EG)/\(∀ x,AD a1=some x->w.heap.size<=x)/\Below w.heap.size w w1,λ s _=>match s with
   | [_,.int _ i]=>4-i.toNat
   | _=>0,⟨0,none,0,rfl,by omega,Row.nil _ _ _,by simp [AD],.refl _ _⟩,?_⟩
 rintro a1 k c1 _ w1 ⟨_,_,_,aA,hk,R1,N1,B1⟩;cases aA;refine Aa (λ aB=>?_) (λ aJ=>?_)
 ·refine (H5 (k:Int) (hl.grown B1) hc hx).mono ?_;rintro _ w2 ⟨_,rfl,h2⟩;obtain⟨a2,c2,rfl,bW⟩:=h2.D1 (by omega) hn;clear h2;have h2:=bW;refine⟨_,_,_,_,rfl,Ah (λ h=>absurd rfl h) (λ _=>(SH.start (λ _=>False) w2).An λ b3 w3 dE B3 S3=>?_)⟩;have aW:Rd w3 (some ⟨b3,0,none⟩) [EG (Gy l k)]:=by
   have:=Rd.Ak (S3.get 0 rfl);simpa [EG] using this
  have C3:=Ac (Ac B1 h2.Ar) B3;obtain⟨a5,c5,w5,aH,aI,cl,hnw⟩:=BX (ty:=ty.Xi) (mc:=1) tI rfl (by omega) (by omega) ((R1.grown h2.Ar).grown B3) aW (m:=1) rfl (by simp [EG];rfl) (by omega);unfold DE;rw [aH];refine⟨_,_,_,rfl,?_⟩;rw [Ae (by omega)];refine⟨⟨k+1,a5,c5,rfl,by omega,?_,λ x hx=>?_,C3.trans (cl.below C3.size λ x hx he=>by have:=N1 x he;omega)⟩,?_⟩
  ·have e:S (k+1)=S k++[((Gy l k:Nat):Int)]:=by simp [S,List.range_succ]
   rw [e,Alk];exact aI
  ·rcases hnw x hx with h | h
   ·exact N1 x h
   ·exact Ali C3.size h
  ·simp only [Ak4];omega
 ·have:k=4:=by omega
  subst this;have o7:Calls Tryz.prog f.UW #[.slice a1 4 c1] w1 (AG λ v w'=>w'=w1/\v=.int .i64 (Vr l:Int)):=by
   apply R.LW
   delta R.Ci R.I R.S;try dsimp only [R.Ps]
   have h4:(4:Nat)=(S 4).length:=(hS 4).symm;rw [h4];refine (Ub R1.rd (by rw [hS];omega) (by rw [hS];omega)).mono ?_;rintro _ w1 ⟨_,rfl,rfl,rfl⟩;refine⟨_,rfl,(TA _ R1.rd (by rw [hS];omega)).mono ?_⟩;rintro _ w1 ⟨_,rfl,rfl,i,rfl,aG⟩;refine⟨_,rfl,rfl,?_⟩;have yV:S 4=[((Gy l 0:Nat):Int),Gy l 1,Gy l 2,Gy l 3]:=rfl;rcases aG with ⟨_,aP⟩ | ⟨k,rfl,g1,g2⟩
   ·exfalso;apply aP;rcases (JU ((S 4).take (S 4).length) ((S 4).headD 0)).2.2 with e | e
    ·unfold FJ E6;rw [e,yV];simp
    ·unfold FJ E6;exact Al3 e
   ·rw [yV] at g1 g2;rw [Zj (Gy l) g1 g2];rfl
  refine o7.mono ?_;rintro _ w2 ⟨_,rfl,rfl,rfl⟩;exact⟨_,rfl,rfl,B1⟩
end
theorem AbR(a b:ByteArray):EJ a b=decide (bl a<bl b):=by
 unfold EJ;rw [ByteArray.toList_eq,ByteArray.toList_eq,bytesLess_eq];rfl
section
variable {w:World}{a:Option Addr}{c:Nat}{ls:List ByteArray}
theorem Yp(hl:Rd w a (ls.map Value.string))(hn:ls.length<=9223372036854775807):Calls Tryz.prog f.Aa0 #[.slice a ls.length c] w (AG λ v w'=>w'=w/\v=.bool (decide (ls.length<=4096/\J7 ls=false))):=by
 apply R.PX
 delta R.Ad R.F R.G R.I R.Lt R.Qi R.W R.X;try dsimp only [R.Ps]
 refine⟨λ s w1=>w1=w/\∃ k:Nat,k<=ls.length/\s=[.int .i64 (k:Int)]/\J7 (ls.take k)=false,λ s _=>match s with
   | [.int _ i]=>ls.length-i.toNat
   | _=>0,⟨rfl,0,by omega,rfl,rfl⟩,?_⟩
 rintro _ w1 ⟨rfl,k,hk,hs,fA⟩;cases hs;refine Aa (λ aB=>⟨⟨by omega,aB⟩,?_⟩) (λ aJ=>?_)
 ·have aO:k<ls.length:=by omega
  obtain⟨p,rfl,hc⟩:=E7 hl aO;refine⟨_,by rw [Ak4];exact hc,Aa (λ h=>⟨rfl,?_⟩) (λ h=>?_)⟩
  ·have:J7 ls=true:=List.any_eq_true.2 ⟨ls[k],AlI aO,by simp;omega⟩;rw [this];simp
  ·rw [Ae (by omega)];refine⟨⟨rfl,k+1,by omega,rfl,?_⟩,?_⟩
   ·unfold J7 at fA ⊢;rw [AlW aO,List.any_append,fA];simp;omega
   ·simp only [Ak4];omega
 ·have eQ:ls.take k=ls:=AlA (by omega);rw [eQ] at fA;refine⟨rfl,?_⟩;rw [fA];congr 1;rw [Alz];simp;omega
end
structure JH(t:List (List UInt8))(x:List UInt8)(lo:Nat):Prop where
 le:lo<=t.length
 below:∀ y∈t.take lo,y<x
 Aix:∀ y∈t.drop lo,¬ y<x
theorem Ab4{t:List (List UInt8)}(h:t.Pairwise (·<·)){i j:Nat}(dM:i<j)(hj:j<t.length):t[i]<t[j]:=List.pairwise_iff_getElem.1 h i j (by omega) hj dM
section
variable {w:World}{a:Option Addr}{c:Nat}{t:List (List UInt8)}
theorem PL(hl:Rd w a ((t.map BC).map Value.string))(hn:t.length<=140737488355328)(fp:t.Pairwise (·<·))(s:ByteArray) :
  Calls Tryz.prog f.AbF #[.slice a t.length c,.string s] w (AG λ v w'=>∃ lo:Nat,v=.tuple #[.int .i64 (lo:Int),.bool (decide (t[lo]?=some (bl s)))]/\JH t (bl s) lo/\Below w.heap.size w w'):=by
 have nZ:(t.map BC).length=t.length:=by simp
 apply R.Pa
 delta R.Ad R.D R.F R.G R.H R.I R.Lt R.MJ R.W R.X;try dsimp only [R.Ps]
 refine⟨λ st w1=>w1=w/\∃ lo hi:Nat,st=[.int .i64 (lo:Int),.int .i64 (hi:Int)]/\lo<=hi/\hi<=t.length/\(∀ j,(hj:j<t.length)->j<lo->t[j]<bl s)/\(∀ j,(hj:j<t.length)->hi<=j->¬ t[j]<bl s),λ st _=>match st with
   | [.int _ i,.int _ j]=>j.toNat-i.toNat
   | _=>0,⟨rfl,0,t.length,rfl,by omega,by omega,λ j hj h=>by omega,λ j hj h=>by omega⟩,?_⟩
 rintro _ _ w1 ⟨rfl,lo,hi,hs,h1,h2,h3,h4⟩;cases hs;refine Aa (λ aB=>?_) (λ aJ=>?_)
 ·have em:IntKind.i64.wrap (Int.tdiv (IntKind.i64.wrap ((lo:Int)+(hi:Int))) 2)=(((lo+hi) / 2:Nat):Int):=by
   rw [wrap_i64 (n:=(lo:Int)+(hi:Int)) (by omega) (by omega),Int.tdiv_eq_ediv_of_nonneg (by omega),wrap_i64 (by omega) (by omega)];omega
  rw [em];have lx:(lo+hi) / 2<t.length:=by omega
  obtain⟨p,hp,hc⟩:=E7 hl (by rw [nZ];exact lx);subst hp;rw [Al1] at hc;refine⟨⟨by omega,by omega⟩,_,by rw [Ak4];exact hc,?_⟩;rw [AbR,BP];refine Aa (λ lD=>?_) (λ aP=>?_)
  ·rw [Ae (by omega)];refine⟨⟨rfl,(lo+hi) / 2+1,hi,rfl,by omega,h2,λ j hj h=>?_,h4⟩,?_⟩
   ·rcases AlH j ((lo+hi) / 2) with hh | hh
    ·exact List.lt_trans (Ab4 fp hh lx) lD
    ·have:j=(lo+hi) / 2:=by omega
     subst this;exact lD
   ·simp only [Ak4];omega
  ·refine⟨⟨rfl,lo,(lo+hi) / 2,rfl,by omega,by omega,h3,λ j hj h=>?_⟩,?_⟩
   ·intro xj;rcases AlH ((lo+hi) / 2) j with hh | hh
    ·exact aP (List.lt_trans (Ab4 fp hh hj) xj)
    ·have:j=(lo+hi) / 2:=by omega
     subst this;exact aP xj
   ·simp only [Ak4];omega
 ·have:lo=hi:=by omega
  subst this;have hP:JH t (bl s) lo:=by
   refine⟨h2,λ y hy=>?_,λ y hy=>?_⟩
   ·obtain⟨j,hj,rfl⟩:=Al9.1 hy;rw [AlX] at hj;rw [List.getElem_take];exact h3 j (by omega) (by omega)
   ·obtain⟨j,hj,rfl⟩:=Al9.1 hy;rw [Alu] at hj;rw [List.getElem_drop];exact h4 _ (by omega) (by omega)
  have Bd:Below w1.heap.size w1 w1.drew:=(Below.refl _ w1).drew;unfold RR;refine Aa (λ aB=>?_) (λ cB=>?_)
  ·have fA:lo<t.length:=by omega
   obtain⟨p,hp,hc⟩:=E7 (hl.grown Bd) (by rw [nZ];exact fA);subst hp;rw [Al1] at hc;refine⟨⟨by omega,by omega⟩,_,by rw [Ak4];exact hc,lo,?_,hP,Bd⟩;rw [AZ,AlV fA];congr 4;congr 1;rw [Alz];simp only [decide_eq_true_eq,Option.some.injEq];constructor
   ·intro h;rw [<- h,BP]
   ·intro h;rw [h,EI]
  ·refine⟨lo,?_,hP,Bd⟩;rw [List.getElem?_eq_none (by omega)];simp
end
theorem JH.mem{t:List (List UInt8)}{x:List UInt8}{lo:Nat}(h:JH t x lo)(fp:t.Pairwise (·<·)):x∈t↔t[lo]?=some x:=by
 constructor
 ·intro hx;obtain⟨j,hj,rfl⟩:=Al9.1 hx;have h1:¬ j<lo:=λ aB=>List.lt_irrefl _ (h.below t[j] (List.mem_take_iff_getElem.2 ⟨j,by omega,rfl⟩));have h2:¬ lo<j:=λ aB=>by
   have h3:=Ab4 fp aB hj;have h4:t[lo]∈t.drop lo:=by rw [List.drop_eq_getElem_cons (by omega)];exact AlD ..
   exact h.Aix _ h4 h3
  have:j=lo:=by omega
  subst this;exact AlV hj
 ·intro hx;exact List.mem_of_getElem? hx
theorem JH.idx{t:List (List UInt8)}{x:List UInt8}{lo:Nat}(h:JH t x lo)(fp:t.Pairwise (·<·))(hx:x∈t):t.idxOf x=lo:=by
 have h1:=(h.mem fp).1 hx;obtain⟨aB,rfl⟩:=AkN.1 h1;exact (GP fp).idxOf_getElem lo aB
theorem ZE{l t:List (List UInt8)}{x:List UInt8}{lo:Nat}(hr:Ep l t)(h:JH t x lo)(hx:x∉t):Ep (l++[x]) (t.take lo++(x :: t.drop lo)):=by
 have jP:∀ y∈t.drop lo,x<y:=by
  intro y hy;have h1:=h.Aix y hy;have h2:y≠x:=by rintro rfl;exact hx (List.mem_of_mem_drop hy)
  rcases Decidable.em (x<y) with h3 | h3
  ·exact h3
  ·exact absurd (List.le_antisymm (List.not_lt.1 h3) (List.not_lt.1 h1)) h2
 refine⟨?_,λ y=>?_⟩
 ·have hp:=hr.up;rw [<- List.take_append_drop lo t] at hp;obtain⟨p1,p2,p3⟩:=List.pairwise_append.1 hp;refine List.pairwise_append.2 ⟨p1,List.pairwise_cons.2 ⟨jP,p2⟩,λ y hy z hz=>?_⟩;rcases AkL.1 hz with rfl | hz
  ·exact h.below y hy
  ·exact p3 y hy z hz
 ·have e:y∈t↔y∈t.take lo\/y∈t.drop lo:=by
   conv=>lhs;rw [<- List.take_append_drop lo t]
   exact AlY
  rw [AlY,AkL,AlY,AlZ,<- hr.mem y,e];constructor
  ·rintro (h | h | h)
   ·exact .inl (.inl h)
   ·exact .inr h
   ·exact .inl (.inr h)
  ·rintro ((h | h) | h)
   ·exact .inl h
   ·exact .inr (.inr h)
   ·exact .inr (.inl h)
theorem Acf{l t:List (List UInt8)}{x:List UInt8}(hr:Ep l t)(hx:x∈t):Ep (l++[x]) t:=by
 refine⟨hr.up,λ y=>?_⟩;rw [AlY,AlZ,<- hr.mem y];exact⟨λ h=>.inl h,λ h=>h.elim id (λ e=>e ▸ hx)⟩
def strs(t:List (List UInt8)):List Value:=(t.map BC).map Value.string
theorem Aaa(t:List (List UInt8)):(strs t).length=t.length:=by simp [strs]
theorem Aap(t u:List (List UInt8)):strs (t++u)=strs t++strs u:=by simp [strs]
theorem AgS(t:List (List UInt8)):∀ u∈strs t,u.oneCell'=true:=by
 intro u hu;obtain⟨s,_,rfl⟩:=AkK.1 hu;rfl
theorem tS:MN Tryz.prog ty.Cx=some (ty.string,1,16,.string ⟨#[]⟩):=by kernel_rfl
theorem EF{w:World}{a:Option Addr}{c:Nat}{t u:List (List UInt8)}(hr:Row w ty.string 1 a t.length c (strs t)){b:Option Addr}{m mc:Nat}(hm:m=u.length)(hb:Rd w b (strs u))(hl:t.length+u.length<=8796093022208){f:Value->World->Prop}
  (hf:∀ a' c' w',Row w' ty.string 1 a' (t++u).length c' (strs (t++u))->Ai (λ k=>AD a=some k) w w'->(∀ k,AD a'=some k->AD a=some k\/w.heap.size<=k)->f (.slice a' (t++u).length c') w') :
  DE Tryz.prog (Builtin.append_ #[ty.Cx,ty.Cx] ty.Cx #[.slice a t.length c,.slice b m mc]) f w:=by
 subst hm;obtain⟨a',c',w',aH,aI,hk,bE⟩:=BX (ty:=ty.Cx) (mc:=mc) tS rfl (by omega) (by omega) hr hb (m:=u.length) (by rw [Aaa];simp) (AgS u) (by omega);unfold DE;rw [aH];have hlen:(t++u).length=t.length+u.length:=by simp
 rw [<- Aap,<- hlen] at aI;rw [<- hlen];exact hf a' c' w' aI hk bE
theorem Wo{w:World}{a:Option Addr}{c:Nat}{ls:List ByteArray}(hl:Rd w a (ls.map Value.string))(hn:ls.length<=4096) :
  Calls Tryz.prog f.Yb #[.slice a ls.length c] w (AG λ v w'=>∃ a' c' t,v=.slice a' t.length c'/\Ep (ls.map bl) t/\Rd w' a' (strs t)/\Below w.heap.size w w'):=by
 apply R.OA
 delta R.Ad R.Afv R.D R.F R.I R.J R.Ks R.Lt R.N R.O R.ER R.Rs R.S R.T R.W R.X R.Y;try dsimp only [R.Ps]
 refine⟨λ s w1=>∃(k:Nat) (oa:Option Addr) (oc:Nat) (t:List (List UInt8)),s=[.slice oa t.length oc,.int .i64 (k:Int)]/\k<=ls.length/\t.length<=oc/\t.length<=4096/\Ep ((ls.take k).map bl) t/\Rd w1 oa (strs t)/\Below w.heap.size w w1,λ s _=>match s with
   | [_,.int _ i]=>ls.length-i.toNat
   | _=>0,⟨0,none,0,[],rfl,by omega,by simp,by simp,⟨List.Pairwise.nil,by simp⟩,Rd.nil _ _,.refl _ _⟩,?_⟩
 rintro oa _ oc _ w1 ⟨k,_,_,t,hs,hk,yX,zj,hr,kA,B1⟩;cases hs;refine Aa (λ aB=>⟨⟨by omega,aB⟩,?_⟩) (λ aJ=>?_)
 ·have aO:k<ls.length:=by omega
  obtain⟨p,hp,hc⟩:=E7 (hl.grown B1) aO;subst hp;refine⟨_,by rw [Ak4];exact hc,(PL kA (by omega) hr.up ls[k]).mono ?_⟩;rintro _ w2 ⟨_,rfl,lo,rfl,hP,B2⟩;have e1:(ls.take (k+1)).map bl=(ls.take k).map bl++[bl ls[k]]:=by rw [AlW aO,Alk];rfl
  have B2':Below w.heap.size w w2:=B1.trans (B2.mono B1.size);refine⟨_,_,rfl,Aa (λ aK=>?_) (λ aP=>?_)⟩
  ·rw [Ae (by omega)];refine⟨⟨k+1,oa,oc,t,rfl,by omega,yX,zj,?_,kA.grown B2,B2'⟩,?_⟩
   ·rw [e1];exact Acf hr ((hP.mem hr.up).2 aK)
   ·simp only [Ak4];omega
  ·have hx:bl ls[k]∉t:=λ h=>aP ((hP.mem hr.up).1 h);have l7:=ZE hr hP hx;rw [<- e1] at l7;have fA:=hP.le;unfold RR;have B3:Below w2.heap.size w2 w2.drew:=(Below.refl _ w2).drew;have p5:=(kA.grown B2).grown B3;refine⟨⟨by omega,by omega,by omega⟩,?_⟩;have ew:IntKind.i64.wrap ((t.length:Int)+1)=((t.length+1:Nat):Int):=Ae (by omega);rw [ew,Ak4];refine Hx tS (by omega) (by omega) λ bx w4 xk B4 R4=>⟨_,_,_,rfl,?_⟩;have sM:=p5.grown B4;have im:Rd w4 (Ck oa 0 oc 1) (strs (t.take lo)):=by
    have:=sM.OV 0 lo oc 1 (by omega);simpa [strs,List.map_take] using this
   refine EF (t:=[]) (u:=t.take lo) (by simpa [strs] using R4) (by rw [AlX];omega) im (by simp;omega) λ a5 c5 w5 R5 K5 N5=>⟨_,_,_,rfl,⟨by omega,aB⟩,?_⟩;rw [Al4] at R5 ⊢;have sz4:=B4.size;have szd:w2.drew.heap.size=w2.heap.size:=rfl;have wh:Below w2.drew.heap.size w2.drew w5:=B4.trans (K5.below B4.size λ k hk he=>by have h':bx=k:=Al8 he;omega);have N5':∀ k,AD a5=some k->w2.heap.size<=k:=λ k hk=>by
    rcases N5 k hk with h | h
    ·have h':bx=k:=Al8 h;omega
    ·omega
   have Bw5:Below w.heap.size w w5:=(B2'.trans (B3.mono B2'.size)).trans (wh.mono B2'.size);obtain⟨p',hp',dw⟩:=E7 (hl.grown Bw5) aO;cases hp';refine⟨_,by rw [Ak4];exact dw,(SH.start (λ _=>False) w5).An λ dD w6 gv B6 S6=>?_⟩;have eB:Rd w6 (some ⟨dD,0,none⟩) (strs [bl ls[k]]):=by
    have:=Rd.Ak (S6.get 0 rfl);simpa [strs,EI] using this
   refine EF (u:=[bl ls[k]]) (R5.grown B6) rfl eB (by simp;omega) λ a7 c7 w7 R7 K7 N7=>⟨_,_,_,rfl,⟨by omega,by omega,by omega⟩,?_⟩;have xD:=wh.size;have sz6:=B6.size;have sV:Below w2.drew.heap.size w2.drew w7:=(wh.trans (B6.mono xD)).trans (K7.below (Ali xD sz6) λ k hk he=>by have:=N5' k he;omega);have zF:Rd w7 (Ck oa lo oc 1) (strs (t.drop lo)):=by
    have:=(p5.grown sV).OV lo t.length oc 1 yX;rw [Ak7,Ak7] at this;have e:((strs t).drop lo).take (t.length-lo)=strs (t.drop lo):=by
     rw [AlA (by rw [Alu,Aaa];omega)];simp [strs,Alv]
    rwa [e] at this
   refine EF (u:=t.drop lo) R7 (by rw [Alu]) zF (by simp;omega) λ a8 c8 w8 R8 K8 N8=>⟨_,_,_,rfl,?_⟩;have sz7:=K7.size;have zL:Below w2.drew.heap.size w2.drew w8:=sV.trans (K8.below sV.size λ k hk he=>by
    rcases N7 k he with h | h
    ·have:=N5' k h;omega
    ·omega)
   have et:(t.take lo++[bl ls[k]])++t.drop lo=t.take lo++(bl ls[k] :: t.drop lo):=by simp
   rw [et] at R8 ⊢;rw [Ae (by omega)];refine⟨⟨k+1,a8,c8,_,rfl,by omega,R8.le,?_,l7,R8.rd,(B2'.trans (B3.mono B2'.size)).trans (zL.mono B2'.size)⟩,?_⟩
   ·have:=Hv (GP l7.up) (λ y hy=>(l7.mem y).1 hy);rw [List.length_map,AlX] at this;omega
   ·simp only [Ak4];omega
 ·have:ls.take k=ls:=AlA (by omega);rw [this] at hr;exact⟨oa,oc,t,rfl,hr,kA,B1⟩
theorem Aid(ls:List ByteArray):strs (ls.map bl)=ls.map Value.string:=by
 simp only [strs,List.map_map];apply List.map_congr_left;intro s _;simp [EI]
theorem HN(ls:List ByteArray):(ls.map bl).map BC=ls:=by
 rw [List.map_map]
 conv=>rhs;rw [<- List.map_id ls]
 apply List.map_congr_left;intro s _;simp [EI]
structure Tx(w:World)(ba ta:Option Addr)(tx:List (List UInt8)):Prop where
 rd:Rd w ta (strs tx)
 fq:∀ p,ta=some p->AD ba=some p.block->tx=[]
theorem Tx.lt{w:World}{ba ta:Option Addr}{tx:List (List UInt8)}(h:Tx w ba ta tx){p:Addr}(hp:ta=some p)(aQ:tx≠[]):p.block<w.heap.size:=by
 cases tx with
 | nil=>exact absurd rfl aQ
 | cons x r =>
  obtain⟨q,hq,hc⟩:=h.rd 0 (.string (BC x)) (by simp [strs]);rw [hp] at hq;cases hq;have:=World.block_lt_of_cell? _ _ hc;rwa [DI] at this
theorem Tx.grown{w w':World}{ba ta:Option Addr}{tx:List (List UInt8)}(h:Tx w ba ta tx)(hb:Below w.heap.size w w'):Tx w' ba ta tx:=⟨h.rd.grown hb,h.fq⟩
theorem Tx.Br{w w':World}{ba jV ta:Option Addr}{tx:List (List UInt8)}(h:Tx w ba ta tx)(K:Ai (λ k=>AD ba=some k) w w')(N:∀ k,AD jV=some k->AD ba=some k\/w.heap.size<=k):Tx w' jV ta tx:=by
 by_cases aQ:tx=[]
 ·subst aQ;exact⟨Rd.nil _ _,λ _ _ _=>rfl⟩
 ·refine⟨h.rd.keeps K λ p hp hF=>aQ (h.fq p hp hF),λ p hp hb=>?_⟩;rcases N _ hb with h1 | h1
  ·exact h.fq p hp h1
  ·have:=h.lt hp aQ;omega
theorem Tx.fresh{w w':World}{ba ta:Option Addr}{tx:List (List UInt8)}(hr:Rd w ta (strs tx))(hb:Below w.heap.size w w')(hn:∀ k,AD ba=some k->w.heap.size<=k):Tx w' ba ta tx:=by
 by_cases aQ:tx=[]
 ·subst aQ;exact⟨Rd.nil _ _,λ _ _ _=>rfl⟩
 ·refine⟨hr.grown hb,λ p hp hk=>?_⟩;have h1:=hn _ hk;have h2:=(Tx.lt (ba:=none) ⟨hr,by simp [AD]⟩ hp aQ:p.block<w.heap.size);omega
section
variable {w:World}{a:Option Addr}{c:Nat}{ls:List ByteArray}
theorem Gr(form:Int)(hl:Rd w a (ls.map Value.string))(hn:ls.length<=9223372036854775807):Calls Tryz.prog f.XI #[.int .i64 form,.slice a ls.length c] w (AG λ v w'=>Ag0 form ls w w' v):=by
 apply R.OM
 delta R.Ad R.B R.Afv R.AR R.Cb R.Ci R.Cs R.F R.H R.I R.J R.Ks R.Lt R.N R.O R.ER R.S R.T R.U R.W R.Wb R.Wu R.X R.Zss;try dsimp only [R.Ps]
 refine (Yp hl hn).mono ?_;rintro _ w ⟨_,rfl,rfl,rfl⟩;have bad:¬ E4 form ls->Ag0 form ls w w (.tuple #[.slice none 0 0,.int .i64 2]):=λ h=>.inl ⟨h,rfl,.refl _ _⟩;refine⟨_,rfl,Aa (λ h=>bad λ hk=>by have:=hk.1;omega) (λ h1=>Aa (λ h=>bad λ hk=>by have:=hk.2.1;omega) (λ h2=>Au (Aa (λ hR=>?_) (λ h=>bad λ hk=>h hk.2.2))))⟩;obtain⟨iK,cd⟩:=hR;have aK:E4 form ls:=⟨by omega,by omega,iK,cd⟩;have hz:=GN cd;rw [AE (by omega) (by omega)];refine (SH.start (λ _=>False) w).An λ b5 w2 fX B2 S2=>?_;have jm:Value.int .u8 form=Ag (Ak9 form.toNat):=by
  rcases (by omega:form=0\/form=1) with rfl | rfl <;> rfl
 have ke:Bn w w2 [Ak9 form.toNat] (some ⟨b5,0,none⟩) 1:=by
  refine⟨⟨rfl,.inr ⟨b5,_,rfl,S2.get 0 rfl,by simp,by omega,rfl,?_⟩⟩,λ k hk=>?_,B2⟩
  ·simp [jm]
  ·cases hk;exact fX
 refine⟨λ st w5=>∃(hd:List UInt8) (ba:Option Addr) (bc:Nat) (tx:List (List UInt8)) (ta:Option Addr) (tc:Nat),st=[.slice ba hd.length bc,.slice ta tx.length tc]/\Bn w w5 hd ba bc/\Tx w5 ba ta tx/\hd.length<=11/\tx.length<=4096/\(∀ s∈tx.map BC,s.size<=1024) /\
   ((form=0/\hd=[0]/\tx=ls.map bl)\/(form=1/\Ep (ls.map bl) tx/\hd=1 :: Af tx.length)),?_,?_⟩
 ·refine Ao (λ hf=>?_) (λ hf=>?_)
  ·subst hf;refine (Wo (hl.grown B2) iK).mono ?_;rintro _ w3 ⟨_,rfl,ta,tc,t,rfl,hr,kA,B3⟩;have eR:t.length<=ls.length:=by
    have:=Hv (GP hr.up) (λ x hx=>(hr.mem x).1 hx);simpa using this
   have yU:=ke.grown B3;refine⟨_,_,_,rfl,?_⟩;rw [Aj (by omega) (by omega)];refine (Bi (c:=1) [1] yU.rd t.length (by omega) (by simp)).mono ?_;rintro _ w4 ⟨_,rfl,a4,c4,rfl,h4⟩;refine⟨_,_,_,rfl,[1]++Af t.length,a4,c4,t,ta,tc,rfl,h4.before yU.Ar,.fresh kA h4.Ar h4.new,?_,by omega,?_,.inr ⟨rfl,hr,rfl⟩⟩
   ·have:=Al (n:=t.length) (by omega);simp;omega
   ·intro s hs;obtain⟨x,hx,rfl⟩:=AkK.1 hs;obtain⟨s',bU,rfl⟩:=AkK.1 ((hr.mem x).1 hx);rw [EI];exact hz s' bU
  ·have fF:form=0:=by omega
   subst fF;refine⟨[0],some ⟨b5,0,none⟩,1,ls.map bl,a,c,by simp,ke,.fresh (by rw [Aid];exact hl) B2 (λ k hk=>by cases hk;exact fX),by simp,by simpa using iK,by rw [HN];exact hz,.inl ⟨rfl,rfl,rfl⟩⟩
 rintro ba _ bc ta _ tc w5 ⟨hd,_,_,tx,_,_,aA,h5,T5,yW,htx,jX,aG⟩;cases aA;have l2:=Gi jX;have nZ:(tx.map BC).length=tx.length:=by simp
 refine⟨λ s w6=>∃(i:Nat) (l:List UInt8) (jV:Option Addr) (mR:Nat),s=[.slice jV l.length mR,.int .i64 (i:Int)]/\i<=tx.length/\l=hd++BW ((tx.map BC).take i)/\Bn w w6 l jV mR/\Tx w6 jV ta tx,λ s _=>match s with
   | [_,.int _ i]=>tx.length-i.toNat
   | _=>0,⟨0,hd,_,_,rfl,by omega,by simp [BW],h5,T5⟩,?_⟩
 rintro jV _ mR _ w6 ⟨i,l,_,_,hs,hi,jG,h6,T6⟩;cases hs;have oH:l.length<=11+4096*1034:=by
  have h1:(BW ((tx.map BC).take i)).length<=((tx.map BC).take i).length*1034:=Gi λ s hs=>jX s (Al3 hs);have h2:((tx.map BC).take i).length<=4096:=by rw [AlX];omega
  rw [jG,Ak1];omega
 refine Aa (λ aB=>⟨⟨by omega,aB⟩,?_⟩) (λ aJ=>?_)
 ·have aD:i<(tx.map BC).length:=by omega
  obtain⟨p,hp,hc⟩:=E7 (ls:=tx.map BC) T6.rd aD;have aw:=jX _ (AlI aD);subst hp;refine⟨_,by rw [Ak4];exact hc,(GA (c:=0) [] (Rd.nil _ _) (tx.map BC)[i] (by omega) (by rw [List.length_nil];omega)).mono ?_⟩;rintro _ w7 ⟨_,rfl,a7,c7,rfl,h7⟩;rw [Al4] at h7 ⊢;have eR:=QT aw;refine⟨_,_,_,_,rfl,A8 (h6.grown h7.Ar).row h7.rd (by omega) λ a8 c8 w8 R8 K8 N8=>⟨_,_,_,rfl,?_⟩⟩;rw [Ae (by omega)];refine⟨⟨i+1,_,a8,c8,rfl,by omega,?_,h6.Br h7.Ar R8 K8 N8,(T6.grown h7.Ar).Br K8 N8⟩,?_⟩
  ·rw [Vd aD,jG,List.append_assoc]
  ·simp only [Ak4];omega
 have bG:i=tx.length:=by omega
 rw [bG,<- nZ,Al0] at jG;refine Ao (λ hf=>?_) (λ hf=>?_)
 ·rcases aG with ⟨_,e1,e2⟩ | ⟨e1,_⟩
  ·subst hf;have el:l=0 :: BW ls:=by rw [jG,e1,e2,HN];rfl
   subst el;exact .inr ⟨aK,_,jV,mR,.plain,rfl,h6⟩
  ·omega
 obtain⟨gO,hr,hhd2⟩:form=1/\Ep (ls.map bl) tx/\hd=1 :: Af tx.length:=by
  rcases aG with ⟨e1,_⟩ | h
  ·exact absurd e1 hf
  ·exact h
 subst gO;refine⟨λ s w9=>∃(kk:Nat) (pa:Option Addr) (pc:Nat),s=[.slice pa kk pc,.int .i64 (kk:Int)]/\kk<=ls.length/\Row w9 ty.uint64 1 pa kk pc ((A7 tx (ls.take kk)).map ES)/\(∀ k,AD pa=some k->w6.heap.size<=k)/\Below w6.heap.size w6 w9,λ s _=>match s with
   | [_,.int _ i]=>ls.length-i.toNat
   | _=>0,⟨0,none,0,rfl,by omega,Row.nil _ _ _,by simp [AD],.refl _ _⟩,?_⟩
 rintro pa kk pc _ w9 ⟨_,_,_,hs,aO,uF,p8,B9⟩;cases hs;have Bw9:Below w.heap.size w w9:=h6.Ar.trans (B9.mono h6.Ar.size);refine Aa (λ aB=>⟨⟨by omega,aB⟩,?_⟩) (λ cB=>?_)
 ·have d':kk<ls.length:=by omega
  obtain⟨p,hp,hc⟩:=E7 (hl.grown Bw9) d';subst hp;refine⟨_,by rw [Ak4];exact hc,(PL (T6.rd.grown B9) (by omega) hr.up ls[kk]).mono ?_⟩;rintro _ bZ ⟨_,rfl,lo,rfl,hP,cA⟩;have cD:bl ls[kk]∈tx:=(hr.mem _).2 (AkK.2 ⟨_,AlI d',rfl⟩);have fA:=hP.idx hr.up cD;have hle:=hP.le;refine⟨_,_,rfl,(SH.start (λ _=>False) bZ).An λ b31 aX zl cF bF=>?_⟩;rw [Aj (by omega) (by omega)] at bF;have aW:Rd aX (some ⟨b31,0,none⟩) [ES (tx.idxOf (bl ls[kk]))]:=by
   have:=Rd.Ak (bF.get 0 rfl);rw [fA];simpa [ES] using this
  obtain⟨a5,c5,bJ,aH,aI,cl,hnw⟩:=BX (ty:=ty.HH) (mc:=1) tU rfl (by omega) (by omega) ((uF.grown cA).grown cF) aW (m:=1) rfl (by simp [ES];rfl) (by omega);unfold DE;rw [aH];refine⟨_,_,_,rfl,?_⟩;have B11':Below w6.heap.size w6 aX:=(B9.trans (cA.mono B9.size)).trans (cF.mono (Ali B9.size cA.size));rw [Ae (by omega)];refine⟨⟨kk+1,a5,c5,rfl,by omega,?_,λ k hk=>?_,B11'.trans (cl.below B11'.size λ k hk he=>by have:=p8 k he;omega)⟩,?_⟩
  ·have:A7 tx (ls.take (kk+1))=A7 tx (ls.take kk)++[tx.idxOf (bl ls[kk])]:=by
    unfold A7;rw [AlW d',Alk];rfl
   rw [this,Alk];exact aI
  ·rcases hnw k hk with h | h
   ·exact p8 k h
   ·exact Ali B11'.size h
  ·simp only [Ak4];omega
 have jh:kk=ls.length:=by omega
 subst jh;rw [Al0] at uF;have bL:(A7 tx ls).length=ls.length:=by simp [A7]
 have o9:∀ x∈A7 tx ls,x<4097:=by
  intro x hx;obtain⟨s,hs,rfl⟩:=AkK.1 hx;have:=List.idxOf_le_length (l:=tx) (a:=bl s);omega
 have pV:=uF.rd;rw [<- bL];refine (Qe pV (by omega) (λ x hx=>by have:=o9 x hx;omega)).mono ?_;rintro _ aj ⟨_,rfl,wd,rfl,gz,bO,rfl⟩;refine⟨_,rfl,(Ii pV (by omega) bO ((H0 _ _).1 gz.1)).mono ?_⟩;rintro _ an ⟨_,rfl,u9,c14,rfl,j7⟩;have l3:=BS (A7 tx ls) wd;have l4:Dv (A7 tx ls).length wd<=4096*64+7:=by
  unfold Dv;have:(A7 tx ls).length*wd<=4096*64:=AlQ (by omega) bO;omega
 refine⟨_,_,_,_,rfl,(SH.start (λ _=>False) an).An λ vd ah mG dq mW=>?_⟩;rw [AE (by omega) (by omega)] at mW;have B6:Below w6.heap.size w6 ah:=(B9.trans (j7.Ar.mono B9.size)).trans (dq.mono (Ali B9.size j7.Ar.size));have eY:=h6.grown B6;refine CN eY.row (by omega) (x:=Ak9 wd) (CA (by omega)) (mW.get 0 rfl) λ kf kV cf ln jz mf=>⟨_,_,_,rfl,?_⟩;have gM:=h6.Br B6 ln jz mf;have nB:Rd cf u9 ((A5 (A7 tx ls) wd).map Ag):=(j7.rd.grown dq).keeps jz λ p hp hF=>by
  have e1:=j7.new p.block (by rw [hp];rfl);have e2:=h6.row.lt hF;have:=B9.size;omega
 refine A8 gM.row nB (by simp;omega) λ wi uc cP tY tG u6=>⟨_,_,_,rfl,.inr ⟨aK,_,wi,uc,.table tx wd hr gz,?_,?_⟩⟩
 ·rw [jG,hhd2];simp
 ·have fU:=gM.Br (.refl _ _) tY tG u6;have el:(l++[Ak9 wd])++A5 (A7 tx ls) wd=(1 :: Af tx.length)++(BW (tx.map BC)++(Ak9 wd :: A5 (A7 tx ls) wd)):=by
   rw [jG,hhd2];simp
  rw [el] at fU;exact fU
end
theorem Jn{f:Int}{ls:List ByteArray}{w w':World}{r:Value}(h:Ag0 f ls w w' r):∃(bs:List UInt8) (a:Option Addr) (c:Nat) (e:Int),r=.tuple #[.slice a bs.length c,.int .i64 e]/\Rd w' a (bs.map Ag)/\Below w.heap.size w w'/\((E4 f ls/\F8 ls f bs/\e=0)\/(¬ E4 f ls/\bs=[]/\e=2)):=by
 rcases h with ⟨h1,rfl,hb⟩ | ⟨h1,b,a,c,h2,rfl,h3⟩
 ·exact⟨[],none,0,2,rfl,Rd.nil _ _,hb,.inr ⟨h1,rfl,rfl⟩⟩
 ·exact⟨b,a,c,0,rfl,h3.rd,h3.Ar,.inl ⟨h1,h2,rfl⟩⟩
theorem Aj8(ls:List ByteArray):E4 0 ls↔E4 1 ls:=by simp [E4]
def Aiy(ls:List ByteArray)(r:Value):Prop :=
 (¬ E4 0 ls/\r=.tuple #[.int .i64 0,.int .i64 2])\/(∃ b0 b1,F8 ls 0 b0/\F8 ls 1 b1/\E4 0 ls/\r=.tuple #[.int .i64 (if b1.length<b0.length then 1 else 0),.int .i64 0])
section
variable {w:World}{a:Option Addr}{c:Nat}{ls:List ByteArray}
theorem XS(hl:Rd w a (ls.map Value.string))(hn:ls.length<=9223372036854775807):Calls Tryz.prog f.AeO #[.slice a ls.length c] w (AG λ v w'=>Aiy ls v/\Below w.heap.size w w'):=by
 apply R.TB
 delta R.AR R.F R.H R.I R.S;try dsimp only [R.Ps]
 refine (FL 0 hl hn).mono ?_;rintro _ w1 ⟨_,rfl,h1⟩;obtain⟨b0,a0,c0,e0,rfl,_,B1,q0⟩:=Jn h1;refine⟨_,_,_,_,rfl,(FL 1 (hl.grown B1) hn).mono ?_⟩;rintro _ w2 ⟨_,rfl,h2⟩;obtain⟨b1,a1,c1,e1,rfl,_,B2,q1⟩:=Jn h2;have B:=Ac B1 B2;refine⟨_,_,_,_,rfl,?_⟩;rcases q0 with ⟨k0,i0,rfl⟩ | ⟨k0,rfl,rfl⟩
 ·rcases q1 with ⟨k1,i1,rfl⟩ | ⟨k1,_⟩
  ·refine Ah (λ h=>absurd rfl h) (λ _=>Aa (λ h=>⟨.inr ⟨b0,b1,i0,i1,k0,?_⟩,B⟩) (λ h=>⟨.inr ⟨b0,b1,i0,i1,k0,?_⟩,B⟩))
   ·rw [if_neg (by omega)]
   ·rw [if_pos (by omega)]
  ·exact absurd ((Aj8 ls).1 k0) k1
 ·exact Ah (λ _=>⟨.inl ⟨k0,rfl⟩,B⟩) (λ h=>absurd h (by decide))
theorem Abx(hl:Rd w a (ls.map Value.string))(hn:ls.length<=9223372036854775807):Calls Tryz.prog f.Ac5 #[.slice a ls.length c] w (AG λ v w'=>Aiy ls v/\Below w.heap.size w w'):=by
 apply R.QP
 delta R.AR R.F R.H R.I R.S;try dsimp only [R.Ps]
 refine (Gr 0 hl hn).mono ?_;rintro _ w1 ⟨_,rfl,h1⟩;obtain⟨b0,a0,c0,e0,rfl,_,B1,q0⟩:=Jn h1;refine⟨_,_,_,_,rfl,(Gr 1 (hl.grown B1) hn).mono ?_⟩;rintro _ w2 ⟨_,rfl,h2⟩;obtain⟨b1,a1,c1,e1,rfl,_,B2,q1⟩:=Jn h2;have B:=Ac B1 B2;refine⟨_,_,_,_,rfl,?_⟩;rcases q0 with ⟨k0,i0,rfl⟩ | ⟨k0,rfl,rfl⟩
 ·rcases q1 with ⟨k1,i1,rfl⟩ | ⟨k1,_⟩
  ·refine Ah (λ h=>absurd rfl h) (λ _=>Aa (λ h=>⟨.inr ⟨b0,b1,i0,i1,k0,?_⟩,B⟩) (λ h=>⟨.inr ⟨b0,b1,i0,i1,k0,?_⟩,B⟩))
   ·rw [if_pos (by omega)]
   ·rw [if_neg (by omega)]
  ·exact absurd ((Aj8 ls).1 k0) k1
 ·exact Ah (λ _=>⟨.inl ⟨k0,rfl⟩,B⟩) (λ h=>absurd h (by decide))
end
end Go.Proofs.YtpnaifmmggnimaaGreatDoor
namespace Go.Dn
open _root_.BitVec renaming ofInt -> AkA
set_option linter.unusedVariables false
set_option maxRecDepth 100000
def Qb(r:BitVec 32):BitVec 32:=(r >>> 1) ^^^ (2197175160#32 &&& -(r &&& 1#32))
def ED:Nat->BitVec 32->BitVec 32
 | 0,r=>r
 | n+1,r=>ED n (Qb r)
def NZ(c:UInt8):BitVec 32:=BitVec.ofNat 32 c.toNat
def AdW(r:BitVec 32)(c:UInt8):BitVec 32:=ED 8 (r ^^^ NZ c)
def CY(r:BitVec 32)(l:List UInt8):BitVec 32:=l.foldl AdW r
def crc(l:List UInt8):BitVec 32:=4294967295#32 ^^^ CY 4294967295#32 l
theorem IJ:∀(n:Nat) (r:BitVec 32),ED (n+1) r=Qb (ED n r)
 | 0,_=>rfl
 | n+1,r=>by rw [ED,IJ n,ED]
theorem AaJ(b:Bool):(-(if b then 1#32 else 0#32))=if b then 4294967295#32 else 0#32:=by cases b <;> decide
theorem and_one(r:BitVec 32):r &&& 1#32=if r.getLsbD 0 then 1#32 else 0#32:=by
 apply BitVec.eq_of_getLsbD_eq;intro i hi;by_cases h0:i=0
 ·subst h0;cases h:r.getLsbD 0
  ·simpa using h
  ·simpa using h
 ·cases h:r.getLsbD 0 <;> simp [h0]
theorem VI(r:BitVec 32):Qb r=(r >>> 1) ^^^ (if r.getLsbD 0 then 2197175160#32 else 0#32):=by
 unfold Qb;rw [and_one,AaJ];cases r.getLsbD 0 <;> simp <;> rfl
theorem Mm(r:BitVec 32)(l m:List UInt8):CY r (l++m)=CY (CY r l) m:=by simp [CY]
theorem Ae8(r:BitVec 32):(IntKind.u32.wrap (((AkA 32 (Int.fdiv (r.toNat:Int) (2 ^ (min 1 32))) ^^^ AkA 32 (IntKind.u32.wrap (((AkA 32 2197175160 &&& AkA 32 (IntKind.u32.wrap (0-(IntKind.u32.wrap (((AkA 32 (r.toNat:Int) &&& AkA 32 1).toNat:Int)))))).toNat:Int)))).toNat:Int)))=((Qb r).toNat:Int):=by
 have h1:min 1 32=1:=by decide
 rw [h1,J0,Bq,Bo,Cw,Bo,Cw,AcJ,Cw,Bo,Bo];rfl
end Go.Dn
namespace Go.Dn
def Acq(x:BitVec 32):UInt8:=UInt8.ofNat x.toNat
def UX(x:BitVec 32):List UInt8:=[Acq x,Acq (x >>> 8),Acq (x >>> 16),Acq (x >>> 24)]
theorem ZY(x:BitVec 32):IntKind.u8.wrap (x.toNat:Int)=((Acq x).toNat:Int):=by
 rw [wrap_u8];simp [Acq]
theorem Oe(x:BitVec 32)(k:Nat):IntKind.u8.wrap (Int.fdiv (x.toNat:Int) (2 ^ (min k 32)))=((Acq (x >>> (min k 32))).toNat:Int):=by
 rw [J0,ZY]
end Go.Dn
namespace Go.Proofs.YtpnaifmmggnimaaGreatDoor
open _root_.Int renaming toNat_natCast -> Ak4
open _root_.Nat renaming zero_le -> Ama
set_option maxRecDepth 100000
open Go.Dn Go.Proofs
set_option linter.unusedVariables false
theorem O8(ps:List DY)(k:Nat)(hk:k<ps.length)(r:BitVec 32) :
  CY r ((ps.take (k+1)).flatMap (·.2.2))=CY (CY r ((ps.take k).flatMap (·.2.2))) ps[k].2.2:=by
 rw [List.take_succ_eq_append_getElem hk,List.flatMap_append,Mm];simp
theorem Is(l:List UInt8)(k:Nat)(hk:k<l.length)(r:BitVec 32):CY r (l.take (k+1))=AdW (CY r (l.take k)) l[k]:=by
 rw [List.take_succ_eq_append_getElem hk,Mm];rfl
theorem Aas{w:World}{a:Option Addr}{c:Nat}(ps:List DY)(hp:Rd w a (ps.map BZ))(hb:∀ p∈ps,Rd w p.1 (p.2.2.map Ag))(hn:ps.length<9223372036854775807)(hl:∀ p∈ps,p.2.2.length<9223372036854775807) :
  Calls Tryz.prog f.AgL #[.slice a ps.length c] w (AG λ v w'=>v=.int .u32 ((crc (ps.flatMap (·.2.2))).toNat:Int)/\w'=w):=by
 apply R.Vf
 delta R.Ad R.F R.I R.Ls R.Ly R.Qvi R.V R.W R.Wv R.X;try dsimp only [R.Ps]
 refine⟨λ s w1=>match s with
   | [.int _ r,.int _ i]=>w1=w/\∃ k:Nat,i=k/\k<=ps.length/\r=((CY 4294967295#32 ((ps.take k).flatMap (·.2.2))).toNat:Int)
   | _=>False,
  λ s _=>match s with
   | [_,.int _ i]=>ps.length-i.toNat
   | _=>0,⟨rfl,0,rfl,Ama _,by simp [CY]⟩,?_⟩
 rintro r i w1 ⟨rfl,k,rfl,hk,rfl⟩;refine Aa (λ aB=>?_) (λ aJ=>?_)
 ·have aO:k<ps.length:=by omega
  refine⟨⟨by omega,by omega⟩,?_⟩;obtain⟨p,rfl,hc⟩:=hp k (BZ ps[k]) (by simp [aO]);have ag:ps[k]∈ps:=List.getElem_mem aO;have sv:=hb _ ag;have yA:=hl _ ag;have gS:=O8 ps k aO 4294967295#32;generalize hR:CY 4294967295#32 ((ps.take k).flatMap (·.2.2))=R at gS ⊢;generalize hq:ps[k]=q at sv yA gS hc;obtain⟨qa,qc,l⟩:=q;simp only at sv yA gS;refine⟨qa,l.length,qc,by simpa [BZ] using hc,?_⟩;refine⟨λ s w2=>match s with
    | [.int _ r,.int _ i]=>w2=w1/\∃ j:Nat,i=j/\j<=l.length/\r=((CY R (l.take j)).toNat:Int)
    | _=>False,
   λ s _=>match s with
    | [_,.int _ i]=>l.length-i.toNat
    | _=>0,⟨rfl,0,rfl,Ama _,by simp [CY]⟩,?_⟩
  rintro r i w2 ⟨rfl,j,rfl,hj,rfl⟩;refine Aa (λ ao=>?_) (λ cB=>?_)
  ·have fV:j<l.length:=by omega
   refine⟨⟨by omega,by omega⟩,?_⟩;obtain⟨p2,rfl,cG⟩:=sv j (Ag l[j]) (by simp [fV]);have qq:=Is l j fV R;generalize zH:CY R (l.take j)=R2 at qq ⊢;refine⟨(l[j].toNat:Int),by simpa [Ag] using cG,?_⟩;have h0:(IntKind.u32.wrap (((BitVec.ofInt 32 (R2.toNat:Int) ^^^ BitVec.ofInt 32 (IntKind.u32.wrap ((l[j].toNat:Int)))).toNat:Int)))=((R2 ^^^ NZ l[j]).toNat:Int):=by
    rw [Cw,Bo,Bq,BitVec.ofInt_natCast];rfl
   rw [h0];refine⟨λ s w3=>match s with
     | [.int _ r,.int _ i]=>w3=w2/\∃ m:Nat,i=m/\m<=8/\r=((ED m (R2 ^^^ NZ l[j])).toNat:Int)
     | _=>False,
    λ s _=>match s with
     | [_,.int _ i]=>8-i.toNat
     | _=>0,⟨rfl,0,rfl,Ama _,by simp [ED]⟩,?_⟩
   rintro r i w3 ⟨rfl,m,rfl,hm,rfl⟩;refine Aa (λ vl=>?_) (λ pj=>?_)
   ·rw [Ae8,Ae (by omega)];refine⟨⟨rfl,m+1,rfl,by omega,by rw [IJ]⟩,?_⟩;simp only [Ak4];omega
   ·have:m=8:=by omega
    subst this;rw [Ae (by omega)];refine⟨⟨rfl,j+1,rfl,by omega,by rw [qq];rfl⟩,?_⟩;simp only [Ak4];omega
  ·have:j=l.length:=by omega
   subst this;rw [Ae (by omega)];refine⟨⟨rfl,k+1,rfl,by omega,by rw [gS,List.take_length]⟩,?_⟩;simp only [Ak4];omega
 ·have:k=ps.length:=by omega
  subst this;refine⟨?_,rfl⟩;rw [List.take_length,Bo,Bq];rfl
end Go.Proofs.YtpnaifmmggnimaaGreatDoor
namespace Go.Proofs.YtpnaifmmggnimaaGreatDoor
open _root_.Int renaming toNat_natCast -> Ak4
open _root_.List renaming flatMap_cons -> Amb, take_of_length_le -> AlA, take_succ_eq_append_getElem -> AlW
set_option maxRecDepth 100000
open Go.Dn Go.Proofs
open Go.RowKit (Below)
set_option linter.unusedVariables false
abbrev AO(ls:List AB):List Value:=ls.flatMap HE
theorem HW:∀(ls:List AB) (i j:Nat) (hi:i<ls.length),j<3->(AO ls)[i*3+j]?=(HE ls[i])[j]?
 | [],i,j,hi,_=>by simp at hi
 | v :: ls,0,j,_,hj=>by
  simp only [AO,Amb,Nat.zero_mul,Nat.zero_add,List.getElem_cons_zero];rw [List.getElem?_append_left (by simpa [HE] using hj)]
 | v :: ls,i+1,j,hi,hj=>by
  simp only [AO,Amb,List.getElem_cons_succ];rw [List.getElem?_append_right (by simp [HE];omega)];have e:(i+1)*3+j-(HE v).length=i*3+j:=by simp [HE];omega
  rw [e];exact HW ls i j (by simpa using hi) hj
theorem Jl(ls:List AB):(AO ls).length=ls.length*3:=by
 induction ls with
 | nil=>rfl
 | cons v ls ih=>simp only [AO,Amb,List.length_append,List.length_cons] at ih ⊢;rw [ih];simp [HE];omega
section
variable {w:World}{a:Option Addr}{c:Nat}{ls:List AB}
theorem De(hl:Rd w a (AO ls)){i:Nat}(hi:i<ls.length):∃ p,a=some p/\w.cell? (p.add (i*3))=some (.int .i64 ls[i].1)/\w.cell? ((p.add (i*3)).add 1)=some (.int .i64 ls[i].2.1)/\w.cell? ((p.add (i*3)).add 2)=some (.string ls[i].2.2):=by
 obtain⟨p,hp,h0⟩:=hl (i*3+0) _ (by rw [HW ls i 0 hi (by omega)];rfl);obtain⟨p1,hp1,h1⟩:=hl (i*3+1) _ (by rw [HW ls i 1 hi (by omega)];rfl);obtain⟨p2,gU,h2⟩:=hl (i*3+2) _ (by rw [HW ls i 2 hi (by omega)];rfl);subst hp;cases hp1;cases gU;exact⟨p,rfl,h0,by rw [BK];exact h1,by rw [BK];exact h2⟩
def okV(kind:Int)(v:AB):Bool:=AK v && (decide (v.1=kind) || decide (v.1=0))
def DP(kind:Int)(ls:List AB):Bool:=ls.all (okV kind) && decide (1<=kind/\kind<=3/\ls.length<=1024)
theorem Abo{p:AB->Bool}{i:Nat}(hi:i<ls.length)(h:(ls.take i).all p=true)(hp:p ls[i]=true):(ls.take (i+1)).all p=true:=by
 rw [AlW hi,List.all_append,h];simp [hp]
theorem U9{kind:Int}{i:Nat}(hi:i<ls.length)(hp:okV kind ls[i]=false):DP kind ls=false:=by
 have:ls.all (okV kind)=false:=by
  rw [List.all_eq_false];exact⟨_,List.getElem_mem hi,by simp [hp]⟩
 simp [DP,this]
theorem XE{kind:Int}(aF:ls.all (okV kind)=true){w':World}(hb:Below w.heap.size w w'){k:Value->World->Prop}(hk:∀ v w',v=Value.bool (DP kind ls)->Below w.heap.size w w'->k v w') :
  IFB (decide (kind>=1)) (IFB (decide (kind<=3)) (k (Value.bool (decide ((ls.length:Int)<=1024))) w') (k (Value.bool false) w')) (k (Value.bool false) w'):=by
 have e:DP kind ls=decide (1<=kind/\kind<=3/\ls.length<=1024):=by simp [DP,aF]
 refine Aa (λ h1=>Aa (λ h2=>hk _ _ ?_ hb) (λ h2=>hk _ _ ?_ hb)) (λ h1=>hk _ _ ?_ hb)
 ·rw [e];congr 1;rw [decide_eq_decide];omega
 ·rw [e];congr 1;rw [eq_comm,decide_eq_false_iff_not];omega
 ·rw [e];congr 1;rw [eq_comm,decide_eq_false_iff_not];omega
theorem Vi(kind:Int)(hl:Rd w a (AO ls))(hn:ls.length<=9223372036854775807) :
  Calls Tryz.prog f.Aai #[.int .i64 kind,.slice a ls.length c] w (AG λ v w'=>v=.bool (DP kind ls)/\Below w.heap.size w w'):=by
 apply R.Qa
 delta R.A R.Ab R.Cb R.E R.F R.G R.I R.Li R.Lt R.N R.Qi R.Am R.T R.W R.X;try dsimp only [R.Ps]
 refine⟨λ s w1=>∃ i:Nat,i<=ls.length/\s=[.int .i64 (i:Int)]/\Below w.heap.size w w1/\(ls.take i).all (okV kind)=true,λ s _=>match s with
   | [.int _ i]=>ls.length-i.toNat
   | _=>0,⟨0,by omega,rfl,.refl _ _,rfl⟩,?_⟩
 rintro _ w1 ⟨i,hi,aA,B1,aF⟩;cases aA;refine Aa (λ aB=>⟨⟨by omega,aB⟩,?_⟩) (λ aJ=>?_)
 ·have aD:i<ls.length:=by omega
  obtain⟨p,rfl,h0,h1,h2⟩:=De (hl.grown B1) aD;refine⟨_,by rw [Ak4];exact h0,_,by rw [Ak4];exact h1,_,by rw [Ak4];exact h2,(SH.start (λ _=>False) w1).Iz λ b9 w5 rk B5 S5=>?_⟩;refine⟨_,S5.cell 0 rfl rfl,_,S5.cell 0 rfl rfl,_,S5.cell 0 rfl rfl,(Ex w5 ls[i]).mono ?_⟩;rintro _ w6 ⟨_,rfl,rfl,B6⟩;have S6:=S5.grown B6;have C6:=Ac (Ac B1 B5) B6;have bad:okV kind ls[i]=false->(Value.bool false=.bool (DP kind ls))/\Below w.heap.size w w6:=λ h=>⟨by rw [U9 aD h],C6⟩;have step:okV kind ls[i]=true->(∃ j:Nat,j<=ls.length/\[Value.int .i64 (IntKind.i64.wrap ((i:Int)+1))]=[.int .i64 (j:Int)]/\Below w.heap.size w w6/\(ls.take j).all (okV kind)=true)/\ls.length-(IntKind.i64.wrap ((i:Int)+1)).toNat<ls.length-((i:Nat):Int).toNat:=by
   intro h;rw [Ae (by omega)];refine⟨⟨i+1,by omega,rfl,C6,Abo aD aF h⟩,?_⟩;simp only [Ak4];omega
  refine⟨_,rfl,Au (Ap (λ hr=>?_) (λ hr=>bad (by simp [okV,hr])))⟩;refine⟨_,S6.cell 0 rfl rfl,Ah (λ hk=>⟨_,S6.cell 0 rfl rfl,Ah (λ hz=>bad ?_) (λ hz=>step ?_)⟩) (λ hk=>step ?_)⟩
  ·simp [okV,hk,hz]
  ·simp [okV,hr,hz]
  ·simp [okV,hr,hk]
 ·have bG:ls.take i=ls:=AlA (by omega);rw [bG] at aF;exact XE (k:=λ v w'=>v=Value.bool (DP kind ls)/\Below w.heap.size w w') aF B1 λ v w' h1 h2=>⟨h1,h2⟩
theorem Vx(kind:Int)(hl:Rd w a (AO ls))(hn:ls.length<=9223372036854775807) :
  Calls Tryz.prog f.Zv #[.int .i64 kind,.slice a ls.length c] w (AG λ v w'=>v=.bool (DP kind ls)/\Below w.heap.size w w'):=by
 apply R.PC
 delta R.Cb R.E R.F R.G R.I R.Li R.Lt R.Qi R.T R.W R.X;try dsimp only [R.Ps]
 refine⟨λ s w1=>∃ i:Nat,i<=ls.length/\s=[.int .i64 (i:Int)]/\Below w.heap.size w w1/\(ls.take i).all (okV kind)=true,λ s _=>match s with
   | [.int _ i]=>ls.length-i.toNat
   | _=>0,⟨0,by omega,rfl,.refl _ _,rfl⟩,?_⟩
 rintro _ w1 ⟨i,hi,aA,B1,aF⟩;cases aA;refine Aa (λ aB=>⟨⟨by omega,aB⟩,?_⟩) (λ aJ=>?_)
 ·have aD:i<ls.length:=by omega
  obtain⟨p,rfl,h0,h1,h2⟩:=De (hl.grown B1) aD;refine⟨_,by rw [Ak4];exact h0,_,by rw [Ak4];exact h1,_,by rw [Ak4];exact h2,(FX w1 ls[i]).mono ?_⟩;rintro _ w6 ⟨_,rfl,rfl,B6⟩;have C6:=Ac B1 B6;obtain⟨p',hp',rG,_,_⟩:=De (hl.grown C6) aD;cases hp';have bad:okV kind ls[i]=false->(Value.bool false=.bool (DP kind ls))/\Below w.heap.size w w6:=λ h=>⟨by rw [U9 aD h],C6⟩;have step:okV kind ls[i]=true->(∃ j:Nat,j<=ls.length/\[Value.int .i64 (IntKind.i64.wrap ((i:Int)+1))]=[.int .i64 (j:Int)]/\Below w.heap.size w w6/\(ls.take j).all (okV kind)=true)/\ls.length-(IntKind.i64.wrap ((i:Int)+1)).toNat<ls.length-((i:Nat):Int).toNat:=by
   intro h;rw [Ae (by omega)];refine⟨⟨i+1,by omega,rfl,C6,Abo aD aF h⟩,?_⟩;simp only [Ak4];omega
  refine⟨_,rfl,Au (Ap (λ hr=>?_) (λ hr=>bad (by simp [okV,hr])))⟩;refine⟨⟨by omega,aB⟩,_,by rw [Ak4];exact rG,Ah (λ hk=>⟨⟨by omega,aB⟩,_,by rw [Ak4];exact rG,Ah (λ hz=>bad ?_) (λ hz=>step ?_)⟩) (λ hk=>step ?_)⟩
  ·simp [okV,hk,hz]
  ·simp [okV,hr,hz]
  ·simp [okV,hr,hk]
 ·have bG:ls.take i=ls:=AlA (by omega);rw [bG] at aF;exact XE (k:=λ v w'=>v=Value.bool (DP kind ls)/\Below w.heap.size w w') aF B1 λ v w' h1 h2=>⟨h1,h2⟩
def As(ls:List AB):Nat:=ls.countP λ v=>decide (v.1=0)
def A3(ls:List AB):List Nat:=ls.map λ v=>if v.1=0 then 1 else 0
def AQ(ls:List AB):List AB:=ls.filter λ v=>!decide (v.1=0)
theorem FC{i:Nat}(hi:i<ls.length):As (ls.take (i+1))=As (ls.take i)+if ls[i].1=0 then 1 else 0:=by
 unfold As;rw [AlW hi,List.countP_append];by_cases h:ls[i].1=0 <;> simp [h]
theorem Dc(ls:List AB):As ls<=ls.length:=List.countP_le_length
theorem EH{i:Nat}(hi:i<ls.length):A3 (ls.take (i+1))=A3 (ls.take i)++[if ls[i].1=0 then 1 else 0]:=by
 unfold A3;rw [AlW hi,List.map_append];rfl
theorem CT{i:Nat}(hi:i<ls.length):AQ (ls.take (i+1))=AQ (ls.take i)++(if ls[i].1=0 then [] else [ls[i]]):=by
 unfold AQ;rw [AlW hi,List.filter_append];by_cases h:ls[i].1=0 <;> simp [h]
theorem UJ(hl:Rd w a (AO ls))(hn:ls.length<=1000000):Calls Tryz.prog f.ZF #[.slice a ls.length c] w (AG λ v w'=>w'=w/\v=.int .i64 (As ls:Int)):=by
 apply R.Qy
 delta R.F R.I R.Li R.MJ R.W R.X;try dsimp only [R.Ps]
 refine⟨λ s w1=>w1=w/\∃ i:Nat,i<=ls.length/\s=[.int .i64 (As (ls.take i):Int),.int .i64 (i:Int)],λ s _=>match s with
   | [_,.int _ i]=>ls.length-i.toNat
   | _=>0,⟨rfl,0,by omega,rfl⟩,?_⟩
 rintro _ _ w1 ⟨rfl,i,hi,aA⟩;cases aA;have hle:=Dc (ls.take i);rw [List.length_take] at hle;refine Aa (λ aB=>⟨⟨by omega,aB⟩,?_⟩) (λ aJ=>⟨rfl,?_⟩)
 ·have aD:i<ls.length:=by omega
  obtain⟨p,rfl,h0,h1,h2⟩:=De hl aD;refine⟨_,by rw [Ak4];exact h0,Ao (λ hz=>?_) (λ hz=>?_)⟩
  ·rw [Ae (by omega),Ae (by omega)];refine⟨⟨rfl,i+1,by omega,by rw [FC aD,if_pos hz]⟩,?_⟩;simp only [Ak4];omega
  ·rw [Ae (by omega)];refine⟨⟨rfl,i+1,by omega,by rw [FC aD,if_neg hz];rfl⟩,?_⟩;simp only [Ak4];omega
 ·have bG:ls.take i=ls:=AlA (by omega);rw [bG]
theorem NF:Calls Tryz.prog f.Acx #[.slice a ls.length c] w (AG λ v w'=>∃ b,v=.func (.func f.NA) #[] #[.pointer (some ⟨b,0,none⟩)]/\SH (λ _=>False) w w' [(b,#[.slice a ls.length c],ty.CE)]):=by
 apply R.Rw
 delta R.J R.N R.P R.S;try dsimp only [R.Ps]
 exact (SH.start (λ _=>False) w).An λ b1 w1 _ _ S1=>⟨b1,rfl,S1⟩
theorem U0{L b:Nat}(hn:ls.length<=1000000)(J:Nat->World->Prop)(cr:∀ k w,J k w->Rd w a (AO ls))(bp:∀ k w w',J k w->Below w.heap.size w w'->J k w')(qK:∀ k w (hk:k<ls.length),ls[k].1=0->J k w->J (k+1) w)
  (ae:∀ k w (hk:k<ls.length),ls[k].1≠0->J k w->PQ Tryz.prog L #[Th ls[k]] (λ y w'=>y=true/\J (k+1) w') w) (h0:J 0 w) (hb:w.cell? ⟨b,0,none⟩=some (.slice a ls.length c)) :
  Calls Tryz.prog f.NA #[.func (.yield L) #[] #[],.pointer (some ⟨b,0,none⟩)] w (AG λ _ w'=>J ls.length w'):=by
 apply R.Na
 delta R.A R.Ab R.E R.F R.H R.I R.Li R.Ls R.Lt R.N R.Qi R.Am R.T R.W R.X;try dsimp only [R.Ps]
 refine⟨_,_,_,hb,λ s w1=>∃ k:Nat,k<=ls.length/\s=[.int .i64 (k:Int)]/\J k w1,λ s _=>match s with
   | [.int _ i]=>ls.length-i.toNat
   | _=>0,⟨0,by omega,rfl,h0⟩,?_⟩
 rintro _ w1 ⟨k,hk,aA,hj⟩;cases aA;refine Aa (λ aB=>⟨⟨by omega,aB⟩,?_⟩) (λ aJ=>?_)
 ·have aO:k<ls.length:=by omega
  obtain⟨p,hp,c0,c1,c2⟩:=De (cr _ _ hj) aO;subst hp;refine⟨_,by rw [Ak4];exact c0,_,by rw [Ak4];exact c1,_,by rw [Ak4];exact c2,(SH.start (λ _=>False) w1).Iz λ b9 w5 rk B5 S5=>?_⟩;have rF:=bp _ _ _ hj B5;rw [Ae (by omega)];have cL:ls.length-((k+1:Nat):Int).toNat<ls.length-((k:Nat):Int).toNat:=by
   simp only [Ak4];omega
  refine⟨_,S5.cell 0 rfl rfl,Ah (λ aQ=>⟨_,S5.cell 0 rfl rfl,_,S5.cell 0 rfl rfl,_,S5.cell 0 rfl rfl,?_⟩) (λ hz=>⟨⟨k+1,by omega,rfl,qK k _ aO hz rF⟩,cL⟩)⟩;obtain⟨fn,tm,asg,bo,hy,hrr⟩:=ae k w5 aO aQ rF;refine⟨fn,tm,asg,bo,hy,hrr.mono ?_⟩;rintro e w6 ⟨y,he,rfl,rX⟩;exact⟨true,he,AV ⟨⟨k+1,by omega,rfl,rX⟩,cL⟩⟩
 ·have:k=ls.length:=by omega
  subst this;exact hj
end
end Go.Proofs.YtpnaifmmggnimaaGreatDoor
namespace Go.Dn
set_option linter.unusedVariables false
set_option maxRecDepth 100000
open Go.RowKit (Below)
open Go.Maps (has Tidy Keyed)
def XF(P:Program)(k e:TypeId)(w:World)(b n:Nat)(g:List UInt8->Bool):Prop :=
 ∃ D:DataW Unit,w.ownsMap P k (plainElem P e) b n D/\Tidy D/\∀ x,D.atKey (.string x) (.lit (.bool false))=.lit (.bool (g x))
theorem Ox{H:Type}{P:Program}{e:TypeId}(he:P.underlying e=some .bool){v:Value}{z:DataW H × List MemPlace}(h:plainElem P e v=some z):∃ a,v=.bool a/\z=(.lit (.bool a),[]):=by
 unfold plainElem at h;rw [he] at h;cases v <;> simp at h;exact⟨_,rfl,h.symm⟩
section
variable {P:Program}{k e t:TypeId}{w:World}{b n:Nat}{g:List UInt8->Bool}
theorem XF.kept(h:XF P k e w b n g){F:Nat->Prop}{w':World}(K:Ai F w w')(hn:¬ F b):XF P k e w' b n g:=by
 obtain⟨D,⟨es,clock,hb,r⟩,h2⟩:=h;exact⟨D,⟨es,clock,K.at hb hn,r⟩,h2⟩
theorem XF.put(h:XF P k e w b n g)(hk:P.underlying k=some .string)(he:P.underlying e=some .bool)(ht:P.underlying t=some (.map k e))(hn:n<maxLen){s:ByteArray}(hs:s.size<=maxLen){v:Bool}
  {f:World->Prop} (hf:∀ w',Ai (·=b) w w'->XF P k e w' b (n+1) (λ y=>if y=bl s then v else g y)->f w'):OPU P (Instr.mapUpdate t (.map (some b)) (.string s) (.bool v)) f w:=by
 obtain⟨D,hD,hT,hg⟩:=h;have fh:keyOf P k (.string s)=some (.string (bl s)):=by simp [keyOf,hk,mapKey,hs,bl]
 obtain⟨w',aH,fS,bp⟩:=hD.update (Maps.string_keyed hk) ht hn fh (plainElem_bool he v);unfold OPU;rw [aH];have aO:WideAt.IsKeyLit (.string (bl s)):=by simp [WideAt.IsKeyLit]
 refine hf w' (.of_grownBy bp) ⟨_,fS,hT.put aO _,λ x=>?_⟩;by_cases hx:x=bl s
 ·subst hx;simp only [if_true];exact Maps.atKey_put_same hT.isMap aO _ _
 ·have aQ:Lit.string x≠.string (bl s):=λ e=>hx (by injection e);simp only [hx,if_false];exact (Maps.atKey_put_other aQ _ _).trans (hg x)
theorem XF.get(h:XF P k e w b n g)(hk:P.underlying k=some .string)(he:P.underlying e=some .bool)(ht:P.underlying t=some (.map k e))(hz:(zeroValue e).run P w=.ok (.bool false) w){s:ByteArray}(hs:s.size<=maxLen)
  {f:Value->World->Prop} (hf:f (.bool (g (bl s))) w):DE P (Instr.lookup t (.map (some b)) (.string s) false) f w:=by
 obtain⟨D,hD,hT,hg⟩:=h;have fh:keyOf P k (.string s)=some (.string (bl s)):=by simp [keyOf,hk,mapKey,hs,bl]
 obtain⟨v,ps,aH,hv⟩:=hD.lookup (Maps.string_keyed hk) ht hz (plainElem_bool he false) fh;obtain⟨c,rfl,hc⟩:=Ox he hv;simp only [Prod.mk.injEq] at hc;have cU:=hc.1;rw [hg (bl s)] at cU;have:c=g (bl s):=by injection cU with h1;injection h1 with h2;exact h2.symm
 unfold DE;rw [aH,this];exact hf
end
end Go.Dn
