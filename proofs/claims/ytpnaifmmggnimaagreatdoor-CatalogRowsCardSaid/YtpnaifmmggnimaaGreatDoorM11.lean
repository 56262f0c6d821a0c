/-
  Texts of this claim, laid one behind the other by a program of mine (install.py): G.Cm1, G.Cm2, G.Cn1, G.Cn2, G.Seg19, G.Seg20, G.Seg21, G.Cn3, G.Cn4, G.Cn5, G.Cn6, G.Cn7, G.Co1, G.Co2, G.Cw3, G.Co3, G.Co4, G.Co5, G.Cm3.
-/
import Derived.Test.YtpnaifmmggnimaaGreatDoorM10
import Derived.Test.YtpnaifmmggnimaaGreatDoorM9
namespace Go.Proofs.YtpnaifmmggnimaaGreatDoor
open _root_.Int renaming fdiv -> Alj, toNat_natCast -> Ak4
open _root_.List.Sublist renaming refl -> AmN
open _root_.List renaming drop_eq_nil_of_le -> Als, drop_left -> Amk, drop_zero -> Amw, flatMap_append -> AmM, getElem?_drop -> AkS, getElem?_eq_getElem -> AlV, getElem_drop -> AmS, getElem_mem -> AlI, length -> Amp, length_append -> Ak1, length_cons -> Ak3, length_drop -> Alu, length_map -> Alh, length_nil -> Amf, length_take -> AlX, map_take -> Alw, mem_append -> AlY, mem_map -> AkK, mem_of_mem_drop -> AmR, mem_of_mem_take -> Al3, mem_singleton -> AlZ, nil_append -> Al4, range -> AlB, take_append_drop -> AmQ, take_left -> AkW, take_length -> Al0, take_of_length_le -> AlA, take_succ_eq_append_getElem -> AlW
open _root_.Nat renaming mul_one -> Ak7, sub_zero -> Amu
open _root_.Option.some renaming inj -> Al8
set_option maxRecDepth 100000
open Go.Dn Go.Proofs
open Go.RowKit (Below)
set_option linter.unusedVariables false
abbrev WN:=Option Addr × Nat × List H6
def Va(p:WN):Value:=.slice p.1 p.2.2.length p.2.1
def Fl(ps:List WN):List H6:=ps.flatMap (·.2.2)
theorem HC(ps:List WN)(k:Nat)(hk:k<ps.length):Fl (ps.take (k+1))=Fl (ps.take k)++ps[k].2.2:=by
 unfold Fl;rw [AlW hk,AmM];simp
theorem Abu(ps:List WN)(k:Nat):(Fl (ps.take k)).length<=(Fl ps).length:=by
 have e:Fl ps=Fl (ps.take k)++Fl (ps.drop k):=by unfold Fl;rw [<- AmM,AmQ]
 rw [e,Ak1];omega
theorem FG(ps qs:List H6):Bt (ps++qs)=Bt ps++Bt qs:=by simp [Bt]
theorem Aed(w:World)(n:Nat)(hn:n<=1000000):Calls Tryz.prog f.GO #[.slice none 0 0,.int .i64 (n:Int)] w
  (AG λ v w'=>∃ a c,v=.slice a 0 c/\ST w w' [E1 a c []]):=by
 apply R.Fc
 delta R.F R.I R.Rs R.S R.W R.Y;try dsimp only [R.Ps]
 have e0:IntKind.i64.wrap (((0:Nat):Int)-((0:Nat):Int))=0:=by rw [wrap_i64 (by omega) (by omega)];omega
 have e1:IntKind.i64.wrap ((n:Int)-0)=(n:Int):=by rw [wrap_i64 (by omega) (by omega)];omega
 refine Aa (λ h=>by omega) (λ _=>?_);rw [e0,e1];refine Aa (λ hp=>⟨⟨by omega,by omega,by omega⟩,?_⟩) (λ hp=>?_)
 ·obtain⟨c',w',aH,aI,hc,hb⟩:=Qo (u:=ty.int) (ty:=ty.Dg) Sk (show Tryz.prog.underlying ty.int=some (.int .i64) by kernel_rfl) rfl (by omega) (by omega) (w:=w) (m:=n) (by omega) (by omega);have hs:Ck none 0 0 2=none:=rfl;unfold DE;rw [hs];simp only [Amu,aH];refine⟨_,_,_,rfl,⟨by omega,by omega,by omega⟩,some ⟨w.heap.size,0,none⟩,c',?_,(ST.start w).add hb (E1 (some ⟨w.heap.size,0,none⟩) c' []) aI (λ k hk=>by cases hk;exact Nat.le_refl _)⟩;have:Ck (some (⟨w.heap.size,0,none⟩:Addr)) 0 c' 2=some ⟨w.heap.size,0,none⟩:=by
   unfold Ck;split
   ·rfl
   ·simp [Db]
  rw [this]
 ·have:n=0:=by omega
  subst this;exact⟨none,0,rfl,(ST.start w).nil _ _⟩
theorem Aco{w:World}{a:Option Addr}{c:Nat}(ps:List WN)(hp:Rd w a (ps.map Va))(hb:∀ p∈ps,Rd w p.1 (Bt p.2.2))(hn:ps.length<1000)(hl:(Fl ps).length<=100000) :
  Calls Tryz.prog f.F2 #[.slice a ps.length c] w (AG λ v w'=>∃ a c,v=.slice a (Fl ps).length c/\ST w w' [E1 a c (Fl ps)]):=by
 apply R.EM
 delta R.Ad R.Cs R.F R.I R.Ks R.Ls R.O R.MJ R.ER R.S R.W R.X;try dsimp only [R.Ps]
 refine⟨λ s w1=>∃ k:Nat,s=[.int .i64 ((Fl (ps.take k)).length:Int),.int .i64 k]/\k<=ps.length/\w1=w,
  λ s _=>match s with
   | [_,.int _ i]=>ps.length-i.toNat
   | _=>0,⟨0,rfl,Nat.zero_le _,rfl⟩,?_⟩
 rintro _ _ w1 ⟨k,hs,hk,rfl⟩;cases hs;refine Aa (λ aB=>⟨⟨by omega,aB⟩,?_⟩) (λ aJ=>?_)
 ·have aO:k<ps.length:=by omega
  obtain⟨p,rfl,hc⟩:=hp k (Va ps[k]) (by simp [aO]);have h1:=Abu ps (k+1);rw [HC ps k aO,Ak1] at h1;refine⟨_,_,_,by rw [Ak4,Ak7];exact hc,?_⟩;have e:IntKind.i64.wrap (((Fl (ps.take k)).length:Int)+(ps[k].2.2.length:Int))=((Fl (ps.take (k+1))).length:Int):=by
   rw [HC ps k aO,Ak1,wrap_i64 (by omega) (by omega)];omega
  rw [e];refine Aa (λ h=>by omega) (λ _=>?_);rw [Ae (by omega)];refine⟨⟨k+1,rfl,by omega,rfl⟩,?_⟩;simp only [Ak4];omega
 ·have jh:k=ps.length:=by omega
  subst jh;rw [Al0];refine (Aed w1 _ (by omega)).mono ?_;rintro _ w2 ⟨_,rfl,a2,c2,rfl,S⟩;refine⟨_,_,_,rfl,?_⟩;refine⟨λ s w3=>∃(k:Nat) (a3:Option Addr) (c3:Nat),s=[.slice a3 (Fl (ps.take k)).length c3,.int .i64 k]/\k<=ps.length/\ST w1 w3 [E1 a3 c3 (Fl (ps.take k))],
   λ s _=>match s with
    | [_,.int _ i]=>ps.length-i.toNat
    | _=>0,⟨0,a2,c2,rfl,Nat.zero_le _,S⟩,?_⟩
  clear S;rintro a3 _ c3 _ w3 ⟨k,_,_,hs,hk,S⟩;cases hs;refine Aa (λ aB=>⟨⟨by omega,aB⟩,?_⟩) (λ aJ=>?_)
  ·have aO:k<ps.length:=by omega
   obtain⟨p,rfl,hc⟩:=(hp.grown S.Ar) k (Va ps[k]) (by simp [aO]);have h1:=Abu ps (k+1);rw [HC ps k aO,Ak1] at h1;refine⟨_,_,_,by rw [Ak4,Ak7];exact hc,?_⟩;refine S.app 0 rfl Sk rfl (by omega) (by omega) ((hb _ (AlI aO)).grown S.Ar) (Ey _) (Um _) (by omega) λ a' c' w4 S=>?_;have e2:(Fl (ps.take k)).length+ps[k].2.2.length=(Fl (ps.take (k+1))).length:=by rw [HC ps k aO,Ak1]
   rw [<- FG,<- HC ps k aO] at S;rw [e2] at S ⊢;rw [Ae (by omega)];exact⟨_,_,_,rfl,⟨k+1,a',c',rfl,by omega,S⟩,by simp only [Ak4];omega⟩
  ·have jh:k=ps.length:=by omega
   subst jh;rw [Al0] at S ⊢;exact⟨a3,c3,rfl,S⟩
def Qg(ps:List H6)(ns:List ByteArray):Option Nat:=(AlB ps.length).find? λ i=>decide (((ps.drop i).take ns.length).map (·.1)=ns)
section
variable {w0 w:World}{H:List It}{a:Option Addr}{c:Nat}
theorem AcW{ps:List H6}{ns:List ByteArray}{i:Nat}:((ps.drop i).take ns.length).map (·.1)=ns↔i+ns.length<=ps.length+(if ns.length=0 then i else 0)/\∀ j (h:j<ns.length),(ps[i+j]?).map (·.1)=some ns[j]:=by
 constructor
 ·intro h;have hl:=congrArg Amp h;rw [Alh,AlX,Alu] at hl;refine⟨by split <;> omega,λ j hj=>?_⟩;have h2:=congrArg (λ l=>l[j]?) h;simp only [List.getElem?_map,List.getElem?_take,hj,if_true,AkS] at h2;rw [h2,AlV hj]
 ·rintro⟨h1,h2⟩;apply List.ext_getElem?;intro j;by_cases hj:j<ns.length
  ·simp only [List.getElem?_map,List.getElem?_take,hj,if_true,AkS];rw [h2 j hj,AlV hj]
  ·rw [List.getElem?_eq_none (by rw [Alh,AlX];omega),List.getElem?_eq_none (by omega)]
end
def Ys(ps:List H6)(ns:List ByteArray)(i:Nat):Prop:=((ps.drop i).take ns.length).map (·.1)=ns
theorem L3{ps:List H6}{ns:List ByteArray}{i:Nat}(h1:1<=ns.length):Ys ps ns i↔i+ns.length<=ps.length/\∀ j (h:j<ns.length),(ps[i+j]?).map (·.1)=some ns[j]:=by
 unfold Ys;rw [AcW,if_neg (by omega),Nat.add_zero]
theorem AcP{ps:List H6}{ns:List ByteArray}{i:Nat}(h:Ys ps ns i)(hi:i<ps.length)(aP:∀ j<i,¬ Ys ps ns j):Qg ps ns=some i:=by
 unfold Qg;rw [List.find?_range_eq_some];refine⟨decide_eq_true h,by simpa using hi,λ j hj=>?_⟩;rw [Bool.not_eq_true',decide_eq_false_iff_not];exact aP j hj
theorem AcX{ps:List H6}{ns:List ByteArray}(aP:∀ j<ps.length,¬ Ys ps ns j):Qg ps ns=none:=by
 unfold Qg;rw [List.find?_eq_none];intro j hj;rw [decide_eq_true_eq];exact aP j (by simpa using hj)
theorem OD{ps:List H6}{ns:List ByteArray}{i:Nat}(h:Qg ps ns=some i):Ys ps ns i/\i<ps.length:=by
 unfold Qg at h;rw [List.find?_range_eq_some] at h;refine⟨?_,by simpa using h.2.1⟩;have:=h.1;rw [decide_eq_true_eq] at this;exact this
def Xs(ps:List H6)(ns:List ByteArray):Int:=match Qg ps ns with
 | some i=>(i:Int)
 | none => -1
section
variable {w0 w:World}{H:List It}{na:Option Addr}{nc bc bm n cc pc:Nat}{ca pa:Option Addr}{C:Cn}{ns:List ByteArray}
theorem AhL(S:ST w0 w (Co bc ca cc pa pc bm n C++H))(jH:Rd w na (ns.map Value.string))(h1:1<=ns.length)(hn:ns.length<=1000)(hp:C.parts.length<=1000) :
  Calls Tryz.prog f.LO #[.pointer (some ⟨bc,0,none⟩),.slice na ns.length nc] w (AG λ v w'=>v=.int .i64 (Xs C.parts ns)/\w'=w):=by
 apply R.HY
 delta R.Ad R.F R.I R.Ls R.Lt R.Qi R.W R.X;try dsimp only [R.Ps]
 have lf:(∀ j<C.parts.length,¬ Ys C.parts ns j)->Value.int .i64 (-1)=.int .i64 (Xs C.parts ns):=λ h=>by rw [Xs,AcX h]
 refine⟨_,_,_,S.cell 0 rfl rfl,λ s wx=>wx=w/\∃ i:Nat,s=[.int .i64 (i:Int)]/\i<=C.parts.length/\∀ j<i,¬ Ys C.parts ns j,λ s _=>match s with
  | [.int _ i]=>C.parts.length-i.toNat
  | _=>0,⟨rfl,0,rfl,by omega,λ j hj=>by omega⟩,?_⟩
 rintro _ w1 ⟨e,i,aA,hi,aP⟩;subst e;cases aA;refine Aa (λ aB=>⟨_,_,_,S.cell 0 rfl rfl,?_⟩) (λ aJ=>⟨lf λ j hj=>aP j (by omega),rfl⟩);have ew:IntKind.i64.wrap ((C.parts.length:Int)-(i:Int))=((C.parts.length-i:Nat):Int):=by rw [wrap_i64 (by omega) (by omega)];omega
 rw [ew];refine Aa (λ hs=>⟨lf λ j hj hh=>?_,rfl⟩) (λ hs=>?_)
 ·by_cases dU:j<i
  ·exact aP j dU hh
  ·have:=((L3 h1).1 hh).1;omega
 refine⟨λ s wx=>wx=w1/\∃ j:Nat,s=[.int .i64 (j:Int)]/\j<=ns.length/\∀ t (h:t<ns.length),t<j->(C.parts[i+t]?).map (·.1)=some ns[t],λ s _=>match s with
  | [.int _ j]=>ns.length-j.toNat
  | _=>0,⟨rfl,0,rfl,by omega,λ t _ ht=>by omega⟩,?_⟩
 rintro _ w2 ⟨e,j,aA,hj,aF⟩;subst e;cases aA;refine Aa (λ ao=>?_) (λ cB=>?_)
 ·have fV:j<ns.length:=by omega
  obtain⟨p,rfl,c0⟩:=P7 jH fV;have dM:i+j<C.parts.length:=by omega
  have kR:IntKind.i64.wrap ((i:Int)+(j:Int))=((i+j:Nat):Int):=by rw [wrap_i64 (by omega) (by omega)];omega
  refine⟨⟨by omega,by omega⟩,_,by rw [Ak4];exact c0,_,_,_,S.cell 0 rfl rfl,?_⟩;rw [kR];obtain⟨q,hq,d0,_⟩:=LG (S.rd 2 rfl) dM;subst hq;refine⟨⟨by omega,by omega⟩,_,by rw [Ak4];exact d0,?_⟩;rw [AZ];refine Au (Aa (λ he=>?_) (λ he=>?_))
  ·rw [Ae (by omega)];refine⟨⟨rfl,j+1,rfl,by omega,λ t ht htj=>?_⟩,by simp only [Ak4];omega⟩;by_cases tA:t<j
   ·exact aF t ht tA
   ·obtain rfl:t=j:=by omega
    rw [AlV dM,Option.map_some,he]
  ·rw [Ae (by omega)];refine⟨⟨rfl,i+1,rfl,by omega,λ t ht hh=>?_⟩,by simp only [Ak4];omega⟩;by_cases fY:t<i
   ·exact aP t fY hh
   ·obtain rfl:t=i:=by omega
    have:=((L3 h1).1 hh).2 j fV;rw [AlV dM,Option.map_some] at this;exact he (Al8 this)
 ·have hh:Ys C.parts ns i:=(L3 h1).2 ⟨by omega,λ t ht=>aF t ht (by omega)⟩;refine⟨?_,rfl⟩;rw [Xs,AcP hh (by omega) aP]
end
structure D6(C:YM):Prop where
 np:C.parts.length<=256
 nc:C.Dt.length<=64
 rows:∀ p∈C.parts,p.2<=1024
 AM:C.AM=[]\/Aq C.AM=true
section
variable {w0 w:World}{H:List It}{b cc pc kc nc:Nat}{ca pa ka na:Option Addr}{C:YM}{ns:List ByteArray}
theorem AcA(S:ST w0 w (DZ b ca cc pa pc ka kc C++H))(hC:D6 C):Calls Tryz.prog f.OL #[.pointer (some ⟨b,0,none⟩)] w (AG λ v w'=>v=.int .i64 (A4 C.parts:Int)/\w'=w):=by
 apply R.IG
 delta R.F R.I R.Li R.Ls R.MJ R.W R.X;try dsimp only [R.Ps]
 have iZ:=hC.np;refine⟨λ s wx=>wx=w/\∃ i:Nat,s=[.int .i64 (A4 (C.parts.take i):Int),.int .i64 (i:Int)]/\i<=C.parts.length,λ s _=>match s with
  | [_,.int _ i]=>C.parts.length-i.toNat
  | _=>0,⟨rfl,0,rfl,by omega⟩,?_⟩
 rintro _ _ w1 ⟨e,i,aA,hi⟩;subst e;cases aA;refine⟨_,_,_,S.cell 0 rfl rfl,Aa (λ aB=>?_) (λ aJ=>?_)⟩
 ·have aD:i<C.parts.length:=by omega
  obtain⟨p,hp,_,e1⟩:=LG (S.rd 2 rfl) aD;subst hp;refine⟨_,_,_,S.cell 0 rfl rfl,⟨by omega,by omega⟩,_,by rw [Ak4];exact e1,?_⟩;have h1:=IZ (ps:=C.parts.take i) λ p hp=>hC.rows p (Al3 hp);have h2:=hC.rows C.parts[i] (AlI aD);rw [AlX] at h1;have e:A4 (C.parts.take (i+1))=A4 (C.parts.take i)+C.parts[i].2:=by rw [AlW aD,Gg]
  have ew:IntKind.i64.wrap ((A4 (C.parts.take i):Int)+(C.parts[i].2:Int))=(A4 (C.parts.take (i+1)):Int):=by rw [wrap_i64 (by omega) (by omega),e];omega
  rw [ew,Ae (by omega)];exact⟨⟨rfl,i+1,rfl,by omega⟩,by simp only [Ak4];omega⟩
 ·obtain rfl:i=C.parts.length:=by omega
  rw [Al0];exact⟨rfl,rfl⟩
theorem AeR(S:ST w0 w (DZ b ca cc pa pc ka kc C++H))(jH:Rd w na (ns.map Value.string))(hn:ns.length<=1000)(hC:D6 C) :
  Calls Tryz.prog f.LA #[.pointer (some ⟨b,0,none⟩),.slice na ns.length nc] w (AG λ v w'=>Below w.heap.size w w'/\∃ z:Int,v=.int .i64 z/\(z<0\/∃ i:Nat,z=(i:Int)/\i+ns.length<=C.parts.length)):=by
 apply R.HL
 delta R.Ad R.D R.F R.G R.I R.Ls R.Lt R.Qbi R.Qi R.W R.X;try dsimp only [R.Ps]
 have iZ:=hC.np;refine⟨λ s wx=>Below w.heap.size w wx/\∃ i:Nat,s=[.int .i64 (i:Int)]/\i<=C.parts.length+1,λ s _=>match s with
  | [.int _ i]=>C.parts.length+1-i.toNat
  | _=>0,⟨.refl _ _,0,rfl,by omega⟩,?_⟩
 rintro _ w1 ⟨B1,i,aA,hi⟩;cases aA;have S1:=S.grown B1;refine⟨_,_,_,S1.cell 0 rfl rfl,?_⟩;have ew:IntKind.i64.wrap ((i:Int)+(ns.length:Int))=((i+ns.length:Nat):Int):=by rw [wrap_i64 (by omega) (by omega)];omega
 rw [ew];refine Aa (λ hle=>?_) (λ nz=>⟨B1,-1,rfl,.inl (by omega)⟩);refine⟨λ s wx=>Below w.heap.size w wx/\∃(all:Bool) (k:Nat),s=[.bool all,.int .i64 (k:Int)]/\k<=ns.length,λ s _=>match s with
  | [_,.int _ k]=>ns.length-k.toNat
  | _=>0,⟨B1,true,0,rfl,by omega⟩,?_⟩
 rintro _ _ w2 ⟨B2,all,k,aA,hk⟩;cases aA;refine Aa (λ aB=>?_) (λ aJ=>Ap (λ h=>⟨B2,(i:Int),rfl,.inr ⟨i,rfl,by omega⟩⟩) (λ h=>?_))
 ·have aO:k<ns.length:=by omega
  refine (S.grown B2).draw λ w3 B3 S3=>Ap (λ h=>?_) (λ h=>?_)
  ·obtain⟨p,hp,c0⟩:=P7 (jH.grown (Ac B2 B3)) aO;subst hp;have kR:IntKind.i64.wrap ((i:Int)+(k:Int))=((i+k:Nat):Int):=by rw [wrap_i64 (by omega) (by omega)];omega
   refine⟨⟨by omega,by omega⟩,_,_,_,S3.cell 0 rfl rfl,?_⟩;rw [kR];obtain⟨q,hq,d0,_⟩:=LG (S3.rd 2 rfl) (i:=i+k) (by omega);subst hq;refine⟨⟨by omega,by omega⟩,_,by rw [Ak4];exact d0,_,by rw [Ak4];exact c0,?_⟩;rw [Ae (by omega)];exact⟨⟨Ac B2 B3,_,k+1,rfl,by omega⟩,by simp only [Ak4];omega⟩
  ·rw [Ae (by omega)];exact⟨⟨Ac B2 B3,_,k+1,rfl,by omega⟩,by simp only [Ak4];omega⟩
 ·rw [Ae (by omega)];exact⟨⟨B2,i+1,rfl,by omega⟩,by simp only [Ak4];omega⟩
theorem Af6(S:ST w0 w (DZ b ca cc pa pc ka kc C++H))(id:Int)(hC:D6 C) :
  Calls Tryz.prog f.MS #[.pointer (some ⟨b,0,none⟩),.int .i64 id] w (AG λ v w'=>Below w.heap.size w w'/\∃(i:Nat) (t:Bool),v=.tuple #[.int .i64 (i:Int),.bool t]/\i<=C.Dt.length/\(t=true->i<C.Dt.length)):=by
 apply R.H8
 delta R.D R.F R.G R.H R.I R.Li R.Ls R.Qi R.W R.X R.Zi;try dsimp only [R.Ps]
 have rB:=hC.nc;refine⟨λ st wx=>Below w.heap.size w wx/\∃ i:Nat,st=[.int .i64 (i:Int)]/\i<=C.Dt.length,⟨λ s wx=>Below w.heap.size w wx/\∃ i:Nat,s=[.int .i64 (i:Int)]/\i<=C.Dt.length,λ s _=>match s with
  | [.int _ i]=>C.Dt.length-i.toNat
  | _=>0,⟨.refl _ _,0,rfl,by omega⟩,?_⟩,?_⟩
 ·rintro _ w1 ⟨B1,i,aA,hi⟩;cases aA;have S1:=S.grown B1;refine⟨_,_,_,S1.cell 0 rfl rfl,Aa (λ aB=>?_) (λ aJ=>⟨B1,i,rfl,hi⟩)⟩;have aD:i<C.Dt.length:=by omega
  obtain⟨p,hp,e0,_⟩:=Uf (S1.rd 3 rfl) aD;subst hp;refine⟨_,_,_,S1.cell 0 rfl rfl,⟨by omega,by omega⟩,_,by rw [Ak4];exact e0,Aa (λ h=>?_) (λ h=>⟨B1,i,rfl,hi⟩)⟩;rw [Ae (by omega)];exact⟨⟨B1,i+1,rfl,by omega⟩,by simp only [Ak4];omega⟩
 rintro _ w2 ⟨B2,i,aA,hi⟩;cases aA;refine (S.grown B2).draw λ w3 B3 S3=>⟨_,_,_,S3.cell 0 rfl rfl,Aa (λ aB=>?_) (λ aJ=>⟨Ac B2 B3,i,false,rfl,hi,λ h=>by cases h⟩)⟩;have aD:i<C.Dt.length:=by omega
 obtain⟨p,hp,e0,_⟩:=Uf (S3.rd 3 rfl) aD;subst hp;exact⟨_,_,_,S3.cell 0 rfl rfl,⟨by omega,by omega⟩,_,by rw [Ak4];exact e0,Ac B2 B3,i,_,rfl,hi,λ _=>aD⟩
end
section
variable {w0 w:World}{H:List It}{a a2:Option Addr}{c c2:Nat}{l:List UInt8}{cs:List BQ}
set_option maxHeartbeats 1000000 in
theorem PB(hl:Rd w a (l.map Ag))(hc:l.length<=c)(hs:l.length<=140737488355328)(at_:Int)(cU:at_<=9223372036854775807)(al:Rd w a2 (BM cs))(hn:cs.length<=9223372036854775807)(hq:∀ c∈cs,c.1.size<=9223372036854775807) :
  Calls Tryz.prog f.UD #[.slice a l.length c,.int .i64 at_,.slice a2 cs.length c2] w (AG λ v w'=>YE (Bg l cs at_) w w' v):=by
 apply R.Mf
 delta R.A R.Ab R.Eg R.Bz R.Cb R.F R.H R.I R.J R.Ks R.Li R.Lt R.N R.O R.Ll R.S R.Am R.T R.W;try dsimp only [R.Ps]
 refine (DL al hn hq).mono ?_;rintro _ w1 ⟨_,rfl,rfl,e1⟩;subst e1;have S:=ST.start w1;have bad:∀ {wx:World} (e:Int),e≠0->Below w1.heap.size w1 wx->Bg l cs at_=none->YE (Bg l cs at_) w1 wx (.tuple #[.slice none 0 0,.int .i64 0,.int .i64 e]):=by
  intro wx e h0 B h;rw [h];exact⟨e,h0,rfl,B⟩
 refine⟨_,rfl,Au (Ap (λ hR=>?_) (λ hR=>bad 50 (by decide) S.Ar (by simp [Bg,hR])))⟩;have bM:=A6 hR;refine (AJ (c:=c) (hl.grown S.Ar) (by omega) at_ cU).mono ?_;rintro _ w2 ⟨_,rfl,rfl,rfl⟩;obtain⟨n,aL,e,hv,hk,ow,hx⟩:=Ed _ (rfl:takeN l at_=takeN l at_);rw [hv];refine⟨_,_,_,rfl,Ah (λ h=>bad 52 (by decide) S.Ar ?_) (λ h=>?_)⟩
 ·rcases hx with ⟨h2,_⟩ | ⟨_,h2⟩
  ·exact absurd h2 h
  ·simp [Bg,h2]
 have qb:takeN l at_=some (n,aL):=by
  rcases hx with ⟨_,h2⟩ | ⟨h2,_⟩
  ·exact h2
  ·exact absurd h h2
 have hT:Bg l cs at_=if n<=1024 then Dy (QN l cs) n aL else none:=by simp [Bg,hR,qb]
 refine Aa (λ h=>bad 52 (by decide) S.Ar (by rw [hT,if_neg (by omega)])) (λ hle=>?_);rw [if_pos (by omega)] at hT;rw [wrap_i64 (by omega) (by omega)];refine⟨λ s wx=>∃(i aZ:Nat) (qs:List BG) (ra:Option Addr) (rc:Nat),s=[.int .i64 (aZ:Int),.slice ra qs.length rc,.int .i64 (i:Int)]/\i<=n/\qs.length=i/\aZ<=l.length/\Dy (QN l cs) i aL=some (rws qs,aZ)/\ST w2 wx ([GI ra rc qs]++qs.map EV),λ s _=>match s with
  | [_,_,.int _ i]=>n-i.toNat
  | _=>0,⟨0,aL,[],none,0,rfl,by omega,rfl,hk,rfl,S.nil _ _⟩,?_⟩
 clear S;rintro _ ra _ rc _ w3 ⟨i,aZ,qs,_,_,aA,hi,vX,vI,aV,S⟩;cases aA;refine Aa (λ aB=>?_) (λ aJ=>?_)
 ·have jO:i<n:=by omega
  have ix:Dy (λ a=>Bj l (a:Int)) cs.length aZ=none->Bg l cs at_=none:=λ h=>by
   rw [hT];refine Gn (i:=i+1) ?_ jO;rw [Dh aV,QN,h];rfl
  refine⟨λ s wx=>∃(k bH:Nat) (cur:List AB) (va:Option Addr) (vc:Nat),s=[.int .i64 (bH:Int),.slice va cur.length vc,.int .i64 (k:Int)]/\k<=cs.length/\cur.length=k/\bH<=l.length/\Dy (λ a=>Bj l (a:Int)) k aZ=some (cur,bH) /\
    ST w2 wx (Lk va vc cur :: ([GI ra rc qs]++qs.map EV)),λ s _=>match s with
   | [_,_,.int _ k]=>cs.length-k.toNat
   | _=>0,⟨0,aZ,[],none,0,rfl,by omega,rfl,vI,rfl,S.nil _ _⟩,?_⟩
  clear S;rintro _ va _ vc _ w5 ⟨k,bH,cur,_,_,aA,ax,jA,vH,cI,S⟩;cases aA;refine Aa (λ ao=>?_) (λ cB=>?_)
  ·have aO:k<cs.length:=by omega
   refine (ID (hl.grown S.Ar) hc (by omega) (bH:Int)).mono ?_;rintro _ w6 ⟨_,rfl,rfl,B6⟩;have S:=S.grown B6;obtain⟨v,k3,e3,hv3,iF,hx3⟩:=Ji _ (rfl:Bj l (bH:Int)=Bj l (bH:Int));rw [hv3];obtain⟨v1,v2,v3⟩:=v;refine⟨_,_,_,_,_,rfl,S.An λ wb w7 _ _ S=>S.BR 0 rfl (aC:=#[.int .i64 v1,.int .i64 0,.string ⟨#[]⟩]) (by simp) rfl λ w8 S=>S.BR 0 rfl (aC:=#[.int .i64 v1,.int .i64 v2,.string ⟨#[]⟩]) (by simp) rfl λ w9 S=>S.BR 0 rfl (aC:=#[.int .i64 v1,.int .i64 v2,.string v3]) (by simp) rfl λ bZ S=>Ah (λ h=>bad 52 (by decide) S.Ar (ix ?_)) (λ h=>?_)⟩
   ·refine Gn (i:=k+1) ?_ aO;rw [Dh cI];rcases hx3 with ⟨h2,_⟩ | ⟨_,h2⟩
    ·exact absurd h2 h
    ·simp [h2]
   ·have mN:Bj l (bH:Int)=some ((v1,v2,v3),k3):=by
     rcases hx3 with ⟨_,h2⟩ | ⟨h2,_⟩
     ·exact h2
     ·exact absurd h h2
    refine⟨_,S.cell 0 rfl rfl,_,S.cell 0 rfl rfl,_,S.cell 0 rfl rfl,S.An λ hJ aX _ _ S=>?_⟩;refine YJ S 2 AiT rfl (x:=(v1,v2,v3)) (S.Gw 0 rfl) (by omega) λ a' c' bJ S=>⟨_,_,_,rfl,?_⟩;rw [Ae (by omega)];refine⟨⟨k+1,k3,cur++[(v1,v2,v3)],a',c',rfl,by omega,by simp [jA],iF,?_,S.drop 2⟩,by simp only [Ak4];omega⟩;rw [Dh cI,mN];rfl
  ·obtain rfl:k=cs.length:=by omega
   have hF:=IH (c:=c2) (c2:=vc) (al.grown S.Ar) hn hq (S.rd 0 rfl:Rd w5 va (AO cur));refine hF.mono ?_;rintro _ bZ ⟨_,rfl,rfl,cA⟩;have S:=S.grown cA;rw [hR,Bool.true_and];refine⟨_,rfl,Au (Ap (λ hf=>?_) (λ hf=>bad 52 (by decide) S.Ar ?_))⟩;rotate_left
   ·rw [hT];refine Gn (i:=i+1) ?_ jO;rw [Dh aV,QN,cI];simp [hf]
   obtain⟨p,hp⟩:∃ p:BG,p=(va,vc,cur):=⟨_,rfl⟩;have S:ST w2 bZ (EV p :: ([GI ra rc qs]++qs.map EV)):=by rw [hp];exact S
   refine S.An λ ox aj _ _ S=>?_;have jf:Rd aj (some ⟨ox,0,none⟩) [Cz p]:=by
    rw [hp];exact S.Gw 0 rfl
   refine Aha S (n:=2) rfl jf (by omega) λ a' c' bJ S=>⟨_,_,_,rfl,?_⟩;rw [Ae (by omega)];refine⟨⟨i+1,bH,qs++[p],a',c',rfl,by omega,by simp [vX],vH,?_,Xh (S.drop 1)⟩,by simp only [Ak4];omega⟩;rw [Dh aV,QN,cI,Option.bind_some,if_pos hf,hp];simp [rws]
 ·obtain rfl:i=n:=by omega
  rw [hT,aV];exact⟨_,_,qs,rfl,rfl,S⟩
end
section
variable {w:World}{a a2:Option Addr}{c c2:Nat}{cs:List BQ}{ps:List BG}
theorem Wi(l:List UInt8)(hl:Rd w a (l.map Ag))(n:Nat)(hn:n<9223372036854775807)(p:AB × AB)(h1:AK p.1=true/\BN p.1)(h2:AK p.2=true/\BN p.2)(hs:l.length+10000<=140737488355328) :
  Calls Tryz.prog f.Acw #[.slice a l.length c,.agg (zC (n:Int) p)] w (AG λ v w'=>∃ a' c',v=.slice a' (l++(Af n++CD p.1++CD p.2)).length c'/\Bn w w' (l++(Af n++CD p.1++CD p.2)) a' c'):=by
 apply R.QK
 delta R.A R.Ab R.AR R.Cs R.E R.I R.Li R.Lt R.N R.S R.T R.U R.Wu;try dsimp only [R.Ps]
 have d1:=Al (n:=n) (by omega);have d2:=HB h1.1 h1.2;have d3:=HB h2.1 h2.2;refine (ST.start w).An λ b9 w1 _ B1 S=>⟨_,S.cell 0 rfl rfl,?_⟩;rw [Aj (by omega) (by omega)];refine (Bi l (hl.grown B1) n (by omega) (by omega)).mono ?_;rintro _ w2 ⟨_,rfl,x2,y2,rfl,N2⟩;have S:=BL S N2;refine⟨_,_,_,rfl,_,S.cell 1 rfl rfl,_,S.cell 1 rfl rfl,_,S.cell 1 rfl rfl,(J6 (l++Af n) (Er S 0 rfl) p.1 h1.2 (by rw [Ak1];omega)).mono ?_⟩;rintro _ w3 ⟨_,rfl,h3⟩;obtain⟨x3,y3,rfl,N3⟩:=Jd h1.1 h3;have S:=BL S N3;refine⟨_,_,_,_,rfl,_,S.cell 2 rfl rfl,_,S.cell 2 rfl rfl,_,S.cell 2 rfl rfl,(J6 (l++Af n++CD p.1) (Er S 0 rfl) p.2 h2.2 (by simp only [Ak1];omega)).mono ?_⟩;rintro _ w4 ⟨_,rfl,h4⟩;obtain⟨x4,y4,rfl,N4⟩:=Jd h2.1 h4;have S:=BL S N4;have e:l++(Af n++CD p.1++CD p.2)=l++Af n++CD p.1++CD p.2:=by simp
 rw [e];exact⟨_,_,_,_,rfl,x4,y4,rfl,Aal S 0 rfl⟩
theorem AeQ(n:Nat):(#[Value.int .u8 (IntKind.u8.wrap (n:Int)),.int .u8 (IntKind.u8.wrap (Alj (n:Int) (2 ^ (min 8 64)))),.int .u8 (IntKind.u8.wrap (Alj (n:Int) (2 ^ (min 16 64)))),.int .u8 (IntKind.u8.wrap (Alj (n:Int) (2 ^ (min 24 64))))]:Array Value)=((Lh n).map Ag).toArray:=by
 have sh:∀ k,Alj (n:Int) (2 ^ k)=((n / 2 ^ k:Nat):Int):=λ k=>by
  rw [Int.fdiv_eq_ediv_of_nonneg _ (Int.pow_nonneg (by decide))]
  norm_cast
 have by_:∀ m:Nat,Value.int .u8 (IntKind.u8.wrap (m:Int))=Ag (UInt8.ofNat (m % 256)):=λ m=>by
  rw [wrap_u8,<- CA (x:=m % 256) (by omega)];congr 1
 rw [show min 8 64=8 from rfl,show min 16 64=16 from rfl,show min 24 64=24 from rfl,sh,sh,sh,by_,by_,by_,by_];rfl
set_option maxHeartbeats 1000000 in
theorem HV(hl:Rd w a (BM cs))(hn:cs.length<=9223372036854775807)(hq:∀ c∈cs,c.1.size<=9223372036854775807)(hr:Bb w a2 ps)(hm:ps.length<=9223372036854775807)(hv:∀ r∈rws ps,∀ v∈r,BN v) :
  Calls Tryz.prog f.AaL #[.slice a cs.length c,.slice a2 ps.length c2] w (AG λ v w'=>Afz cs (rws ps) v/\Below w.heap.size w w'):=by
 apply R.PO
 delta R.A R.Ab R.Ad R.B R.EP R.AR R.Cb R.Cs R.D R.E R.F R.H R.I R.J R.Ks R.Li R.Ls R.Lt R.Ly R.N R.O R.Qi R.ER R.Ad4 R.Rs R.Rt R.S R.Am R.T R.U R.W R.Wb R.Wu R.X;try dsimp only [R.Ps]
 have bad:∀ {wx:World} (e:Int),Below w.heap.size w wx->(D9 cs (rws ps)=e)->e≠0->Afz cs (rws ps) (.tuple #[.string ⟨#[]⟩,.int .i64 e])/\Below w.heap.size w wx:=by
  rintro wx e B rfl h0;refine⟨.inl ⟨λ hs=>h0 ?_,rfl,h0⟩,B⟩;have h1:¬ (1024<(rws ps).length\/∃ r∈rws ps,C0 cs r=false):=by
   rintro (h | ⟨r,hr,h⟩)
   ·have:=hs.len;omega
   ·rw [hs.fits r hr] at h;cases h
  have h2:¬ Aq cs=false:=by rw [hs.right];decide
  rw [D9,if_neg h2,if_neg h1]
 refine (DL hl hn hq).mono ?_;rintro _ w1 ⟨_,rfl,rfl,rfl⟩;refine⟨_,rfl,Au (Ap (λ hR=>?_) (λ hR=>bad 50 (.refl _ _) (by rw [D9,if_pos hR]) (by decide)))⟩;have gh:¬ Aq cs=false:=by rw [hR];decide
 refine Aa (λ h=>bad 51 (.refl _ _) ?_ (by decide)) (λ hlen=>?_)
 ·have:1024<(rws ps).length:=by simp only [rws,Alh];omega
  rw [D9,if_neg gh,if_pos (.inl this)]
 have bP:ps.length<=1024:=by omega
 refine⟨λ s w2=>∃ i:Nat,s=[.int .i64 (i:Int)]/\i<=ps.length/\Below w1.heap.size w1 w2/\∀ j (hj:j<ps.length),j<i->C0 cs ps[j].2.2=true,λ s _=>match s with
   | [.int _ i]=>ps.length-i.toNat
   | _=>0,⟨0,rfl,by omega,.refl _ _,λ j hj h=>by omega⟩,?_⟩
 rintro _ w2 ⟨i,aA,hi,B2,aF⟩;cases aA;refine Aa (λ aB=>⟨⟨by omega,aB⟩,?_⟩) (λ aJ=>?_)
 ·have aD:i<ps.length:=by omega
  obtain⟨q,rfl,lG,aI⟩:=(hr.grown B2).at aD;refine⟨_,_,_,by rw [Ak4];exact lG,(IH (hl.grown B2) hn hq aI).mono ?_⟩;rw [hR,Bool.true_and];rintro _ w3 ⟨_,rfl,rfl,B3⟩;have C3:=Ac B2 B3;refine⟨_,rfl,Au (Ap (λ hf=>?_) (λ hf=>bad 51 C3 ?_ (by decide)))⟩
  ·rw [Ae (by omega)];refine⟨⟨i+1,rfl,by omega,C3,λ j hj dU=>?_⟩,by simp only [Ak4];omega⟩;rcases Nat.lt_or_ge j i with h | h
   ·exact aF j hj h
   ·obtain rfl:j=i:=by omega
    exact hf
  ·rw [D9,if_neg gh,if_pos (.inr ⟨_,AkK.2 ⟨ps[i],AlI aD,rfl⟩,hf⟩)]
 have aK:Bv cs (rws ps):=by
  refine⟨hR,by simp only [rws,Alh];omega,λ r hr=>?_,hv⟩;obtain⟨p,hp,rfl⟩:=AkK.1 hr;obtain⟨j,hj,rfl⟩:=List.getElem_of_mem hp;exact aF j hj (by omega)
 clear aF aJ hi;have kI:∀ p∈ps,p.2.2.length=cs.length:=λ p hp=>aK.Ue (AkK.2 ⟨p,hp,rfl⟩);have bM:=A6 hR;have bD:=GH hR;have d1:=Al (n:=ps.length) (by omega);have S:=(ST.start w1).grown B2;refine S.An λ iR w4 wu B4 S=>ZV Air Ag4 (S.CJ 0 rfl) λ w5 K5 xu=>⟨_,_,_,rfl,?_⟩;have S:=S.IX 0 rfl (K5.mono λ k _ h=>by subst h;rfl) (Aey (some ⟨iR,0,none⟩) 4 Ch) (.inr ⟨_,rfl,rfl,Rd.Ak xu,rfl,(Array.getElem?_eq_some_iff.1 xu).1⟩) (λ k hk=>.inl hk);refine (JX (l:=[]) (a:=none) (c:=0) (Rd.nil _ _) (by simp) (hl.grown S.Ar) hn hq).mono ?_;rintro _ w6 ⟨_,rfl,h6⟩;rcases h6 with ⟨hR0,_⟩ | ⟨_,a6,c6,rfl,N6⟩
 ·exact absurd hR0 gh
 rw [Al4] at N6 ⊢;have S:=BL S N6;rw [Aj (by omega) (by omega)];refine⟨_,_,_,_,rfl,(Bi (CG cs) (Er S 0 rfl) ps.length (by omega) (by omega)).mono ?_⟩;rintro _ w7 ⟨_,rfl,a7,c7,rfl,N7⟩;have S:=BL S N7;refine⟨_,_,_,rfl,?_⟩;refine⟨λ s wx=>∃(xs:List (List UInt8)) (fa:Option Addr) (fc:Nat) (ba:Option Addr) (bc:Nat),xs.length<=cs.length/\Eu cs (rws ps) xs/\s=[.slice ba (Ch++xs.flatten).length bc,.slice fa (CG cs++Af ps.length++Cq (rws ps) xs).length fc,.int .i64 (xs.length:Int)] /\
   ST w1 wx [CP fa fc (CG cs++Af ps.length++Cq (rws ps) xs),Aey ba bc (Ch++xs.flatten)],λ s _=>match s with
   | [_,_,.int _ i]=>cs.length-i.toNat
   | _=>0,⟨[],a7,c7,some ⟨iR,0,none⟩,4,by simp,.nil _ _,?_,?_⟩,?_⟩
 ·have e1:CG cs++Af ps.length++Cq (rws ps) ([]:List (List UInt8))=CG cs++Af ps.length:=by simp [Cq]
  have e2:Ch++([]:List (List UInt8)).flatten=Ch:=by simp
  rw [e1,e2];rfl
 ·have e1:CG cs++Af ps.length++Cq (rws ps) ([]:List (List UInt8))=CG cs++Af ps.length:=by simp [Cq]
  have e2:Ch++([]:List (List UInt8)).flatten=Ch:=by simp
  rw [e1,e2];exact S.sub ((List.sublist_cons_self _ _).cons_cons _)
 clear S N6 N7;rintro _ _ _ _ _ _ _ w8 ⟨xs,fa,fc,ba,bc,lU,du,aA,S⟩;cases aA;have cj:=du.flat aK;have qA:=du.AfT aK;refine Aa (λ aB=>?_) (λ aJ=>?_)
 ·have lg:xs.length<cs.length:=by omega
  have hg:=aK.D1 lg;obtain⟨⟨z1,z2⟩,z3,z4⟩:=hg.AbL;have dp:(Bs (rws ps) xs.length).length=ps.length:=by rw [Gl];simp [rws]
  obtain⟨dN,hcolE⟩:∃ dN,dN=Bs (rws ps) xs.length:=⟨_,rfl⟩;refine (Tw (hr.grown S.Ar) (by omega) (k:=xs.length) (λ q hq=>by rw [kI q hq];exact lg)).mono ?_;rw [<- hcolE] at hg z1 z2 z3 z4 dp ⊢;rintro _ w9 ⟨_,rfl,la,lc,rfl,P⟩;have S:=S.join P;obtain⟨p,rfl,c0,c1,c2⟩:=FZ (hl.grown S.Ar) lg;refine⟨_,_,_,rfl,⟨by omega,aB⟩,_,by rw [Ak4];exact c1,(J9 (c:=lc) cs[xs.length].2.1 (AfS S 0 rfl) (by omega) hg.ok).mono ?_⟩;rintro _ bZ ⟨_,rfl,lp⟩;rcases lp with ⟨aP,_⟩ | ⟨_,x,xa,xc,hx,rfl,lp⟩
  ·rw [hg.right] at aP;cases aP
  have ct:=hx.len hg;have tb:0<x.length:=by have:=(hx.read hg).2.1;omega
  have S:=BL S lp;refine⟨_,_,_,_,rfl,(Wl (c:=lc) (AfS S 1 rfl)).mono ?_⟩;rintro _ aX ⟨_,rfl,hz,cF⟩;have S:=S.grown cF;obtain⟨zn,zp,ze,rfl,dn⟩:=hz.open;obtain⟨rfl,rfl⟩:zn=(As dN:Int)/\zp=F7 dN:=by
   rcases dn with ⟨_,h1,h2,_⟩ | ⟨h1,_⟩
   ·exact⟨h1,h2⟩
   ·exact absurd hg.GS h1
  refine⟨_,_,_,_,_,_,_,_,rfl,S.An λ vd bJ _ _ S=>S.Zl 0 rfl λ ff S=>?_⟩;refine AbX S 4 rfl (Er S 1 rfl) tb (by simp only [Ak1,Ch,Ak3,Amf];omega) λ a20 rE eo S=>⟨_,_,_,rfl,S.draw λ gp _ S=>?_⟩;refine⟨_,S.cell 0 rfl rfl,_,S.cell 0 rfl rfl,_,S.cell 0 rfl rfl,_,S.cell 0 rfl rfl,_,S.cell 0 rfl rfl,_,S.cell 0 rfl rfl,_,S.cell 0 rfl rfl,?_⟩;rw [Aj (n:=(x.length:Int)) (by omega) (by omega)];have ow:=Dc dN;have d2:=Al (n:=x.length) (by omega);have d4:=Al (n:=As dN) (by omega);refine (Bi (CG cs++Af ps.length++Cq (rws ps) xs) (Er S 3 rfl) x.length (by omega) (by simp only [Ak1];omega)).mono ?_;rintro _ iM ⟨_,rfl,a22,c22,rfl,zO⟩;have S:=BL S zO;refine⟨_,_,_,rfl,⟨S.cell 1 rfl rfl,S.cell 1 rfl rfl,S.cell 1 rfl rfl,S.cell 1 rfl rfl,S.cell 1 rfl rfl,S.cell 1 rfl rfl,S.cell 1 rfl rfl⟩,?_⟩;refine (Wi (CG cs++Af ps.length++Cq (rws ps) xs++Af x.length) (Er S 0 rfl) (As dN) (by omega) (F7 dN) ⟨z1,z2⟩ ⟨z3,z4⟩ (by simp only [Ak1];omega)).mono ?_
  rintro _ gW ⟨_,rfl,a23,xJ,rfl,yj⟩;have S:=BL S yj;have ef:CG cs++Af ps.length++Cq (rws ps) xs++Af x.length++(Af (As dN)++CD (F7 dN).1++CD (F7 dN).2)=CG cs++Af ps.length++Cq (rws ps) (xs++[x]):=by
   rw [Su,<- hcolE];simp [Kf]
  have eb:Ch++xs.flatten++x=Ch++(xs++[x]).flatten:=by simp
  have el:xs.length+1=(xs++[x]).length:=by simp
  rw [ef,eb] at S;rw [Ae (by omega),ef,eb,el];refine⟨_,_,_,rfl,⟨xs++[x],a23,xJ,a20,rE,by rw [<- el];omega,du.snoc lg (by rw [<- hcolE];exact hx),rfl,?_⟩,by rw [<- el];simp only [Ak4];omega⟩;have S2:ST w1 gW [CP a23 xJ (CG cs++Af ps.length++Cq (rws ps) (xs++[x])),CP a20 rE (Ch++(xs++[x]).flatten)]:=S.sub ((((AmN _).cons _).cons _).cons _ |>.cons _ |>.cons _ |>.cons_cons _);exact AdD S2 1 rfl
 ·have ct:xs.length=cs.length:=by omega
  have vp:=du.TU aK;have bL:=du.Aca aK;have rY:CG cs++Af ps.length++Cq (rws ps) xs=DQ cs (rws ps) xs:=by
   unfold DQ;rw [show (rws ps).length=ps.length by simp [rws]]
  rw [rY] at S ⊢;obtain⟨ft,bR⟩:∃ ft,ft=DQ cs (rws ps) xs:=⟨_,rfl⟩;have wY:0<ft.length:=by
   rw [bR,<- rY];have:0<(CG cs).length:=by
    unfold CG;rw [Ak1];have:=List.length_pos_iff.2 (Io cs.length);omega
   simp only [Ak1];omega
  rw [<- bR] at S vp ⊢;obtain⟨bb,kF⟩:∃ bb,bb=Ch++xs.flatten:=⟨_,rfl⟩;rw [<- kF] at S ⊢;have zM:bb.length<=33000004:=by rw [kF];simp only [Ak1,Ch,Ak3,Amf];omega
  refine AbX S 1 rfl (Er S 0 rfl) wY (by omega) λ a24 oe fJ S=>⟨_,_,_,rfl,?_⟩;rw [AeQ];refine S.An λ b55 gG _ _ S=>?_;have mE:Rd gG (some ⟨b55,0,none⟩) ((Lh ft.length).map Ag):=S.Gw 0 rfl;refine Yt S 2 rfl (m:=Lh ft.length) (k:=4) rfl mE (by simp only [Ak1,Lh,Ak3,Amf];omega) λ a26 xy jl S=>⟨_,_,_,rfl,?_⟩;have nD:bb++ft++Lh ft.length=KC cs (rws ps) xs:=by rw [kF,bR];rfl
  rw [nD] at S ⊢;obtain⟨pre,cZ⟩:∃ pre,pre=KC cs (rws ps) xs:=⟨_,rfl⟩;rw [<- cZ] at S bL ⊢;have uw:=(S.get 2 rfl:Row jl _ _ _ _ _ _).le;refine (JM pre (Er S 2 rfl) uw (by omega)).mono ?_;rintro _ kN ⟨_,rfl,rfl,oE⟩;have S:=S.grown oE;have bj:(Iw pre).length=32:=FK _;obtain⟨dg,hdg⟩:∃ dg,dg=Iw pre:=⟨_,rfl⟩;rw [<- hdg] at bj ⊢;have jS:(dg.map Ag).length=32:=by rw [Alh];exact bj
  refine I6 dg bj ⟨rfl,S.An λ tN nE _ _ S=>Ds jS (S.En 0 rfl jS (Ge _) λ kD S=>?_)⟩;have S2:ST w1 kD [It.cells tN ⟨dg.map Ag⟩ 142,CP a26 xy pre]:=S.sub (((AmN _).cons _).cons _ |>.cons_cons _);refine⟨λ s wx=>∃(j:Nat) (xa:Option Addr) (xc:Nat),s=[.slice xa (pre++dg.take j).length xc,.int .i64 (j:Int)]/\j<=32/\ST w1 wx [It.cells tN ⟨dg.map Ag⟩ 142,CP xa xc (pre++dg.take j)],λ s _=>match s with
   | [_,.int _ i]=>32-i.toNat
   | _=>0,⟨0,a26,xy,by simp,by omega,by simpa using S2⟩,?_⟩
  clear S S2;rintro _ _ _ _ eA ⟨j,xa,xc,aA,hj,S⟩;cases aA;refine Aa (λ ao=>⟨⟨by omega,ao⟩,?_⟩) (λ cB=>?_)
  ·have fV:j<dg.length:=by omega
   have aE:eA.cell? ((⟨tN,0,none⟩:Addr).add ((j:Int).toNat*1))=some (.int .u8 (dg[j].toNat:Int)):=by
    rw [Ak4,Ax,Nat.zero_add,Ak7];refine S.cell 0 rfl ?_;simp [fV,Ag]
   refine⟨_,aE,S.An λ b67 cQ _ _ S=>?_⟩;have aW:Rd cQ (some ⟨b67,0,none⟩) ([dg[j]].map Ag):=S.Gw 0 rfl;refine Yt S 2 rfl (m:=[dg[j]]) (k:=1) rfl aW (by simp only [Ak1,AlX,Ak3,Amf];omega) λ a33 s4 iQ S=>⟨_,_,_,rfl,?_⟩;have ej:pre++dg.take j++[dg[j]]=pre++dg.take (j+1):=by rw [AlW fV,List.append_assoc]
   rw [ej] at S;rw [Ae (by omega),ej];exact⟨⟨j+1,a33,s4,rfl,by omega,S.drop 1⟩,by simp only [Ak4];omega⟩
  ·obtain rfl:j=32:=by omega
   rw [AlA (by omega)] at S ⊢;refine Aw CB rfl (Er S 1 rfl) ⟨_,rfl,.inr ⟨aK,_,rfl,⟨xs,ct,du,?_⟩⟩,S.Ar⟩;rw [Me,hdg,cZ]
end
theorem Sv{l:List UInt8}:∀(n at_:Nat) {r:List BQ × Nat},Ba l at_ n=some r->at_<=l.length->r.2<=l.length
 | 0,at_,r,h,h0=>by simp only [Ba,Option.some.injEq] at h;subst h;exact h0
 | n+1,at_,r,h,h0=>by
  unfold Ba at h;cases hx:BD l (at_:Int) 24 with
  | none=>rw [hx] at h;cases h
  | some x =>
   rw [hx] at h;simp only at h;split at h
   ·cases h
   ·rename_i aP;obtain⟨y,hy,rfl⟩:=Option.map_eq_some_iff.1 h;have:=Sv n (x.2+2) hy (by omega);exact this
theorem Ack{l:List UInt8}{at_:Int}{r:List BQ × Nat}(h:Bk l at_=some r):r.2<=l.length:=by
 unfold Bk at h;split at h
 ·cases h
 ·rename_i x hx;obtain⟨_,_,_,hb,_⟩:=Az hx;split at h
  ·cases h
  ·split at h
   ·cases h
   ·rename_i y hy;split at h
    ·cases h;exact Sv _ _ hy hb
    ·cases h
theorem AeN(AM:List (List AB))(l:List AB)(q:Nat):rowAt (AM++[l]) q=rowAt AM q++[l.getD q Z0]:=by simp [rowAt]
def RdV(b:List UInt8)(w w':World)(v:Value):Prop :=
 Below w.heap.size w w'/\((∃ cs AM ps ca cc bo n,v=.tuple #[.slice ca cs.length cc,.slice (some ⟨bo,0,none⟩) n n,.bool true]/\Rd w' ca (BM cs)/\Bb w' (some ⟨bo,0,none⟩) ps/\ps.length=n/\n<=1024/\Aq cs=true/\rws ps=rowsOf AM n /\
   (∀ dN∈AM,dN.length=n/\∃ k,Bc k dN)/\(∀ aC rows' gA,Et aC rows' gA b->cs=aC/\n=rows'.length/\AM=(AlB aC.length).map (Bs rows'))/\ST w w' (Fp bo ps)) \/
  (v=.tuple #[.slice none 0 0,.slice none 0 0,.bool false]/\∀ aC rows' gA,¬ Et aC rows' gA b))
theorem Afb{xs:List (List UInt8)}{i:Nat}(hi:i<xs.length):(xs.take (i+1)).flatten=(xs.take i).flatten++xs[i]:=by
 rw [AlW hi,List.flatten_append];simp
section
variable {w:World}{a:Option Addr}{c:Nat}{b:List UInt8}
set_option maxHeartbeats 1000000 in
theorem VV(s:ByteArray)(hb:b=(bl s).take (s.size-32))(ov:40<=s.size)(hs:s.size<=140737488355328) :
  Calls Tryz.prog f.AcU #[.string s] w (AG λ v w'=>RdV b w w' v):=by
 apply R.QS
 delta R.Ad R.WV R.Adt R.Ir R.D R.F R.G R.H R.I R.J R.Ks R.Li R.Ls R.Lt R.Ly R.N R.O R.Qi R.MJ R.Rs R.S R.Am R.T R.W R.X R.Y;try dsimp only [R.Ps]
 have bD:=A9 s;have au:b.length=s.size-32:=by rw [hb,AlX];omega
 have eW:IntKind.i64.wrap ((s.size:Int)-32)=(b.length:Int):=by rw [wrap_i64 (by omega) (by omega)];omega
 rw [eW,Ak4];have eX:s.extract 0 b.length=BC b:=by rw [extract_eq,Amw,Amu,au,<- hb]
 rw [eX];refine⟨⟨by omega,by omega,by omega⟩,CF CB (BC b) w λ b0 c0 cells e0 w1 bh B1 jW al iY dA=>?_⟩;rw [AY] at iY dA ⊢;rw [BP] at dA;have dP:Rd w1 (some ⟨b0,0,none⟩) (b.map Ag):=by
  have:=(Rd.Ak jW).take b.length;rw [dA] at this;exact this
 refine⟨_,_,_,rfl,?_⟩;obtain⟨t,ht⟩:∃ t,t=b.drop (b.length-4):=⟨_,rfl⟩;have eR:t.length=4:=by rw [ht,Alu];omega
 refine⟨λ st w2=>∃ k:Nat,st=[.int .i64 (Lj t k:Int),.int .i64 ((k+1:Nat):Int)]/\k<=4/\w1=w2,λ st _=>match st with
   | [_,.int _ i]=>5-i.toNat
   | _=>0,⟨0,by simp [Lj],by omega,rfl⟩,?_⟩
 rintro _ _ w2 ⟨k,aA,hk,rfl⟩;cases aA;refine Aa (λ aB=>?_) (λ aJ=>?_)
 ·have mQ:k<t.length:=by omega
  have h1:=Pc (l:=t) k (by omega);have h2:256 ^ k<=256 ^ 3:=Nat.pow_le_pow_right (by omega) (by omega);have h3:(256:Nat) ^ 3=16777216:=by decide
  have hbi:b.length-(k+1)<b.length:=by omega
  have eI:IntKind.i64.wrap ((b.length:Int)-((k+1:Nat):Int))=((b.length-(k+1):Nat):Int):=by rw [wrap_i64 (by omega) (by omega)];omega
  rw [eI,Ak4];obtain⟨p,hp,aE⟩:=byte_at dP hbi;cases hp;refine⟨⟨by omega,by omega⟩,_,aE,?_⟩;have oZ:t[t.length-1-k]'(by omega)=b[b.length-(k+1)]:=by
   simp only [ht,AmS,Alu];congr 1;omega
  have ao:=(b[b.length-(k+1)]).toNat_lt;have ea:IntKind.i64.wrap (IntKind.i64.wrap (256*(Lj t k:Int))+IntKind.i64.wrap ((b[b.length-(k+1)]).toNat:Int))=(Lj t (k+1):Int):=by
   rw [Sa mQ,oZ,wrap_i64 (n:=256*(Lj t k:Int)) (by omega) (by omega),wrap_i64 (n:=((b[b.length-(k+1)]).toNat:Int)) (by omega) (by omega),wrap_i64 (by omega) (by omega)];omega
  have eb:IntKind.i64.wrap (((k+1:Nat):Int)+1)=((k+1+1:Nat):Int):=Ae (by omega);rw [ea,eb];exact⟨⟨k+1,rfl,by omega,rfl⟩,by simp only [Ak4];omega⟩
 obtain rfl:k=4:=by omega
 obtain⟨n,hn⟩:∃ n,n=Lj t 4:=⟨_,rfl⟩;have u7:n<4294967296:=by rw [hn];exact Pc (l:=t) 4 (by omega)
 have nW:∀ cs rows xs,Et cs rows xs b->n=(DQ cs rows xs).length:=λ cs rows xs h=>by rw [hn,ht];exact h.split.2.1
 rw [<- hn];have yp:IntKind.i64.wrap ((b.length:Int)-4)=((b.length-4:Nat):Int):=by rw [wrap_i64 (by omega) (by omega)];omega
 rw [yp];simp only [Ak4,Amu];refine⟨⟨by omega,by omega,by omega⟩,?_⟩;have pP:IntKind.i64.wrap (((b.length-4:Nat):Int)-4)=((b.length-8:Nat):Int):=by rw [wrap_i64 (by omega) (by omega)];omega
 have S:=ST.start w1;have bad:∀ {wx:World},Below w.heap.size w wx->(∀ aC rows' gA,¬ Et aC rows' gA b)->RdV b w wx (.tuple #[.slice none 0 0,.slice none 0 0,.bool false]):=λ B h=>⟨B,.inr ⟨rfl,h⟩⟩;refine Aa (λ h=>bad (Ac B1 S.Ar) λ cs rows xs hP=>?_) (λ hle=>?_)
 ·have:=hP.split.2.2.1;have:=nW cs rows xs hP;rw [pP] at h;omega
 rw [pP] at hle;have mj:n<=b.length-8:=by omega
 have r7:IntKind.i64.wrap (((b.length-4:Nat):Int)-(n:Int))=((b.length-4-n:Nat):Int):=by rw [wrap_i64 (by omega) (by omega)];omega
 simp only [r7,Ak4];refine⟨⟨by omega,by omega,by omega⟩,?_⟩;obtain⟨iC,_⟩:=SI (c:=c0) dP iY (by omega) mj;obtain⟨ft,bR⟩:∃ ft,ft=(b.take (b.length-4)).drop (b.length-4-n):=⟨_,rfl⟩;obtain⟨bd,gP⟩:∃ bd,bd=(b.take (b.length-4-n)).drop 4:=⟨_,rfl⟩;rw [<- bR] at iC;obtain⟨fa,hfa⟩:∃ fa,fa=Ck (Ck (some ⟨b0,0,none⟩) 0 c0 1) (b.length-4-n) c0 1:=⟨_,rfl⟩;rw [<- hfa] at iC ⊢;have kX:ft.length=b.length-4-(b.length-4-n):=by rw [bR,Alu,AlX];omega
 have pq:bd.length=b.length-4-n-4:=by rw [gP,Alu,AlX];omega
 rw [<- kX];have cO:∀ cs rows xs,Et cs rows xs b->ft=DQ cs rows xs/\bd=xs.flatten:=λ cs rows xs hP=>by
  have e:=nW cs rows xs hP;have:=hP.split.2.2.2;rw [<- e] at this;exact⟨by rw [bR];exact this.1,by rw [gP];exact this.2⟩
 have hT:=IC (c:=c0-(b.length-4-n)) iC (by omega) (by omega) 0 (by omega);refine hT.mono ?_;rintro _ bZ ⟨_,rfl,hT⟩;obtain⟨cs,ca,cc,aL,e,rfl,S,bM,al⟩:=hT.open S (λ r h=>DA h);refine⟨_,_,_,_,_,rfl,Ah (λ h=>bad (Ac B1 S.Ar) λ aC rows xs hP=>?_) (λ he=>?_)⟩
 ·have h2:=Je (xs:=xs) hP.ok;rw [<- (cO aC rows xs hP).1] at h2;rcases al with ⟨h3,_⟩ | ⟨_,h3⟩
  ·exact h h3
  ·rw [h2] at h3;cases h3
 have gC:Bk ft 0=some (cs,aL)/\Aq cs=true:=by
  rcases al with ⟨_,h3⟩ | ⟨h3,_⟩
  ·exact h3
  ·exact absurd he h3
 have me:aL<=ft.length:=Ack gC.1;refine (Vn (c:=c0-(b.length-4-n)) (iC.grown S.Ar) (by omega) (by omega) (aL:Int) (by omega) cs.length (by omega)).mono ?_;rintro _ aX ⟨_,rfl,sA⟩;obtain⟨r,ns,na,nc,ok,rfl,S,jH⟩:=sA.open S;refine⟨_,_,_,_,_,rfl,Au (Ap (λ aK=>?_) (λ aK=>bad (Ac B1 S.Ar) λ aC rows xs hP=>?_))⟩;rotate_left
 ·have h2:=Je (xs:=xs) hP.ok;rw [<- (cO aC rows xs hP).1,gC.1] at h2;have h4:=Al8 h2;obtain rfl:cs=aC:=congrArg Prod.fst h4;obtain rfl:aL=(CG cs).length:=congrArg Prod.snd h4;have h5:=TT (lim:=100000000) (by omega) hP.ok hP.chs hP.len;rw [<- (cO cs rows xs hP).1] at h5;rcases jH with ⟨h6,_⟩ | ⟨_,h6⟩
  ·rw [aK] at h6;cases h6
  ·rw [h5] at h6;cases h6
 have jE:Eo 100000000 ft (aL:Int) cs.length=some (r,ns):=by
  rcases jH with ⟨_,h6⟩ | ⟨h6,_⟩
  ·exact h6
  ·rw [aK] at h6;cases h6
 obtain⟨bn,fH⟩:=U1 jE;simp only at bn fH;have key:∀ aC rows xs,Et aC rows xs b->cs=aC/\r=rows.length/\ns=xs.map Amp/\bd=xs.flatten:=λ aC rows xs hP=>by
  have h2:=Je (xs:=xs) hP.ok;rw [<- (cO aC rows xs hP).1,gC.1] at h2;have h4:=Al8 h2;obtain rfl:cs=aC:=congrArg Prod.fst h4;obtain rfl:aL=(CG cs).length:=congrArg Prod.snd h4;have h5:=TT (lim:=100000000) (by omega) hP.ok hP.chs hP.len;rw [<- (cO cs rows xs hP).1,jE] at h5;have h6:=Al8 h5;exact⟨rfl,congrArg Prod.fst h6,congrArg Prod.snd h6,(cO cs rows xs hP).2⟩
 refine Ea Adg (l:=(r:Int)) (c:=(r:Int)) (by omega) (by omega) (by omega) (by omega) λ bo bJ fN ig fP=>?_;rw [Ak4] at fP ⊢;have S:=WC S r fN ig fP;have S:ST w1 bJ ([Iq na nc ns,CK ca cc cs]++Fp bo (List.replicate r (none,0,[]))):=S.perm List.perm_append_comm;let Inv:List Value->World->Prop:=λ st wx=>∃(i from_:Nat) (AM:List (List AB)) (ps:List BG),st=[.int .i64 (from_:Int),.int .i64 (i:Int)]/\i<=cs.length/\AM.length=i/\4<=from_/\from_<=b.length-4-n/\ps.length=r /\
  (∀ dN∈AM,dN.length=r/\∃ k,Bc k dN)/\(∀ q (hq:q<ps.length),ps[q].2.2=rowAt AM q)/\(∀ aC rows xs,Et aC rows xs b->from_=4+(xs.take i).flatten.length/\AM=(AlB i).map (Bs rows)) /\
  ST w1 wx ([Iq na nc ns,CK ca cc cs]++Fp bo ps)
 let Mu:List Value->World->Nat:=λ st _=>match st with
   | [_,.int _ i]=>cs.length-i.toNat
   | _=>0
 refine⟨_,_,_,rfl,Inv,Mu,⟨0,4,[],_,rfl,by omega,rfl,by omega,by omega,List.length_replicate,by simp,λ q hq=>by simp [rowAt],λ aC rows xs hP=>⟨by simp,by simp⟩,S⟩,?_⟩;clear S;rintro _ _ aj ⟨i,from_,AM,ps,aA,hi,lP,hf4,zD,bL,cW,aI,aV,S⟩;cases aA;refine Aa (λ aB=>⟨⟨by omega,by omega⟩,?_⟩) (λ aJ=>?_)
 ·have aD:i<ns.length:=by omega
  have hN:Rd aj na (ns.map λ n:Nat=>Value.int .i64 (n:Int)):=S.rd 0 rfl;obtain⟨pn,rfl,lJ⟩:=AcO hN aD;have dF:∀ aC rows xs,Et aC rows xs b->∃ hx:i<xs.length,ns[i]=xs[i].length/\bd.drop (from_-4)=xs[i]++(xs.drop (i+1)).flatten:=λ aC rows xs hP=>by
   obtain⟨_,_,h1,h2⟩:=key aC rows xs hP;have hx:i<xs.length:=by rw [h1,Alh] at aD;exact aD
   refine⟨hx,by simp [h1],?_⟩;have h3:=(aV aC rows xs hP).1;rw [h2,<- Qq hx];have h4:xs.flatten=(xs.take i).flatten++(xs.drop i).flatten:=by rw [<- List.flatten_append,AmQ]
   rw [h4,h3,Nat.add_sub_cancel_left,Amk]
  have eF:IntKind.i64.wrap (((b.length-4-n:Nat):Int)-(from_:Int))=((b.length-4-n-from_:Nat):Int):=by rw [wrap_i64 (by omega) (by omega)];omega
  rw [eF];refine⟨_,by rw [Ak4];exact lJ,Aa (λ h=>bad (Ac B1 S.Ar) λ aC rows xs hP=>?_) (λ cY=>?_)⟩
  ·obtain⟨hx,h1,h2⟩:=dF aC rows xs hP;have:=congrArg Amp h2;rw [Ak1,Alu] at this;omega
  have qR:from_+ns[i]<=b.length-4-n:=by omega
  have eG:IntKind.i64.wrap ((from_:Int)+(ns[i]:Int))=((from_+ns[i]:Nat):Int):=by rw [wrap_i64 (by omega) (by omega)];omega
  refine⟨⟨by omega,by omega⟩,_,by rw [Ak4];exact lJ,?_⟩;rw [eG];simp only [Ak4];refine⟨⟨by omega,by omega,by omega⟩,?_⟩;obtain⟨ch,du⟩:∃ ch,ch=(bd.drop (from_-4)).take ns[i]:=⟨_,rfl⟩;have vx:ch.length=from_+ns[i]-from_:=by rw [du,AlX,Alu];omega
  have kv:Rd w1 (Ck (Ck (some ⟨b0,0,none⟩) 0 c0 1) from_ c0 1) (ch.map Ag):=by
   have h0:=dP.OV 0 (b.length-4) c0 1 (by omega);have h:=h0.OV from_ (from_+ns[i]) c0 1 (by omega);simp only [Ak7,Amw,Amu] at h;rw [<- Alw,<- List.map_drop,<- Alw] at h;have e:((b.take (b.length-4)).drop from_).take (from_+ns[i]-from_)=ch:=by
    rw [du,gP,List.drop_drop,show 4+(from_-4)=from_ by omega,Nat.add_sub_cancel_left,List.drop_take,List.drop_take,List.take_take,List.take_take];congr 1;omega
   rwa [e] at h
  rw [<- vx];refine (Tk (c:=c0-from_) (kv.grown S.Ar) (by omega) (by omega)).mono ?_;rintro _ an ⟨_,rfl,K,ls,la,lc,e14,rfl,kA,pB,oH,aG⟩;have S:=PD S pB kA;have fw:∀ aC rows xs,Et aC rows xs b->e14=0/\ls=Bs rows i:=λ aC rows xs hP=>by
   obtain⟨hx,h1,h2⟩:=dF aC rows xs hP;have lU:i<aC.length:=by have:=hP.len;omega
   have h3:ch=xs[i]:=by rw [du,h1,h2,AkW]
   have h4:=hP.chs.each i lU hx;rw [<- h3] at h4;rcases aG with ⟨_,_,he,hu⟩ | ⟨aP,_⟩
   ·exact⟨he,((hu _ _ (hP.ok.D1 lU) h4).2).symm⟩
   ·exact absurd h4 (aP _ _ (hP.ok.D1 lU))
  refine⟨_,_,_,_,_,rfl,Ah (λ h=>bad (Ac B1 S.Ar) λ aC rows xs hP=>h (fw aC rows xs hP).1) (λ he=>Ah (λ h=>bad (Ac B1 S.Ar) λ aC rows xs hP=>?_) (λ hlr=>?_))⟩
  ·have:=(fw aC rows xs hP).2;have h5:=(key aC rows xs hP).2.1;rw [this,Gl] at h;omega
  have hg:Bc K ls:=by
   rcases aG with ⟨h,_⟩ | ⟨_,_,_,h⟩
   ·exact h
   ·rw [h] at he;exact absurd he (by decide)
  have ux:ls.length=r:=by omega
  refine⟨λ st wx=>∃(j:Nat) (qs:List BG),st=[.int .i64 (j:Int)]/\j<=r/\qs.length=r/\(∀ q (hq:q<qs.length),qs[q].2.2=if q<j then rowAt (AM++[ls]) q else rowAt AM q)/\ST w1 wx ([It.rd la (AO ls),Iq (some pn) nc ns,CK ca cc cs]++Fp bo qs),λ st _=>match st with
   | [.int _ j]=>r-j.toNat
   | _=>0,⟨0,ps,rfl,by omega,bL,λ q hq=>by rw [aI q hq];simp,S⟩,?_⟩
  clear S;rintro _ ah ⟨j,qs,aA,hj,kQ,ja,S⟩;cases aA;refine Aa (λ ao=>?_) (λ cB=>?_)
  ·have hjr:j<r:=by omega
   have rQ:j<qs.length:=by omega
   refine S.draw λ cf _ S=>⟨⟨by omega,by omega⟩,⟨by omega,by omega⟩,?_⟩;have sP:=Mx S rQ;have bQ:Rd cf la (AO ls):=S.ok (It.rd la (AO ls)) (by simp);obtain⟨q2,rfl,d0,d1,d2⟩:=De bQ (i:=j) (by omega);refine⟨_,_,_,by rw [Ak4];exact sP,_,by rw [Ak4];exact d0,_,by rw [Ak4];exact d1,_,by rw [Ak4];exact d2,S.An λ jr cP _ _ S=>?_⟩;have vW:j<ls.length:=by omega
   have S':ST w1 cP ([It.cells jr (HE ls[j]).toArray ty.AW,It.rd (some q2) (AO ls),Iq (some pn) nc ns,CK ca cc cs]++Fp bo qs):=S;have mM:=Mx S' rQ;have qG:qs[j].2.2=rowAt AM j:=by rw [ja j rQ];simp
   have kI:qs[j].2.2.length=i:=by rw [qG];simp [rowAt,lP]
   refine⟨by rw [Ak4];exact mM,?_⟩;have aW:Rd cP (some ⟨jr,0,none⟩) (HE ls[j]):=S'.Gw 0 rfl;refine AaY S' rQ aW (by omega) λ a6 c6 w6 hk=>⟨_,_,_,rfl,⟨by omega,by omega⟩,?_⟩;rw [Ak4];unfold Av;simp only;refine hk _ λ w7 S=>?_;rw [Ae (by omega)];refine⟨⟨j+1,qs.set j (a6,c6,qs[j].2.2++[ls[j]]),rfl,by omega,by rw [List.length_set];exact kQ,λ q hq=>?_,S.drop 1⟩,by simp only [Ak4];omega⟩;rw [List.length_set] at hq;rw [List.getElem_set];by_cases uC:j=q
   ·subst uC;simp only [if_true,Nat.lt_succ_self];rw [qG,AeN];simp [List.getD,vW]
   ·rw [if_neg uC,ja q hq];by_cases h5:q<j
    ·rw [if_pos h5,if_pos (by omega)]
    ·rw [if_neg h5,if_neg (by omega)]
  ·have hN:Rd ah (some pn) (ns.map λ n:Nat=>Value.int .i64 (n:Int)):=S.rd 1 rfl;obtain⟨pn',hpn',hcn2⟩:=AcO hN aD;cases hpn';refine⟨⟨by omega,by omega⟩,_,hcn2,?_⟩;rw [eG,Ae (by omega)];refine⟨⟨i+1,from_+ns[i],AM++[ls],qs,rfl,by omega,by simp [lP],by omega,by omega,kQ,λ dN dp=>?_,λ q hq=>by rw [ja q hq,if_pos (by omega)],λ aC rows xs hP=>?_,S.drop 1⟩,by show cs.length-((i+1:Nat):Int).toNat<cs.length-((i:Nat):Int).toNat;omega⟩
   ·rcases AlY.1 dp with h | h
    ·exact cW dN h
    ·rw [AlZ.1 h];exact⟨ux,K,hg⟩
   ·obtain⟨hx,h1,h2⟩:=dF aC rows xs hP;obtain⟨h3,h4⟩:=aV aC rows xs hP;refine⟨?_,?_⟩
    ·rw [Afb hx,Ak1,h3,h1];omega
    ·rw [List.range_succ,List.map_append,h4,(fw aC rows xs hP).2];rfl
 ·have bG:i=cs.length:=by omega
  refine⟨Ac B1 S.Ar,.inl ⟨cs,AM,ps,ca,cc,bo,r,rfl,AgZ S 1 rfl,RX S,bL,fH,gC.2,Abr bL aI,cW,λ aC rows xs hP=>?_,by
   have S':=((ST.start w).grown B1).join S;rw [List.append_nil] at S';exact S'.drop 2⟩⟩
  obtain⟨h1,h2,h3,h4⟩:=key aC rows xs hP;exact⟨h1,h2,by rw [(aV aC rows xs hP).2,bG,h1]⟩
end
def Akn(l:List UInt8)(w w':World)(v:Value):Prop :=
 Below w.heap.size w w'/\((∃ cs ps ca cc bo,v=.tuple #[.slice ca cs.length cc,.slice (some ⟨bo,0,none⟩) ps.length ps.length,.int .i64 0]/\Rd w' ca (BM cs)/\Bb w' (some ⟨bo,0,none⟩) ps/\Bv cs (rws ps)/\FO cs (rws ps) l/\ST w w' (Fp bo ps)) \/
  (v=.tuple #[.slice none 0 0,.slice none 0 0,.int .i64 91]/\¬ I1 l)\/(v=.tuple #[.slice none 0 0,.slice none 0 0,.int .i64 90]/\I1 l/\∀ aC rows',Bv aC rows'->¬ FO aC rows' l))
section
variable {w:World}
theorem Ng(s:ByteArray)(hs:s.size<=140737488355328):Calls Tryz.prog f.AcI #[.string s] w (AG λ v w'=>Akn (bl s) w w' v):=by
 apply R.QG
 delta R.A R.B R.Aiv R.Iy R.D R.F R.H R.I R.Ly R.O R.Qi R.Rs R.S R.T R.W R.X R.Y;try dsimp only [R.Ps]
 have au:=A9 s;obtain⟨l,hl⟩:∃ l,l=bl s:=⟨_,rfl⟩;rw [<- hl] at au ⊢;have aP:s.size<40->¬ I1 l:=λ h hd=>by have:=hd.1;omega
 refine Aa (λ h=>⟨.refl _ _,.inr (.inl ⟨rfl,aP (by omega)⟩)⟩) (λ ov=>?_);have nH:40<=s.size:=by omega
 have eW:IntKind.i64.wrap ((s.size:Int)-32)=((s.size-32:Nat):Int):=by rw [wrap_i64 (by omega) (by omega)];omega
 rw [eW];simp only [Ak4];obtain⟨l1,dh⟩:∃ l1,l1=l.take (s.size-32):=⟨_,rfl⟩;have oC:l1.length=s.size-32:=by rw [dh,AlX];omega
 have eX:s.extract 0 (s.size-32)=BC l1:=by rw [extract_eq,Amw,Amu,<- hl,<- dh]
 rw [eX];refine⟨⟨by omega,by omega,by omega⟩,CF CB (BC l1) w λ b0 c0 cells e0 w1 bh B1 jW al iY dA=>?_⟩;rw [AY] at iY dA ⊢;rw [BP] at dA;have dP:Rd w1 (some ⟨b0,0,none⟩) (l1.map Ag):=by
  have:=(Rd.Ak jW).take l1.length;rw [dA] at this;exact this
 refine⟨_,_,_,rfl,(JM l1 dP iY (by omega)).mono ?_⟩;rintro _ w2 ⟨_,rfl,rfl,B2⟩;have S:=((ST.start w).grown B1).grown B2;have bj:(Iw l1).length=32:=FK _;obtain⟨dg,hdg⟩:∃ dg,dg=Iw l1:=⟨_,rfl⟩;rw [<- hdg] at bj ⊢;have jS:(dg.map Ag).length=32:=by rw [Alh];exact bj
 have j':I1 l↔∀ j (hj:j<32),dg[j]'(by omega)=l[s.size-32+j]'(by omega):=by
  have h0:I1 l↔(40<=l.length/\l.drop (s.size-32)=dg):=by
   unfold I1;rw [au,<- dh,<- hdg]
  rw [h0];constructor
  ·intro h j hj;have:(l.drop (s.size-32))[j]?=dg[j]?:=by rw [h.2]
   rw [AkS,AlV (by omega),AlV (by omega)] at this;exact (Al8 this).symm
  ·intro h;refine⟨by omega,List.ext_getElem (by rw [Alu];omega) λ j g1 g2=>?_⟩;rw [AmS];exact (h j (by omega)).symm
 refine I6 dg bj ⟨rfl,S.An λ b6 w3 _ _ S=>Ds jS (S.En 0 rfl jS (Ge _) λ w4 S=>?_)⟩;refine⟨λ st wx=>∃ j:Nat,st=[.int .i64 (j:Int)]/\j<=32/\(∀ q (hq:q<32),q<j->dg[q]'(by omega)=l[s.size-32+q]'(by omega))/\ST w wx [It.cells b6 ⟨dg.map Ag⟩ 142],λ st _=>match st with
   | [.int _ j]=>32-j.toNat
   | _=>0,⟨0,rfl,by omega,λ q _ h=>by omega,S⟩,?_⟩
 clear S;rintro _ w5 ⟨j,aA,hj,aF,S⟩;cases aA;refine Aa (λ aB=>?_) (λ aJ=>?_)
 ·have wG:j<32:=by omega
  refine S.draw λ w6 _ S=>?_;have eI:IntKind.i64.wrap (((s.size-32:Nat):Int)+(j:Int))=((s.size-32+j:Nat):Int):=by rw [wrap_i64 (by omega) (by omega)];omega
  rw [eI];simp only [Ak4];have aE:w6.cell? ((⟨b6,0,none⟩:Addr).add (j*1))=some (.int .u8 ((dg[j]'(by omega)).toNat:Int)):=by
   rw [Ax,Nat.zero_add,Ak7];refine S.cell 0 rfl ?_;simp [show j<dg.length by omega,Ag]
  have zz:Ay s (s.size-32+j)=l[s.size-32+j]'(by omega):=by rw [Mv,<- hl];simp [List.getD,show s.size-32+j<l.length by omega]
  rw [zz];refine⟨⟨by omega,aB⟩,⟨by omega,by omega⟩,_,aE,Ah (λ aQ=>⟨S.Ar,.inr (.inl ⟨rfl,λ hd=>aQ ?_⟩)⟩) (λ he=>?_)⟩
  ·rw [j'.1 hd j wG]
  ·rw [Ae (by omega)];refine⟨⟨j+1,rfl,by omega,λ q hq uC=>?_,S⟩,by simp only [Ak4];omega⟩;rcases Nat.lt_or_ge q j with h | h
   ·exact aF q hq h
   ·obtain rfl:q=j:=by omega
    exact UInt8.toNat_inj.1 (by omega)
 ·have hD:I1 l:=j'.2 λ q hq=>aF q hq (by omega);refine (VV s (by rw [<- hl]) nH hs).mono ?_;rintro _ w7 ⟨_,rfl,B7,hC⟩;have S5:=S;have S:=S.grown B7;rw [<- dh] at hC;have no:(∀ aC rows' gA,¬ Et aC rows' gA l1)->∀ aC rows',Bv aC rows'->¬ FO aC rows' l:=λ h aC rows' bU hI=>by
   obtain⟨xs,hP,_⟩:=hI.pre bU;rw [au,<- dh] at hP;exact h _ _ _ hP
  rcases hC with ⟨cs,AM,ps,ca,cc,bo,n,rfl,hcr,hrr,bL,hn24,hR,cM,cW,hu,hG⟩ | ⟨rfl,hno2⟩
  ·subst bL;have bM:=A6 hR;have iN:∀ aC rows',Bv aC rows'->FO aC rows' l->aC=cs/\rows'=rws ps:=λ aC rows' bU hI=>by
    obtain⟨xs,hP,_⟩:=hI.pre bU;rw [au,<- dh] at hP;obtain⟨h1,h2,h3⟩:=hu aC rows' xs hP;refine⟨h1.symm,?_⟩;rw [cM,h3,h2,Se λ r hr=>bU.Ue hr]
   refine⟨_,_,_,_,_,_,_,rfl,Au (CQ ?_)⟩;refine (HV hcr (by omega) (λ c hc=>by have:=(Dq hR hc).2.2.2;omega) hrr (by omega) (by
    intro r hr v hv;rw [cM] at hr;obtain⟨i,hi,rfl⟩:=AkK.1 hr;obtain⟨dN,dp,rfl⟩:=AkK.1 hv;obtain⟨kQ,k,hg⟩:=cW dN dp;have aD:i<dN.length:=by have:=List.mem_range.1 hi;omega
    have e:dN.getD i Z0=dN[i]:=by simp [List.getD,aD]
    rw [e];exact hg.ok _ (AlI aD))).mono ?_
   rintro _ w8 ⟨_,rfl,hV,B8⟩;have S:=S.grown B8;rcases hV with ⟨hnok,rfl,hE⟩ | ⟨aK,b,rfl,hI⟩
   ·refine⟨_,_,rfl,Ah (λ _=>⟨S.Ar,.inr (.inr ⟨rfl,hD,λ aC rows' bU hI=>?_⟩)⟩) (λ h=>absurd h hE)⟩;obtain⟨rfl,rfl⟩:=iN aC rows' bU hI;exact hnok bU
   ·refine⟨_,_,rfl,Ah (λ h=>absurd rfl h) (λ _=>?_)⟩;rw [AZ];refine Au (Aa (λ he=>?_) (λ he=>⟨S.Ar,.inr (.inr ⟨rfl,hD,λ aC rows' bU jo=>?_⟩)⟩))
    ·have je:b=l:=by have:=congrArg bl he;rwa [BP,<- hl] at this
     subst je;exact⟨S.Ar,.inl ⟨cs,ps,ca,cc,bo,rfl,hcr.grown B8,hrr.grown B8,aK,hI,((S5.join hG).grown B8).sub (List.sublist_append_left _ _)⟩⟩
    ·obtain⟨rfl,rfl⟩:=iN aC rows' bU jo;exact he (by rw [hI.one jo,hl,EI])
  ·exact⟨_,_,_,_,_,_,_,rfl,Au (AV ⟨S.Ar,.inr (.inr ⟨rfl,hD,no hno2⟩)⟩)⟩
variable {a a2:Option Addr}{c c2:Nat}{cs:List BQ}{ps:List BG}
theorem Afz.open{rows:List (List AB)}{v:Value}(h:Afz cs rows v):∃(s:ByteArray) (e:Int),v=.tuple #[.string s,.int .i64 e]/\s.size<=40000000:=by
 rcases h with ⟨_,rfl,_⟩ | ⟨aK,b,rfl,hI⟩
 ·exact⟨_,_,rfl,by show 0<=_;omega⟩
 ·exact⟨_,_,rfl,by rw [AY];exact hI.len aK⟩
end
def Hc(w0:World)(H:List It)(b:Nat)(C:YM)(v:Value)(w':World):Prop :=
 ∃(d:Nat × Nat) (fs:List Kv) (C':YM) (fa ca:Option Addr) (cc:Nat) (pa:Option Addr) (pc:Nat) (ka:Option Addr) (kc:Nat),v=AdJ d fa fs/\D6 C'/\fs.length<=1/\(∀ f∈fs,f.2.size<=140737488355328)/\(∀ p∈C'.parts,p∈C.parts\/∃ f∈fs,f.1=p.1)/\ST w0 w' (It.rd fa (BH fs) :: (DZ b ca cc pa pc ka kc C'++H))
section
variable {w0 w:World}{H:List It}{b cc pc kc:Nat}{ca pa ka:Option Addr}{C:YM}{a a2:Option Addr}{c c2:Nat}{l:List UInt8}{cs:List BQ}
theorem Qj{K:Value->World->Prop}{q:Nat}{u v x:Value}(S:ST w0 w (It.cells q #[u,v] ty.A0 :: H))(e r:Int)(hk:∀ w',ST w0 w' H->K (.tuple #[.agg #[.int .i64 e,.int .i64 r],x]) w') :
  DV ⟨q,0,none⟩ (.int .i64 e) (λ w=>DV ⟨q,1,none⟩ (.int .i64 r) (λ w=>∃ p':Int,w.cell? ⟨q,0,none⟩=some (.int .i64 p')/\∃ q':Int,w.cell? ⟨q,1,none⟩=some (.int .i64 q')/\K (.tuple #[.agg #[.int .i64 p',.int .i64 q'],x]) w) w) w :=
 S.BR 0 rfl (aC:=#[.int .i64 e,v]) (by simp) rfl λ w2 S=>S.BR 0 rfl (aC:=#[.int .i64 e,.int .i64 r]) (by simp) rfl λ w3 S=>⟨_,S.cell 0 rfl rfl,_,S.cell 0 rfl rfl,hk _ (S.drop 1)⟩
theorem dno{K:Value->World->Prop}{q:Nat}{u v:Value}(hK:∀ v w',Hc w0 H b C v w'->K v w')(hC:D6 C)(S:ST w0 w (It.cells q #[u,v] ty.A0 :: (DZ b ca cc pa pc ka kc C++H)))(e:Nat) :
  DV ⟨q,0,none⟩ (.int .i64 (e:Int)) (λ w=>DV ⟨q,1,none⟩ (.int .i64 0) (λ w=>∃ p':Int,w.cell? ⟨q,0,none⟩=some (.int .i64 p')/\∃ q':Int,w.cell? ⟨q,1,none⟩=some (.int .i64 q')/\K (.tuple #[.agg #[.int .i64 p',.int .i64 q'],.slice none 0 0]) w) w) w :=
 Qj S (e:Int) 0 λ w' S=>hK _ _ ⟨(e,0),[],C,none,ca,cc,pa,pc,ka,kc,rfl,hC,by simp,by simp,λ p hp=>.inl hp,Eb S⟩
theorem Yc(S:ST w0 w (DZ b ca cc pa pc ka kc C++H))(hC:D6 C)(hl:Rd w a (l.map Ag))(hc:l.length<=c)(hs:l.length<=140737488355328) :
  Calls Tryz.prog f.Lc #[.pointer (some ⟨b,0,none⟩),.slice a l.length c] w (AG (Hc w0 H b C)):=by
 apply R.H3
 delta R.A R.Ab R.Ir R.E R.F R.H R.I R.Li R.Ls R.N R.O R.S R.Am;try dsimp only [R.Ps]
 refine S.An λ b3 w1 _ B1 S=>(IC (hl.grown B1) hc hs 1 (by decide)).mono ?_;rintro _ w2 ⟨_,rfl,hx⟩;cases ho:Bk l 1 with
 | none =>
  rw [ho] at hx;obtain⟨rfl,B⟩:=hx;have S:=S.grown B;exact⟨_,_,_,_,_,rfl,Ah (λ _=>dno (λ _ _ h=>h) hC S 220) (λ h=>by cases h)⟩
 | some x =>
  have hR:=DA ho;rw [ho] at hx;obtain⟨a',c',rfl,T⟩:=hx;have S0:=S.grown T.Ar;have S:=S.join T;refine⟨_,_,_,_,_,rfl,Ah (λ h=>absurd rfl h) (λ _=>Ah (λ _=>dno (λ _ _ h=>h) hC S0 220) (λ _=>⟨_,_,_,S0.cell 1 rfl rfl,Aa (λ _=>dno (λ _ _ h=>h) hC S0 2) (λ h0=>?_)⟩))⟩
  try simp only [Av]
  refine S.BR 2 rfl (i:=0) (aC:=#[.slice a' x.1.length c',.slice pa C.parts.length pc,.slice ka C.Dt.length kc]) (by simp) rfl λ w9 S=>?_;have S:ST w0 w9 (It.cells b3 #[.int .i64 0,.int .i64 0] ty.A0 :: (DZ b a' c' pa pc ka kc { C with AM:=x.1 }++H)) :=
   ((S.pull 2 rfl).pull 2 rfl).sub (.cons_cons _ (.cons_cons _ (.cons_cons _ (.cons _ (AmN _)))))
  exact Qj S 0 0 λ w' S=>⟨(0,0),[],{ C with AM:=x.1 },none,a',c',pa,pc,ka,kc,rfl,⟨hC.np,hC.nc,hC.rows,.inr hR⟩,by simp,by simp,λ p hp=>.inl hp,Eb S⟩
end
def AhK(w0:World)(H:List It)(b:Nat)(ca:Option Addr)(cc:Nat)(ka:Option Addr)(kc:Nat)(C:YM)(v:Value)(w':World):Prop :=
 ∃(d:Nat × Nat) (fs:List Kv) (C':YM) (fa:Option Addr) (di:Option Addr) (dj:Nat),v=AdJ d fa fs/\d.1<=1000/\d.2<=Cr/\D6 C'/\C'.Dt=C.Dt/\C'.AM=C.AM/\fs.length<=1/\(∀ f∈fs,f.2.size<=140737488355328)/\(∀ p∈C'.parts,p∈C.parts\/∃ f∈fs,f.1=p.1)/\ST w0 w' (It.rd fa (BH fs) :: (DZ b ca cc di dj ka kc C'++H))
section
variable {w0 w:World}{H:List It}{b cc pc kc:Nat}{ca pa ka:Option Addr}{C:YM}{a a2:Option Addr}{c c2:Nat}{cs:List BQ}{ps:List BG}
theorem T8(S:ST w0 w H){n:Nat}{ac:Option Addr}{cx:Nat}{xs qs:List H6}{aq:Option Addr}{cq:Nat}(hn:H[n]?=some (E1 ac cx xs))(hs:Rd w aq (Bt qs))(hl:xs.length+qs.length<=1000000){f:Value->World->Prop}
  (hf:∀ a' c' w',ST w0 w' (H.set n (E1 a' c' (xs++qs)))->f (.slice a' (xs++qs).length c') w') :
  DE Tryz.prog (Builtin.append_ #[ty.Dg,ty.Dg] ty.Dg #[.slice ac xs.length cx,.slice aq qs.length cq]) f w:=by
 refine S.app n hn Sk rfl (by omega) (by omega) hs (Ey qs) (Um qs) (by omega) λ a' c' w' S'=>?_;rw [<- FG] at S';have:=hf a' c' w' (by unfold E1;rw [Ak1];exact S');rwa [Ak1] at this
set_option maxHeartbeats 1000000 in
theorem Ae5(S:ST w0 w (DZ b ca cc pa pc ka kc C++H))(hC:D6 C)(al:Rd w a (BM cs))(hn:cs.length<=9223372036854775807)(hq:∀ c∈cs,c.1.size<=9223372036854775807)(hr:Bb w a2 ps)(aK:Bv cs (rws ps)) :
  Calls Tryz.prog f.Ov #[.pointer (some ⟨b,0,none⟩),.slice a cs.length c,.slice a2 ps.length c2] w (AG (AhK w0 H b ca cc ka kc C)):=by
 apply R.IQ
 delta R.A R.Ab R.Iy R.Cb R.Ci R.Ct R.D R.E R.F R.H R.I R.J R.Ks R.Li R.Ls R.N R.O R.P R.Rs R.S R.Am R.T R.W R.Z;try dsimp only [R.Ps]
 have iZ:=hC.np;have bL:ps.length<=1024:=by have:=aK.len;simpa [rws] using this
 refine S.An λ b4 w1 _ B1 S=>⟨_,_,_,S.cell 1 rfl rfl,(Gs (al.grown B1) (S.rd 2 rfl) hn).mono ?_⟩;rintro _ w2 ⟨_,rfl,B2,rfl⟩;have S:=S.grown B2;have C2:=Ac B1 B2;refine⟨_,rfl,Au (Aa (λ he=>?_) (λ he=>Qj (K:=AhK w0 H b ca cc ka kc C) S 50 0 λ w' S=>⟨(50,0),[],C,none,pa,pc,rfl,by decide,by decide,hC,rfl,rfl,by simp,by simp,λ p hp=>.inl hp,Eb S⟩))⟩;refine⟨_,_,_,S.cell 1 rfl rfl,Aa (λ h=>Qj (K:=AhK w0 H b ca cc ka kc C) S 130 0 λ w' S=>⟨(130,0),[],C,none,pa,pc,rfl,by decide,by decide,hC,rfl,rfl,by simp,by simp,λ p hp=>.inl hp,Eb S⟩) (λ aB=>?_)⟩;have aB:C.parts.length<256:=by omega
 refine (HV (al.grown C2) hn hq (hr.grown C2) (by omega) aK.ok).mono ?_;rintro _ w7 ⟨_,rfl,hV,B7⟩;have S:=S.grown B7;rcases hV with ⟨aP,_⟩ | ⟨_,bb,rfl,hI⟩
 ·exact absurd aK aP
 have au:=hI.len aK;refine⟨_,_,rfl,(Ni (BC bb) (by rw [AY];omega)).mono ?_⟩;rintro _ w8 ⟨_,rfl,rfl,B8⟩;have S:=S.grown B8;obtain⟨nm,cC⟩:∃ nm,nm=Fe (BC bb):=⟨_,rfl⟩;obtain⟨dt,hdt⟩:∃ dt,dt=BC bb:=⟨_,rfl⟩;rw [<- cC,<- hdt];obtain⟨bB,hps'⟩:∃ bB,bB=C.parts++[(nm,ps.length)]:=⟨_,rfl⟩;have hpl':bB.length=C.parts.length+1:=by rw [hps'];simp
 have bn:([]:List H6)++C.parts=C.parts:=rfl;have e1:IntKind.i64.wrap ((C.parts.length:Int)+1)=((C.parts.length+1:Nat):Int):=by rw [wrap_i64 (by omega) (by omega)];omega
 have lC:D6 { C with parts:=bB }:=⟨by show bB.length<=256;omega,hC.nc,λ p hp=>by
  have hp:p∈bB:=hp;rw [hps'] at hp;rcases AlY.1 hp with h | h
  ·exact hC.rows p h
  ·rw [AlZ.1 h];exact bL,hC.AM⟩
 let Y:World->Prop:=λ wx=>∃ di dj,ST w0 wx (It.cells b4 #[.int .i64 0,.int .i64 0] ty.A0 :: (DZ b ca cc di dj ka kc { C with parts:=bB }++H));have fin:∀ {wx:World} {a':Option Addr} {c':Nat} {X:It},ST w0 wx (X :: E1 a' c' bB :: It.cells b4 #[.int .i64 0,.int .i64 0] ty.A0 :: (DZ b ca cc pa pc ka kc C++H))->DV ⟨b,1,none⟩ (.slice a' bB.length c') (λ w=>([]:List Value)=[]/\Y w) wx:=λ {wx a' c' X} S =>
  S.BR 3 rfl (i:=1) (aC:=#[.slice ca C.AM.length cc,.slice a' bB.length c',.slice ka C.Dt.length kc]) (by simp) rfl λ w' S=>⟨rfl,a',c',by
   have S:ST w0 w' (E1 a' c' bB :: It.cells b4 #[.int .i64 0,.int .i64 0] ty.A0 :: It.cells b #[.slice ca C.AM.length cc,.slice a' bB.length c',.slice ka C.Dt.length kc] ty.Fg :: CK ca cc C.AM :: NC ka kc C.Dt :: H) :=
    S.sub (.cons _ (.cons_cons _ (.cons_cons _ (.cons_cons _ (.cons_cons _ (.cons _ (AmN _)))))))
   exact ((S.pull 3 rfl).pull 3 rfl).pull 3 rfl⟩
 refine⟨_,rfl,λ st wx=>st=[]/\Y wx,?_,?_⟩
 ·refine S.draw λ w9 _ S=>⟨_,_,_,S.cell 1 rfl rfl,_,_,_,S.cell 1 rfl rfl,?_,?_⟩
  ·rw [e1];refine S.mk0 Sk (by omega) (by omega) λ bk bZ S=>⟨_,_,_,rfl,S.cell 2 rfl rfl,?_,?_⟩
   ·refine T8 S (n:=0) (xs:=[]) rfl (S.rd 4 rfl) (by simp only [Amf];omega) λ a' c' aX S=>⟨_,_,_,rfl,S.An λ hJ bJ _ _ S=>?_⟩;refine Vq S (n:=1) (ps:=C.parts) rfl (p:=(nm,ps.length)) (S.Gw 0 rfl) (by omega) λ rZ rM aj S=>⟨_,_,_,rfl,?_⟩;rw [<- hps'] at S ⊢;exact fin S
   ·refine S.An λ hJ bJ _ _ S=>⟨S.cell 3 rfl rfl,?_⟩;refine T8 S (n:=1) (xs:=[]) rfl (S.rd 5 rfl) (by simp only [Amf];omega) λ a' c' aX S=>⟨_,_,_,rfl,?_⟩;refine Vq S (n:=1) (ps:=C.parts) rfl (p:=(nm,ps.length)) (S.Gw 0 rfl) (by omega) λ rZ rM aj S=>⟨_,_,_,rfl,?_⟩;rw [<- hps'] at S ⊢;exact fin S
  ·refine S.An λ hJ bJ _ _ S=>⟨S.cell 2 rfl rfl,S.cell 2 rfl rfl,?_⟩;rw [e1];refine S.mk0 Sk (by omega) (by omega) λ bk bZ S=>⟨_,_,_,rfl,S.cell 3 rfl rfl,?_⟩;refine T8 S (n:=0) (xs:=[]) rfl (S.rd 5 rfl) (by simp only [Amf];omega) λ a' c' aX S=>⟨_,_,_,rfl,?_⟩;refine Vq S (n:=0) (ps:=C.parts) rfl (p:=(nm,ps.length)) (S.Gw 1 rfl) (by omega) λ rZ rM aj S=>⟨_,_,_,rfl,?_⟩;rw [<- hps'] at S ⊢;exact fin (S.pull 1 rfl)
 clear S;rintro fJ ⟨_,di,dj,S⟩;refine (AcA (C:={ C with parts:=bB }) (S.drop 1) lC).mono ?_;rintro _ gG ⟨_,rfl,rfl,s5⟩;subst s5;refine⟨_,rfl,S.An λ u5 jl _ _ S=>?_⟩;have S:ST w0 jl (It.cells b4 #[.int .i64 0,.int .i64 0] ty.A0 :: It.cells u5 #[.string nm,.string dt] ty.GD :: (DZ b ca cc di dj ka kc { C with parts:=bB }++H)):=S.pull 1 rfl;have hrn:=IZ (ps:=bB) λ p hp=>lC.rows p hp;refine Qj (K:=AhK w0 H b ca cc ka kc C) S 0 (A4 bB:Int) λ w' S=>⟨(0,A4 bB),[(nm,dt)],{ C with parts:=bB },some ⟨u5,0,none⟩,di,dj,rfl,by simp,?_,lC,rfl,rfl,by simp,λ f hf=>by
  rw [AlZ.1 hf,hdt];show (BC bb).size<=_;rw [AY];omega,λ p hp=>?_,S.IX 0 rfl (.refl _ _) (It.rd (some ⟨u5,0,none⟩) (BH [(nm,dt)])) (S.Gw 0 rfl) (λ k hk=>.inl hk)⟩
 ·show A4 bB<=Cr;unfold Cr;omega
 ·have hp:p∈bB:=hp;rw [hps'] at hp;rcases AlY.1 hp with h | h
  ·exact .inl h
  ·rw [AlZ.1 h];exact .inr ⟨_,AlZ.2 rfl,rfl⟩
end
theorem L4(k m:List Km):Du (k++m)=Du k++Du m:=by simp [Du]
theorem Agy(k:List Km):∀ u∈Du k,u.oneCell'=true:=by
 intro u hu;obtain⟨v,_,hv⟩:=List.mem_flatMap.1 hu;simp only [Rk,List.mem_cons,List.not_mem_nil,or_false] at hv;rcases hv with rfl | rfl | rfl | rfl <;> rfl
theorem Afp(k:List Km)(i:Nat):(Du k).drop (i*4)=Du (k.drop i):=by
 have e:Du k=Du (k.take i)++Du (k.drop i):=by rw [<- L4,AmQ]
 by_cases h:i<=k.length
 ·have hl:(Du (k.take i)).length=i*4:=by rw [LU,AlX];omega
  rw [e,<- hl,Amk]
 ·have h1:k.drop i=[]:=Als (by omega);rw [h1,Als (by rw [LU];omega)];rfl
theorem Aex(k:List Km)(i:Nat):(Du k).take (i*4)=Du (k.take i):=by
 have e:Du k=Du (k.take i)++Du (k.drop i):=by rw [<- L4,AmQ]
 by_cases h:i<=k.length
 ·have hl:(Du (k.take i)).length=i*4:=by rw [LU,AlX];omega
  rw [e,<- hl,AkW]
 ·rw [AlA (i:=i) (by omega),AlA (by rw [LU];omega)]
section
variable {w0 w:World}{H:List It}{b cc pc kc:Nat}{ca pa ka:Option Addr}{C:YM}{a:Option Addr}{c m:Nat}{l:List UInt8}
theorem AdT{k:List Km}(h:Rd w a (Du k))(i n c:Nat)(hm:i+n<=c):Rd w (Ck a i c 4) (Du ((k.drop i).take n)):=by
 have:=h.OV i (i+n) c 4 hm;rwa [Afp,show i+n-i=n by omega,Aex] at this
theorem AdG(S:ST w0 w H){n:Nat}{ac:Option Addr}{cx nx nq:Nat}{xs qs:List Km}{aq:Option Addr}{cq:Nat}(hn:H[n]?=some (NC ac cx xs))(hs:Rd w aq (Du qs))(hx:xs.length=nx)(hq:qs.length=nq)(hl:nx+nq<=1000000){f:Value->World->Prop}
  (hf:∀ a' c' w',ST w0 w' (H.set n (NC a' c' (xs++qs)))->f (.slice a' (xs++qs).length c') w') :
  DE Tryz.prog (Builtin.append_ #[ty.Df,ty.Df] ty.Df #[.slice ac nx cx,.slice aq nq cq]) f w:=by
 subst hx;subst hq;refine S.app n hn AfV rfl (by omega) (by omega) hs (LU qs) (Agy qs) (by omega) λ a' c' w' S'=>?_;rw [<- L4] at S';have:=hf a' c' w' (by unfold NC;rw [Ak1];exact S');rwa [Ak1] at this
set_option maxHeartbeats 2000000 in
theorem XM(S:ST w0 w (DZ b ca cc pa pc ka kc C++H))(hC:D6 C)(hm:H[m]?=some (It.rd a (l.map Ag)))(hc:l.length<=c)(hs:l.length<=140737488355328) :
  Calls Tryz.prog f.KT #[.pointer (some ⟨b,0,none⟩),.slice a l.length c] w (AG (Hc w0 H b C)):=by
 apply R.HR
 delta R.A R.Ab R.Be R.Afv R.Ir R.Bz R.D R.E R.F R.G R.H R.I R.J R.Ks R.Li R.Ls R.N R.O R.P R.Rs R.S R.Am R.W R.X R.Y R.Z R.Zb R.Zi;try dsimp only [R.Ps]
 have rB:=hC.nc;have hK:∀ v w',Hc w0 H b C v w'->Hc w0 H b C v w':=λ _ _ h=>h;refine S.An λ b3 w1 _ B1 S=>(AJ (c:=c) (S.get (m+5) hm) (by omega) 1 (by decide)).mono ?_;rintro _ w2 ⟨_,rfl,rfl,e2⟩;subst e2;obtain⟨n1,k1,e1,hv1,cm,eN,hx1⟩:=Ed _ (rfl:takeN l 1=takeN l 1);rw [hv1];refine⟨_,_,_,rfl,(AJ (c:=c) (S.get (m+5) hm) (by omega) (k1:Int) (by omega)).mono ?_⟩;rintro _ w3 ⟨_,rfl,rfl,e3⟩;subst e3;obtain⟨n2,k2,e2,gn,ax,gi,hx2⟩:=Ed _ (rfl:takeN l (k1:Int)=takeN l (k1:Int));rw [gn];refine⟨_,_,_,rfl,(IC (S.get (m+5) hm) hc hs (k2:Int) (by omega)).mono ?_⟩;rintro _ w4 ⟨_,rfl,hT⟩;obtain⟨cs,sa,sc,aL,e4,rfl,S,bM,hx⟩:=hT.open S λ r hr=>DA hr;have F:∀ {wx:World},ST w0 wx (CK sa sc cs :: It.cells b3 #[.int .i64 0,.int .i64 0] ty.A0 :: (DZ b ca cc pa pc ka kc C++H))->_:=λ {wx} S=>dno (K:=Hc w0 H b C) hK hC (S.drop 1);refine⟨_,_,_,_,_,rfl,Ah (λ _=>F S 220) (λ _=>Ah (λ _=>F S 220) (λ _=>Ah (λ _=>F S 220) (λ h4=>Aa (λ _=>F S 220) (λ g1=>Aa (λ _=>F S 220) (λ g2=>Aa (λ _=>F S 220) (λ g3=>?_))))))⟩
 rcases hx with ⟨_,hsch,hR⟩ | ⟨h5,_⟩;rotate_left
 ·exact absurd h4 h5
 have me:=(ZT hsch).1.le;have hq:∀ c∈cs,c.1.size<=9223372036854775807:=λ c hc=>by have:=(Dq hR hc).2.2.2;omega
 refine (PB (c2:=sc) (S.get (m+6) hm) hc hs (aL:Int) (by omega) (S.rd 0 rfl) (by omega) hq).mono ?_;rintro _ cP ⟨_,rfl,rb⟩;cases ho:Bg l cs (aL:Int) with
 | none =>
  rw [ho] at rb;obtain⟨e,he,rfl,B⟩:=rb;exact⟨_,_,_,_,_,rfl,Ah (λ _=>F (S.grown B) 220) (λ h=>absurd h he)⟩
 | some x =>
 rw [ho] at rb;obtain⟨ra,rc,ps,rfl,dk,TR⟩:=rb;have aK:=(LH ho).1;rw [<- dk] at aK;have S1:=S.grown TR.Ar;refine⟨_,_,_,_,_,rfl,Ah (λ h=>absurd rfl h) (λ _=>Ah (λ _=>F S1 220) (λ _=>Ao (λ _=>F S1 220) (λ aQ=>?_)))⟩;have ew1:IntKind.i64.wrap (n1:Int)=(n1:Int):=wrap_i64 (by omega) (by omega);have kR:IntKind.i64.wrap (n2:Int)=(n2:Int):=wrap_i64 (by omega) (by omega);rw [ew1,kR];refine (Af6 (S1.drop 2) (n1:Int) hC).mono ?_;rintro _ fJ ⟨_,rfl,ju,i,t,rfl,hi,fY⟩;have S2:=S1.grown ju;have TR2:=TR.grown ju;have wP:Bb fJ ra ps:=AdO TR2 (i:=0) rfl λ p hp=>List.mem_cons_of_mem _ (AkK.2 ⟨p,hp,rfl⟩);refine⟨_,_,rfl,λ st wx=>wx=fJ/\∃ q,st=[.bool q]/\(q=true->i<C.Dt.length),?_,?_⟩
 ·refine Ap (λ ht=>?_) (λ ht=>⟨rfl,false,rfl,λ h=>by cases h⟩);have aD:=fY ht;obtain⟨p,hp,_,c1,_,_⟩:=Uf (S2.rd 5 rfl) aD;subst hp;exact⟨_,_,_,S2.cell 2 rfl rfl,⟨by omega,by omega⟩,_,by rw [Ak4];exact c1,rfl,_,rfl,λ _=>aD⟩
 rintro _ gG ⟨s5,q,aA,iB⟩;subst s5;cases aA;refine Ap (λ rW=>?_) (λ _=>?_)
 ·have aD:=iB rW;obtain⟨p,hp,_,_,c2,c3⟩:=Uf (S2.rd 5 rfl) aD;subst hp;have c3':gG.cell? (((p.add (i*4)).add 2).add 1)=some (.int .i64 (C.Dt[i].2.2.2:Int)):=by rw [BK];exact c3
  refine⟨_,_,_,S2.cell 2 rfl rfl,⟨by omega,by omega⟩,_,by rw [Ak4];exact c2,_,by rw [Ak4];exact c3',Qj (K:=Hc w0 H b C) (S2.drop 1) _ _ λ w' S=>⟨C.Dt[i].2.2,[],C,none,_,_,_,_,_,_,rfl,hC,by simp,by simp,λ p hp=>.inl hp,Eb S⟩⟩
 refine⟨λ st wx=>st=[]/\wx=gG,?_,?_⟩
 ·refine Ap (λ ht=>?_) (λ ht=>⟨rfl,rfl⟩);have aD:=fY ht;obtain⟨p,hp,_,c1,_,_⟩:=Uf (S2.rd 5 rfl) aD;subst hp;exact⟨_,_,_,S2.cell 2 rfl rfl,⟨by omega,by omega⟩,_,by rw [Ak4];exact c1,Aa (λ _=>F S2 2) (λ _=>⟨rfl,rfl⟩)⟩
 rintro eA ⟨_,xH⟩;subst xH;refine⟨λ st wx=>st=[]/\wx=eA/\(t=false->C.Dt.length<64),?_,?_⟩
 ·refine Ap (λ ht=>⟨_,_,_,S2.cell 2 rfl rfl,Aa (λ _=>F S2 130) (λ h=>⟨rfl,rfl,λ _=>by omega⟩)⟩) (λ ht=>⟨rfl,rfl,λ h=>by rw [h] at ht;cases ht⟩)
 rintro iQ ⟨_,e33,iA⟩;subst e33;have S3:ST w0 iQ (DZ b ca cc pa pc ka kc C++(It.cells b3 #[.int .i64 0,.int .i64 0] ty.A0 :: H)):=(S2.drop 1).perm List.perm_middle.symm;refine (Ae5 (c:=sc) (c2:=rc) S3 hC (S2.rd 0 rfl) (by omega) hq wP aK).mono ?_;clear S S1 S2 S3 TR TR2 F;rintro _ pX ⟨_,rfl,d,fs,C',fa,di,dj,rfl,gw,fZ,lC,ek,ecl,cj,qy,uf,S⟩;obtain⟨d1,d2⟩:=d;rw [<- ek] at hi fY iA;have zQ:=lC.nc;refine⟨_,_,_,_,_,rfl,S.An λ b70 uD _ _ S=>S.BR 0 rfl (aC:=#[.int .i64 (d1:Int),.int .i64 0]) (by simp) rfl λ rU S=>S.BR 0 rfl (aC:=#[.int .i64 (d1:Int),.int .i64 (d2:Int)]) (by simp) rfl λ iU S=>S.draw λ q7 _ S=>?_⟩;have hkc:C'.Dt.length<=kc:=(S.rw 5 rfl).le;refine⟨_,_,_,S.cell 2 rfl rfl,_,_,_,S.cell 2 rfl rfl,⟨by omega,by omega,by omega⟩,?_⟩;have e1:IntKind.i64.wrap ((C'.Dt.length:Int)+1)=((C'.Dt.length+1:Nat):Int):=by rw [wrap_i64 (by omega) (by omega)];omega
 rw [e1];simp only [Ak4,Amu];have cm:((C'.Dt.drop 0).take i).length=i:=by rw [Amw,AlX];omega
 refine S.mk0 AfV (by omega) (by omega) λ bk jt S=>⟨_,_,_,rfl,S.cell 3 rfl rfl,?_⟩;refine AdG S (n:=0) (xs:=[]) (nx:=0) (nq:=i) rfl (AdT (S.rd 6 rfl) 0 i kc (by omega)) rfl cm (by omega) λ a1 c1 tf S=>⟨_,_,_,rfl,_,S.cell 1 rfl rfl,_,S.cell 1 rfl rfl,S.An λ b81 pg _ _ S=>?_⟩;obtain⟨k1,hk1e⟩:∃ k1,k1=[]++(C'.Dt.drop 0).take i:=⟨_,rfl⟩;have wK:k1.length=i:=by rw [hk1e,Al4,cm]
 rw [<- hk1e] at S ⊢;refine AhA S (n:=1) (k:=k1) rfl (x:=(n1,n2,d1,d2)) (S.Gw 0 rfl) (by omega) λ a2 c2 lH S=>⟨_,_,_,rfl,?_⟩;obtain⟨k2,ax⟩:∃ k2,k2=k1++[((n1,n2,d1,d2):Km)]:=⟨_,rfl⟩;have hk2l:k2.length=i+1:=by rw [ax,Ak1,wK];rfl
 rw [<- ax] at S ⊢;refine⟨λ st wx=>wx=lH/\∃ j:Nat,st=[.int .i64 (j:Int)]/\j<=C'.Dt.length/\i+1+(C'.Dt.length-j)<=64,?_,?_⟩
 ·refine Ap (λ ht=>?_) (λ ht=>⟨rfl,i,rfl,hi,?_⟩)
  ·have:=fY ht;rw [Ae (by omega)];exact⟨rfl,i+1,rfl,by omega,by omega⟩
  ·have:=iA (by simpa using ht);omega
 rintro _ xw ⟨zg,j,aA,hj,qE⟩;subst zg;cases aA;refine⟨_,_,_,S.cell 4 rfl rfl,⟨by omega,by omega,by omega⟩,?_⟩;simp only [Ak4];have bj:((C'.Dt.drop j).take (C'.Dt.length-j)).length=C'.Dt.length-j:=by rw [AlX,Alu];omega
 refine AdG S (n:=1) (xs:=k2) (nx:=k2.length) (nq:=C'.Dt.length-j) rfl (AdT (S.rd 7 rfl) j (C'.Dt.length-j) kc (by omega)) rfl bj (by omega) λ a3 c3 w44 S=>⟨_,_,_,rfl,?_⟩;obtain⟨k3,iF⟩:∃ k3,k3=k2++(C'.Dt.drop j).take (C'.Dt.length-j):=⟨_,rfl⟩;have nU:k3.length<=64:=by rw [iF,Ak1,bj];omega
 rw [<- iF] at S ⊢
 try simp only [Av]
 refine S.BR 4 rfl (i:=2) (aC:=#[.slice ca C'.AM.length cc,.slice di C'.parts.length dj,.slice a3 k3.length c3]) (by simp) rfl λ xO S=>⟨_,S.cell 2 rfl rfl,_,S.cell 2 rfl rfl,?_⟩;have S:ST w0 xO (NC a3 c3 k3 :: It.rd fa (BH fs) :: It.cells b #[.slice ca C'.AM.length cc,.slice di C'.parts.length dj,.slice a3 k3.length c3] ty.Fg :: CK ca cc C'.AM :: E1 di dj C'.parts :: It.cells b3 #[.int .i64 0,.int .i64 0] ty.A0 :: H) :=
  S.sub (.cons _ (.cons_cons _ (.cons _ (.cons_cons _ (.cons_cons _ (.cons_cons _ (.cons_cons _ (.cons _ (.cons_cons _ (AmN _))))))))))
 have S:=((((S.pull 4 rfl).pull 4 rfl).pull 4 rfl).pull 4 rfl).pull 5 rfl;exact Qj (K:=Hc w0 H b C) S (d1:Int) (d2:Int) λ w' S=>⟨(d1,d2),fs,{ C' with Dt:=k3 },fa,ca,cc,di,dj,a3,c3,rfl,⟨lC.np,nU,lC.rows,lC.AM⟩,cj,qy,uf,S⟩
end
theorem Z4{l:List UInt8}{at_ most:Nat}:∃(s:ByteArray) (k:Nat) (e:Int),AfF (BD l (at_:Int) most)=.tuple #[.string s,.int .i64 (k:Int),.int .i64 e]/\k<=l.length/\(e=0->s.size<=most):=by
 cases ho:BD l (at_:Int) most with
 | none=>exact⟨⟨#[]⟩,0,20,rfl,by omega,λ h=>by cases h⟩
 | some x =>
  obtain⟨s,k⟩:=x;have h:=RS ho;exact⟨BC s,k,0,rfl,h.1.le,λ _=>by rw [AY];exact h.2.1⟩
section
variable {w0 w:World}{H:List It}{b cc pc kc:Nat}{ca pa ka:Option Addr}{C:YM}{a:Option Addr}{c m:Nat}{l:List UInt8}
theorem Ahp{aq:Option Addr}{ps:List H6}(h:Rd w aq (Bt ps))(i m c:Nat)(hm:i+m<=c):Rd w (Ck aq i c 2) (Bt ((ps.drop i).take m)):=by
 have:=h.OV i (i+m) c 2 hm;have e1:(Bt ps).drop (i*2)=Bt (ps.drop i):=by
  have e:Bt ps=Bt (ps.take i)++Bt (ps.drop i):=by rw [<- FG,AmQ]
  by_cases h:i<=ps.length
  ·have hl:(Bt (ps.take i)).length=i*2:=by rw [Ey,AlX];omega
   rw [e,<- hl,Amk]
  ·have h1:ps.drop i=[]:=Als (by omega);rw [h1,Als (by rw [Ey];omega)];rfl
 have e2:∀(qs:List H6),(Bt qs).take (m*2)=Bt (qs.take m):=λ qs=>by
  have e:Bt qs=Bt (qs.take m)++Bt (qs.drop m):=by rw [<- FG,AmQ]
  by_cases h:m<=qs.length
  ·have hl:(Bt (qs.take m)).length=m*2:=by rw [Ey,AlX];omega
   rw [e,<- hl,AkW]
  ·rw [AlA (i:=m) (by omega),AlA (by rw [Ey];omega)]
 rwa [e1,show i+m-i=m by omega,e2] at this
theorem AdP(S:ST w0 w H){n:Nat}{ac:Option Addr}{cx nx nq:Nat}{xs qs:List H6}{aq:Option Addr}{cq:Nat}(hn:H[n]?=some (E1 ac cx xs))(hs:Rd w aq (Bt qs))(hx:xs.length=nx)(hq:qs.length=nq)(hl:nx+nq<=1000000){f:Value->World->Prop}
  (hf:∀ a' c' w',ST w0 w' (H.set n (E1 a' c' (xs++qs)))->f (.slice a' (xs++qs).length c') w') :
  DE Tryz.prog (Builtin.append_ #[ty.Dg,ty.Dg] ty.Dg #[.slice ac nx cx,.slice aq nq cq]) f w:=by
 subst hx;subst hq;exact T8 S hn hs hl hf
set_option maxHeartbeats 4000000 in
theorem Aba(S:ST w0 w (DZ b ca cc pa pc ka kc C++H))(hC:D6 C)(hm:H[m]?=some (It.rd a (l.map Ag)))(hc:l.length<=c)(hs:l.length<=140737488355328) :
  Calls Tryz.prog f.MM #[.pointer (some ⟨b,0,none⟩),.slice a l.length c] w (AG (Hc w0 H b C)):=by
 apply R.Ih
 delta R.A R.Ab R.Ad1 R.Gz R.Bz R.Cb R.Ci R.Ct R.D R.E R.F R.H R.I R.J R.Ks R.Li R.Ls R.N R.O R.P R.MJ R.Ll R.Rs R.S R.Am R.T R.W R.X R.Y;try dsimp only [R.Ps]
 have iZ:=hC.np;have bM:C.AM.length<=16:=by
  rcases hC.AM with h | h
  ·rw [h];simp
  ·exact (A6 h).2
 have hK:∀ v w',Hc w0 H b C v w'->Hc w0 H b C v w':=λ _ _ h=>h;refine S.An λ b3 w1 _ B1 S=>(AJ (c:=c) (S.get (m+5) hm) (by omega) 1 (by decide)).mono ?_;rintro _ w2 ⟨_,rfl,rfl,e2⟩;subst e2;obtain⟨n1,k1,e1,hv1,cm,eN,hx1⟩:=Ed _ (rfl:takeN l 1=takeN l 1);rw [hv1];refine⟨_,_,_,rfl,Ah (λ _=>dno (K:=Hc w0 H b C) hK hC S 220) (λ _=>Aa (λ _=>dno (K:=Hc w0 H b C) hK hC S 220) (λ g1=>Aa (λ _=>dno (K:=Hc w0 H b C) hK hC S 220) (λ g2=>?_)))⟩;rw [wrap_i64 (n:=(n1:Int)) (by omega) (by omega)];let L:Option Addr->Nat->List ByteArray->List It:=λ na nc ns=>It.row ty.string 1 na ns.length nc (ns.map Value.string) :: It.cells b3 #[.int .i64 0,.int .i64 0] ty.A0 :: (DZ b ca cc pa pc ka kc C++H);have F:∀ {wx:World} {na:Option Addr} {nc:Nat} {ns:List ByteArray},ST w0 wx (L na nc ns)->_:=λ {wx na nc ns} S=>dno (K:=Hc w0 H b C) hK hC (S.drop 1);refine⟨λ s wx=>∃(i at_:Nat) (na:Option Addr) (nc:Nat) (ns:List ByteArray),s=[.int .i64 (at_:Int),.slice na ns.length nc,.int .i64 (i:Int)]/\i<=n1/\ns.length=i/\at_<=l.length/\ST w0 wx (L na nc ns),λ s _=>match s with
  | [_,_,.int _ i]=>n1-i.toNat
  | _=>0,⟨0,k1,none,0,[],rfl,by omega,rfl,cm,S.nil ty.string 1⟩,?_⟩
 clear S;rintro _ na _ nc _ w9 ⟨i,aZ,_,_,ns,aA,hi,bn,kO,S⟩;cases aA;refine Aa (λ aB=>?_) (λ aJ=>?_)
 ·refine (Ec (S.get (m+6) hm) hc (by omega) (aZ:Int) (by omega) 64).mono ?_;rintro _ bZ ⟨_,rfl,rfl,pr⟩;subst pr;obtain⟨s,k,e,hv,hk,hse⟩:=Z4 (l:=l) (at_:=aZ) (most:=64);rw [hv];refine⟨_,_,_,rfl,Ah (λ _=>F S 220) (λ _=>Ah (λ _=>F S 220) (λ _=>S.An λ xn ah _ _ S=>?_))⟩;have jH:(ns.map Value.string).length=ns.length:=by simp
  refine S.app 1 rfl Up rfl (by omega) (by omega) (news:=[.string s]) (S.Gw 0 rfl) (mm:=1) rfl (by simp;rfl) (by omega) λ a' c' cf S=>⟨_,_,_,rfl,?_⟩;have e1:ns.length+1=(ns++[s]).length:=by simp
  have e2:ns.map Value.string++[.string s]=(ns++[s]).map Value.string:=by simp
  rw [e1,e2] at S;rw [Ae (by omega),e1];exact⟨⟨i+1,k,a',c',ns++[s],rfl,by omega,by simp [bn],hk,S.drop 1⟩,by simp only [Ak4];omega⟩
 refine (Ec (S.get (m+6) hm) hc (by omega) (aZ:Int) (by omega) 262144).mono ?_;rintro _ cP ⟨_,rfl,rfl,vT⟩;subst vT;obtain⟨t,k2,e,hv,ax,hse⟩:=Z4 (l:=l) (at_:=aZ) (most:=262144);rw [hv];refine⟨_,_,_,rfl,Ah (λ _=>F S 220) (λ he=>Ah (λ _=>F S 220) (λ _=>?_))⟩;have ht:=hse he;refine (AeR (S.drop 2) (S.rd 0 rfl) (by omega) hC).mono ?_;rintro _ iM ⟨_,rfl,kU,z,rfl,hz⟩;have S:=S.grown kU;refine⟨_,rfl,(Ng t (by omega)).mono ?_⟩;rintro _ gW ⟨_,rfl,iy,hR⟩;have S:=S.grown iy;rcases hR with ⟨cs,ps,a4,c4,bo,rfl,al,rL,aK,hI⟩ | ⟨rfl,_⟩ | ⟨rfl,_⟩;rotate_left
 ·refine⟨_,_,_,_,_,_,_,rfl,_,_,_,S.cell 2 rfl rfl,(Gs (ls:=[]) (Rd.nil _ _) (S.rd 3 rfl) (by simp)).mono ?_⟩;rintro _ fJ ⟨_,rfl,ju,rfl⟩;exact⟨_,rfl,Aa (λ _=>F (S.grown ju) 2) (λ _=>Ah (λ _=>F (S.grown ju) 2) (λ h=>by cases h))⟩
 ·refine⟨_,_,_,_,_,_,_,rfl,_,_,_,S.cell 2 rfl rfl,(Gs (ls:=[]) (Rd.nil _ _) (S.rd 3 rfl) (by simp)).mono ?_⟩;rintro _ fJ ⟨_,rfl,ju,rfl⟩;exact⟨_,rfl,Aa (λ _=>F (S.grown ju) 2) (λ _=>Ah (λ _=>F (S.grown ju) 2) (λ h=>by cases h))⟩
 have bL:ps.length<=1024:=by have:=aK.len;simpa [rws] using this
 refine⟨_,_,_,_,_,_,_,rfl,_,_,_,S.cell 2 rfl rfl,(Gs al (S.rd 3 rfl) (by have:=(A6 aK.right).2;omega)).mono ?_⟩;rintro _ fJ ⟨_,rfl,ju,rfl⟩;have S:=S.grown ju;refine⟨_,rfl,Aa (λ _=>F S 2) (λ nw=>Ah (λ h=>absurd rfl h) (λ _=>Au (Aa (λ m6=>?_) (λ _=>F S 2))))⟩;obtain⟨q,rfl,hq⟩:=hz.resolve_left nw;have sZ:∀ k,k<=ns.length->A4 ((C.parts.drop q).take k)<=262144:=λ k hk=>by
  have h1:=IZ (ps:=(C.parts.drop q).take k) λ p hp=>hC.rows p (AmR (Al3 hp));rw [AlX] at h1;omega
 refine⟨λ s wx=>wx=fJ/\∃ k:Nat,s=[.int .i64 (A4 ((C.parts.drop q).take k):Int),.int .i64 (k:Int)]/\k<=ns.length,λ s _=>match s with
  | [_,.int _ k]=>ns.length-k.toNat
  | _=>0,⟨rfl,0,rfl,by omega⟩,?_⟩
 rintro _ _ kB ⟨xC,k,aA,hk⟩;subst xC;cases aA;refine Aa (λ aB=>?_) (λ pj=>?_)
 ·have aO:k<ns.length:=by omega
  have ew:IntKind.i64.wrap ((q:Int)+(k:Int))=((q+k:Nat):Int):=by rw [wrap_i64 (by omega) (by omega)];omega
  have hqk:q+k<C.parts.length:=by omega
  refine⟨_,_,_,S.cell 2 rfl rfl,?_⟩;rw [ew];obtain⟨p,hp,_,d1⟩:=LG (S.rd 4 rfl) hqk;subst hp;refine⟨⟨by omega,by omega⟩,_,by rw [Ak4];exact d1,?_⟩;have ri:k<(C.parts.drop q).length:=by rw [Alu];omega
  have es:A4 ((C.parts.drop q).take (k+1))=A4 ((C.parts.drop q).take k)+C.parts[q+k].2:=by
   rw [AlW ri,Gg,AmS]
  have hb:=sZ (k+1) (by omega);have kR:IntKind.i64.wrap ((A4 ((C.parts.drop q).take k):Int)+(C.parts[q+k].2:Int))=(A4 ((C.parts.drop q).take (k+1)):Int):=by
   rw [wrap_i64 (by omega) (by omega),es];omega
  rw [kR,Ae (by omega)];exact⟨⟨rfl,k+1,rfl,by omega⟩,by simp only [Ak4];omega⟩
 refine Ah (λ _=>F S 2) (λ _=>(Ni t (by omega)).mono ?_);rintro _ pX ⟨_,rfl,rfl,yv⟩;have S:=S.grown yv;obtain⟨nm,cC⟩:∃ nm,nm=Fe t:=⟨_,rfl⟩;rw [<- cC];refine⟨_,rfl,S.draw λ uD _ S=>?_⟩;have yI:C.parts.length<=pc:=(S.rw 4 rfl).le;refine⟨_,_,_,S.cell 2 rfl rfl,_,_,_,S.cell 2 rfl rfl,⟨by omega,by omega,by omega⟩,?_⟩;have ew:IntKind.i64.wrap ((q:Int)+(ns.length:Int))=((q+ns.length:Nat):Int):=by rw [wrap_i64 (by omega) (by omega)];omega
 rw [ew];simp only [Ak4,Amu];have oZ:((C.parts.drop 0).take q).length=q:=by rw [Amw,AlX];omega
 refine S.mk0 Sk (by omega) (by omega) λ bk rU S=>⟨_,_,_,rfl,S.cell 3 rfl rfl,?_⟩;refine AdP S (n:=0) (xs:=[]) (nx:=0) (nq:=q) rfl (Ahp (S.rd 5 rfl) 0 q pc (by omega)) rfl oZ (by omega) λ a1 c1 iU S=>⟨_,_,_,rfl,S.An λ b72 q7 _ _ S=>?_⟩;obtain⟨k3,iF⟩:∃ k3,k3=[]++(C.parts.drop 0).take q:=⟨_,rfl⟩;have nU:k3.length=q:=by rw [iF,Al4,oZ]
 rw [<- iF] at S ⊢;refine Vq S (n:=1) (ps:=k3) rfl (p:=(nm,ps.length)) (S.Gw 0 rfl) (by omega) λ a2 c2 jt S=>⟨_,_,_,rfl,_,_,_,S.cell 4 rfl rfl,⟨by omega,by omega,by omega⟩,?_⟩;obtain⟨k4,mQ⟩:∃ k4,k4=k3++[((nm,ps.length):H6)]:=⟨_,rfl⟩;have hk4l:k4.length=q+1:=by rw [mQ,Ak1,nU];rfl
 rw [<- mQ] at S ⊢;have bj:((C.parts.drop (q+ns.length)).take (C.parts.length-(q+ns.length))).length=C.parts.length-(q+ns.length):=by rw [AlX,Alu];omega
 refine AdP S (n:=1) (xs:=k4) (nx:=k4.length) (nq:=C.parts.length-(q+ns.length)) rfl (Ahp (S.rd 6 rfl) (q+ns.length) (C.parts.length-(q+ns.length)) pc (by omega)) rfl bj (by omega) λ a3 c3 tf S=>⟨_,_,_,rfl,?_⟩;obtain⟨k5,cl⟩:∃ k5,k5=k4++(C.parts.drop (q+ns.length)).take (C.parts.length-(q+ns.length)):=⟨_,rfl⟩;have vm:k5.length<=256:=by rw [cl,Ak1,bj];omega
 have qI:∀ p∈k5,p∈C.parts\/p=(nm,ps.length):=λ p hp=>by
  rw [cl,mQ,iF] at hp;rcases AlY.1 hp with h | h
  ·rcases AlY.1 h with h | h
   ·exact .inl (AmR (Al3 h))
   ·exact .inr (AlZ.1 h)
  ·exact .inl (AmR (Al3 h))
 rw [<- cl] at S ⊢
 try simp only [Av]
 refine S.BR 4 rfl (i:=1) (aC:=#[.slice ca C.AM.length cc,.slice a3 k5.length c3,.slice ka C.Dt.length kc]) (by simp) rfl λ pg S=>⟨_,_,_,S.cell 4 rfl rfl,S.An λ tw lH _ _ S=>?_⟩;have S:=S.IX 0 rfl (.refl _ _) (It.rd (some ⟨tw,0,none⟩) (BH [(nm,t)])) (S.Gw 0 rfl) (λ k hk=>.inl hk);have S:ST w0 lH (It.rd (some ⟨tw,0,none⟩) (BH [(nm,t)]) :: E1 a3 c3 k5 :: It.cells b3 #[.int .i64 0,.int .i64 0] ty.A0 :: It.cells b #[.slice ca C.AM.length cc,.slice a3 k5.length c3,.slice ka C.Dt.length kc] ty.Fg :: CK ca cc C.AM :: NC ka kc C.Dt :: H) :=
  S.sub (.cons_cons _ (.cons _ (.cons_cons _ (.cons _ (.cons_cons _ (.cons_cons _ (.cons_cons _ (.cons _ (.cons_cons _ (AmN _))))))))))
 have S:=((((S.pull 1 rfl).pull 4 rfl).pull 4 rfl).pull 3 rfl).pull 4 rfl;exact Qj (K:=Hc w0 H b C) S 0 (k5.length:Int) λ w' S=>⟨(0,k5.length),[(nm,t)],{ C with parts:=k5 },some ⟨tw,0,none⟩,_,_,_,_,_,_,rfl,⟨vm,hC.nc,λ p hp=>by
  rcases qI p hp with h | rfl
  ·exact hC.rows p h
  ·exact bL,hC.AM⟩,by simp,λ f hf=>by
  rw [AlZ.1 hf];show t.size<=_;omega,λ p hp=>(qI p hp).imp id λ h=>⟨(nm,t),AlZ.2 rfl,by rw [h]⟩,S⟩
end
section
variable {w0 w:World}{H:List It}{b cc pc kc:Nat}{ca pa ka:Option Addr}{C:YM}
theorem Ahm{q:Nat}{u v:Value}{X:It}{x:Value}(h:Hc w0 (X :: It.cells q #[u,v] ty.A0 :: H) b C x w) :
  ∃ p:Int,∃ r:Int,∃(f:Option Addr) (fl fc:Nat),x=.tuple #[.agg #[.int .i64 p,.int .i64 r],.slice f fl fc] /\
   DV ⟨q,0,none⟩ (.int .i64 p) (λ w=>DV ⟨q,1,none⟩ (.int .i64 r) (λ w=>∃ p':Int,w.cell? ⟨q,0,none⟩=some (.int .i64 p')/\∃ q':Int,w.cell? ⟨q,1,none⟩=some (.int .i64 q')/\Hc w0 H b C (.tuple #[.agg #[.int .i64 p',.int .i64 q'],.slice f fl fc]) w) w) w:=by
 obtain⟨d,fs,C',fa,gB,kg,di,dj,jq,kE,rfl,h1,h2,h3,h4,S⟩:=h;have S:ST w0 w (It.cells q #[u,v] ty.A0 :: (It.rd fa (BH fs) :: (DZ b gB kg di dj jq kE C'++H))) :=
  (S.pull 6 rfl).sub (.cons_cons _ (.cons_cons _ (.cons_cons _ (.cons_cons _ (.cons_cons _ (.cons_cons _ (.cons _ (AmN _))))))))
 exact⟨_,_,_,_,_,rfl,Qj (K:=Hc w0 H b C) S _ _ λ w' S=>⟨d,fs,C',fa,gB,kg,di,dj,jq,kE,rfl,h1,h2,h3,h4,S⟩⟩
theorem Aar(S:ST w0 w (DZ b ca cc pa pc ka kc C++H))(hC:D6 C)(s:ByteArray)(hs:s.size<=140737488355328) :
  Calls Tryz.prog f.MH #[.pointer (some ⟨b,0,none⟩),.string s] w (AG (Hc w0 H b C)):=by
 apply R.H9
 delta R.A R.Ab R.Be R.E R.F R.G R.H R.I R.Li R.Ly R.N R.O R.P R.Rs R.S R.Am R.T R.X R.Zb;try dsimp only [R.Ps]
 have au:=A9 s;have hK:∀ v w',Hc w0 H b C v w'->Hc w0 H b C v w':=λ _ _ h=>h;refine S.An λ b3 w1 _ B1 S=>CF CB s w1 λ b0 c0 cells e0 w2 bh B2 eL al iY dA=>?_;have hr:Rd w2 (some ⟨b0,0,none⟩) ((bl s).map Ag):=by
  have:=(Rd.Ak eL).take s.size;rw [dA] at this;exact this
 have S:ST w0 w2 (It.rd (some ⟨b0,0,none⟩) ((bl s).map Ag) :: (DZ b ca cc pa pc ka kc C++(It.cells b3 #[.int .i64 0,.int .i64 0] ty.A0 :: H))) :=
  PD (S.perm List.perm_middle.symm) B2 (⟨hr,λ k hk=>by cases hk;exact Nat.le_of_eq bh.symm⟩:Y1 w1 w2 _ _)
 have S:ST w0 w2 (DZ b ca cc pa pc ka kc C++(It.rd (some ⟨b0,0,none⟩) ((bl s).map Ag) :: It.cells b3 #[.int .i64 0,.int .i64 0] ty.A0 :: H)):=S.perm List.perm_middle.symm;obtain⟨l,hl⟩:∃ l,l=bl s:=⟨_,rfl⟩;rw [<- hl] at au S hr;have oH:l.length<=c0:=by omega
 have S9:ST w0 w2 (It.cells b3 #[.int .i64 0,.int .i64 0] ty.A0 :: (DZ b ca cc pa pc ka kc C++H)) :=
  (S.pull 5 rfl).sub (.cons_cons _ (.cons_cons _ (.cons_cons _ (.cons_cons _ (.cons_cons _ (.cons _ (AmN _)))))))
 refine⟨_,_,_,rfl,λ st wx=>wx=w2/\∃ t,st=[.bool t]/\(t=true->0<s.size),Aa (λ h=>⟨rfl,_,rfl,λ _=>by omega⟩) (λ h=>⟨rfl,_,rfl,λ h=>by cases h⟩),?_⟩;rintro _ w3 ⟨e3,t,aA,ht⟩;subst e3;cases aA;refine Ap (λ h=>?_) (λ _=>dno (K:=Hc w0 H b C) hK hC S9 220);have h0:=ht h;rw [<- au];have hx:l≠[]:=λ e=>by rw [e] at au;simp at au;omega
 obtain⟨u,r,hur⟩:=List.exists_cons_of_ne_nil hx;obtain⟨p,hp,c1⟩:=hr 0 (Ag u) (by rw [hur];rfl);cases hp;refine⟨⟨by omega,by omega⟩,_,by simpa [Db,Ag] using c1,?_⟩;refine Ap (λ _=>?_) (λ _=>Ap (λ _=>?_) (λ _=>Ap (λ _=>?_) (λ _=>dno (K:=Hc w0 H b C) hK hC S9 220)))
 ·refine (Yc S hC (S.get 4 rfl) oH (by omega)).mono ?_;rintro _ w4 ⟨v,rfl,hD⟩;obtain⟨p,q,f,fl,fc,rfl,g⟩:=Ahm hD;exact⟨_,_,_,_,_,rfl,g⟩
 ·refine (XM (m:=0) S hC rfl oH (by omega)).mono ?_;rintro _ w4 ⟨v,rfl,hD⟩;obtain⟨p,q,f,fl,fc,rfl,g⟩:=Ahm hD;exact⟨_,_,_,_,_,rfl,g⟩
 ·refine (Aba (m:=0) S hC rfl oH (by omega)).mono ?_;rintro _ w4 ⟨v,rfl,hD⟩;obtain⟨p,q,f,fl,fc,rfl,g⟩:=Ahm hD;exact⟨_,_,_,_,_,rfl,g⟩
end
theorem Aaw{x:Int}{n:Nat}(h0:0<=x)(hn:0<n):∃ i:Nat,Int.tmod x (n:Int)=(i:Int)/\i<n:=by
 obtain⟨y,rfl⟩:=Int.eq_ofNat_of_zero_le h0;refine⟨y % n,?_,Nat.mod_lt _ hn⟩;rw [Int.tmod_eq_emod_of_nonneg (by omega)];rfl
theorem XX(x:Int)(hx : -9223372036854775808<=x/\x<=9223372036854775807)(n:Nat)(hn:0<n)(w:World):Calls Tryz.prog f.AcL #[.int .i64 x,.int .i64 (n:Int)] w (AG λ v w'=>w'=w/\∃ i:Nat,v=.int .i64 (i:Int)/\i<n):=by
 apply R.RW
 delta R.F R.I R.W;try dsimp only [R.Ps]
 refine Aa (λ h=>⟨by omega,?_⟩) (λ h=>⟨by omega,?_⟩)
 ·have e1:IntKind.i64.wrap (x+1)=x+1:=wrap_i64 (by omega) (by omega);have e2:IntKind.i64.wrap (0-(x+1))=0-(x+1):=wrap_i64 (by omega) (by omega);rw [e1,e2];obtain⟨i,hi,aB⟩:=Aaw (x:=0-(x+1)) (n:=n) (by omega) hn;exact⟨rfl,i,by rw [hi],aB⟩
 ·obtain⟨i,hi,aB⟩:=Aaw (x:=x) (n:=n) (by omega) hn;exact⟨rfl,i,by rw [hi],aB⟩
theorem Afm(fs:List Kv)(i:Nat)(hi:i<fs.length):(BH fs)[i*2]?=some (.string fs[i].1)/\(BH fs)[i*2+1]?=some (.string fs[i].2):=by
 induction fs generalizing i with
 | nil=>simp at hi
 | cons f fs ih =>
  have e:BH (f :: fs)=.string f.1 :: .string f.2 :: BH fs:=rfl;cases i with
  | zero=>exact⟨rfl,rfl⟩
  | succ i =>
   have h:=ih i (by simpa using hi);rw [e,show (i+1)*2=i*2+1+1 by omega];exact h
abbrev Grp:=Option Addr × Nat × List BG
def VP(g:Grp):Value:=.slice g.1 g.2.2.length g.2.1
def Q1(g:Grp):List It:=match g.1 with
 | none=>[]
 | some p=>Fp p.block g.2.2
def P6(g:Grp):Prop:=((g.1=none/\g.2.2=[])\/∃ bo,g.1=some ⟨bo,0,none⟩)/\g.2.2.length<=1024/\∀ r∈rws g.2.2,∀ v∈r,BN v
def Xx(a:Option Addr)(c:Nat)(gs:List Grp):It:=It.row ty.Cd 1 a gs.length c (gs.map VP)
theorem AjE:MN Tryz.prog 33=some (ty.Cd,1,24,.slice none 0 0):=by kernel_rfl
section
variable {w0 w:World}{H:List It}{b cc pc kc:Nat}{ca pa ka:Option Addr}{C:YM}{fa:Option Addr}{fc:Nat}{fs:List Kv}
theorem AhH(h:Rd w fa (BH fs)){i:Nat}(hi:i<fs.length):∃ p,fa=some p/\w.cell? (p.add (i*2))=some (.string fs[i].1)/\w.cell? ((p.add (i*2)).add 1)=some (.string fs[i].2):=by
 obtain⟨h0,h1⟩:=Afm fs i hi;obtain⟨p,hp,c0⟩:=h (i*2) _ h0;obtain⟨q,hq,c1⟩:=h (i*2+1) _ h1;rw [hp] at hq;cases hq;exact⟨p,hp,c0,by rw [BK];exact c1⟩
set_option maxHeartbeats 1000000 in
theorem AhS(S:ST w0 w (DZ b ca cc pa pc ka kc C++H))(hC:D6 C)(hf:Rd w fa (BH fs))(cj:fs.length<=1000000)(aw:∀ f∈fs,f.2.size<=140737488355328)(aF:∀ p∈C.parts,∃ f∈fs,f.1=p.1) :
  Calls Tryz.prog f.Acp #[.pointer (some ⟨b,0,none⟩),.slice fa fs.length fc] w (AG λ v w'=>∃(oa:Option Addr) (oc:Nat) (gs:List Grp),v=.tuple #[.slice fa fs.length fc,.slice oa gs.length oc]/\gs.length=C.parts.length/\(∀ g∈gs,P6 g)/\ST w w' (Xx oa oc gs :: gs.flatMap Q1)):=by
 apply R.Q3
 delta R.Ad1 R.D R.F R.H R.I R.J R.Ks R.Ls R.Lt R.N R.O R.ER R.S R.T R.W R.X;try dsimp only [R.Ps]
 have iZ:=hC.np;refine⟨λ s wx=>∃(i:Nat) (gs:List Grp) (oa:Option Addr) (oc:Nat),s=[.slice oa gs.length oc,.int .i64 (i:Int)]/\i<=C.parts.length/\gs.length=i/\(∀ g∈gs,P6 g)/\ST w wx (Xx oa oc gs :: gs.flatMap Q1),λ s _=>match s with
  | [_,.int _ i]=>C.parts.length-i.toNat
  | _=>0,⟨0,[],none,0,rfl,by omega,rfl,by simp,(ST.start w).nil _ _⟩,?_⟩
 rintro oa _ oc _ w1 ⟨i,gs,_,_,aA,hi,oM,jb,P⟩;cases aA;have S1:=S.grown P.Ar;refine⟨_,_,_,S1.cell 0 rfl rfl,Aa (λ aB=>?_) (λ aJ=>⟨oa,oc,gs,rfl,by omega,jb,P⟩)⟩;have aD:i<C.parts.length:=by omega
 refine⟨λ s wx=>∃ k:Nat,s=[.slice oa gs.length oc,.int .i64 (k:Int)]/\k<=fs.length/\(∀ j (hj:j<fs.length),j<k->fs[j].1≠C.parts[i].1)/\ST w wx (Xx oa oc gs :: gs.flatMap Q1),λ s _=>match s with
  | [_,.int _ k]=>fs.length-k.toNat
  | _=>0,⟨0,rfl,by omega,λ j _ hj=>by omega,P⟩,?_⟩
 clear P S1;rintro _ _ _ _ w2 ⟨k,aA,hk,aP,P⟩;cases aA;refine Aa (λ ao=>?_) (λ cB=>?_);rotate_left
 ·obtain⟨f,cV,hfe⟩:=aF _ (AlI aD);obtain⟨j,hj,rfl⟩:=List.getElem_of_mem cV;exact absurd hfe (aP j hj (by omega))
 have aO:k<fs.length:=by omega
 refine P.draw λ w3 B3 P=>?_;have S3:=S.grown P.Ar;obtain⟨p,hp,c0,c1⟩:=AhH (hf.grown P.Ar) aO;obtain⟨q,hq,d0,_⟩:=LG (S3.rd 2 rfl) aD;subst hp;refine⟨⟨by omega,by omega⟩,_,by rw [Ak4];exact c0,_,_,_,S3.cell 0 rfl rfl,⟨by omega,by omega⟩,?_⟩;subst hq;refine⟨_,by rw [Ak4];exact d0,?_⟩;rw [AZ];refine Aa (λ he=>?_) (λ he=>?_);rotate_left
 ·rw [Ae (by omega)];refine⟨⟨k+1,rfl,by omega,λ j hj ud=>?_,P⟩,by simp only [Ak4];omega⟩;by_cases h:j<k
  ·exact aP j hj h
  ·obtain rfl:j=k:=by omega
   exact he
 refine⟨⟨by omega,by omega⟩,_,by rw [Ak4];exact c1,(Ng fs[k].2 (aw _ (AlI aO))).mono ?_⟩;rintro _ w4 ⟨_,rfl,B4,hR⟩;have fin:∀(g:Grp) {x1:Option Addr} {x2 x3:Nat},P6 g->ST w3 w4 (Q1 g)->VP g=.slice x1 x2 x3->DT #[.slice x1 x2 x3] ty.Cd (λ pT w5=>DE Tryz.prog (Builtin.append_ #[33,33] 33 #[.slice oa gs.length oc,.slice (some ⟨pT,0,none⟩) 1 1]) (λ r w6=>∃(t:Option Addr) (tl tc:Nat),r=.slice t tl tc /\
   (∃(i':Nat) (nP:List Grp) (xr:Option Addr) (xe:Nat),[Value.slice t tl tc,.int .i64 (IntKind.i64.wrap ((i:Int)+1))]=[.slice xr nP.length xe,.int .i64 (i':Int)]/\i'<=C.parts.length/\nP.length=i'/\(∀ g∈nP,P6 g)/\ST w w6 (Xx xr xe nP :: nP.flatMap Q1))/\C.parts.length-(IntKind.i64.wrap ((i:Int)+1)).toNat<C.parts.length-((i:Int)).toNat) w5) w4:=λ g x1 x2 x3 hg T hv=>by
  have P:=P.join T;refine P.An λ pT w5 _ _ P=>?_;have P:ST w w5 (It.cells pT #[.slice x1 x2 x3] ty.Cd :: Xx oa oc gs :: (Q1 g++gs.flatMap Q1)):=P.perm (.cons _ List.perm_middle);refine P.app 1 rfl AjE rfl (by omega) (by omega) (news:=[.slice x1 x2 x3]) (P.Gw 0 rfl) (mm:=1) rfl (by simp;rfl) (by omega) λ a' c' w6 P=>⟨_,_,_,rfl,?_⟩;rw [Ae (by omega)];have e1:gs.length+1=(gs++[g]).length:=by simp
  have e2:gs.map VP++[.slice x1 x2 x3]=(gs++[g]).map VP:=by simp [hv]
  rw [e1,e2] at P;rw [e1];refine⟨⟨i+1,gs++[g],a',c',rfl,by omega,by simp [oM],λ g' bC=>?_,?_⟩,by simp only [Ak4];omega⟩
  ·rcases AlY.1 bC with h | h
   ·exact jb g' h
   ·rw [AlZ.1 h];exact hg
  ·have P:=P.drop 1;refine P.perm (.cons _ ?_);rw [AmM];simpa using List.perm_append_comm (l₁:=Q1 g) (l₂:=gs.flatMap Q1)
 rcases hR with ⟨cs,ps,a4,c4,bo,rfl,al,rL,aK,hI,hG⟩ | ⟨rfl,_⟩ | ⟨rfl,_⟩
 ·have bL:ps.length<=1024:=by have:=aK.len;simpa [rws] using this
  exact⟨_,_,_,_,_,_,_,rfl,fin (some ⟨bo,0,none⟩,ps.length,ps) ⟨.inr ⟨bo,rfl⟩,bL,aK.ok⟩ hG rfl⟩
 ·exact⟨_,_,_,_,_,_,_,rfl,fin (none,0,[]) ⟨.inl ⟨rfl,rfl⟩,by simp,by simp⟩ ((ST.start w3).grown B4) rfl⟩
 ·exact⟨_,_,_,_,_,_,_,rfl,fin (none,0,[]) ⟨.inl ⟨rfl,rfl⟩,by simp,by simp⟩ ((ST.start w3).grown B4) rfl⟩
end
theorem Ahn{α:Type}(l:List α)(n:Nat):l.take (l.take n).length=l.take n:=by
 rw [AlX];rcases Nat.le_total n l.length with h | h
 ·rw [Nat.min_eq_left h]
 ·rw [Nat.min_eq_right h,Al0,AlA h]
section
variable {w:World}{a a2 a3:Option Addr}{c c2 c3:Nat}{cs:List BQ}{ps:List BG}{ns:List ByteArray}
theorem Bb.first(h:Bb w a ps)(n:Nat)(hn:n<=c):Bb w (Ck a 0 c 1) (ps.take n):=by
 refine⟨?_,λ p hp=>h.each p (Al3 hp)⟩;have:=h.top.OV 0 n c 1 hn;simp only [Amw,Amu,Ak7] at this;rwa [Alw]
end
theorem Afg(ns:List ByteArray)(s:ByteArray):∃ t e,V5 ns s=.tuple #[.string t,.int .i64 e]/\t.size<=262144:=by
 unfold V5;split
 ·rename_i h;refine⟨_,_,rfl,?_⟩;rw [AY];unfold Tm at h;split at h
  ·cases h
  ·split at h
   ·cases h
   ·omega
 ·exact⟨_,_,rfl,by rw [AY];simp⟩
theorem D6.Ajy{C:YM}(h:D6 C):C.AM.length<=16/\∀ c∈C.AM,c.1.size<=9223372036854775807:=by
 rcases h.AM with e | e
 ·rw [e];exact⟨by simp,by simp⟩
 ·exact⟨(A6 e).2,λ c hc=>by have:=(Dq e hc).2.2.2;omega⟩
section
variable {w0 w:World}{H:List It}{b cc pc kc:Nat}{ca pa ka:Option Addr}{C:YM}{ra:Option Addr}{rc:Nat}{gs:List Grp}
set_option maxHeartbeats 2000000 in
theorem Aec(S:ST w0 w (DZ b ca cc pa pc ka kc C++H))(hC:D6 C)(hg:Rd w ra (gs.map VP))(oM:gs.length=C.parts.length)(jb:∀ g∈gs,P6 g)(ob:∀ g∈gs,Bb w g.1 g.2.2)
  (x0 x1 x2 x5 x6:Int) (h5 : -9223372036854775808<=x5/\x5<=9223372036854775807) (h6 : -9223372036854775808<=x6/\x6<=9223372036854775807) (a3 a4:Option Addr) (l3 c3 l4 c4:Nat) (x7:Bool) (x8:ByteArray) :
  Calls Tryz.prog f.Y2 #[.pointer (some ⟨b,0,none⟩),.slice ra gs.length rc,.agg #[.int .i64 x0,.int .i64 x1,.int .i64 x2,.slice a3 l3 c3,.slice a4 l4 c4,.int .i64 x5,.int .i64 x6,.bool x7,.string x8]] w (AG λ v w'=>∃ s:ByteArray,v=.string s/\s.size<=262144/\Below w.heap.size w w'):=by
 apply R.Og
 delta R.Ab R.Ad R.Iy R.Ci R.D R.F R.G R.I R.J R.Ks R.Lb R.Li R.Ls R.Lt R.N R.O R.Ad4 R.S R.T R.W R.X R.Y R.Zs;try dsimp only [R.Ps]
 have iZ:=hC.np;refine (ST.start w).An λ df w1 _ B1 P=>?_;have S1:=S.grown P.Ar;refine⟨_,_,_,S1.cell 0 rfl rfl,Aa (λ _=>⟨_,rfl,by show (0:Nat)<=_;omega,P.Ar⟩) (λ h2=>?_)⟩;have h2:2<=C.parts.length:=by omega
 refine P.draw λ w2 B2 P=>?_;have S2:=S.grown P.Ar;refine⟨_,P.cell 0 rfl rfl,_,_,_,S2.cell 0 rfl rfl,?_⟩;have ew:IntKind.i64.wrap ((C.parts.length:Int)-1)=((C.parts.length-1:Nat):Int):=by rw [wrap_i64 (by omega) (by omega)];omega
 rw [ew];refine (XX x5 h5 (C.parts.length-1) (by omega) w2).mono ?_;rintro _ w3 ⟨_,rfl,e3,p,rfl,hp⟩;subst e3;refine⟨_,rfl,P.draw λ w4 B4 P=>?_⟩;have S4:=S.grown P.Ar;refine⟨_,P.cell 0 rfl rfl,_,_,_,S4.cell 0 rfl rfl,(XX x6 h6 3 (by omega) w4).mono ?_⟩;rintro _ w5 ⟨_,rfl,e5,n,rfl,hn⟩;subst e5;refine⟨_,rfl,S4.cell 0 rfl rfl,?_⟩;have e1:IntKind.i64.wrap ((C.parts.length:Int)-(p:Int))=((C.parts.length-p:Nat):Int):=by rw [wrap_i64 (by omega) (by omega)];omega
 have e2:IntKind.i64.wrap (2+(n:Int))=((2+n:Nat):Int):=by rw [wrap_i64 (by omega) (by omega)];omega
 rw [e1,e2];obtain⟨m,hm⟩:∃ m:Nat,m=min (C.parts.length-p) (2+n):=⟨_,rfl⟩;have em:(if ((C.parts.length-p:Nat):Int)<((2+n:Nat):Int) then ((C.parts.length-p:Nat):Int) else ((2+n:Nat):Int))=(m:Int):=by split <;> omega
 rw [em];refine⟨λ s wx=>∃(i:Nat) (ns:List ByteArray) (na:Option Addr) (nc:Nat) (qs:List BG) (qa:Option Addr) (qc:Nat),s=[.slice na ns.length nc,.slice qa qs.length qc,.int .i64 (i:Int)]/\i<=m/\ns.length=i/\qs.length<=i*1024/\(∀ r∈qs,Rd w r.1 (AO r.2.2))/\(∀ r∈rws qs,∀ v∈r,BN v) /\
   ST w wx [GI qa qc qs,It.row ty.string 1 na ns.length nc (ns.map Value.string),It.cells df #[.int .i64 x0,.int .i64 x1,.int .i64 x2,.slice a3 l3 c3,.slice a4 l4 c4,.int .i64 x5,.int .i64 x6,.bool x7,.string x8] 37],λ s _=>match s with
  | [_,_,.int _ i]=>m-i.toNat
  | _=>0,⟨0,[],none,0,[],none,0,rfl,by omega,rfl,by simp,by simp,by simp,(P.nil ty.string 1).nil ty.CH 1⟩,?_⟩
 clear P S1 S2 S4;rintro na _ nc qa _ qc _ w6 ⟨i,ns,_,_,qs,_,_,aA,hi,bn,kQ,xU,we,P⟩;cases aA;refine Aa (λ aB=>?_) (λ aJ=>?_)
 ·have hpi:p+i<C.parts.length:=by omega
  have kR:IntKind.i64.wrap ((p:Int)+(i:Int))=((p+i:Nat):Int):=by rw [wrap_i64 (by omega) (by omega)];omega
  have S6:=S.grown P.Ar;refine⟨_,_,_,S6.cell 0 rfl rfl,?_⟩;rw [kR];obtain⟨q,hq,d0,_⟩:=LG (S6.rd 2 rfl) hpi;subst hq;refine⟨⟨by omega,by omega⟩,_,by rw [Ak4];exact d0,P.An λ ox w7 _ _ P=>?_⟩;refine P.app 2 rfl Up rfl (by omega) (by omega) (news:=[.string C.parts[p+i].1]) (P.Gw 0 rfl) (mm:=1) rfl (by simp;rfl) (by omega) λ a' c' w8 P=>⟨_,_,_,rfl,⟨by omega,by omega⟩,?_⟩;have yc:p+i<gs.length:=by omega
  obtain⟨g,aJ⟩:∃ g,g=gs[p+i]:=⟨_,rfl⟩;have rH:g∈gs:=aJ ▸ AlI yc;obtain⟨t,ht,hc⟩:=(hg.grown P.Ar) (p+i) (VP g) (by rw [aJ];simp [yc]);subst ht;refine⟨_,_,_,by rw [Ak4,Ak7];exact hc,?_⟩;have hgr:=(ob g rH).grown P.Ar;have hgk:=(jb g rH).2.1;refine P.app 1 rfl Adg rfl (by omega) (by omega) (news:=g.2.2.map Cz) hgr.top (by simp) (by rintro u hu;obtain⟨r,_,rfl⟩:=AkK.1 hu;rfl) (by omega) λ rZ rM w9 P=>⟨_,_,_,rfl,?_⟩;obtain⟨nm,cC⟩:∃ nm,nm=C.parts[p+i].1:=⟨_,rfl⟩;rw [<- cC] at P;have e1:ns.length+1=(ns++[nm]).length:=by simp
  have e2:ns.map Value.string++[.string nm]=(ns++[nm]).map Value.string:=by simp
  have e3:qs.length+g.2.2.length=(qs++g.2.2).length:=by simp
  have e4:qs.map Cz++g.2.2.map Cz=(qs++g.2.2).map Cz:=by simp
  rw [e1,e2,e3,e4] at P;rw [e1,e3,Ae (by omega)];refine⟨⟨i+1,ns++[nm],a',c',qs++g.2.2,rZ,rM,rfl,by omega,by simp [bn],by rw [Ak1];omega,λ r hr=>?_,λ r hr=>?_,P.drop 1⟩,by simp only [Ak4];omega⟩
  ·rcases AlY.1 hr with h | h
   ·exact xU r h
   ·exact (ob g rH).each r h
  ·have hr:r∈rws qs\/r∈rws g.2.2:=by
    have:r∈(qs++g.2.2).map (·.2.2):=hr;rw [List.map_append] at this;exact AlY.1 this
   rcases hr with h | h
   ·exact we r h
   ·exact (jb g rH).2.2 r h
 have p9:Bb w6 qa qs:=⟨P.rd 0 rfl,λ r hr=>(xU r hr).grown P.Ar⟩;refine⟨λ st wx=>wx=w6/\∃(eP:List BG) (oQ:Option Addr) (rP:Nat),st=[.slice oQ eP.length rP]/\Bb w6 oQ eP/\eP.length<=10000/\(∀ r∈rws eP,∀ v∈r,BN v),⟨_,P.cell 2 rfl rfl,?_⟩,?_⟩
 ·have same:(λ (st:List Value) (wx:World)=>wx=w6/\∃(eP:List BG) (oQ:Option Addr) (rP:Nat),st=[.slice oQ eP.length rP]/\Bb w6 oQ eP/\eP.length<=10000/\(∀ r∈rws eP,∀ v∈r,BN v)) [.slice qa qs.length qc] w6:=⟨rfl,qs,qa,qc,rfl,p9,by omega,we⟩;refine Ap (λ _=>Aa (λ h1=>?_) (λ _=>same)) (λ _=>same);have hqc:qs.length<=qc:=(P.rw 0 rfl).le;refine⟨⟨by omega,by omega,by omega⟩,rfl,qs.drop 1,Ck qa 1 qc 1,qc-1,by rw [Alu],⟨?_,λ r hr=>p9.each r (AmR hr)⟩,by rw [Alu];omega,λ r hr=>?_⟩
  ·have:=p9.top.OV 1 qs.length qc 1 hqc;simp only [Ak7] at this;rwa [AlA (by rw [Alu,Alh];omega),<- List.map_drop] at this
  ·obtain⟨r',fx,rfl⟩:=AkK.1 hr;exact we _ (AkK.2 ⟨r',AmR fx,rfl⟩)
 rintro oQ _ rP bZ ⟨pr,eP,_,_,aA,cu,yz,ub⟩;subst pr;cases aA;have k6:=S.grown P.Ar;obtain⟨bM,hcq⟩:=hC.Ajy;refine⟨_,_,_,k6.cell 0 rfl rfl,(HV (k6.rd 1 rfl) (by omega) hcq cu (by omega) ub).mono ?_⟩;rintro _ aX ⟨_,rfl,hV,cF⟩;have P:=P.grown cF;obtain⟨t,e,rfl,ht⟩:=hV.open;refine⟨_,_,rfl,Ah (λ _=>⟨_,rfl,by show (0:Nat)<=_;omega,P.Ar⟩) (λ _=>?_)⟩;refine (VK (P.rd 1 rfl) (by omega) t).mono ?_;rintro _ bJ ⟨_,rfl,rfl,ig⟩;obtain⟨u,e',hu,hus⟩:=Afg ns t;rw [hu];exact⟨_,_,rfl,_,rfl,hus,(P.grown ig).Ar⟩
end
theorem Aev(cs:List BQ):∃ t e,YK cs=.tuple #[.string t,.int .i64 e]/\t.size<=262144:=by
 unfold YK;split
 ·rename_i h;refine⟨_,_,rfl,?_⟩;rw [AY];have:=GH h;simp only [MK,Ak3];omega
 ·exact⟨_,_,rfl,by first | (rw [AY];simp) | (show (0:Nat)<=_;omega)⟩
theorem Ad2(x y:Int)(cs:List BQ)(rows:List (List AB)):∃ t e,LQ x y cs rows=.tuple #[.string t,.int .i64 e]/\t.size<=262144:=by
 unfold LQ;split
 ·rename_i h;refine⟨_,_,rfl,?_⟩;rw [AY];unfold JW at h;split at h
  ·cases h
  ·split at h
   ·rename_i h2;exact absurd h h2
   ·split at h
    ·cases h
    ·omega
 ·exact⟨_,_,rfl,by first | (rw [AY];simp) | (show (0:Nat)<=_;omega)⟩
section
variable {w0 w:World}{H:List It}{b cc pc kc:Nat}{ca pa ka:Option Addr}{C:YM}{ra:Option Addr}{rc:Nat}{gs:List Grp}{cs:List BQ}{ps:List BG}
set_option maxHeartbeats 1000000 in
theorem Ab0(S:ST w0 w (DZ b ca cc pa pc ka kc C++H))(hC:D6 C)(hg:Rd w ra (gs.map VP))(oM:gs.length=C.parts.length)(jb:∀ g∈gs,P6 g)(ob:∀ g∈gs,Bb w g.1 g.2.2)
  (x0 x1 x2 x5 x6:Int) (h0 : -9223372036854775808<=x0/\x0<=9223372036854775807) (h5 : -9223372036854775808<=x5/\x5<=9223372036854775807) (h6 : -9223372036854775808<=x6/\x6<=9223372036854775807) (a3 a4:Option Addr) (c3 c4:Nat) (x7:Bool) (x8:ByteArray) (h8:x8.size<=140737488355328)
  (al:Rd w a3 (BM cs)) (hn:cs.length<=9223372036854775807) (hq:∀ c∈cs,c.1.size<=9223372036854775807) (hr:Bb w a4 ps) (hm:ps.length<=9223372036854775807) (hv:∀ r∈rws ps,∀ v∈r,BN v) (yI:ps.length<=c4) :
  Calls Tryz.prog f.NB #[.pointer (some ⟨b,0,none⟩),.slice ra gs.length rc,.agg #[.int .i64 x0,.int .i64 x1,.int .i64 x2,.slice a3 cs.length c3,.slice a4 ps.length c4,.int .i64 x5,.int .i64 x6,.bool x7,.string x8]] w (AG λ v w'=>∃ s:ByteArray,v=.string s/\s.size<=140737488355328/\Below w.heap.size w w'):=by
 apply R.M5
 delta R.A R.Ab R.Iy R.Ci R.Ct R.D R.E R.F R.G R.I R.Lb R.Li R.Ls R.Lt R.N R.P R.S R.T R.Y;try dsimp only [R.Ps]
 refine (ST.start w).An λ df w1 _ B1 P=>⟨_,P.cell 0 rfl rfl,_,P.cell 0 rfl rfl,(XX x0 h0 4 (by omega) w1).mono ?_⟩;rintro _ w2 ⟨_,rfl,e2,p,rfl,hp⟩;subst e2;refine⟨_,rfl,Ao (λ _=>?_) (λ _=>Ao (λ _=>?_) (λ _=>Ao (λ _=>?_) (λ _=>⟨_,rfl,h8,P.Ar⟩)))⟩
 ·refine⟨_,_,_,P.cell 0 rfl rfl,(TM (al.grown P.Ar) hn hq).mono ?_⟩;rintro _ w3 ⟨_,rfl,rfl,B3⟩;obtain⟨t,e,ht,hs⟩:=Aev cs;rw [ht];exact⟨_,_,rfl,_,rfl,by omega,(P.grown B3).Ar⟩
 ·refine P.draw λ w4 B4 P=>⟨_,P.cell 0 rfl rfl,_,P.cell 0 rfl rfl,_,_,_,P.cell 0 rfl rfl,_,_,_,P.cell 0 rfl rfl,_,_,_,P.cell 0 rfl rfl,?_⟩;have e1:(if 40<(ps.length:Int) then 40 else (ps.length:Int))=((ps.take 40).length:Int):=by rw [AlX];split <;> omega
  have l1:(ps.take 40).length<=ps.length:=by rw [AlX];omega
  rw [e1];simp only [Ak4,Amu];have fx:Bb w (Ck a4 0 c4 1) (ps.take 40):=by
   have:=hr.first (c:=c4) (ps.take 40).length (by omega);rwa [Ahn] at this
  have vA:∀ r∈rws (ps.take 40),∀ v∈r,BN v:=λ r hr=>hv r (by
   obtain⟨p,hp,rfl⟩:=AkK.1 hr;exact AkK.2 ⟨p,Al3 hp,rfl⟩)
  refine⟨⟨by omega,by omega,by omega⟩,(TP x1 x2 (al.grown P.Ar) hn hq (fx.grown P.Ar) (by omega) vA).mono ?_⟩;rintro _ w5 ⟨_,rfl,rfl,B5⟩;obtain⟨t,e,ht,hs⟩:=Ad2 x1 x2 cs (rws (ps.take 40));rw [ht];exact⟨_,_,rfl,_,rfl,by omega,(P.grown B5).Ar⟩
 ·refine⟨_,P.cell 0 rfl rfl,_,P.cell 0 rfl rfl,_,P.cell 0 rfl rfl,_,_,_,P.cell 0 rfl rfl,_,_,_,P.cell 0 rfl rfl,_,P.cell 0 rfl rfl,_,P.cell 0 rfl rfl,_,P.cell 0 rfl rfl,_,P.cell 0 rfl rfl,?_⟩;refine (Aec (S.grown P.Ar) hC (hg.grown P.Ar) oM jb (λ g h=>(ob g h).grown P.Ar) x0 x1 x2 x5 x6 h5 h6 a3 a4 _ _ _ _ x7 x8).mono ?_;rintro _ w6 ⟨_,rfl,s,rfl,hs,B6⟩;exact⟨_,rfl,_,rfl,by omega,(P.grown B6).Ar⟩
end
section
variable {w0 w:World}{H:List It}{a a2:Option Addr}{c c2:Nat}
theorem Ahy{oa:Option Addr}{oc:Nat}{gs:List Grp}(S:ST w0 w (Xx oa oc gs :: gs.flatMap Q1))(jb:∀ g∈gs,P6 g):Rd w oa (gs.map VP)/\∀ g∈gs,Bb w g.1 g.2.2:=by
 refine⟨S.rd 0 rfl,λ g hg=>?_⟩;rcases (jb g hg).1 with ⟨h1,h2⟩ | ⟨bo,h1⟩
 ·rw [h1,h2];exact⟨Rd.nil _ _,by simp⟩
 ·have e:Q1 g=Fp bo g.2.2:=by unfold Q1;rw [h1]
  have cw:(Fp bo g.2.2).Sublist (gs.flatMap Q1):=by
   obtain⟨l1,l2,rfl⟩:=List.append_of_mem hg;rw [AmM,List.flatMap_cons,e];exact (List.sublist_append_left _ _).trans (List.sublist_append_right _ _)
  have S':ST w0 w ([]++Fp bo g.2.2):=(S.drop 1).sub cw;rw [h1];exact RX S'
end
def Od(ps:List H6)(i n:Nat):List H6:=(ps.drop i).take n
def Wf(ps:List H6)(i n:Nat)(p:H6):List H6:=ps.take i++[p]++ps.drop (i+n)
def SK(C:Cn)(ns:List ByteArray)(l:List UInt8)(i:Nat)(rows:List (List AB)):Prop :=
 Qg C.parts ns=some i/\Bv C.AM rows/\FO C.AM rows l/\rows.length=A4 (Od C.parts i ns.length)
def Ad3(C:Cn)(ns:List ByteArray)(t:ByteArray)(d:Nat × Nat)(fs:List Kv)(C':Cn):Prop :=
 ((∀ i rows,¬ SK C ns (bl t) i rows)/\d=(2,0)/\fs=[]/\C'=C) \/
  ∃ i rows,SK C ns (bl t) i rows/\C'={ C with parts:=Wf C.parts i ns.length (Fe t,rows.length) }/\d=(0,C'.parts.length)/\fs=[(Fe t,t)]
theorem Aft(ps:List H6)(i:Nat):(Bt ps).drop (i*2)=Bt (ps.drop i):=by
 have e:Bt ps=Bt (ps.take i)++Bt (ps.drop i):=by rw [<- FG,AmQ]
 by_cases h:i<=ps.length
 ·have hl:(Bt (ps.take i)).length=i*2:=by rw [Ey,AlX];omega
  rw [e,<- hl,Amk]
 ·have h1:ps.drop i=[]:=Als (by omega);rw [h1,Als (by rw [Ey];omega)];rfl
theorem AeK(ps:List H6)(i:Nat):(Bt ps).take (i*2)=Bt (ps.take i):=by
 have e:Bt ps=Bt (ps.take i)++Bt (ps.drop i):=by rw [<- FG,AmQ]
 by_cases h:i<=ps.length
 ·have hl:(Bt (ps.take i)).length=i*2:=by rw [Ey,AlX];omega
  rw [e,<- hl,AkW]
 ·rw [AlA (i:=i) (by omega),AlA (by rw [Ey];omega)]
section
variable {w0 w:World}{H:List It}{bc bm n N cc pc:Nat}{ca pa:Option Addr}{C:Cn}
theorem Ab8{a:Option Addr}{ps:List H6}(h:Rd w a (Bt ps))(i m c:Nat)(hm:i+m<=c):Rd w (Ck a i c 2) (Bt (Od ps i m)):=by
 have:=h.OV i (i+m) c 2 hm;rwa [Aft,show i+m-i=m by omega,AeK] at this
set_option maxHeartbeats 4000000 in
theorem Aff(T:I8 w0){q0 q1 q2 nc:Nat}{na:Option Addr}{ns:List ByteArray}{t:ByteArray}
  (S:ST w0 w (It.cells q0 #[.pointer (some ⟨bc,0,none⟩)] ty.A1 :: It.cells q1 #[.slice na ns.length nc] ty.Cx :: It.row ty.string 1 na ns.length nc (ns.map Value.string) :: It.cells q2 #[.string t] ty.string :: (Co bc ca cc pa pc bm n C++H)))
  (h1:2<=ns.length) (hn:ns.length<=256) (ht:t.size<=262144) (hC:ND C) (bg:ca=none↔C.AM=[]) (hN:n<=N) :
  Calls Tryz.prog f.Fj #[.pointer (some ⟨q0,0,none⟩),.pointer (some ⟨q1,0,none⟩),.pointer (some ⟨q2,0,none⟩)] w (AG (VM w0 H bc bm (N+1) (Ad3 C ns t))):=by
 apply R.Gc
 delta R.A R.Ab R.Be R.Ajq R.Cb R.Ci R.Cs R.Ct R.D R.E R.F R.H R.I R.J R.Li R.Lp R.Ls R.Lt R.N R.P R.S R.Am R.T R.W R.Y R.Zp;try dsimp only [R.Ps]
 have iZ:=hC.np;refine S.An λ b4 w1 _ _ S=>⟨_,S.cell 1 rfl rfl,_,_,_,S.cell 2 rfl rfl,?_⟩;refine (AhL (S.drop 5) (S.rd 3 rfl) (by omega) (by omega) (by omega)).mono ?_;rintro _ w2 ⟨_,rfl,rfl,e2⟩;subst e2;refine⟨_,rfl,_,S.cell 4 rfl rfl,(SZ (T.grown S.Ar) t (by omega)).mono ?_⟩;rintro _ w3 ⟨_,rfl,B3,hO⟩;have S:=S.grown B3;let Y:Nat->List It:=λ _=>[It.cells q0 #[.pointer (some ⟨bc,0,none⟩)] ty.A1,It.cells q1 #[.slice na ns.length nc] ty.Cx,It.row ty.string 1 na ns.length nc (ns.map Value.string),It.cells q2 #[.string t] ty.string];have S:ST w0 w3 (It.cells b4 #[.int .i64 0,.int .i64 0] ty.A0 :: (Y 0++(Co bc ca cc pa pc bm n C++H))):=S;have bu:∀ {wx:World},(∀ i rows,¬ SK C ns (bl t) i rows)->ST w0 wx (It.cells b4 #[.int .i64 0,.int .i64 0] ty.A0 :: (Y 0++(Co bc ca cc pa pc bm n C++H))) ->
   Calls Tryz.prog f.HG #[.int .i64 2] wx (λ x w'=>∃ p:Int,∃ q:Int,∃(r:Option Addr) (rl rc:Nat),x=.returned (.tuple #[.agg #[.int .i64 p,.int .i64 q],.slice r rl rc]) /\
   DV ⟨b4,0,none⟩ (.int .i64 p) (λ w=>DV ⟨b4,1,none⟩ (.int .i64 q) (λ w=>∃ p':Int,w.cell? ⟨b4,0,none⟩=some (.int .i64 p')/\∃ q':Int,w.cell? ⟨b4,1,none⟩=some (.int .i64 q')/\VM w0 H bc bm (N+1) (Ad3 C ns t) (.tuple #[.agg #[.int .i64 p',.int .i64 q'],.slice r rl rc]) w) w) w'):=λ {wx} aP S =>
  Ei S 2 λ w' S=>⟨(2,0),[],C,none,ca,cc,pa,pc,n,.inl ⟨aP,rfl,rfl,rfl⟩,rfl,bg,by omega,Eb (S.drop 4)⟩
 rcases hO with ⟨g,p,cs,aR,n',rfl,hg,hA,aK,hI,huniq⟩ | ⟨rfl,aP⟩ | ⟨rfl,hd,aP⟩;rotate_left
 ·refine⟨_,_,rfl,S.draw λ w4 _ S=>?_⟩;have bK:∀ i rows,¬ SK C ns (bl t) i rows:=λ i rows h=>by
   obtain⟨_,_,hd⟩:=h.2.2.1.pre h.2.1;exact aP hd
  exact Aa (λ _=>bu bK S) (λ _=>Ah (λ _=>bu bK S) (λ h=>by cases h))
 ·refine⟨_,_,rfl,S.draw λ w4 _ S=>?_⟩;have bK:∀ i rows,¬ SK C ns (bl t) i rows:=λ i rows h=>aP _ _ h.2.1 h.2.2.1;exact Aa (λ _=>bu bK S) (λ _=>Ah (λ _=>bu bK S) (λ h=>by cases h))
 obtain⟨rows,cM⟩:∃ rows,rows=rowsOf (rws aR) n':=⟨_,rfl⟩;rw [<- cM] at aK hI huniq;have cg:n'=rows.length:=(huniq cs rows aK hI).2.2.1;have pO:∀ i r,SK C ns (bl t) i r->C.AM=cs/\r=rows:=λ i r h=>by
  obtain⟨e1,e2,_,_⟩:=huniq _ _ h.2.1 h.2.2.1;exact⟨e1,e2⟩
 have kI:rows.length<=1024:=aK.len;refine⟨_,_,rfl,S.draw λ w4 B4 S=>?_⟩;cases hf:Qg C.parts ns with
 | none =>
  have bK:∀ i rows,¬ SK C ns (bl t) i rows:=λ i rows h=>by have:=h.1;rw [hf] at this;cases this
  rw [Xs,hf];exact Aa (λ _=>bu bK S) (λ h=>absurd (by decide) h)
 | some i =>
 have pG:=(L3 (i:=i) (ps:=C.parts) (ns:=ns) (by omega)).1 (OD hf).1;have cD:=pG.1;rw [Xs,hf];simp only;refine Aa (λ h=>by omega) (λ _=>Ah (λ h=>absurd rfl h) (λ _=>?_));have zK:w4.cell? g=some (.pointer (some p)):=by
  have:=Ai.AA (F:=λ _=>False) B4;exact this.cell hg (by simp)
 have hA4:=hA.grown B4;refine⟨_,S.cell 1 rfl rfl,_,_,_,S.cell 5 rfl rfl,(AhU zK hA4).mono ?_⟩;rintro _ aX ⟨_,rfl,a25,uH,rfl,vu⟩;have S:=S.grown vu.Ar;have bM:cs.length<=16:=(A6 aK.right).2;refine⟨_,_,_,rfl,S.cell 5 rfl rfl,S.cell 1 rfl rfl,(Kj (vu.rd 0 rfl) (S.rd 6 rfl) (by omega)).mono ?_⟩;rintro _ bJ ⟨_,rfl,ig,rfl⟩;have S:=S.grown ig;refine⟨_,rfl,Au (Aa (λ he=>?_) (λ he=>bu (λ i r h=>he (pO i r h).1.symm) S))⟩;subst he;have yI:C.parts.length<=pc:=(S.rw 7 rfl).le;have ew:IntKind.i64.wrap ((i:Int)+(ns.length:Int))=((i+ns.length:Nat):Int):=by rw [wrap_i64 (by omega) (by omega)];omega
 refine⟨_,S.cell 1 rfl rfl,_,_,_,S.cell 5 rfl rfl,_,_,_,S.cell 2 rfl rfl,?_⟩;rw [ew];simp only [Ak4];have o6:=Ac B4 (Ac vu.Ar ig);have tE:bJ.cell? g=some (.pointer (some p)):=(Ai.AA (F:=λ _=>False) o6).cell hg (by simp);refine⟨⟨by omega,by omega,by omega⟩,(Ado tE (hA.grown o6)).mono ?_⟩;rintro _ cf ⟨_,rfl,rfl,wk⟩;subst wk;have qo:(Od C.parts i ns.length).length=ns.length:=by rw [Od,AlX,Alu];omega
 have sq:∀ p∈Od C.parts i ns.length,p.2<=1024:=λ p hp=>(hC.parts p (AmR (Al3 hp))).2.2;refine⟨_,rfl,S.cell 2 rfl rfl,S.cell 5 rfl rfl,S.cell 1 rfl rfl,?_⟩;rw [show i+ns.length-i=(Od C.parts i ns.length).length by rw [qo];omega];refine (Yy (Ab8 (S.rd 7 rfl) i ns.length pc (by omega)) (by omega) sq).mono ?_;rintro _ cP ⟨_,rfl,rfl,oV⟩;have S:=S.grown oV;refine⟨_,rfl,Ah (λ h=>bu (λ i' r h'=>?_) S) (λ heq=>?_)⟩
 ·obtain⟨g1,_,_,g4⟩:=h';rw [hf] at g1;cases g1;obtain⟨_,rfl⟩:=pO _ _ ⟨hf,‹_›,‹_›,g4⟩;omega
 have hM:SK C ns (bl t) i rows:=⟨hf,aK,hI,by omega⟩;obtain⟨nm,cC⟩:∃ nm,nm=Fe t:=⟨_,rfl⟩;refine⟨λ st wx=>∃ b,st=[.pointer (some ⟨b,0,none⟩)]/\ST cP wx [It.cells b #[.string nm,.string t] ty.GD],?_,?_⟩
 ·refine (ST.start cP).draw λ gp k7 P=>⟨_,(S.grown k7).cell 4 rfl rfl,_,(S.grown k7).cell 4 rfl rfl,?_,?_⟩
  ·refine (G5 (T.grown (S.grown k7).Ar) t (by omega)).mono ?_;rintro _ iM ⟨_,rfl,rfl,kU⟩;have P:=P.grown kU;have S:=S.grown P.Ar;rw [<- cC];exact⟨_,rfl,S.cell 4 rfl rfl,P.An λ te gW _ iy P=>⟨(S.grown iy).cell 4 rfl rfl,P.BR 0 rfl (aC:=#[.string nm,.string ⟨#[]⟩]) (by simp) rfl λ fJ P=>P.BR 0 rfl (aC:=#[.string nm,.string t]) (by simp) rfl λ gG P=>⟨te,rfl,P⟩⟩⟩
  ·refine P.An λ zr jl _ _ P=>⟨(S.grown P.Ar).cell 4 rfl rfl,(S.grown P.Ar).cell 4 rfl rfl,(G5 (T.grown (S.grown P.Ar).Ar) t (by omega)).mono ?_⟩;rintro _ kN ⟨_,rfl,rfl,oE⟩;have P:=P.grown oE;rw [<- cC];exact⟨_,rfl,(S.grown P.Ar).cell 4 rfl rfl,P.BR 0 rfl (aC:=#[.string nm,.string ⟨#[]⟩]) (by simp) rfl λ nE P=>P.BR 0 rfl (aC:=#[.string nm,.string t]) (by simp) rfl λ kD P=>⟨zr,rfl,P⟩⟩
 have zU:=Ac o6 oV;rintro _ eA ⟨bf,aA,P⟩;cases aA;have xQ:=Ac zU P.Ar;have S:=S.join P;clear P;have qj:∀ {wx:World},Below eA.heap.size eA wx->wx.cell? g=some (.pointer (some p))/\Ml wx p C.AM aR n':=λ B=>⟨(Ai.AA (F:=λ _=>False) (Ac xQ B)).cell hg (by simp),hA.grown (Ac xQ B)⟩;refine S.draw λ kB xf S=>⟨_,S.cell 2 rfl rfl,_,S.cell 2 rfl rfl,_,_,_,S.cell 6 rfl rfl,⟨by omega,by omega,by omega⟩,_,S.cell 0 rfl rfl,_,S.cell 2 rfl rfl,_,_,_,S.cell 6 rfl rfl,_,_,_,S.cell 3 rfl rfl,?_⟩;rw [ew];simp only [Ak4,Amu];refine⟨⟨by omega,by omega,by omega⟩,(Ado (qj xf).1 (qj xf).2).mono ?_⟩;rintro _ cQ ⟨_,rfl,rfl,e32⟩;subst e32;rw [cg];refine⟨_,rfl,S.cell 3 rfl rfl,S.cell 6 rfl rfl,S.cell 2 rfl rfl,S.cell 0 rfl rfl,S.cell 6 rfl rfl,S.cell 2 rfl rfl,S.cell 2 rfl rfl,S.An λ b74 iQ _ _ S=>⟨S.cell 4 rfl rfl,S.cell 7 rfl rfl,S.cell 3 rfl rfl,S.cell 7 rfl rfl,S.cell 3 rfl rfl,S.cell 3 rfl rfl,S.An λ b75 pX _ _ S=>⟨S.cell 4 rfl rfl,?_⟩⟩⟩
 have et:(C.parts.take i).length=i:=by rw [AlX];omega
 have ed:(C.parts.drop (i+ns.length)).length=C.parts.length-(i+ns.length):=by rw [Alu]
 obtain⟨nG,hps3⟩:∃ nG:List WN,nG=[(Ck pa 0 pc 2,pc,C.parts.take i),(some ⟨b74,0,none⟩,1,[(nm,rows.length)]),(Ck pa (i+ns.length) pc 2,pc-(i+ns.length),C.parts.drop (i+ns.length))]:=⟨_,rfl⟩;obtain⟨bB,hps'⟩:∃ bB:List H6,bB=Wf C.parts i ns.length (nm,rows.length):=⟨_,rfl⟩;have lI:Fl nG=bB:=by rw [hps3,hps'];simp [Fl,Wf]
 have bL:bB.length<=257:=by
  rw [hps',Wf];simp only [Ak1,et,ed,Ak3,Amf];omega
 have oP:Rd pX (some ⟨b75,0,none⟩) (nG.map Va):=by
  have h:=S.Gw 0 rfl;rw [hps3];simp only [List.map_cons,List.map_nil,Va,et,ed];exact h
 have dE:∀ p∈nG,Rd pX p.1 (Bt p.2.2):=λ p hp=>by
  rw [hps3] at hp;simp only [List.mem_cons,List.not_mem_nil,or_false] at hp;rcases hp with rfl | rfl | rfl
  ·have:=Ab8 (S.rd 10 rfl) 0 i pc (by omega);simpa [Od] using this
  ·exact S.Gw 1 rfl
  ·have:=Ab8 (S.rd 10 rfl) (i+ns.length) (C.parts.length-(i+ns.length)) pc (by omega);rwa [Od,AlA (by omega)] at this
 have qC:nG.length=3:=by rw [hps3];rfl
 have iW:=Aco (c:=3) nG oP dE (by omega) (by rw [lI];omega);rw [qC,lI] at iW;refine iW.mono ?_;rintro _ uD ⟨_,rfl,oR,oh,rfl,T35⟩;have S:=S.join T35;have cy:∀ {wx:World} {b:Nat} {X1 X2 X3 X4 X5 X6 X7 X8 X9:It},ST w0 wx (It.cells b #[.string nm,.string t] ty.GD :: E1 oR oh bB :: X1 :: X2 :: X3 :: X4 :: X5 :: X6 :: X7 :: X8 :: It.cells bc #[.slice ca C.AM.length cc,.slice oR bB.length oh,.map (some bm)] ty.Fq :: CK ca cc C.AM :: X9 :: It.YG Tryz.prog ty.int64 bm n (WO C.k) :: H) ->
   VM w0 H bc bm (N+1) (Ad3 C ns t) (.tuple #[.agg #[.int .i64 0,.int .i64 (bB.length:Int)],.slice (some ⟨b,0,none⟩) 1 1]) wx:=λ {wx b X1 X2 X3 X4 X5 X6 X7 X8 X9} S=>by
  have S:=S.IX 0 rfl (.refl _ _) (It.rd (some ⟨b,0,none⟩) (BH [(nm,t)])) (S.Gw 0 rfl) (λ k hk=>.inl hk);have S:ST w0 wx (It.rd (some ⟨b,0,none⟩) (BH [(nm,t)]) :: E1 oR oh bB :: It.cells bc #[.slice ca C.AM.length cc,.slice oR bB.length oh,.map (some bm)] ty.Fq :: CK ca cc C.AM :: It.YG Tryz.prog ty.int64 bm n (WO C.k) :: H) :=
   S.sub (.cons_cons _ (.cons_cons _ (.cons _ (.cons _ (.cons _ (.cons _ (.cons _ (.cons _ (.cons _ (.cons _ (.cons_cons _ (.cons_cons _ (.cons _ (.cons_cons _ (AmN _)))))))))))))))
  have S:=((S.pull 3 rfl).pull 3 rfl).pull 2 rfl;exact⟨(0,bB.length),[(nm,t)],{ C with parts:=bB },some ⟨b,0,none⟩,ca,cc,oR,oh,n,.inr ⟨i,rows,hM,by rw [<- cC,hps'],rfl,by rw [<- cC]⟩,rfl,bg,by omega,S⟩
 refine⟨_,_,_,rfl,S.cell 5 rfl rfl,S.BR 9 rfl (i:=1) (aC:=#[.slice ca C.AM.length cc,.slice oR bB.length oh,.map (some bm)]) (by simp) rfl λ rU S=>S.draw λ iU _ S=>⟨_,S.cell 5 rfl rfl,_,_,_,S.cell 9 rfl rfl,_,S.cell 3 rfl rfl,_,S.cell 3 rfl rfl,?_,?_⟩⟩
 ·exact S.An λ b85 q7 _ _ S=>⟨S.cell 10 rfl rfl,S.cell 6 rfl rfl,S.BR 5 rfl (aC:=#[.int .i64 0,.int .i64 0]) (by simp) rfl λ jt S=>S.BR 5 rfl (aC:=#[.int .i64 0,.int .i64 (bB.length:Int)]) (by simp) rfl λ tf S=>⟨_,S.cell 5 rfl rfl,_,S.cell 5 rfl rfl,cy S⟩⟩
 ·exact S.BR 4 rfl (aC:=#[.int .i64 0,.int .i64 0]) (by simp) rfl λ pg S=>S.BR 4 rfl (aC:=#[.int .i64 0,.int .i64 (bB.length:Int)]) (by simp) rfl λ lH S=>⟨⟨S.cell 3 rfl rfl,S.cell 3 rfl rfl⟩,S.An λ b88 xw _ _ S=>⟨_,S.cell 5 rfl rfl,_,S.cell 5 rfl rfl,cy S⟩⟩
end
end Go.Proofs.YtpnaifmmggnimaaGreatDoor
