/-
  Texts of this claim, laid one behind the other by a program of mine (install.py): G.Cm1, G.Cm2, G.Cn1, G.Cn2, G.Seg19, G.Seg20, G.Seg21, G.Cn3, G.Cn4, G.Cn5, G.Cn6, G.Cn7, G.Co1, G.Co2, G.Cw3, G.Co3, G.Co4, G.Co5, G.Cm3, G.Cm4.
-/
import Derived.Test.YtpnaifmmggnimaaGreatDoorM10
import Derived.Test.YtpnaifmmggnimaaGreatDoorM9
namespace Go.Proofs.YtpnaifmmggnimaaGreatDoor
open _root_.Int renaming fdiv -> Alu, toNat_natCast -> Ale
open _root_.List.Sublist renaming refl -> AmX
open _root_.List renaming drop_eq_nil_of_le -> AlD, drop_left -> Amu, drop_zero -> AmG, flatMap_append -> AmW, getElem?_drop -> Ak2, getElem?_eq_getElem -> Al5, getElem_drop -> Am3, getElem_mem -> AlS, length -> Amz, length_append -> Alb, length_cons -> Ald, length_drop -> AlE, length_map -> Alr, length_nil -> Amp, length_take -> Al7, map_take -> AlG, mem_append -> Al8, mem_map -> AkU, mem_of_mem_drop -> Am1, mem_of_mem_take -> Amd, mem_singleton -> Al9, nil_append -> Ame, range -> AlL, take_append_drop -> Am0, take_left -> Ak6, take_length -> Ama, take_of_length_le -> AlK, take_succ_eq_append_getElem -> Al6
open _root_.Nat renaming mul_one -> Alh, sub_zero -> AmE
open _root_.Option.some renaming inj -> Ami
open _root_.Prod renaming snd -> Am2
set_option maxRecDepth 100000
open Go.Dn Go.Proofs
open Go.RowKit (Below)
set_option linter.unusedVariables false
abbrev WK:=Option Addr × Nat × List H8
def U8(p:WK):Value:=.slice p.1 p.2.2.length p.2.1
def Fc(ps:List WK):List H8:=ps.flatMap (·.2.2)
theorem HG(ps:List WK)(k:Nat)(hk:k<ps.length):Fc (ps.take (k+1))=Fc (ps.take k)++ps[k].2.2:=by
 unfold Fc;rw [Al6 hk,AmW];simp
theorem Z7(ps:List WK)(k:Nat):(Fc (ps.take k)).length<=(Fc ps).length:=by
 have e:Fc ps=Fc (ps.take k)++Fc (ps.drop k):=by unfold Fc;rw [<- AmW,Am0]
 rw [e,Alb];omega
theorem FH(ps qs:List H8):Bp (ps++qs)=Bp ps++Bp qs:=by simp [Bp]
theorem Aej(w:World)(n:Nat)(hn:n<=1000000):Calls Tryz.prog f.GO #[.slice none 0 0,.int .i64 (n:Int)] w
  (AG λ v w'=>∃ a c,v=.slice a 0 c/\ST w w' [Dl a c []]):=by
 apply R.Fp
 delta R.F R.I R.Rs R.S R.W R.Y;try dsimp only [R.Ps]
 have e0:IntKind.i64.wrap (((0:Nat):Int)-((0:Nat):Int))=0:=by rw [wrap_i64 (by omega) (by omega)];omega
 have e1:IntKind.i64.wrap ((n:Int)-0)=(n:Int):=by rw [wrap_i64 (by omega) (by omega)];omega
 refine Aa (λ h=>by omega) (λ _=>?_);rw [e0,e1];refine Aa (λ hp=>⟨⟨by omega,by omega,by omega⟩,?_⟩) (λ hp=>?_)
 ·obtain⟨c',w',aH,aJ,hc,hb⟩:=Pa (u:=ty.int) (ty:=ty.De) SM (show Tryz.prog.underlying ty.int=some (.int .i64) by kernel_rfl) rfl (by omega) (by omega) (w:=w) (m:=n) (by omega) (by omega);have hs:Cm none 0 0 2=none:=rfl;unfold DB;rw [hs];simp only [AmE,aH];refine⟨_,_,_,rfl,⟨by omega,by omega,by omega⟩,some ⟨w.heap.size,0,none⟩,c',?_,(ST.start w).add hb (Dl (some ⟨w.heap.size,0,none⟩) c' []) aJ (λ k hk=>by cases hk;exact Nat.le_refl _)⟩;have:Cm (some (⟨w.heap.size,0,none⟩:Addr)) 0 c' 2=some ⟨w.heap.size,0,none⟩:=by
   unfold Cm;split
   ·rfl
   ·simp [C0]
  rw [this]
 ·have:n=0:=by omega
  subst this;exact⟨none,0,rfl,(ST.start w).nil _ _⟩
theorem AbU{w:World}{a:Option Addr}{c:Nat}(ps:List WK)(hp:Rd w a (ps.map U8))(hb:∀ p∈ps,Rd w p.1 (Bp p.2.2))(hn:ps.length<1000)(hl:(Fc ps).length<=100000) :
  Calls Tryz.prog f.F6 #[.slice a ps.length c] w (AG λ v w'=>∃ a c,v=.slice a (Fc ps).length c/\ST w w' [Dl a c (Fc ps)]):=by
 apply R.EY
 delta R.Ad R.Cs R.F R.I R.Ks R.Ls R.O R.NH R.EM R.S R.W R.X;try dsimp only [R.Ps]
 refine⟨λ s w1=>∃ k:Nat,s=[.int .i64 ((Fc (ps.take k)).length:Int),.int .i64 k]/\k<=ps.length/\w1=w,
  λ s _=>match s with
   | [_,.int _ i]=>ps.length-i.toNat
   | _=>0,⟨0,rfl,Nat.zero_le _,rfl⟩,?_⟩
 rintro _ _ w1 ⟨k,hs,hk,rfl⟩;cases hs;refine Aa (λ aB=>⟨⟨by omega,aB⟩,?_⟩) (λ aI=>?_)
 ·have aO:k<ps.length:=by omega
  obtain⟨p,rfl,hc⟩:=hp k (U8 ps[k]) (by simp [aO]);have h1:=Z7 ps (k+1);rw [HG ps k aO,Alb] at h1;refine⟨_,_,_,by rw [Ale,Alh];exact hc,?_⟩;have e:IntKind.i64.wrap (((Fc (ps.take k)).length:Int)+(ps[k].2.2.length:Int))=((Fc (ps.take (k+1))).length:Int):=by
   rw [HG ps k aO,Alb,wrap_i64 (by omega) (by omega)];omega
  rw [e];refine Aa (λ h=>by omega) (λ _=>?_);rw [Ae (by omega)];refine⟨⟨k+1,rfl,by omega,rfl⟩,?_⟩;simp only [Ale];omega
 ·have jS:k=ps.length:=by omega
  subst jS;rw [Ama];refine (Aej w1 _ (by omega)).mono ?_;rintro _ w2 ⟨_,rfl,a2,c2,rfl,S⟩;refine⟨_,_,_,rfl,?_⟩;refine⟨λ s w3=>∃(k:Nat) (a3:Option Addr) (c3:Nat),s=[.slice a3 (Fc (ps.take k)).length c3,.int .i64 k]/\k<=ps.length/\ST w1 w3 [Dl a3 c3 (Fc (ps.take k))],
   λ s _=>match s with
    | [_,.int _ i]=>ps.length-i.toNat
    | _=>0,⟨0,a2,c2,rfl,Nat.zero_le _,S⟩,?_⟩
  clear S;rintro a3 _ c3 _ w3 ⟨k,_,_,hs,hk,S⟩;cases hs;refine Aa (λ aB=>⟨⟨by omega,aB⟩,?_⟩) (λ aI=>?_)
  ·have aO:k<ps.length:=by omega
   obtain⟨p,rfl,hc⟩:=(hp.grown S.Ar) k (U8 ps[k]) (by simp [aO]);have h1:=Z7 ps (k+1);rw [HG ps k aO,Alb] at h1;refine⟨_,_,_,by rw [Ale,Alh];exact hc,?_⟩;refine S.app 0 rfl SM rfl (by omega) (by omega) ((hb _ (AlS aO)).grown S.Ar) (EH _) (U9 _) (by omega) λ a' c' w4 S=>?_;have e2:(Fc (ps.take k)).length+ps[k].2.2.length=(Fc (ps.take (k+1))).length:=by rw [HG ps k aO,Alb]
   rw [<- FH,<- HG ps k aO] at S;rw [e2] at S ⊢;rw [Ae (by omega)];exact⟨_,_,_,rfl,⟨k+1,a',c',rfl,by omega,S⟩,by simp only [Ale];omega⟩
  ·have jS:k=ps.length:=by omega
   subst jS;rw [Ama] at S ⊢;exact⟨a3,c3,rfl,S⟩
def Pv(ps:List H8)(ns:List ByteArray):Option Nat:=(AlL ps.length).find? λ i=>decide (((ps.drop i).take ns.length).map (·.1)=ns)
section
variable {w0 w:World}{H:List It}{a:Option Addr}{c:Nat}
theorem Acw{ps:List H8}{ns:List ByteArray}{i:Nat}:((ps.drop i).take ns.length).map (·.1)=ns↔i+ns.length<=ps.length+(if ns.length=0 then i else 0)/\∀ j (h:j<ns.length),(ps[i+j]?).map (·.1)=some ns[j]:=by
 constructor
 ·intro h;have hl:=congrArg Amz h;rw [Alr,Al7,AlE] at hl;refine⟨by split <;> omega,λ j hj=>?_⟩;have h2:=congrArg (λ l=>l[j]?) h;simp only [List.getElem?_map,List.getElem?_take,hj,if_true,Ak2] at h2;rw [h2,Al5 hj]
 ·rintro⟨h1,h2⟩;apply List.ext_getElem?;intro j;by_cases hj:j<ns.length
  ·simp only [List.getElem?_map,List.getElem?_take,hj,if_true,Ak2];rw [h2 j hj,Al5 hj]
  ·rw [List.getElem?_eq_none (by rw [Alr,Al7];omega),List.getElem?_eq_none (by omega)]
end
def XN(ps:List H8)(ns:List ByteArray)(i:Nat):Prop:=((ps.drop i).take ns.length).map (·.1)=ns
theorem LC{ps:List H8}{ns:List ByteArray}{i:Nat}(h1:1<=ns.length):XN ps ns i↔i+ns.length<=ps.length/\∀ j (h:j<ns.length),(ps[i+j]?).map (·.1)=some ns[j]:=by
 unfold XN;rw [Acw,if_neg (by omega),Nat.add_zero]
theorem Acf{ps:List H8}{ns:List ByteArray}{i:Nat}(h:XN ps ns i)(hi:i<ps.length)(aP:∀ j<i,¬ XN ps ns j):Pv ps ns=some i:=by
 unfold Pv;rw [List.find?_range_eq_some];refine⟨decide_eq_true h,by simpa using hi,λ j hj=>?_⟩;rw [Bool.not_eq_true',decide_eq_false_iff_not];exact aP j hj
theorem Ace{ps:List H8}{ns:List ByteArray}(aP:∀ j<ps.length,¬ XN ps ns j):Pv ps ns=none:=by
 unfold Pv;rw [List.find?_eq_none];intro j hj;rw [decide_eq_true_eq];exact aP j (by simpa using hj)
theorem NS{ps:List H8}{ns:List ByteArray}{i:Nat}(h:Pv ps ns=some i):XN ps ns i/\i<ps.length:=by
 unfold Pv at h;rw [List.find?_range_eq_some] at h;refine⟨?_,by simpa using h.2.1⟩;have:=h.1;rw [decide_eq_true_eq] at this;exact this
def WX(ps:List H8)(ns:List ByteArray):Int:=match Pv ps ns with
 | some i=>(i:Int)
 | none => -1
section
variable {w0 w:World}{H:List It}{na:Option Addr}{nc bc bm n cc pc:Nat}{ca pa:Option Addr}{C:BX}{ns:List ByteArray}
theorem AhW(S:ST w0 w (BV bc ca cc pa pc bm n C++H))(j':Rd w na (ns.map Value.string))(h1:1<=ns.length)(hn:ns.length<=1000)(hp:C.parts.length<=1000) :
  Calls Tryz.prog f.Lc #[.pointer (some ⟨bc,0,none⟩),.slice na ns.length nc] w (AG λ v w'=>v=.int .i64 (WX C.parts ns)/\w'=w):=by
 apply R.HD
 delta R.Ad R.F R.I R.Ls R.Lt R.Qi R.W R.X;try dsimp only [R.Ps]
 have ll:(∀ j<C.parts.length,¬ XN C.parts ns j)->Value.int .i64 (-1)=.int .i64 (WX C.parts ns):=λ h=>by rw [WX,Ace h]
 refine⟨_,_,_,S.cell 0 rfl rfl,λ s wx=>wx=w/\∃ i:Nat,s=[.int .i64 (i:Int)]/\i<=C.parts.length/\∀ j<i,¬ XN C.parts ns j,λ s _=>match s with
  | [.int _ i]=>C.parts.length-i.toNat
  | _=>0,⟨rfl,0,rfl,by omega,λ j hj=>by omega⟩,?_⟩
 rintro _ w1 ⟨e,i,aA,hi,aP⟩;subst e;cases aA;refine Aa (λ aB=>⟨_,_,_,S.cell 0 rfl rfl,?_⟩) (λ aI=>⟨ll λ j hj=>aP j (by omega),rfl⟩);have ew:IntKind.i64.wrap ((C.parts.length:Int)-(i:Int))=((C.parts.length-i:Nat):Int):=by rw [wrap_i64 (by omega) (by omega)];omega
 rw [ew];refine Aa (λ hs=>⟨ll λ j hj hh=>?_,rfl⟩) (λ hs=>?_)
 ·by_cases dU:j<i
  ·exact aP j dU hh
  ·have:=((LC h1).1 hh).1;omega
 refine⟨λ s wx=>wx=w1/\∃ j:Nat,s=[.int .i64 (j:Int)]/\j<=ns.length/\∀ t (h:t<ns.length),t<j->(C.parts[i+t]?).map (·.1)=some ns[t],λ s _=>match s with
  | [.int _ j]=>ns.length-j.toNat
  | _=>0,⟨rfl,0,rfl,by omega,λ t _ ht=>by omega⟩,?_⟩
 rintro _ w2 ⟨e,j,aA,hj,aF⟩;subst e;cases aA;refine Aa (λ ao=>?_) (λ br=>?_)
 ·have fR:j<ns.length:=by omega
  obtain⟨p,rfl,c0⟩:=Qq j' fR;have dO:i+j<C.parts.length:=by omega
  have kN:IntKind.i64.wrap ((i:Int)+(j:Int))=((i+j:Nat):Int):=by rw [wrap_i64 (by omega) (by omega)];omega
  refine⟨⟨by omega,by omega⟩,_,by rw [Ale];exact c0,_,_,_,S.cell 0 rfl rfl,?_⟩;rw [kN];obtain⟨q,hq,d0,_⟩:=JT (S.rd 2 rfl) dO;subst hq;refine⟨⟨by omega,by omega⟩,_,by rw [Ale];exact d0,?_⟩;rw [A0];refine As (Aa (λ he=>?_) (λ he=>?_))
  ·rw [Ae (by omega)];refine⟨⟨rfl,j+1,rfl,by omega,λ t ht htj=>?_⟩,by simp only [Ale];omega⟩;by_cases wj:t<j
   ·exact aF t ht wj
   ·obtain rfl:t=j:=by omega
    rw [Al5 dO,Option.map_some,he]
  ·rw [Ae (by omega)];refine⟨⟨rfl,i+1,rfl,by omega,λ t ht hh=>?_⟩,by simp only [Ale];omega⟩;by_cases fo:t<i
   ·exact aP t fo hh
   ·obtain rfl:t=i:=by omega
    have:=((LC h1).1 hh).2 j fR;rw [Al5 dO,Option.map_some] at this;exact he (Ami this)
 ·have hh:XN C.parts ns i:=(LC h1).2 ⟨by omega,λ t ht=>aF t ht (by omega)⟩;refine⟨?_,rfl⟩;rw [WX,Acf hh (by omega) aP]
end
structure DJ(C:VT):Prop where
 np:C.parts.length<=256
 nc:C.Dw.length<=64
 rows:∀ p∈C.parts,p.2<=1024
 AM:C.AM=[]\/Ap C.AM=true
section
variable {w0 w:World}{H:List It}{b cc pc kc nc:Nat}{ca pa ka na:Option Addr}{C:VT}{ns:List ByteArray}
theorem AbV(S:ST w0 w (DO b ca cc pa pc ka kc C++H))(hC:DJ C):Calls Tryz.prog f.Oz #[.pointer (some ⟨b,0,none⟩)] w (AG λ v w'=>v=.int .i64 (CI C.parts:Int)/\w'=w):=by
 apply R.IP
 delta R.F R.I R.Li R.Ls R.NH R.W R.X;try dsimp only [R.Ps]
 have kA:=hC.np;refine⟨λ s wx=>wx=w/\∃ i:Nat,s=[.int .i64 (CI (C.parts.take i):Int),.int .i64 (i:Int)]/\i<=C.parts.length,λ s _=>match s with
  | [_,.int _ i]=>C.parts.length-i.toNat
  | _=>0,⟨rfl,0,rfl,by omega⟩,?_⟩
 rintro _ _ w1 ⟨e,i,aA,hi⟩;subst e;cases aA;refine⟨_,_,_,S.cell 0 rfl rfl,Aa (λ aB=>?_) (λ aI=>?_)⟩
 ·have aD:i<C.parts.length:=by omega
  obtain⟨p,hp,_,e1⟩:=JT (S.rd 2 rfl) aD;subst hp;refine⟨_,_,_,S.cell 0 rfl rfl,⟨by omega,by omega⟩,_,by rw [Ale];exact e1,?_⟩;have h1:=L7 (ps:=C.parts.take i) λ p hp=>hC.rows p (Amd hp);have h2:=hC.rows C.parts[i] (AlS aD);rw [Al7] at h1;have e:CI (C.parts.take (i+1))=CI (C.parts.take i)+C.parts[i].2:=by rw [Al6 aD,J2]
  have ew:IntKind.i64.wrap ((CI (C.parts.take i):Int)+(C.parts[i].2:Int))=(CI (C.parts.take (i+1)):Int):=by rw [wrap_i64 (by omega) (by omega),e];omega
  rw [ew,Ae (by omega)];exact⟨⟨rfl,i+1,rfl,by omega⟩,by simp only [Ale];omega⟩
 ·obtain rfl:i=C.parts.length:=by omega
  rw [Ama];exact⟨rfl,rfl⟩
theorem Afy(S:ST w0 w (DO b ca cc pa pc ka kc C++H))(j':Rd w na (ns.map Value.string))(hn:ns.length<=1000)(hC:DJ C) :
  Calls Tryz.prog f.L5 #[.pointer (some ⟨b,0,none⟩),.slice na ns.length nc] w (AG λ v w'=>Below w.heap.size w w'/\∃ z:Int,v=.int .i64 z/\(z<0\/∃ i:Nat,z=(i:Int)/\i+ns.length<=C.parts.length)):=by
 apply R.HV
 delta R.Ad R.D R.F R.G R.I R.Ls R.Lt R.Qbi R.Qi R.W R.X;try dsimp only [R.Ps]
 have kA:=hC.np;refine⟨λ s wx=>Below w.heap.size w wx/\∃ i:Nat,s=[.int .i64 (i:Int)]/\i<=C.parts.length+1,λ s _=>match s with
  | [.int _ i]=>C.parts.length+1-i.toNat
  | _=>0,⟨.refl _ _,0,rfl,by omega⟩,?_⟩
 rintro _ w1 ⟨B1,i,aA,hi⟩;cases aA;have S1:=S.grown B1;refine⟨_,_,_,S1.cell 0 rfl rfl,?_⟩;have ew:IntKind.i64.wrap ((i:Int)+(ns.length:Int))=((i+ns.length:Nat):Int):=by rw [wrap_i64 (by omega) (by omega)];omega
 rw [ew];refine Aa (λ hle=>?_) (λ nG=>⟨B1,-1,rfl,.inl (by omega)⟩);refine⟨λ s wx=>Below w.heap.size w wx/\∃(all:Bool) (k:Nat),s=[.bool all,.int .i64 (k:Int)]/\k<=ns.length,λ s _=>match s with
  | [_,.int _ k]=>ns.length-k.toNat
  | _=>0,⟨B1,true,0,rfl,by omega⟩,?_⟩
 rintro _ _ w2 ⟨B2,all,k,aA,hk⟩;cases aA;refine Aa (λ aB=>?_) (λ aI=>Aq (λ h=>⟨B2,(i:Int),rfl,.inr ⟨i,rfl,by omega⟩⟩) (λ h=>?_))
 ·have aO:k<ns.length:=by omega
  refine (S.grown B2).draw λ w3 B3 S3=>Aq (λ h=>?_) (λ h=>?_)
  ·obtain⟨p,hp,c0⟩:=Qq (j'.grown (Ac B2 B3)) aO;subst hp;have kN:IntKind.i64.wrap ((i:Int)+(k:Int))=((i+k:Nat):Int):=by rw [wrap_i64 (by omega) (by omega)];omega
   refine⟨⟨by omega,by omega⟩,_,_,_,S3.cell 0 rfl rfl,?_⟩;rw [kN];obtain⟨q,hq,d0,_⟩:=JT (S3.rd 2 rfl) (i:=i+k) (by omega);subst hq;refine⟨⟨by omega,by omega⟩,_,by rw [Ale];exact d0,_,by rw [Ale];exact c0,?_⟩;rw [Ae (by omega)];exact⟨⟨Ac B2 B3,_,k+1,rfl,by omega⟩,by simp only [Ale];omega⟩
  ·rw [Ae (by omega)];exact⟨⟨Ac B2 B3,_,k+1,rfl,by omega⟩,by simp only [Ale];omega⟩
 ·rw [Ae (by omega)];exact⟨⟨B2,i+1,rfl,by omega⟩,by simp only [Ale];omega⟩
theorem AgZ(S:ST w0 w (DO b ca cc pa pc ka kc C++H))(id:Int)(hC:DJ C) :
  Calls Tryz.prog f.MZ #[.pointer (some ⟨b,0,none⟩),.int .i64 id] w (AG λ v w'=>Below w.heap.size w w'/\∃(i:Nat) (t:Bool),v=.tuple #[.int .i64 (i:Int),.bool t]/\i<=C.Dw.length/\(t=true->i<C.Dw.length)):=by
 apply R.Ih
 delta R.D R.F R.G R.H R.I R.Li R.Ls R.Qi R.W R.X R.Zi;try dsimp only [R.Ps]
 have rq:=hC.nc;refine⟨λ st wx=>Below w.heap.size w wx/\∃ i:Nat,st=[.int .i64 (i:Int)]/\i<=C.Dw.length,⟨λ s wx=>Below w.heap.size w wx/\∃ i:Nat,s=[.int .i64 (i:Int)]/\i<=C.Dw.length,λ s _=>match s with
  | [.int _ i]=>C.Dw.length-i.toNat
  | _=>0,⟨.refl _ _,0,rfl,by omega⟩,?_⟩,?_⟩
 ·rintro _ w1 ⟨B1,i,aA,hi⟩;cases aA;have S1:=S.grown B1;refine⟨_,_,_,S1.cell 0 rfl rfl,Aa (λ aB=>?_) (λ aI=>⟨B1,i,rfl,hi⟩)⟩;have aD:i<C.Dw.length:=by omega
  obtain⟨p,hp,e0,_⟩:=Ut (S1.rd 3 rfl) aD;subst hp;refine⟨_,_,_,S1.cell 0 rfl rfl,⟨by omega,by omega⟩,_,by rw [Ale];exact e0,Aa (λ h=>?_) (λ h=>⟨B1,i,rfl,hi⟩)⟩;rw [Ae (by omega)];exact⟨⟨B1,i+1,rfl,by omega⟩,by simp only [Ale];omega⟩
 rintro _ w2 ⟨B2,i,aA,hi⟩;cases aA;refine (S.grown B2).draw λ w3 B3 S3=>⟨_,_,_,S3.cell 0 rfl rfl,Aa (λ aB=>?_) (λ aI=>⟨Ac B2 B3,i,false,rfl,hi,λ h=>by cases h⟩)⟩;have aD:i<C.Dw.length:=by omega
 obtain⟨p,hp,e0,_⟩:=Ut (S3.rd 3 rfl) aD;subst hp;exact⟨_,_,_,S3.cell 0 rfl rfl,⟨by omega,by omega⟩,_,by rw [Ale];exact e0,Ac B2 B3,i,_,rfl,hi,λ _=>aD⟩
end
section
variable {w0 w:World}{H:List It}{a a2:Option Addr}{c c2:Nat}{l:List UInt8}{cs:List BQ}
set_option maxHeartbeats 1000000 in
theorem PX(hl:Rd w a (l.map Ag))(hc:l.length<=c)(hs:l.length<=140737488355328)(at_:Int)(cU:at_<=9223372036854775807)(aj:Rd w a2 (BM cs))(hn:cs.length<=9223372036854775807)(hq:∀ c∈cs,c.1.size<=9223372036854775807) :
  Calls Tryz.prog f.Vd #[.slice a l.length c,.int .i64 at_,.slice a2 cs.length c2] w (AG λ v w'=>XS (Bf l cs at_) w w' v):=by
 apply R.L2
 delta R.A R.Ab R.Ei R.Bu R.Cb R.F R.H R.I R.J R.Ks R.Li R.Lt R.N R.O R.KV R.S R.Am R.T R.W;try dsimp only [R.Ps]
 refine (DV aj hn hq).mono ?_;rintro _ w1 ⟨_,rfl,rfl,e1⟩;subst e1;have S:=ST.start w1;have bad:∀ {wx:World} (e:Int),e≠0->Below w1.heap.size w1 wx->Bf l cs at_=none->XS (Bf l cs at_) w1 wx (.tuple #[.slice none 0 0,.int .i64 0,.int .i64 e]):=by
  intro wx e h0 B h;rw [h];exact⟨e,h0,rfl,B⟩
 refine⟨_,rfl,As (Aq (λ hR=>?_) (λ hR=>bad 50 (by decide) S.Ar (by simp [Bf,hR])))⟩;have bN:=A6 hR;refine (AJ (c:=c) (hl.grown S.Ar) (by omega) at_ cU).mono ?_;rintro _ w2 ⟨_,rfl,rfl,rfl⟩;obtain⟨n,aL,e,hv,hk,qQ,hx⟩:=Ec _ (rfl:takeN l at_=takeN l at_);rw [hv];refine⟨_,_,_,rfl,Ah (λ h=>bad 52 (by decide) S.Ar ?_) (λ h=>?_)⟩
 ·rcases hx with ⟨h2,_⟩ | ⟨_,h2⟩
  ·exact absurd h2 h
  ·simp [Bf,h2]
 have qk:takeN l at_=some (n,aL):=by
  rcases hx with ⟨_,h2⟩ | ⟨h2,_⟩
  ·exact h2
  ·exact absurd h h2
 have hT:Bf l cs at_=if n<=1024 then Dy (RU l cs) n aL else none:=by simp [Bf,hR,qk]
 refine Aa (λ h=>bad 52 (by decide) S.Ar (by rw [hT,if_neg (by omega)])) (λ hle=>?_);rw [if_pos (by omega)] at hT;rw [wrap_i64 (by omega) (by omega)];refine⟨λ s wx=>∃(i aZ:Nat) (qs:List BF) (ra:Option Addr) (rc:Nat),s=[.int .i64 (aZ:Int),.slice ra qs.length rc,.int .i64 (i:Int)]/\i<=n/\qs.length=i/\aZ<=l.length/\Dy (RU l cs) i aL=some (rws qs,aZ)/\ST w2 wx ([GI ra rc qs]++qs.map EW),λ s _=>match s with
  | [_,_,.int _ i]=>n-i.toNat
  | _=>0,⟨0,aL,[],none,0,rfl,by omega,rfl,hk,rfl,S.nil _ _⟩,?_⟩
 clear S;rintro _ ra _ rc _ w3 ⟨i,aZ,qs,_,_,aA,hi,wF,uM,aV,S⟩;cases aA;refine Aa (λ aB=>?_) (λ aI=>?_)
 ·have jR:i<n:=by omega
  have jo:Dy (λ a=>Bi l (a:Int)) cs.length aZ=none->Bf l cs at_=none:=λ h=>by
   rw [hT];refine Gj (i:=i+1) ?_ jR;rw [Dh aV,RU,h];rfl
  refine⟨λ s wx=>∃(k bH:Nat) (cur:List AB) (va:Option Addr) (vc:Nat),s=[.int .i64 (bH:Int),.slice va cur.length vc,.int .i64 (k:Int)]/\k<=cs.length/\cur.length=k/\bH<=l.length/\Dy (λ a=>Bi l (a:Int)) k aZ=some (cur,bH) /\
    ST w2 wx (Mp va vc cur :: ([GI ra rc qs]++qs.map EW)),λ s _=>match s with
   | [_,_,.int _ k]=>cs.length-k.toNat
   | _=>0,⟨0,aZ,[],none,0,rfl,by omega,rfl,uM,rfl,S.nil _ _⟩,?_⟩
  clear S;rintro _ va _ vc _ w5 ⟨k,bH,cur,_,_,aA,bA,jJ,uN,cK,S⟩;cases aA;refine Aa (λ ao=>?_) (λ br=>?_)
  ·have aO:k<cs.length:=by omega
   refine (IK (hl.grown S.Ar) hc (by omega) (bH:Int)).mono ?_;rintro _ w6 ⟨_,rfl,rfl,B6⟩;have S:=S.grown B6;obtain⟨v,k3,e3,hv3,iB,hx3⟩:=Jn _ (rfl:Bi l (bH:Int)=Bi l (bH:Int));rw [hv3];obtain⟨v1,v2,v3⟩:=v;refine⟨_,_,_,_,_,rfl,S.An λ tG w7 _ _ S=>S.BP 0 rfl (aC:=#[.int .i64 v1,.int .i64 0,.string ⟨#[]⟩]) (by simp) rfl λ w8 S=>S.BP 0 rfl (aC:=#[.int .i64 v1,.int .i64 v2,.string ⟨#[]⟩]) (by simp) rfl λ w9 S=>S.BP 0 rfl (aC:=#[.int .i64 v1,.int .i64 v2,.string v3]) (by simp) rfl λ bV S=>Ah (λ h=>bad 52 (by decide) S.Ar (jo ?_)) (λ h=>?_)⟩
   ·refine Gj (i:=k+1) ?_ aO;rw [Dh cK];rcases hx3 with ⟨h2,_⟩ | ⟨_,h2⟩
    ·exact absurd h2 h
    ·simp [h2]
   ·have nv:Bi l (bH:Int)=some ((v1,v2,v3),k3):=by
     rcases hx3 with ⟨_,h2⟩ | ⟨h2,_⟩
     ·exact h2
     ·exact absurd h h2
    refine⟨_,S.cell 0 rfl rfl,_,S.cell 0 rfl rfl,_,S.cell 0 rfl rfl,S.An λ gT aY _ _ S=>?_⟩;refine Y6 S 2 Ajk rfl (x:=(v1,v2,v3)) (S.GD 0 rfl) (by omega) λ a' c' bK S=>⟨_,_,_,rfl,?_⟩;rw [Ae (by omega)];refine⟨⟨k+1,k3,cur++[(v1,v2,v3)],a',c',rfl,by omega,by simp [jJ],iB,?_,S.drop 2⟩,by simp only [Ale];omega⟩;rw [Dh cK,nv];rfl
  ·obtain rfl:k=cs.length:=by omega
   have hF:=IL (c:=c2) (c2:=vc) (aj.grown S.Ar) hn hq (S.rd 0 rfl:Rd w5 va (AP cur));refine hF.mono ?_;rintro _ bV ⟨_,rfl,rfl,bp⟩;have S:=S.grown bp;rw [hR,Bool.true_and];refine⟨_,rfl,As (Aq (λ hf=>?_) (λ hf=>bad 52 (by decide) S.Ar ?_))⟩;rotate_left
   ·rw [hT];refine Gj (i:=i+1) ?_ jR;rw [Dh aV,RU,cK];simp [hf]
   obtain⟨p,hp⟩:∃ p:BF,p=(va,vc,cur):=⟨_,rfl⟩;have S:ST w2 bV (EW p :: ([GI ra rc qs]++qs.map EW)):=by rw [hp];exact S
   refine S.An λ rE al _ _ S=>?_;have jU:Rd al (some ⟨rE,0,none⟩) [Cz p]:=by
    rw [hp];exact S.GD 0 rfl
   refine Ahe S (n:=2) rfl jU (by omega) λ a' c' bK S=>⟨_,_,_,rfl,?_⟩;rw [Ae (by omega)];refine⟨⟨i+1,bH,qs++[p],a',c',rfl,by omega,by simp [wF],uN,?_,Xu (S.drop 1)⟩,by simp only [Ale];omega⟩;rw [Dh aV,RU,cK,Option.bind_some,if_pos hf,hp];simp [rws]
 ·obtain rfl:i=n:=by omega
  rw [hT,aV];exact⟨_,_,qs,rfl,rfl,S⟩
end
section
variable {w:World}{a a2:Option Addr}{c c2:Nat}{cs:List BQ}{ps:List BF}
theorem Wl(l:List UInt8)(hl:Rd w a (l.map Ag))(n:Nat)(hn:n<9223372036854775807)(p:AB × AB)(h1:AK p.1=true/\BL p.1)(h2:AK p.2=true/\BL p.2)(hs:l.length+10000<=140737488355328) :
  Calls Tryz.prog f.Ac0 #[.slice a l.length c,.agg (zC (n:Int) p)] w (AG λ v w'=>∃ a' c',v=.slice a' (l++(Af n++CC p.1++CC p.2)).length c'/\Bm w w' (l++(Af n++CC p.1++CC p.2)) a' c'):=by
 apply R.RQ
 delta R.A R.Ab R.AR R.Cs R.E R.I R.Li R.Lt R.N R.S R.T R.U R.Wu;try dsimp only [R.Ps]
 have d1:=Al (n:=n) (by omega);have d2:=HM h1.1 h1.2;have d3:=HM h2.1 h2.2;refine (ST.start w).An λ b9 w1 _ B1 S=>⟨_,S.cell 0 rfl rfl,?_⟩;rw [Aj (by omega) (by omega)];refine (Bh l (hl.grown B1) n (by omega) (by omega)).mono ?_;rintro _ w2 ⟨_,rfl,x2,y2,rfl,N2⟩;have S:=BJ S N2;refine⟨_,_,_,rfl,_,S.cell 1 rfl rfl,_,S.cell 1 rfl rfl,_,S.cell 1 rfl rfl,(JY (l++Af n) (Ew S 0 rfl) p.1 h1.2 (by rw [Alb];omega)).mono ?_⟩;rintro _ w3 ⟨_,rfl,h3⟩;obtain⟨x3,y3,rfl,N3⟩:=Jc h1.1 h3;have S:=BJ S N3;refine⟨_,_,_,_,rfl,_,S.cell 2 rfl rfl,_,S.cell 2 rfl rfl,_,S.cell 2 rfl rfl,(JY (l++Af n++CC p.1) (Ew S 0 rfl) p.2 h2.2 (by simp only [Alb];omega)).mono ?_⟩;rintro _ w4 ⟨_,rfl,h4⟩;obtain⟨x4,y4,rfl,N4⟩:=Jc h2.1 h4;have S:=BJ S N4;have e:l++(Af n++CC p.1++CC p.2)=l++Af n++CC p.1++CC p.2:=by simp
 rw [e];exact⟨_,_,_,_,rfl,x4,y4,rfl,Abq S 0 rfl⟩
theorem Ae1(n:Nat):(#[Value.int .u8 (IntKind.u8.wrap (n:Int)),.int .u8 (IntKind.u8.wrap (Alu (n:Int) (2 ^ (min 8 64)))),.int .u8 (IntKind.u8.wrap (Alu (n:Int) (2 ^ (min 16 64)))),.int .u8 (IntKind.u8.wrap (Alu (n:Int) (2 ^ (min 24 64))))]:Array Value)=((LP n).map Ag).toArray:=by
 have sh:∀ k,Alu (n:Int) (2 ^ k)=((n / 2 ^ k:Nat):Int):=λ k=>by
  rw [Int.fdiv_eq_ediv_of_nonneg _ (Int.pow_nonneg (by decide))]
  norm_cast
 have by_:∀ m:Nat,Value.int .u8 (IntKind.u8.wrap (m:Int))=Ag (UInt8.ofNat (m % 256)):=λ m=>by
  rw [wrap_u8,<- Cq (x:=m % 256) (by omega)];congr 1
 rw [show min 8 64=8 from rfl,show min 16 64=16 from rfl,show min 24 64=24 from rfl,sh,sh,sh,by_,by_,by_,by_];rfl
set_option maxHeartbeats 1000000 in
theorem HS(hl:Rd w a (BM cs))(hn:cs.length<=9223372036854775807)(hq:∀ c∈cs,c.1.size<=9223372036854775807)(hr:Ba w a2 ps)(hm:ps.length<=9223372036854775807)(hv:∀ r∈rws ps,∀ v∈r,BL v) :
  Calls Tryz.prog f.AaX #[.slice a cs.length c,.slice a2 ps.length c2] w (AG λ v w'=>Aes cs (rws ps) v/\Below w.heap.size w w'):=by
 apply R.P6
 delta R.A R.Ab R.Ad R.B R.EL R.AR R.Cb R.Cs R.D R.E R.F R.H R.I R.J R.Ks R.Li R.Ls R.Lt R.Ly R.N R.O R.Qi R.EM R.Zz R.Rs R.Rt R.S R.Am R.T R.U R.W R.Wb R.Wu R.X;try dsimp only [R.Ps]
 have bad:∀ {wx:World} (e:Int),Below w.heap.size w wx->(Ef cs (rws ps)=e)->e≠0->Aes cs (rws ps) (.tuple #[.string ⟨#[]⟩,.int .i64 e])/\Below w.heap.size w wx:=by
  rintro wx e B rfl h0;refine⟨.inl ⟨λ hs=>h0 ?_,rfl,h0⟩,B⟩;have h1:¬ (1024<(rws ps).length\/∃ r∈rws ps,C8 cs r=false):=by
   rintro (h | ⟨r,hr,h⟩)
   ·have:=hs.len;omega
   ·rw [hs.fits r hr] at h;cases h
  have h2:¬ Ap cs=false:=by rw [hs.right];decide
  rw [Ef,if_neg h2,if_neg h1]
 refine (DV hl hn hq).mono ?_;rintro _ w1 ⟨_,rfl,rfl,rfl⟩;refine⟨_,rfl,As (Aq (λ hR=>?_) (λ hR=>bad 50 (.refl _ _) (by rw [Ef,if_pos hR]) (by decide)))⟩;have gZ:¬ Ap cs=false:=by rw [hR];decide
 refine Aa (λ h=>bad 51 (.refl _ _) ?_ (by decide)) (λ hlen=>?_)
 ·have:1024<(rws ps).length:=by simp only [rws,Alr];omega
  rw [Ef,if_neg gZ,if_pos (.inl this)]
 have bJ:ps.length<=1024:=by omega
 refine⟨λ s w2=>∃ i:Nat,s=[.int .i64 (i:Int)]/\i<=ps.length/\Below w1.heap.size w1 w2/\∀ j (hj:j<ps.length),j<i->C8 cs ps[j].2.2=true,λ s _=>match s with
   | [.int _ i]=>ps.length-i.toNat
   | _=>0,⟨0,rfl,by omega,.refl _ _,λ j hj h=>by omega⟩,?_⟩
 rintro _ w2 ⟨i,aA,hi,B2,aF⟩;cases aA;refine Aa (λ aB=>⟨⟨by omega,aB⟩,?_⟩) (λ aI=>?_)
 ·have aD:i<ps.length:=by omega
  obtain⟨q,rfl,ld,aJ⟩:=(hr.grown B2).at aD;refine⟨_,_,_,by rw [Ale];exact ld,(IL (hl.grown B2) hn hq aJ).mono ?_⟩;rw [hR,Bool.true_and];rintro _ w3 ⟨_,rfl,rfl,B3⟩;have C3:=Ac B2 B3;refine⟨_,rfl,As (Aq (λ hf=>?_) (λ hf=>bad 51 C3 ?_ (by decide)))⟩
  ·rw [Ae (by omega)];refine⟨⟨i+1,rfl,by omega,C3,λ j hj dU=>?_⟩,by simp only [Ale];omega⟩;rcases Nat.lt_or_ge j i with h | h
   ·exact aF j hj h
   ·obtain rfl:j=i:=by omega
    exact hf
  ·rw [Ef,if_neg gZ,if_pos (.inr ⟨_,AkU.2 ⟨ps[i],AlS aD,rfl⟩,hf⟩)]
 have aK:Bv cs (rws ps):=by
  refine⟨hR,by simp only [rws,Alr];omega,λ r hr=>?_,hv⟩;obtain⟨p,hp,rfl⟩:=AkU.1 hr;obtain⟨j,hj,rfl⟩:=List.getElem_of_mem hp;exact aF j hj (by omega)
 clear aF aI hi;have kx:∀ p∈ps,p.2.2.length=cs.length:=λ p hp=>aK.Vn (AkU.2 ⟨p,hp,rfl⟩);have bN:=A6 hR;have bD:=GJ hR;have d1:=Al (n:=ps.length) (by omega);have S:=(ST.start w1).grown B2;refine S.An λ iO w4 uR B4 S=>ZU AiK Ahw (S.CJ 0 rfl) λ w5 K5 yC=>⟨_,_,_,rfl,?_⟩;have S:=S.I2 0 rfl (K5.mono λ k _ h=>by subst h;rfl) (Aeu (some ⟨iO,0,none⟩) 4 Ck) (.inr ⟨_,rfl,rfl,Rd.Ak yC,rfl,(Array.getElem?_eq_some_iff.1 yC).1⟩) (λ k hk=>.inl hk);refine (JZ (l:=[]) (a:=none) (c:=0) (Rd.nil _ _) (by simp) (hl.grown S.Ar) hn hq).mono ?_;rintro _ w6 ⟨_,rfl,h6⟩;rcases h6 with ⟨hR0,_⟩ | ⟨_,a6,c6,rfl,N6⟩
 ·exact absurd hR0 gZ
 rw [Ame] at N6 ⊢;have S:=BJ S N6;rw [Aj (by omega) (by omega)];refine⟨_,_,_,_,rfl,(Bh (CF cs) (Ew S 0 rfl) ps.length (by omega) (by omega)).mono ?_⟩;rintro _ w7 ⟨_,rfl,a7,c7,rfl,N7⟩;have S:=BJ S N7;refine⟨_,_,_,rfl,?_⟩;refine⟨λ s wx=>∃(xs:List (List UInt8)) (fa:Option Addr) (fc:Nat) (ba:Option Addr) (bc:Nat),xs.length<=cs.length/\Et cs (rws ps) xs/\s=[.slice ba (Ck++xs.flatten).length bc,.slice fa (CF cs++Af ps.length++Cr (rws ps) xs).length fc,.int .i64 (xs.length:Int)] /\
   ST w1 wx [CP fa fc (CF cs++Af ps.length++Cr (rws ps) xs),Aeu ba bc (Ck++xs.flatten)],λ s _=>match s with
   | [_,_,.int _ i]=>cs.length-i.toNat
   | _=>0,⟨[],a7,c7,some ⟨iO,0,none⟩,4,by simp,.nil _ _,?_,?_⟩,?_⟩
 ·have e1:CF cs++Af ps.length++Cr (rws ps) ([]:List (List UInt8))=CF cs++Af ps.length:=by simp [Cr]
  have e2:Ck++([]:List (List UInt8)).flatten=Ck:=by simp
  rw [e1,e2];rfl
 ·have e1:CF cs++Af ps.length++Cr (rws ps) ([]:List (List UInt8))=CF cs++Af ps.length:=by simp [Cr]
  have e2:Ck++([]:List (List UInt8)).flatten=Ck:=by simp
  rw [e1,e2];exact S.sub ((List.sublist_cons_self _ _).cons_cons _)
 clear S N6 N7;rintro _ _ _ _ _ _ _ w8 ⟨xs,fa,fc,ba,bc,lk,du,aA,S⟩;cases aA;have cd:=du.flat aK;have q7:=du.Agn aK;refine Aa (λ aB=>?_) (λ aI=>?_)
 ·have lf:xs.length<cs.length:=by omega
  have hg:=aK.D7 lf;obtain⟨⟨z1,z2⟩,z3,z4⟩:=hg.Adm;have dv:(Bs (rws ps) xs.length).length=ps.length:=by rw [Gh];simp [rws]
  obtain⟨dM,hcolE⟩:∃ dM,dM=Bs (rws ps) xs.length:=⟨_,rfl⟩;refine (TE (hr.grown S.Ar) (by omega) (k:=xs.length) (λ q hq=>by rw [kx q hq];exact lf)).mono ?_;rw [<- hcolE] at hg z1 z2 z3 z4 dv ⊢;rintro _ w9 ⟨_,rfl,la,lc,rfl,P⟩;have S:=S.join P;obtain⟨p,rfl,c0,c1,c2⟩:=FQ (hl.grown S.Ar) lf;refine⟨_,_,_,rfl,⟨by omega,aB⟩,_,by rw [Ale];exact c1,(Km (c:=lc) cs[xs.length].2.1 (Ahg S 0 rfl) (by omega) hg.ok).mono ?_⟩;rintro _ bV ⟨_,rfl,mH⟩;rcases mH with ⟨aP,_⟩ | ⟨_,x,xa,xc,hx,rfl,mH⟩
  ·rw [hg.right] at aP;cases aP
  have dB:=hx.len hg;have wv:0<x.length:=by have:=(hx.read hg).2.1;omega
  have S:=BJ S mH;refine⟨_,_,_,_,rfl,(Wj (c:=lc) (Ahg S 1 rfl)).mono ?_⟩;rintro _ aY ⟨_,rfl,hz,cF⟩;have S:=S.grown cF;obtain⟨zn,zp,ze,rfl,eA⟩:=hz.open;obtain⟨rfl,rfl⟩:zn=(Au dM:Int)/\zp=Ga dM:=by
   rcases eA with ⟨_,h1,h2,_⟩ | ⟨h1,_⟩
   ·exact⟨h1,h2⟩
   ·exact absurd hg.G9 h1
  refine⟨_,_,_,_,_,_,_,_,rfl,S.An λ rF bK _ _ S=>S.Abs 0 rfl λ fB S=>?_⟩;refine Ac8 S 4 rfl (Ew S 1 rfl) wv (by simp only [Alb,Ck,Ald,Amp];omega) λ a20 rJ fC S=>⟨_,_,_,rfl,S.draw λ fD _ S=>?_⟩;refine⟨_,S.cell 0 rfl rfl,_,S.cell 0 rfl rfl,_,S.cell 0 rfl rfl,_,S.cell 0 rfl rfl,_,S.cell 0 rfl rfl,_,S.cell 0 rfl rfl,_,S.cell 0 rfl rfl,?_⟩;rw [Aj (n:=(x.length:Int)) (by omega) (by omega)];have qQ:=Dc dM;have d2:=Al (n:=x.length) (by omega);have d4:=Al (n:=Au dM) (by omega);refine (Bh (CF cs++Af ps.length++Cr (rws ps) xs) (Ew S 3 rfl) x.length (by omega) (by simp only [Alb];omega)).mono ?_;rintro _ iM ⟨_,rfl,a22,c22,rfl,zJ⟩;have S:=BJ S zJ;refine⟨_,_,_,rfl,⟨S.cell 1 rfl rfl,S.cell 1 rfl rfl,S.cell 1 rfl rfl,S.cell 1 rfl rfl,S.cell 1 rfl rfl,S.cell 1 rfl rfl,S.cell 1 rfl rfl⟩,?_⟩;refine (Wl (CF cs++Af ps.length++Cr (rws ps) xs++Af x.length) (Ew S 0 rfl) (Au dM) (by omega) (Ga dM) ⟨z1,z2⟩ ⟨z3,z4⟩ (by simp only [Alb];omega)).mono ?_
  rintro _ fp ⟨_,rfl,a23,xe,rfl,zK⟩;have S:=BJ S zK;have ef:CF cs++Af ps.length++Cr (rws ps) xs++Af x.length++(Af (Au dM)++CC (Ga dM).1++CC (Ga dM).2)=CF cs++Af ps.length++Cr (rws ps) (xs++[x]):=by
   rw [Sn,<- hcolE];simp [Kh]
  have eb:Ck++xs.flatten++x=Ck++(xs++[x]).flatten:=by simp
  have el:xs.length+1=(xs++[x]).length:=by simp
  rw [ef,eb] at S;rw [Ae (by omega),ef,eb,el];refine⟨_,_,_,rfl,⟨xs++[x],a23,xe,a20,rJ,by rw [<- el];omega,du.snoc lf (by rw [<- hcolE];exact hx),rfl,?_⟩,by rw [<- el];simp only [Ale];omega⟩;have S2:ST w1 fp [CP a23 xe (CF cs++Af ps.length++Cr (rws ps) (xs++[x])),CP a20 rJ (Ck++(xs++[x]).flatten)]:=S.sub ((((AmX _).cons _).cons _).cons _ |>.cons _ |>.cons _ |>.cons_cons _);exact Ad0 S2 1 rfl
 ·have dB:xs.length=cs.length:=by omega
  have vD:=du.TY aK;have bM:=du.AcG aK;have rQ:CF cs++Af ps.length++Cr (rws ps) xs=DQ cs (rws ps) xs:=by
   unfold DQ;rw [show (rws ps).length=ps.length by simp [rws]]
  rw [rQ] at S ⊢;obtain⟨ft,bQ⟩:∃ ft,ft=DQ cs (rws ps) xs:=⟨_,rfl⟩;have vE:0<ft.length:=by
   rw [bQ,<- rQ];have:0<(CF cs).length:=by
    unfold CF;rw [Alb];have:=List.length_pos_iff.2 (Io cs.length);omega
   simp only [Alb];omega
  rw [<- bQ] at S vD ⊢;obtain⟨bb,jz⟩:∃ bb,bb=Ck++xs.flatten:=⟨_,rfl⟩;rw [<- jz] at S ⊢;have ebl:bb.length<=33000004:=by rw [jz];simp only [Alb,Ck,Ald,Amp];omega
  refine Ac8 S 1 rfl (Ew S 0 rfl) vE (by omega) λ a24 oO fE S=>⟨_,_,_,rfl,?_⟩;rw [Ae1];refine S.An λ zg gQ _ _ S=>?_;have ng:Rd gQ (some ⟨zg,0,none⟩) ((LP ft.length).map Ag):=S.GD 0 rfl;refine Y5 S 2 rfl (m:=LP ft.length) (k:=4) rfl ng (by simp only [Alb,LP,Ald,Amp];omega) λ a26 xf kE S=>⟨_,_,_,rfl,?_⟩;have mF:bb++ft++LP ft.length=KC cs (rws ps) xs:=by rw [jz,bQ];rfl
  rw [mF] at S ⊢;obtain⟨pre,cY⟩:∃ pre,pre=KC cs (rws ps) xs:=⟨_,rfl⟩;rw [<- cY] at S bM ⊢;have uj:=(S.get 2 rfl:Row kE _ _ _ _ _ _).le;refine (JX pre (Ew S 2 rfl) uj (by omega)).mono ?_;rintro _ lB ⟨_,rfl,rfl,oD⟩;have S:=S.grown oD;have bj:(IE pre).length=32:=FU _;obtain⟨dg,hdg⟩:∃ dg,dg=IE pre:=⟨_,rfl⟩;rw [<- hdg] at bj ⊢;have jM:(dg.map Ag).length=32:=by rw [Alr];exact bj
  refine I4 dg bj ⟨rfl,S.An λ tL oB _ _ S=>Ds jM (S.Er 0 rfl jM (Ge _) λ kF S=>?_)⟩;have S2:ST w1 kF [It.cells tL ⟨dg.map Ag⟩ 142,CP a26 xf pre]:=S.sub (((AmX _).cons _).cons _ |>.cons_cons _);refine⟨λ s wx=>∃(j:Nat) (xa:Option Addr) (xc:Nat),s=[.slice xa (pre++dg.take j).length xc,.int .i64 (j:Int)]/\j<=32/\ST w1 wx [It.cells tL ⟨dg.map Ag⟩ 142,CP xa xc (pre++dg.take j)],λ s _=>match s with
   | [_,.int _ i]=>32-i.toNat
   | _=>0,⟨0,a26,xf,by simp,by omega,by simpa using S2⟩,?_⟩
  clear S S2;rintro _ _ _ _ eK ⟨j,xa,xc,aA,hj,S⟩;cases aA;refine Aa (λ ao=>⟨⟨by omega,ao⟩,?_⟩) (λ br=>?_)
  ·have fR:j<dg.length:=by omega
   have aE:eK.cell? ((⟨tL,0,none⟩:Addr).add ((j:Int).toNat*1))=some (.int .u8 (dg[j].toNat:Int)):=by
    rw [Ale,Ay,Nat.zero_add,Alh];refine S.cell 0 rfl ?_;simp [fR,Ag]
   refine⟨_,aE,S.An λ zk cQ _ _ S=>?_⟩;have aW:Rd cQ (some ⟨zk,0,none⟩) ([dg[j]].map Ag):=S.GD 0 rfl;refine Y5 S 2 rfl (m:=[dg[j]]) (k:=1) rfl aW (by simp only [Alb,Al7,Ald,Amp];omega) λ a33 rK ia S=>⟨_,_,_,rfl,?_⟩;have ej:pre++dg.take j++[dg[j]]=pre++dg.take (j+1):=by rw [Al6 fR,List.append_assoc]
   rw [ej] at S;rw [Ae (by omega),ej];exact⟨⟨j+1,a33,rK,rfl,by omega,S.drop 1⟩,by simp only [Ale];omega⟩
  ·obtain rfl:j=32:=by omega
   rw [AlK (by omega)] at S ⊢;refine Ax CA rfl (Ew S 1 rfl) ⟨_,rfl,.inr ⟨aK,_,rfl,⟨xs,dB,du,?_⟩⟩,S.Ar⟩;rw [Mb,hdg,cY]
end
theorem SN{l:List UInt8}:∀(n at_:Nat) {r:List BQ × Nat},Bc l at_ n=some r->at_<=l.length->r.2<=l.length
 | 0,at_,r,h,h0=>by simp only [Bc,Option.some.injEq] at h;subst h;exact h0
 | n+1,at_,r,h,h0=>by
  unfold Bc at h;cases hx:BD l (at_:Int) 24 with
  | none=>rw [hx] at h;cases h
  | some x =>
   rw [hx] at h;simp only at h;split at h
   ·cases h
   ·rename_i aP;obtain⟨y,hy,rfl⟩:=Option.map_eq_some_iff.1 h;have:=SN n (x.2+2) hy (by omega);exact this
theorem Adf{l:List UInt8}{at_:Int}{r:List BQ × Nat}(h:Bj l at_=some r):r.2<=l.length:=by
 unfold Bj at h;split at h
 ·cases h
 ·rename_i x hx;obtain⟨_,_,_,hb,_⟩:=Az hx;split at h
  ·cases h
  ·split at h
   ·cases h
   ·rename_i y hy;split at h
    ·cases h;exact SN _ _ hy hb
    ·cases h
theorem Afq(AM:List (List AB))(l:List AB)(q:Nat):rowAt (AM++[l]) q=rowAt AM q++[l.getD q Z0]:=by simp [rowAt]
def RdV(b:List UInt8)(w w':World)(v:Value):Prop :=
 Below w.heap.size w w'/\((∃ cs AM ps ca cc bo n,v=.tuple #[.slice ca cs.length cc,.slice (some ⟨bo,0,none⟩) n n,.bool true]/\Rd w' ca (BM cs)/\Ba w' (some ⟨bo,0,none⟩) ps/\ps.length=n/\n<=1024/\Ap cs=true/\rws ps=rowsOf AM n /\
   (∀ dM∈AM,dM.length=n/\∃ k,Be k dM)/\(∀ aC rows' gR,Eu aC rows' gR b->cs=aC/\n=rows'.length/\AM=(AlL aC.length).map (Bs rows'))/\ST w w' (Ff bo ps)) \/
  (v=.tuple #[.slice none 0 0,.slice none 0 0,.bool false]/\∀ aC rows' gR,¬ Eu aC rows' gR b))
theorem AeK{xs:List (List UInt8)}{i:Nat}(hi:i<xs.length):(xs.take (i+1)).flatten=(xs.take i).flatten++xs[i]:=by
 rw [Al6 hi,List.flatten_append];simp
section
variable {w:World}{a:Option Addr}{c:Nat}{b:List UInt8}
set_option maxHeartbeats 1000000 in
theorem Wk(s:ByteArray)(hb:b=(bl s).take (s.size-32))(pM:40<=s.size)(hs:s.size<=140737488355328) :
  Calls Tryz.prog f.AcZ #[.string s] w (AG λ v w'=>RdV b w w' v):=by
 apply R.RP
 delta R.Ad R.WD R.Adn R.Ik R.D R.F R.G R.H R.I R.J R.Ks R.Li R.Ls R.Lt R.Ly R.N R.O R.Qi R.NH R.Rs R.S R.Am R.T R.W R.X R.Y;try dsimp only [R.Ps]
 have bD:=Bb s;have au:b.length=s.size-32:=by rw [hb,Al7];omega
 have eW:IntKind.i64.wrap ((s.size:Int)-32)=(b.length:Int):=by rw [wrap_i64 (by omega) (by omega)];omega
 rw [eW,Ale];have eX:s.extract 0 b.length=BC b:=by rw [extract_eq,AmG,AmE,au,<- hb]
 rw [eX];refine⟨⟨by omega,by omega,by omega⟩,CE CA (BC b) w λ b0 c0 cells e0 w1 bg B1 jQ aj jg dA=>?_⟩;rw [A1] at jg dA ⊢;rw [BN] at dA;have dQ:Rd w1 (some ⟨b0,0,none⟩) (b.map Ag):=by
  have:=(Rd.Ak jQ).take b.length;rw [dA] at this;exact this
 refine⟨_,_,_,rfl,?_⟩;obtain⟨t,ht⟩:∃ t,t=b.drop (b.length-4):=⟨_,rfl⟩;have eU:t.length=4:=by rw [ht,AlE];omega
 refine⟨λ st w2=>∃ k:Nat,st=[.int .i64 (KY t k:Int),.int .i64 ((k+1:Nat):Int)]/\k<=4/\w1=w2,λ st _=>match st with
   | [_,.int _ i]=>5-i.toNat
   | _=>0,⟨0,by simp [KY],by omega,rfl⟩,?_⟩
 rintro _ _ w2 ⟨k,aA,hk,rfl⟩;cases aA;refine Aa (λ aB=>?_) (λ aI=>?_)
 ·have nK:k<t.length:=by omega
  have h1:=O9 (l:=t) k (by omega);have h2:256 ^ k<=256 ^ 3:=Nat.pow_le_pow_right (by omega) (by omega);have h3:(256:Nat) ^ 3=16777216:=by decide
  have hbi:b.length-(k+1)<b.length:=by omega
  have eI:IntKind.i64.wrap ((b.length:Int)-((k+1:Nat):Int))=((b.length-(k+1):Nat):Int):=by rw [wrap_i64 (by omega) (by omega)];omega
  rw [eI,Ale];obtain⟨p,hp,aE⟩:=byte_at dQ hbi;cases hp;refine⟨⟨by omega,by omega⟩,_,aE,?_⟩;have oq:t[t.length-1-k]'(by omega)=b[b.length-(k+1)]:=by
   simp only [ht,Am3,AlE];congr 1;omega
  have ao:=(b[b.length-(k+1)]).toNat_lt;have ea:IntKind.i64.wrap (IntKind.i64.wrap (256*(KY t k:Int))+IntKind.i64.wrap ((b[b.length-(k+1)]).toNat:Int))=(KY t (k+1):Int):=by
   rw [QO nK,oq,wrap_i64 (n:=256*(KY t k:Int)) (by omega) (by omega),wrap_i64 (n:=((b[b.length-(k+1)]).toNat:Int)) (by omega) (by omega),wrap_i64 (by omega) (by omega)];omega
  have eb:IntKind.i64.wrap (((k+1:Nat):Int)+1)=((k+1+1:Nat):Int):=Ae (by omega);rw [ea,eb];exact⟨⟨k+1,rfl,by omega,rfl⟩,by simp only [Ale];omega⟩
 obtain rfl:k=4:=by omega
 obtain⟨n,hn⟩:∃ n,n=KY t 4:=⟨_,rfl⟩;have vo:n<4294967296:=by rw [hn];exact O9 (l:=t) 4 (by omega)
 have ni:∀ cs rows xs,Eu cs rows xs b->n=(DQ cs rows xs).length:=λ cs rows xs h=>by rw [hn,ht];exact h.split.2.1
 rw [<- hn];have eW1:IntKind.i64.wrap ((b.length:Int)-4)=((b.length-4:Nat):Int):=by rw [wrap_i64 (by omega) (by omega)];omega
 rw [eW1];simp only [Ale,AmE];refine⟨⟨by omega,by omega,by omega⟩,?_⟩;have pE:IntKind.i64.wrap (((b.length-4:Nat):Int)-4)=((b.length-8:Nat):Int):=by rw [wrap_i64 (by omega) (by omega)];omega
 have S:=ST.start w1;have bad:∀ {wx:World},Below w.heap.size w wx->(∀ aC rows' gR,¬ Eu aC rows' gR b)->RdV b w wx (.tuple #[.slice none 0 0,.slice none 0 0,.bool false]):=λ B h=>⟨B,.inr ⟨rfl,h⟩⟩;refine Aa (λ h=>bad (Ac B1 S.Ar) λ cs rows xs hP=>?_) (λ hle=>?_)
 ·have:=hP.split.2.2.1;have:=ni cs rows xs hP;rw [pE] at h;omega
 rw [pE] at hle;have nT:n<=b.length-8:=by omega
 have rP:IntKind.i64.wrap (((b.length-4:Nat):Int)-(n:Int))=((b.length-4-n:Nat):Int):=by rw [wrap_i64 (by omega) (by omega)];omega
 simp only [rP,Ale];refine⟨⟨by omega,by omega,by omega⟩,?_⟩;obtain⟨iG,_⟩:=SC (c:=c0) dQ jg (by omega) nT;obtain⟨ft,bQ⟩:∃ ft,ft=(b.take (b.length-4)).drop (b.length-4-n):=⟨_,rfl⟩;obtain⟨bd,gd⟩:∃ bd,bd=(b.take (b.length-4-n)).drop 4:=⟨_,rfl⟩;rw [<- bQ] at iG;obtain⟨fa,hfa⟩:∃ fa,fa=Cm (Cm (some ⟨b0,0,none⟩) 0 c0 1) (b.length-4-n) c0 1:=⟨_,rfl⟩;rw [<- hfa] at iG ⊢;have kh:ft.length=b.length-4-(b.length-4-n):=by rw [bQ,AlE,Al7];omega
 have pt:bd.length=b.length-4-n-4:=by rw [gd,AlE,Al7];omega
 rw [<- kh];have cH:∀ cs rows xs,Eu cs rows xs b->ft=DQ cs rows xs/\bd=xs.flatten:=λ cs rows xs hP=>by
  have e:=ni cs rows xs hP;have:=hP.split.2.2.2;rw [<- e] at this;exact⟨by rw [bQ];exact this.1,by rw [gd];exact this.2⟩
 have hT:=IM (c:=c0-(b.length-4-n)) iG (by omega) (by omega) 0 (by omega);refine hT.mono ?_;rintro _ bV ⟨_,rfl,hT⟩;obtain⟨cs,ca,cc,aL,e,rfl,S,bN,aj⟩:=hT.open S (λ r h=>DG h);refine⟨_,_,_,_,_,rfl,Ah (λ h=>bad (Ac B1 S.Ar) λ aC rows xs hP=>?_) (λ he=>?_)⟩
 ·have h2:=Jb (xs:=xs) hP.ok;rw [<- (cH aC rows xs hP).1] at h2;rcases aj with ⟨h3,_⟩ | ⟨_,h3⟩
  ·exact h h3
  ·rw [h2] at h3;cases h3
 have gD:Bj ft 0=some (cs,aL)/\Ap cs=true:=by
  rcases aj with ⟨_,h3⟩ | ⟨h3,_⟩
  ·exact h3
  ·exact absurd he h3
 have mV:aL<=ft.length:=Adf gD.1;refine (Vg (c:=c0-(b.length-4-n)) (iG.grown S.Ar) (by omega) (by omega) (aL:Int) (by omega) cs.length (by omega)).mono ?_;rintro _ aY ⟨_,rfl,uG⟩;obtain⟨r,ns,na,nc,ok,rfl,S,j'⟩:=uG.open S;refine⟨_,_,_,_,_,rfl,As (Aq (λ aK=>?_) (λ aK=>bad (Ac B1 S.Ar) λ aC rows xs hP=>?_))⟩;rotate_left
 ·have h2:=Jb (xs:=xs) hP.ok;rw [<- (cH aC rows xs hP).1,gD.1] at h2;have h4:=Ami h2;obtain rfl:cs=aC:=congrArg Prod.fst h4;obtain rfl:aL=(CF cs).length:=congrArg Am2 h4;have h5:=TZ (lim:=100000000) (by omega) hP.ok hP.chs hP.len;rw [<- (cH cs rows xs hP).1] at h5;rcases j' with ⟨h6,_⟩ | ⟨_,h6⟩
  ·rw [aK] at h6;cases h6
  ·rw [h5] at h6;cases h6
 have ja:Es 100000000 ft (aL:Int) cs.length=some (r,ns):=by
  rcases j' with ⟨_,h6⟩ | ⟨h6,_⟩
  ·exact h6
  ·rw [aK] at h6;cases h6
 obtain⟨bn,hr24⟩:=VE ja;simp only at bn hr24;have key:∀ aC rows xs,Eu aC rows xs b->cs=aC/\r=rows.length/\ns=xs.map Amz/\bd=xs.flatten:=λ aC rows xs hP=>by
  have h2:=Jb (xs:=xs) hP.ok;rw [<- (cH aC rows xs hP).1,gD.1] at h2;have h4:=Ami h2;obtain rfl:cs=aC:=congrArg Prod.fst h4;obtain rfl:aL=(CF cs).length:=congrArg Am2 h4;have h5:=TZ (lim:=100000000) (by omega) hP.ok hP.chs hP.len;rw [<- (cH cs rows xs hP).1,ja] at h5;have h6:=Ami h5;exact⟨rfl,congrArg Prod.fst h6,congrArg Am2 h6,(cH cs rows xs hP).2⟩
 refine Ea Ad2 (l:=(r:Int)) (c:=(r:Int)) (by omega) (by omega) (by omega) (by omega) λ bo bK fO ic fI=>?_;rw [Ale] at fI ⊢;have S:=W2 S r fO ic fI;have S:ST w1 bK ([Iq na nc ns,CK ca cc cs]++Ff bo (List.replicate r (none,0,[]))):=S.perm List.perm_append_comm;let Inv:List Value->World->Prop:=λ st wx=>∃(i from_:Nat) (AM:List (List AB)) (ps:List BF),st=[.int .i64 (from_:Int),.int .i64 (i:Int)]/\i<=cs.length/\AM.length=i/\4<=from_/\from_<=b.length-4-n/\ps.length=r /\
  (∀ dM∈AM,dM.length=r/\∃ k,Be k dM)/\(∀ q (hq:q<ps.length),ps[q].2.2=rowAt AM q)/\(∀ aC rows xs,Eu aC rows xs b->from_=4+(xs.take i).flatten.length/\AM=(AlL i).map (Bs rows)) /\
  ST w1 wx ([Iq na nc ns,CK ca cc cs]++Ff bo ps)
 let Mu:List Value->World->Nat:=λ st _=>match st with
   | [_,.int _ i]=>cs.length-i.toNat
   | _=>0
 refine⟨_,_,_,rfl,Inv,Mu,⟨0,4,[],_,rfl,by omega,rfl,by omega,by omega,List.length_replicate,by simp,λ q hq=>by simp [rowAt],λ aC rows xs hP=>⟨by simp,by simp⟩,S⟩,?_⟩;clear S;rintro _ _ al ⟨i,from_,AM,ps,aA,hi,lQ,hf4,hfle,bM,cW,aJ,aV,S⟩;cases aA;refine Aa (λ aB=>⟨⟨by omega,by omega⟩,?_⟩) (λ aI=>?_)
 ·have aD:i<ns.length:=by omega
  have hN:Rd al na (ns.map λ n:Nat=>Value.int .i64 (n:Int)):=S.rd 0 rfl;obtain⟨pn,rfl,lP⟩:=Acx hN aD;have dI:∀ aC rows xs,Eu aC rows xs b->∃ hx:i<xs.length,ns[i]=xs[i].length/\bd.drop (from_-4)=xs[i]++(xs.drop (i+1)).flatten:=λ aC rows xs hP=>by
   obtain⟨_,_,h1,h2⟩:=key aC rows xs hP;have hx:i<xs.length:=by rw [h1,Alr] at aD;exact aD
   refine⟨hx,by simp [h1],?_⟩;have h3:=(aV aC rows xs hP).1;rw [h2,<- Py hx];have h4:xs.flatten=(xs.take i).flatten++(xs.drop i).flatten:=by rw [<- List.flatten_append,Am0]
   rw [h4,h3,Nat.add_sub_cancel_left,Amu]
  have eF:IntKind.i64.wrap (((b.length-4-n:Nat):Int)-(from_:Int))=((b.length-4-n-from_:Nat):Int):=by rw [wrap_i64 (by omega) (by omega)];omega
  rw [eF];refine⟨_,by rw [Ale];exact lP,Aa (λ h=>bad (Ac B1 S.Ar) λ aC rows xs hP=>?_) (λ cV=>?_)⟩
  ·obtain⟨hx,h1,h2⟩:=dI aC rows xs hP;have:=congrArg Amz h2;rw [Alb,AlE] at this;omega
  have pz:from_+ns[i]<=b.length-4-n:=by omega
  have eG:IntKind.i64.wrap ((from_:Int)+(ns[i]:Int))=((from_+ns[i]:Nat):Int):=by rw [wrap_i64 (by omega) (by omega)];omega
  refine⟨⟨by omega,by omega⟩,_,by rw [Ale];exact lP,?_⟩;rw [eG];simp only [Ale];refine⟨⟨by omega,by omega,by omega⟩,?_⟩;obtain⟨ch,du⟩:∃ ch,ch=(bd.drop (from_-4)).take ns[i]:=⟨_,rfl⟩;have uk:ch.length=from_+ns[i]-from_:=by rw [du,Al7,AlE];omega
  have kz:Rd w1 (Cm (Cm (some ⟨b0,0,none⟩) 0 c0 1) from_ c0 1) (ch.map Ag):=by
   have h0:=dQ.OY 0 (b.length-4) c0 1 (by omega);have h:=h0.OY from_ (from_+ns[i]) c0 1 (by omega);simp only [Alh,AmG,AmE] at h;rw [<- AlG,<- List.map_drop,<- AlG] at h;have e:((b.take (b.length-4)).drop from_).take (from_+ns[i]-from_)=ch:=by
    rw [du,gd,List.drop_drop,show 4+(from_-4)=from_ by omega,Nat.add_sub_cancel_left,List.drop_take,List.drop_take,List.take_take,List.take_take];congr 1;omega
   rwa [e] at h
  rw [<- uk];refine (TB (c:=c0-from_) (kz.grown S.Ar) (by omega) (by omega)).mono ?_;rintro _ an ⟨_,rfl,K,ls,la,lc,e14,rfl,jx,oz,oh,aG⟩;have S:=Qp S oz jx;have gE:∀ aC rows xs,Eu aC rows xs b->e14=0/\ls=Bs rows i:=λ aC rows xs hP=>by
   obtain⟨hx,h1,h2⟩:=dI aC rows xs hP;have lk:i<aC.length:=by have:=hP.len;omega
   have h3:ch=xs[i]:=by rw [du,h1,h2,Ak6]
   have h4:=hP.chs.each i lk hx;rw [<- h3] at h4;rcases aG with ⟨_,_,he,hu⟩ | ⟨aP,_⟩
   ·exact⟨he,((hu _ _ (hP.ok.D7 lk) h4).2).symm⟩
   ·exact absurd h4 (aP _ _ (hP.ok.D7 lk))
  refine⟨_,_,_,_,_,rfl,Ah (λ h=>bad (Ac B1 S.Ar) λ aC rows xs hP=>h (gE aC rows xs hP).1) (λ he=>Ah (λ h=>bad (Ac B1 S.Ar) λ aC rows xs hP=>?_) (λ hlr=>?_))⟩
  ·have:=(gE aC rows xs hP).2;have h5:=(key aC rows xs hP).2.1;rw [this,Gh] at h;omega
  have hg:Be K ls:=by
   rcases aG with ⟨h,_⟩ | ⟨_,_,_,h⟩
   ·exact h
   ·rw [h] at he;exact absurd he (by decide)
  have vg:ls.length=r:=by omega
  refine⟨λ st wx=>∃(j:Nat) (qs:List BF),st=[.int .i64 (j:Int)]/\j<=r/\qs.length=r/\(∀ q (hq:q<qs.length),qs[q].2.2=if q<j then rowAt (AM++[ls]) q else rowAt AM q)/\ST w1 wx ([It.rd la (AP ls),Iq (some pn) nc ns,CK ca cc cs]++Ff bo qs),λ st _=>match st with
   | [.int _ j]=>r-j.toNat
   | _=>0,⟨0,ps,rfl,by omega,bM,λ q hq=>by rw [aJ q hq];simp,S⟩,?_⟩
  clear S;rintro _ ah ⟨j,qs,aA,hj,ku,jd,S⟩;cases aA;refine Aa (λ ao=>?_) (λ br=>?_)
  ·have hjr:j<r:=by omega
   have rk:j<qs.length:=by omega
   refine S.draw λ cp _ S=>⟨⟨by omega,by omega⟩,⟨by omega,by omega⟩,?_⟩;have vH:=Mz S rk;have bU:Rd cp la (AP ls):=S.ok (It.rd la (AP ls)) (by simp);obtain⟨q2,rfl,d0,d1,d2⟩:=Di bU (i:=j) (by omega);refine⟨_,_,_,by rw [Ale];exact vH,_,by rw [Ale];exact d0,_,by rw [Ale];exact d1,_,by rw [Ale];exact d2,S.An λ ju cP _ _ S=>?_⟩;have vV:j<ls.length:=by omega
   have S':ST w1 cP ([It.cells ju (H6 ls[j]).toArray ty.AW,It.rd (some q2) (AP ls),Iq (some pn) nc ns,CK ca cc cs]++Ff bo qs):=S;have nF:=Mz S' rk;have qZ:qs[j].2.2=rowAt AM j:=by rw [jd j rk];simp
   have kx:qs[j].2.2.length=i:=by rw [qZ];simp [rowAt,lQ]
   refine⟨by rw [Ale];exact nF,?_⟩;have aW:Rd cP (some ⟨ju,0,none⟩) (H6 ls[j]):=S'.GD 0 rfl;refine Z8 S' rk aW (by omega) λ a6 c6 w6 hk=>⟨_,_,_,rfl,⟨by omega,by omega⟩,?_⟩;rw [Ale];unfold Av;simp only;refine hk _ λ w7 S=>?_;rw [Ae (by omega)];refine⟨⟨j+1,qs.set j (a6,c6,qs[j].2.2++[ls[j]]),rfl,by omega,by rw [List.length_set];exact ku,λ q hq=>?_,S.drop 1⟩,by simp only [Ale];omega⟩;rw [List.length_set] at hq;rw [List.getElem_set];by_cases wG:j=q
   ·subst wG;simp only [if_true,Nat.lt_succ_self];rw [qZ,Afq];simp [List.getD,vV]
   ·rw [if_neg wG,jd q hq];by_cases h5:q<j
    ·rw [if_pos h5,if_pos (by omega)]
    ·rw [if_neg h5,if_neg (by omega)]
  ·have hN:Rd ah (some pn) (ns.map λ n:Nat=>Value.int .i64 (n:Int)):=S.rd 1 rfl;obtain⟨pn',hpn',hcn2⟩:=Acx hN aD;cases hpn';refine⟨⟨by omega,by omega⟩,_,hcn2,?_⟩;rw [eG,Ae (by omega)];refine⟨⟨i+1,from_+ns[i],AM++[ls],qs,rfl,by omega,by simp [lQ],by omega,by omega,ku,λ dM dv=>?_,λ q hq=>by rw [jd q hq,if_pos (by omega)],λ aC rows xs hP=>?_,S.drop 1⟩,by show cs.length-((i+1:Nat):Int).toNat<cs.length-((i:Nat):Int).toNat;omega⟩
   ·rcases Al8.1 dv with h | h
    ·exact cW dM h
    ·rw [Al9.1 h];exact⟨vg,K,hg⟩
   ·obtain⟨hx,h1,h2⟩:=dI aC rows xs hP;obtain⟨h3,h4⟩:=aV aC rows xs hP;refine⟨?_,?_⟩
    ·rw [AeK hx,Alb,h3,h1];omega
    ·rw [List.range_succ,List.map_append,h4,(gE aC rows xs hP).2];rfl
 ·have bF:i=cs.length:=by omega
  refine⟨Ac B1 S.Ar,.inl ⟨cs,AM,ps,ca,cc,bo,r,rfl,Ahf S 1 rfl,Q5 S,bM,hr24,gD.2,Abc bM aJ,cW,λ aC rows xs hP=>?_,by
   have S':=((ST.start w).grown B1).join S;rw [List.append_nil] at S';exact S'.drop 2⟩⟩
  obtain⟨h1,h2,h3,h4⟩:=key aC rows xs hP;exact⟨h1,h2,by rw [(aV aC rows xs hP).2,bF,h1]⟩
end
def Akl(l:List UInt8)(w w':World)(v:Value):Prop :=
 Below w.heap.size w w'/\((∃ cs ps ca cc bo,v=.tuple #[.slice ca cs.length cc,.slice (some ⟨bo,0,none⟩) ps.length ps.length,.int .i64 0]/\Rd w' ca (BM cs)/\Ba w' (some ⟨bo,0,none⟩) ps/\Bv cs (rws ps)/\FL cs (rws ps) l/\ST w w' (Ff bo ps)) \/
  (v=.tuple #[.slice none 0 0,.slice none 0 0,.int .i64 91]/\¬ I7 l)\/(v=.tuple #[.slice none 0 0,.slice none 0 0,.int .i64 90]/\I7 l/\∀ aC rows',Bv aC rows'->¬ FL aC rows' l))
section
variable {w:World}
theorem Nw(s:ByteArray)(hs:s.size<=140737488355328):Calls Tryz.prog f.AcY #[.string s] w (AG λ v w'=>Akl (bl s) w w' v):=by
 apply R.RO
 delta R.A R.B R.AiC R.Ix R.D R.F R.H R.I R.Ly R.O R.Qi R.Rs R.S R.T R.W R.X R.Y;try dsimp only [R.Ps]
 have au:=Bb s;obtain⟨l,hl⟩:∃ l,l=bl s:=⟨_,rfl⟩;rw [<- hl] at au ⊢;have aP:s.size<40->¬ I7 l:=λ h hd=>by have:=hd.1;omega
 refine Aa (λ h=>⟨.refl _ _,.inr (.inl ⟨rfl,aP (by omega)⟩)⟩) (λ pM=>?_);have mI:40<=s.size:=by omega
 have eW:IntKind.i64.wrap ((s.size:Int)-32)=((s.size-32:Nat):Int):=by rw [wrap_i64 (by omega) (by omega)];omega
 rw [eW];simp only [Ale];obtain⟨l1,dw⟩:∃ l1,l1=l.take (s.size-32):=⟨_,rfl⟩;have nM:l1.length=s.size-32:=by rw [dw,Al7];omega
 have eX:s.extract 0 (s.size-32)=BC l1:=by rw [extract_eq,AmG,AmE,<- hl,<- dw]
 rw [eX];refine⟨⟨by omega,by omega,by omega⟩,CE CA (BC l1) w λ b0 c0 cells e0 w1 bg B1 jQ aj jg dA=>?_⟩;rw [A1] at jg dA ⊢;rw [BN] at dA;have dQ:Rd w1 (some ⟨b0,0,none⟩) (l1.map Ag):=by
  have:=(Rd.Ak jQ).take l1.length;rw [dA] at this;exact this
 refine⟨_,_,_,rfl,(JX l1 dQ jg (by omega)).mono ?_⟩;rintro _ w2 ⟨_,rfl,rfl,B2⟩;have S:=((ST.start w).grown B1).grown B2;have bj:(IE l1).length=32:=FU _;obtain⟨dg,hdg⟩:∃ dg,dg=IE l1:=⟨_,rfl⟩;rw [<- hdg] at bj ⊢;have jM:(dg.map Ag).length=32:=by rw [Alr];exact bj
 have jN:I7 l↔∀ j (hj:j<32),dg[j]'(by omega)=l[s.size-32+j]'(by omega):=by
  have h0:I7 l↔(40<=l.length/\l.drop (s.size-32)=dg):=by
   unfold I7;rw [au,<- dw,<- hdg]
  rw [h0];constructor
  ·intro h j hj;have:(l.drop (s.size-32))[j]?=dg[j]?:=by rw [h.2]
   rw [Ak2,Al5 (by omega),Al5 (by omega)] at this;exact (Ami this).symm
  ·intro h;refine⟨by omega,List.ext_getElem (by rw [AlE];omega) λ j g1 g2=>?_⟩;rw [Am3];exact (h j (by omega)).symm
 refine I4 dg bj ⟨rfl,S.An λ b6 w3 _ _ S=>Ds jM (S.Er 0 rfl jM (Ge _) λ w4 S=>?_)⟩;refine⟨λ st wx=>∃ j:Nat,st=[.int .i64 (j:Int)]/\j<=32/\(∀ q (hq:q<32),q<j->dg[q]'(by omega)=l[s.size-32+q]'(by omega))/\ST w wx [It.cells b6 ⟨dg.map Ag⟩ 142],λ st _=>match st with
   | [.int _ j]=>32-j.toNat
   | _=>0,⟨0,rfl,by omega,λ q _ h=>by omega,S⟩,?_⟩
 clear S;rintro _ w5 ⟨j,aA,hj,aF,S⟩;cases aA;refine Aa (λ aB=>?_) (λ aI=>?_)
 ·have vT:j<32:=by omega
  refine S.draw λ w6 _ S=>?_;have eI:IntKind.i64.wrap (((s.size-32:Nat):Int)+(j:Int))=((s.size-32+j:Nat):Int):=by rw [wrap_i64 (by omega) (by omega)];omega
  rw [eI];simp only [Ale];have aE:w6.cell? ((⟨b6,0,none⟩:Addr).add (j*1))=some (.int .u8 ((dg[j]'(by omega)).toNat:Int)):=by
   rw [Ay,Nat.zero_add,Alh];refine S.cell 0 rfl ?_;simp [show j<dg.length by omega,Ag]
  have hsg:Aw s (s.size-32+j)=l[s.size-32+j]'(by omega):=by rw [ME,<- hl];simp [List.getD,show s.size-32+j<l.length by omega]
  rw [hsg];refine⟨⟨by omega,aB⟩,⟨by omega,by omega⟩,_,aE,Ah (λ aQ=>⟨S.Ar,.inr (.inl ⟨rfl,λ hd=>aQ ?_⟩)⟩) (λ he=>?_)⟩
  ·rw [jN.1 hd j vT]
  ·rw [Ae (by omega)];refine⟨⟨j+1,rfl,by omega,λ q hq wG=>?_,S⟩,by simp only [Ale];omega⟩;rcases Nat.lt_or_ge q j with h | h
   ·exact aF q hq h
   ·obtain rfl:q=j:=by omega
    exact UInt8.toNat_inj.1 (by omega)
 ·have hD:I7 l:=jN.2 λ q hq=>aF q hq (by omega);refine (Wk s (by rw [<- hl]) mI hs).mono ?_;rintro _ w7 ⟨_,rfl,B7,hC⟩;have S5:=S;have S:=S.grown B7;rw [<- dw] at hC;have no:(∀ aC rows' gR,¬ Eu aC rows' gR l1)->∀ aC rows',Bv aC rows'->¬ FL aC rows' l:=λ h aC rows' bS hI=>by
   obtain⟨xs,hP,_⟩:=hI.pre bS;rw [au,<- dw] at hP;exact h _ _ _ hP
  rcases hC with ⟨cs,AM,ps,ca,cc,bo,n,rfl,hcr,hrr,bM,hn24,hR,cL,cW,hu,hG⟩ | ⟨rfl,hno2⟩
  ·subst bM;have bN:=A6 hR;have iZ:∀ aC rows',Bv aC rows'->FL aC rows' l->aC=cs/\rows'=rws ps:=λ aC rows' bS hI=>by
    obtain⟨xs,hP,_⟩:=hI.pre bS;rw [au,<- dw] at hP;obtain⟨h1,h2,h3⟩:=hu aC rows' xs hP;refine⟨h1.symm,?_⟩;rw [cL,h3,h2,SK λ r hr=>bS.Vn hr]
   refine⟨_,_,_,_,_,_,_,rfl,As (CN ?_)⟩;refine (HS hcr (by omega) (λ c hc=>by have:=(Dr hR hc).2.2.2;omega) hrr (by omega) (by
    intro r hr v hv;rw [cL] at hr;obtain⟨i,hi,rfl⟩:=AkU.1 hr;obtain⟨dM,dv,rfl⟩:=AkU.1 hv;obtain⟨ku,k,hg⟩:=cW dM dv;have aD:i<dM.length:=by have:=List.mem_range.1 hi;omega
    have e:dM.getD i Z0=dM[i]:=by simp [List.getD,aD]
    rw [e];exact hg.ok _ (AlS aD))).mono ?_
   rintro _ w8 ⟨_,rfl,hV,B8⟩;have S:=S.grown B8;rcases hV with ⟨hnok,rfl,hE⟩ | ⟨aK,b,rfl,hI⟩
   ·refine⟨_,_,rfl,Ah (λ _=>⟨S.Ar,.inr (.inr ⟨rfl,hD,λ aC rows' bS hI=>?_⟩)⟩) (λ h=>absurd h hE)⟩;obtain⟨rfl,rfl⟩:=iZ aC rows' bS hI;exact hnok bS
   ·refine⟨_,_,rfl,Ah (λ h=>absurd rfl h) (λ _=>?_)⟩;rw [A0];refine As (Aa (λ he=>?_) (λ he=>⟨S.Ar,.inr (.inr ⟨rfl,hD,λ aC rows' bS kQ=>?_⟩)⟩))
    ·have jF:b=l:=by have:=congrArg bl he;rwa [BN,<- hl] at this
     subst jF;exact⟨S.Ar,.inl ⟨cs,ps,ca,cc,bo,rfl,hcr.grown B8,hrr.grown B8,aK,hI,((S5.join hG).grown B8).sub (List.sublist_append_left _ _)⟩⟩
    ·obtain⟨rfl,rfl⟩:=iZ aC rows' bS kQ;exact he (by rw [hI.one kQ,hl,EJ])
  ·exact⟨_,_,_,_,_,_,_,rfl,As (AV ⟨S.Ar,.inr (.inr ⟨rfl,hD,no hno2⟩)⟩)⟩
variable {a a2:Option Addr}{c c2:Nat}{cs:List BQ}{ps:List BF}
theorem Aes.open{rows:List (List AB)}{v:Value}(h:Aes cs rows v):∃(s:ByteArray) (e:Int),v=.tuple #[.string s,.int .i64 e]/\s.size<=40000000:=by
 rcases h with ⟨_,rfl,_⟩ | ⟨aK,b,rfl,hI⟩
 ·exact⟨_,_,rfl,by show 0<=_;omega⟩
 ·exact⟨_,_,rfl,by rw [A1];exact hI.len aK⟩
end
def Hd(w0:World)(H:List It)(b:Nat)(C:VT)(v:Value)(w':World):Prop :=
 ∃(d:Nat × Nat) (fs:List Jq) (C':VT) (fa ca:Option Addr) (cc:Nat) (pa:Option Addr) (pc:Nat) (ka:Option Addr) (kc:Nat),v=AdC d fa fs/\DJ C'/\fs.length<=1/\(∀ f∈fs,f.2.size<=140737488355328)/\(∀ p∈C'.parts,p∈C.parts\/∃ f∈fs,f.1=p.1)/\ST w0 w' (It.rd fa (Bt fs) :: (DO b ca cc pa pc ka kc C'++H))
section
variable {w0 w:World}{H:List It}{b cc pc kc:Nat}{ca pa ka:Option Addr}{C:VT}{a a2:Option Addr}{c c2:Nat}{l:List UInt8}{cs:List BQ}
theorem Pr{K:Value->World->Prop}{q:Nat}{u v x:Value}(S:ST w0 w (It.cells q #[u,v] ty.AZ :: H))(e r:Int)(hk:∀ w',ST w0 w' H->K (.tuple #[.agg #[.int .i64 e,.int .i64 r],x]) w') :
  DY ⟨q,0,none⟩ (.int .i64 e) (λ w=>DY ⟨q,1,none⟩ (.int .i64 r) (λ w=>∃ p':Int,w.cell? ⟨q,0,none⟩=some (.int .i64 p')/\∃ q':Int,w.cell? ⟨q,1,none⟩=some (.int .i64 q')/\K (.tuple #[.agg #[.int .i64 p',.int .i64 q'],x]) w) w) w :=
 S.BP 0 rfl (aC:=#[.int .i64 e,v]) (by simp) rfl λ w2 S=>S.BP 0 rfl (aC:=#[.int .i64 e,.int .i64 r]) (by simp) rfl λ w3 S=>⟨_,S.cell 0 rfl rfl,_,S.cell 0 rfl rfl,hk _ (S.drop 1)⟩
theorem dno{K:Value->World->Prop}{q:Nat}{u v:Value}(hK:∀ v w',Hd w0 H b C v w'->K v w')(hC:DJ C)(S:ST w0 w (It.cells q #[u,v] ty.AZ :: (DO b ca cc pa pc ka kc C++H)))(e:Nat) :
  DY ⟨q,0,none⟩ (.int .i64 (e:Int)) (λ w=>DY ⟨q,1,none⟩ (.int .i64 0) (λ w=>∃ p':Int,w.cell? ⟨q,0,none⟩=some (.int .i64 p')/\∃ q':Int,w.cell? ⟨q,1,none⟩=some (.int .i64 q')/\K (.tuple #[.agg #[.int .i64 p',.int .i64 q'],.slice none 0 0]) w) w) w :=
 Pr S (e:Int) 0 λ w' S=>hK _ _ ⟨(e,0),[],C,none,ca,cc,pa,pc,ka,kc,rfl,hC,by simp,by simp,λ p hp=>.inl hp,Eh S⟩
theorem XL(S:ST w0 w (DO b ca cc pa pc ka kc C++H))(hC:DJ C)(hl:Rd w a (l.map Ag))(hc:l.length<=c)(hs:l.length<=140737488355328) :
  Calls Tryz.prog f.L3 #[.pointer (some ⟨b,0,none⟩),.slice a l.length c] w (AG (Hd w0 H b C)):=by
 apply R.HT
 delta R.A R.Ab R.Ik R.E R.F R.H R.I R.Li R.Ls R.N R.O R.S R.Am;try dsimp only [R.Ps]
 refine S.An λ b3 w1 _ B1 S=>(IM (hl.grown B1) hc hs 1 (by decide)).mono ?_;rintro _ w2 ⟨_,rfl,hx⟩;cases ho:Bj l 1 with
 | none =>
  rw [ho] at hx;obtain⟨rfl,B⟩:=hx;have S:=S.grown B;exact⟨_,_,_,_,_,rfl,Ah (λ _=>dno (λ _ _ h=>h) hC S 220) (λ h=>by cases h)⟩
 | some x =>
  have hR:=DG ho;rw [ho] at hx;obtain⟨a',c',rfl,T⟩:=hx;have S0:=S.grown T.Ar;have S:=S.join T;refine⟨_,_,_,_,_,rfl,Ah (λ h=>absurd rfl h) (λ _=>Ah (λ _=>dno (λ _ _ h=>h) hC S0 220) (λ _=>⟨_,_,_,S0.cell 1 rfl rfl,Aa (λ _=>dno (λ _ _ h=>h) hC S0 2) (λ h0=>?_)⟩))⟩
  try simp only [Av]
  refine S.BP 2 rfl (i:=0) (aC:=#[.slice a' x.1.length c',.slice pa C.parts.length pc,.slice ka C.Dw.length kc]) (by simp) rfl λ w9 S=>?_;have S:ST w0 w9 (It.cells b3 #[.int .i64 0,.int .i64 0] ty.AZ :: (DO b a' c' pa pc ka kc { C with AM:=x.1 }++H)) :=
   ((S.pull 2 rfl).pull 2 rfl).sub (.cons_cons _ (.cons_cons _ (.cons_cons _ (.cons _ (AmX _)))))
  exact Pr S 0 0 λ w' S=>⟨(0,0),[],{ C with AM:=x.1 },none,a',c',pa,pc,ka,kc,rfl,⟨hC.np,hC.nc,hC.rows,.inr hR⟩,by simp,by simp,λ p hp=>.inl hp,Eh S⟩
end
def AhI(w0:World)(H:List It)(b:Nat)(ca:Option Addr)(cc:Nat)(ka:Option Addr)(kc:Nat)(C:VT)(v:Value)(w':World):Prop :=
 ∃(d:Nat × Nat) (fs:List Jq) (C':VT) (fa:Option Addr) (dC:Option Addr) (dD:Nat),v=AdC d fa fs/\d.1<=1000/\d.2<=Cw/\DJ C'/\C'.Dw=C.Dw/\C'.AM=C.AM/\fs.length<=1/\(∀ f∈fs,f.2.size<=140737488355328)/\(∀ p∈C'.parts,p∈C.parts\/∃ f∈fs,f.1=p.1)/\ST w0 w' (It.rd fa (Bt fs) :: (DO b ca cc dC dD ka kc C'++H))
section
variable {w0 w:World}{H:List It}{b cc pc kc:Nat}{ca pa ka:Option Addr}{C:VT}{a a2:Option Addr}{c c2:Nat}{cs:List BQ}{ps:List BF}
theorem Ua(S:ST w0 w H){n:Nat}{ac:Option Addr}{cx:Nat}{xs qs:List H8}{aq:Option Addr}{cq:Nat}(hn:H[n]?=some (Dl ac cx xs))(hs:Rd w aq (Bp qs))(hl:xs.length+qs.length<=1000000){f:Value->World->Prop}
  (hf:∀ a' c' w',ST w0 w' (H.set n (Dl a' c' (xs++qs)))->f (.slice a' (xs++qs).length c') w') :
  DB Tryz.prog (Builtin.append_ #[ty.De,ty.De] ty.De #[.slice ac xs.length cx,.slice aq qs.length cq]) f w:=by
 refine S.app n hn SM rfl (by omega) (by omega) hs (EH qs) (U9 qs) (by omega) λ a' c' w' S'=>?_;rw [<- FH] at S';have:=hf a' c' w' (by unfold Dl;rw [Alb];exact S');rwa [Alb] at this
set_option maxHeartbeats 1000000 in
theorem Aei(S:ST w0 w (DO b ca cc pa pc ka kc C++H))(hC:DJ C)(aj:Rd w a (BM cs))(hn:cs.length<=9223372036854775807)(hq:∀ c∈cs,c.1.size<=9223372036854775807)(hr:Ba w a2 ps)(aK:Bv cs (rws ps)) :
  Calls Tryz.prog f.OA #[.pointer (some ⟨b,0,none⟩),.slice a cs.length c,.slice a2 ps.length c2] w (AG (AhI w0 H b ca cc ka kc C)):=by
 apply R.IQ
 delta R.A R.Ab R.Ix R.Cb R.Ci R.Ct R.D R.E R.F R.H R.I R.J R.Ks R.Li R.Ls R.N R.O R.P R.Rs R.S R.Am R.T R.W R.Z;try dsimp only [R.Ps]
 have kA:=hC.np;have bM:ps.length<=1024:=by have:=aK.len;simpa [rws] using this
 refine S.An λ b4 w1 _ B1 S=>⟨_,_,_,S.cell 1 rfl rfl,(Gs (aj.grown B1) (S.rd 2 rfl) hn).mono ?_⟩;rintro _ w2 ⟨_,rfl,B2,rfl⟩;have S:=S.grown B2;have C2:=Ac B1 B2;refine⟨_,rfl,As (Aa (λ he=>?_) (λ he=>Pr (K:=AhI w0 H b ca cc ka kc C) S 50 0 λ w' S=>⟨(50,0),[],C,none,pa,pc,rfl,by decide,by decide,hC,rfl,rfl,by simp,by simp,λ p hp=>.inl hp,Eh S⟩))⟩;refine⟨_,_,_,S.cell 1 rfl rfl,Aa (λ h=>Pr (K:=AhI w0 H b ca cc ka kc C) S 130 0 λ w' S=>⟨(130,0),[],C,none,pa,pc,rfl,by decide,by decide,hC,rfl,rfl,by simp,by simp,λ p hp=>.inl hp,Eh S⟩) (λ aB=>?_)⟩;have aB:C.parts.length<256:=by omega
 refine (HS (aj.grown C2) hn hq (hr.grown C2) (by omega) aK.ok).mono ?_;rintro _ w7 ⟨_,rfl,hV,B7⟩;have S:=S.grown B7;rcases hV with ⟨aP,_⟩ | ⟨_,bb,rfl,hI⟩
 ·exact absurd aK aP
 have au:=hI.len aK;refine⟨_,_,rfl,(Nv (BC bb) (by rw [A1];omega)).mono ?_⟩;rintro _ w8 ⟨_,rfl,rfl,B8⟩;have S:=S.grown B8;obtain⟨nm,bz⟩:∃ nm,nm=Fj (BC bb):=⟨_,rfl⟩;obtain⟨dt,hdt⟩:∃ dt,dt=BC bb:=⟨_,rfl⟩;rw [<- bz,<- hdt];obtain⟨bB,hps'⟩:∃ bB,bB=C.parts++[(nm,ps.length)]:=⟨_,rfl⟩;have hpl':bB.length=C.parts.length+1:=by rw [hps'];simp
 have bn:([]:List H8)++C.parts=C.parts:=rfl;have e1:IntKind.i64.wrap ((C.parts.length:Int)+1)=((C.parts.length+1:Nat):Int):=by rw [wrap_i64 (by omega) (by omega)];omega
 have lK:DJ { C with parts:=bB }:=⟨by show bB.length<=256;omega,hC.nc,λ p hp=>by
  have hp:p∈bB:=hp;rw [hps'] at hp;rcases Al8.1 hp with h | h
  ·exact hC.rows p h
  ·rw [Al9.1 h];exact bM,hC.AM⟩
 let Y:World->Prop:=λ wx=>∃ dC dD,ST w0 wx (It.cells b4 #[.int .i64 0,.int .i64 0] ty.AZ :: (DO b ca cc dC dD ka kc { C with parts:=bB }++H));have fin:∀ {wx:World} {a':Option Addr} {c':Nat} {X:It},ST w0 wx (X :: Dl a' c' bB :: It.cells b4 #[.int .i64 0,.int .i64 0] ty.AZ :: (DO b ca cc pa pc ka kc C++H))->DY ⟨b,1,none⟩ (.slice a' bB.length c') (λ w=>([]:List Value)=[]/\Y w) wx:=λ {wx a' c' X} S =>
  S.BP 3 rfl (i:=1) (aC:=#[.slice ca C.AM.length cc,.slice a' bB.length c',.slice ka C.Dw.length kc]) (by simp) rfl λ w' S=>⟨rfl,a',c',by
   have S:ST w0 w' (Dl a' c' bB :: It.cells b4 #[.int .i64 0,.int .i64 0] ty.AZ :: It.cells b #[.slice ca C.AM.length cc,.slice a' bB.length c',.slice ka C.Dw.length kc] ty.Fk :: CK ca cc C.AM :: Np ka kc C.Dw :: H) :=
    S.sub (.cons _ (.cons_cons _ (.cons_cons _ (.cons_cons _ (.cons_cons _ (.cons _ (AmX _)))))))
   exact ((S.pull 3 rfl).pull 3 rfl).pull 3 rfl⟩
 refine⟨_,rfl,λ st wx=>st=[]/\Y wx,?_,?_⟩
 ·refine S.draw λ w9 _ S=>⟨_,_,_,S.cell 1 rfl rfl,_,_,_,S.cell 1 rfl rfl,?_,?_⟩
  ·rw [e1];refine S.mk0 SM (by omega) (by omega) λ bk bV S=>⟨_,_,_,rfl,S.cell 2 rfl rfl,?_,?_⟩
   ·refine Ua S (n:=0) (xs:=[]) rfl (S.rd 4 rfl) (by simp only [Amp];omega) λ a' c' aY S=>⟨_,_,_,rfl,S.An λ gT bK _ _ S=>?_⟩;refine Vz S (n:=1) (ps:=C.parts) rfl (p:=(nm,ps.length)) (S.GD 0 rfl) (by omega) λ rA rH al S=>⟨_,_,_,rfl,?_⟩;rw [<- hps'] at S ⊢;exact fin S
   ·refine S.An λ gT bK _ _ S=>⟨S.cell 3 rfl rfl,?_⟩;refine Ua S (n:=1) (xs:=[]) rfl (S.rd 5 rfl) (by simp only [Amp];omega) λ a' c' aY S=>⟨_,_,_,rfl,?_⟩;refine Vz S (n:=1) (ps:=C.parts) rfl (p:=(nm,ps.length)) (S.GD 0 rfl) (by omega) λ rA rH al S=>⟨_,_,_,rfl,?_⟩;rw [<- hps'] at S ⊢;exact fin S
  ·refine S.An λ gT bK _ _ S=>⟨S.cell 2 rfl rfl,S.cell 2 rfl rfl,?_⟩;rw [e1];refine S.mk0 SM (by omega) (by omega) λ bk bV S=>⟨_,_,_,rfl,S.cell 3 rfl rfl,?_⟩;refine Ua S (n:=0) (xs:=[]) rfl (S.rd 5 rfl) (by simp only [Amp];omega) λ a' c' aY S=>⟨_,_,_,rfl,?_⟩;refine Vz S (n:=0) (ps:=C.parts) rfl (p:=(nm,ps.length)) (S.GD 1 rfl) (by omega) λ rA rH al S=>⟨_,_,_,rfl,?_⟩;rw [<- hps'] at S ⊢;exact fin (S.pull 1 rfl)
 clear S;rintro fE ⟨_,dC,dD,S⟩;refine (AbV (C:={ C with parts:=bB }) (S.drop 1) lK).mono ?_;rintro _ gQ ⟨_,rfl,rfl,tX⟩;subst tX;refine⟨_,rfl,S.An λ tJ kE _ _ S=>?_⟩;have S:ST w0 kE (It.cells b4 #[.int .i64 0,.int .i64 0] ty.AZ :: It.cells tJ #[.string nm,.string dt] ty.Gx :: (DO b ca cc dC dD ka kc { C with parts:=bB }++H)):=S.pull 1 rfl;have hrn:=L7 (ps:=bB) λ p hp=>lK.rows p hp;refine Pr (K:=AhI w0 H b ca cc ka kc C) S 0 (CI bB:Int) λ w' S=>⟨(0,CI bB),[(nm,dt)],{ C with parts:=bB },some ⟨tJ,0,none⟩,dC,dD,rfl,by simp,?_,lK,rfl,rfl,by simp,λ f hf=>by
  rw [Al9.1 hf,hdt];show (BC bb).size<=_;rw [A1];omega,λ p hp=>?_,S.I2 0 rfl (.refl _ _) (It.rd (some ⟨tJ,0,none⟩) (Bt [(nm,dt)])) (S.GD 0 rfl) (λ k hk=>.inl hk)⟩
 ·show CI bB<=Cw;unfold Cw;omega
 ·have hp:p∈bB:=hp;rw [hps'] at hp;rcases Al8.1 hp with h | h
  ·exact .inl h
  ·rw [Al9.1 h];exact .inr ⟨_,Al9.2 rfl,rfl⟩
end
theorem Lj(k m:List I1):Dx (k++m)=Dx k++Dx m:=by simp [Dx]
theorem Af4(k:List I1):∀ u∈Dx k,u.oneCell'=true:=by
 intro u hu;obtain⟨v,_,hv⟩:=List.mem_flatMap.1 hu;simp only [Q0,List.mem_cons,List.not_mem_nil,or_false] at hv;rcases hv with rfl | rfl | rfl | rfl <;> rfl
theorem Aey(k:List I1)(i:Nat):(Dx k).drop (i*4)=Dx (k.drop i):=by
 have e:Dx k=Dx (k.take i)++Dx (k.drop i):=by rw [<- Lj,Am0]
 by_cases h:i<=k.length
 ·have hl:(Dx (k.take i)).length=i*4:=by rw [Lk,Al7];omega
  rw [e,<- hl,Amu]
 ·have h1:k.drop i=[]:=AlD (by omega);rw [h1,AlD (by rw [Lk];omega)];rfl
theorem Aez(k:List I1)(i:Nat):(Dx k).take (i*4)=Dx (k.take i):=by
 have e:Dx k=Dx (k.take i)++Dx (k.drop i):=by rw [<- Lj,Am0]
 by_cases h:i<=k.length
 ·have hl:(Dx (k.take i)).length=i*4:=by rw [Lk,Al7];omega
  rw [e,<- hl,Ak6]
 ·rw [AlK (i:=i) (by omega),AlK (by rw [Lk];omega)]
section
variable {w0 w:World}{H:List It}{b cc pc kc:Nat}{ca pa ka:Option Addr}{C:VT}{a:Option Addr}{c m:Nat}{l:List UInt8}
theorem AdR{k:List I1}(h:Rd w a (Dx k))(i n c:Nat)(hm:i+n<=c):Rd w (Cm a i c 4) (Dx ((k.drop i).take n)):=by
 have:=h.OY i (i+n) c 4 hm;rwa [Aey,show i+n-i=n by omega,Aez] at this
theorem AdY(S:ST w0 w H){n:Nat}{ac:Option Addr}{cx nx nq:Nat}{xs qs:List I1}{aq:Option Addr}{cq:Nat}(hn:H[n]?=some (Np ac cx xs))(hs:Rd w aq (Dx qs))(hx:xs.length=nx)(hq:qs.length=nq)(hl:nx+nq<=1000000){f:Value->World->Prop}
  (hf:∀ a' c' w',ST w0 w' (H.set n (Np a' c' (xs++qs)))->f (.slice a' (xs++qs).length c') w') :
  DB Tryz.prog (Builtin.append_ #[ty.Df,ty.Df] ty.Df #[.slice ac nx cx,.slice aq nq cq]) f w:=by
 subst hx;subst hq;refine S.app n hn Ahj rfl (by omega) (by omega) hs (Lk qs) (Af4 qs) (by omega) λ a' c' w' S'=>?_;rw [<- Lj] at S';have:=hf a' c' w' (by unfold Np;rw [Alb];exact S');rwa [Alb] at this
set_option maxHeartbeats 2000000 in
theorem XM(S:ST w0 w (DO b ca cc pa pc ka kc C++H))(hC:DJ C)(hm:H[m]?=some (It.rd a (l.map Ag)))(hc:l.length<=c)(hs:l.length<=140737488355328) :
  Calls Tryz.prog f.L4 #[.pointer (some ⟨b,0,none⟩),.slice a l.length c] w (AG (Hd w0 H b C)):=by
 apply R.HU
 delta R.A R.Ab R.A7 R.Aec R.Ik R.Bu R.D R.E R.F R.G R.H R.I R.J R.Ks R.Li R.Ls R.N R.O R.P R.Rs R.S R.Am R.W R.X R.Y R.Z R.Zb R.Zi;try dsimp only [R.Ps]
 have rq:=hC.nc;have hK:∀ v w',Hd w0 H b C v w'->Hd w0 H b C v w':=λ _ _ h=>h;refine S.An λ b3 w1 _ B1 S=>(AJ (c:=c) (S.get (m+5) hm) (by omega) 1 (by decide)).mono ?_;rintro _ w2 ⟨_,rfl,rfl,e2⟩;subst e2;obtain⟨n1,k1,e1,hv1,cg,eR,hx1⟩:=Ec _ (rfl:takeN l 1=takeN l 1);rw [hv1];refine⟨_,_,_,rfl,(AJ (c:=c) (S.get (m+5) hm) (by omega) (k1:Int) (by omega)).mono ?_⟩;rintro _ w3 ⟨_,rfl,rfl,e3⟩;subst e3;obtain⟨n2,k2,e2,iH,bA,gI,hx2⟩:=Ec _ (rfl:takeN l (k1:Int)=takeN l (k1:Int));rw [iH];refine⟨_,_,_,rfl,(IM (S.get (m+5) hm) hc hs (k2:Int) (by omega)).mono ?_⟩;rintro _ w4 ⟨_,rfl,hT⟩;obtain⟨cs,sa,sc,aL,e4,rfl,S,bN,hx⟩:=hT.open S λ r hr=>DG hr;have F:∀ {wx:World},ST w0 wx (CK sa sc cs :: It.cells b3 #[.int .i64 0,.int .i64 0] ty.AZ :: (DO b ca cc pa pc ka kc C++H))->_:=λ {wx} S=>dno (K:=Hd w0 H b C) hK hC (S.drop 1);refine⟨_,_,_,_,_,rfl,Ah (λ _=>F S 220) (λ _=>Ah (λ _=>F S 220) (λ _=>Ah (λ _=>F S 220) (λ h4=>Aa (λ _=>F S 220) (λ g1=>Aa (λ _=>F S 220) (λ g2=>Aa (λ _=>F S 220) (λ g3=>?_))))))⟩
 rcases hx with ⟨_,hsch,hR⟩ | ⟨h5,_⟩;rotate_left
 ·exact absurd h4 h5
 have mV:=(Abz hsch).1.le;have hq:∀ c∈cs,c.1.size<=9223372036854775807:=λ c hc=>by have:=(Dr hR hc).2.2.2;omega
 refine (PX (c2:=sc) (S.get (m+6) hm) hc hs (aL:Int) (by omega) (S.rd 0 rfl) (by omega) hq).mono ?_;rintro _ cP ⟨_,rfl,rY⟩;cases ho:Bf l cs (aL:Int) with
 | none =>
  rw [ho] at rY;obtain⟨e,he,rfl,B⟩:=rY;exact⟨_,_,_,_,_,rfl,Ah (λ _=>F (S.grown B) 220) (λ h=>absurd h he)⟩
 | some x =>
 rw [ho] at rY;obtain⟨ra,rc,ps,rfl,dz,TR⟩:=rY;have aK:=(Mn ho).1;rw [<- dz] at aK;have S1:=S.grown TR.Ar;refine⟨_,_,_,_,_,rfl,Ah (λ h=>absurd rfl h) (λ _=>Ah (λ _=>F S1 220) (λ _=>Ao (λ _=>F S1 220) (λ aQ=>?_)))⟩;have ew1:IntKind.i64.wrap (n1:Int)=(n1:Int):=wrap_i64 (by omega) (by omega);have kN:IntKind.i64.wrap (n2:Int)=(n2:Int):=wrap_i64 (by omega) (by omega);rw [ew1,kN];refine (AgZ (S1.drop 2) (n1:Int) hC).mono ?_;rintro _ fE ⟨_,rfl,jq,i,t,rfl,hi,fo⟩;have S2:=S1.grown jq;have TR2:=TR.grown jq;have wK:Ba fE ra ps:=AdT TR2 (i:=0) rfl λ p hp=>List.mem_cons_of_mem _ (AkU.2 ⟨p,hp,rfl⟩);refine⟨_,_,rfl,λ st wx=>wx=fE/\∃ q,st=[.bool q]/\(q=true->i<C.Dw.length),?_,?_⟩
 ·refine Aq (λ ht=>?_) (λ ht=>⟨rfl,false,rfl,λ h=>by cases h⟩);have aD:=fo ht;obtain⟨p,hp,_,c1,_,_⟩:=Ut (S2.rd 5 rfl) aD;subst hp;exact⟨_,_,_,S2.cell 2 rfl rfl,⟨by omega,by omega⟩,_,by rw [Ale];exact c1,rfl,_,rfl,λ _=>aD⟩
 rintro _ gQ ⟨tX,q,aA,iF⟩;subst tX;cases aA;refine Aq (λ hqt=>?_) (λ _=>?_)
 ·have aD:=iF hqt;obtain⟨p,hp,_,_,c2,c3⟩:=Ut (S2.rd 5 rfl) aD;subst hp;have zx:gQ.cell? (((p.add (i*4)).add 2).add 1)=some (.int .i64 (C.Dw[i].2.2.2:Int)):=by rw [BH];exact c3
  refine⟨_,_,_,S2.cell 2 rfl rfl,⟨by omega,by omega⟩,_,by rw [Ale];exact c2,_,by rw [Ale];exact zx,Pr (K:=Hd w0 H b C) (S2.drop 1) _ _ λ w' S=>⟨C.Dw[i].2.2,[],C,none,_,_,_,_,_,_,rfl,hC,by simp,by simp,λ p hp=>.inl hp,Eh S⟩⟩
 refine⟨λ st wx=>st=[]/\wx=gQ,?_,?_⟩
 ·refine Aq (λ ht=>?_) (λ ht=>⟨rfl,rfl⟩);have aD:=fo ht;obtain⟨p,hp,_,c1,_,_⟩:=Ut (S2.rd 5 rfl) aD;subst hp;exact⟨_,_,_,S2.cell 2 rfl rfl,⟨by omega,by omega⟩,_,by rw [Ale];exact c1,Aa (λ _=>F S2 2) (λ _=>⟨rfl,rfl⟩)⟩
 rintro eK ⟨_,xj⟩;subst xj;refine⟨λ st wx=>st=[]/\wx=eK/\(t=false->C.Dw.length<64),?_,?_⟩
 ·refine Aq (λ ht=>⟨_,_,_,S2.cell 2 rfl rfl,Aa (λ _=>F S2 130) (λ h=>⟨rfl,rfl,λ _=>by omega⟩)⟩) (λ ht=>⟨rfl,rfl,λ h=>by rw [h] at ht;cases ht⟩)
 rintro ia ⟨_,e33,iA⟩;subst e33;have S3:ST w0 ia (DO b ca cc pa pc ka kc C++(It.cells b3 #[.int .i64 0,.int .i64 0] ty.AZ :: H)):=(S2.drop 1).perm List.perm_middle.symm;refine (Aei (c:=sc) (c2:=rc) S3 hC (S2.rd 0 rfl) (by omega) hq wK aK).mono ?_;clear S S1 S2 S3 TR TR2 F;rintro _ qx ⟨_,rfl,d,fs,C',fa,dC,dD,rfl,jL,fh,lK,ek,ecl,cd,rb,yW,S⟩;obtain⟨d1,d2⟩:=d;rw [<- ek] at hi fo iA;have hnc':=lK.nc;refine⟨_,_,_,_,_,rfl,S.An λ b70 xG _ _ S=>S.BP 0 rfl (aC:=#[.int .i64 (d1:Int),.int .i64 0]) (by simp) rfl λ sM S=>S.BP 0 rfl (aC:=#[.int .i64 (d1:Int),.int .i64 (d2:Int)]) (by simp) rfl λ ib S=>S.draw λ qy _ S=>?_⟩;have hkc:C'.Dw.length<=kc:=(S.rw 5 rfl).le;refine⟨_,_,_,S.cell 2 rfl rfl,_,_,_,S.cell 2 rfl rfl,⟨by omega,by omega,by omega⟩,?_⟩;have e1:IntKind.i64.wrap ((C'.Dw.length:Int)+1)=((C'.Dw.length+1:Nat):Int):=by rw [wrap_i64 (by omega) (by omega)];omega
 rw [e1];simp only [Ale,AmE];have cg:((C'.Dw.drop 0).take i).length=i:=by rw [AmG,Al7];omega
 refine S.mk0 Ahj (by omega) (by omega) λ bk kH S=>⟨_,_,_,rfl,S.cell 3 rfl rfl,?_⟩;refine AdY S (n:=0) (xs:=[]) (nx:=0) (nq:=i) rfl (AdR (S.rd 6 rfl) 0 i kc (by omega)) rfl cg (by omega) λ a1 c1 xH S=>⟨_,_,_,rfl,_,S.cell 1 rfl rfl,_,S.cell 1 rfl rfl,S.An λ b81 qz _ _ S=>?_⟩;obtain⟨k1,hk1e⟩:∃ k1,k1=[]++(C'.Dw.drop 0).take i:=⟨_,rfl⟩;have vY:k1.length=i:=by rw [hk1e,Ame,cg]
 rw [<- hk1e] at S ⊢;refine Aiq S (n:=1) (k:=k1) rfl (x:=(n1,n2,d1,d2)) (S.GD 0 rfl) (by omega) λ a2 c2 lp S=>⟨_,_,_,rfl,?_⟩;obtain⟨k2,bA⟩:∃ k2,k2=k1++[((n1,n2,d1,d2):I1)]:=⟨_,rfl⟩;have hk2l:k2.length=i+1:=by rw [bA,Alb,vY];rfl
 rw [<- bA] at S ⊢;refine⟨λ st wx=>wx=lp/\∃ j:Nat,st=[.int .i64 (j:Int)]/\j<=C'.Dw.length/\i+1+(C'.Dw.length-j)<=64,?_,?_⟩
 ·refine Aq (λ ht=>?_) (λ ht=>⟨rfl,i,rfl,hi,?_⟩)
  ·have:=fo ht;rw [Ae (by omega)];exact⟨rfl,i+1,rfl,by omega,by omega⟩
  ·have:=iA (by simpa using ht);omega
 rintro _ yn ⟨e43,j,aA,hj,qG⟩;subst e43;cases aA;refine⟨_,_,_,S.cell 4 rfl rfl,⟨by omega,by omega,by omega⟩,?_⟩;simp only [Ale];have bj:((C'.Dw.drop j).take (C'.Dw.length-j)).length=C'.Dw.length-j:=by rw [Al7,AlE];omega
 refine AdY S (n:=1) (xs:=k2) (nx:=k2.length) (nq:=C'.Dw.length-j) rfl (AdR (S.rd 7 rfl) j (C'.Dw.length-j) kc (by omega)) rfl bj (by omega) λ a3 c3 w44 S=>⟨_,_,_,rfl,?_⟩;obtain⟨k3,iB⟩:∃ k3,k3=k2++(C'.Dw.drop j).take (C'.Dw.length-j):=⟨_,rfl⟩;have nJ:k3.length<=64:=by rw [iB,Alb,bj];omega
 rw [<- iB] at S ⊢
 try simp only [Av]
 refine S.BP 4 rfl (i:=2) (aC:=#[.slice ca C'.AM.length cc,.slice dC C'.parts.length dD,.slice a3 k3.length c3]) (by simp) rfl λ yo S=>⟨_,S.cell 2 rfl rfl,_,S.cell 2 rfl rfl,?_⟩;have S:ST w0 yo (Np a3 c3 k3 :: It.rd fa (Bt fs) :: It.cells b #[.slice ca C'.AM.length cc,.slice dC C'.parts.length dD,.slice a3 k3.length c3] ty.Fk :: CK ca cc C'.AM :: Dl dC dD C'.parts :: It.cells b3 #[.int .i64 0,.int .i64 0] ty.AZ :: H) :=
  S.sub (.cons _ (.cons_cons _ (.cons _ (.cons_cons _ (.cons_cons _ (.cons_cons _ (.cons_cons _ (.cons _ (.cons_cons _ (AmX _))))))))))
 have S:=((((S.pull 4 rfl).pull 4 rfl).pull 4 rfl).pull 4 rfl).pull 5 rfl;exact Pr (K:=Hd w0 H b C) S (d1:Int) (d2:Int) λ w' S=>⟨(d1,d2),fs,{ C' with Dw:=k3 },fa,ca,cc,dC,dD,a3,c3,rfl,⟨lK.np,nJ,lK.rows,lK.AM⟩,cd,rb,yW,S⟩
end
theorem AbD{l:List UInt8}{at_ most:Nat}:∃(s:ByteArray) (k:Nat) (e:Int),Aht (BD l (at_:Int) most)=.tuple #[.string s,.int .i64 (k:Int),.int .i64 e]/\k<=l.length/\(e=0->s.size<=most):=by
 cases ho:BD l (at_:Int) most with
 | none=>exact⟨⟨#[]⟩,0,20,rfl,by omega,λ h=>by cases h⟩
 | some x =>
  obtain⟨s,k⟩:=x;have h:=R9 ho;exact⟨BC s,k,0,rfl,h.1.le,λ _=>by rw [A1];exact h.2.1⟩
section
variable {w0 w:World}{H:List It}{b cc pc kc:Nat}{ca pa ka:Option Addr}{C:VT}{a:Option Addr}{c m:Nat}{l:List UInt8}
theorem Ag1{aq:Option Addr}{ps:List H8}(h:Rd w aq (Bp ps))(i m c:Nat)(hm:i+m<=c):Rd w (Cm aq i c 2) (Bp ((ps.drop i).take m)):=by
 have:=h.OY i (i+m) c 2 hm;have e1:(Bp ps).drop (i*2)=Bp (ps.drop i):=by
  have e:Bp ps=Bp (ps.take i)++Bp (ps.drop i):=by rw [<- FH,Am0]
  by_cases h:i<=ps.length
  ·have hl:(Bp (ps.take i)).length=i*2:=by rw [EH,Al7];omega
   rw [e,<- hl,Amu]
  ·have h1:ps.drop i=[]:=AlD (by omega);rw [h1,AlD (by rw [EH];omega)];rfl
 have e2:∀(qs:List H8),(Bp qs).take (m*2)=Bp (qs.take m):=λ qs=>by
  have e:Bp qs=Bp (qs.take m)++Bp (qs.drop m):=by rw [<- FH,Am0]
  by_cases h:m<=qs.length
  ·have hl:(Bp (qs.take m)).length=m*2:=by rw [EH,Al7];omega
   rw [e,<- hl,Ak6]
  ·rw [AlK (i:=m) (by omega),AlK (by rw [EH];omega)]
 rwa [e1,show i+m-i=m by omega,e2] at this
theorem AdZ(S:ST w0 w H){n:Nat}{ac:Option Addr}{cx nx nq:Nat}{xs qs:List H8}{aq:Option Addr}{cq:Nat}(hn:H[n]?=some (Dl ac cx xs))(hs:Rd w aq (Bp qs))(hx:xs.length=nx)(hq:qs.length=nq)(hl:nx+nq<=1000000){f:Value->World->Prop}
  (hf:∀ a' c' w',ST w0 w' (H.set n (Dl a' c' (xs++qs)))->f (.slice a' (xs++qs).length c') w') :
  DB Tryz.prog (Builtin.append_ #[ty.De,ty.De] ty.De #[.slice ac nx cx,.slice aq nq cq]) f w:=by
 subst hx;subst hq;exact Ua S hn hs hl hf
set_option maxHeartbeats 4000000 in
theorem Zo(S:ST w0 w (DO b ca cc pa pc ka kc C++H))(hC:DJ C)(hm:H[m]?=some (It.rd a (l.map Ag)))(hc:l.length<=c)(hs:l.length<=140737488355328) :
  Calls Tryz.prog f.MY #[.pointer (some ⟨b,0,none⟩),.slice a l.length c] w (AG (Hd w0 H b C)):=by
 apply R.Ig
 delta R.A R.Ab R.Adp R.Gv R.Bu R.Cb R.Ci R.Ct R.D R.E R.F R.H R.I R.J R.Ks R.Li R.Ls R.N R.O R.P R.NH R.KV R.Rs R.S R.Am R.T R.W R.X R.Y;try dsimp only [R.Ps]
 have kA:=hC.np;have bN:C.AM.length<=16:=by
  rcases hC.AM with h | h
  ·rw [h];simp
  ·exact (A6 h).2
 have hK:∀ v w',Hd w0 H b C v w'->Hd w0 H b C v w':=λ _ _ h=>h;refine S.An λ b3 w1 _ B1 S=>(AJ (c:=c) (S.get (m+5) hm) (by omega) 1 (by decide)).mono ?_;rintro _ w2 ⟨_,rfl,rfl,e2⟩;subst e2;obtain⟨n1,k1,e1,hv1,cg,eR,hx1⟩:=Ec _ (rfl:takeN l 1=takeN l 1);rw [hv1];refine⟨_,_,_,rfl,Ah (λ _=>dno (K:=Hd w0 H b C) hK hC S 220) (λ _=>Aa (λ _=>dno (K:=Hd w0 H b C) hK hC S 220) (λ g1=>Aa (λ _=>dno (K:=Hd w0 H b C) hK hC S 220) (λ g2=>?_)))⟩;rw [wrap_i64 (n:=(n1:Int)) (by omega) (by omega)];let L:Option Addr->Nat->List ByteArray->List It:=λ na nc ns=>It.row ty.string 1 na ns.length nc (ns.map Value.string) :: It.cells b3 #[.int .i64 0,.int .i64 0] ty.AZ :: (DO b ca cc pa pc ka kc C++H);have F:∀ {wx:World} {na:Option Addr} {nc:Nat} {ns:List ByteArray},ST w0 wx (L na nc ns)->_:=λ {wx na nc ns} S=>dno (K:=Hd w0 H b C) hK hC (S.drop 1);refine⟨λ s wx=>∃(i at_:Nat) (na:Option Addr) (nc:Nat) (ns:List ByteArray),s=[.int .i64 (at_:Int),.slice na ns.length nc,.int .i64 (i:Int)]/\i<=n1/\ns.length=i/\at_<=l.length/\ST w0 wx (L na nc ns),λ s _=>match s with
  | [_,_,.int _ i]=>n1-i.toNat
  | _=>0,⟨0,k1,none,0,[],rfl,by omega,rfl,cg,S.nil ty.string 1⟩,?_⟩
 clear S;rintro _ na _ nc _ w9 ⟨i,aZ,_,_,ns,aA,hi,bn,kV,S⟩;cases aA;refine Aa (λ aB=>?_) (λ aI=>?_)
 ·refine (Ed (S.get (m+6) hm) hc (by omega) (aZ:Int) (by omega) 64).mono ?_;rintro _ bV ⟨_,rfl,rfl,pD⟩;subst pD;obtain⟨s,k,e,hv,hk,hse⟩:=AbD (l:=l) (at_:=aZ) (most:=64);rw [hv];refine⟨_,_,_,rfl,Ah (λ _=>F S 220) (λ _=>Ah (λ _=>F S 220) (λ _=>S.An λ xV ah _ _ S=>?_))⟩;have j':(ns.map Value.string).length=ns.length:=by simp
  refine S.app 1 rfl VD rfl (by omega) (by omega) (news:=[.string s]) (S.GD 0 rfl) (mm:=1) rfl (by simp;rfl) (by omega) λ a' c' cp S=>⟨_,_,_,rfl,?_⟩;have e1:ns.length+1=(ns++[s]).length:=by simp
  have e2:ns.map Value.string++[.string s]=(ns++[s]).map Value.string:=by simp
  rw [e1,e2] at S;rw [Ae (by omega),e1];exact⟨⟨i+1,k,a',c',ns++[s],rfl,by omega,by simp [bn],hk,S.drop 1⟩,by simp only [Ale];omega⟩
 refine (Ed (S.get (m+6) hm) hc (by omega) (aZ:Int) (by omega) 262144).mono ?_;rintro _ cP ⟨_,rfl,rfl,e17⟩;subst e17;obtain⟨t,k2,e,hv,bA,hse⟩:=AbD (l:=l) (at_:=aZ) (most:=262144);rw [hv];refine⟨_,_,_,rfl,Ah (λ _=>F S 220) (λ he=>Ah (λ _=>F S 220) (λ _=>?_))⟩;have ht:=hse he;refine (Afy (S.drop 2) (S.rd 0 rfl) (by omega) hC).mono ?_;rintro _ iM ⟨_,rfl,ig,z,rfl,hz⟩;have S:=S.grown ig;refine⟨_,rfl,(Nw t (by omega)).mono ?_⟩;rintro _ fp ⟨_,rfl,ij,hR⟩;have S:=S.grown ij;rcases hR with ⟨cs,ps,a4,c4,bo,rfl,aj,rz,aK,hI⟩ | ⟨rfl,_⟩ | ⟨rfl,_⟩;rotate_left
 ·refine⟨_,_,_,_,_,_,_,rfl,_,_,_,S.cell 2 rfl rfl,(Gs (ls:=[]) (Rd.nil _ _) (S.rd 3 rfl) (by simp)).mono ?_⟩;rintro _ fE ⟨_,rfl,jq,rfl⟩;exact⟨_,rfl,Aa (λ _=>F (S.grown jq) 2) (λ _=>Ah (λ _=>F (S.grown jq) 2) (λ h=>by cases h))⟩
 ·refine⟨_,_,_,_,_,_,_,rfl,_,_,_,S.cell 2 rfl rfl,(Gs (ls:=[]) (Rd.nil _ _) (S.rd 3 rfl) (by simp)).mono ?_⟩;rintro _ fE ⟨_,rfl,jq,rfl⟩;exact⟨_,rfl,Aa (λ _=>F (S.grown jq) 2) (λ _=>Ah (λ _=>F (S.grown jq) 2) (λ h=>by cases h))⟩
 have bM:ps.length<=1024:=by have:=aK.len;simpa [rws] using this
 refine⟨_,_,_,_,_,_,_,rfl,_,_,_,S.cell 2 rfl rfl,(Gs aj (S.rd 3 rfl) (by have:=(A6 aK.right).2;omega)).mono ?_⟩;rintro _ fE ⟨_,rfl,jq,rfl⟩;have S:=S.grown jq;refine⟨_,rfl,Aa (λ _=>F S 2) (λ o5=>Ah (λ h=>absurd rfl h) (λ _=>As (Aa (λ mj=>?_) (λ _=>F S 2))))⟩;obtain⟨q,rfl,hq⟩:=hz.resolve_left o5;have xE:∀ k,k<=ns.length->CI ((C.parts.drop q).take k)<=262144:=λ k hk=>by
  have h1:=L7 (ps:=(C.parts.drop q).take k) λ p hp=>hC.rows p (Am1 (Amd hp));rw [Al7] at h1;omega
 refine⟨λ s wx=>wx=fE/\∃ k:Nat,s=[.int .i64 (CI ((C.parts.drop q).take k):Int),.int .i64 (k:Int)]/\k<=ns.length,λ s _=>match s with
  | [_,.int _ k]=>ns.length-k.toNat
  | _=>0,⟨rfl,0,rfl,by omega⟩,?_⟩
 rintro _ _ kG ⟨xk,k,aA,hk⟩;subst xk;cases aA;refine Aa (λ aB=>?_) (λ q8=>?_)
 ·have aO:k<ns.length:=by omega
  have ew:IntKind.i64.wrap ((q:Int)+(k:Int))=((q+k:Nat):Int):=by rw [wrap_i64 (by omega) (by omega)];omega
  have hqk:q+k<C.parts.length:=by omega
  refine⟨_,_,_,S.cell 2 rfl rfl,?_⟩;rw [ew];obtain⟨p,hp,_,d1⟩:=JT (S.rd 4 rfl) hqk;subst hp;refine⟨⟨by omega,by omega⟩,_,by rw [Ale];exact d1,?_⟩;have rm:k<(C.parts.drop q).length:=by rw [AlE];omega
  have es:CI ((C.parts.drop q).take (k+1))=CI ((C.parts.drop q).take k)+C.parts[q+k].2:=by
   rw [Al6 rm,J2,Am3]
  have hb:=xE (k+1) (by omega);have kN:IntKind.i64.wrap ((CI ((C.parts.drop q).take k):Int)+(C.parts[q+k].2:Int))=(CI ((C.parts.drop q).take (k+1)):Int):=by
   rw [wrap_i64 (by omega) (by omega),es];omega
  rw [kN,Ae (by omega)];exact⟨⟨rfl,k+1,rfl,by omega⟩,by simp only [Ale];omega⟩
 refine Ah (λ _=>F S 2) (λ _=>(Nv t (by omega)).mono ?_);rintro _ qx ⟨_,rfl,rfl,yw⟩;have S:=S.grown yw;obtain⟨nm,bz⟩:∃ nm,nm=Fj t:=⟨_,rfl⟩;rw [<- bz];refine⟨_,rfl,S.draw λ xG _ S=>?_⟩;have yV:C.parts.length<=pc:=(S.rw 4 rfl).le;refine⟨_,_,_,S.cell 2 rfl rfl,_,_,_,S.cell 2 rfl rfl,⟨by omega,by omega,by omega⟩,?_⟩;have ew:IntKind.i64.wrap ((q:Int)+(ns.length:Int))=((q+ns.length:Nat):Int):=by rw [wrap_i64 (by omega) (by omega)];omega
 rw [ew];simp only [Ale,AmE];have oq:((C.parts.drop 0).take q).length=q:=by rw [AmG,Al7];omega
 refine S.mk0 SM (by omega) (by omega) λ bk sM S=>⟨_,_,_,rfl,S.cell 3 rfl rfl,?_⟩;refine AdZ S (n:=0) (xs:=[]) (nx:=0) (nq:=q) rfl (Ag1 (S.rd 5 rfl) 0 q pc (by omega)) rfl oq (by omega) λ a1 c1 ib S=>⟨_,_,_,rfl,S.An λ b72 qy _ _ S=>?_⟩;obtain⟨k3,iB⟩:∃ k3,k3=[]++(C.parts.drop 0).take q:=⟨_,rfl⟩;have nJ:k3.length=q:=by rw [iB,Ame,oq]
 rw [<- iB] at S ⊢;refine Vz S (n:=1) (ps:=k3) rfl (p:=(nm,ps.length)) (S.GD 0 rfl) (by omega) λ a2 c2 kH S=>⟨_,_,_,rfl,_,_,_,S.cell 4 rfl rfl,⟨by omega,by omega,by omega⟩,?_⟩;obtain⟨k4,nK⟩:∃ k4,k4=k3++[((nm,ps.length):H8)]:=⟨_,rfl⟩;have hk4l:k4.length=q+1:=by rw [nK,Alb,nJ];rfl
 rw [<- nK] at S ⊢;have bj:((C.parts.drop (q+ns.length)).take (C.parts.length-(q+ns.length))).length=C.parts.length-(q+ns.length):=by rw [Al7,AlE];omega
 refine AdZ S (n:=1) (xs:=k4) (nx:=k4.length) (nq:=C.parts.length-(q+ns.length)) rfl (Ag1 (S.rd 6 rfl) (q+ns.length) (C.parts.length-(q+ns.length)) pc (by omega)) rfl bj (by omega) λ a3 c3 xH S=>⟨_,_,_,rfl,?_⟩;obtain⟨k5,cj⟩:∃ k5,k5=k4++(C.parts.drop (q+ns.length)).take (C.parts.length-(q+ns.length)):=⟨_,rfl⟩;have vZ:k5.length<=256:=by rw [cj,Alb,bj];omega
 have qH:∀ p∈k5,p∈C.parts\/p=(nm,ps.length):=λ p hp=>by
  rw [cj,nK,iB] at hp;rcases Al8.1 hp with h | h
  ·rcases Al8.1 h with h | h
   ·exact .inl (Am1 (Amd h))
   ·exact .inr (Al9.1 h)
  ·exact .inl (Am1 (Amd h))
 rw [<- cj] at S ⊢
 try simp only [Av]
 refine S.BP 4 rfl (i:=1) (aC:=#[.slice ca C.AM.length cc,.slice a3 k5.length c3,.slice ka C.Dw.length kc]) (by simp) rfl λ qz S=>⟨_,_,_,S.cell 4 rfl rfl,S.An λ tM lp _ _ S=>?_⟩;have S:=S.I2 0 rfl (.refl _ _) (It.rd (some ⟨tM,0,none⟩) (Bt [(nm,t)])) (S.GD 0 rfl) (λ k hk=>.inl hk);have S:ST w0 lp (It.rd (some ⟨tM,0,none⟩) (Bt [(nm,t)]) :: Dl a3 c3 k5 :: It.cells b3 #[.int .i64 0,.int .i64 0] ty.AZ :: It.cells b #[.slice ca C.AM.length cc,.slice a3 k5.length c3,.slice ka C.Dw.length kc] ty.Fk :: CK ca cc C.AM :: Np ka kc C.Dw :: H) :=
  S.sub (.cons_cons _ (.cons _ (.cons_cons _ (.cons _ (.cons_cons _ (.cons_cons _ (.cons_cons _ (.cons _ (.cons_cons _ (AmX _))))))))))
 have S:=((((S.pull 1 rfl).pull 4 rfl).pull 4 rfl).pull 3 rfl).pull 4 rfl;exact Pr (K:=Hd w0 H b C) S 0 (k5.length:Int) λ w' S=>⟨(0,k5.length),[(nm,t)],{ C with parts:=k5 },some ⟨tM,0,none⟩,_,_,_,_,_,_,rfl,⟨vZ,hC.nc,λ p hp=>by
  rcases qH p hp with h | rfl
  ·exact hC.rows p h
  ·exact bM,hC.AM⟩,by simp,λ f hf=>by
  rw [Al9.1 hf];show t.size<=_;omega,λ p hp=>(qH p hp).imp id λ h=>⟨(nm,t),Al9.2 rfl,by rw [h]⟩,S⟩
end
section
variable {w0 w:World}{H:List It}{b cc pc kc:Nat}{ca pa ka:Option Addr}{C:VT}
theorem Age{q:Nat}{u v:Value}{X:It}{x:Value}(h:Hd w0 (X :: It.cells q #[u,v] ty.AZ :: H) b C x w) :
  ∃ p:Int,∃ r:Int,∃(f:Option Addr) (fl fc:Nat),x=.tuple #[.agg #[.int .i64 p,.int .i64 r],.slice f fl fc] /\
   DY ⟨q,0,none⟩ (.int .i64 p) (λ w=>DY ⟨q,1,none⟩ (.int .i64 r) (λ w=>∃ p':Int,w.cell? ⟨q,0,none⟩=some (.int .i64 p')/\∃ q':Int,w.cell? ⟨q,1,none⟩=some (.int .i64 q')/\Hd w0 H b C (.tuple #[.agg #[.int .i64 p',.int .i64 q'],.slice f fl fc]) w) w) w:=by
 obtain⟨d,fs,C',fa,iR,oQ,dC,dD,s4,s6,rfl,h1,h2,h3,h4,S⟩:=h;have S:ST w0 w (It.cells q #[u,v] ty.AZ :: (It.rd fa (Bt fs) :: (DO b iR oQ dC dD s4 s6 C'++H))) :=
  (S.pull 6 rfl).sub (.cons_cons _ (.cons_cons _ (.cons_cons _ (.cons_cons _ (.cons_cons _ (.cons_cons _ (.cons _ (AmX _))))))))
 exact⟨_,_,_,_,_,rfl,Pr (K:=Hd w0 H b C) S _ _ λ w' S=>⟨d,fs,C',fa,iR,oQ,dC,dD,s4,s6,rfl,h1,h2,h3,h4,S⟩⟩
theorem Se(S:ST w0 w (DO b ca cc pa pc ka kc C++H))(hC:DJ C)(s:ByteArray)(hs:s.size<=140737488355328) :
  Calls Tryz.prog f.MX #[.pointer (some ⟨b,0,none⟩),.string s] w (AG (Hd w0 H b C)):=by
 apply R.Ie
 delta R.A R.Ab R.A7 R.E R.F R.G R.H R.I R.Li R.Ly R.N R.O R.P R.Rs R.S R.Am R.T R.X R.Zb;try dsimp only [R.Ps]
 have au:=Bb s;have hK:∀ v w',Hd w0 H b C v w'->Hd w0 H b C v w':=λ _ _ h=>h;refine S.An λ b3 w1 _ B1 S=>CE CA s w1 λ b0 c0 cells e0 w2 bg B2 eP aj jg dA=>?_;have hr:Rd w2 (some ⟨b0,0,none⟩) ((bl s).map Ag):=by
  have:=(Rd.Ak eP).take s.size;rw [dA] at this;exact this
 have S:ST w0 w2 (It.rd (some ⟨b0,0,none⟩) ((bl s).map Ag) :: (DO b ca cc pa pc ka kc C++(It.cells b3 #[.int .i64 0,.int .i64 0] ty.AZ :: H))) :=
  Qp (S.perm List.perm_middle.symm) B2 (⟨hr,λ k hk=>by cases hk;exact Nat.le_of_eq bg.symm⟩:XR w1 w2 _ _)
 have S:ST w0 w2 (DO b ca cc pa pc ka kc C++(It.rd (some ⟨b0,0,none⟩) ((bl s).map Ag) :: It.cells b3 #[.int .i64 0,.int .i64 0] ty.AZ :: H)):=S.perm List.perm_middle.symm;obtain⟨l,hl⟩:∃ l,l=bl s:=⟨_,rfl⟩;rw [<- hl] at au S hr;have oh:l.length<=c0:=by omega
 have S9:ST w0 w2 (It.cells b3 #[.int .i64 0,.int .i64 0] ty.AZ :: (DO b ca cc pa pc ka kc C++H)) :=
  (S.pull 5 rfl).sub (.cons_cons _ (.cons_cons _ (.cons_cons _ (.cons_cons _ (.cons_cons _ (.cons _ (AmX _)))))))
 refine⟨_,_,_,rfl,λ st wx=>wx=w2/\∃ t,st=[.bool t]/\(t=true->0<s.size),Aa (λ h=>⟨rfl,_,rfl,λ _=>by omega⟩) (λ h=>⟨rfl,_,rfl,λ h=>by cases h⟩),?_⟩;rintro _ w3 ⟨e3,t,aA,ht⟩;subst e3;cases aA;refine Aq (λ h=>?_) (λ _=>dno (K:=Hd w0 H b C) hK hC S9 220);have h0:=ht h;rw [<- au];have hx:l≠[]:=λ e=>by rw [e] at au;simp at au;omega
 obtain⟨u,r,hur⟩:=List.exists_cons_of_ne_nil hx;obtain⟨p,hp,c1⟩:=hr 0 (Ag u) (by rw [hur];rfl);cases hp;refine⟨⟨by omega,by omega⟩,_,by simpa [C0,Ag] using c1,?_⟩;refine Aq (λ _=>?_) (λ _=>Aq (λ _=>?_) (λ _=>Aq (λ _=>?_) (λ _=>dno (K:=Hd w0 H b C) hK hC S9 220)))
 ·refine (XL S hC (S.get 4 rfl) oh (by omega)).mono ?_;rintro _ w4 ⟨v,rfl,hD⟩;obtain⟨p,q,f,fl,fc,rfl,g⟩:=Age hD;exact⟨_,_,_,_,_,rfl,g⟩
 ·refine (XM (m:=0) S hC rfl oh (by omega)).mono ?_;rintro _ w4 ⟨v,rfl,hD⟩;obtain⟨p,q,f,fl,fc,rfl,g⟩:=Age hD;exact⟨_,_,_,_,_,rfl,g⟩
 ·refine (Zo (m:=0) S hC rfl oh (by omega)).mono ?_;rintro _ w4 ⟨v,rfl,hD⟩;obtain⟨p,q,f,fl,fc,rfl,g⟩:=Age hD;exact⟨_,_,_,_,_,rfl,g⟩
end
theorem AbB{x:Int}{n:Nat}(h0:0<=x)(hn:0<n):∃ i:Nat,Int.tmod x (n:Int)=(i:Int)/\i<n:=by
 obtain⟨y,rfl⟩:=Int.eq_ofNat_of_zero_le h0;refine⟨y % n,?_,Nat.mod_lt _ hn⟩;rw [Int.tmod_eq_emod_of_nonneg (by omega)];rfl
theorem Yy(x:Int)(hx : -9223372036854775808<=x/\x<=9223372036854775807)(n:Nat)(hn:0<n)(w:World):Calls Tryz.prog f.Acq #[.int .i64 x,.int .i64 (n:Int)] w (AG λ v w'=>w'=w/\∃ i:Nat,v=.int .i64 (i:Int)/\i<n):=by
 apply R.Re
 delta R.F R.I R.W;try dsimp only [R.Ps]
 refine Aa (λ h=>⟨by omega,?_⟩) (λ h=>⟨by omega,?_⟩)
 ·have e1:IntKind.i64.wrap (x+1)=x+1:=wrap_i64 (by omega) (by omega);have e2:IntKind.i64.wrap (0-(x+1))=0-(x+1):=wrap_i64 (by omega) (by omega);rw [e1,e2];obtain⟨i,hi,aB⟩:=AbB (x:=0-(x+1)) (n:=n) (by omega) hn;exact⟨rfl,i,by rw [hi],aB⟩
 ·obtain⟨i,hi,aB⟩:=AbB (x:=x) (n:=n) (by omega) hn;exact⟨rfl,i,by rw [hi],aB⟩
theorem AeH(fs:List Jq)(i:Nat)(hi:i<fs.length):(Bt fs)[i*2]?=some (.string fs[i].1)/\(Bt fs)[i*2+1]?=some (.string fs[i].2):=by
 induction fs generalizing i with
 | nil=>simp at hi
 | cons f fs ih =>
  have e:Bt (f :: fs)=.string f.1 :: .string f.2 :: Bt fs:=rfl;cases i with
  | zero=>exact⟨rfl,rfl⟩
  | succ i =>
   have h:=ih i (by simpa using hi);rw [e,show (i+1)*2=i*2+1+1 by omega];exact h
abbrev Grp:=Option Addr × Nat × List BF
def UM(g:Grp):Value:=.slice g.1 g.2.2.length g.2.1
def Q6(g:Grp):List It:=match g.1 with
 | none=>[]
 | some p=>Ff p.block g.2.2
def Nd(g:Grp):Prop:=((g.1=none/\g.2.2=[])\/∃ bo,g.1=some ⟨bo,0,none⟩)/\g.2.2.length<=1024/\∀ r∈rws g.2.2,∀ v∈r,BL v
def W3(a:Option Addr)(c:Nat)(gs:List Grp):It:=It.row ty.Ce 1 a gs.length c (gs.map UM)
theorem Akb:M9 Tryz.prog 33=some (ty.Ce,1,24,.slice none 0 0):=by kernel_rfl
section
variable {w0 w:World}{H:List It}{b cc pc kc:Nat}{ca pa ka:Option Addr}{C:VT}{fa:Option Addr}{fc:Nat}{fs:List Jq}
theorem AhV(h:Rd w fa (Bt fs)){i:Nat}(hi:i<fs.length):∃ p,fa=some p/\w.cell? (p.add (i*2))=some (.string fs[i].1)/\w.cell? ((p.add (i*2)).add 1)=some (.string fs[i].2):=by
 obtain⟨h0,h1⟩:=AeH fs i hi;obtain⟨p,hp,c0⟩:=h (i*2) _ h0;obtain⟨q,hq,c1⟩:=h (i*2+1) _ h1;rw [hp] at hq;cases hq;exact⟨p,hp,c0,by rw [BH];exact c1⟩
end
theorem Ahn{α:Type}(l:List α)(n:Nat):l.take (l.take n).length=l.take n:=by
 rw [Al7];rcases Nat.le_total n l.length with h | h
 ·rw [Nat.min_eq_left h]
 ·rw [Nat.min_eq_right h,Ama,AlK h]
section
variable {w:World}{a a2 a3:Option Addr}{c c2 c3:Nat}{cs:List BQ}{ps:List BF}{ns:List ByteArray}
theorem Ba.first(h:Ba w a ps)(n:Nat)(hn:n<=c):Ba w (Cm a 0 c 1) (ps.take n):=by
 refine⟨?_,λ p hp=>h.each p (Amd hp)⟩;have:=h.top.OY 0 n c 1 hn;simp only [AmG,AmE,Alh] at this;rwa [AlG]
end
theorem Ae5(ns:List ByteArray)(s:ByteArray):∃ t e,Wc ns s=.tuple #[.string t,.int .i64 e]/\t.size<=262144:=by
 unfold Wc;split
 ·rename_i h;refine⟨_,_,rfl,?_⟩;rw [A1];unfold To at h;split at h
  ·cases h
  ·split at h
   ·cases h
   ·omega
 ·exact⟨_,_,rfl,by rw [A1];simp⟩
theorem DJ.AjS{C:VT}(h:DJ C):C.AM.length<=16/\∀ c∈C.AM,c.1.size<=9223372036854775807:=by
 rcases h.AM with e | e
 ·rw [e];exact⟨by simp,by simp⟩
 ·exact⟨(A6 e).2,λ c hc=>by have:=(Dr e hc).2.2.2;omega⟩
section
variable {w0 w:World}{H:List It}{b cc pc kc:Nat}{ca pa ka:Option Addr}{C:VT}{ra:Option Addr}{rc:Nat}{gs:List Grp}
set_option maxHeartbeats 2000000 in
theorem Ae4(S:ST w0 w (DO b ca cc pa pc ka kc C++H))(hC:DJ C)(hg:Rd w ra (gs.map UM))(q9:gs.length=C.parts.length)(iU:∀ g∈gs,Nd g)(oZ:∀ g∈gs,Ba w g.1 g.2.2)
  (x0 x1 x2 x5 x6:Int) (h5 : -9223372036854775808<=x5/\x5<=9223372036854775807) (h6 : -9223372036854775808<=x6/\x6<=9223372036854775807) (a3 a4:Option Addr) (l3 c3 l4 c4:Nat) (x7:Bool) (x8:ByteArray) :
  Calls Tryz.prog f.Yr #[.pointer (some ⟨b,0,none⟩),.slice ra gs.length rc,.agg #[.int .i64 x0,.int .i64 x1,.int .i64 x2,.slice a3 l3 c3,.slice a4 l4 c4,.int .i64 x5,.int .i64 x6,.bool x7,.string x8]] w (AG λ v w'=>∃ s:ByteArray,v=.string s/\s.size<=262144/\Below w.heap.size w w'):=by
 apply R.NY
 delta R.Ab R.Ad R.Ix R.Ci R.D R.F R.G R.I R.J R.Ks R.Lb R.Li R.Ls R.Lt R.N R.O R.Zz R.S R.T R.W R.X R.Y R.Zs;try dsimp only [R.Ps]
 have kA:=hC.np;refine (ST.start w).An λ dk w1 _ B1 P=>?_;have S1:=S.grown P.Ar;refine⟨_,_,_,S1.cell 0 rfl rfl,Aa (λ _=>⟨_,rfl,by show (0:Nat)<=_;omega,P.Ar⟩) (λ h2=>?_)⟩;have h2:2<=C.parts.length:=by omega
 refine P.draw λ w2 B2 P=>?_;have S2:=S.grown P.Ar;refine⟨_,P.cell 0 rfl rfl,_,_,_,S2.cell 0 rfl rfl,?_⟩;have ew:IntKind.i64.wrap ((C.parts.length:Int)-1)=((C.parts.length-1:Nat):Int):=by rw [wrap_i64 (by omega) (by omega)];omega
 rw [ew];refine (Yy x5 h5 (C.parts.length-1) (by omega) w2).mono ?_;rintro _ w3 ⟨_,rfl,e3,p,rfl,hp⟩;subst e3;refine⟨_,rfl,P.draw λ w4 B4 P=>?_⟩;have S4:=S.grown P.Ar;refine⟨_,P.cell 0 rfl rfl,_,_,_,S4.cell 0 rfl rfl,(Yy x6 h6 3 (by omega) w4).mono ?_⟩;rintro _ w5 ⟨_,rfl,e5,n,rfl,hn⟩;subst e5;refine⟨_,rfl,S4.cell 0 rfl rfl,?_⟩;have e1:IntKind.i64.wrap ((C.parts.length:Int)-(p:Int))=((C.parts.length-p:Nat):Int):=by rw [wrap_i64 (by omega) (by omega)];omega
 have e2:IntKind.i64.wrap (2+(n:Int))=((2+n:Nat):Int):=by rw [wrap_i64 (by omega) (by omega)];omega
 rw [e1,e2];obtain⟨m,hm⟩:∃ m:Nat,m=min (C.parts.length-p) (2+n):=⟨_,rfl⟩;have em:(if ((C.parts.length-p:Nat):Int)<((2+n:Nat):Int) then ((C.parts.length-p:Nat):Int) else ((2+n:Nat):Int))=(m:Int):=by split <;> omega
 rw [em];refine⟨λ s wx=>∃(i:Nat) (ns:List ByteArray) (na:Option Addr) (nc:Nat) (qs:List BF) (qa:Option Addr) (qc:Nat),s=[.slice na ns.length nc,.slice qa qs.length qc,.int .i64 (i:Int)]/\i<=m/\ns.length=i/\qs.length<=i*1024/\(∀ r∈qs,Rd w r.1 (AP r.2.2))/\(∀ r∈rws qs,∀ v∈r,BL v) /\
   ST w wx [GI qa qc qs,It.row ty.string 1 na ns.length nc (ns.map Value.string),It.cells dk #[.int .i64 x0,.int .i64 x1,.int .i64 x2,.slice a3 l3 c3,.slice a4 l4 c4,.int .i64 x5,.int .i64 x6,.bool x7,.string x8] 37],λ s _=>match s with
  | [_,_,.int _ i]=>m-i.toNat
  | _=>0,⟨0,[],none,0,[],none,0,rfl,by omega,rfl,by simp,by simp,by simp,(P.nil ty.string 1).nil ty.CG 1⟩,?_⟩
 clear P S1 S2 S4;rintro na _ nc qa _ qc _ w6 ⟨i,ns,_,_,qs,_,_,aA,hi,bn,ku,yY,wH,P⟩;cases aA;refine Aa (λ aB=>?_) (λ aI=>?_)
 ·have hpi:p+i<C.parts.length:=by omega
  have kN:IntKind.i64.wrap ((p:Int)+(i:Int))=((p+i:Nat):Int):=by rw [wrap_i64 (by omega) (by omega)];omega
  have S6:=S.grown P.Ar;refine⟨_,_,_,S6.cell 0 rfl rfl,?_⟩;rw [kN];obtain⟨q,hq,d0,_⟩:=JT (S6.rd 2 rfl) hpi;subst hq;refine⟨⟨by omega,by omega⟩,_,by rw [Ale];exact d0,P.An λ rE w7 _ _ P=>?_⟩;refine P.app 2 rfl VD rfl (by omega) (by omega) (news:=[.string C.parts[p+i].1]) (P.GD 0 rfl) (mm:=1) rfl (by simp;rfl) (by omega) λ a' c' w8 P=>⟨_,_,_,rfl,⟨by omega,by omega⟩,?_⟩;have yE:p+i<gs.length:=by omega
  obtain⟨g,aI⟩:∃ g,g=gs[p+i]:=⟨_,rfl⟩;have re:g∈gs:=aI ▸ AlS yE;obtain⟨t,ht,hc⟩:=(hg.grown P.Ar) (p+i) (UM g) (by rw [aI];simp [yE]);subst ht;refine⟨_,_,_,by rw [Ale,Alh];exact hc,?_⟩;have hgr:=(oZ g re).grown P.Ar;have hgk:=(iU g re).2.1;refine P.app 1 rfl Ad2 rfl (by omega) (by omega) (news:=g.2.2.map Cz) hgr.top (by simp) (by rintro u hu;obtain⟨r,_,rfl⟩:=AkU.1 hu;rfl) (by omega) λ rA rH w9 P=>⟨_,_,_,rfl,?_⟩;obtain⟨nm,bz⟩:∃ nm,nm=C.parts[p+i].1:=⟨_,rfl⟩;rw [<- bz] at P;have e1:ns.length+1=(ns++[nm]).length:=by simp
  have e2:ns.map Value.string++[.string nm]=(ns++[nm]).map Value.string:=by simp
  have e3:qs.length+g.2.2.length=(qs++g.2.2).length:=by simp
  have e4:qs.map Cz++g.2.2.map Cz=(qs++g.2.2).map Cz:=by simp
  rw [e1,e2,e3,e4] at P;rw [e1,e3,Ae (by omega)];refine⟨⟨i+1,ns++[nm],a',c',qs++g.2.2,rA,rH,rfl,by omega,by simp [bn],by rw [Alb];omega,λ r hr=>?_,λ r hr=>?_,P.drop 1⟩,by simp only [Ale];omega⟩
  ·rcases Al8.1 hr with h | h
   ·exact yY r h
   ·exact (oZ g re).each r h
  ·have hr:r∈rws qs\/r∈rws g.2.2:=by
    have:r∈(qs++g.2.2).map (·.2.2):=hr;rw [List.map_append] at this;exact Al8.1 this
   rcases hr with h | h
   ·exact wH r h
   ·exact (iU g re).2.2 r h
 have qW:Ba w6 qa qs:=⟨P.rd 0 rfl,λ r hr=>(yY r hr).grown P.Ar⟩;refine⟨λ st wx=>wx=w6/\∃(eV:List BF) (ox:Option Addr) (sH:Nat),st=[.slice ox eV.length sH]/\Ba w6 ox eV/\eV.length<=10000/\(∀ r∈rws eV,∀ v∈r,BL v),⟨_,P.cell 2 rfl rfl,?_⟩,?_⟩
 ·have same:(λ (st:List Value) (wx:World)=>wx=w6/\∃(eV:List BF) (ox:Option Addr) (sH:Nat),st=[.slice ox eV.length sH]/\Ba w6 ox eV/\eV.length<=10000/\(∀ r∈rws eV,∀ v∈r,BL v)) [.slice qa qs.length qc] w6:=⟨rfl,qs,qa,qc,rfl,qW,by omega,wH⟩;refine Aq (λ _=>Aa (λ h1=>?_) (λ _=>same)) (λ _=>same);have hqc:qs.length<=qc:=(P.rw 0 rfl).le;refine⟨⟨by omega,by omega,by omega⟩,rfl,qs.drop 1,Cm qa 1 qc 1,qc-1,by rw [AlE],⟨?_,λ r hr=>qW.each r (Am1 hr)⟩,by rw [AlE];omega,λ r hr=>?_⟩
  ·have:=qW.top.OY 1 qs.length qc 1 hqc;simp only [Alh] at this;rwa [AlK (by rw [AlE,Alr];omega),<- List.map_drop] at this
  ·obtain⟨r',gK,rfl⟩:=AkU.1 hr;exact wH _ (AkU.2 ⟨r',Am1 gK,rfl⟩)
 rintro ox _ sH bV ⟨pD,eV,_,_,aA,cu,hl10,wu⟩;subst pD;cases aA;have js:=S.grown P.Ar;obtain⟨bN,hcq⟩:=hC.AjS;refine⟨_,_,_,js.cell 0 rfl rfl,(HS (js.rd 1 rfl) (by omega) hcq cu (by omega) wu).mono ?_⟩;rintro _ aY ⟨_,rfl,hV,cF⟩;have P:=P.grown cF;obtain⟨t,e,rfl,ht⟩:=hV.open;refine⟨_,_,rfl,Ah (λ _=>⟨_,rfl,by show (0:Nat)<=_;omega,P.Ar⟩) (λ _=>?_)⟩;refine (Vh (P.rd 1 rfl) (by omega) t).mono ?_;rintro _ bK ⟨_,rfl,rfl,ic⟩;obtain⟨u,e',hu,hus⟩:=Ae5 ns t;rw [hu];exact⟨_,_,rfl,_,rfl,hus,(P.grown ic).Ar⟩
end
theorem AeA(cs:List BQ):∃ t e,Ya cs=.tuple #[.string t,.int .i64 e]/\t.size<=262144:=by
 unfold Ya;split
 ·rename_i h;refine⟨_,_,rfl,?_⟩;rw [A1];have:=GJ h;simp only [MP,Ald];omega
 ·exact⟨_,_,rfl,by first | (rw [A1];simp) | (show (0:Nat)<=_;omega)⟩
theorem AeR(x y:Int)(cs:List BQ)(rows:List (List AB)):∃ t e,LD x y cs rows=.tuple #[.string t,.int .i64 e]/\t.size<=262144:=by
 unfold LD;split
 ·rename_i h;refine⟨_,_,rfl,?_⟩;rw [A1];unfold JG at h;split at h
  ·cases h
  ·split at h
   ·rename_i h2;exact absurd h h2
   ·split at h
    ·cases h
    ·omega
 ·exact⟨_,_,rfl,by first | (rw [A1];simp) | (show (0:Nat)<=_;omega)⟩
section
variable {w0 w:World}{H:List It}{b cc pc kc:Nat}{ca pa ka:Option Addr}{C:VT}{ra:Option Addr}{rc:Nat}{gs:List Grp}{cs:List BQ}{ps:List BF}
set_option maxHeartbeats 1000000 in
theorem Ab7(S:ST w0 w (DO b ca cc pa pc ka kc C++H))(hC:DJ C)(hg:Rd w ra (gs.map UM))(q9:gs.length=C.parts.length)(iU:∀ g∈gs,Nd g)(oZ:∀ g∈gs,Ba w g.1 g.2.2)
  (x0 x1 x2 x5 x6:Int) (h0 : -9223372036854775808<=x0/\x0<=9223372036854775807) (h5 : -9223372036854775808<=x5/\x5<=9223372036854775807) (h6 : -9223372036854775808<=x6/\x6<=9223372036854775807) (a3 a4:Option Addr) (c3 c4:Nat) (x7:Bool) (x8:ByteArray) (h8:x8.size<=140737488355328)
  (aj:Rd w a3 (BM cs)) (hn:cs.length<=9223372036854775807) (hq:∀ c∈cs,c.1.size<=9223372036854775807) (hr:Ba w a4 ps) (hm:ps.length<=9223372036854775807) (hv:∀ r∈rws ps,∀ v∈r,BL v) (yV:ps.length<=c4) :
  Calls Tryz.prog f.Ns #[.pointer (some ⟨b,0,none⟩),.slice ra gs.length rc,.agg #[.int .i64 x0,.int .i64 x1,.int .i64 x2,.slice a3 cs.length c3,.slice a4 ps.length c4,.int .i64 x5,.int .i64 x6,.bool x7,.string x8]] w (AG λ v w'=>∃ s:ByteArray,v=.string s/\s.size<=140737488355328/\Below w.heap.size w w'):=by
 apply R.MS
 delta R.A R.Ab R.Ix R.Ci R.Ct R.D R.E R.F R.G R.I R.Lb R.Li R.Ls R.Lt R.N R.P R.S R.T R.Y;try dsimp only [R.Ps]
 refine (ST.start w).An λ dk w1 _ B1 P=>⟨_,P.cell 0 rfl rfl,_,P.cell 0 rfl rfl,(Yy x0 h0 4 (by omega) w1).mono ?_⟩;rintro _ w2 ⟨_,rfl,e2,p,rfl,hp⟩;subst e2;refine⟨_,rfl,Ao (λ _=>?_) (λ _=>Ao (λ _=>?_) (λ _=>Ao (λ _=>?_) (λ _=>⟨_,rfl,h8,P.Ar⟩)))⟩
 ·refine⟨_,_,_,P.cell 0 rfl rfl,(TF (aj.grown P.Ar) hn hq).mono ?_⟩;rintro _ w3 ⟨_,rfl,rfl,B3⟩;obtain⟨t,e,ht,hs⟩:=AeA cs;rw [ht];exact⟨_,_,rfl,_,rfl,by omega,(P.grown B3).Ar⟩
 ·refine P.draw λ w4 B4 P=>⟨_,P.cell 0 rfl rfl,_,P.cell 0 rfl rfl,_,_,_,P.cell 0 rfl rfl,_,_,_,P.cell 0 rfl rfl,_,_,_,P.cell 0 rfl rfl,?_⟩;have e1:(if 40<(ps.length:Int) then 40 else (ps.length:Int))=((ps.take 40).length:Int):=by rw [Al7];split <;> omega
  have l1:(ps.take 40).length<=ps.length:=by rw [Al7];omega
  rw [e1];simp only [Ale,AmE];have gK:Ba w (Cm a4 0 c4 1) (ps.take 40):=by
   have:=hr.first (c:=c4) (ps.take 40).length (by omega);rwa [Ahn] at this
  have wo:∀ r∈rws (ps.take 40),∀ v∈r,BL v:=λ r hr=>hv r (by
   obtain⟨p,hp,rfl⟩:=AkU.1 hr;exact AkU.2 ⟨p,Amd hp,rfl⟩)
  refine⟨⟨by omega,by omega,by omega⟩,(TG x1 x2 (aj.grown P.Ar) hn hq (gK.grown P.Ar) (by omega) wo).mono ?_⟩;rintro _ w5 ⟨_,rfl,rfl,B5⟩;obtain⟨t,e,ht,hs⟩:=AeR x1 x2 cs (rws (ps.take 40));rw [ht];exact⟨_,_,rfl,_,rfl,by omega,(P.grown B5).Ar⟩
 ·refine⟨_,P.cell 0 rfl rfl,_,P.cell 0 rfl rfl,_,P.cell 0 rfl rfl,_,_,_,P.cell 0 rfl rfl,_,_,_,P.cell 0 rfl rfl,_,P.cell 0 rfl rfl,_,P.cell 0 rfl rfl,_,P.cell 0 rfl rfl,_,P.cell 0 rfl rfl,?_⟩;refine (Ae4 (S.grown P.Ar) hC (hg.grown P.Ar) q9 iU (λ g h=>(oZ g h).grown P.Ar) x0 x1 x2 x5 x6 h5 h6 a3 a4 _ _ _ _ x7 x8).mono ?_;rintro _ w6 ⟨_,rfl,s,rfl,hs,B6⟩;exact⟨_,rfl,_,rfl,by omega,(P.grown B6).Ar⟩
end
section
variable {w0 w:World}{H:List It}{a a2:Option Addr}{c c2:Nat}
theorem Ah1{oa:Option Addr}{oc:Nat}{gs:List Grp}(S:ST w0 w (W3 oa oc gs :: gs.flatMap Q6))(iU:∀ g∈gs,Nd g):Rd w oa (gs.map UM)/\∀ g∈gs,Ba w g.1 g.2.2:=by
 refine⟨S.rd 0 rfl,λ g hg=>?_⟩;rcases (iU g hg).1 with ⟨h1,h2⟩ | ⟨bo,h1⟩
 ·rw [h1,h2];exact⟨Rd.nil _ _,by simp⟩
 ·have e:Q6 g=Ff bo g.2.2:=by unfold Q6;rw [h1]
  have cy:(Ff bo g.2.2).Sublist (gs.flatMap Q6):=by
   obtain⟨l1,l2,rfl⟩:=List.append_of_mem hg;rw [AmW,List.flatMap_cons,e];exact (List.sublist_append_left _ _).trans (List.sublist_append_right _ _)
  have S':ST w0 w ([]++Ff bo g.2.2):=(S.drop 1).sub cy;rw [h1];exact Q5 S'
end
def Td(ps:List H8)(i n:Nat):List H8:=(ps.drop i).take n
def AaI(ps:List H8)(i n:Nat)(p:H8):List H8:=ps.take i++[p]++ps.drop (i+n)
def Sh(C:BX)(ns:List ByteArray)(l:List UInt8)(i:Nat)(rows:List (List AB)):Prop :=
 Pv C.parts ns=some i/\Bv C.AM rows/\FL C.AM rows l/\rows.length=CI (Td C.parts i ns.length)
def Aeo(C:BX)(ns:List ByteArray)(t:ByteArray)(d:Nat × Nat)(fs:List Jq)(C':BX):Prop :=
 ((∀ i rows,¬ Sh C ns (bl t) i rows)/\d=(2,0)/\fs=[]/\C'=C) \/
  ∃ i rows,Sh C ns (bl t) i rows/\C'={ C with parts:=AaI C.parts i ns.length (Fj t,rows.length) }/\d=(0,C'.parts.length)/\fs=[(Fj t,t)]
theorem Afe(ps:List H8)(i:Nat):(Bp ps).drop (i*2)=Bp (ps.drop i):=by
 have e:Bp ps=Bp (ps.take i)++Bp (ps.drop i):=by rw [<- FH,Am0]
 by_cases h:i<=ps.length
 ·have hl:(Bp (ps.take i)).length=i*2:=by rw [EH,Al7];omega
  rw [e,<- hl,Amu]
 ·have h1:ps.drop i=[]:=AlD (by omega);rw [h1,AlD (by rw [EH];omega)];rfl
theorem Aff(ps:List H8)(i:Nat):(Bp ps).take (i*2)=Bp (ps.take i):=by
 have e:Bp ps=Bp (ps.take i)++Bp (ps.drop i):=by rw [<- FH,Am0]
 by_cases h:i<=ps.length
 ·have hl:(Bp (ps.take i)).length=i*2:=by rw [EH,Al7];omega
  rw [e,<- hl,Ak6]
 ·rw [AlK (i:=i) (by omega),AlK (by rw [EH];omega)]
section
variable {w0 w:World}{H:List It}{bc bm n N cc pc:Nat}{ca pa:Option Addr}{C:BX}
theorem AcI{a:Option Addr}{ps:List H8}(h:Rd w a (Bp ps))(i m c:Nat)(hm:i+m<=c):Rd w (Cm a i c 2) (Bp (Td ps i m)):=by
 have:=h.OY i (i+m) c 2 hm;rwa [Afe,show i+m-i=m by omega,Aff] at this
set_option maxHeartbeats 4000000 in
theorem Ae3(T:I5 w0){q0 q1 q2 nc:Nat}{na:Option Addr}{ns:List ByteArray}{t:ByteArray}
  (S:ST w0 w (It.cells q0 #[.pointer (some ⟨bc,0,none⟩)] ty.A3 :: It.cells q1 #[.slice na ns.length nc] ty.Co :: It.row ty.string 1 na ns.length nc (ns.map Value.string) :: It.cells q2 #[.string t] ty.string :: (BV bc ca cc pa pc bm n C++H)))
  (h1:2<=ns.length) (hn:ns.length<=256) (ht:t.size<=262144) (hC:Nc C) (bh:ca=none↔C.AM=[]) (hN:n<=N) :
  Calls Tryz.prog f.Fb #[.pointer (some ⟨q0,0,none⟩),.pointer (some ⟨q1,0,none⟩),.pointer (some ⟨q2,0,none⟩)] w (AG (VR w0 H bc bm (N+1) (Aeo C ns t))):=by
 apply R.Gg
 delta R.A R.Ab R.A7 R.Ajs R.Cb R.Ci R.Cs R.Ct R.D R.E R.F R.H R.I R.J R.Li R.Lp R.Ls R.Lt R.N R.P R.S R.Am R.T R.W R.Y R.Zp;try dsimp only [R.Ps]
 have kA:=hC.np;refine S.An λ b4 w1 _ _ S=>⟨_,S.cell 1 rfl rfl,_,_,_,S.cell 2 rfl rfl,?_⟩;refine (AhW (S.drop 5) (S.rd 3 rfl) (by omega) (by omega) (by omega)).mono ?_;rintro _ w2 ⟨_,rfl,rfl,e2⟩;subst e2;refine⟨_,rfl,_,S.cell 4 rfl rfl,(TL (T.grown S.Ar) t (by omega)).mono ?_⟩;rintro _ w3 ⟨_,rfl,B3,hO⟩;have S:=S.grown B3;let Y:Nat->List It:=λ _=>[It.cells q0 #[.pointer (some ⟨bc,0,none⟩)] ty.A3,It.cells q1 #[.slice na ns.length nc] ty.Co,It.row ty.string 1 na ns.length nc (ns.map Value.string),It.cells q2 #[.string t] ty.string];have S:ST w0 w3 (It.cells b4 #[.int .i64 0,.int .i64 0] ty.AZ :: (Y 0++(BV bc ca cc pa pc bm n C++H))):=S;have cB:∀ {wx:World},(∀ i rows,¬ Sh C ns (bl t) i rows)->ST w0 wx (It.cells b4 #[.int .i64 0,.int .i64 0] ty.AZ :: (Y 0++(BV bc ca cc pa pc bm n C++H))) ->
   Calls Tryz.prog f.HE #[.int .i64 2] wx (λ x w'=>∃ p:Int,∃ q:Int,∃(r:Option Addr) (rl rc:Nat),x=.returned (.tuple #[.agg #[.int .i64 p,.int .i64 q],.slice r rl rc]) /\
   DY ⟨b4,0,none⟩ (.int .i64 p) (λ w=>DY ⟨b4,1,none⟩ (.int .i64 q) (λ w=>∃ p':Int,w.cell? ⟨b4,0,none⟩=some (.int .i64 p')/\∃ q':Int,w.cell? ⟨b4,1,none⟩=some (.int .i64 q')/\VR w0 H bc bm (N+1) (Aeo C ns t) (.tuple #[.agg #[.int .i64 p',.int .i64 q'],.slice r rl rc]) w) w) w'):=λ {wx} aP S =>
  Ej S 2 λ w' S=>⟨(2,0),[],C,none,ca,cc,pa,pc,n,.inl ⟨aP,rfl,rfl,rfl⟩,rfl,bh,by omega,Eh (S.drop 4)⟩
 rcases hO with ⟨g,p,cs,aR,n',rfl,hg,hA,aK,hI,huniq⟩ | ⟨rfl,aP⟩ | ⟨rfl,hd,aP⟩;rotate_left
 ·refine⟨_,_,rfl,S.draw λ w4 _ S=>?_⟩;have bL:∀ i rows,¬ Sh C ns (bl t) i rows:=λ i rows h=>by
   obtain⟨_,_,hd⟩:=h.2.2.1.pre h.2.1;exact aP hd
  exact Aa (λ _=>cB bL S) (λ _=>Ah (λ _=>cB bL S) (λ h=>by cases h))
 ·refine⟨_,_,rfl,S.draw λ w4 _ S=>?_⟩;have bL:∀ i rows,¬ Sh C ns (bl t) i rows:=λ i rows h=>aP _ _ h.2.1 h.2.2.1;exact Aa (λ _=>cB bL S) (λ _=>Ah (λ _=>cB bL S) (λ h=>by cases h))
 obtain⟨rows,cL⟩:∃ rows,rows=rowsOf (rws aR) n':=⟨_,rfl⟩;rw [<- cL] at aK hI huniq;have cm:n'=rows.length:=(huniq cs rows aK hI).2.2.1;have qT:∀ i r,Sh C ns (bl t) i r->C.AM=cs/\r=rows:=λ i r h=>by
  obtain⟨e1,e2,_,_⟩:=huniq _ _ h.2.1 h.2.2.1;exact⟨e1,e2⟩
 have kx:rows.length<=1024:=aK.len;refine⟨_,_,rfl,S.draw λ w4 B4 S=>?_⟩;cases hf:Pv C.parts ns with
 | none =>
  have bL:∀ i rows,¬ Sh C ns (bl t) i rows:=λ i rows h=>by have:=h.1;rw [hf] at this;cases this
  rw [WX,hf];exact Aa (λ _=>cB bL S) (λ h=>absurd (by decide) h)
 | some i =>
 have qC:=(LC (i:=i) (ps:=C.parts) (ns:=ns) (by omega)).1 (NS hf).1;have cD:=qC.1;rw [WX,hf];simp only;refine Aa (λ h=>by omega) (λ _=>Ah (λ h=>absurd rfl h) (λ _=>?_));have hg4:w4.cell? g=some (.pointer (some p)):=by
  have:=Ai.AA (F:=λ _=>False) B4;exact this.cell hg (by simp)
 have hA4:=hA.grown B4;refine⟨_,S.cell 1 rfl rfl,_,_,_,S.cell 5 rfl rfl,(AhH hg4 hA4).mono ?_⟩;rintro _ aY ⟨_,rfl,a25,tV,rfl,su⟩;have S:=S.grown su.Ar;have bN:cs.length<=16:=(A6 aK.right).2;refine⟨_,_,_,rfl,S.cell 5 rfl rfl,S.cell 1 rfl rfl,(Kp (su.rd 0 rfl) (S.rd 6 rfl) (by omega)).mono ?_⟩;rintro _ bK ⟨_,rfl,ic,rfl⟩;have S:=S.grown ic;refine⟨_,rfl,As (Aa (λ he=>?_) (λ he=>cB (λ i r h=>he (qT i r h).1.symm) S))⟩;subst he;have yV:C.parts.length<=pc:=(S.rw 7 rfl).le;have ew:IntKind.i64.wrap ((i:Int)+(ns.length:Int))=((i+ns.length:Nat):Int):=by rw [wrap_i64 (by omega) (by omega)];omega
 refine⟨_,S.cell 1 rfl rfl,_,_,_,S.cell 5 rfl rfl,_,_,_,S.cell 2 rfl rfl,?_⟩;rw [ew];simp only [Ale];have lx:=Ac B4 (Ac su.Ar ic);have vG:bK.cell? g=some (.pointer (some p)):=(Ai.AA (F:=λ _=>False) lx).cell hg (by simp);refine⟨⟨by omega,by omega,by omega⟩,(Adt vG (hA.grown lx)).mono ?_⟩;rintro _ cp ⟨_,rfl,rfl,e16⟩;subst e16;have pv:(Td C.parts i ns.length).length=ns.length:=by rw [Td,Al7,AlE];omega
 have uf:∀ p∈Td C.parts i ns.length,p.2<=1024:=λ p hp=>(hC.parts p (Am1 (Amd hp))).2.2;refine⟨_,rfl,S.cell 2 rfl rfl,S.cell 5 rfl rfl,S.cell 1 rfl rfl,?_⟩;rw [show i+ns.length-i=(Td C.parts i ns.length).length by rw [pv];omega];refine (Ys (AcI (S.rd 7 rfl) i ns.length pc (by omega)) (by omega) uf).mono ?_;rintro _ cP ⟨_,rfl,rfl,oC⟩;have S:=S.grown oC;refine⟨_,rfl,Ah (λ h=>cB (λ i' r h'=>?_) S) (λ heq=>?_)⟩
 ·obtain⟨g1,_,_,g4⟩:=h';rw [hf] at g1;cases g1;obtain⟨_,rfl⟩:=qT _ _ ⟨hf,‹_›,‹_›,g4⟩;omega
 have hM:Sh C ns (bl t) i rows:=⟨hf,aK,hI,by omega⟩;obtain⟨nm,bz⟩:∃ nm,nm=Fj t:=⟨_,rfl⟩;refine⟨λ st wx=>∃ b,st=[.pointer (some ⟨b,0,none⟩)]/\ST cP wx [It.cells b #[.string nm,.string t] ty.Gx],?_,?_⟩
 ·refine (ST.start cP).draw λ fD iN P=>⟨_,(S.grown iN).cell 4 rfl rfl,_,(S.grown iN).cell 4 rfl rfl,?_,?_⟩
  ·refine (G5 (T.grown (S.grown iN).Ar) t (by omega)).mono ?_;rintro _ iM ⟨_,rfl,rfl,ig⟩;have P:=P.grown ig;have S:=S.grown P.Ar;rw [<- bz];exact⟨_,rfl,S.cell 4 rfl rfl,P.An λ tK fp _ ij P=>⟨(S.grown ij).cell 4 rfl rfl,P.BP 0 rfl (aC:=#[.string nm,.string ⟨#[]⟩]) (by simp) rfl λ fE P=>P.BP 0 rfl (aC:=#[.string nm,.string t]) (by simp) rfl λ gQ P=>⟨tK,rfl,P⟩⟩⟩
  ·refine P.An λ zh kE _ _ P=>⟨(S.grown P.Ar).cell 4 rfl rfl,(S.grown P.Ar).cell 4 rfl rfl,(G5 (T.grown (S.grown P.Ar).Ar) t (by omega)).mono ?_⟩;rintro _ lB ⟨_,rfl,rfl,oD⟩;have P:=P.grown oD;rw [<- bz];exact⟨_,rfl,(S.grown P.Ar).cell 4 rfl rfl,P.BP 0 rfl (aC:=#[.string nm,.string ⟨#[]⟩]) (by simp) rfl λ oB P=>P.BP 0 rfl (aC:=#[.string nm,.string t]) (by simp) rfl λ kF P=>⟨zh,rfl,P⟩⟩
 have z7:=Ac lx oC;rintro _ eK ⟨bf,aA,P⟩;cases aA;have xL:=Ac z7 P.Ar;have S:=S.join P;clear P;have pN:∀ {wx:World},Below eK.heap.size eK wx->wx.cell? g=some (.pointer (some p))/\KT wx p C.AM aR n':=λ B=>⟨(Ai.AA (F:=λ _=>False) (Ac xL B)).cell hg (by simp),hA.grown (Ac xL B)⟩;refine S.draw λ kG xK S=>⟨_,S.cell 2 rfl rfl,_,S.cell 2 rfl rfl,_,_,_,S.cell 6 rfl rfl,⟨by omega,by omega,by omega⟩,_,S.cell 0 rfl rfl,_,S.cell 2 rfl rfl,_,_,_,S.cell 6 rfl rfl,_,_,_,S.cell 3 rfl rfl,?_⟩;rw [ew];simp only [Ale,AmE];refine⟨⟨by omega,by omega,by omega⟩,(Adt (pN xK).1 (pN xK).2).mono ?_⟩;rintro _ cQ ⟨_,rfl,rfl,e32⟩;subst e32;rw [cm];refine⟨_,rfl,S.cell 3 rfl rfl,S.cell 6 rfl rfl,S.cell 2 rfl rfl,S.cell 0 rfl rfl,S.cell 6 rfl rfl,S.cell 2 rfl rfl,S.cell 2 rfl rfl,S.An λ zo ia _ _ S=>⟨S.cell 4 rfl rfl,S.cell 7 rfl rfl,S.cell 3 rfl rfl,S.cell 7 rfl rfl,S.cell 3 rfl rfl,S.cell 3 rfl rfl,S.An λ zq qx _ _ S=>⟨S.cell 4 rfl rfl,?_⟩⟩⟩
 have et:(C.parts.take i).length=i:=by rw [Al7];omega
 have ed:(C.parts.drop (i+ns.length)).length=C.parts.length-(i+ns.length):=by rw [AlE]
 obtain⟨o9,hps3⟩:∃ o9:List WK,o9=[(Cm pa 0 pc 2,pc,C.parts.take i),(some ⟨zo,0,none⟩,1,[(nm,rows.length)]),(Cm pa (i+ns.length) pc 2,pc-(i+ns.length),C.parts.drop (i+ns.length))]:=⟨_,rfl⟩;obtain⟨bB,hps'⟩:∃ bB:List H8,bB=AaI C.parts i ns.length (nm,rows.length):=⟨_,rfl⟩;have lH:Fc o9=bB:=by rw [hps3,hps'];simp [Fc,AaI]
 have bM:bB.length<=257:=by
  rw [hps',AaI];simp only [Alb,et,ed,Ald,Amp];omega
 have oo:Rd qx (some ⟨zq,0,none⟩) (o9.map U8):=by
  have h:=S.GD 0 rfl;rw [hps3];simp only [List.map_cons,List.map_nil,U8,et,ed];exact h
 have dG:∀ p∈o9,Rd qx p.1 (Bp p.2.2):=λ p hp=>by
  rw [hps3] at hp;simp only [List.mem_cons,List.not_mem_nil,or_false] at hp;rcases hp with rfl | rfl | rfl
  ·have:=AcI (S.rd 10 rfl) 0 i pc (by omega);simpa [Td] using this
  ·exact S.GD 1 rfl
  ·have:=AcI (S.rd 10 rfl) (i+ns.length) (C.parts.length-(i+ns.length)) pc (by omega);rwa [Td,AlK (by omega)] at this
 have qK:o9.length=3:=by rw [hps3];rfl
 have iT:=AbU (c:=3) o9 oo dG (by omega) (by rw [lH];omega);rw [qK,lH] at iT;refine iT.mono ?_;rintro _ xG ⟨_,rfl,oJ,oP,rfl,zS⟩;have S:=S.join zS;have cr:∀ {wx:World} {b:Nat} {X1 X2 X3 X4 X5 X6 X7 X8 X9:It},ST w0 wx (It.cells b #[.string nm,.string t] ty.Gx :: Dl oJ oP bB :: X1 :: X2 :: X3 :: X4 :: X5 :: X6 :: X7 :: X8 :: It.cells bc #[.slice ca C.AM.length cc,.slice oJ bB.length oP,.map (some bm)] ty.Fu :: CK ca cc C.AM :: X9 :: It.Yt Tryz.prog ty.int64 bm n (W0 C.k) :: H) ->
   VR w0 H bc bm (N+1) (Aeo C ns t) (.tuple #[.agg #[.int .i64 0,.int .i64 (bB.length:Int)],.slice (some ⟨b,0,none⟩) 1 1]) wx:=λ {wx b X1 X2 X3 X4 X5 X6 X7 X8 X9} S=>by
  have S:=S.I2 0 rfl (.refl _ _) (It.rd (some ⟨b,0,none⟩) (Bt [(nm,t)])) (S.GD 0 rfl) (λ k hk=>.inl hk);have S:ST w0 wx (It.rd (some ⟨b,0,none⟩) (Bt [(nm,t)]) :: Dl oJ oP bB :: It.cells bc #[.slice ca C.AM.length cc,.slice oJ bB.length oP,.map (some bm)] ty.Fu :: CK ca cc C.AM :: It.Yt Tryz.prog ty.int64 bm n (W0 C.k) :: H) :=
   S.sub (.cons_cons _ (.cons_cons _ (.cons _ (.cons _ (.cons _ (.cons _ (.cons _ (.cons _ (.cons _ (.cons _ (.cons_cons _ (.cons_cons _ (.cons _ (.cons_cons _ (AmX _)))))))))))))))
  have S:=((S.pull 3 rfl).pull 3 rfl).pull 2 rfl;exact⟨(0,bB.length),[(nm,t)],{ C with parts:=bB },some ⟨b,0,none⟩,ca,cc,oJ,oP,n,.inr ⟨i,rows,hM,by rw [<- bz,hps'],rfl,by rw [<- bz]⟩,rfl,bh,by omega,S⟩
 refine⟨_,_,_,rfl,S.cell 5 rfl rfl,S.BP 9 rfl (i:=1) (aC:=#[.slice ca C.AM.length cc,.slice oJ bB.length oP,.map (some bm)]) (by simp) rfl λ sM S=>S.draw λ ib _ S=>⟨_,S.cell 5 rfl rfl,_,_,_,S.cell 9 rfl rfl,_,S.cell 3 rfl rfl,_,S.cell 3 rfl rfl,?_,?_⟩⟩
 ·exact S.An λ b85 qy _ _ S=>⟨S.cell 10 rfl rfl,S.cell 6 rfl rfl,S.BP 5 rfl (aC:=#[.int .i64 0,.int .i64 0]) (by simp) rfl λ kH S=>S.BP 5 rfl (aC:=#[.int .i64 0,.int .i64 (bB.length:Int)]) (by simp) rfl λ xH S=>⟨_,S.cell 5 rfl rfl,_,S.cell 5 rfl rfl,cr S⟩⟩
 ·exact S.BP 4 rfl (aC:=#[.int .i64 0,.int .i64 0]) (by simp) rfl λ qz S=>S.BP 4 rfl (aC:=#[.int .i64 0,.int .i64 (bB.length:Int)]) (by simp) rfl λ lp S=>⟨⟨S.cell 3 rfl rfl,S.cell 3 rfl rfl⟩,S.An λ b88 yn _ _ S=>⟨_,S.cell 5 rfl rfl,_,S.cell 5 rfl rfl,cr S⟩⟩
end
def Aat(l:List UInt8)(at_:Nat):Option ((List ByteArray × ByteArray) × Nat) :=
 (Oa l 2 256 at_).bind λ n=>(Dy (Sw l) n.1 n.2).bind λ q=>(BD l (q.2:Int) 262144).map λ t=>((q.1,BC t.1),t.2)
def Ajv(C:BX)(l:List UInt8)(d:Nat × Nat)(fs:List Jq)(C':BX):Prop :=
 (∃ x,Aat l 1=some (x,l.length)/\Aeo C x.1 x.2 d fs C')\/((∀ x,Aat l 1≠some (x,l.length))/\d=(220,0)/\fs=[]/\C'=C)
section
variable {w0 w:World}{H:List It}{b:Nat}{a:Option Addr}{c:Nat}{l:List UInt8}{bc bm n N cc pc:Nat}{ca pa:Option Addr}{C:BX}
set_option maxHeartbeats 2000000 in
theorem AgP(T:I5 w0)(S:ST w0 w (EV b a l.length c 1 false :: It.rd a (l.map Ag) :: (BV bc ca cc pa pc bm n C++H)))(hc:l.length<=c)(hs:l.length<=140737488355328)(hC:Nc C)(bh:ca=none↔C.AM=[])(hN:n<=N) :
  Calls Tryz.prog f.F8 #[.pointer (some ⟨bc,0,none⟩),.pointer (some ⟨b,0,none⟩)] w (AG (AbW w0 H bc bm N b a l.length c C (Ajv C l))):=by
 apply R.Hg
 delta R.A R.Ci R.Ct R.D R.F R.I R.J R.Ks R.Ls R.N R.O R.P R.Qi R.S R.Am R.T R.W;try dsimp only [R.Ps]
 refine S.An λ b3 w1 _ _ S=>S.An λ b4 w2 _ _ S=>?_;let L:Nat->Bool->Option Addr->Nat->List ByteArray->List It:=λ at_ bad na nc ns=>It.row ty.string 1 na ns.length nc (ns.map Value.string) :: It.cells b4 #[.slice na ns.length nc] ty.Co :: It.cells b3 #[.pointer (some ⟨bc,0,none⟩)] ty.A3 :: EV b a l.length c at_ bad :: It.rd a (l.map Ag) :: (BV bc ca cc pa pc bm n C++H);have S:ST w0 w2 (L 1 false none 0 []):=S.nil ty.string 1;refine (OG S 3 4 rfl rfl hc hs 2 256 (by decide)).mono ?_;rintro _ w3 ⟨_,rfl,np,aL,b1,rfl,S,G1,hz1⟩;have kA:=Ai9 G1 hz1;refine⟨_,rfl,λ st wx=>∃(i at_:Nat) (bad:Bool) (na:Option Addr) (nc:Nat) (ns:List ByteArray),st=[.int .i64 (i:Int)]/\i<=np/\ns.length=i/\ST w0 wx (L at_ bad na nc ns)/\Sf b1 bad (Dy (Sw l) i aL) (ns,at_),λ st _=>match st with
  | [.int _ i]=>np-i.toNat
  | _=>0,⟨0,aL,b1,none,0,[],rfl,by omega,rfl,S,Sf.same _ _⟩,?_⟩
 clear S;rintro _ w4 ⟨i,aZ,b2,na,nc,ns,aA,hi,bn,S,G2⟩;cases aA;refine Aa (λ aB=>?_) (λ aI=>?_)
 ·refine S.draw λ w5 _ S=>⟨_,_,_,S.cell 1 rfl rfl,(Ag5 S 3 4 rfl rfl hc hs).mono ?_⟩;rintro _ w6 ⟨_,rfl,nm,bH,p9,rfl,S,G3⟩;refine⟨_,rfl,S.cell 1 rfl rfl,S.An λ dk w7 _ _ S=>⟨S.cell 2 rfl rfl,?_⟩⟩;have j':(ns.map Value.string).length=ns.length:=by simp
  refine S.app 1 rfl VD rfl (by omega) (by omega) (news:=[.string nm]) (S.GD 0 rfl) (mm:=1) rfl (by simp;rfl) (by omega) λ a' c' w8 S=>⟨_,_,_,rfl,?_⟩;have e1:ns.length+1=(ns++[nm]).length:=by simp
  have e2:ns.map Value.string++[.string nm]=(ns++[nm]).map Value.string:=by simp
  rw [e1,e2] at S;rw [e1];refine S.BP 2 rfl (aC:=#[.slice a' (ns++[nm]).length c']) (by simp) rfl λ w9 S=>?_;rw [Ae (by omega)];exact⟨⟨i+1,bH,p9,a',c',ns++[nm],rfl,by omega,by simp [bn],S.drop 1,G2.bind (g:=λ q=>(Sw l q.2).map λ x=>(q.1++[x.1],x.2)) (G3.map (λ x=>(ns++[x.1],x.2)))⟩,by simp only [Ale];omega⟩
 obtain rfl:i=np:=by omega
 refine (Abd S 3 4 rfl rfl hc hs 262144).mono ?_;clear S;rintro _ bV ⟨_,rfl,t,bH,p9,rfl,S,G3⟩;refine⟨_,rfl,S.An λ lF aY _ _ S=>S.BP 0 rfl (aC:=#[.string (BC t)]) (by simp) rfl λ bK S=>?_⟩;have GC:Sf false p9 (Aat l 1) ((ns,BC t),bH):=G1.bind (g:=λ n=>(Dy (Sw l) n.1 n.2).bind λ q=>(BD l (q.2:Int) 262144).map λ t=>((q.1,BC t.1),t.2))
  (G2.bind (g:=λ q=>(BD l (q.2:Int) 262144).map λ t=>((q.1,BC t.1),t.2)) (G3.map (λ t=>((ns,BC t.1),t.2))))
 have S:ST w0 bK (EV b a l.length c bH p9 :: ([It.cells lF #[.string (BC t)] ty.string,It.row ty.string 1 na ns.length nc (ns.map Value.string),It.cells b4 #[.slice na ns.length nc] ty.Co,It.cells b3 #[.pointer (some ⟨bc,0,none⟩)] ty.A3,It.rd a (l.map Ag)]++(BV bc ca cc pa pc bm n C++H))):=S.pull 4 rfl;refine⟨bH,p9,f.Fb,#[.pointer (some ⟨b3,0,none⟩),.pointer (some ⟨b4,0,none⟩),.pointer (some ⟨lF,0,none⟩)],_,pc,cc,pa,ca,n,rfl,by kernel_rfl,S,bh,hN,λ h=>.inr ⟨λ x e=>?_,rfl,rfl,rfl⟩,λ hb ha wx S9=>?_⟩
 ·obtain⟨h1,h2⟩:=GC.some e;rcases h with h | h
  ·rw [h1] at h;cases h
  ·exact h (congrArg Am2 h2)
 ·subst hb;subst ha;obtain⟨_,cw⟩:=GC.ok;have g2:=G3.ok.1;subst g2;have g1:=G2.ok.1;subst g1;have h2:=(HP G1.ok.2).2;have ht:=(R9 G3.ok.2).2.1;have S9:ST w0 wx (It.cells b3 #[.pointer (some ⟨bc,0,none⟩)] ty.A3 :: It.cells b4 #[.slice na ns.length nc] ty.Co :: It.row ty.string 1 na ns.length nc (ns.map Value.string) :: It.cells lF #[.string (BC t)] ty.string :: (BV bc ca cc pa pc bm n C++H)) :=
   ((((S9.drop 1).pull 1 rfl).pull 2 rfl).pull 3 rfl).sub (.cons_cons _ (.cons_cons _ (.cons_cons _ (.cons_cons _ (.cons _ (AmX _))))))
  refine (Ae3 (N:=N) T S9 (by omega) (by omega) (by rw [A1];omega) hC bh hN).mono ?_;rintro _ w' ⟨v,rfl,d,fs,C',fa,fe,fF,kC,kD,n2,h3,h4,h5,h6,h7⟩;exact⟨v,rfl,d,fs,C',fa,fe,fF,kC,kD,n2,.inl ⟨_,cw,h3⟩,h4,h5,by omega,h7⟩
end
end Go.Proofs.YtpnaifmmggnimaaGreatDoor
