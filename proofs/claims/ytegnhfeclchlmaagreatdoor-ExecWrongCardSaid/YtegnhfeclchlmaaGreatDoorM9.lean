/-
  Texts of this claim, laid one behind the other by a program of mine (install.py): Z.SortC, Z.Same, Z.Uses, Z.Uses2, Z.Name, Z.Fits, Z.Fits2, Z.Fits3, Z.RShow, Z.Txt, Z.Txt2, Z.Txt3, Z.Parts, Z.Qtx, Z.Rtx, Z.Alk, Z.Ld, Z.Pl1, Z.Pl2, Z.Pl3, Z.SortI, Z.Pl4.
-/
import Derived.Test.YtegnhfeclchlmaaGreatDoorM8
import Derived.Test.YtegnhfeclchlmaaGreatDoorM4
import Derived.Sort.OwnSorted
import Derived.Lib.SlicesCompact
import Derived.Test.YtegnhfeclchlmaaGreatDoorM6
import Derived.Test.YtegnhfeclchlmaaGreatDoorM7
import Derived.Test.YtegnhfeclchlmaaGreatDoorM3
import Derived.Lib.Join
namespace Go.Proofs.YtegnhfeclchlmaaGreatDoor
open _root_.Go.Sort renaming ahead -> AkH, grow -> AkG
open _root_.List renaming length_map -> AjM, mem_singleton -> Akn, replicate -> AjJ
set_option maxRecDepth 100000
open Go.Dn Go.Proofs
open Go.RowKit (Below)
open Go.Sort (putRow putCells Holds)
set_option linter.unusedVariables false
section
variable {α:Type}[Inhabited α]
theorem XQ(enc:α->Value)(w:World)(g m:Nat)(d:Array α)(os:Array Obj){k:Nat}(hk:k<w.heap.size):(AkG (putRow enc (AkH w m) g 0 d) os).heap[k]?=if g=k then (w.heap[k]?).map (Go.Sort.onCells (putCells enc 0 d)) else w.heap[k]?:=by
 simp only [AkG,putRow,Go.Sort.mapBlock,AkH];rw [Array.getElem?_append_left (by simpa using hk),Array.getElem?_modify]
theorem JZ(enc:α->Value)(w:World)(g m:Nat)(d:Array α)(os:Array Obj):Aq (λ k=>some g=some k) w (AkG (putRow enc (AkH w m) g 0 d) os) where
 os:=rfl
 tape:=rfl
 output:=rfl
 size:=by simp [AkG,putRow,Go.Sort.mapBlock,AkH]
 block:=λ k hk hn=>by rw [XQ enc w g m d os hk,if_neg (λ e=>hn (by rw [e]))]
theorem AeA(enc:α->Value)(cur:Array Value)(ts:List α){k:Nat}(hk:k<=ts.length)(h:ts.length<=cur.size):(putCells enc 0 ts.toArray cur).toList.take k=(ts.take k).map enc:=by
 apply List.ext_getElem?;intro j;by_cases hj:j<k
 ·have rv:j<ts.length:=by omega
  rw [List.getElem?_take_of_lt hj,Array.getElem?_toList];simp [putCells,hj,rv,show j<cur.size by omega]
 ·rw [List.getElem?_take_eq_none (by omega),List.getElem?_eq_none (by simp;omega)]
theorem Qh(enc:α->Value){w:World}{e:TypeId}{g n c m:Nat}{xs:List Value}{os:Array Obj}(ts:List α){k:Nat}(hr:Row w e 1 (some ⟨g,0,none⟩) n c xs)(ht:ts.length<=n)(hk:k<=ts.length) :
  Row (AkG (putRow enc (AkH w m) g 0 ts.toArray) os) e 1 (some ⟨g,0,none⟩) k c ((ts.take k).map enc):=by
 rcases hr.2 with ⟨h,_⟩ | ⟨g',cur,aS,hh,h1,h2,h3,h4⟩
 ·cases h
 ·cases aS;refine⟨by simp;omega,.inr ⟨g,putCells enc 0 ts.toArray cur,rfl,?_,by omega,h2,by simp [putCells,h3],?_⟩⟩
  ·rw [XQ enc w g m _ os (Array.getElem?_eq_some_iff.1 hh).1,if_pos rfl,hh];rfl
  ·rw [Nat.mul_one];exact AeA enc cur ts hk (by omega)
theorem JW(enc:α->Value){w:World}{e:TypeId}{g n c:Nat}{ts:List α}(hr:Row w e 1 (some ⟨g,0,none⟩) n c (ts.map enc)):Holds enc w g 0 ts.toArray/\g<w.heap.size/\ts.length=n/\n<=c:=by
 rcases hr.2 with ⟨h,_⟩ | ⟨g',cur,aS,hh,h1,h2,h3,h4⟩
 ·cases h
 ·cases aS;have hl:ts.length=n:=by have:=hr.1;simpa using this
  refine⟨λ j hj=>?_,(Array.getElem?_eq_some_iff.1 hh).1,hl,h1⟩;have bh:j<ts.length:=by simpa using hj
  refine⟨?_,by simp [World.frozen?,hh]⟩;have e1:(cur.toList.take (n*1))[j]?=(ts.map enc)[j]?:=by rw [h4]
  rw [List.getElem?_take_of_lt (by omega)] at e1;simp only [World.cell?,hh,Nat.zero_add,Option.isSome_none,Bool.false_eq_true,if_false];rw [<- Array.getElem?_toList,e1];simp [bh]
end
theorem YZ{α:Type}[Inhabited α][DecidableEq α](le:α->α->Prop)(tr:∀ a b c,le a b->le b c->le a c)(an:∀ a b,le a b->le b a->a=b)(d:Array α)(hs:∀ i j,i<j->j<d.size->le d[i]! d[j]!) :
  ∀ m,m<=d.size->(Lib.compactUpTo d m).Pairwise (λ a b=>le a b/\a≠b)/\(∀ x,x∈Lib.compactUpTo d m↔∃ j,j<m/\d[j]! = x)/\(∀ x∈Lib.compactUpTo d m,0<m->x=d[m-1]! \/ le x d[m-1]!):=by
 intro m
 induction m with
 | zero=>intro _;simp [Lib.compactUpTo]
 | succ m ih =>
  intro hm;obtain⟨h1,h2,h3⟩:=ih (by omega);rw [Lib.compactUpTo_succ];have gw:∀ x,(∃ j,j<m/\d[j]! = x)->le x d[m]! := by
   rintro x ⟨j,hj,rfl⟩;exact hs j m hj (by omega)
  by_cases hk:Lib.keeps d m=true
  ·rw [if_pos hk];refine⟨List.pairwise_append.2 ⟨h1,by simp,λ a ha b hb=>?_⟩,λ x=>?_,λ x hx _=>?_⟩
   ·rw [Akn.1 hb];have du:=(h2 a).1 ha;refine⟨gw a du,λ e=>?_⟩;have eh:0<m:=by obtain⟨j,hj,_⟩:=du;omega
    have aV:d[m]! ≠ d[m-1]! := by
     intro e2;rw [Lib.keeps_neg eh e2] at hk;cases hk
    have hle:le d[m-1]! d[m]! := hs (m-1) m (by omega) (by omega);rcases h3 a ha eh with h | h
    ·exact aV (by rw [<- e,h])
    ·exact aV (by rw [e] at h;exact an _ _ h hle)
   ·rw [List.mem_append,Akn,h2];constructor
    ·rintro (⟨j,hj,h⟩ | rfl)
     ·exact⟨j,by omega,h⟩
     ·exact⟨m,by omega,rfl⟩
    ·rintro⟨j,hj,h⟩;rcases Nat.lt_or_ge j m with h' | h'
     ·exact .inl ⟨j,h',h⟩
     ·obtain rfl:j=m:=by omega
      exact .inr h.symm
   ·rw [Nat.add_sub_cancel];rcases List.mem_append.1 hx with hx | hx
    ·exact .inr (gw x ((h2 x).1 hx))
    ·exact .inl (Akn.1 hx)
  ·rw [if_neg hk,List.append_nil];have eh:0<m:=by
    apply Classical.byContradiction;intro h0;obtain rfl:m=0:=by omega
    exact hk (Lib.keeps_lt_one d 0 (by omega))
   have he:d[m]! = d[m-1]! := by
    apply Classical.byContradiction;intro h;exact hk (Lib.keeps_pos h)
   refine⟨h1,λ x=>?_,λ x hx _=>?_⟩
   ·rw [h2];constructor
    ·rintro⟨j,hj,h⟩;exact⟨j,by omega,h⟩
    ·rintro⟨j,hj,h⟩;rcases Nat.lt_or_ge j m with h' | h'
     ·exact⟨j,h',h⟩
     ·obtain rfl:j=m:=by omega
      exact⟨j-1,by omega,by rw [<- he];exact h⟩
   ·rw [Nat.add_sub_cancel,he];exact h3 x hx eh
theorem Ja{α:Type}[Inhabited α][DecidableEq α](le:α->α->Prop)(tr:∀ a b c,le a b->le b c->le a c)(an:∀ a b,le a b->le b a->a=b)(l:List α)(hs:l.Pairwise le) :
  (Lib.compact l).Pairwise (λ a b=>le a b/\a≠b)/\∀ x,x∈Lib.compact l↔x∈l:=by
 have hg:∀ i (hi:i<l.length),l.toArray[i]! = l[i]:=λ i hi=>by simp [hi]
 obtain⟨h1,h2,_⟩:=YZ le tr an l.toArray (λ i j cV hj=>by
  have bh:j<l.length:=by simpa using hj
  rw [hg i (by omega),hg j bh];exact List.pairwise_iff_getElem.1 hs i j (by omega) bh cV) l.length (by simp)
 refine⟨h1,λ x=>?_⟩;unfold Lib.compact;rw [h2,List.mem_iff_getElem];constructor
 ·rintro⟨j,hj,h⟩;exact⟨j,hj,by rw [<- hg j hj];exact h⟩
 ·rintro⟨j,hj,h⟩;exact⟨j,hj,by rw [hg j hj];exact h⟩
theorem Xc(w:World):AkG w #[]=w:=by cases w;simp [AkG]
theorem Nk{α:Type}{H:List α}{n:Nat}{x:α}(hn:H[n]?=some x):H.set n x=H:=by
 obtain⟨h,rfl⟩:=List.getElem?_eq_some_iff.1 hn;exact List.set_getElem_self h
theorem Ql(xs:List ByteArray):xs.map Value.string=(xs.map bl).map encStr:=by
 rw [List.map_map];rfl
theorem Np(ts:List (List UInt8)):(ts.map Dz).map bl=ts:=by
 rw [List.map_map];have:(bl ∘ Dz)=id:=by funext x;exact CM x
 rw [this,List.map_id]
section
variable {w0 w:World}{H:List It}{a:Option Addr}{c:Nat}
theorem Aet(S:ST w0 w H)(n:Nat){xs:List ByteArray}(hn:H[n]?=some (Du a c xs))(hl:xs.length<=1000000):Calls Tryz.prog f.Dt #[.slice a xs.length c] w (AD λ v w'=>v=.tuple #[]/\∃ ys:List ByteArray,ys.length=xs.length/\ys.map bl=(xs.map bl).mergeSort (λ x y=>decide (x<=y)) /\
  ST w0 w' (H.set n (Du a c ys))):=by
 have hR:Row w ty.string 1 a xs.length c (xs.map Value.string):=S.get n hn;have cY:H.set n (Du a c xs)=H:=Nk hn;have bS:xs=[]->Calls Tryz.prog f.Dt #[.slice a xs.length c] w (AD λ v w'=>v=.tuple #[]/\∃ ys:List ByteArray,ys.length=xs.length/\ys.map bl=(xs.map bl).mergeSort (λ x y=>decide (x<=y))/\ST w0 w' (H.set n (Du a c ys))):=by
  rintro rfl;refine (Tryz.slices_Sort_string_none a c w).mono ?_;rintro _ w' ⟨rfl,rfl⟩;exact⟨_,rfl,rfl,[],rfl,by simp,by rw [cY];exact S⟩
 rcases a with _ | ⟨g,o,idx⟩
 ·refine bS ?_;rcases hR.2 with ⟨_,h,_⟩ | ⟨_,_,h,_⟩
  ·exact List.eq_nil_of_length_eq_zero h
  ·cases h
 ·have iT:o=0/\idx=none:=by
   rcases hR.2 with ⟨h,_⟩ | ⟨_,_,h,_⟩
   ·cases h
   ·cases h;exact⟨rfl,rfl⟩
  obtain⟨rfl,rfl⟩:=iT;have u7:=hR;rw [Ql] at hR;obtain⟨hH,hg,hlen,av⟩:=JW encStr hR;have ed:(xs.map bl).length=xs.length:=by simp
  have aT:=Tryz.slices_Sort_string g 0 c (xs.map bl) w hH hg (by rw [ed];omega);rw [ed] at aT;refine aT.mono ?_;rintro _ w' ⟨rfl,m,os,rfl⟩;have ic:((xs.map bl).mergeSort λ x y=>decide (x<=y)).length=xs.length:=by rw [List.length_mergeSort,ed]
  have gS:(((xs.map bl).mergeSort λ x y=>decide (x<=y)).map Dz).length=xs.length:=by rw [AjM,ic]
  refine⟨_,rfl,rfl,((xs.map bl).mergeSort λ x y=>decide (x<=y)).map Dz,gS,Np _,?_⟩;refine S.Sw n hn (JZ encStr w g m _ os) _ ?_ (λ k hk=>.inl hk);show Row _ ty.string 1 _ _ c _;have:=Qh encStr (m:=m) (os:=os) ((xs.map bl).mergeSort λ x y=>decide (x<=y)) (k:=xs.length) hR (by omega) (by omega);rw [List.take_of_length_le (by omega)] at this;rw [gS,Ql,Np];exact this
theorem WH(S:ST w0 w H)(n:Nat){xs:List ByteArray}(hn:H[n]?=some (Du a c xs))(hl:xs.length<=1000000):Calls Tryz.prog f.CD #[.slice a xs.length c] w (AD λ v w'=>∃ ys:List ByteArray,v=.slice a ys.length c/\ys.length<=xs.length/\ys.map bl=Lib.compact (xs.map bl) /\
  ST w0 w' (H.set n (Du a c ys))):=by
 have hR:Row w ty.string 1 a xs.length c (xs.map Value.string):=S.get n hn;have cY:H.set n (Du a c xs)=H:=Nk hn;have bS:xs=[]->Calls Tryz.prog f.CD #[.slice a xs.length c] w (AD λ v w'=>∃ ys:List ByteArray,v=.slice a ys.length c/\ys.length<=xs.length/\ys.map bl=Lib.compact (xs.map bl)/\ST w0 w' (H.set n (Du a c ys))):=by
  rintro rfl;refine (Tryz.slices_Compact_string_empty a c w).mono ?_;rintro _ w' ⟨rfl,rfl⟩;exact⟨_,rfl,[],rfl,by simp,by rfl,by rw [cY];exact S⟩
 rcases a with _ | ⟨g,o,idx⟩
 ·refine bS ?_;rcases hR.2 with ⟨_,h,_⟩ | ⟨_,_,h,_⟩
  ·exact List.eq_nil_of_length_eq_zero h
  ·cases h
 ·have iT:o=0/\idx=none:=by
   rcases hR.2 with ⟨h,_⟩ | ⟨_,_,h,_⟩
   ·cases h
   ·cases h;exact⟨rfl,rfl⟩
  obtain⟨rfl,rfl⟩:=iT;rw [Ql] at hR;obtain⟨hH,hg,hlen,av⟩:=JW encStr hR;have ed:(xs.map bl).length=xs.length:=by simp
  have aT:=Tryz.slices_Compact_string g 0 c (xs.map bl) w hH (by rw [ed];omega) (by omega);rw [ed] at aT;refine aT.mono ?_;rintro _ w' ⟨rfl,m,rfl⟩;have cF:(Lib.compact (xs.map bl)).length<=xs.length:=by
   have:=List.length_filter_le (Lib.keeps (xs.map bl).toArray) (List.range (xs.map bl).length);unfold Lib.compact Lib.compactUpTo;rw [AjM];rw [List.length_range] at this;rw [ed] at this ⊢;exact this
  have gS:((Lib.compact (xs.map bl)).map Dz).length=(Lib.compact (xs.map bl)).length:=by rw [AjM]
  refine⟨_,rfl,(Lib.compact (xs.map bl)).map Dz,by rw [gS],by omega,Np _,?_⟩;have ew:putRow encStr (AkH w m) g 0 (Lib.compact (xs.map bl)++AjJ (xs.length-(Lib.compact (xs.map bl)).length) []).toArray=AkG (putRow encStr (AkH w m) g 0 (Lib.compact (xs.map bl)++AjJ (xs.length-(Lib.compact (xs.map bl)).length) []).toArray) #[]:=(Xc _).symm;rw [ew];refine S.Sw n hn (JZ encStr w g m _ #[]) _ ?_ (λ k hk=>.inl hk);show Row _ ty.string 1 _ _ c _;have:=Qh encStr (m:=m) (os:=#[]) (Lib.compact (xs.map bl)++AjJ (xs.length-(Lib.compact (xs.map bl)).length) []) (k:=(Lib.compact (xs.map bl)).length) hR (by simp;omega) (by simp);rw [List.take_left'  rfl] at this;rw [gS,Ql,Np];exact this
end
theorem Ag8{a b:List UInt8}(h:a<=b/\a≠b):a<b:=by
 rcases Decidable.em (a<b) with h' | h'
 ·exact h'
 ·exact absurd (List.le_antisymm h.1 (List.not_lt.1 h')) h.2
theorem VN(l:List (List UInt8)):NI l (Lib.compact (l.mergeSort λ x y=>decide (x<=y))):=by
 have tr:∀ a b c:List UInt8,decide (a<=b)=true->decide (b<=c)=true->decide (a<=c)=true:=λ a b c h1 h2=>by simp only [decide_eq_true_eq] at *;exact List.le_trans h1 h2
 have ix:∀ a b:List UInt8,(decide (a<=b) || decide (b<=a))=true:=λ a b=>by simp only [Bool.or_eq_true,decide_eq_true_eq];exact List.le_total a b
 have hs:=List.pairwise_mergeSort tr ix l;have hp:=List.mergeSort_perm l (λ x y=>decide (x<=y));obtain⟨h1,h2⟩:=Ja (λ a b:List UInt8=>a<=b) (λ a b c h1 h2=>List.le_trans h1 h2) (λ a b h1 h2=>List.le_antisymm h1 h2) (l.mergeSort λ x y=>decide (x<=y)) (hs.imp λ h=>by simpa using h);exact⟨h1.imp λ h=>Ag8 h,λ x=>(h2 x).trans hp.mem_iff⟩
end Go.Proofs.YtegnhfeclchlmaaGreatDoor
namespace Go.Proofs.YtegnhfeclchlmaaGreatDoor
open _root_.Int renaming toNat_natCast -> Ajz
open _root_.List renaming mem_append -> Akk, mem_map -> Ajb
open _root_.Nat renaming le_trans -> AjD
set_option maxRecDepth 100000
open Go.Dn Go.Proofs
open Go.RowKit (Below)
set_option linter.unusedVariables false
theorem AgC(a b:AW):((a.1==b.1) && ((a.2.1==b.2.1) && ((a.2.2==b.2.2) && true)))=decide (a=b):=by
 obtain⟨k,n,s⟩:=a;obtain⟨k',n',s'⟩:=b;rw [Bool.eq_iff_iff];simp only [JS,Bool.and_true,Bool.and_eq_true,beq_iff_eq,decide_eq_true_eq,Prod.mk.injEq]
theorem KX{F:Nat->Prop}{w:World}{x:Ex}{a:Option Addr}{cap:Nat}(hx:DT F w x (An x a cap)):∃ rs,Rd w a rs/\IW F w x.ks rs/\x.ks.length<=9223372036854775807:=by
 obtain⟨a2,cap2,rs,he,aP,_,av,hmx,_,_,hkids⟩:=hx.open;have iO:a2=a/\cap2=cap:=by
  simp only [An,List.cons.injEq,Value.slice.injEq,and_true,true_and] at he;exact⟨he.1.symm,he.2.symm⟩
 obtain⟨rfl,rfl⟩:=iO;exact⟨rs,aP,hkids,AjD av (AjD hmx (by decide))⟩
theorem Aeq{l m:List Ex}{i:Nat}(h1:i<l.length)(h2:i<m.length)(h:l[i].same m[i]=false):Ex.Gt l m=false:=by
 rw [Bool.eq_false_iff,Ne,Ou];rintro rfl;rw [(Na _ _).2 rfl] at h;cases h
theorem Acx{l m:List Ex}(hl:l.length=m.length)(h:∀ i (h1:i<l.length) (h2:i<m.length),l[i].same m[i]=true):Ex.Gt l m=true:=by
 rw [Ou];exact List.ext_getElem hl λ i h1 h2=>(Na _ _).1 (h i h1 h2)
theorem Zj(l1:List Ex) (ih:∀ x∈l1,∀(y:Ex) (w:World) (a:Option Addr) (cap:Nat) (a':Option Addr) (aX:Nat),XC w x (An x a cap)->XC w y (An y a' aX) ->
   Calls Tryz.prog f.NZ #[.agg ⟨An x a cap⟩,.agg ⟨An y a' aX⟩] w (AD λ r w'=>r=.bool (x.same y)/\Below w.heap.size w w'))
  {w:World} {a1 a2:Option Addr} {c1 c2:Nat} {pq pr:List Value} {l2:List Ex} (dh:Rd w a1 pq) (dz:IW (λ _=>False) w l1 pq) (jK:l1.length<=9223372036854775807) (bU:Rd w a2 pr) (bB:IW (λ _=>False) w l2 pr) :
  Calls Tryz.prog f.Bq #[.slice a1 l1.length c1,.slice a2 l2.length c2,.func (.func f.NZ) #[] #[]] w (AD λ r w'=>r=.bool (Ex.Gt l1 l2)/\Below w.heap.size w w'):=by
 apply R.Bd
 delta R.A R.Ab R.E R.F R.G R.I R.Li R.Ls R.Lt R.N R.O R.Qi R.S R.Ae R.T R.W R.X;try dsimp only [R.Ps]
 refine As (λ h=>⟨by rw [Ex.X4 (by omega)],.refl _ _⟩) (λ hlen=>?_);have cL:l1.length=l2.length:=by omega
 refine⟨λ st w1=>∃ i:Nat,st=[.int .i64 (i:Int)]/\i<=l1.length/\(∀ j (h1:j<l1.length) (h2:j<l2.length),j<i->l1[j].same l2[j]=true)/\Below w.heap.size w w1,λ st _=>match st with | [.int _ t]=>l1.length-t.toNat | _=>0,⟨0,rfl,by omega,λ j _ _ h=>by omega,.refl _ _⟩,?_⟩;rintro t w1 ⟨i,aA,hi,aC,B1⟩;cases aA;refine Aa (λ aB=>⟨⟨by omega,aB⟩,?_⟩) (λ aM=>⟨by rw [Acx cL λ j h1 h2=>aC j h1 h2 (by omega)],B1⟩);have aE:i<l1.length:=by omega
 have eQ:i<l2.length:=by omega
 obtain⟨p,a3,aN,rfl,bF,c0,c1',jA,c3,c4,c5⟩:=QU (dh.grown B1) dz aE;refine⟨_,by rw [Ajz];exact c0,_,by rw [Ajz];exact c1',_,by rw [Ajz];exact jA,_,by rw [Ajz];exact c3,_,by rw [Ajz];exact c4,_,_,_,by rw [Ajz];exact c5,(ST.start w1).PG λ gW w8 _ S8=>⟨⟨by omega,by omega⟩,?_⟩⟩;have B8:Below w.heap.size w w8:=Ac B1 S8.Ag;obtain⟨q,a4,cap4,rfl,kS,d0,d1,d2,d3,d4,d5⟩:=QU (bU.grown B8) bB eQ;refine⟨_,by rw [Ajz];exact d0,_,by rw [Ajz];exact d1,_,by rw [Ajz];exact d2,_,by rw [Ajz];exact d3,_,by rw [Ajz];exact d4,_,_,_,by rw [Ajz];exact d5,S8.PG λ eY cB _ au=>?_⟩;have eV:Below w.heap.size w cB:=Ac B1 au.Ag;refine⟨_,au.cell 1 rfl rfl,_,au.cell 1 rfl rfl,_,au.cell 1 rfl rfl,_,au.cell 1 rfl rfl,_,au.cell 1 rfl rfl,_,_,_,au.cell 1 rfl rfl,_,au.cell 0 rfl rfl,_,au.cell 0 rfl rfl,_,au.cell 0 rfl rfl,_,au.cell 0 rfl rfl,_,au.cell 0 rfl rfl,_,_,_,au.cell 0 rfl rfl,?_⟩;refine (ih l1[i] (List.getElem_mem aE) l2[i] cB a3 aN a4 cap4 (bF.grown eV) (kS.grown eV)).mono ?_
 rintro _ cZ ⟨_,rfl,rfl,iD⟩;refine⟨_,rfl,Ap (Ao (λ h=>?_) (λ h=>⟨by rw [Aeq aE eQ h],Ac eV iD⟩))⟩;rw [Ah (by omega)];refine⟨⟨i+1,rfl,by omega,λ j h1 h2 hj=>?_,Ac eV iD⟩,?_⟩
 ·rcases Nat.lt_or_ge j i with h' | h'
  ·exact aC j h1 h2 h'
  ·obtain rfl:j=i:=by omega
   exact h
 ·show l1.length-((i+1:Nat):Int).toNat<l1.length-((i:Nat):Int).toNat;simp only [Ajz];omega
theorem Vg:∀(x y:Ex) (w:World) (a:Option Addr) (cap:Nat) (a':Option Addr) (aX:Nat),XC w x (An x a cap)->XC w y (An y a' aX) ->
  Calls Tryz.prog f.NZ #[.agg ⟨An x a cap⟩,.agg ⟨An y a' aX⟩] w (AD λ r w'=>r=.bool (x.same y)/\Below w.heap.size w w'):=by
 intro x
 induction x using Ex.ind with
 | h op nm v ks ih =>
  rintro⟨op',nm',v',ks'⟩ w a cap a' aX hx hy;obtain⟨rs,hr,hk,hn⟩:=KX hx;obtain⟨po,bE,cG,pQ⟩:=KX hy;apply R.PA
  delta R.A R.Ab R.Cb R.F R.G R.I R.Li R.Ls R.Lt R.N R.S R.T;try dsimp only [R.Ps]
  simp only [Aw];refine (ST.start w).Ak λ gW w1 _ _ S1=>S1.Ak λ dq w2 _ _ S2=>⟨_,S2.cell 1 rfl rfl,_,S2.cell 0 rfl rfl,?_⟩;have no:¬ (op=op'/\nm=nm'/\v=v')->Value.bool false=.bool ((Ex.mk op nm v ks).same (.mk op' nm' v' ks'))/\Below w.heap.size w w2:=λ h=>⟨by simp only [Ex.same,decide_eq_false h,Bool.false_and],S2.Ag⟩;refine Aj (λ h1=>⟨_,S2.cell 1 rfl rfl,_,S2.cell 0 rfl rfl,Aa (λ h2=>⟨_,S2.cell 1 rfl rfl,_,S2.cell 1 rfl rfl,_,S2.cell 1 rfl rfl,_,S2.cell 0 rfl rfl,_,S2.cell 0 rfl rfl,_,S2.cell 0 rfl rfl,?_⟩) (λ h2=>no λ h=>h2 h.2.1)⟩) (λ h1=>no λ h=>h1 h.1);rw [AgC];refine Aa (λ h3=>⟨_,_,_,S2.cell 1 rfl rfl,_,_,_,S2.cell 0 rfl rfl,(Zj ks ih (hr.grown S2.Ag) (hk.grown S2.Ag) hn (bE.grown S2.Ag) (cG.grown S2.Ag)).mono ?_⟩) (λ h3=>no λ h=>h3 h.2.2);rintro _ w3 ⟨_,rfl,rfl,B3⟩;refine⟨_,rfl,?_,(S2.grown B3).Ag⟩;change op=op' at h1;change nm=nm' at h2;change v=v' at h3;simp only [Ex.same,decide_eq_true (show op=op'/\nm=nm'/\v=v' from ⟨h1,h2,h3⟩),Bool.true_and]
  rfl
def Pb(x y:Ex):Bool:=x.formed && y.formed && x.same y
section
variable {w:World}{x y:Ex}{a a':Option Addr}{cap aX:Nat}
theorem Mn(E:Env w)(hx:XC w x (An x a cap))(hy:XC w y (An y a' aX)):Calls Tryz.prog f.AbV #[.agg ⟨An x a cap⟩,.agg ⟨An y a' aX⟩] w (AD λ r w'=>r=.bool (Pb x y)/\Below w.heap.size w w'):=by
 apply R.Pw
 delta R.A R.Ab R.Cb R.E R.F R.G R.I R.Li R.Ls R.Lt R.N R.S R.T;try dsimp only [R.Ps]
 refine (ST.start w).Ak λ gW w1 _ _ S1=>S1.Ak λ dq w2 _ _ S2=>⟨_,S2.cell 1 rfl rfl,_,S2.cell 1 rfl rfl,_,S2.cell 1 rfl rfl,_,S2.cell 1 rfl rfl,_,S2.cell 1 rfl rfl,_,_,_,S2.cell 1 rfl rfl,(Ea (E.grown S2.Ag) (hx.grown S2.Ag)).mono ?_⟩;rintro _ w3 ⟨_,rfl,rfl,B3⟩;have S3:=S2.grown B3;refine⟨_,rfl,Ao (λ h1=>⟨_,S3.cell 0 rfl rfl,_,S3.cell 0 rfl rfl,_,S3.cell 0 rfl rfl,_,S3.cell 0 rfl rfl,_,S3.cell 0 rfl rfl,_,_,_,S3.cell 0 rfl rfl,(Ea (E.grown S3.Ag) (hy.grown S3.Ag)).mono ?_⟩) (λ h1=>⟨by simp [Pb,h1],S3.Ag⟩)⟩;rintro _ w4 ⟨_,rfl,rfl,B4⟩;have S4:=S3.grown B4;refine⟨_,rfl,Ao (λ h2=>⟨_,S4.cell 1 rfl rfl,_,S4.cell 1 rfl rfl,_,S4.cell 1 rfl rfl,_,S4.cell 1 rfl rfl,_,S4.cell 1 rfl rfl,_,_,_,S4.cell 1 rfl rfl,_,S4.cell 0 rfl rfl,_,S4.cell 0 rfl rfl,_,S4.cell 0 rfl rfl,_,S4.cell 0 rfl rfl,_,S4.cell 0 rfl rfl,_,_,_,S4.cell 0 rfl rfl,(Vg x y w4 a cap a' aX (hx.grown S4.Ag) (hy.grown S4.Ag)).mono ?_⟩) (λ h2=>⟨by simp [Pb,h1,h2],S4.Ag⟩)⟩
 rintro _ w5 ⟨_,rfl,rfl,B5⟩;exact⟨_,rfl,by simp [Pb,h1,h2],(S4.grown B5).Ag⟩
end
section
variable {w:World}{x y:Ex}{a a':Option Addr}{cap aX:Nat}
end
def Nt(x:Ex):List (List UInt8):=if x.formed then x.names.map bl else []
def AhQ(x:Ex)(w w':World)(v:Value):Prop:=∃(a:Option Addr) (c:Nat) (t:List ByteArray),v=.slice a t.length c/\NI (Nt x) (t.map bl)/\Rd w' a (t.map Value.string)/\t.length<=1000000/\Below w.heap.size w w'
def Eg(l:List (Nat × Ex)):List ByteArray:=(l.filter λ p=>decide (p.2.op=1)).map λ p=>p.2.nm
theorem TY(l:List (Nat × Ex)):(Eg l).length<=l.length:=by
 unfold Eg;rw [List.length_map];exact List.length_filter_le _ _
theorem Ry(l:List (Nat × Ex))(p:Nat × Ex):Eg (l++[p])=Eg l++if p.2.op=1 then [p.2.nm] else []:=by
 unfold Eg;rw [List.filter_append,List.map_append];congr 1;by_cases h:p.2.op=1
 ·rw [if_pos h,List.filter_cons_of_pos (by simpa using h)];rfl
 ·rw [if_neg h,List.filter_cons_of_neg (by simpa using h)];rfl
theorem Mo{w:World}(E:Env w){x:Ex}{a:Option Addr}{cap:Nat}(hx:XC w x (An x a cap)):Calls Tryz.prog f.TI #[.agg ⟨An x a cap⟩] w (AD λ v w'=>∃(a:Option Addr) (c:Nat) (t:List ByteArray),v=.slice a t.length c/\NI (Nt x) (t.map bl)/\t.length<=1000000/\ST w w' [Du a c t]):=by
 apply R.Py
 delta R.A R.Ab R.Cb R.Cf R.Cn R.Cs R.E R.F R.I R.J R.Ks R.Li R.Ls R.Lt R.N R.O R.S R.Ae R.T;try dsimp only [R.Ps]
 refine (ST.start w).Ak λ b7 w1 _ _ S1=>⟨_,S1.cell 0 rfl rfl,_,S1.cell 0 rfl rfl,_,S1.cell 0 rfl rfl,_,S1.cell 0 rfl rfl,_,S1.cell 0 rfl rfl,_,_,_,S1.cell 0 rfl rfl,(Ea (E.grown S1.Ag) (hx.grown S1.Ag)).mono ?_⟩;rintro _ w2 ⟨_,rfl,rfl,B2⟩;have S2:=S1.grown B2;refine⟨_,rfl,Ap (Ao (λ hf=>?_) (λ hf=>⟨none,0,[],rfl,?_,by simp,(S2.nil ty.string 1).one⟩))⟩;rotate_left
 ·unfold Nt;rw [if_neg (by rw [hf];decide)];exact⟨.nil,λ _=>Iff.rfl⟩
 have hlen:(x.nodes 1).length<=400:=((HZ x).1 hf).2;refine S2.Ak λ gX w3 _ _ S3=>⟨_,S3.cell 1 rfl rfl,_,S3.cell 1 rfl rfl,_,S3.cell 1 rfl rfl,_,S3.cell 1 rfl rfl,_,S3.cell 1 rfl rfl,_,_,_,S3.cell 1 rfl rfl,(G0 (x:=x) (a:=a) (cap:=cap) 1).mono ?_⟩;rintro _ w4 ⟨_,rfl,bd,bx,rfl,P4⟩;have S4:=(S3.nil ty.string 1).join P4;refine⟨_,_,_,rfl,by kernel_rfl,λ rr aA bT hy=>?_⟩;have S6:=S4.range rr;obtain⟨L,hL⟩:∃ L,L=w4.heap.size+1:=⟨_,rfl⟩;obtain⟨m,hm⟩:∃ m,m=w4.heap.size:=⟨_,rfl⟩;rw [<- hL] at S6 hy ⊢;rw [<- hm] at S6 ⊢;have S7:=(((S6.pull 6 rfl).pull 2 rfl).pull 4 rfl).pull 4 rfl;refine (O5 x 1 (by omega) L (x.nodes 1) (λ done B=>∃ sa sc,B=[It.obj L (.loop rr),Du sa sc (Eg done),It.cells gX #[.slice sa (Eg done).length sc] ty.D5]) (λ B=>False) ?_ a cap (hx) [] []
  [It.obj m (.deferred (some [])),It.cells b7 ⟨An x a cap⟩ ty.CW] _ _ bd bx (by simp) ⟨none,0,rfl⟩ S7).mono ?_
 ·rintro done ⟨yd,yx⟩ rest vs HN _ w6 bA ⟨sa,sc,rfl⟩ S ⟨gA,rfl,dV⟩;change XC w yx gA at dV;obtain⟨a4,cap4,_,rfl,_⟩:=DT.open dV;have dZ:done.length<=400:=by have:=congrArg List.length bA;simp at this;omega
  have ei:=TY done;have S:=ST.mid (B:=[]) [It.obj L (.loop rr),Du sa sc (Eg done),It.cells gX #[.slice sa (Eg done).length sc] ty.D5] S;refine hy _ _ _ _ _ _ _ _ _ _ w6 (S.get 0 rfl) ?_;refine S.PG λ qZ cI _ S=>S.YL 1 rfl λ bQ S=>⟨_,S.cell 0 rfl rfl,Aj (λ h1=>⟨_,_,_,S.cell 3 rfl rfl,_,S.cell 0 rfl rfl,S.Ak λ qd bG _ _ S=>?_⟩) (λ h1=>S.Mi 1 aA bT rfl λ w' S=>?_)⟩
  ·refine Qk S 3 rfl (ys:=[yx.nm]) (mm:=1) rfl (S.rdc 0 rfl) (by omega) λ a' c' cB S=>⟨_,_,_,rfl,S.BA 4 rfl (aD:=#[.slice a' (Eg done++[yx.nm]).length c']) (by simp) rfl λ cZ S=>S.Mi 2 aA bT rfl λ w' S=>?_⟩;refine⟨_,ST.Ns (B:=[]) [It.obj L (.loop rr),Du a' c' (Eg done++[yx.nm]),It.cells gX #[.slice a' (Eg done++[yx.nm]).length c'] ty.D5] (S.drop 2),.inl ⟨rfl,a',c',?_⟩⟩;rw [Ry,if_pos h1];rfl
  ·refine⟨_,ST.Ns (B:=[]) [It.obj L (.loop rr),Du sa sc (Eg done),It.cells gX #[.slice sa (Eg done).length sc] ty.D5] (S.drop 1),.inl ⟨rfl,sa,sc,?_⟩⟩;have e:Eg (done++[(yd,yx)])=Eg done:=by rw [Ry,if_neg h1,List.append_nil]
   rw [e];rfl
 ·rintro _ cM ⟨_,rfl,B5,cT,⟨sa,sc,rfl⟩ | h⟩;rotate_left
  ·exact h.elim
  refine⟨⟨_,rfl⟩,?_⟩;rw [List.nil_append] at cT;have ei:=TY (x.nodes 1);have dX:=ST.mid (B:=[]) [It.obj L (.loop rr),Du sa sc (Eg (x.nodes 1)),It.cells gX #[.slice sa (Eg (x.nodes 1)).length sc] ty.D5] cT;refine dX.Kq 0 aA bT rfl λ cR S=>⟨rfl,_,_,_,S.cell 2 rfl rfl,(Aet S 1 rfl (by omega)).mono ?_⟩;rintro _ fR ⟨_,rfl,rfl,ys,o8,gS,S⟩;refine⟨rfl,_,_,_,S.cell 2 rfl rfl,?_⟩;rw [<- o8];refine (WH S 1 rfl (by omega)).mono ?_;rintro _ fS ⟨_,rfl,zs,rfl,ph,tA,S⟩;refine⟨_,_,_,rfl,S.get 3 rfl,sa,sc,zs,rfl,?_,by omega,((S.put 3 rfl (.deferred none)).pull 1 rfl).one⟩;rw [tA,gS];unfold Nt;rw [if_pos hf];have e:Eg (x.nodes 1)=x.names:=XG x 1 (Q1 hf);rw [e];exact VN _
theorem Ve{w:World}(E:Env w){x:Ex}{a:Option Addr}{cap:Nat}(hx:XC w x (An x a cap)):Calls Tryz.prog f.TI #[.agg ⟨An x a cap⟩] w (AD λ v w'=>AhQ x w w' v):=by
 refine (Mo E hx).mono ?_;rintro _ w' ⟨v,rfl,a,c,t,rfl,h1,h2,S⟩;exact⟨_,rfl,a,c,t,rfl,h1,S.rd 0 rfl,h2,S.Ag⟩
section
variable {ls T:List (List UInt8)}
end
theorem Af2{w:World}{a:Option Addr}{l:List ByteArray}(h:Rd w a (l.map Value.string)){i:Nat}(hi:i<l.length):∃ p,a=some p/\w.cell? (p.add i)=some (.string l[i]):=by
 obtain⟨p,hp,hc⟩:=h i (.string l[i]) (by simp [hi]);exact⟨p,hp,hc⟩
theorem Qv:∀(us:List ByteArray) {n:Nat} {a:Addr} {i:Nat} {k:List Value->Prop} {w:World},us.length=n->(∀ j u,us[j]?=some u->w.cell? (a.add (i+j))=some (.string u)) ->
  k (us.map Value.string)->BT (List.replicate n (.string ⟨#[]⟩)) a i k w
 | [],n,a,i,k,w,hn,hc,h=>by subst hn;exact h
 | u :: us,n,a,i,k,w,hn,hc,h=>by
  subst hn;exact⟨u,hc 0 u rfl,Qv us rfl (λ j x hj=>by have:=hc (j+1) x (by simpa using hj);rwa [show i+(j+1)=i+1+j by omega] at this) h⟩
theorem Xm:Rg=CA.map Value.string:=rfl
theorem Dj:CA.length=20:=rfl
theorem Ab7{s:ByteArray}{i:Nat}(hi:i<20)(h:CA[i]'(by rw [Dj];exact hi)=s):Rc s=true:=List.any_eq_true.2 ⟨_,List.getElem_mem (by rw [Dj];exact hi),by simpa using h⟩
theorem Zx{s:ByteArray}(h:∀ k∈CA,k≠s):Rc s=false:=by
 unfold Rc;rw [List.any_eq_false];intro k hk;simpa using h k hk
theorem Afx{s:ByteArray}{i:Nat}(hi:i<20)(h:∀ k∈CA.take i,k≠s)(h2:CA[i]'(by rw [Dj];exact hi)≠s):∀ k∈CA.take (i+1),k≠s:=by
 intro k hk;rw [List.take_succ_eq_append_getElem (by rw [Dj];exact hi)] at hk;rcases Akk.1 hk with hk | hk
 ·exact h k hk
 ·rw [List.mem_singleton.1 hk];exact h2
section
variable {w:World}(s:ByteArray)
theorem RH(E:Env w):Calls Tryz.prog f.XR #[.string s] w (AD λ r w'=>r=.bool (Rc s)/\w'=w):=by
 apply R.MW
 delta R.A R.F R.G R.I R.Qi R.T R.W R.X;try dsimp only [R.Ps]
 refine Qv CA rfl (λ j u hj=>?_) ?_
 ·obtain⟨p,hp,hc⟩:=E.key j (.string u) (by rw [Xm,List.getElem?_map,hj];rfl);cases hp;rw [Nat.zero_add];exact hc
 refine⟨λ st w1=>∃ i:Nat,st=[.int .i64 (i:Int)]/\i<=20/\(∀ k∈CA.take i,k≠s)/\w1=w,λ st _=>match st with | [.int _ q]=>20-q.toNat | _=>0,⟨0,rfl,by omega,by simp,rfl⟩,?_⟩;rintro q w1 ⟨i,aA,hi,aC,rfl⟩;cases aA;refine Aa (λ aB=>⟨⟨by omega,aB⟩,?_⟩) (λ aM=>?_)
 ·have iV:i<20:=by omega
  have hl:i<CA.length:=by rw [Dj];exact iV
  refine⟨CA[i],by rw [Ajz,Nat.mul_one];simp [hl],?_⟩;rw [Aw];refine Aa (λ h=>⟨by rw [Ab7 iV h],rfl⟩) (λ h=>?_);rw [Ah (by omega)];refine⟨⟨i+1,rfl,by omega,Afx iV aC h,rfl⟩,?_⟩;show 20-((i+1:Nat):Int).toNat<20-((i:Nat):Int).toNat;simp only [Ajz];omega
 ·rw [List.take_of_length_le (by rw [Dj];omega)] at aC;exact⟨by rw [Zx aC],rfl⟩
theorem IA(E:Env w)(hs:s.size<=9223372036854775807):Calls Tryz.prog f.VK #[.string s] w (AD λ r w'=>r=.bool (Ib s)/\Below w.heap.size w w'):=by
 apply R.Lx
 delta R.Cb R.F R.G R.T;try dsimp only [R.Ps]
 refine (Hw s hs w).mono ?_;rintro _ w1 ⟨_,rfl,rfl,B1⟩;refine⟨_,rfl,Ao (λ h=>(RH s (E.grown B1)).mono ?_) (λ h=>⟨by simp [Ib,h],B1⟩)⟩;rintro _ w2 ⟨_,rfl,rfl,rfl⟩;exact⟨_,rfl,by simp [Ib,h],B1⟩
end
/-! ### expressions -/
theorem Acg:∀ {x:Ex},x.fit->∀ s∈x.names,s.size<=9223372036854775807:=by
 intro x
 induction x using Ex.ind with
 | h op nm v ks ih =>
  intro h s hs;unfold Ex.fit at h;simp only [Ex.names,Akk] at hs;rcases hs with hs | hs
  ·split at hs
   ·rw [List.mem_singleton.1 hs];exact AjD h.1.2.2.2.1 (by decide)
   ·cases hs
  ·have:∀(l:List Ex),(∀ k∈l,k∈ks)->s∈Ex.G6 l->∃ k∈l,s∈k.names:=by
    intro l
    induction l with
    | nil=>intro _ h;simp [Ex.G6] at h
    | cons k l ihl =>
     intro hl h;simp only [Ex.G6,Akk] at h;rcases h with h | h
     ·exact⟨k,by simp,h⟩
     ·obtain⟨k',h1,h2⟩:=ihl (λ y hy=>hl y (by simp [hy])) h;exact⟨k',by simp [h1],h2⟩
   obtain⟨k,hk,hsk⟩:=this ks (λ _ h=>h) hs;exact ih k hk (Mr.1 h.2 k hk) s hsk
theorem RS{x:Ex}(hf:x.formed=true){t:List ByteArray}(h:NI (Nt x) (t.map bl))(s:ByteArray):s∈t↔s∈x.names:=by
 have:=h.mem (bl s);unfold Nt at this;rw [if_pos hf] at this;constructor
 ·intro hs;obtain⟨s',h1,h2⟩:=Ajb.1 (this.1 (Ajb.2 ⟨s,hs,rfl⟩));rw [<- HL h2];exact h1
 ·intro hs;obtain⟨s',h1,h2⟩:=Ajb.1 (this.2 (Ajb.2 ⟨s,hs,rfl⟩));rw [<- HL h2];exact h1
theorem Ael{x:Ex}(hf:x.formed=true){t:List ByteArray}(h:NI (Nt x) (t.map bl))(p:ByteArray->Bool):t.all p=x.names.all p:=by
 rw [Bool.eq_iff_iff,List.all_eq_true,List.all_eq_true];exact⟨λ h1 s hs=>h1 s ((RS hf h s).2 hs),λ h1 s hs=>h1 s ((RS hf h s).1 hs)⟩
theorem RU:∀ t:List ByteArray,Ax (λ x c=>c=[Value.string x]) t (t.map Value.string)
 | []=>rfl
 | x :: t=>⟨[.string x],t.map Value.string,rfl,rfl,RU t⟩
theorem Acy(x:Ex):x.same x=true:=(Na x x).2 rfl
section
variable {w:World}{x:Ex}{a:Option Addr}{cap:Nat}
theorem JD(E:Env w)(hx:XC w x (An x a cap)):Calls Tryz.prog f.XU #[.agg ⟨An x a cap⟩] w (AD λ r w'=>r=.bool (BG x)/\Below w.heap.size w w'):=by
 apply R.M4
 delta R.A R.Ab R.Cb R.Cs R.E R.F R.G R.I R.Li R.Ls R.Lt R.N R.S R.T;try dsimp only [R.Ps]
 refine (ST.start w).Ak λ b7 w1 _ _ S1=>⟨_,S1.cell 0 rfl rfl,_,S1.cell 0 rfl rfl,_,S1.cell 0 rfl rfl,_,S1.cell 0 rfl rfl,_,S1.cell 0 rfl rfl,_,_,_,S1.cell 0 rfl rfl,_,S1.cell 0 rfl rfl,_,S1.cell 0 rfl rfl,_,S1.cell 0 rfl rfl,_,S1.cell 0 rfl rfl,_,S1.cell 0 rfl rfl,_,_,_,S1.cell 0 rfl rfl,(Mn (E.grown S1.Ag) (hx.grown S1.Ag) (hx.grown S1.Ag)).mono ?_⟩;rintro _ w2 ⟨_,rfl,rfl,B2⟩;have S2:=S1.grown B2;have hs:Pb x x=x.formed:=by unfold Pb;rw [Acy,Bool.and_true,Bool.and_self]
 rw [hs];refine⟨_,rfl,Ao (λ hf=>⟨_,S2.cell 0 rfl rfl,_,S2.cell 0 rfl rfl,_,S2.cell 0 rfl rfl,_,S2.cell 0 rfl rfl,_,S2.cell 0 rfl rfl,_,_,_,S2.cell 0 rfl rfl,(Ve (E.grown S2.Ag) (hx.grown S2.Ag)).mono ?_⟩) (λ hf=>⟨by simp [BG,hf],S2.Ag⟩)⟩;rintro _ w3 ⟨_,rfl,a3,c3,t,rfl,eB,aP,hlen,B3⟩;have S3:=S2.grown B3;refine⟨_,_,_,rfl,(Sz aP (RU t) (by omega) (by kernel_rfl) (λ s=>!Ib s) ?_).mono ?_⟩
 ·rintro w4 s _ B4 hs rfl;show Calls Tryz.prog f.RO #[.string s] w4 _;apply R.JC
  delta R.Cb R.G R.T;try dsimp only [R.Ps]
  refine (IA s ((E.grown S3.Ag).grown B4) (Acg hx.fit s ((RS hf eB s).1 hs))).mono ?_;rintro _ w5 ⟨_,rfl,rfl,B5⟩;exact⟨_,rfl,rfl,B5⟩
 ·rintro _ w4 ⟨_,rfl,rfl,B4⟩;refine⟨_,rfl,?_,(S3.grown B4).Ag⟩;congr 1;unfold BG;rw [hf,Bool.true_and,<- Ael hf eB,List.all_eq_not_any_not]
end
/-! ### items -/
section
variable {w:World}{a:Option Addr}{c:Nat}{rs:List Value}{l:List F4}
theorem RM(hl:Rd w a rs)(hC:Ax (LX (λ _=>False) w) l rs)(hn:l.length<=9223372036854775807)(s:ByteArray):Calls Tryz.prog f.XS #[.slice a l.length c,.string s] w (AD λ r w'=>r=.int .i64 (PE (placeOf l s))/\Below w.heap.size w w'):=by
 apply R.MY
 delta R.Ci R.I R.J R.N R.P R.S R.T;try dsimp only [R.Ps]
 refine (ST.start w).Ak λ b3 w1 _ _ S1=>(Iu (w0:=w) (hl.grown S1.Ag) hC hn (by kernel_rfl) (λ x=>decide (x.1=s)) ?_).mono ?_
 ·rintro w2 x cs B2 _ ⟨ce,rfl,hx,hy⟩;obtain⟨a9,cap9,_,rfl,_⟩:=DT.open hx;show Calls Tryz.prog f.RJ #[.agg #[.string x.1,.int .i64 x.2.1,.int .i64 x.2.2.op,.string x.2.2.nm,.int .i64 x.2.2.v.1,.int .i64 x.2.2.v.2.1,.string x.2.2.v.2.2,.slice a9 x.2.2.ks.length cap9],.pointer (some ⟨b3,0,none⟩)] w2 _;apply R.JB
  delta R.A R.G R.I R.Lt R.N R.S R.T;try dsimp only [R.Ps]
  have S2:=S1.grown B2;exact (ST.start w2).Ak λ b5 w3 _ B3 S3=>⟨_,S3.cell 0 rfl rfl,_,(S2.grown B3).cell 0 rfl rfl,by rw [Aw],S3.Ag⟩
 ·rintro _ w2 ⟨_,rfl,rfl,B2⟩;exact⟨_,rfl,rfl,(S1.grown B2).Ag⟩
theorem AaV(hl:Rd w a rs){w0:World}(hC:Ax (LX (λ _=>False) w0) l rs){i:Nat}(hi:i<l.length):∃ p,a=some p/\w.cell? (p.add (i*8))=some (.string l[i].1):=by
 obtain⟨q,cc,rfl,hc,cell⟩:=Ei (n:=8) (λ x c h=>LX.len h) (by decide) hl hC hi;obtain⟨ce,rfl,hx,hy⟩:=hc;exact⟨q,rfl,cell 0 _ rfl⟩
def Vr(i:F4)(a:Option Addr)(cap:Nat):List Value:=.string i.1 :: .int .i64 i.2.1 :: An i.2.2 a cap
end
end Go.Proofs.YtegnhfeclchlmaaGreatDoor
namespace Go.Proofs.YtegnhfeclchlmaaGreatDoor
open _root_.List renaming mem_append -> Akk
open _root_.Nat renaming le_trans -> AjD
set_option maxRecDepth 100000
open Go.Dn Go.Proofs
open Go.RowKit (Below)
set_option linter.unusedVariables false
/-! ### lists of expressions -/
def zEx:Value:=.agg #[.int .i64 0,.string ⟨#[]⟩,.int .i64 0,.int .i64 0,.string ⟨#[]⟩,.slice none 0 0]
theorem Aac:LO Tryz.prog ty.DH=some (ty.CW,6,80,zEx):=by kernel_rfl
theorem Aam:zEx.cells.size=6:=rfl
def QV(a:Option Addr)(n c:Nat)(rs:List Value):It:=It.row ty.CW 6 a n c rs
theorem Afi{F:Nat->Prop}{w:World}{x:Ex}{cs:List Value}(h:DT F w x cs):∀ u∈cs,u.oneCell'=true:=by
 obtain⟨a,cap,_,rfl,_⟩:=h.open;intro u hu;simp only [An,List.mem_cons,List.not_mem_nil,or_false] at hu;rcases hu with rfl | rfl | rfl | rfl | rfl | rfl <;> rfl
theorem Qa{F:Nat->Prop}{w:World}:∀ {l:List Ex} {cs:List Value},IW F w l cs->∀ u∈cs,u.oneCell'=true
 | [],cs,h=>by unfold IW at h;subst h;simp
 | x :: l,cs,h=>by
  unfold IW at h;obtain⟨c,r,rfl,h1,h2⟩:=h;intro u hu;rcases Akk.1 hu with hu | hu
  ·exact Afi h1 u hu
  ·exact Qa h2 u hu
theorem Y1(w:World)(n:Nat)(hn:n<=1000000):Calls Tryz.prog f.E8 #[.slice none 0 0,.int .i64 (n:Int)] w
  (AD λ v w'=>∃ a c,v=.slice a 0 c/\Row w' ty.CW 6 a 0 c []/\(∀ k,BX a=some k->w.heap.size<=k)/\Below w.heap.size w w'):=by
 apply R.DD
 delta R.F R.I R.Rs R.S R.W R.Y;try dsimp only [R.Ps]
 have e0:IntKind.i64.wrap (((0:Nat):Int)-((0:Nat):Int))=0:=by rw [wrap_i64 (by omega) (by omega)];omega
 have e1:IntKind.i64.wrap ((n:Int)-0)=(n:Int):=by rw [wrap_i64 (by omega) (by omega)];omega
 refine Aa (λ h=>by omega) (λ _=>?_);rw [e0,e1];refine Aa (λ hp=>⟨⟨by omega,by omega,by omega⟩,?_⟩) (λ hp=>?_)
 ·obtain⟨c',w',aF,aI,hc,hb⟩:=HI (u:=ty.int) (ty:=ty.DH) Aac (show Tryz.prog.underlying ty.int=some (.int .i64) by kernel_rfl) Aam (by omega) (by omega) (w:=w) (m:=n) (by omega) (by omega);have hs:BD none 0 0 6=none:=rfl;unfold Dc;rw [hs];simp only [Nat.sub_zero,aF];refine⟨_,_,_,rfl,⟨by omega,by omega,by omega⟩,some ⟨w.heap.size,0,none⟩,c',?_,aI,λ k hk=>by simp [BX] at hk;omega,hb⟩;have:BD (some (⟨w.heap.size,0,none⟩:Addr)) 0 c' 6=some ⟨w.heap.size,0,none⟩:=by
   unfold BD;split
   ·rfl
   ·simp [EO]
  rw [this]
 ·have:n=0:=by omega
  subst this;exact⟨none,0,rfl,Row.nil _ _ _,by simp [BX],.refl _ _⟩
theorem WI{w:World}{b:Nat}{a1 a2:Option Addr}{n1 n2 c1 c2:Nat}{r1 r2:List Value}{t:TypeId}(hb:w.heap[b]?=some (.cells #[.slice a1 n1 c1,.slice a2 n2 c2] t (0,0)))(h1:Rd w a1 r1)(h2:Rd w a2 r2)(l1:r1.length=n1*6)(l2:r2.length=n2*6)
  (o1:∀ u∈r1,u.oneCell'=true) (o2:∀ u∈r2,u.oneCell'=true) (hn:n1+n2<=1000) :
  Calls Tryz.prog f.Ep #[.slice (some ⟨b,0,none⟩) 2 2] w (AD λ v w'=>∃ a c,v=.slice a (n1+n2) c/\Rd w' a (r1++r2)/\Below w.heap.size w w'):=by
 apply R.Dl
 delta R.Ad R.Cs R.F R.I R.Ks R.Ls R.O R.Qii R.J2 R.S R.W R.X;try dsimp only [R.Ps]
 have cell:∀ {w':World},Below w.heap.size w w'->∀(i:Nat) (v:Value),(#[Value.slice a1 n1 c1,.slice a2 n2 c2]:Array Value)[i]?=some v->w'.cell? ((⟨b,0,none⟩:Addr).add (((i:Nat):Int).toNat*1))=some v:=by
  intro w' B i v hv;rw [L7];have:w.cell? ⟨b,i,none⟩=some v:=by simp only [World.cell?,hb];simpa using hv
  exact (Aq.AQ (F:=λ _=>False) B).cell this (by simp)
 refine⟨λ s w1=>w1=w/\(s=[.int .i64 0,.int .i64 ((0:Nat):Int)]\/s=[.int .i64 (n1:Int),.int .i64 ((1:Nat):Int)]\/s=[.int .i64 ((n1+n2:Nat):Int),.int .i64 ((2:Nat):Int)]),λ s _=>match s with
   | [_,.int _ i]=>2-i.toNat
   | _=>0,⟨rfl,.inl rfl⟩,?_⟩
 rintro _ _ w1 ⟨rfl,hs | hs | hs⟩
 ·cases hs;refine Aa (λ aB=>⟨⟨by omega,aB⟩,_,_,_,cell (.refl _ _) 0 _ rfl,?_⟩) (λ aM=>absurd (show ((0:Nat):Int)<((2:Nat):Int) by decide) aM);have e:IntKind.i64.wrap ((0:Int)+(n1:Int))=(n1:Int):=by rw [wrap_i64 (by omega) (by omega)];omega
  rw [e];exact Aa (λ h=>by omega) (λ _=>⟨⟨rfl,.inr (.inl rfl)⟩,show 1<2 by decide⟩)
 ·cases hs;refine Aa (λ aB=>⟨⟨by omega,aB⟩,_,_,_,cell (.refl _ _) 1 _ rfl,?_⟩) (λ aM=>absurd (show ((1:Nat):Int)<((2:Nat):Int) by decide) aM);have e:IntKind.i64.wrap ((n1:Int)+(n2:Int))=((n1+n2:Nat):Int):=by rw [wrap_i64 (by omega) (by omega)];omega
  rw [e];exact Aa (λ h=>by omega) (λ _=>⟨⟨rfl,.inr (.inr rfl)⟩,show 0<1 by decide⟩)
 ·cases hs;refine Aa (λ aB=>absurd aB (by decide)) (λ aM=>(Y1 w1 (n1+n2) (by omega)).mono ?_);rintro _ w2 ⟨_,rfl,a3,c3,rfl,R3,N3,B3⟩;have S2:=(ST.start w1).add B3 (QV a3 0 c3 []) R3 N3;refine⟨_,_,_,rfl,λ s w3=>∃(a4:Option Addr) (c4:Nat),(s=[.slice a4 0 c4,.int .i64 ((0:Nat):Int)]/\ST w1 w3 [QV a4 0 c4 []])\/(s=[.slice a4 n1 c4,.int .i64 ((1:Nat):Int)]/\ST w1 w3 [QV a4 n1 c4 r1])\/(s=[.slice a4 (n1+n2) c4,.int .i64 ((2:Nat):Int)]/\ST w1 w3 [QV a4 (n1+n2) c4 (r1++r2)]),
   λ s _=>match s with
    | [_,.int _ i]=>2-i.toNat
    | _=>0,⟨a3,c3,.inl ⟨rfl,S2⟩⟩,?_⟩
  rintro a4 q4 c4 _ w3 ⟨a5,c5,⟨hs,S⟩ | ⟨hs,S⟩ | ⟨hs,S⟩⟩
  ·cases hs;refine Aa (λ aB=>⟨⟨by omega,aB⟩,_,_,_,cell S.Ag 0 _ rfl,?_⟩) (λ aM=>absurd (show ((0:Nat):Int)<((2:Nat):Int) by decide) aM);refine S.app 0 rfl Aac Aam (by omega) (by omega) (h1.grown S.Ag) (mm:=n1) l1 o1 (by omega) λ a' c' w4 S4=>⟨_,_,_,rfl,⟨a',c',.inr (.inl ⟨by rw [Nat.zero_add];rfl,?_⟩)⟩,show 1<2 by decide⟩;rw [Nat.zero_add,List.nil_append] at S4;exact S4
  ·cases hs;refine Aa (λ aB=>⟨⟨by omega,aB⟩,_,_,_,cell S.Ag 1 _ rfl,?_⟩) (λ aM=>absurd (show ((1:Nat):Int)<((2:Nat):Int) by decide) aM);exact S.app 0 rfl Aac Aam (by omega) (by omega) (h2.grown S.Ag) (mm:=n2) l2 o2 (by omega) λ a' c' w4 S4=>⟨_,_,_,rfl,⟨a',c',.inr (.inr ⟨rfl,S4⟩)⟩,show 0<1 by decide⟩
  ·cases hs;exact Aa (λ aB=>absurd aB (by decide)) (λ aM=>⟨_,_,rfl,S.rd 0 rfl,S.Ag⟩)
/-! ### a query's value -/
structure V4(w:World)(q:Qu)(ai aw ag ao:Option Addr):Prop where
 it:∃ rs,Rd w ai rs/\Ax (LX (λ _=>False) w) q.it rs
 wh:∃ rs,Rd w aw rs/\Ax (DT (λ _=>False) w) q.wh rs
 gr:∃ rs,Rd w ag rs/\Ax (DT (λ _=>False) w) q.gr rs
 od:∃ rs,Rd w ao rs/\Ax Lh q.od rs
 nit:q.it.length<=9223372036854775807
 nwh:q.wh.length<=9223372036854775807
 ngr:q.gr.length<=9223372036854775807
 nod:q.od.length<=9223372036854775807
 lim:i64 q.lim
def quL(q:Qu)(ai aw ag ao:Option Addr)(ci cw cg co:Nat):List Value:=[.slice ai q.it.length ci,.slice aw q.wh.length cw,.slice ag q.gr.length cg,.slice ao q.od.length co,.int .i64 q.lim]
theorem V4.grown{w w':World}{q:Qu}{ai aw ag ao:Option Addr}(h:V4 w q ai aw ag ao)(hk:Below w.heap.size w w'):V4 w' q ai aw ag ao:=by
 obtain⟨⟨r1,h1,h1'⟩,⟨r2,h2,fE⟩,⟨r3,h3,h3'⟩,⟨r4,h4,h4'⟩,n1,n2,n3,n4,hl⟩:=h;exact⟨⟨r1,h1.grown hk,h1'.mono λ _ _ h=>h.grown hk⟩,⟨r2,h2.grown hk,fE.mono λ _ _ h=>h.grown hk⟩,⟨r3,h3.grown hk,h3'.mono λ _ _ h=>h.grown hk⟩,⟨r4,h4.grown hk,h4'⟩,n1,n2,n3,n4,hl⟩
theorem QuC.at{w:World}{q:Qu}{vs:List Value}(h:QuC (λ _=>False) w q vs):∃ ai aw ag ao ci cw cg co,vs=quL q ai aw ag ao ci cw cg co/\V4 w q ai aw ag ao/\q.it.length<=ci/\q.wh.length<=cw/\q.gr.length<=cg/\q.od.length<=co:=by
 obtain⟨vi,vw,vg,vo,rfl,h1,h2,h3,h4,h5⟩:=h.ex;obtain⟨ai,ci,ri,rfl,i1,_,i2,i3,_,i4⟩:=h1.ex;obtain⟨aw,cw,rw,rfl,w1,_,w2,w3,_,w4⟩:=h2.ex;obtain⟨ag,cg,rg,rfl,g1,_,g2,g3,_,g4⟩:=h3.ex;obtain⟨ao,co,ro,rfl,o1,_,o2,o3,_,o4⟩:=h4.ex;exact⟨ai,aw,ag,ao,ci,cw,cg,co,rfl,⟨⟨ri,i1,i4⟩,⟨rw,w1,w4⟩,⟨rg,g1,g4⟩,⟨ro,o1,o4⟩,AjD i2 (AjD i3 (by decide)),AjD w2 (AjD w3 (by decide)),AjD g2 (AjD g3 (by decide)),AjD o2 (AjD o3 (by decide)),h5⟩,i2,w2,g2,o2⟩
theorem H6{w0 w:World}{a:Option Addr}{rs:List Value}{l:List F4}(hl:Rd w a rs)(hC:Ax (LX (λ _=>False) w0) l rs){i:Nat}(hi:i<l.length):∃ p a' aX,a=some p/\XC w0 l[i].2.2 (An l[i].2.2 a' aX)/\l[i].1.size<=maxLen /\
  ∀ j v,(Vr l[i] a' aX)[j]?=some v->w.cell? ((p.add (i*8)).add j)=some v:=by
 obtain⟨q,cc,rfl,hc,cell⟩:=Ei (n:=8) (λ x c h=>LX.len h) (by decide) hl hC hi;obtain⟨ce,rfl,hx,hy,_⟩:=hc;obtain⟨a9,cap9,_,rfl,_⟩:=DT.open hx;exact⟨q,a9,cap9,rfl,hx,hy,cell⟩
theorem Vh{w0 w:World}{a:Option Addr}{rs:List Value}{l:List Ex}(hl:Rd w a rs)(hC:Ax (DT (λ _=>False) w0) l rs){i:Nat}(hi:i<l.length):∃ p a' aX,a=some p/\XC w0 l[i] (An l[i] a' aX) /\
  ∀ j v,(An l[i] a' aX)[j]?=some v->w.cell? ((p.add (i*6)).add j)=some v:=by
 obtain⟨q,cc,rfl,hc,cell⟩:=Ei (n:=6) (λ x c h=>DT.len h) (by decide) hl hC hi;obtain⟨a9,cap9,_,rfl,_⟩:=DT.open hc;exact⟨q,a9,cap9,rfl,hc,cell⟩
theorem Wt{α:Type}{p:α->Bool}{l:List α}{i:Nat}(hi:i<l.length)(h:∀ x∈l.take i,p x=true)(h2:p l[i]=true):∀ x∈l.take (i+1),p x=true:=by
 intro x hx;rw [List.take_succ_eq_append_getElem hi] at hx;rcases Akk.1 hx with hx | hx
 ·exact h x hx
 ·rw [List.mem_singleton.1 hx];exact h2
theorem Yg{q:Qu}(h:¬ ((1<=q.it.length/\q.it.length<=16/\q.wh.length<=1/\q.gr.length<=4/\q.od.length<=4 /\ -1<=q.lim/\q.lim<=4096)/\(∀ i∈q.it,BF i=true)/\(∀ x∈q.wh++q.gr,BG x=true)/\∀ k∈q.od,Eh q.it k.1=true)):Fq q=false:=by
 rw [Bool.eq_false_iff,Ne,DQ];rintro⟨h1,h2,h3,h4,h5⟩;exact h ⟨h1,h2,λ x hx=>(Akk.1 hx).elim (h3 x) (h4 x),h5⟩
theorem AcB{q:Qu}(h1:1<=q.it.length/\q.it.length<=16/\q.wh.length<=1/\q.gr.length<=4/\q.od.length<=4 /\ -1<=q.lim/\q.lim<=4096)(h2:∀ i∈q.it,BF i=true)(h3:∀ x∈q.wh++q.gr,BG x=true)(h4:∀ k∈q.od,Eh q.it k.1=true):Fq q=true :=
 DQ.2 ⟨h1,h2,λ x hx=>h3 x (List.mem_append_left _ hx),λ x hx=>h3 x (List.mem_append_right _ hx),h4⟩
theorem ZO{l:List F4}{i:Nat}{s:ByteArray}:(PE (placeOf l s)=(i:Int))↔placeOf l s=some i:=by
 cases placeOf l s with
 | none=>simp [PE]
 | some j=>simp only [PE,Option.some.injEq];omega
theorem Ih{l:List F4}{k:Int}:Eh l k=true↔∃(i:Nat) (hi:i<l.length),k=i/\placeOf l l[i].1=some i:=by
 unfold Eh;simp only [Bool.and_eq_true,decide_eq_true_eq];constructor
 ·rintro⟨⟨h0,h1⟩,h2⟩;have hi:k.toNat<l.length:=by omega
  rw [List.getD_eq_getElem?_getD,List.getElem?_eq_getElem hi,Option.getD_some] at h2;exact⟨k.toNat,hi,by omega,h2⟩
 ·rintro⟨i,hi,rfl,h⟩;rw [Int.toNat_natCast,List.getD_eq_getElem?_getD,List.getElem?_eq_getElem hi,Option.getD_some];exact⟨⟨by omega,by omega⟩,h⟩
end Go.Proofs.YtegnhfeclchlmaaGreatDoor
namespace Go.Proofs.YtegnhfeclchlmaaGreatDoor
open _root_.Int renaming toNat_natCast -> Ajz
set_option maxRecDepth 100000
open Go.Dn Go.Proofs
open Go.RowKit (Below)
set_option linter.unusedVariables false
def Iz(b:Nat)(q:Qu)(ai aw ag ao:Option Addr)(ci cw cg co:Nat):It:=It.cells b ⟨quL q ai aw ag ao ci cw cg co⟩ ty.F0
def itI(b:Nat)(i:F4)(a:Option Addr)(cap:Nat):It:=It.cells b ⟨Vr i a cap⟩ ty.I4
section
variable {w:World}{q:Qu}{ai aw ag ao:Option Addr}{ci cw cg co:Nat}
theorem W4{w0:World}{H:List It}{b:Nat}(n:Nat)(Q:V4 w q ai aw ag ao)(S:ST w0 w H)(hn:H[n]?=some (Iz b q ai aw ag ao ci cw cg co))(k:Int × Bool) :
  Calls Tryz.prog f.SY #[.agg #[.int .i64 k.1,.bool k.2],.pointer (some ⟨b,0,none⟩)] w (AD λ r w'=>r=.bool (!Eh q.it k.1)/\Below w.heap.size w w'):=by
 apply R.Kc
 delta R.A R.Ci R.D R.F R.G R.I R.Li R.Ls R.Lt R.N R.S R.T R.X;try dsimp only [R.Ps]
 obtain⟨rs,aP,hC⟩:=Q.it;refine (ST.start w).Ak λ b4 w1 _ B1 S1=>S1.draw λ w2 B2 S2=>⟨_,S2.cell 0 rfl rfl,?_⟩;have T2:=S.grown S2.Ag;have no:¬ (∃(i:Nat) (hi:i<q.it.length),k.1=i/\placeOf q.it q.it[i].1=some i)->Value.bool true=.bool (!Eh q.it k.1)/\Below w.heap.size w w2:=λ h=>⟨by rw [show Eh q.it k.1=false from Bool.eq_false_iff.2 λ h2=>h (Ih.1 h2)];rfl,S2.Ag⟩;refine Aa (λ h=>no ?_) (λ h1=>⟨_,S2.cell 0 rfl rfl,_,_,_,T2.cell n hn rfl,Aa (λ h=>no ?_) (λ h2=>⟨_,_,_,T2.cell n hn rfl,_,_,_,T2.cell n hn rfl,_,S2.cell 0 rfl rfl,⟨by omega,by omega⟩,?_⟩)⟩)
 ·rintro⟨i,hi,he,_⟩;omega
 ·rintro⟨i,hi,he,_⟩;omega
 obtain⟨i,hi⟩:∃ i:Nat,k.1=i:=⟨k.1.toNat,by omega⟩;have aE:i<q.it.length:=by omega
 obtain⟨p,rfl,hc⟩:=AaV (aP.grown S2.Ag) hC aE;refine⟨_,by rw [hi,Ajz];exact hc,_,S2.cell 0 rfl rfl,(RM (aP.grown S2.Ag) (hC.mono λ _ _ h=>h.grown S2.Ag) Q.nit _).mono ?_⟩;rintro _ w3 ⟨_,rfl,rfl,B3⟩;have S3:=S2.grown B3;refine⟨_,rfl,S3.cell 0 rfl rfl,?_,S3.Ag⟩;congr 1;rw [Bool.eq_iff_iff,bne_iff_ne,Bool.not_eq_true',Bool.eq_false_iff,Ne,Ne];refine not_congr ?_;rw [Ih,hi,ZO];constructor
 ·intro h;exact⟨i,aE,rfl,h⟩
 ·rintro⟨j,hj,he,h⟩;obtain rfl:i=j:=by omega
  exact h
theorem SZ(E:Env w)(Q:V4 w q ai aw ag ao):Calls Tryz.prog f.ZX #[.agg ⟨quL q ai aw ag ao ci cw cg co⟩] w (AD λ r w'=>r=.bool (Fq q)/\Below w.heap.size w w'):=by
 apply R.Om
 delta R.A R.Ab R.Cb R.Cs R.E R.F R.G R.I R.J R.Li R.Ls R.Lt R.N R.O R.P R.Qi R.S R.Ae R.T R.W R.X R.Zb;try dsimp only [R.Ps]
 obtain⟨ri,dH,hCi⟩:=Q.it;obtain⟨rw_,hrw,hCw⟩:=Q.wh;obtain⟨rg,hrg,hCg⟩:=Q.gr;obtain⟨ro,eo,hCo⟩:=Q.od;refine (ST.start w).Ak λ b6 w1 _ _ S1=>?_;have no:∀ w',ST w w' [Iz b6 q ai aw ag ao ci cw cg co]->¬ ((1<=q.it.length/\q.it.length<=16/\q.wh.length<=1/\q.gr.length<=4/\q.od.length<=4 /\ -1<=q.lim/\q.lim<=4096)/\(∀ i∈q.it,BF i=true)/\(∀ x∈q.wh++q.gr,BG x=true)/\∀ k∈q.od,Eh q.it k.1=true)->Value.bool false=.bool (Fq q)/\Below w.heap.size w w':=λ w' S h=>⟨by rw [Yg h],S.Ag⟩;have S1:ST w w1 [Iz b6 q ai aw ag ao ci cw cg co]:=S1;refine⟨_,_,_,S1.cell 0 rfl rfl,Aa (λ h=>no _ S1 (by omega)) (λ g1=>⟨_,_,_,S1.cell 0 rfl rfl,Aa (λ h=>no _ S1 (by omega)) (λ g2=>⟨_,_,_,S1.cell 0 rfl rfl,Aa (λ h=>no _ S1 (by omega)) (λ g3=>⟨_,_,_,S1.cell 0 rfl rfl,Aa (λ h=>no _ S1 (by omega)) (λ g4=>⟨_,_,_,S1.cell 0 rfl rfl,Aa (λ h=>no _ S1 (by omega)) (λ g5=>⟨_,S1.cell 0 rfl rfl,Aa (λ h=>no _ S1 (by omega)) (λ g6=>⟨_,S1.cell 0 rfl rfl,Aa (λ h=>no _ S1 (by omega)) (λ g7=>?_)⟩)⟩)⟩)⟩)⟩)⟩)⟩
 have oD:1<=q.it.length/\q.it.length<=16/\q.wh.length<=1/\q.gr.length<=4/\q.od.length<=4 /\ -1<=q.lim/\q.lim<=4096:=⟨by omega,by omega,by omega,by omega,by omega,by omega,by omega⟩;clear g1 g2 g3 g4 g5 g6 g7;refine⟨_,_,_,S1.cell 0 rfl rfl,λ st w2=>∃ i:Nat,st=[.int .i64 (i:Int)]/\i<=q.it.length/\(∀ x∈q.it.take i,BF x=true)/\ST w w2 [Iz b6 q ai aw ag ao ci cw cg co],λ st _=>match st with | [.int _ t]=>q.it.length-t.toNat | _=>0,⟨0,rfl,by omega,by simp,S1⟩,?_⟩;rintro t w2 ⟨i,aA,hi,aC,S2⟩;cases aA;refine Aa (λ aB=>⟨⟨by omega,aB⟩,?_⟩) (λ aM=>?_)
 ·have aE:i<q.it.length:=by omega
  obtain⟨p,a3,aN,rfl,bF,aU,cell⟩:=H6 (dH.grown S2.Ag) hCi aE;refine⟨_,by rw [Ajz];exact cell 0 _ rfl,_,by rw [Ajz];exact cell 1 _ rfl,_,by rw [Ajz];exact cell 2 _ rfl,_,by rw [Ajz];exact cell 3 _ rfl,_,by rw [Ajz];exact cell 4 _ rfl,_,by rw [Ajz];exact cell 5 _ rfl,_,by rw [Ajz];exact cell 6 _ rfl,_,_,_,by rw [Ajz];exact cell 7 _ rfl,S2.Vz λ fB bm _ aW=>?_⟩;have aW:ST w bm [itI fB q.it[i] a3 aN,Iz b6 q (some p) aw ag ao ci cw cg co]:=aW;refine⟨λ st cI=>st=[.bool (OK q.it[i].2.2)]/\cI=bm,?_,?_⟩
  ·simp only [Aw];refine⟨_,aW.cell 0 rfl rfl,Aj (λ h1=>⟨_,aW.cell 0 rfl rfl,Aa (λ h2=>⟨_,aW.cell 0 rfl rfl,_,aW.cell 0 rfl rfl,_,aW.cell 0 rfl rfl,?_⟩) (λ h2=>⟨by simp [OK,h2],trivial⟩)⟩) (λ h1=>⟨by simp [OK,h1],trivial⟩)⟩;have e:=AgC q.it[i].2.2.v V0;simp only [V0] at e;rw [e];refine Aa (λ h3=>⟨_,_,_,aW.cell 0 rfl rfl,?_,trivial⟩) (λ h3=>⟨by simp [OK,h3],trivial⟩);congr 2;rw [Bool.eq_iff_iff];simp [OK,h1,h2,h3]
  ·rintro em cI ⟨he,rfl⟩;obtain rfl:em=OK q.it[i].2.2:=by simpa using he
   have bad:∀ w',ST w w' [itI fB q.it[i] a3 aN,Iz b6 q (some p) aw ag ao ci cw cg co]->BF q.it[i]=false->Value.bool false=.bool (Fq q)/\Below w.heap.size w w':=λ w' S h=>no w' (S.drop 1) λ hh=>by rw [hh.2.1 _ (List.getElem_mem aE)] at h;cases h
   have Ji:∀ w',ST w w' [itI fB q.it[i] a3 aN,Iz b6 q (some p) aw ag ao ci cw cg co]->BF q.it[i]=true->(∃ j:Nat,[Value.int .i64 (IntKind.i64.wrap ((i:Int)+1))]=[.int .i64 (j:Int)]/\j<=q.it.length/\(∀ x∈q.it.take j,BF x=true)/\ST w w' [Iz b6 q (some p) aw ag ao ci cw cg co])/\q.it.length-(IntKind.i64.wrap ((i:Int)+1)).toNat<q.it.length-((i:Nat):Int).toNat:=by
    intro w' S h;rw [Ah (by omega)];refine⟨⟨i+1,rfl,by omega,Wt aE aC h,S.drop 1⟩,?_⟩;simp only [Ajz];omega
   refine⟨_,aW.cell 0 rfl rfl,(IA q.it[i].1 (E.grown aW.Ag) (Nat.le_trans aU (by decide))).mono ?_⟩;rintro _ bQ ⟨_,rfl,rfl,kx⟩;have aQ:=aW.grown kx;refine⟨_,rfl,Ap (Ao (λ h1=>⟨_,aQ.cell 0 rfl rfl,Aa (λ h=>bad _ aQ ?_) (λ h2=>⟨_,aQ.cell 0 rfl rfl,Aa (λ h=>bad _ aQ ?_) (λ h3=>⟨_,aQ.cell 0 rfl rfl,Aj (λ h4=>?_) (λ h4=>?_)⟩)⟩)⟩) (λ h1=>bad _ aQ (by simp [BF,h1])))⟩
   ·have:¬ ((0:Int)<=q.it[i].2.1/\q.it[i].2.1<=5):=by omega
    simp [BF,this]
   ·have:¬ ((0:Int)<=q.it[i].2.1/\q.it[i].2.1<=5):=by omega
    simp [BF,this]
   ·refine Ap (Ao (λ h5=>⟨_,aQ.cell 0 rfl rfl,As (λ h=>absurd h4 h) (λ _=>Ji _ aQ (by simp [BF,h1,h4,h5]))⟩) (λ h5=>bad _ aQ (by simp [BF,h4,h5])))
   ·have hr:((0:Int)<=q.it[i].2.1/\q.it[i].2.1<=5):=by omega
    refine⟨_,aQ.cell 0 rfl rfl,As (λ _=>⟨_,aQ.cell 0 rfl rfl,_,aQ.cell 0 rfl rfl,_,aQ.cell 0 rfl rfl,_,aQ.cell 0 rfl rfl,_,aQ.cell 0 rfl rfl,_,_,_,aQ.cell 0 rfl rfl,(JD (E.grown aQ.Ag) (bF.grown aQ.Ag)).mono ?_⟩) (λ h=>absurd h h4)⟩;rintro _ bG ⟨_,rfl,rfl,cS⟩;have cC:=aQ.grown cS;refine⟨_,rfl,Ap (Ao (λ h5=>Ji _ cC ?_) (λ h5=>bad _ cC ?_))⟩
    ·simp only [BF,h1,if_neg h4,h5,decide_eq_true hr,Bool.and_self]
    ·simp only [BF,if_neg h4,h5,Bool.and_false]
 have nF:∀ x∈q.it,BF x=true:=by rwa [List.take_of_length_le (by omega)] at aC
 refine⟨_,_,_,S2.cell 0 rfl rfl,_,_,_,S2.cell 0 rfl rfl,S2.Ak λ oZ cZ _ _ cN=>(WI (cN.Bu 0 rfl) (hrw.grown cN.Ag) (hrg.grown cN.Ag) (hCw.len λ x c h=>DT.len h) (hCg.len λ x c h=>DT.len h) (Qa (F2.1 hCw)) (Qa (F2.1 hCg)) (by omega)).mono ?_⟩;rintro _ cM ⟨_,rfl,a3,c3,rfl,sO,iE⟩;have bn:=(cN.drop 1).grown iE;have rL:=Ax.append hCw hCg;have hlen:(q.wh++q.gr).length=q.wh.length+q.gr.length:=List.length_append;refine⟨_,_,_,rfl,λ st cR=>∃ i:Nat,st=[.int .i64 (i:Int)]/\i<=(q.wh++q.gr).length/\(∀ x∈(q.wh++q.gr).take i,BG x=true)/\Below cM.heap.size cM cR/\ST w cR [Iz b6 q ai aw ag ao ci cw cg co],λ st _=>match st with | [.int _ t]=>(q.wh++q.gr).length-t.toNat | _=>0,⟨0,rfl,by omega,by simp,.refl _ _,bn⟩,?_⟩;rintro t cR ⟨j,aA,hj,gZ,fv,bN⟩;cases aA;rw [<- hlen];refine Aa (λ aB=>⟨⟨by omega,aB⟩,?_⟩) (λ aM=>?_)
 ·have aE:j<(q.wh++q.gr).length:=by omega
  obtain⟨p,a5,cap5,rfl,bF,cell⟩:=Vh (sO.grown fv) rL aE;refine⟨_,by rw [Ajz];exact cell 0 _ rfl,_,by rw [Ajz];exact cell 1 _ rfl,_,by rw [Ajz];exact cell 2 _ rfl,_,by rw [Ajz];exact cell 3 _ rfl,_,by rw [Ajz];exact cell 4 _ rfl,_,_,_,by rw [Ajz];exact cell 5 _ rfl,(ST.start cR).PG λ lr lZ _ cT=>?_⟩;have ll:=bN.grown cT.Ag;refine⟨_,cT.cell 0 rfl rfl,_,cT.cell 0 rfl rfl,_,cT.cell 0 rfl rfl,_,cT.cell 0 rfl rfl,_,cT.cell 0 rfl rfl,_,_,_,cT.cell 0 rfl rfl,(JD (E.grown ll.Ag) (bF.grown ll.Ag)).mono ?_⟩;rintro _ fu ⟨_,rfl,rfl,oM⟩;have oU:=ll.grown oM;refine⟨_,rfl,Ap (Ao (λ h=>?_) (λ h=>no _ oU λ hh=>by rw [hh.2.2.1 _ (List.getElem_mem aE)] at h;cases h))⟩;rw [Ah (by omega)];refine⟨⟨j+1,rfl,by omega,Wt aE gZ h,Ac (Ac fv cT.Ag) oM,oU⟩,?_⟩;show (q.wh++q.gr).length-((j+1:Nat):Int).toNat<(q.wh++q.gr).length-((j:Nat):Int).toNat;simp only [Ajz];omega
 ·have mr:∀ x∈q.wh++q.gr,BG x=true:=by rwa [List.take_of_length_le (by omega)] at gZ
  refine⟨_,_,_,bN.cell 0 rfl rfl,(IZ (eo.grown bN.Ag) hCo Q.nod (by kernel_rfl) (λ k=>!Eh q.it k.1) ?_).mono ?_⟩
  ·rintro fR k cc fw _ ⟨rfl,_⟩;exact W4 0 ((Q.grown bN.Ag).grown fw) (bN.grown fw) rfl k
  ·rintro _ fR ⟨_,rfl,rfl,fw⟩;have iF:=bN.grown fw;refine⟨_,rfl,?_,iF.Ag⟩;congr 1;by_cases hk:∀ k∈q.od,Eh q.it k.1=true
   ·rw [AcB oD nF mr hk,<- List.all_eq_not_any_not,List.all_eq_true];exact hk
   ·rw [Yg λ hh=>hk hh.2.2.2,<- List.all_eq_not_any_not,List.all_eq_false];simp only [Classical.not_forall] at hk;obtain⟨k,h1,h2⟩:=hk;exact⟨k,h1,h2⟩
end
section
variable {w:World}{q:Qu}{ai aw ag ao:Option Addr}{ci cw cg co:Nat}
end
end Go.Proofs.YtegnhfeclchlmaaGreatDoor
namespace Go.Proofs.YtegnhfeclchlmaaGreatDoor
set_option maxRecDepth 100000
open Go.Dn Go.Proofs
open Go.RowKit (Below)
set_option linter.unusedVariables false
/-! ### quoted -/
/-! ### Digits -/
/-! ### the program's Parse -/
end Go.Proofs.YtegnhfeclchlmaaGreatDoor
namespace Go.Proofs.YtegnhfeclchlmaaGreatDoor
set_option maxRecDepth 100000
open Go.Dn Go.Proofs
open Go.RowKit (Below)
set_option linter.unusedVariables false
/-! ### signs, rows -/
def ZT:List (Int × Int × ByteArray):=[(1,13,⟨#[111,114]⟩),(2,12,⟨#[97,110,100]⟩),(5,9,⟨#[61]⟩),(5,10,⟨#[60]⟩),(5,11,⟨#[60,61]⟩),(6,3,⟨#[43]⟩),(6,4,⟨#[45]⟩),(7,5,⟨#[42]⟩),(7,6,⟨#[47]⟩),(7,7,⟨#[37]⟩)]
def Hu(i:Nat):Int × Int × ByteArray:=ZT.getD i (0,0,E0)
theorem RN(w:World)(i:Nat)(hi:i<10):Calls Tryz.prog f.XT #[.agg #[.int .i64 0,.int .i64 0,.string (Hu i).2.2]] w (AD λ r w'=>r=.tuple #[.int .i64 (Hu i).1,.int .i64 (Hu i).2.1]/\Below w.heap.size w w'):=by
 apply R.MZ
 delta R.Ab R.F R.H R.I R.Li R.Lt R.N R.T;try dsimp only [R.Ps]
 refine (ST.start w).Ak λ b4 w1 _ _ S1=>⟨_,S1.cell 0 rfl rfl,?_⟩;refine Aj (λ h=>absurd h (by decide)) (λ _=>⟨_,S1.cell 0 rfl rfl,?_⟩);simp only [Aw]
 match i,hi with
 | 0,_=>exact⟨rfl,S1.Ag⟩
 | 1,_=>exact⟨rfl,S1.Ag⟩
 | 2,_=>exact⟨rfl,S1.Ag⟩
 | 3,_=>exact⟨rfl,S1.Ag⟩
 | 4,_=>exact⟨rfl,S1.Ag⟩
 | 5,_=>exact⟨rfl,S1.Ag⟩
 | 6,_=>exact⟨rfl,S1.Ag⟩
 | 7,_=>exact⟨rfl,S1.Ag⟩
 | 8,_=>exact⟨rfl,S1.Ag⟩
 | 9,_=>exact⟨rfl,S1.Ag⟩
theorem AfR{op:Int}(h:3<=op/\op<=13/\op≠8):∃ i,i<10/\(Hu i).2.1=op/\(Hu i).1=rowOf op/\(Hu i).2.2=Ow op/\∀ j,j<i->(Hu j).2.1≠op:=by
 obtain⟨n,rfl⟩:∃ n:Nat,op=n:=⟨op.toNat,by omega⟩;obtain⟨h1,h2,h3⟩:=h;have hn:n=3\/n=4\/n=5\/n=6\/n=7\/n=9\/n=10\/n=11\/n=12\/n=13:=by omega
 have two:∀(i:Nat),(∀ j,j<i->(Hu j).2.1≠(Hu i).2.1)↔(∀ j∈List.range i,(Hu j).2.1≠(Hu i).2.1):=λ i=>by simp
 rcases hn with rfl | rfl | rfl | rfl | rfl | rfl | rfl | rfl | rfl | rfl
 ·exact⟨5,by decide,rfl,rfl,rfl,(two 5).2 (by decide)⟩
 ·exact⟨6,by decide,rfl,rfl,rfl,(two 6).2 (by decide)⟩
 ·exact⟨7,by decide,rfl,rfl,rfl,(two 7).2 (by decide)⟩
 ·exact⟨8,by decide,rfl,rfl,rfl,(two 8).2 (by decide)⟩
 ·exact⟨9,by decide,rfl,rfl,rfl,(two 9).2 (by decide)⟩
 ·exact⟨2,by decide,rfl,rfl,rfl,(two 2).2 (by decide)⟩
 ·exact⟨3,by decide,rfl,rfl,rfl,(two 3).2 (by decide)⟩
 ·exact⟨4,by decide,rfl,rfl,rfl,(two 4).2 (by decide)⟩
 ·exact⟨1,by decide,rfl,rfl,rfl,(two 1).2 (by decide)⟩
 ·exact⟨0,by decide,rfl,rfl,rfl,(two 0).2 (by decide)⟩
theorem MX(w:World){op:Int}(h:3<=op/\op<=13/\op≠8):Calls Tryz.prog f.RI #[.int .i64 op] w (AD λ r w'=>r=.tuple #[.int .i64 (rowOf op),.string (Ow op)]/\Below w.heap.size w w'):=by
 apply R.Jy
 delta R.A R.Pj R.E R.F R.H R.I R.Lt R.N R.Qi R.T R.W R.X;try dsimp only [R.Ps]
 obtain⟨n,hn,e1,e2,e3,hmin⟩:=AfR h;refine (ST.start w).Ak λ b2 w1 _ _ S1=>⟨λ st w2=>∃ i:Nat,st=[.int .i64 (i:Int)]/\i<=n/\Below w.heap.size w w2/\w2.heap[b2]?=w1.heap[b2]?,λ st _=>match st with | [.int _ q]=>10-q.toNat | _=>0,⟨0,rfl,by omega,S1.Ag,rfl⟩,?_⟩;rintro q w2 ⟨i,aA,hi,B2,hb⟩;cases aA;have k6:i<10:=by omega
 have eK:w2.heap[b2]?=some (.cells (ZT.map λ p=>Value.string p.2.2).toArray ty.string (0,0)):=hb.trans (S1.Bu 0 rfl);refine Aa (λ aB=>⟨⟨by omega,aB⟩,(Hu i).2.2,?_,?_⟩) (λ aM=>absurd (show (i:Int)<10 by omega) aM)
 ·rw [Ar,Int.toNat_natCast,Nat.mul_one,Nat.zero_add];have hl:i<ZT.length:=k6;simp only [World.cell?,eK];simp [Hu,hl,List.getD_eq_getElem?_getD]
 refine (RN w2 i k6).mono ?_;rintro _ w3 ⟨_,rfl,rfl,B3⟩;refine⟨_,_,rfl,Aj (λ he=>?_) (λ he=>?_)⟩
 ·have:i=n:=by
   rcases Nat.lt_or_ge i n with h' | h'
   ·exact absurd he (hmin i h')
   ·omega
  subst this;exact⟨by rw [e2,e3],Ac B2 B3⟩
 ·have cj:i<n:=by
   rcases Nat.lt_or_ge i n with h' | h'
   ·exact h'
   ·obtain rfl:i=n:=by omega
    exact absurd e1 he
  rw [Ah (by omega)];refine⟨⟨i+1,rfl,by omega,Ac B2 B3,?_⟩,?_⟩
  ·rw [B3.block b2 (Array.getElem?_eq_some_iff.1 eK).1,hb]
  ·show 10-((i+1:Nat):Int).toNat<10-((i:Nat):Int).toNat;simp only [Int.toNat_natCast];omega
end Go.Proofs.YtegnhfeclchlmaaGreatDoor
namespace Go.Proofs.YtegnhfeclchlmaaGreatDoor
open _root_.Bool renaming and_eq_true -> Ai6
open _root_.ByteArray renaming mk -> AjP, size_append -> Akl
open _root_.Int renaming toNat_natCast -> Ajz
open _root_.List renaming getElem?_set_self -> Ajg, getElem_mem -> Akg, length_map -> AjM, map_append -> Akv, mem_map -> Ajb, take_length -> AkI, take_succ_eq_append_getElem -> Akj
open _root_.Nat renaming mul_le_mul_right -> Ajq
set_option maxRecDepth 100000
open Go.Dn Go.Proofs
open Go.RowKit (Below)
set_option linter.unusedVariables false
section
variable {op:Int}{nm:ByteArray}{v:AW}{k k':Ex}
theorem AeB:(Ex.mk 1 nm v []).text=nm:=by show Gf 1 nm v (Ex.texts [])=_;unfold Gf;rw [if_pos rfl]
theorem Aaf:(Ex.mk 2 nm v []).text=Dz (JL v):=by show Gf 2 nm v (Ex.texts [])=_;unfold Gf;rw [if_neg (by decide),if_pos rfl]
theorem AeC:(Ex.mk 16 nm v [k]).text=⟨#[108,101,110,40]⟩++k.text++⟨#[41]⟩:=by
 show Gf 16 nm v (Ex.texts [k])=_;unfold Gf;rw [if_neg (by decide),if_neg (by decide),if_pos rfl,<- at_one k];rfl
theorem AeE:(Ex.mk 14 nm v [k]).text=⟨#[110,111,116,32]⟩++k.at 3:=by
 show Gf 14 nm v (Ex.texts [k])=_;unfold Gf;rw [if_neg (by decide),if_neg (by decide),if_neg (by decide),if_pos rfl];rfl
theorem AcF:(Ex.mk 15 nm v [k]).text=k.at 5++⟨#[32,105,115,32,110,117,108,108]⟩:=by
 show Gf 15 nm v (Ex.texts [k])=_;unfold Gf;rw [if_neg (by decide),if_neg (by decide),if_neg (by decide),if_neg (by decide),if_pos rfl];rfl
theorem AeD:(Ex.mk 8 nm v [k]).text=if isNum k.op k.v=true then ⟨#[45,40]⟩++k.text++⟨#[41]⟩ else ⟨#[45]⟩++k.at 8:=by
 show Gf 8 nm v (Ex.texts [k])=_;unfold Gf;rw [if_neg (by decide),if_neg (by decide),if_neg (by decide),if_neg (by decide),if_neg (by decide),if_pos rfl,<- at_one k];rfl
theorem AeF(h:3<=op/\op<=13/\op≠8):(Ex.mk op nm v [k,k']).text=k.at (Ee op)++⟨#[32]⟩++Ow op++⟨#[32]⟩++k'.at (rowOf op+1):=by
 simp only [Ex.text,Gf];rw [if_neg (by omega),if_neg (by omega),if_neg (by omega),if_neg (by omega),if_neg (by omega),if_neg (by omega)];rfl
end
theorem Acw(op:Int):1<=rowOf op/\rowOf op<=9:=by
 unfold rowOf;by_cases h1:op=13
 ·rw [if_pos h1];omega
 rw [if_neg h1];by_cases h2:op=12
 ·rw [if_pos h2];omega
 rw [if_neg h2];by_cases h3:op=14
 ·rw [if_pos h3];omega
 rw [if_neg h3];by_cases h4:op=15
 ·rw [if_pos h4];omega
 rw [if_neg h4];by_cases h5:op=9\/op=10\/op=11
 ·rw [if_pos h5];omega
 rw [if_neg h5];by_cases h6:op=3\/op=4
 ·rw [if_pos h6];omega
 rw [if_neg h6];by_cases h7:op=5\/op=6\/op=7
 ·rw [if_pos h7];omega
 rw [if_neg h7];by_cases h8:op=8
 ·rw [if_pos h8];omega
 rw [if_neg h8];omega
theorem Hk{x:Ex}{d:Nat}(h:x.fair d)(hs:x.size<=400):x.text.size<=840000:=by
 have:=Up x d h;omega
theorem atS{x:Ex}{d:Nat}(h:x.fair d)(hs:x.size<=400)(need:Int):(x.at need).size<=840002:=by
 have:=HK x need;have:=Hk h hs;omega
theorem AbC{op:Int}{nm:ByteArray}{v:AW}{ks:List Ex}{d:Nat}(h:(Ex.mk op nm v ks).fair d):F5 v:=by
 have:=h.2.2;unfold Ex.fit at this;exact⟨this.1.2.2.1.1,this.1.2.2.1.2⟩
theorem Ye{v:AW}(h:AG v=true):Un v=.tuple #[.string (Dz (JL v)),.int .i64 0]:=by unfold Un;rw [if_pos h]
def AeW(x:Ex):Prop:=∀(w:World) (a:Option Addr) (cap:Nat) (lv:Int),Env w->XC w x (An x a cap)->Calls Tryz.prog f.XV #[.agg ⟨An x a cap⟩,.int .i64 lv] w (AD λ r w'=>r=.string (x.at lv)/\Below w.heap.size w w')
theorem Gp:∀(x:Ex) (d:Nat),x.fair d->x.size<=400->AeW x:=by
 intro x
 induction x using Ex.ind with
 | h op nm v ks ih =>
  intro d hf aU w a cap lv E hx;cases d with
  | zero=>have:=hf.1;simp [Ex.T0] at this
  | succ d =>
  obtain⟨ho,hk⟩:=hf.kid;have hv:=AbC hf;have cz:=Hk hf aU;obtain⟨rs,aP,hkids,_⟩:=KX hx;change IW _ _ ks rs at hkids;apply R.M5
  delta R.A R.Ab R.AhC R.Ux R.Ct R.D R.E R.F R.I R.Li R.Ls R.Lt R.N R.O R.S R.Ae R.T R.W R.X R.Zi R.Zit;try dsimp only [R.Ps]
  have tn:(AjP #[40]).size=1:=rfl;have tq:(AjP #[41]).size=1:=rfl;have tt:(AjP #[45]).size=1:=rfl;have om:(AjP #[45,40]).size=2:=rfl;have qv:(AjP #[108,101,110,40]).size=4:=rfl;have qz:(AjP #[110,111,116,32]).size=4:=rfl;have tv:(AjP #[32,105,115,32,110,117,108,108]).size=8:=rfl;have tj:(AjP #[32]).size=1:=rfl;refine (ST.start w).Ak λ b8 w1 _ _ S1=>⟨λ st fS=>st=[.int .i64 (Ex.lvl (.mk op nm v ks)),.string (Ex.text (.mk op nm v ks))]/\Below w.heap.size w fS,⟨_,S1.cell 0 rfl rfl,?_⟩,?_⟩;rotate_left
  ·rintro own s fS ⟨aA,j5⟩;obtain⟨rfl,rfl⟩:own=Ex.lvl (.mk op nm v ks)/\s=Ex.text (.mk op nm v ks):=by simpa using aA
   refine Aa (λ h=>⟨by omega,by simp only [Akl];omega,?_,j5⟩) (λ h=>⟨?_,j5⟩)
   ·unfold Ex.at Uu;rw [if_pos h];rfl
   ·unfold Ex.at Uu;rw [if_neg h]
  have jW:¬ op=2->Ex.lvl (.mk op nm v ks)=rowOf op:=λ h=>by
   show MI op v=rowOf op;unfold MI;rw [if_neg λ h'=>h h'.1]
  rcases RB ho with ⟨cq,rfl⟩ | ⟨cq,k,rfl⟩ | ⟨cq,k,k',rfl⟩
  ·rcases cq with rfl | rfl
   ·refine Aj (λ _=>⟨_,S1.cell 0 rfl rfl,?_,S1.Ag⟩) (λ h=>absurd rfl h);rw [AeB,jW (by decide)];rfl
   ·refine Aj (λ h=>absurd (show (2:Int)=_ from h) (by decide)) (λ _=>Aj (λ _=>⟨_,S1.cell 0 rfl rfl,_,S1.cell 0 rfl rfl,_,S1.cell 0 rfl rfl,(Tk (E.grown S1.Ag) v hv).mono ?_⟩) (λ h=>absurd rfl h));rintro _ w2 ⟨_,rfl,rfl,B2⟩;have S2:=S1.grown B2;rw [Ye (v:=v) (MM.1 ho).2.2.2,Aaf];refine⟨_,_,rfl,_,S2.cell 0 rfl rfl,Aa (λ h=>⟨?_,S2.Ag⟩) (λ h=>⟨?_,S2.Ag⟩)⟩
    ·have:Ex.lvl (.mk 2 nm v [])=8:=by
      show MI 2 v=8;unfold MI;rw [if_pos ⟨rfl,h⟩]
     rw [this]
    ·have:Ex.lvl (.mk 2 nm v [])=9:=by
      show MI 2 v=9;unfold MI;rw [if_neg λ h'=>h h'.2];rfl
     rw [this]
  ·have dQ:k.size<=400:=by simp only [Ex.size,Ex.KF] at aU;omega
   have gI:=hk k (by simp);have fI:=ih k (by simp) d gI dQ;have hs:=Hk gI dQ;obtain⟨p,a3,aN,rfl,bF,c0,c1,c2,c3,c4,c5⟩:=QU (aP.grown S1.Ag) hkids (i:=0) (by simp);change XC w k (An k a3 aN) at bF;rcases cq with rfl | rfl | rfl | rfl
   ·refine Aj (λ h=>absurd (show (8:Int)=_ from h) (by decide)) (λ _=>Aj (λ h=>absurd (show (8:Int)=_ from h) (by decide)) (λ _=>Aj (λ h=>absurd (show (8:Int)=_ from h) (by decide)) (λ _=>Aj (λ h=>absurd (show (8:Int)=_ from h) (by decide)) (λ _=>Aj (λ h=>absurd (show (8:Int)=_ from h) (by decide)) (λ _=>Aj (λ _=>?_) (λ h=>absurd rfl h))))));refine⟨_,_,_,S1.cell 0 rfl rfl,⟨by decide,by show (0:Int)<1;decide⟩,_,c0,_,c1,_,c2,_,c3,_,c4,_,_,_,c5,(fI w1 a3 aN 8 (E.grown S1.Ag) (bF.grown S1.Ag)).mono ?_⟩;rintro _ w6 ⟨_,rfl,rfl,B6⟩;have S6:=S1.grown B6;have K6:=Aq.AQ (F:=λ _=>False) B6;have a8:=atS gI dQ 8;have l8:Ex.lvl (.mk 8 nm v [k])=8:=by rw [jW (by decide)];rfl
    rw [l8,AeD];refine⟨_,rfl,by omega,_,_,_,S6.cell 0 rfl rfl,⟨by decide,by show (0:Int)<1;decide⟩,_,K6.cell c0 (by simp),_,K6.cell c1 (by simp),_,K6.cell c2 (by simp),_,K6.cell c3 (by simp),_,K6.cell c4 (by simp),_,_,_,K6.cell c5 (by simp),S6.PG λ fW bQ _ aQ=>⟨_,aQ.cell 0 rfl rfl,?_⟩⟩;refine Aj (λ h2=>⟨_,aQ.cell 0 rfl rfl,Aj (λ h1=>⟨_,aQ.cell 0 rfl rfl,_,aQ.cell 0 rfl rfl,_,aQ.cell 0 rfl rfl,_,aQ.cell 0 rfl rfl,_,aQ.cell 0 rfl rfl,_,_,_,aQ.cell 0 rfl rfl,(fI bQ a3 aN 1 (E.grown aQ.Ag) (bF.grown aQ.Ag)).mono ?_⟩) (λ h1=>⟨?_,aQ.Ag⟩)⟩) (λ h2=>⟨?_,aQ.Ag⟩)
    ·rintro _ bG ⟨_,rfl,rfl,cS⟩;rw [at_one];refine⟨_,rfl,by omega,by simp only [Akl];omega,?_,(aQ.grown cS).Ag⟩;rw [if_pos (show isNum k.op k.v=true from decide_eq_true ⟨h2,h1⟩)]
    ·rw [if_neg (show ¬ isNum k.op k.v=true from λ h=>h1 (of_decide_eq_true h).2)]
    ·rw [if_neg (show ¬ isNum k.op k.v=true from λ h=>h2 (of_decide_eq_true h).1)]
   ·refine Aj (λ h=>absurd (show (14:Int)=_ from h) (by decide)) (λ _=>Aj (λ h=>absurd (show (14:Int)=_ from h) (by decide)) (λ _=>Aj (λ h=>absurd (show (14:Int)=_ from h) (by decide)) (λ _=>Aj (λ _=>?_) (λ h=>absurd rfl h))));refine⟨_,_,_,S1.cell 0 rfl rfl,⟨by decide,by show (0:Int)<1;decide⟩,_,c0,_,c1,_,c2,_,c3,_,c4,_,_,_,c5,(fI w1 a3 aN 3 (E.grown S1.Ag) (bF.grown S1.Ag)).mono ?_⟩;rintro _ bG ⟨_,rfl,rfl,cS⟩;have tR:=atS gI dQ 3;refine⟨_,rfl,by omega,?_,(S1.grown cS).Ag⟩;rw [AeE,jW (by decide)];rfl
   ·refine Aj (λ h=>absurd (show (15:Int)=_ from h) (by decide)) (λ _=>Aj (λ h=>absurd (show (15:Int)=_ from h) (by decide)) (λ _=>Aj (λ h=>absurd (show (15:Int)=_ from h) (by decide)) (λ _=>Aj (λ h=>absurd (show (15:Int)=_ from h) (by decide)) (λ _=>Aj (λ _=>?_) (λ h=>absurd rfl h)))));refine⟨_,_,_,S1.cell 0 rfl rfl,⟨by decide,by show (0:Int)<1;decide⟩,_,c0,_,c1,_,c2,_,c3,_,c4,_,_,_,c5,(fI w1 a3 aN 5 (E.grown S1.Ag) (bF.grown S1.Ag)).mono ?_⟩;rintro _ bG ⟨_,rfl,rfl,cS⟩;have tS:=atS gI dQ 5;refine⟨_,rfl,by omega,?_,(S1.grown cS).Ag⟩;rw [AcF,jW (by decide)];rfl
   ·refine Aj (λ h=>absurd (show (16:Int)=_ from h) (by decide)) (λ _=>Aj (λ h=>absurd (show (16:Int)=_ from h) (by decide)) (λ _=>Aj (λ _=>?_) (λ h=>absurd rfl h)));refine⟨_,_,_,S1.cell 0 rfl rfl,⟨by decide,by show (0:Int)<1;decide⟩,_,c0,_,c1,_,c2,_,c3,_,c4,_,_,_,c5,(fI w1 a3 aN 1 (E.grown S1.Ag) (bF.grown S1.Ag)).mono ?_⟩;rintro _ bG ⟨_,rfl,rfl,cS⟩;rw [at_one];refine⟨_,rfl,by omega,by simp only [Akl];omega,?_,(S1.grown cS).Ag⟩;rw [AeC,jW (by decide)];rfl
  ·have dQ:k.size<=400/\k'.size<=400:=by simp only [Ex.size,Ex.KF] at aU;omega
   have gI:=hk k (by simp);have iX:=hk k' (by simp);have fI:=ih k (by simp) d gI dQ.1;have nL:=ih k' (by simp) d iX dQ.2;have hs:=Hk gI dQ.1;have eC:=Hk iX dQ.2;refine Aj (λ h=>by change op=1 at h;omega) (λ _=>Aj (λ h=>by change op=2 at h;omega) (λ _=>Aj (λ h=>by change op=16 at h;omega) (λ _=>Aj (λ h=>by change op=14 at h;omega) (λ _=>Aj (λ h=>by change op=15 at h;omega) (λ _=>Aj (λ h=>by change op=8 at h;omega) (λ _=>?_))))));refine⟨_,S1.cell 0 rfl rfl,(MX w1 cq).mono ?_⟩;rintro _ cB ⟨_,rfl,rfl,eV⟩;have au:=S1.grown eV;refine⟨_,_,rfl,λ st cZ=>st=[.int .i64 (Ee op)]/\cZ=cB,Aj (λ h=>⟨by unfold Ee;rw [if_pos h],rfl⟩) (λ h=>⟨by unfold Ee;rw [if_neg h],rfl⟩),?_⟩;rintro left cZ ⟨kB,rfl⟩;obtain rfl:left=Ee op:=by simpa using kB
   refine au.draw λ cM _ bn=>?_;obtain⟨p,a3,aN,rfl,bF,c0,c1,c2,c3,c4,c5⟩:=QU (aP.grown bn.Ag) hkids (i:=0) (by simp);obtain⟨p',a4,cap4,gM,hxk',d0,d1,d2,d3,d4,d5⟩:=QU (aP.grown bn.Ag) hkids (i:=1) (by simp);cases gM;change XC w k (An k a3 aN) at bF;change XC w k' (An k' a4 cap4) at hxk';refine⟨_,_,_,bn.cell 0 rfl rfl,⟨by decide,by show (0:Int)<2;decide⟩,_,c0,_,c1,_,c2,_,c3,_,c4,_,_,_,c5,_,_,_,bn.cell 0 rfl rfl,⟨by decide,by show (1:Int)<2;decide⟩,_,d0,_,d1,_,d2,_,d3,_,d4,_,_,_,d5,(fI cM a3 aN (Ee op) (E.grown bn.Ag) (bF.grown bn.Ag)).mono ?_⟩;rintro _ cR ⟨_,rfl,rfl,fv⟩;have bN:=bn.grown fv;have j6:=Aq.AQ (F:=λ _=>False) fv;have uM:=Uo op;have al:=atS gI dQ.1 (Ee op);have ar:=atS iX dQ.2 (rowOf op+1);refine⟨_,rfl,⟨j6.cell d0 (by simp),j6.cell d1 (by simp),j6.cell d2 (by simp),j6.cell d3 (by simp),j6.cell d4 (by simp),j6.cell d5 (by simp)⟩,bN.cell 0 rfl rfl,by omega,by simp only [Akl];omega,by simp only [Akl];omega,?_⟩
   have uL:=Acw op;rw [wrap_i64 (by omega) (by omega)];refine (nL cR a4 cap4 (rowOf op+1) (E.grown bN.Ag) (hxk'.grown bN.Ag)).mono ?_;rintro _ fR ⟨_,rfl,rfl,fw⟩;refine⟨_,rfl,by simp only [Akl];omega,?_,(bN.grown fw).Ag⟩;rw [AeF cq,jW (by omega)]
theorem YK(x:ByteArray):x++E0=x:=ByteArray.append_empty
theorem WD(x:ByteArray)(l:List ByteArray):I9 (x :: l)=x++Dz (Lib.joinTail [44,32] (l.map bl)):=by
 induction l generalizing x with
 | nil=>exact (YK x).symm
 | cons y l ih =>
  show x++⟨#[44,32]⟩++I9 (y :: l)=_;rw [ih y];have e:Dz (Lib.joinTail [44,32] ((y :: l).map bl))=⟨#[44,32]⟩++(y++Dz (Lib.joinTail [44,32] (l.map bl))):=by
   rw [show (AjP #[44,32])=Dz [44,32] from rfl]
   conv=>rhs;rw [<- Fs y]
   rw [Gy,Gy];simp [Lib.joinTail]
  rw [e,ByteArray.append_assoc]
theorem OM(l:List ByteArray):I9 l=Dz (Lib.join (l.map bl) [44,32]):=by
 cases l with
 | nil=>rfl
 | cons x l =>
  rw [WD,List.map_cons,Lib.join_cons]
  conv=>lhs;rw [<- Fs x]
  rw [Gy]
theorem DV{B:Nat}:∀(l:List ByteArray),(∀ x∈l,x.size<=B)->(I9 l).size<=l.length*(B+2)
 | [],_=>by show 0<=_;exact Nat.zero_le _
 | [x],h=>by have:=h x (by simp);show x.size<=_;simp;omega
 | x :: y :: l,h=>by
  have h1:=h x (by simp);have h2:=DV (y :: l) λ z hz=>h z (by simp [hz]);show (x++⟨#[44,32]⟩++I9 (y :: l)).size<=_;have e:(AjP #[44,32]).size=2:=rfl;rw [Akl,Akl,e,List.length_cons,Nat.add_mul];omega
theorem JY{B:Nat}(head:ByteArray)(l:List ByteArray)(h:∀ x∈l,x.size<=B):(Gg head l).size<=head.size+l.length*(B+2):=by
 unfold Gg;split
 ·exact Nat.zero_le _
 ·rw [Akl];have:=DV l h;omega
section
variable {w0 w:World}{H:List It}{a:Option Addr}{c:Nat}
theorem Vs(S:ST w0 w H)(n:Nat){xs:List ByteArray}(hn:H[n]?=some (Du a c xs))(h1:xs≠[])(hl:xs.length<=100)(hs:∀ x∈xs,x.size<=1000000):Calls Tryz.prog f.strings_Join #[.slice a xs.length c,.string ⟨#[44,32]⟩] w (AD λ v w'=>v=.string (I9 xs)/\Below w.heap.size w w'):=by
 have hR:Row w ty.string 1 a xs.length c (xs.map Value.string):=S.get n hn;rcases hR.2 with ⟨_,h,_⟩ | ⟨g,cur,rfl,hg,av,_,_,_⟩
 ·exact absurd (List.eq_nil_of_length_eq_zero h) h1
 ·have hj:(Lib.join (xs.map bl) [44,32]).length<=140737488355328:=by
   have h2:=DV xs hs;rw [OM,BL] at h2;have h3:xs.length*(1000000+2)<=100*(1000000+2):=Ajq _ hl;omega
  refine (Tryz.strings_Join g 0 c xs ⟨#[44,32]⟩ w (λ j x hx=>?_) (Array.getElem?_eq_some_iff.1 hg).1 (by omega) av hj).mono ?_
  ·obtain⟨p,hp,hc⟩:=hR.rd j (.string x) (by rw [List.getElem?_map,hx];rfl);cases hp;rw [Ar] at hc;exact hc
  ·rintro _ w' ⟨rfl,B⟩;exact⟨_,rfl,by rw [OM];rfl,B⟩
end
theorem MS{w0:World}{w:World}(head:ByteArray){a:Option Addr}{c0:Nat}{rs:List Value}{l:List F4}(hl:Rd w a rs)(hC:Ax (LX (λ _=>False) w0) l rs)(hn:l.length<=100){fn:FuncId}{fi ca:Array Value}(aY:enters Tryz.prog fn=true)(g:F4->ByteArray)(hh:head.size<=1000)(hs:∀ x∈l,(g x).size<=1000000)
  (hf:∀ w' x c,Below w.heap.size w w'->x∈l->(LX (λ _=>False) w0) x c->Calls Tryz.prog fn ⟨fi.toList++[.agg ⟨c⟩]++ca.toList⟩ w' (AD λ r aR=>r=.string (g x)/\Below w'.heap.size w' aR)) :
  Calls Tryz.prog f.JA #[.string head,.slice a l.length c0,.func (.func fn) fi ca] w (AD λ r w'=>r=.string (Gg head (l.map g))/\Below w.heap.size w w'):=by
 apply R.Gn
 delta R.A R.Ab R.Ct R.E R.F R.I R.J R.Ks R.Li R.Ls R.Lt R.N R.O R.J2 R.S R.Ae R.T R.W R.X;try dsimp only [R.Ps]
 refine⟨λ st w1=>∃(i:Nat) (oa:Option Addr) (oc:Nat),st=[.slice oa ((l.take i).map g).length oc,.int .i64 (i:Int)]/\i<=l.length/\ST w w1 [Du oa oc ((l.take i).map g)],λ st _=>match st with | [_,.int _ t]=>l.length-t.toNat | _=>0,⟨0,none,0,rfl,by omega,(ST.start w).nil ty.string 1⟩,?_⟩;rintro oa ol oc t w1 ⟨i,pj,pk,aA,hi,S1⟩;cases aA;refine Aa (λ aB=>⟨⟨by omega,aB⟩,?_⟩) (λ aM=>?_)
 ·have aE:i<l.length:=by omega
  obtain⟨q,c,rfl,hc,cell⟩:=Ei (n:=8) (λ x c h=>LX.len h) (by decide) (hl.grown S1.Ag) hC aE;have cE:=hc;obtain⟨ce,rfl,hx,hy⟩:=id hc;obtain⟨a9,cap9,_,rfl,_⟩:=DT.open hx;refine⟨_,by rw [Ajz];exact cell 0 _ rfl,_,by rw [Ajz];exact cell 1 _ rfl,_,by rw [Ajz];exact cell 2 _ rfl,_,by rw [Ajz];exact cell 3 _ rfl,_,by rw [Ajz];exact cell 4 _ rfl,_,by rw [Ajz];exact cell 5 _ rfl,_,by rw [Ajz];exact cell 6 _ rfl,_,_,_,by rw [Ajz];exact cell 7 _ rfl,(S1.Vz λ gX w2 _ S2=>?_)⟩;refine⟨_,S2.cell 0 rfl rfl,_,S2.cell 0 rfl rfl,_,S2.cell 0 rfl rfl,_,S2.cell 0 rfl rfl,_,S2.cell 0 rfl rfl,_,S2.cell 0 rfl rfl,_,S2.cell 0 rfl rfl,_,_,_,S2.cell 0 rfl rfl,?_⟩;rw [aY];refine (hf w2 _ _ S2.Ag (Akg aE) cE).mono ?_;rintro _ bm ⟨_,rfl,rfl,dC⟩;have aW:=S2.grown dC;have dk:(l.take (i+1)).map g=(l.take i).map g++[g l[i]]:=by rw [Akj aE,Akv];rfl
  have hlen:((l.take i).map g).length=i:=by simp;omega
  refine⟨_,rfl,aW.Ak λ lF cI _ _ bM=>Qk bM 2 rfl (ys:=[g l[i]]) (mm:=1) rfl (bM.rdc 0 rfl) (by omega) λ a' c' bQ aQ=>⟨_,_,_,rfl,?_,?_⟩⟩
  ·rw [<- dk] at aQ ⊢;exact⟨i+1,a',c',by rw [Ah (by omega)],by omega,aQ.drop 2⟩
  ·show l.length-(IntKind.i64.wrap ((i:Int)+1)).toNat<l.length-((i:Nat):Int).toNat;rw [Ah (by omega)];simp only [Ajz];omega
 ·obtain rfl:i=l.length:=by omega
  rw [AkI] at S1 ⊢;refine Aj (λ h=>⟨?_,S1.Ag⟩) (λ h=>(Vs S1 0 rfl (λ e=>h (by rw [e];rfl)) (by simpa using hn) (λ x hx=>by obtain⟨y,hy,rfl⟩:=Ajb.1 hx;exact hs y hy)).mono ?_)
  ·unfold Gg;rw [if_pos (by omega)]
  ·rintro _ bG ⟨_,rfl,rfl,cS⟩;have hz:=DV (B:=1000000) (l.map g) (λ x hx=>by obtain⟨y,hy,rfl⟩:=Ajb.1 hx;exact hs y hy);rw [AjM] at hz;have h3:l.length*(1000000+2)<=100*(1000000+2):=Ajq _ hn;refine⟨_,rfl,by omega,?_,(S1.grown cS).Ag⟩;unfold Gg;rw [if_neg (by omega)]
theorem GP{w0:World}{w:World}(head:ByteArray){a:Option Addr}{c0:Nat}{rs:List Value}{l:List Ex}(hl:Rd w a rs)(hC:Ax (DT (λ _=>False) w0) l rs)(hn:l.length<=100){fn:FuncId}{fi ca:Array Value}(aY:enters Tryz.prog fn=true)(g:Ex->ByteArray)(hh:head.size<=1000)(hs:∀ x∈l,(g x).size<=1000000)
  (hf:∀ w' x c,Below w.heap.size w w'->x∈l->(DT (λ _=>False) w0) x c->Calls Tryz.prog fn ⟨fi.toList++[.agg ⟨c⟩]++ca.toList⟩ w' (AD λ r aR=>r=.string (g x)/\Below w'.heap.size w' aR)) :
  Calls Tryz.prog f.Jz #[.string head,.slice a l.length c0,.func (.func fn) fi ca] w (AD λ r w'=>r=.string (Gg head (l.map g))/\Below w.heap.size w w'):=by
 apply R.Gm
 delta R.A R.Ab R.Ct R.E R.F R.I R.J R.Ks R.Li R.Ls R.Lt R.N R.O R.J2 R.S R.Ae R.T R.W R.X;try dsimp only [R.Ps]
 refine⟨λ st w1=>∃(i:Nat) (oa:Option Addr) (oc:Nat),st=[.slice oa ((l.take i).map g).length oc,.int .i64 (i:Int)]/\i<=l.length/\ST w w1 [Du oa oc ((l.take i).map g)],λ st _=>match st with | [_,.int _ t]=>l.length-t.toNat | _=>0,⟨0,none,0,rfl,by omega,(ST.start w).nil ty.string 1⟩,?_⟩;rintro oa ol oc t w1 ⟨i,pj,pk,aA,hi,S1⟩;cases aA;refine Aa (λ aB=>⟨⟨by omega,aB⟩,?_⟩) (λ aM=>?_)
 ·have aE:i<l.length:=by omega
  obtain⟨q,c,rfl,hc,cell⟩:=Ei (n:=6) (λ x c h=>DT.len h) (by decide) (hl.grown S1.Ag) hC aE;have cE:=hc;obtain⟨a9,cap9,_,rfl,_⟩:=DT.open hc;refine⟨_,by rw [Ajz];exact cell 0 _ rfl,_,by rw [Ajz];exact cell 1 _ rfl,_,by rw [Ajz];exact cell 2 _ rfl,_,by rw [Ajz];exact cell 3 _ rfl,_,by rw [Ajz];exact cell 4 _ rfl,_,_,_,by rw [Ajz];exact cell 5 _ rfl,(S1.PG λ gX w2 _ S2=>?_)⟩;refine⟨_,S2.cell 0 rfl rfl,_,S2.cell 0 rfl rfl,_,S2.cell 0 rfl rfl,_,S2.cell 0 rfl rfl,_,S2.cell 0 rfl rfl,_,_,_,S2.cell 0 rfl rfl,?_⟩;rw [aY];refine (hf w2 _ _ S2.Ag (Akg aE) cE).mono ?_;rintro _ bm ⟨_,rfl,rfl,dC⟩;have aW:=S2.grown dC;have dk:(l.take (i+1)).map g=(l.take i).map g++[g l[i]]:=by rw [Akj aE,Akv];rfl
  have hlen:((l.take i).map g).length=i:=by simp;omega
  refine⟨_,rfl,aW.Ak λ lF cI _ _ bM=>Qk bM 2 rfl (ys:=[g l[i]]) (mm:=1) rfl (bM.rdc 0 rfl) (by omega) λ a' c' bQ aQ=>⟨_,_,_,rfl,?_,?_⟩⟩
  ·rw [<- dk] at aQ ⊢;exact⟨i+1,a',c',by rw [Ah (by omega)],by omega,aQ.drop 2⟩
  ·show l.length-(IntKind.i64.wrap ((i:Int)+1)).toNat<l.length-((i:Nat):Int).toNat;rw [Ah (by omega)];simp only [Ajz];omega
 ·obtain rfl:i=l.length:=by omega
  rw [AkI] at S1 ⊢;refine Aj (λ h=>⟨?_,S1.Ag⟩) (λ h=>(Vs S1 0 rfl (λ e=>h (by rw [e];rfl)) (by simpa using hn) (λ x hx=>by obtain⟨y,hy,rfl⟩:=Ajb.1 hx;exact hs y hy)).mono ?_)
  ·unfold Gg;rw [if_pos (by omega)]
  ·rintro _ bG ⟨_,rfl,rfl,cS⟩;have hz:=DV (B:=1000000) (l.map g) (λ x hx=>by obtain⟨y,hy,rfl⟩:=Ajb.1 hx;exact hs y hy);rw [AjM] at hz;have h3:l.length*(1000000+2)<=100*(1000000+2):=Ajq _ hn;refine⟨_,rfl,by omega,?_,(S1.grown cS).Ag⟩;unfold Gg;rw [if_neg (by omega)]
theorem Od{w:World}(head:ByteArray){a:Option Addr}{c0:Nat}{rs:List Value}{l:List (Int × Bool)}(hl:Rd w a rs)(hC:Ax (Lh) l rs)(hn:l.length<=100){fn:FuncId}{fi ca:Array Value}(aY:enters Tryz.prog fn=true)(g:(Int × Bool)->ByteArray)(hh:head.size<=1000)(hs:∀ x∈l,(g x).size<=1000000)
  (hf:∀ w' x c,Below w.heap.size w w'->x∈l->(Lh) x c->Calls Tryz.prog fn ⟨fi.toList++[.agg ⟨c⟩]++ca.toList⟩ w' (AD λ r aR=>r=.string (g x)/\Below w'.heap.size w' aR)) :
  Calls Tryz.prog f.Kd #[.string head,.slice a l.length c0,.func (.func fn) fi ca] w (AD λ r w'=>r=.string (Gg head (l.map g))/\Below w.heap.size w w'):=by
 apply R.GD
 delta R.A R.Ab R.Ct R.E R.F R.G R.I R.J R.Ks R.Lb R.Li R.N R.O R.J2 R.S R.Ae R.T R.W R.X;try dsimp only [R.Ps]
 refine⟨λ st w1=>∃(i:Nat) (oa:Option Addr) (oc:Nat),st=[.slice oa ((l.take i).map g).length oc,.int .i64 (i:Int)]/\i<=l.length/\ST w w1 [Du oa oc ((l.take i).map g)],λ st _=>match st with | [_,.int _ t]=>l.length-t.toNat | _=>0,⟨0,none,0,rfl,by omega,(ST.start w).nil ty.string 1⟩,?_⟩;rintro oa ol oc t w1 ⟨i,pj,pk,aA,hi,S1⟩;cases aA;refine Aa (λ aB=>⟨⟨by omega,aB⟩,?_⟩) (λ aM=>?_)
 ·have aE:i<l.length:=by omega
  obtain⟨q,c,rfl,hc,cell⟩:=Ei (n:=2) (λ x c h=>Xl h) (by decide) (hl.grown S1.Ag) hC aE;have cE:=hc;obtain rfl:=hc.1;refine⟨_,by rw [Ajz];exact cell 0 _ rfl,_,by rw [Ajz];exact cell 1 _ rfl,(S1.Ak λ gX uR _ _ S2a=>S2a.BA 0 rfl (by simp) rfl λ uS S2b=>S2b.BA 0 rfl (by simp) rfl λ w2 S2=>?_)⟩;refine⟨_,S2.cell 0 rfl rfl,_,S2.cell 0 rfl rfl,?_⟩;rw [aY];refine (hf w2 _ _ S2.Ag (Akg aE) cE).mono ?_;rintro _ bm ⟨_,rfl,rfl,dC⟩;have aW:=S2.grown dC;have dk:(l.take (i+1)).map g=(l.take i).map g++[g l[i]]:=by rw [Akj aE,Akv];rfl
  have hlen:((l.take i).map g).length=i:=by simp;omega
  refine⟨_,rfl,aW.Ak λ lF cI _ _ bM=>Qk bM 2 rfl (ys:=[g l[i]]) (mm:=1) rfl (bM.rdc 0 rfl) (by omega) λ a' c' bQ aQ=>⟨_,_,_,rfl,?_,?_⟩⟩
  ·rw [<- dk] at aQ ⊢;exact⟨i+1,a',c',by rw [Ah (by omega)],by omega,aQ.drop 2⟩
  ·show l.length-(IntKind.i64.wrap ((i:Int)+1)).toNat<l.length-((i:Nat):Int).toNat;rw [Ah (by omega)];simp only [Ajz];omega
 ·obtain rfl:i=l.length:=by omega
  rw [AkI] at S1 ⊢;refine Aj (λ h=>⟨?_,S1.Ag⟩) (λ h=>(Vs S1 0 rfl (λ e=>h (by rw [e];rfl)) (by simpa using hn) (λ x hx=>by obtain⟨y,hy,rfl⟩:=Ajb.1 hx;exact hs y hy)).mono ?_)
  ·unfold Gg;rw [if_pos (by omega)]
  ·rintro _ bG ⟨_,rfl,rfl,cS⟩;have hz:=DV (B:=1000000) (l.map g) (λ x hx=>by obtain⟨y,hy,rfl⟩:=Ajb.1 hx;exact hs y hy);rw [AjM] at hz;have h3:l.length*(1000000+2)<=100*(1000000+2):=Ajq _ hn;refine⟨_,rfl,by omega,?_,(S1.grown cS).Ag⟩;unfold Gg;rw [if_neg (by omega)]
theorem JE{x:Ex}(h:BG x=true):x.size<=400:=by
 simp only [BG,Ex.formed,Ai6,decide_eq_true_eq] at h;exact h.1.2
theorem Gs{i:F4}:BF i=true↔Ib i.1=true/\(0<=i.2.1/\i.2.1<=5)/\(if i.2.1=1 then OK i.2.2 else BG i.2.2)=true:=by
 simp only [BF,Ai6,decide_eq_true_eq,and_assoc]
theorem M8{i:F4}(h:BF i=true)(h1:¬ i.2.1=1):BG i.2.2=true:=by
 have:=(Gs.1 h).2.2;rwa [if_neg h1] at this
theorem Wr(a:Int):(L8 a).size<=5:=by
 unfold L8;split
 ·decide
 ·split
  ·decide
  ·split <;> decide
theorem Zz{i:F4}(h:BF i=true)(hf:i.2.2.fit):(Kw i).size<=840100:=by
 have hn:=GO (Gs.1 h).1;have e1:(AjP #[32,97,115,32]).size=4:=rfl;have e2:(AjP #[99,111,117,110,116,40,42,41]).size=8:=rfl;have e3:(AjP #[40]).size=1:=rfl;have e4:(AjP #[41]).size=1:=rfl;have ha:=Wr i.2.1;unfold Kw;rw [Akl,Akl];by_cases h0:i.2.1=0
 ·rw [if_pos h0];have:=D0 (M8 h (by omega)) hf;omega
 ·rw [if_neg h0];by_cases h1:i.2.1=1
  ·rw [if_pos h1];omega
  ·rw [if_neg h1];have:=D0 (M8 h h1) hf;simp only [Akl];omega
theorem TK{w:World}(E:Env w){a:Int}(h1:2<=a)(h2:a<=5):w.cell? ((⟨1,0,none⟩:Addr).add (a.toNat*1))=some (.string (L8 a)):=by
 obtain⟨n,rfl⟩:∃ n:Nat,a=n:=⟨a.toNat,by omega⟩;have hn:n=2\/n=3\/n=4\/n=5:=by omega
 rw [Ajz,Nat.mul_one];have:Jh[n]?=some (.string (L8 n)):=by rcases hn with rfl | rfl | rfl | rfl <;> rfl
 obtain⟨p,hp,hc⟩:=E.gat n _ this;cases hp;exact hc
section
variable {w:World}{i:F4}{a:Option Addr}{cap:Nat}
theorem Lz(E:Env w)(hx:XC w i.2.2 (An i.2.2 a cap))(hr:BF i=true):Calls Tryz.prog f.PO #[.agg ⟨Vr i a cap⟩] w (AD λ r w'=>r=.string (Kw i)/\Below w.heap.size w w'):=by
 apply R.IJ
 delta R.A R.Ab R.Ct R.D R.E R.F R.I R.Li R.Ls R.Lt R.N R.S R.T R.X;try dsimp only [R.Ps]
 have hn:=GO (Gs.1 hr).1;have e1:(AjP #[32,97,115,32]).size=4:=rfl;have e2:(AjP #[99,111,117,110,116,40,42,41]).size=8:=rfl;have e3:(AjP #[40]).size=1:=rfl;have e4:(AjP #[41]).size=1:=rfl;have ha:=Wr i.2.1;have uA:=(Gs.1 hr).2.1;refine (ST.start w).Ak λ b9 w1 _ _ S1=>⟨_,S1.cell 0 rfl rfl,Aj (λ h0=>?_) (λ h0=>Aj (λ h1=>⟨by omega,_,S1.cell 0 rfl rfl,by rw [Akl];omega,?_,S1.Ag⟩) (λ h1=>S1.draw λ w3 _ S3=>?_))⟩
 ·have hX:=M8 hr (by omega);have ht:=D0 hX hx.fit;refine⟨_,S1.cell 0 rfl rfl,_,S1.cell 0 rfl rfl,_,S1.cell 0 rfl rfl,_,S1.cell 0 rfl rfl,_,S1.cell 0 rfl rfl,_,_,_,S1.cell 0 rfl rfl,(Gp i.2.2 40 (GQ hX hx.fit) (JE hX) w1 a cap 1 (E.grown S1.Ag) (hx.grown S1.Ag)).mono ?_⟩;rintro _ w2 ⟨_,rfl,rfl,B2⟩;have S2:=S1.grown B2;rw [at_one];refine⟨_,rfl,by omega,_,S2.cell 0 rfl rfl,by rw [Akl];omega,?_,S2.Ag⟩;unfold Kw;rw [if_pos h0]
 ·unfold Kw;rw [if_neg h0,if_pos h1]
 ·have hX:=M8 hr h1;have ht:=D0 hX hx.fit;have hg:=TK (E.grown S3.Ag) (a:=i.2.1) (by omega) (by omega);refine⟨_,S3.cell 0 rfl rfl,⟨by omega,by omega⟩,_,hg,by omega,?_⟩;refine⟨_,S3.cell 0 rfl rfl,_,S3.cell 0 rfl rfl,_,S3.cell 0 rfl rfl,_,S3.cell 0 rfl rfl,_,S3.cell 0 rfl rfl,_,_,_,S3.cell 0 rfl rfl,(Gp i.2.2 40 (GQ hX hx.fit) (JE hX) w3 a cap 1 (E.grown S3.Ag) (hx.grown S3.Ag)).mono ?_⟩;rintro _ w4 ⟨_,rfl,rfl,B4⟩;have S4:=S3.grown B4;rw [at_one];refine⟨_,rfl,TK (E.grown S4.Ag) (by omega) (by omega),S4.cell 0 rfl rfl,by rw [Akl];omega,by simp only [Akl];omega,by simp only [Akl];omega,_,S4.cell 0 rfl rfl,by simp only [Akl];omega,?_,S4.Ag⟩;unfold Kw;rw [if_neg h0,if_neg h1]
end
theorem Vt{l:List F4}{k:Int × Bool}{i:Nat}(hi:i<l.length)(hk:k.1=i):Xn l k=l[i].1++if k.2 then ⟨#[32,100,101,115,99]⟩ else E0:=by
 unfold Xn;rw [hk,Ajz,List.getD_eq_getElem?_getD,List.getElem?_eq_getElem hi];rfl
section
variable {w:World}{q:Qu}{ai aw ag ao:Option Addr}{ci cw cg co:Nat}
theorem Yf{w0:World}{H:List It}{b:Nat}(n:Nat)(Q:V4 w q ai aw ag ao)(S:ST w0 w H)(hn:H[n]?=some (Iz b q ai aw ag ao ci cw cg co))(k:Int × Bool)(hk:Eh q.it k.1=true)(aU:∀ i∈q.it,i.1.size<=24) :
  Calls Tryz.prog f.SW #[.agg #[.int .i64 k.1,.bool k.2],.pointer (some ⟨b,0,none⟩)] w (AD λ r w'=>r=.string (Xn q.it k)/\Below w.heap.size w w'):=by
 apply R.Kb
 delta R.A R.Ab R.F R.G R.I R.Lb R.Li R.Ls R.Lt R.N R.T R.X;try dsimp only [R.Ps]
 obtain⟨rs,aP,hC⟩:=Q.it;obtain⟨i,hi,he,_⟩:=Ih.1 hk;have e1:(AjP #[32,100,101,115,99]).size=5:=rfl;refine (ST.start w).Ak λ b4 w1 _ B1 S1=>?_;have T1:=S.grown S1.Ag;obtain⟨p,hp,hc⟩:=AaV (aP.grown S1.Ag) hC hi;subst hp;have hz:=aU q.it[i] (Akg hi);refine⟨_,S1.cell 0 rfl rfl,Ao (λ hd=>⟨_,_,_,T1.cell n hn rfl,_,S1.cell 0 rfl rfl,⟨by omega,by omega⟩,_,by rw [he,Ajz];exact hc,by omega,?_,S1.Ag⟩) (λ hd=>⟨_,_,_,T1.cell n hn rfl,_,S1.cell 0 rfl rfl,⟨by omega,by omega⟩,_,by rw [he,Ajz];exact hc,?_,S1.Ag⟩)⟩
 ·rw [Vt hi he,hd];rfl
 ·rw [Vt hi he,hd];congr 1;exact (YK _).symm
theorem Acd{l:List F4}(aU:∀ i∈l,i.1.size<=24){k:Int × Bool}(hk:Eh l k.1=true):(Xn l k).size<=29:=by
 obtain⟨i,hi,he,_⟩:=Ih.1 hk;rw [Vt hi he,Akl];have:=aU _ (Akg hi);have e1:(AjP #[32,100,101,115,99]).size=5:=rfl;split
 ·omega
 ·show _+0<=_;omega
theorem Nl{w:World}{x:Ex}{a:Option Addr}{cap:Nat}(E:Env w)(hx:XC w x (An x a cap))(hr:BG x=true):Calls Tryz.prog f.SV #[.agg ⟨An x a cap⟩] w (AD λ r w'=>r=.string x.text/\Below w.heap.size w w'):=by
 apply R.Ka
 delta R.A R.Ab R.Ct R.E R.I R.Li R.Ls R.Lt R.N R.S R.T;try dsimp only [R.Ps]
 refine (ST.start w).Ak λ b7 w1 _ _ S1=>⟨_,S1.cell 0 rfl rfl,_,S1.cell 0 rfl rfl,_,S1.cell 0 rfl rfl,_,S1.cell 0 rfl rfl,_,S1.cell 0 rfl rfl,_,_,_,S1.cell 0 rfl rfl,(Gp x 40 (GQ hr hx.fit) (JE hr) w1 a cap 1 (E.grown S1.Ag) (hx.grown S1.Ag)).mono ?_⟩;rintro _ w2 ⟨_,rfl,rfl,B2⟩;rw [at_one];exact⟨_,rfl,rfl,(S1.grown B2).Ag⟩
def Pc(q:Qu):Value:=if EE q=true then .tuple #[.string (quT q),.int .i64 0] else .tuple #[.string ⟨#[]⟩,.int .i64 110]
theorem X0{w:World}{l:List Ex}{rs:List Value}(h:Ax (DT (λ _=>False) w) l rs):∀ x∈l,x.fit:=by
 intro x hx;obtain⟨i,hi,rfl⟩:=List.mem_iff_getElem.1 hx;exact (h.get (n:=6) (λ x c h=>DT.len h) i hi).fit
theorem Aca{w:World}{l:List F4}{rs:List Value}(h:Ax (LX (λ _=>False) w) l rs):∀ x∈l,x.2.2.fit:=by
 intro x hx;obtain⟨i,hi,rfl⟩:=List.mem_iff_getElem.1 hx;obtain⟨c,_,h,_⟩:=h.get (n:=8) (λ x c h=>LX.len h) i hi;exact h.fit
structure Bnd(q:Qu):Prop where
 it:∀ i∈q.it,(Kw i).size<=1000000
 wh:∀ x∈q.wh,x.text.size<=1000000
 gr:∀ x∈q.gr,x.text.size<=1000000
 od:∀ k∈q.od,(Xn q.it k).size<=1000000
 nm:∀ i∈q.it,i.1.size<=24
theorem V4.bnd(Q:V4 w q ai aw ag ao)(h:Fq q=true):Bnd q:=by
 obtain⟨hn,hi,hw,hg,ho⟩:=DQ.1 h;obtain⟨ri,_,hCi⟩:=Q.it;obtain⟨rw_,_,hCw⟩:=Q.wh;obtain⟨rg,_,hCg⟩:=Q.gr;have hz:∀ i∈q.it,i.1.size<=24:=λ i h=>GO (Gs.1 (hi i h)).1;refine⟨λ i h=>?_,λ x h=>?_,λ x h=>?_,λ k h=>?_,hz⟩
 ·have:=Zz (hi i h) (Aca hCi i h);omega
 ·have:=D0 (hw x h) (X0 hCw x h);omega
 ·have:=D0 (hg x h) (X0 hCg x h);omega
 ·have:=Acd hz (ho k h);omega
theorem KC(E:Env w)(Q:V4 w q ai aw ag ao):Calls Tryz.prog f.ZW #[.agg ⟨quL q ai aw ag ao ci cw cg co⟩] w (AD λ r w'=>r=Pc q/\Below w.heap.size w w'):=by
 apply R.Ol
 delta R.A R.Ab R.Cb R.Ct R.D R.E R.F R.H R.I R.J R.Li R.Ls R.N R.P R.S R.T R.Zt;try dsimp only [R.Ps]
 refine (ST.start w).Ak λ b6 w1 _ _ S1=>?_;have S1:ST w w1 [Iz b6 q ai aw ag ao ci cw cg co]:=S1;refine⟨_,_,_,S1.cell 0 rfl rfl,_,_,_,S1.cell 0 rfl rfl,_,_,_,S1.cell 0 rfl rfl,_,_,_,S1.cell 0 rfl rfl,_,S1.cell 0 rfl rfl,(SZ (E.grown S1.Ag) (Q.grown S1.Ag) (ci:=ci) (cw:=cw) (cg:=cg) (co:=co)).mono ?_⟩;rintro _ w2 ⟨_,rfl,rfl,B2⟩;have S2:=S1.grown B2;refine⟨_,rfl,Ap (Ao (λ hs=>S2.draw λ w3 _ S3=>⟨_,_,_,S3.cell 0 rfl rfl,_,_,_,S3.cell 0 rfl rfl,_,_,_,S3.cell 0 rfl rfl,?_⟩) (λ hs=>⟨by unfold Pc;rw [if_neg (by simp [EE,hs])],S2.Ag⟩))⟩;obtain⟨hn,hi,hw,hg,ho⟩:=DQ.1 hs;have bd:=Q.bnd hs;obtain⟨ri,dH,hCi⟩:=Q.it;obtain⟨rw_,hrw,hCw⟩:=Q.wh;obtain⟨rg,hrg,hCg⟩:=Q.gr;obtain⟨ro,eo,hCo⟩:=Q.od;refine (MS ⟨#[115,101,108,101,99,116,32]⟩ (dH.grown S3.Ag) hCi (by omega) (by kernel_rfl) Kw (by decide) bd.it ?_).mono ?_
 ·rintro w4 x cs B4 hx ⟨ce,rfl,fp,hy⟩;obtain⟨a9,cap9,_,rfl,_⟩:=DT.open fp;exact Lz (i:=x) ((E.grown S3.Ag).grown B4) ((fp.grown S3.Ag).grown B4) (hi x hx)
 rintro _ w4 ⟨_,rfl,rfl,B4⟩;have S4:=S3.grown B4;refine⟨_,rfl,S4.cell 0 rfl rfl,S4.cell 0 rfl rfl,(GP ⟨#[32,119,104,101,114,101,32]⟩ (hrw.grown S4.Ag) hCw (by omega) (by kernel_rfl) Ex.text (by decide) bd.wh ?_).mono ?_⟩
 ·rintro w5 x cs B5 hx fp;obtain⟨a9,cap9,_,rfl,_⟩:=DT.open fp;exact Nl ((E.grown S4.Ag).grown B5) ((fp.grown S4.Ag).grown B5) (hw x hx)
 rintro _ w5 ⟨_,rfl,rfl,B5⟩;have S5:=S4.grown B5;have z1:=JY (B:=1000000) ⟨#[115,101,108,101,99,116,32]⟩ (q.it.map Kw) (λ x hx=>by obtain⟨y,hy,rfl⟩:=Ajb.1 hx;exact bd.it y hy);have z2:=JY (B:=1000000) ⟨#[32,119,104,101,114,101,32]⟩ (q.wh.map Ex.text) (λ x hx=>by obtain⟨y,hy,rfl⟩:=Ajb.1 hx;exact bd.wh y hy);have z3:=JY (B:=1000000) ⟨#[32,103,114,111,117,112,32,98,121,32]⟩ (q.gr.map Ex.text) (λ x hx=>by obtain⟨y,hy,rfl⟩:=Ajb.1 hx;exact bd.gr y hy);have z4:=JY (B:=1000000) ⟨#[32,111,114,100,101,114,32,98,121,32]⟩ (q.od.map (Xn q.it)) (λ x hx=>by obtain⟨y,hy,rfl⟩:=Ajb.1 hx;exact bd.od y hy);rw [AjM] at z1 z2 z3 z4;have f1:(AjP #[115,101,108,101,99,116,32]).size=7:=rfl;have f2:(AjP #[32,119,104,101,114,101,32]).size=7:=rfl;have f3:(AjP #[32,103,114,111,117,112,32,98,121,32]).size=10:=rfl;have f4:(AjP #[32,111,114,100,101,114,32,98,121,32]).size=10:=rfl;have m1:q.it.length*(1000000+2)<=16*(1000000+2):=Ajq _ (by omega)
 have m2:q.wh.length*(1000000+2)<=16*(1000000+2):=Ajq _ (by omega);have m3:q.gr.length*(1000000+2)<=16*(1000000+2):=Ajq _ (by omega);have m4:q.od.length*(1000000+2)<=16*(1000000+2):=Ajq _ (by omega);refine⟨_,rfl,S5.cell 0 rfl rfl,by omega,(GP ⟨#[32,103,114,111,117,112,32,98,121,32]⟩ (hrg.grown S5.Ag) hCg (by omega) (by kernel_rfl) Ex.text (by decide) bd.gr ?_).mono ?_⟩
 ·rintro w6 x cs B6 hx fp;obtain⟨a9,cap9,_,rfl,_⟩:=DT.open fp;exact Nl ((E.grown S5.Ag).grown B6) ((fp.grown S5.Ag).grown B6) (hg x hx)
 rintro _ w6 ⟨_,rfl,rfl,B6⟩;have S6:=S5.grown B6;refine⟨_,rfl,by simp only [Akl];omega,_,_,_,S6.cell 0 rfl rfl,(Od ⟨#[32,111,114,100,101,114,32,98,121,32]⟩ (eo.grown S6.Ag) hCo (by omega) (by kernel_rfl) (Xn q.it) (by decide) bd.od ?_).mono ?_⟩
 ·rintro w7 k cs B7 hk ⟨rfl,_⟩;exact Yf 0 ((Q.grown S6.Ag).grown B7) (S6.grown B7) rfl k (ho k hk) bd.nm
 rintro _ w7 ⟨_,rfl,rfl,B7⟩;have S7:=S6.grown B7;have hL:(AjP #[32,108,105,109,105,116,32]).size=7:=rfl;have hit:=Lib.itoa_length_le q.lim Q.lim.1 Q.lim.2;refine⟨_,rfl,by simp only [Akl];omega,λ st w9=>st=[.string (quT q)]/\Below w.heap.size w w9,?_,?_⟩
 ·refine⟨_,S7.cell 0 rfl rfl,Aa (λ h0=>⟨_,S7.cell 0 rfl rfl,(Tryz.strconv_Itoa q.lim Q.lim.1 Q.lim.2 w7 (E.grown S7.Ag).pow).mono ?_⟩) (λ h0=>⟨?_,S7.Ag⟩)⟩
  ·rintro _ w8 ⟨rfl,k,os,rfl⟩;have aU:(Dz (Lib.itoa q.lim)).size<=21:=by rw [BL];exact hit
   refine⟨Dz (Lib.itoa q.lim),rfl,by omega,by simp only [Akl];omega,?_,(S7.grown (QG w7 k os)).Ag⟩;unfold quT Ag9;rw [if_pos h0]
  ·unfold quT Ag9;rw [if_neg h0,YK]
 ·rintro s w9 ⟨sV,B9⟩;obtain rfl:s=quT q:=by simpa using sV
  refine Aa (λ h=>⟨?_,B9⟩) (λ h=>⟨?_,B9⟩)
  ·unfold Pc;rw [if_neg (by simp [EE,hs];omega)]
  ·unfold Pc;rw [if_pos (by simp [EE,hs];omega)]
theorem PN(E:Env w)(Q:V4 w q ai aw ag ao):Calls Tryz.prog f.ZV #[.agg ⟨quL q ai aw ag ao ci cw cg co⟩,.agg ⟨quL q ai aw ag ao ci cw cg co⟩] w (AD λ r w'=>r=.bool (EE q)/\Below w.heap.size w w'):=by
 apply R.Oj
 delta R.A R.Ab R.Ux R.E R.F R.G R.I R.Li R.Ls R.N R.S;try dsimp only [R.Ps]
 refine (ST.start w).Ak λ lE w1 _ _ S1=>S1.Ak λ cU w2 _ _ S2=>?_;have S2:ST w w2 [Iz cU q ai aw ag ao ci cw cg co,Iz lE q ai aw ag ao ci cw cg co]:=S2;refine⟨_,_,_,S2.cell 1 rfl rfl,_,_,_,S2.cell 1 rfl rfl,_,_,_,S2.cell 1 rfl rfl,_,_,_,S2.cell 1 rfl rfl,_,S2.cell 1 rfl rfl,(KC (E.grown S2.Ag) (Q.grown S2.Ag) (ci:=ci) (cw:=cw) (cg:=cg) (co:=co)).mono ?_⟩;rintro _ w3 ⟨_,rfl,rfl,B3⟩;have S3:=S2.grown B3;have aT:=KC (E.grown S3.Ag) (Q.grown S3.Ag) (ci:=ci) (cw:=cw) (cg:=cg) (co:=co);by_cases hr:EE q=true
 ·have e:Pc q=.tuple #[.string (quT q),.int .i64 0]:=by unfold Pc;rw [if_pos hr]
  rw [e] at aT ⊢;refine⟨_,_,rfl,_,_,_,S3.cell 0 rfl rfl,_,_,_,S3.cell 0 rfl rfl,_,_,_,S3.cell 0 rfl rfl,_,_,_,S3.cell 0 rfl rfl,_,S3.cell 0 rfl rfl,aT.mono ?_⟩;rintro _ w4 ⟨_,rfl,rfl,B4⟩;refine⟨_,_,rfl,Aj (λ _=>Aj (λ _=>⟨?_,(S3.grown B4).Ag⟩) (λ h=>absurd rfl h)) (λ h=>absurd rfl h)⟩;rw [Aw,hr,decide_eq_true rfl]
 ·have e:Pc q=.tuple #[.string ⟨#[]⟩,.int .i64 110]:=by unfold Pc;rw [if_neg hr]
  rw [e] at aT ⊢;refine⟨_,_,rfl,_,_,_,S3.cell 0 rfl rfl,_,_,_,S3.cell 0 rfl rfl,_,_,_,S3.cell 0 rfl rfl,_,_,_,S3.cell 0 rfl rfl,_,S3.cell 0 rfl rfl,aT.mono ?_⟩;rintro _ w4 ⟨_,rfl,rfl,B4⟩;refine⟨_,_,rfl,Aj (λ h=>absurd h (by decide)) (λ _=>⟨?_,(S3.grown B4).Ag⟩)⟩;rw [Bool.eq_false_iff.2 hr]
end
section
variable {w:World}{i:F4}{a:Option Addr}{cap:Nat}
end
section
variable {w:World}{q:Qu}{ai aw ag ao:Option Addr}{ci cw cg co:Nat}
end
section
variable {w:World}{q:Qu}{ai aw ag ao bi bw bg bo:Option Addr}{ci cw cg co di dw dg d_o:Nat}
end
/-! ### lists of columns -/
section
variable {w:World}{a b:Option Addr}{c d:Nat}
end
theorem P9(a b:Int):(a != b)=decide (a≠b):=by rw [Bool.eq_iff_iff];simp
section
variable {w0 w:World}{H:List It}
theorem ldX{p:Addr}{x:Ex}{a:Option Addr}{cap:Nat}(h:∀ j v,(An x a cap)[j]?=some v->w.cell? (p.add j)=some v){Q:Int->ByteArray->Int->Int->ByteArray->Option Addr->Nat->Nat->Prop}(hq:Q x.op x.nm x.v.1 x.v.2.1 x.v.2.2 a x.ks.length cap) :
  ∃ t0:Int,w.cell? p=some (.int .i64 t0)/\∃ t1:ByteArray,w.cell? (p.add 1)=some (.string t1)/\∃ t2:Int,w.cell? (p.add 2)=some (.int .i64 t2)/\∃ t3:Int,w.cell? (p.add 3)=some (.int .i64 t3)/\∃ t4:ByteArray,w.cell? (p.add 4)=some (.string t4) /\
   ∃(t5:Option Addr) (l c:Nat),w.cell? (p.add 5)=some (.slice t5 l c)/\Q t0 t1 t2 t3 t4 t5 l c :=
 ⟨_,h 0 _ rfl,_,h 1 _ rfl,_,h 2 _ rfl,_,h 3 _ rfl,_,h 4 _ rfl,_,_,_,h 5 _ rfl,hq⟩
theorem ldI{p:Addr}{i:F4}{a:Option Addr}{cap:Nat}(h:∀ j v,(Vr i a cap)[j]?=some v->w.cell? (p.add j)=some v){Q:ByteArray->Int->Int->ByteArray->Int->Int->ByteArray->Option Addr->Nat->Nat->Prop}(hq:Q i.1 i.2.1 i.2.2.op i.2.2.nm i.2.2.v.1 i.2.2.v.2.1 i.2.2.v.2.2 a i.2.2.ks.length cap) :
  ∃ t0:ByteArray,w.cell? p=some (.string t0)/\∃ t1:Int,w.cell? (p.add 1)=some (.int .i64 t1)/\∃ t2:Int,w.cell? (p.add 2)=some (.int .i64 t2)/\∃ t3:ByteArray,w.cell? (p.add 3)=some (.string t3)/\∃ t4:Int,w.cell? (p.add 4)=some (.int .i64 t4)/\∃ t5:Int,w.cell? (p.add 5)=some (.int .i64 t5)/\∃ t6:ByteArray,w.cell? (p.add 6)=some (.string t6) /\
   ∃(t7:Option Addr) (l c:Nat),w.cell? (p.add 7)=some (.slice t7 l c)/\Q t0 t1 t2 t3 t4 t5 t6 t7 l c :=
 ⟨_,h 0 _ rfl,_,h 1 _ rfl,_,h 2 _ rfl,_,h 3 _ rfl,_,h 4 _ rfl,_,h 5 _ rfl,_,h 6 _ rfl,_,_,_,h 7 _ rfl,hq⟩
theorem stX(S:ST w0 w H)(n:Nat){b:Nat}{x:Ex}{a:Option Addr}{cap:Nat}(hn:H[n]?=some (V5 b (An x a cap))){Q:Int->ByteArray->Int->Int->ByteArray->Option Addr->Nat->Nat->Prop}(hq:Q x.op x.nm x.v.1 x.v.2.1 x.v.2.2 a x.ks.length cap) :
  ∃ t0:Int,w.cell? ⟨b,0,none⟩=some (.int .i64 t0)/\∃ t1:ByteArray,w.cell? ⟨b,1,none⟩=some (.string t1)/\∃ t2:Int,w.cell? ⟨b,2,none⟩=some (.int .i64 t2)/\∃ t3:Int,w.cell? ⟨b,3,none⟩=some (.int .i64 t3)/\∃ t4:ByteArray,w.cell? ⟨b,4,none⟩=some (.string t4) /\
   ∃(t5:Option Addr) (l c:Nat),w.cell? ⟨b,5,none⟩=some (.slice t5 l c)/\Q t0 t1 t2 t3 t4 t5 l c :=
 ⟨_,S.cell n hn rfl,_,S.cell n hn rfl,_,S.cell n hn rfl,_,S.cell n hn rfl,_,S.cell n hn rfl,_,_,_,S.cell n hn rfl,hq⟩
theorem AfY(S:ST w0 w H)(n:Nat){b:Nat}{i:F4}{a:Option Addr}{cap:Nat}(hn:H[n]?=some (itI b i a cap)){Q:Int->ByteArray->Int->Int->ByteArray->Option Addr->Nat->Nat->Prop}(hq:Q i.2.2.op i.2.2.nm i.2.2.v.1 i.2.2.v.2.1 i.2.2.v.2.2 a i.2.2.ks.length cap) :
  ∃ t0:Int,w.cell? ⟨b,2,none⟩=some (.int .i64 t0)/\∃ t1:ByteArray,w.cell? ⟨b,3,none⟩=some (.string t1)/\∃ t2:Int,w.cell? ⟨b,4,none⟩=some (.int .i64 t2)/\∃ t3:Int,w.cell? ⟨b,5,none⟩=some (.int .i64 t3)/\∃ t4:ByteArray,w.cell? ⟨b,6,none⟩=some (.string t4) /\
   ∃(t5:Option Addr) (l c:Nat),w.cell? ⟨b,7,none⟩=some (.slice t5 l c)/\Q t0 t1 t2 t3 t4 t5 l c :=
 ⟨_,S.cell n hn rfl,_,S.cell n hn rfl,_,S.cell n hn rfl,_,S.cell n hn rfl,_,S.cell n hn rfl,_,_,_,S.cell n hn rfl,hq⟩
theorem stQ(S:ST w0 w H)(n:Nat){b:Nat}{q:Qu}{ai aw ag ao:Option Addr}{ci cw cg co:Nat}(hn:H[n]?=some (Iz b q ai aw ag ao ci cw cg co)){Q:Option Addr->Nat->Nat->Option Addr->Nat->Nat->Option Addr->Nat->Nat->Option Addr->Nat->Nat->Int->Prop}
  (hq:Q ai q.it.length ci aw q.wh.length cw ag q.gr.length cg ao q.od.length co q.lim) :
  ∃(a0:Option Addr) (l0 c0:Nat),w.cell? ⟨b,0,none⟩=some (.slice a0 l0 c0)/\∃(a1:Option Addr) (l1 c1:Nat),w.cell? ⟨b,1,none⟩=some (.slice a1 l1 c1)/\∃(a2:Option Addr) (l2 c2:Nat),w.cell? ⟨b,2,none⟩=some (.slice a2 l2 c2)/\∃(a3:Option Addr) (l3 c3:Nat),w.cell? ⟨b,3,none⟩=some (.slice a3 l3 c3) /\
   ∃ n4:Int,w.cell? ⟨b,4,none⟩=some (.int .i64 n4)/\Q a0 l0 c0 a1 l1 c1 a2 l2 c2 a3 l3 c3 n4 :=
 ⟨_,_,_,S.cell n hn rfl,_,_,_,S.cell n hn rfl,_,_,_,S.cell n hn rfl,_,_,_,S.cell n hn rfl,_,S.cell n hn rfl,hq⟩
theorem Aew(S:ST w0 w H)(n:Nat){b:Nat}{x0 x1 x2 x3 x4 x5 x6 x7:Value}{a0 a1 a2 a3 a4 a6:Option Addr}{l0 c0 l1 c1 l2 c2 l3 c3 l4 c4 l6 c6:Nat}{k5:Int}{g7:Bool}{t:TypeId}(hn:H[n]?=some (It.cells b #[x0,x1,x2,x3,x4,x5,x6,x7] t))
  {Q:Option Addr->Nat->Nat->Option Addr->Nat->Nat->Option Addr->Nat->Nat->Option Addr->Nat->Nat->Option Addr->Nat->Nat->Int->Option Addr->Nat->Nat->Bool->World->Prop}
  (hk:∀ w',ST w0 w' (H.set n (It.cells b #[.slice a0 l0 c0,.slice a1 l1 c1,.slice a2 l2 c2,.slice a3 l3 c3,.slice a4 l4 c4,.int .i64 k5,.slice a6 l6 c6,.bool g7] t))->Q a0 l0 c0 a1 l1 c1 a2 l2 c2 a3 l3 c3 a4 l4 c4 k5 a6 l6 c6 g7 w') :
  CI ⟨b,0,none⟩ (.slice a0 l0 c0) (λ w=>CI ⟨b,1,none⟩ (.slice a1 l1 c1) (λ w=>CI ⟨b,2,none⟩ (.slice a2 l2 c2) (λ w=>CI ⟨b,3,none⟩ (.slice a3 l3 c3) (λ w=>CI ⟨b,4,none⟩ (.slice a4 l4 c4) (λ w=>CI ⟨b,5,none⟩ (.int .i64 k5) (λ w=>CI ⟨b,6,none⟩ (.slice a6 l6 c6) (λ w=>CI ⟨b,7,none⟩ (.bool g7) (λ w =>
   ∃(r0:Option Addr) (kV kU:Nat),w.cell? ⟨b,0,none⟩=some (.slice r0 kV kU)/\∃(r1:Option Addr) (kX kW:Nat),w.cell? ⟨b,1,none⟩=some (.slice r1 kX kW)/\∃(r2:Option Addr) (kZ kY:Nat),w.cell? ⟨b,2,none⟩=some (.slice r2 kZ kY)/\∃(r3:Option Addr) (ke kb:Nat),w.cell? ⟨b,3,none⟩=some (.slice r3 ke kb) /\
   ∃(r4:Option Addr) (kg kf:Nat),w.cell? ⟨b,4,none⟩=some (.slice r4 kg kf)/\∃ r5:Int,w.cell? ⟨b,5,none⟩=some (.int .i64 r5)/\∃(r6:Option Addr) (ki kh:Nat),w.cell? ⟨b,6,none⟩=some (.slice r6 ki kh)/\∃ r7:Bool,w.cell? ⟨b,7,none⟩=some (.bool r7) /\
   Q r0 kV kU r1 kX kW r2 kZ kY r3 ke kb r4 kg kf r5 r6 ki kh r7 w) w) w) w) w) w) w) w) w:=by
 have aB:=(List.getElem?_eq_some_iff.1 hn).1;refine S.Aex n hn λ w' S'=>⟨_,_,_,S'.cell n (Ajg aB) rfl,_,_,_,S'.cell n (Ajg aB) rfl,_,_,_,S'.cell n (Ajg aB) rfl,_,_,_,S'.cell n (Ajg aB) rfl,_,_,_,S'.cell n (Ajg aB) rfl,_,S'.cell n (Ajg aB) rfl,_,_,_,S'.cell n (Ajg aB) rfl,_,S'.cell n (Ajg aB) rfl,hk w' S'⟩
end
theorem Si{cs:List AA}{x:Ex}{e:Int}(h:Fa cs x=.error e):e≠0:=by
 unfold Fa at h;split at h
 ·split at h
  ·have:=Xo h;omega
  ·cases h;decide
 ·cases h;decide
section
variable {w:World}{q:Qu}{ai aw ag ao:Option Addr}{ci cw cg co:Nat}
end
theorem AbB(l:List AA):∀ u∈AO l,u.oneCell'=true:=by
 intro u hu;obtain⟨c,_,hc⟩:=List.mem_flatMap.1 hu;simp only [Hi,List.mem_cons,List.not_mem_nil,or_false] at hc;rcases hc with rfl | rfl | rfl <;> rfl
theorem UQ(l m:List AA):AO (l++m)=AO l++AO m:=List.flatMap_append
structure Pl where
 cs:List AA
 q:Qu
 out:List AA
 g:Bool
def Qu0:Qu:=⟨[],[],[],[],0⟩
def Pl0:Pl:=⟨[],Qu0,[],false⟩
def LN(p:Pl)(a0:Option Addr)(c0:Nat)(ai:Option Addr)(ci:Nat)(aw:Option Addr)(cw:Nat)(ag:Option Addr)(cg:Nat)(ao:Option Addr)(co:Nat)(a6:Option Addr)(c6:Nat):List Value :=
 [.slice a0 p.cs.length c0,.slice ai p.q.it.length ci,.slice aw p.q.wh.length cw,.slice ag p.q.gr.length cg,.slice ao p.q.od.length co,.int .i64 p.q.lim,.slice a6 p.out.length c6,.bool p.g]
structure YD(w:World)(p:Pl)(a0 ai aw ag ao a6:Option Addr):Prop where
 cs:Rd w a0 (AO p.cs)
 ncs:p.cs.length<=9223372036854775807
 qcs:∀ c∈p.cs,c.1.size<=9223372036854775807
 q:V4 w p.q ai aw ag ao
 out:Rd w a6 (AO p.out)
 AiS:p.out.length<=9223372036854775807
theorem YD.grown{w w':World}{p:Pl}{a0 ai aw ag ao a6:Option Addr}(h:YD w p a0 ai aw ag ao a6)(B:Below w.heap.size w w'):YD w' p a0 ai aw ag ao a6 :=
 ⟨h.cs.grown B,h.ncs,h.qcs,h.q.grown B,h.out.grown B,h.AiS⟩
theorem AiX(w:World):V4 w Qu0 none none none none :=
 ⟨⟨[],Rd.nil _ _,rfl⟩,⟨[],Rd.nil _ _,rfl⟩,⟨[],Rd.nil _ _,rfl⟩,⟨[],Rd.nil _ _,rfl⟩,by decide,by decide,by decide,by decide,by decide⟩
theorem Aih(w:World):YD w Pl0 none none none none none none:=⟨Rd.nil _ _,by decide,by simp [Pl0],AiX w,Rd.nil _ _,by decide⟩
def Bi(cs:List AA)(q:Qu):Pl × Int :=
 match DZ cs q with
 | .ok out=>(⟨cs,q,out,Am q⟩,0)
 | .error e=>(Pl0,e)
def Aau(cs:List AA)(q:Qu)(w w':World)(v:Value):Prop:=∃ a0 c0 ai ci aw cw ag cg ao co a6 c6,v=.tuple #[.agg ⟨LN (Bi cs q).1 a0 c0 ai ci aw cw ag cg ao co a6 c6⟩,.int .i64 (Bi cs q).2]/\YD w' (Bi cs q).1 a0 ai aw ag ao a6/\(Bi cs q).1.q.it.length<=ci/\Below w.heap.size w w'
def plI(b:Nat)(p:Pl)(a0:Option Addr)(c0:Nat)(ai:Option Addr)(ci:Nat)(aw:Option Addr)(cw:Nat)(ag:Option Addr)(cg:Nat)(ao:Option Addr)(co:Nat)(a6:Option Addr)(c6:Nat):It:=It.cells b ⟨LN p a0 c0 ai ci aw cw ag cg ao co a6 c6⟩ ty.QD
theorem Rr{cs:List AA}{q:Qu}{e:Int}(h:DZ cs q=.error e){w w':World}(B:Below w.heap.size w w') :
  Aau cs q w w' (.tuple #[.agg #[.slice none 0 0,.slice none 0 0,.slice none 0 0,.slice none 0 0,.slice none 0 0,.int .i64 0,.slice none 0 0,.bool false],.int .i64 e]):=by
 have hp:Bi cs q=(Pl0,e):=by rw [Bi,h]
 unfold Aau;rw [hp];exact⟨none,0,none,0,none,0,none,0,none,0,none,0,rfl,Aih w',Nat.le_refl _,B⟩
theorem AaA{α:Type}{l:List α}{i:Nat}(hi:i<l.length):l=l.take i++l[i] :: l.drop (i+1):=by rw [List.getElem_cons_drop,List.take_append_drop]
section
variable {cs:List AA}{q:Qu}(h1:Ai cs=true)(h2:EE q=true)
include h1 h2
end
theorem Ad1{cs:List AA}{q:Qu}{i:Nat}{x:F4}{e:Int}(h:Kv cs q i x=.error e):e≠0:=by
 have hK:∀ k,Hp q i x k=.error e->e≠0:=by
  intro k h;unfold Hp at h;split at h
  ·cases h;decide
  ·split at h
   ·cases h;decide
   ·cases h
 unfold Kv at h;split at h
 ·exact hK _ h
 ·split at h
  ·rename_i hT;cases h;exact Si hT
  ·exact hK _ h
section
variable {w:World}{q:Qu}{ai aw ag ao:Option Addr}{ci cw cg co:Nat}
end
section
variable {w:World}{p:Pl}{a0 ai aw ag ao a6 b0 bi bw bg bo b6:Option Addr}{c0 ci cw cg co c6 d0 di dw dg d_o d6:Nat}
end
def ux(cs:List AA)(c:Nat)(x:Ex):Bool:=x.formed && x.names.any λ s=>decide (Hm cs s=some c)
theorem AeJ{x:Ex}{t:List ByteArray}(h:NI (Nt x) (t.map bl))(p:ByteArray->Bool):t.any p=(x.formed && x.names.any p):=by
 have hm:∀ s,s∈t↔x.formed=true/\s∈x.names:=by
  intro s;have hi:∀ l:List ByteArray,bl s∈l.map bl↔s∈l:=λ l=>⟨λ h=>by obtain⟨y,hy,he⟩:=Ajb.1 h;rw [<- HL he];exact hy,λ h=>Ajb.2 ⟨s,h,rfl⟩⟩;rw [<- hi,h.mem];unfold Nt;split
  ·rename_i hf;rw [hi];exact⟨λ h=>⟨hf,h⟩,λ h=>h.2⟩
  ·rename_i hf;exact⟨λ h=>by simp at h,λ h=>absurd h.1 hf⟩
 rw [Bool.eq_iff_iff];simp only [List.any_eq_true,Ai6];constructor
 ·rintro⟨s,hs,hp⟩;exact⟨((hm s).1 hs).1,s,((hm s).1 hs).2,hp⟩
 ·rintro⟨hf,s,hs,hp⟩;exact⟨s,(hm s).2 ⟨hf,hs⟩,hp⟩
def AgF(cs:List AA)(q:Qu)(w w':World)(v:Value):Prop:=∃ a c,v=.slice a (Ef cs q).length c/\Rd w' a (((Ef cs q).map λ n:Nat=>(n:Int)).map (Value.int .i64))/\Below w.heap.size w w'
section
variable {w:World}{p:Pl}{a0 ai aw ag ao a6:Option Addr}{c0 ci cw cg co c6:Nat}
end
end Go.Proofs.YtegnhfeclchlmaaGreatDoor
namespace Go.Proofs.YtegnhfeclchlmaaGreatDoor
open _root_.List renaming replicate -> AjJ
set_option maxRecDepth 100000
open Go.Dn Go.Proofs
open Go.RowKit (Below)
open Go.Sort (putRow putCells Holds)
set_option linter.unusedVariables false
section
variable {w0 w:World}{H:List It}{a:Option Addr}{c:Nat}
theorem Aes(S:ST w0 w H)(n:Nat){xs:List Int}(hn:H[n]?=some (FC a c xs))(hl:xs.length<=1000000000):Calls Tryz.prog f.FG #[.slice a xs.length c] w (AD λ v w'=>v=.tuple #[]/\ST w0 w' (H.set n (FC a c (xs.mergeSort λ x y=>decide (x<=y))))):=by
 have hR:Row w ty.int 1 a xs.length c (xs.map (Value.int .i64)):=S.get n hn;have cY:H.set n (FC a c xs)=H:=Nk hn;have bS:xs=[]->Calls Tryz.prog f.FG #[.slice a xs.length c] w (AD λ v w'=>v=.tuple #[]/\ST w0 w' (H.set n (FC a c (xs.mergeSort λ x y=>decide (x<=y))))):=by
  rintro rfl;refine (Tryz.slices_Sort_int_none a c w).mono ?_;rintro _ w' ⟨rfl,rfl⟩;exact⟨_,rfl,rfl,by rw [List.mergeSort_nil,cY];exact S⟩
 rcases a with _ | ⟨g,o,idx⟩
 ·refine bS ?_;rcases hR.2 with ⟨_,h,_⟩ | ⟨_,_,h,_⟩
  ·exact List.eq_nil_of_length_eq_zero h
  ·cases h
 ·have iT:o=0/\idx=none:=by
   rcases hR.2 with ⟨h,_⟩ | ⟨_,_,h,_⟩
   ·cases h
   ·cases h;exact⟨rfl,rfl⟩
  obtain⟨rfl,rfl⟩:=iT;obtain⟨hH,hg,hlen,av⟩:=JW (Value.int .i64) hR;refine (Tryz.slices_Sort_int g 0 c xs w hH hg (by omega)).mono ?_;rintro _ w' ⟨rfl,m,os,rfl⟩;have ic:(xs.mergeSort λ x y=>decide (x<=y)).length=xs.length:=List.length_mergeSort ..;refine⟨_,rfl,rfl,?_⟩;refine S.Sw n hn (JZ (Value.int .i64) w g m _ os) _ ?_ (λ k hk=>.inl hk);show Row _ ty.int 1 _ _ c _;have:=Qh (Value.int .i64) (m:=m) (os:=os) (xs.mergeSort λ x y=>decide (x<=y)) (k:=xs.length) hR (by omega) (by omega);rw [List.take_of_length_le (by omega)] at this;rw [ic];exact this
theorem WE(S:ST w0 w H)(n:Nat){xs:List Int}(hn:H[n]?=some (FC a c xs))(hl:xs.length<=1000000000):Calls Tryz.prog f.Ek #[.slice a xs.length c] w (AD λ v w'=>v=.slice a (Lib.compact xs).length c/\ST w0 w' (H.set n (FC a c (Lib.compact xs)))):=by
 have hR:Row w ty.int 1 a xs.length c (xs.map (Value.int .i64)):=S.get n hn;have cY:H.set n (FC a c xs)=H:=Nk hn;have bS:xs=[]->Calls Tryz.prog f.Ek #[.slice a xs.length c] w (AD λ v w'=>v=.slice a (Lib.compact xs).length c/\ST w0 w' (H.set n (FC a c (Lib.compact xs)))):=by
  rintro rfl;refine (Tryz.slices_Compact_int_empty a c w).mono ?_;rintro _ w' ⟨rfl,rfl⟩;have:Lib.compact ([]:List Int)=[]:=rfl;exact⟨_,rfl,by rw [this];rfl,by rw [this,cY];exact S⟩
 rcases a with _ | ⟨g,o,idx⟩
 ·refine bS ?_;rcases hR.2 with ⟨_,h,_⟩ | ⟨_,_,h,_⟩
  ·exact List.eq_nil_of_length_eq_zero h
  ·cases h
 ·have iT:o=0/\idx=none:=by
   rcases hR.2 with ⟨h,_⟩ | ⟨_,_,h,_⟩
   ·cases h
   ·cases h;exact⟨rfl,rfl⟩
  obtain⟨rfl,rfl⟩:=iT;obtain⟨hH,hg,hlen,av⟩:=JW (Value.int .i64) hR;refine (Tryz.slices_Compact_int g 0 c xs w hH (by omega) (by omega)).mono ?_;rintro _ w' ⟨rfl,m,rfl⟩;have cF:(Lib.compact xs).length<=xs.length:=by
   have:=List.length_filter_le (Lib.keeps xs.toArray) (List.range xs.length);unfold Lib.compact Lib.compactUpTo;rw [List.length_map];rw [List.length_range] at this;exact this
  refine⟨_,rfl,rfl,?_⟩;have ew:putRow (Value.int .i64) (Go.Sort.ahead w m) g 0 (Lib.compact xs++AjJ (xs.length-(Lib.compact xs).length) 0).toArray=Go.Sort.grow (putRow (Value.int .i64) (Go.Sort.ahead w m) g 0 (Lib.compact xs++AjJ (xs.length-(Lib.compact xs).length) 0).toArray) #[]:=(Xc _).symm;rw [ew];refine S.Sw n hn (JZ (Value.int .i64) w g m _ #[]) _ ?_ (λ k hk=>.inl hk);show Row _ ty.int 1 _ _ c _;have:=Qh (Value.int .i64) (m:=m) (os:=#[]) (Lib.compact xs++AjJ (xs.length-(Lib.compact xs).length) 0) (k:=(Lib.compact xs).length) hR (by simp;omega) (by simp);rw [List.take_left' rfl] at this;exact this
end
theorem WG(l:List Int):(Lib.compact (l.mergeSort λ x y=>decide (x<=y))).Pairwise (·<·)/\∀ x,x∈Lib.compact (l.mergeSort λ x y=>decide (x<=y))↔x∈l:=by
 have hs:=List.pairwise_mergeSort (le:=λ x y:Int=>decide (x<=y)) (λ a b c h1 h2=>by simp only [decide_eq_true_eq] at *;omega) (λ a b=>by simp only [Bool.or_eq_true,decide_eq_true_eq];omega) l;have hp:=List.mergeSort_perm l (λ x y:Int=>decide (x<=y));obtain⟨h1,h2⟩:=Ja (λ a b:Int=>a<=b) (λ a b c h1 h2=>by omega) (λ a b h1 h2=>by omega) (l.mergeSort λ x y=>decide (x<=y)) (hs.imp λ h=>by simpa using h);exact⟨h1.imp λ h=>by omega,λ x=>(h2 x).trans hp.mem_iff⟩
end Go.Proofs.YtegnhfeclchlmaaGreatDoor
namespace Go.Proofs.YtegnhfeclchlmaaGreatDoor
open _root_.Int renaming toNat_natCast -> Ajz
open _root_.List renaming append_assoc -> Aju, cons_append -> AkJ, length_cons -> AjK, length_take -> Ajr, map_append -> Akv, map_cons -> Aj4, nil_append -> AkA, take_of_length_le -> Akm, take_succ_eq_append_getElem -> Akj
open _root_.Nat renaming min_eq_left -> AkK, mul_le_mul_right -> Ajq, zero_add -> Ajp
set_option maxRecDepth 100000
open Go.Dn Go.Proofs
open Go.RowKit (Below)
set_option linter.unusedVariables false
/-! ### plain -/
abbrev J1:=Int × Bool × Ex
def BE(i:Nat):List F4->List J1
 | []=>[]
 | x :: l=>((i:Int),false,x.2.2) :: BE (i+1) l
def Gk(q:Qu):List J1:=q.wh.map (λ x=>(-1,true,x))++q.gr.map (λ x=>(-1,false,x))++BE 0 q.it
theorem G4:∀(l m:List F4) (i:Nat),BE i (l++m)=BE i l++BE (i+l.length) m
 | [],m,i=>rfl
 | x :: l,m,i=>by
  simp only [AkJ,BE,G4 l m (i+1),AjK];rw [show i+1+l.length=i+(l.length+1) by omega]
theorem Xj:∀(l:List F4) (i:Nat),(BE i l).map (·.2.2)=l.map (·.2.2)
 | [],_=>rfl
 | x :: l,i=>by simp only [BE,Aj4,Xj l (i+1)]
theorem Ahm(q:Qu):(Gk q).map (·.2.2)=RF q:=by
 unfold Gk RF;rw [Akv,Akv,Xj,List.map_map,List.map_map];have h1:((λ p:J1=>p.2.2) ∘ λ x=>((-1,true,x):J1))=id:=rfl;have h2:((λ p:J1=>p.2.2) ∘ λ x=>((-1,false,x):J1))=id:=rfl;rw [h1,h2,List.map_id,List.map_id]
def CS(cs:List AA)(q:Qu)(p:J1):Except Int (List AA) :=
 if p.1<0 then
  match Fa cs p.2.2 with
  | .error e=>.error e
  | .ok k=>if p.2.1=true/\k≠2/\k≠0 then .error 121 else .ok []
 else match q.it[p.1.toNat]? with
  | none=>.ok []
  | some x=>match Kv cs q p.1.toNat x with
   | .error e=>.error e
   | .ok c=>.ok [c]
def Ej(cs:List AA)(q:Qu):List J1->Except Int (List AA)
 | []=>.ok []
 | p :: l=>match CS cs q p with
  | .error e=>.error e
  | .ok c=>match Ej cs q l with
   | .error e=>.error e
   | .ok r=>.ok (c++r)
theorem Sc{cs:List AA}{q:Qu}{p:J1}{e:Int}(h:CS cs q p=.error e):e≠0:=by
 unfold CS at h;split at h
 ·split at h
  ·rename_i hT;cases h;exact Si hT
  ·split at h
   ·cases h;decide
   ·cases h
 ·split at h
  ·cases h
  ·split at h
   ·rename_i hT;cases h;exact Ad1 hT
   ·cases h
theorem Abb{cs:List AA}{q:Qu}{p:J1}{e:Int}(hp:CS cs q p=.error e):∀ {l m:List J1} {r:List AA},Ej cs q l=.ok r->Ej cs q (l++p :: m)=.error e
 | [],m,r,h=>by simp only [AkA,Ej,hp]
 | x :: l,m,r,h=>by
  rw [AkJ];unfold Ej at h ⊢;split at h
  ·cases h
  ·rename_i c hc;split at h
   ·cases h
   ·rename_i r' hr;simp only [Abb hp hr]
theorem X2{cs:List AA}{q:Qu}{p:J1}{c:List AA}(hp:CS cs q p=.ok c):∀ {l:List J1} {r:List AA},Ej cs q l=.ok r->Ej cs q (l++[p])=.ok (r++c)
 | [],r,h=>by cases h;simp only [AkA,Ej,hp,List.append_nil]
 | x :: l,r,h=>by
  rw [AkJ];unfold Ej at h ⊢;split at h
  ·cases h
  ·rename_i c' hc;split at h
   ·cases h
   ·rename_i r' hr;cases h;simp only [X2 hp hr,Aju]
theorem Um{cs:List AA}{q:Qu}:∀(l:List Ex) (m:List J1),Ej cs q (l.map (λ x=>((-1,true,x):J1))++m)=match LK cs l with | some e=>.error e | none=>Ej cs q m
 | [],m=>rfl
 | x :: l,m=>by
  simp only [Aj4,AkJ,Ej,CS,LK,Um l m];rw [if_pos (by decide)];cases hT:Fa cs x with
  | error e=>rfl
  | ok k =>
   simp only [true_and];by_cases hk:k≠2/\k≠0
   ·rw [if_pos hk,if_pos hk]
   ·rw [if_neg hk,if_neg hk];cases LK cs l with
    | some e=>rfl
    | none=>simp only [AkA] <;> (cases Ej cs q m <;> rfl)
theorem Uk{cs:List AA}{q:Qu}:∀(l:List Ex) (m:List J1),Ej cs q (l.map (λ x=>((-1,false,x):J1))++m)=match K7 cs l with | some e=>.error e | none=>Ej cs q m
 | [],m=>rfl
 | x :: l,m=>by
  simp only [Aj4,AkJ,Ej,CS,K7,Uk l m];rw [if_pos (by decide)];cases hT:Fa cs x with
  | error e=>rfl
  | ok k =>
   simp only [Bool.false_eq_true,false_and,if_false];cases K7 cs l with
   | some e=>rfl
   | none=>simp only [AkA] <;> (cases Ej cs q m <;> rfl)
theorem Ul{cs:List AA}{q:Qu}:∀(l:List F4) (i:Nat),(∀ j (h:j<l.length),q.it[i+j]?=some l[j])->Ej cs q (BE i l)=Jm cs q i l
 | [],i,_=>rfl
 | x :: l,i,h=>by
  simp only [BE,Ej,CS,Jm];rw [if_neg (by omega),Ajz];have h0:=h 0 (by simp);simp only [Nat.add_zero,List.getElem_cons_zero] at h0;rw [h0,Ul l (i+1) λ j hj=>by
   have:=h (j+1) (by simpa using hj);simp only [List.getElem_cons_succ] at this;rwa [show i+1+j=i+(j+1) by omega]]
  simp only;cases Kv cs q i x with
  | error e=>rfl
  | ok c=>simp only <;> (cases Jm cs q (i+1) l <;> rfl)
theorem run_make{cs:List AA}{q:Qu}(h1:Ai cs=true)(h2:EE q=true):Ej cs q (Gk q)=DZ cs q:=by
 unfold Gk DZ;rw [if_neg (by rw [h1];decide),if_neg (by rw [h2];decide),Aju,Um,Uk,Ul q.it 0 λ j h=>by rw [Ajp];exact List.getElem?_eq_getElem h];cases LK cs q.wh with
 | some e=>rfl
 | none=>cases K7 cs q.gr <;> rfl
theorem Aeb{α β:Type}(f:α->β){l:List α}{i:Nat}(hi:i<l.length):l.map f=(l.take i).map f++f l[i] :: (l.drop (i+1)).map f:=by
 conv=>lhs;rw [AaA hi]
 rw [Akv,Aj4]
theorem Abc{cs:List AA}{q:Qu}:∀ {l:List J1} {r:List AA},Ej cs q l=.ok r->r.length<=l.length
 | [],r,h=>by cases h;simp
 | p :: l,r,h=>by
  unfold Ej at h;split at h
  ·cases h
  ·rename_i c hc;split at h
   ·cases h
   ·rename_i r' hr;cases h;have:=Abc hr;have cF:c.length<=1:=by
     unfold CS at hc;split at hc
     ·split at hc
      ·cases hc
      ·split at hc <;> cases hc;simp
     ·split at hc
      ·cases hc;simp
      ·split at hc <;> cases hc;simp
    simp only [List.length_append,AjK];omega
theorem Rf:∀(l:List F4) (i:Nat),(BE i l).length=l.length
 | [],_=>rfl
 | x :: l,i=>by simp only [BE,AjK,Rf l (i+1)]
theorem XM{q:Qu}(h:Fq q=true):(Gk q).length<=21:=by
 have:=(DQ.1 h).1;unfold Gk;simp only [List.length_append,List.length_map,Rf];omega
/-! ### the walk over them -/
def AiU(w0:World)(p:J1)(vs:List Value):Prop:=∃ cs,vs=[.agg ⟨.int .i64 p.1 :: .bool p.2.1 :: cs⟩]/\XC w0 p.2.2 cs
section
variable {w0:World}{q:Qu}{ai aw ag ao:Option Addr}{ci cw cg co:Nat}
theorem KB{w:World}:Calls Tryz.prog f.ZR #[.agg ⟨quL q ai aw ag ao ci cw cg co⟩] w (AD λ v w'=>∃ b,v=.func (.func f.KA) #[] #[.pointer (some ⟨b,0,none⟩)]/\ST w w' [Iz b q ai aw ag ao ci cw cg co]):=by
 apply R.Oh
 delta R.I R.J R.N R.P R.S;try dsimp only [R.Ps]
 exact (ST.start w).Ak λ b1 w1 _ _ S1=>⟨b1,rfl,S1⟩
theorem O6{L:Nat}{I:List J1->List It->Prop}{J:List It->Prop}(hy:Yld w0 L (Gk q) (AiU w0) I J)(Q:V4 w0 q ai aw ag ao){HN B:List It}{w:World}{b:Nat}(hI:I [] B)(S:ST w0 w (Iz b q ai aw ag ao ci cw cg co :: (HN++B))) :
  Calls Tryz.prog f.KA #[.func (.yield L) #[] #[],.pointer (some ⟨b,0,none⟩)] w (AD λ _ w'=>∃ B',ST w0 w' (HN++B')/\(I (Gk q) B'\/J B')):=by
 apply R.J8
 delta R.A R.Ab R.E R.F R.G R.H R.I R.Li R.Ls R.Lt R.N R.O R.Qi R.S R.Ae R.T R.W R.X;try dsimp only [R.Ps]
 obtain⟨ri,dH,hCi⟩:=Q.it;obtain⟨rw_,hrw,hCw⟩:=Q.wh;obtain⟨rg,hrg,hCg⟩:=Q.gr;refine⟨_,_,_,S.cell 0 rfl rfl,Mv q.wh.length (λ i w=>∃ B',ST w0 w (Iz b q ai aw ag ao ci cw cg co :: (HN++B'))/\I ((q.wh.take i).map λ x=>(-1,true,x)) B') Q.nwh ⟨B,S,hI⟩ λ I1 M1 i w1 hi h next=>?_⟩;obtain⟨B1,S1,hI1⟩:=h;refine Aa (λ aB=>⟨⟨by omega,aB⟩,?_⟩) (λ aM=>?_)
 ·have aE:i<q.wh.length:=by omega
  obtain⟨p,a3,aN,hp,bF,cell⟩:=Vh (hrw.grown S1.Ag) hCw aE;subst hp;rw [Ajz];refine ldX cell (S1.PG λ cU w8 _ S8=>stX S8 0 rfl ?_);have bA:Gk q=(q.wh.take i).map (λ x=>((-1,true,x):J1))++(-1,true,q.wh[i]) :: ((q.wh.drop (i+1)).map (λ x=>((-1,true,x):J1))++(q.gr.map (λ x=>((-1,false,x):J1))++BE 0 q.it)):=by
   unfold Gk;rw [Aeb (λ x=>((-1,true,x):J1)) aE];simp only [Aju,AkJ]
  refine (hy _ (-1,true,q.wh[i]) _ _ (V5 cU (An q.wh[i] a3 aN) :: Iz b q ai (some p) ag ao ci cw cg co :: HN) B1 w8 bA hI1 S8 ⟨_,rfl,bF⟩).mono ?_;rintro y w9 ⟨B',S9,⟨rfl,jl⟩ | ⟨rfl,hJ⟩⟩
  ·refine Ap (AZ (next _ aE ⟨B',S9.drop 1,?_⟩));rw [Akj aE,Akv];exact jl
  ·exact Ap (AN ⟨B',S9.drop 2,.inr hJ⟩)
 have aE:q.wh.length<=i:=by omega
 rw [Akm aE] at hI1;clear next aM hi aE;refine⟨_,_,_,S1.cell 0 rfl rfl,Mv q.gr.length (λ i w=>∃ B',ST w0 w (Iz b q ai aw ag ao ci cw cg co :: (HN++B'))/\I (q.wh.map (λ x=>(-1,true,x))++(q.gr.take i).map λ x=>(-1,false,x)) B') Q.ngr ⟨B1,S1,by simpa using hI1⟩ λ I2 M2 i w2 hi h next=>?_⟩;obtain⟨B2,S2,hI2⟩:=h;refine Aa (λ aB=>⟨⟨by omega,aB⟩,?_⟩) (λ aM=>?_)
 ·have aE:i<q.gr.length:=by omega
  obtain⟨p,a3,aN,hp,bF,cell⟩:=Vh (hrg.grown S2.Ag) hCg aE;subst hp;rw [Ajz];refine ldX cell (S2.PG λ cU w8 _ S8=>stX S8 0 rfl ?_);have bA:Gk q=(q.wh.map (λ x=>((-1,true,x):J1))++(q.gr.take i).map λ x=>(-1,false,x))++(-1,false,q.gr[i]) :: ((q.gr.drop (i+1)).map (λ x=>((-1,false,x):J1))++BE 0 q.it):=by
   unfold Gk;rw [Aeb (λ x=>((-1,false,x):J1)) aE];simp only [Aju,AkJ]
  refine (hy _ (-1,false,q.gr[i]) _ _ (V5 cU (An q.gr[i] a3 aN) :: Iz b q ai aw (some p) ao ci cw cg co :: HN) B2 w8 bA hI2 S8 ⟨_,rfl,bF⟩).mono ?_;rintro y w9 ⟨B',S9,⟨rfl,jl⟩ | ⟨rfl,hJ⟩⟩
  ·refine Ap (AZ (next _ aE ⟨B',S9.drop 1,?_⟩));rw [Akj aE,Akv,<- Aju];exact jl
  ·exact Ap (AN ⟨B',S9.drop 2,.inr hJ⟩)
 have aE:q.gr.length<=i:=by omega
 rw [Akm aE] at hI2;clear next aM hi aE;refine⟨_,_,_,S2.cell 0 rfl rfl,Mv q.it.length (λ i w=>∃ B',ST w0 w (Iz b q ai aw ag ao ci cw cg co :: (HN++B'))/\I (q.wh.map (λ x=>(-1,true,x))++q.gr.map (λ x=>(-1,false,x))++BE 0 (q.it.take i)) B') Q.nit ⟨B2,S2,by simpa [BE] using hI2⟩ λ I3 M3 i w3 hi h next=>?_⟩;obtain⟨B3,S3,jD⟩:=h;refine Aa (λ aB=>⟨⟨by omega,aB⟩,?_⟩) (λ aM=>?_)
 ·have aE:i<q.it.length:=by omega
  obtain⟨p,a3,aN,hp,bF,aU,cell⟩:=H6 (dH.grown S3.Ag) hCi aE;subst hp;rw [Ajz];refine ldI cell (S3.Vz λ cU w8 _ S8=>?_);have S8:ST w0 w8 (itI cU q.it[i] a3 aN :: Iz b q (some p) aw ag ao ci cw cg co :: (HN++B3)):=S8;refine AfY S8 0 rfl ?_;have hlen:(q.it.take i).length=i:=by rw [Ajr];omega
  have fL:BE 0 (q.it.take (i+1))=BE 0 (q.it.take i)++[((i:Int),false,q.it[i].2.2)]:=by
   rw [Akj aE,G4,hlen,Ajp];rfl
  have bA:Gk q=(q.wh.map (λ x=>((-1,true,x):J1))++q.gr.map (λ x=>(-1,false,x))++BE 0 (q.it.take i))++((i:Int),false,q.it[i].2.2) :: BE (i+1) (q.it.drop (i+1)):=by
   unfold Gk
   conv=>lhs;rw [AaA aE]
   rw [G4,hlen,Ajp];simp [Aju,BE]
  refine (hy _ ((i:Int),false,q.it[i].2.2) _ _ (itI cU q.it[i] a3 aN :: Iz b q (some p) aw ag ao ci cw cg co :: HN) B3 w8 bA jD S8 ⟨_,rfl,bF⟩).mono ?_;rintro y w9 ⟨B',S9,⟨rfl,jl⟩ | ⟨rfl,hJ⟩⟩
  ·refine Ap (AZ (next _ aE ⟨B',S9.drop 1,?_⟩));rw [fL,<- Aju];exact jl
  ·exact Ap (AN ⟨B',S9.drop 2,.inr hJ⟩)
 have aE:q.it.length<=i:=by omega
 rw [Akm aE] at jD;exact⟨B3,S3.drop 1,.inl jD⟩
end
/-! ### an item, an expression -/
def Gj(b:Nat)(p:Pl)(a0:Option Addr)(c0:Nat)(ai:Option Addr)(ci:Nat)(aw:Option Addr)(cw:Nat)(ag:Option Addr)(cg:Nat)(ao:Option Addr)(co:Nat)(a6:Option Addr)(c6:Nat):It:=It.cells b ⟨LN p a0 c0 ai ci aw cw ag cg ao co a6 c6⟩ ty.Ie
theorem Kz(w:World)(k:Int):Calls Tryz.prog f.ZQ #[.int .i64 k] w (AD λ r w'=>r=.int .i64 (Ix k)/\w'=w):=by
 apply R.Og
 delta R.F R.I;try dsimp only [R.Ps]
 exact Aj (λ h=>⟨by rw [Ix,if_pos h],rfl⟩) (λ h=>⟨by rw [Ix,if_neg h],rfl⟩)
theorem Ax.take{α:Type}{C:α->List Value->Prop}{n:Nat}(hn:∀ x c,C x c->c.length=n){l:List α}{cs:List Value}(h:Ax C l cs)(i:Nat):Ax C (l.take i) (cs.take (i*n)):=by
 have hl:=Ax.len hn h;have hm:min i l.length*n=min (i*n) (l.length*n):=by
  rcases Nat.le_total i l.length with h | h
  ·rw [AkK h,AkK (Ajq _ h)]
  ·rw [Nat.min_eq_right h,Nat.min_eq_right (Ajq _ h)]
 refine Ax.of (n:=n) (by rw [Ajr,Ajr,hl,hm]) λ j hj=>?_;rw [Ajr] at hj;have:=h.get hn j (by omega);rw [List.getElem_take];rw [List.drop_take,List.take_take,AkK]
 ·exact this
 ·have:(j+1)*n<=i*n:=Ajq _ (by omega);rw [Nat.add_mul] at this;omega
section
variable {w w0:World}{q:Qu}{ai aw ag ao:Option Addr}{ci cw cg co:Nat}{H:List It}{cs:List AA}{a0 a6:Option Addr}{c0 c6 b:Nat}{out:List AA}{g:Bool}
theorem ZA(E:Env w)(n:Nat){x:F4}{a3:Option Addr}{aN fx:Nat}(S:ST w0 w H)(hn:H[n]?=some (itI fx x a3 aN))(hx:XC w x.2.2 (An x.2.2 a3 aN)){y:Ex}{c:List Value}(hy:XC w y c) :
  Calls Tryz.prog f.Ju #[.agg ⟨c⟩,.pointer (some ⟨fx,0,none⟩)] w (AD λ r w'=>r=.bool (Pb x.2.2 y)/\Below w.heap.size w w'):=by
 obtain⟨a4,cap4,_,rfl,_⟩:=DT.open hy;apply R.Gh
 delta R.A R.Ab R.Cb R.E R.G R.I R.Li R.Ls R.Lt R.N R.S R.T;try dsimp only [R.Ps]
 refine S.Ak λ b8 w1 _ B1 S1=>AfY S1 (n+1) hn (stX S1 0 rfl (S1.call (Mn (E.grown B1) (hx.grown B1) (hy.grown B1)) λ w2 B2 _=>⟨_,rfl,rfl,Ae2 B1 B2⟩))
theorem ZB(n:Nat){x:F4}{a3:Option Addr}{aN fx:Nat}(S:ST w0 w H)(hn:H[n]?=some (itI fx x a3 aN)){wc:World}{y:F4}{c:List Value}(hy:LX (λ _=>False) wc y c) :
  Calls Tryz.prog f.Jv #[.agg ⟨c⟩,.pointer (some ⟨fx,0,none⟩)] w (AD λ r w'=>r=.bool (decide (y.1=x.1))/\Below w.heap.size w w'):=by
 obtain⟨ce,rfl,dV,_⟩:=hy;obtain⟨a4,cap4,_,rfl,_⟩:=DT.open dV;apply R.Gi
 delta R.A R.G R.I R.Lt R.N R.S R.T;try dsimp only [R.Ps]
 refine S.Ak λ b8 w1 _ B1 S1=>⟨_,S1.cell 0 rfl rfl,_,S1.cell (n+1) hn rfl,by rw [Aw],B1⟩
end
end Go.Proofs.YtegnhfeclchlmaaGreatDoor
