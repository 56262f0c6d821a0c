/-
  Texts of this claim, laid one behind the other by a program of mine (install.py): S.Sch9, S.Cmp, S.CmpL, S.Ch6, S.Ch7, S.Ch8, S.Ch9, S.Ch11, S.Ch12, S.ChgE, S.IntsH, S.IntsI, S.Ch13, S.Ch14, S.Seg1, S.Seg2, Dn.Lit, S.Seg3, S.Seg4, S.Seg5, S.Seg6, S.Seg7.
-/
import Derived.Test.YtipgnehlihmdhaaGreatDoorM5
import Derived.Test.YtipgnehlihmdhaaGreatDoorM3
import Derived.Test.YtipgnehlihmdhaaGreatDoorM4
namespace Go.Proofs.YtipgnehlihmdhaaGreatDoor
set_option maxRecDepth 100000
open Go.Dn Go.Proofs
open Go.RowKit (Below)
set_option linter.unusedVariables false
def colsI(a:Option Addr)(c:Nat)(cs:List Col):It:=It.row ty.api_Column 3 a cs.length c (colsL cs)
theorem tCols:slT Tryz.prog ty.L_api_Column=some (ty.api_Column,3,32,.agg #[.string ⟨#[]⟩,.int .i64 0,.bool false]):=by kernel_rfl
section
variable {w0 w:World}{H:List It}{a:Option Addr}{c:Nat}{cs:List Col}
theorem stRdC(S:ST w0 w H)(n:Nat)(hn:H[n]?=some (colsI a c cs)):Rd w a (colsL cs):=S.rd n hn
theorem stAppC(S:ST w0 w H)(n:Nat)(hn:H[n]?=some (colsI a c cs)){x:Col}{b:Nat}(hs:Rd w (some ⟨b,0,none⟩) (colC x))(hl:cs.length+1≤1000000){f:Value→World→Prop}
  (hf:∀ a' c' w',ST w0 w' (H.set n (colsI a' c' (cs++[x])))→f (.slice a' (cs++[x]).length c') w') :
  OPR Tryz.prog (Builtin.append_ #[ty.L_api_Column,ty.L_api_Column] ty.L_api_Column #[.slice a cs.length c,.slice (some ⟨b,0,none⟩) 1 1]) f w:=by
 refine S.app n hn tCols rfl (by omega) (by omega) hs (mm:=1) rfl (by simp [colC];exact⟨rfl,rfl,rfl⟩) (by omega) fun a' c' w' S'=>?_
 have e1:(cs++[x]).length=cs.length+1:=by simp
 have e2:colsL cs++colC x=colsL (cs++[x]):=by simp [colsL]
 rw [e2] at S'
 have:=hf a' c' w' (by unfold colsI;rw [e1];exact S')
 rwa [e1] at this
end
def takeCols(l:List UInt8)(at_:Nat):Nat→Option (List Col × Nat)
 | 0=>some ([],at_)
 | n+1=>match takeT l (at_:Int) 24 with
  | none=>none
  | some x=>if l.length-x.2<2∨1<(l.getD (x.2+1) 0).toNat then none else
   (takeCols l (x.2+2) n).map fun r=>((sof x.1,((l.getD x.2 0).toNat:Int),(l.getD (x.2+1) 0).toNat==1) :: r.1,r.2)
def takeSch(l:List UInt8)(at_:Int):Option (List Col × Nat) :=
 match takeN l at_ with
 | none=>none
 | some x=>if 16<x.1 then none else match takeCols l x.2 x.1 with
  | none=>none
  | some r=>if rightCols r.1 then some r else none
theorem takeT_len{l:List UInt8}{at_:Int}{most:Nat}{s:List UInt8}{k:Nat}(h:takeT l at_ most=some (s,k)):s.length≤l.length:=by
 unfold takeT at h
 split at h
 ·split at h
  ·cases h
  ·simp only [Option.some.injEq,Prod.mk.injEq] at h
   obtain⟨rfl,_⟩:=h
   rw [List.length_take,List.length_drop]
   omega
 ·cases h
def SchTV(o:Option (List Col × Nat))(w w':World)(v:Value):Prop :=
 match o with
 | none=>v=.tuple #[.slice none 0 0,.int .i64 0,.int .i64 52]∧Below w.heap.size w w'
 | some r=>∃ a c,v=.tuple #[.slice a r.1.length c,.int .i64 (r.2:Int),.int .i64 0]∧ST w w' [colsI a c r.1]
theorem SchTV.bad{o:Option (List Col × Nat)}{w w':World}(h:o=none)(B:Below w.heap.size w w'):SchTV o w w' (.tuple #[.slice none 0 0,.int .i64 0,.int .i64 52]):=by
 subst h
 exact⟨rfl,B⟩
section
variable {w:World}{a:Option Addr}{c:Nat}{l:List UInt8}
theorem col_bytes(hl:Rd w a (l.map byteV)){k:Nat}(h:2≤l.length-k):∃ p,a=some p∧w.cell? (p.add (k*1))=some (.int .u8 ((l.getD k 0).toNat:Int))∧w.cell? (p.add ((k+1)*1))=some (.int .u8 ((l.getD (k+1) 0).toNat:Int)):=by
 have h1:k<l.length:=by omega
 have h2:k+1<l.length:=by omega
 obtain⟨p,rfl,c1⟩:=byte_at hl h1
 obtain⟨p',hp,c2⟩:=byte_at hl h2
 cases hp
 exact⟨p,rfl,by rw [c1];simp [List.getD,h1],by rw [c2];simp [List.getD,h2]⟩
theorem schema_Take_ok(hl:Rd w a (l.map byteV))(hc:l.length≤c)(hs:l.length≤140737488355328)(at_:Int) :
  Calls Tryz.prog f.schema_Take #[.slice a l.length c,.int .i64 at_] w (Ret fun v w'=>SchTV (takeSch l at_) w w' v):=by
 apply R.schema_Take_calls
 unfold R.schema_Take
 refine (wire_TakeNumber_ok hl hc (by omega) at_).mono ?_
 rintro _ w1 ⟨_,rfl,rfl,rfl⟩
 cases hx:takeN l at_ with
 | none=>exact⟨_,_,_,rfl,IFB_ne (fun _=>.bad (by simp [takeSch,hx]) (.refl _ _)) (fun h=>by cases h)⟩
 | some x =>
  obtain⟨n,at0⟩:=x
  obtain⟨hn,_,_,hb2,_⟩:=takeN_bounds hx
  refine⟨_,_,_,rfl,IFB_ne (fun h=>absurd rfl h) (fun _=>IFB_dec (fun h=>.bad ?_ (.refl _ _)) (fun h16=>?_))⟩
  ·have:16<n:=by simp only at h;omega
   simp [takeSch,hx,this]
  have h16':n≤16:=by simp only at h16;omega
  have hT:takeSch l at_=match takeCols l at0 n with
   | none=>none
   | some r=>if rightCols r.1 then some r else none:=by
   have:¬ 16<n:=by omega
   simp [takeSch,hx,this]
  rw [hT]
  refine⟨fun s w2=>∃(i at1:Nat) (cs:List Col) (ca:Option Addr) (cc:Nat),s=[.int .i64 (at1:Int),.slice ca cs.length cc,.int .u64 (i:Int)]∧i≤n∧cs.length=i∧at1≤l.length∧(∀ c∈cs,c.1.size≤9223372036854775807) ∧
    takeCols l at0 n=((takeCols l at1 (n-i)).map fun r=>(cs++r.1,r.2))∧ST w1 w2 [colsI ca cc cs],fun s _=>match s with
   | [_,_,.int _ i]=>n-i.toNat
   | _=>0,⟨0,at0,[],none,0,rfl,by omega,rfl,by omega,by simp,by simp,(ST.start w1).nil _ _⟩,?_⟩
  rintro _ ca _ cc _ w2 ⟨i,at1,cs,_,_,hst,hi,hci,hat,hq,hrel,S⟩
  cases hst
  refine IFB_dec (fun hlt=>?_) (fun hge=>?_)
  ·obtain⟨m,hm⟩:∃ m,n-i=m+1:=⟨n-i-1,by simp only at hlt;omega⟩
   rw [hm] at hrel
   have hl2:=hl.grown S.bel
   refine (wire_TakeText_any hl2 hc (by omega) (at1:Int) 24).mono ?_
   rintro _ w3 ⟨_,rfl,rfl,rfl⟩
   cases ht:takeT l (at1:Int) 24 with
   | none =>
    refine⟨_,_,_,rfl,IFB_ne (fun _=>.bad ?_ S.bel) (fun h=>by cases h)⟩
    rw [hrel]
    simp [takeCols,ht]
   | some x =>
    obtain⟨nm,k⟩:=x
    have hk:=takeT_le ht
    have hnm:=takeT_len ht
    refine⟨_,_,_,rfl,IFB_ne (fun h=>absurd rfl h) (fun _=>?_)⟩
    simp only
    rw [wrap_i64 (n:=(l.length:Int)-(k:Int)) (by omega) (by omega),wrap_succ (k:=k) (by omega)]
    refine IFB_dec (fun h2=>.bad ?_ S.bel) (fun h2=>?_)
    ·rw [hrel]
     have:l.length-k<2:=by omega
     simp [takeCols,ht,this]
    obtain⟨p,rfl,d0,d1⟩:=col_bytes hl2 (k:=k) (by omega)
    refine⟨⟨by omega,by omega⟩,_,by rw [Int.toNat_natCast];exact d1,IFB_dec (fun h3=>.bad ?_ S.bel) (fun h3=>S.draw fun w4 B4 S=>?_)⟩
    ·rw [hrel]
     have:l.length-k<2∨1<(l.getD (k+1) 0).toNat:=.inr (by omega)
     simp only [takeCols,ht,if_pos this,Option.map_none]
    have hl4:=hl2.grown B4
    obtain⟨p',hp',d0,d1⟩:=col_bytes hl4 (k:=k) (by omega)
    cases hp'
    have hby:=(l.getD k 0).toNat_lt
    refine⟨⟨by omega,by omega⟩,⟨by omega,by omega⟩,_,by rw [Int.toNat_natCast];exact d0,_,by rw [Int.toNat_natCast];exact d1,?_⟩
    rw [wrap_i64 (n:=((l.getD k 0).toNat:Int)) (by omega) (by omega),wrap_i64 (n:=(k:Int)+2) (by omega) (by omega),wrap_u64_id (n:=(i:Int)+1) (by omega) (by simp only at hlt;omega)]
    obtain⟨x,hx⟩:∃ x:Col,x=(sof nm,((l.getD k 0).toNat:Int),(l.getD (k+1) 0).toNat==1):=⟨_,rfl⟩
    refine S.newB fun b21 w5 _ _ S=>?_
    have hsrc:Rd w5 (some ⟨b21,0,none⟩) (colC x):=by
     have h:=S.rdc 0 rfl
     have e:(((l.getD (k+1) 0).toNat:Int)==1)=((l.getD (k+1) 0).toNat==1):=by rw [Bool.eq_iff_iff];simp;omega
     rw [e] at h
     rw [hx]
     exact h
    refine stAppC S 1 rfl hsrc (by simp only at hlt;omega) fun a6 c6 w6 S=>⟨_,_,_,rfl,?_⟩
    refine⟨⟨i+1,k+2,cs++[x],a6,c6,?_,by simp only at hlt;omega,by simp [hci],by omega,?_,?_,S.drop 1⟩,?_⟩
    ·simp only [List.length_append,List.length_cons,List.length_nil,List.cons.injEq,Value.int.injEq,true_and,and_true]
     constructor <;> omega
    ·intro c hc
     rcases List.mem_append.1 hc with h | h
     ·exact hq c h
     ·rw [List.mem_singleton.1 h,hx]
      show (sof nm).size≤_
      rw [size_sof]
      omega
    ·rw [hrel,show n-(i+1)=m by omega]
     have h2':¬ (l.length-k<2∨1<(l.getD (k+1) 0).toNat):=by omega
     simp only [takeCols,ht,h2',if_false,Option.map_map]
     congr 1
     funext r
     simp [hx]
    ·show n-((i:Int)+1).toNat<n-(i:Int).toNat
     simp only at hlt
     omega
  ·have:n-i=0:=by simp only at hge;omega
   rw [this] at hrel
   simp only [takeCols,Option.map_some,List.append_nil] at hrel
   rw [hrel]
   refine (schema_Right_ok (stRdC S 0 rfl) (by omega) hq).mono ?_
   rintro _ w7 ⟨_,rfl,rfl,B7⟩
   refine⟨_,rfl,IFB_not (IFB_of (fun hR=>?_) (fun hR=>.bad (by simp [hR]) (S.grown B7).bel))⟩
   simp only [hR,if_true]
   exact⟨ca,cc,rfl,S.grown B7⟩
end
end Go.Proofs.YtipgnehlihmdhaaGreatDoor
namespace Go.Proofs.YtipgnehlihmdhaaGreatDoor
set_option maxRecDepth 100000
open Go.Dn Go.Proofs
open Go.RowKit (Below)
set_option linter.unusedVariables false
/-! ### the order -/
def compI(x y:Int):Int:=if x<y then -1 else if x > y then 1 else 0
def cmpV(a b:Val):Int :=
 if compI a.1 b.1≠0 then compI a.1 b.1 else if compI a.2.1 b.2.1≠0 then compI a.2.1 b.2.1 else Lib.compareBytes (bl a.2.2) (bl b.2.2)
theorem cmp_isNaN64(w:World)(x:Int):Calls Tryz.prog f.cmp_isNaN_int64 #[.int .i64 x] w (Ret fun r w'=>r=.bool false∧w'=w):=by
 apply R.cmp_isNaN_int64_calls
 exact⟨by simp,rfl⟩
theorem cmp_Compare64(w:World)(x y:Int):Calls Tryz.prog f.cmp_Compare_int64 #[.int .i64 x,.int .i64 y] w (Ret fun r w'=>r=.int .i64 (compI x y)∧w'=w):=by
 apply R.cmp_Compare_int64_calls
 unfold R.cmp_Compare_int64
 refine (cmp_isNaN64 w x).mono ?_
 rintro _ w ⟨_,rfl,rfl,rfl⟩
 refine⟨_,rfl,(cmp_isNaN64 w y).mono ?_⟩
 rintro _ w ⟨_,rfl,rfl,rfl⟩
 refine⟨_,rfl,IFB_false (IFB_false (IFB_dec (fun h=>⟨?_,rfl⟩) (fun h=>IFB_dec (fun h2=>⟨?_,rfl⟩) (fun h2=>⟨?_,rfl⟩))))⟩
 ·simp [compI,h]
 ·simp [compI,h,h2]
 ·simp [compI,h,h2]
theorem cmp_isNaNI(w:World)(x:Int):Calls Tryz.prog f.cmp_isNaN_int #[.int .i64 x] w (Ret fun r w'=>r=.bool false∧w'=w):=by
 apply R.cmp_isNaN_int_calls
 unfold R.cmp_isNaN_int
 exact⟨by simp,rfl⟩
theorem cmpInt(x y:Int)(w:World):Calls Tryz.prog f.cmp_Compare_int #[.int .i64 x,.int .i64 y] w fun e w'=>e=.returned (.int .i64 (compI x y))∧w'=w:=by
 have h:Calls Tryz.prog f.cmp_Compare_int #[.int .i64 x,.int .i64 y] w (Ret fun r w'=>r=.int .i64 (compI x y)∧w'=w):=by
  apply R.cmp_Compare_int_calls
  unfold R.cmp_Compare_int
  refine (cmp_isNaNI w x).mono ?_
  rintro _ w ⟨_,rfl,rfl,rfl⟩
  refine⟨_,rfl,(cmp_isNaNI w y).mono ?_⟩
  rintro _ w ⟨_,rfl,rfl,rfl⟩
  refine⟨_,rfl,IFB_false (IFB_false (IFB_dec (fun h=>⟨?_,rfl⟩) (fun h=>IFB_dec (fun h2=>⟨?_,rfl⟩) (fun h2=>⟨?_,rfl⟩))))⟩
  ·simp [compI,h]
  ·simp [compI,h,h2]
  ·simp [compI,h,h2]
 refine h.mono ?_
 rintro _ _ ⟨_,rfl,rfl,rfl⟩
 exact⟨rfl,rfl⟩
theorem cmp_Or3{w:World}{b:Nat}{t:TypeId}(x y z:Int)(hb:w.heap[b]?=some (.cells #[.int .i64 x,.int .i64 y,.int .i64 z] t (0,0))) :
  Calls Tryz.prog f.cmp_Or_int #[.slice (some ⟨b,0,none⟩) 3 3] w (Ret fun r w'=>r=.int .i64 (if x≠0 then x else if y≠0 then y else z)∧w'=w):=by
 apply R.cmp_Or_int_calls
 unfold R.cmp_Or_int
 have cell:∀(k:Nat) (v:Value),[Value.int .i64 x,.int .i64 y,.int .i64 z][k]?=some v→w.cell? ((⟨b,0,none⟩:Addr).add ((k:Int).toNat*1))=some v:=by
  intro k v hv
  rw [Int.toNat_natCast,Nat.mul_one,addr_add_blk,Nat.zero_add]
  simp only [World.cell?,hb]
  simpa using hv
 refine⟨fun s w1=>w1=w∧(s=[.int .i64 ((0:Nat):Int)]∨(s=[.int .i64 ((1:Nat):Int)]∧x=0)∨(s=[.int .i64 ((2:Nat):Int)]∧x=0∧y=0)∨(s=[.int .i64 ((3:Nat):Int)]∧x=0∧y=0∧z=0)),
  fun s _=>match s with
   | [.int _ i]=>3-i.toNat
   | _=>0,⟨rfl,.inl rfl⟩,?_⟩
 rintro i w1 ⟨rfl,hs⟩
 rcases hs with hs | ⟨hs,h0⟩ | ⟨hs,h0,h1⟩ | ⟨hs,h0,h1,h2⟩
 ·cases hs
  refine IFB_true ⟨by decide,_,cell 0 _ rfl,IFB_ne (fun h=>⟨by rw [if_pos h],rfl⟩) (fun h=>?_)⟩
  rw [wrap_succ (by omega)]
  exact⟨⟨rfl,.inr (.inl ⟨rfl,h⟩)⟩,show 2<3 by decide⟩
 ·cases hs
  refine IFB_true ⟨by decide,_,cell 1 _ rfl,IFB_ne (fun h=>⟨by rw [if_neg (by omega),if_pos h],rfl⟩) (fun h=>?_)⟩
  rw [wrap_succ (by omega)]
  exact⟨⟨rfl,.inr (.inr (.inl ⟨rfl,h0,h⟩))⟩,show 1<2 by decide⟩
 ·cases hs
  refine IFB_true ⟨by decide,_,cell 2 _ rfl,IFB_ne (fun h=>⟨by rw [if_neg (by omega),if_neg (by omega)],rfl⟩) (fun h=>?_)⟩
  rw [wrap_succ (by omega)]
  exact⟨⟨rfl,.inr (.inr (.inr ⟨rfl,h0,h1,h⟩))⟩,show 0<1 by decide⟩
 ·cases hs
  exact IFB_false ⟨by rw [if_neg (by omega),if_neg (by omega),h2],rfl⟩
theorem value_Compare_ok(w:World)(a b:Val):Calls Tryz.prog f.value_Compare #[valV a,valV b] w (Ret fun r w'=>r=.int .i64 (cmpV a b)∧Below w.heap.size w w'):=by
 apply R.value_Compare_calls
 unfold R.value_Compare
 refine (SH.start (fun _=>False) w).newB fun b7 w1 hb7 B1 S1=>S1.newB fun b8 w2 hb8 B2 S2=>S2.drawB fun w3 B3 S3=>?_
 refine⟨_,S3.cell 1 rfl rfl,_,S3.cell 0 rfl rfl,_,S3.cell 1 rfl rfl,_,S3.cell 0 rfl rfl,_,S3.cell 1 rfl rfl,_,S3.cell 0 rfl rfl,(cmpInt _ _ w3).mono ?_⟩
 rintro _ w3 ⟨rfl,rfl⟩
 refine⟨_,rfl,S3.cell 0 rfl rfl,S3.cell 1 rfl rfl,S3.cell 0 rfl rfl,S3.cell 1 rfl rfl,(cmp_Compare64 w3 _ _).mono ?_⟩
 rintro _ w3 ⟨_,rfl,rfl,rfl⟩
 refine⟨_,rfl,S3.cell 0 rfl rfl,S3.cell 1 rfl rfl,(Tryz.strings_Compare _ _ w3).mono ?_⟩
 rintro _ w3 ⟨rfl,rfl⟩
 refine⟨_,rfl,S3.newB fun b21 w7 hb21 B7 S7=>(cmp_Or3 _ _ _ (S7.get 0 rfl)).mono ?_⟩
 rintro _ w7 ⟨_,rfl,rfl,rfl⟩
 exact⟨_,rfl,rfl,S7.below⟩
end Go.Proofs.YtipgnehlihmdhaaGreatDoor
namespace Go.Dn
end Go.Dn
namespace Go.Proofs.YtipgnehlihmdhaaGreatDoor
open Go.Dn Go.Proofs
open Go.RowKit (Below)
set_option linter.unusedVariables false
set_option maxRecDepth 20000
/-! ### orders -/
structure IsOrd{α:Type}(f:α→α→Int):Prop where
 neg:∀ x y,f y x =-f x y
 zero:∀ x y,f x y=0↔x=y
 trans:∀ x y z,f x y≤0→f y z≤0→f x z≤0
theorem IsOrd.strict{α:Type}{f:α→α→Int}(h:IsOrd f)(x y z:α)(h1:f x y<0)(h2:f y z≤0):f x z<0:=by
 have h3:=h.trans x y z (by omega) h2
 rcases Int.lt_or_eq_of_le h3 with h4 | h4
 ·exact h4
 ·have:=(h.zero x z).1 h4
  subst this
  have:=h.neg x y
  omega
theorem ord_int:IsOrd compI:=by
 refine⟨fun x y=>?_,fun x y=>?_,fun x y z=>?_⟩
 ·unfold compI
  split <;> split <;> (try split) <;> (try split) <;> omega
 ·unfold compI
  split
  ·constructor <;> intro h <;> omega
  ·split
   ·constructor <;> intro h <;> omega
   ·constructor <;> intro h <;> omega
 ·unfold compI
  intro h1 h2
  split at h1 <;> split at h2 <;> split <;> (try split at h1) <;> (try split at h2) <;> (try split) <;> omega
theorem cb_neg:∀ x y:List UInt8,Lib.compareBytes y x =-Lib.compareBytes x y
 | [],[]=>rfl
 | [],_ :: _=>rfl
 | _ :: _,[]=>rfl
 | a :: x,b :: y=>by
  simp only [Lib.compareBytes]
  by_cases h1:a<b
  ·have h2:¬ b<a:=fun h=>absurd (UInt8.lt_trans h1 h) (UInt8.lt_irrefl a)
   simp [h1,h2]
  ·by_cases h2:b<a
   ·simp [h1,h2]
   ·simp [h1,h2,cb_neg x y]
theorem u8_eq{a b:UInt8}(h1:¬ a<b)(h2:¬ b<a):a=b:=UInt8.le_antisymm (UInt8.not_lt.1 h2) (UInt8.not_lt.1 h1)
theorem cb_zero:∀ x y:List UInt8,Lib.compareBytes x y=0↔x=y
 | [],[]=>by simp [Lib.compareBytes]
 | [],_ :: _=>by simp [Lib.compareBytes]
 | _ :: _,[]=>by simp [Lib.compareBytes]
 | a :: x,b :: y=>by
  simp only [Lib.compareBytes]
  by_cases h1:a<b
  ·rw [if_pos h1]
   constructor
   ·intro h;cases h
   ·intro h;cases h;exact absurd h1 (UInt8.lt_irrefl a)
  ·rw [if_neg h1]
   by_cases h2:b<a
   ·rw [if_pos h2]
    constructor
    ·intro h;cases h
    ·intro h;cases h;exact absurd h2 (UInt8.lt_irrefl a)
   ·rw [if_neg h2,cb_zero x y,u8_eq h1 h2]
    simp
theorem cb_trans:∀ x y z:List UInt8,Lib.compareBytes x y≤0→Lib.compareBytes y z≤0→Lib.compareBytes x z≤0
 | [],_,[],_,_=>by simp [Lib.compareBytes]
 | [],_,_ :: _,_,_=>by simp [Lib.compareBytes]
 | _ :: _,[],_,h,_=>by simp [Lib.compareBytes] at h
 | _ :: _,_ :: _,[],_,h=>by simp [Lib.compareBytes] at h
 | a :: x,b :: y,c :: z,h1,h2=>by
  simp only [Lib.compareBytes] at h1 h2 ⊢
  by_cases e1:a<b
  ·by_cases e2:b<c
   ·rw [if_pos (UInt8.lt_trans e1 e2)];decide
   ·rw [if_neg e2] at h2
    by_cases e3:c<b
    ·rw [if_pos e3] at h2;omega
    ·have:=u8_eq e2 e3;subst this
     rw [if_pos e1];decide
  ·rw [if_neg e1] at h1
   by_cases e2:b<a
   ·rw [if_pos e2] at h1;omega
   ·have:=u8_eq e1 e2
    subst this
    rw [if_neg e2] at h1
    by_cases e3:a<c
    ·rw [if_pos e3];decide
    ·rw [if_neg e3] at h2 ⊢
     by_cases e4:c<a
     ·rw [if_pos e4] at h2;omega
     ·rw [if_neg e4] at h2 ⊢
      exact cb_trans x y z h1 h2
def lexF{α β:Type}(f:α→α→Int)(g:β→β→Int)(x y:α × β):Int:=if f x.1 y.1≠0 then f x.1 y.1 else g x.2 y.2
theorem IsOrd.lex{α β:Type}{f:α→α→Int}{g:β→β→Int}(hf:IsOrd f)(hg:IsOrd g):IsOrd (lexF f g):=by
 refine⟨fun x y=>?_,fun x y=>?_,fun x y z=>?_⟩
 ·have h1:=hf.neg x.1 y.1
  have h2:=hg.neg x.2 y.2
  unfold lexF
  split <;> split <;> omega
 ·have h1:=hf.zero x.1 y.1
  have h2:=hg.zero x.2 y.2
  unfold lexF
  split
  ·rename_i h
   constructor
   ·intro e;exact absurd e h
   ·intro e;rw [e] at h;exact absurd ((hf.zero _ _).2 rfl) h
  ·rename_i h
   have e1:x.1=y.1:=h1.1 (by omega)
   rw [h2]
   constructor
   ·intro e;exact Prod.ext e1 e
   ·intro e;rw [e]
 ·unfold lexF
  intro a b
  by_cases h1:f x.1 y.1=0
  ·have e1:=(hf.zero _ _).1 h1
   rw [if_neg (by omega)] at a
   rw [← e1] at b
   by_cases h2:f x.1 z.1=0
   ·rw [if_neg (by omega)] at b ⊢
    exact hg.trans _ _ _ a b
   ·rw [if_pos h2] at b ⊢
    exact b
  ·rw [if_pos h1] at a
   by_cases h2:f y.1 z.1=0
   ·have e2:=(hf.zero _ _).1 h2
    rw [← e2,if_pos h1]
    exact a
   ·rw [if_pos h2] at b
    have:=hf.strict x.1 y.1 z.1 (by omega) b
    rw [if_pos (by omega)]
    omega
def cmpT(a b:Val):Int:=lexF compI (lexF compI (fun s t=>Lib.compareBytes (bl s) (bl t))) a b
theorem cmpV_eq(a b:Val):cmpV a b=cmpT a b:=by
 simp only [cmpV,cmpT,lexF]
theorem ord_str:IsOrd (fun s t:ByteArray=>Lib.compareBytes (bl s) (bl t)) :=
 ⟨fun x y=>cb_neg _ _,fun x y=>(cb_zero _ _).trans ⟨fun h=>bl_inj h,fun h=>by rw [h]⟩,fun x y z=>cb_trans _ _ _⟩
theorem ord_val:IsOrd cmpV:=by
 have:cmpV=cmpT:=by funext a b;exact cmpV_eq a b
 rw [this]
 exact ord_int.lex (ord_int.lex ord_str)
/-! ### the laws -/
end Go.Proofs.YtipgnehlihmdhaaGreatDoor
namespace Go.Dn
open Go.RowKit (Below)
section
variable {F:Nat→Prop}{w0 w:World}{H:List Ent}
theorem SH.chg(S:SH F w0 w H)(n:Nat){b:Nat}{cs cs':Array Value}{t:TypeId}(hn:H[n]?=some (b,cs,t)){i:Nat}{v:Value}{k:World→Prop}(hi:i<cs.size)(hc:cs.setIfInBounds i v=cs')
  (hk:∀ w',Keeps (·=b) w w'→SH F w0 w' (H.set n (b,cs',t))→k w'):STO ⟨b,i,none⟩ v k w:=by
 subst hc
 exact S.stoK n hn hi hk
theorem SH.sto7(S:SH F w0 w H)(n:Nat){b:Nat}{x0 x1 x2 x3 x4 x5 x6 v0 v1 v2 v3 v4 v5 v6:Value}{t:TypeId}(hn:H[n]?=some (b,#[x0,x1,x2,x3,x4,x5,x6],t)){k:World→Prop}
  (hk:∀ w',Keeps (·=b) w w'→SH F w0 w' (H.set n (b,#[v0,v1,v2,v3,v4,v5,v6],t))→k w') :
  STO ⟨b,0,none⟩ v0 (fun w=>STO ⟨b,1,none⟩ v1 (fun w=>STO ⟨b,2,none⟩ v2 (fun w=>STO ⟨b,3,none⟩ v3 (fun w=>STO ⟨b,4,none⟩ v4 (fun w=>STO ⟨b,5,none⟩ v5 (fun w=>STO ⟨b,6,none⟩ v6 k w) w) w) w) w) w) w:=by
 have hlt:=(List.getElem?_eq_some_iff.1 hn).1
 have tr:∀ {a c d:World},Keeps (·=b) a c→Keeps (·=b) c d→Keeps (·=b) a d:=fun h h'=>h.trans h' (fun _ _ h=>h)
 refine S.chg n hn (cs':=#[v0,x1,x2,x3,x4,x5,x6]) (by simp) rfl fun w1 K1 S1=>?_
 refine S1.chg n (List.getElem?_set_self hlt) (cs':=#[v0,v1,x2,x3,x4,x5,x6]) (by simp) rfl fun w2 K2 S2=>?_
 rw [List.set_set] at S2
 refine S2.chg n (List.getElem?_set_self hlt) (cs':=#[v0,v1,v2,x3,x4,x5,x6]) (by simp) rfl fun w3 K3 S3=>?_
 rw [List.set_set] at S3
 refine S3.chg n (List.getElem?_set_self hlt) (cs':=#[v0,v1,v2,v3,x4,x5,x6]) (by simp) rfl fun w4 K4 S4=>?_
 rw [List.set_set] at S4
 refine S4.chg n (List.getElem?_set_self hlt) (cs':=#[v0,v1,v2,v3,v4,x5,x6]) (by simp) rfl fun w5 K5 S5=>?_
 rw [List.set_set] at S5
 refine S5.chg n (List.getElem?_set_self hlt) (cs':=#[v0,v1,v2,v3,v4,v5,x6]) (by simp) rfl fun w6 K6 S6=>?_
 rw [List.set_set] at S6
 refine S6.chg n (List.getElem?_set_self hlt) (cs':=#[v0,v1,v2,v3,v4,v5,v6]) (by simp) rfl fun w7 K7 S7=>?_
 rw [List.set_set] at S7
 exact hk w7 (tr (tr (tr (tr (tr (tr K1 K2) K3) K4) K5) K6) K7) S7
theorem SH.stoMin(S:SH F w0 w H)(n:Nat){b:Nat}{x0 x1 x2 x3 x4 x5 x6 v1 v2 v3:Value}{t:TypeId}(hn:H[n]?=some (b,#[x0,x1,x2,x3,x4,x5,x6],t)){k:World→Prop}
  (hk:∀ w',Keeps (·=b) w w'→SH F w0 w' (H.set n (b,#[x0,v1,v2,v3,x4,x5,x6],t))→k w'):STO ⟨b,1,none⟩ v1 (fun w=>STO ⟨b,2,none⟩ v2 (fun w=>STO ⟨b,3,none⟩ v3 k w) w) w:=by
 have hlt:=(List.getElem?_eq_some_iff.1 hn).1
 have tr:∀ {a c d:World},Keeps (·=b) a c→Keeps (·=b) c d→Keeps (·=b) a d:=fun h h'=>h.trans h' (fun _ _ h=>h)
 refine S.chg n hn (cs':=#[x0,v1,x2,x3,x4,x5,x6]) (by simp) rfl fun w1 K1 S1=>?_
 refine S1.chg n (List.getElem?_set_self hlt) (cs':=#[x0,v1,v2,x3,x4,x5,x6]) (by simp) rfl fun w2 K2 S2=>?_
 rw [List.set_set] at S2
 refine S2.chg n (List.getElem?_set_self hlt) (cs':=#[x0,v1,v2,v3,x4,x5,x6]) (by simp) rfl fun w3 K3 S3=>?_
 rw [List.set_set] at S3
 exact hk w3 (tr (tr K1 K2) K3) S3
theorem SH.stoMax(S:SH F w0 w H)(n:Nat){b:Nat}{x0 x1 x2 x3 x4 x5 x6 v4 v5 v6:Value}{t:TypeId}(hn:H[n]?=some (b,#[x0,x1,x2,x3,x4,x5,x6],t)){k:World→Prop}
  (hk:∀ w',Keeps (·=b) w w'→SH F w0 w' (H.set n (b,#[x0,x1,x2,x3,v4,v5,v6],t))→k w'):STO ⟨b,4,none⟩ v4 (fun w=>STO ⟨b,5,none⟩ v5 (fun w=>STO ⟨b,6,none⟩ v6 k w) w) w:=by
 have hlt:=(List.getElem?_eq_some_iff.1 hn).1
 have tr:∀ {a c d:World},Keeps (·=b) a c→Keeps (·=b) c d→Keeps (·=b) a d:=fun h h'=>h.trans h' (fun _ _ h=>h)
 refine S.chg n hn (cs':=#[x0,x1,x2,x3,v4,x5,x6]) (by simp) rfl fun w1 K1 S1=>?_
 refine S1.chg n (List.getElem?_set_self hlt) (cs':=#[x0,x1,x2,x3,v4,v5,x6]) (by simp) rfl fun w2 K2 S2=>?_
 rw [List.set_set] at S2
 refine S2.chg n (List.getElem?_set_self hlt) (cs':=#[x0,x1,x2,x3,v4,v5,v6]) (by simp) rfl fun w3 K3 S3=>?_
 rw [List.set_set] at S3
 exact hk w3 (tr (tr K1 K2) K3) S3
end
end Go.Dn
namespace Go.Proofs.YtipgnehlihmdhaaGreatDoor
open Go.Dn Go.Proofs
open Go.RowKit (Below)
set_option linter.unusedVariables false
set_option maxRecDepth 20000
abbrev Z0:Val:=(0,0,E0)
def zstep(z:Option (Val × Val))(v:Val):Option (Val × Val) :=
 if v.1=0 then z else match z with
 | none=>some (v,v)
 | some p=>some (if cmpV v p.1<0 then v else p.1,if 0<cmpV v p.2 then v else p.2)
def zoneS(ls:List Val):Option (Val × Val):=ls.foldl zstep none
def zmm(ls:List Val):Val × Val:=(zoneS ls).getD (Z0,Z0)
def zC(n:Int)(p:Val × Val):Array Value:=#[.int .i64 n,.int .i64 p.1.1,.int .i64 p.1.2.1,.string p.1.2.2,.int .i64 p.2.1,.int .i64 p.2.2.1,.string p.2.2.2]
def zV(n:Int)(p:Val × Val)(e:Int):Value:=.tuple #[.agg (zC n p),.int .i64 e]
theorem zoneS_take{ls:List Val}{i:Nat}(hi:i<ls.length):zoneS (ls.take (i+1))=zstep (zoneS (ls.take i)) ls[i]:=by
 unfold zoneS
 rw [List.take_succ_eq_append_getElem hi,List.foldl_append]
 rfl
theorem zone_none{ls:List Val}:∀ i,i≤ls.length→((zoneS (ls.take i)).isNone=true↔(fullL (ls.take i)).length=0)
 | 0,_=>by simp [zoneS,fullL]
 | i+1,h=>by
  have ih:=zone_none (ls:=ls) i (by omega)
  have hi:i<ls.length:=by omega
  rw [zoneS_take hi,fullL_take hi]
  unfold zstep
  by_cases h0:ls[i].1=0
  ·rw [if_pos h0,if_pos h0,List.append_nil]
   exact ih
  ·rw [if_neg h0,if_neg h0]
   cases zoneS (ls.take i) <;> simp
theorem zmm_step{ls:List Val}{i:Nat}(hi:i<ls.length)(h0:ls[i].1≠0):zmm (ls.take (i+1))=(if (fullL (ls.take i)).length=0∨cmpV ls[i] (zmm (ls.take i)).1<0 then ls[i] else (zmm (ls.take i)).1,if (fullL (ls.take i)).length=0∨0<cmpV ls[i] (zmm (ls.take i)).2 then ls[i] else (zmm (ls.take i)).2):=by
 have hn:=zone_none (ls:=ls) i (by omega)
 unfold zmm
 rw [zoneS_take hi]
 unfold zstep
 rw [if_neg h0]
 cases hz:zoneS (ls.take i) with
 | none =>
  rw [hz] at hn
  have:(fullL (ls.take i)).length=0:=hn.1 rfl
  simp [this]
 | some p =>
  rw [hz] at hn
  have:¬ (fullL (ls.take i)).length=0:=fun h=>by simpa using hn.2 h
  simp [this]
theorem zmm_skip{ls:List Val}{i:Nat}(hi:i<ls.length)(h0:ls[i].1=0):zmm (ls.take (i+1))=zmm (ls.take i):=by
 unfold zmm
 rw [zoneS_take hi]
 unfold zstep
 rw [if_pos h0]
theorem nulls_full(ls:List Val):nullsN ls+(fullL ls).length=ls.length:=by
 induction ls with
 | nil=>rfl
 | cons v ls ih =>
  unfold nullsN fullL at ih ⊢
  by_cases h:v.1=0
  ·simp [h];omega
  ·simp [h];omega
def zoneOk(ls:List Val):Prop:=ls.length≤1024∧∀ v∈ls,rightB v=true
def ZoneV(ls:List Val)(r:Value):Prop:=(zoneOk ls∧r=zV (nullsN ls:Int) (zmm ls) 0)∨(¬ zoneOk ls∧r=zV 0 (Z0,Z0) 2)
section
variable {w:World}{a:Option Addr}{c:Nat}{ls:List Val}
theorem zone_bad{H:List Ent}{wx:World}{b2 n:Nat}{x:Int}{p:Val × Val}(S:SH (fun _=>False) w wx H)(hn:H[n]?=some (b2,zC x p,ty.api_Zone))(hno:¬ zoneOk ls) :
  STO ⟨b2,0,none⟩ (.int .i64 0) (fun w2=>STO ⟨b2,1,none⟩ (.int .i64 0) (fun w3=>STO ⟨b2,2,none⟩ (.int .i64 0) (fun w4=>STO ⟨b2,3,none⟩ (.string ⟨#[]⟩) (fun w5=>STO ⟨b2,4,none⟩ (.int .i64 0) (fun w6=>STO ⟨b2,5,none⟩ (.int .i64 0) (fun w7=>STO ⟨b2,6,none⟩ (.string ⟨#[]⟩) (fun w8 =>
   ∃ r0:Int,w8.cell? ⟨b2,0,none⟩=some (.int .i64 r0)∧∃ r1:Int,w8.cell? ⟨b2,1,none⟩=some (.int .i64 r1)∧∃ r2:Int,w8.cell? ⟨b2,2,none⟩=some (.int .i64 r2)∧∃ r3:ByteArray,w8.cell? ⟨b2,3,none⟩=some (.string r3)∧∃ r4:Int,w8.cell? ⟨b2,4,none⟩=some (.int .i64 r4)∧∃ r5:Int,w8.cell? ⟨b2,5,none⟩=some (.int .i64 r5)∧∃ r6:ByteArray,w8.cell? ⟨b2,6,none⟩=some (.string r6) ∧
   (fun v w'=>ZoneV ls v∧Below w.heap.size w w') (.tuple #[.agg #[.int .i64 r0,.int .i64 r1,.int .i64 r2,.string r3,.int .i64 r4,.int .i64 r5,.string r6],.int .i64 2]) w8) w7) w6) w5) w4) w3) w2) wx:=by
 have hlt:=(List.getElem?_eq_some_iff.1 hn).1
 refine S.sto7 n hn fun w8 K8 S8=>?_
 have hn8:=List.getElem?_set_self (l:=H) (a:=(b2,(#[Value.int .i64 0,.int .i64 0,.int .i64 0,.string ⟨#[]⟩,.int .i64 0,.int .i64 0,.string ⟨#[]⟩]:Array Value),ty.api_Zone)) hlt
 exact⟨_,S8.cell n hn8 rfl,_,S8.cell n hn8 rfl,_,S8.cell n hn8 rfl,_,S8.cell n hn8 rfl,_,S8.cell n hn8 rfl,_,S8.cell n hn8 rfl,_,S8.cell n hn8 rfl,.inr ⟨hno,rfl⟩,S8.below⟩
end
end Go.Proofs.YtipgnehlihmdhaaGreatDoor
namespace Go.Proofs.YtipgnehlihmdhaaGreatDoor
set_option maxRecDepth 100000
open Go.Dn Go.Proofs
open Go.RowKit (Below)
set_option linter.unusedVariables false
theorem if_left{α:Type}{p q:Prop}[Decidable p][Decidable (p∨q)](h:p)(x y:α):(if p∨q then x else y)=x:=if_pos (.inl h)
section
variable {w:World}{a:Option Addr}{c:Nat}{ls:List Val}
theorem chunk_Zone_ok(hl:Rd w a (valsL ls)):Calls Tryz.prog f.chunk_Zone #[.slice a ls.length c] w (Ret fun v w'=>ZoneV ls v∧Below w.heap.size w w'):=by
 apply R.chunk_Zone_calls
 unfold R.chunk_Zone
 refine (SH.start (fun _=>False) w).newB fun b2 w1 hb2 B1 S1=>IFB_dec (fun hbig=>?_) (fun hle=>?_)
 ·exact zone_bad (p:=(Z0,Z0)) (x:=0) S1 (n:=0) rfl (fun h=>by have:=h.1;omega)
 have hlen:ls.length≤1024:=by omega
 refine S1.newB fun b10 w9 hb10 B9 S9=>S9.sto7 0 rfl fun w16 K16 S16=>?_
 refine⟨fun s w17=>∃ i:Nat,i≤ls.length∧s=[.int .i64 (i:Int)]∧SH (fun _=>False) w w17 [(b10,zC 0 (Z0,Z0),ty.api_Zone),(b2,zC 0 (Z0,Z0),ty.api_Zone)]∧∀ v∈ls.take i,rightB v=true,fun s _=>match s with
   | [.int _ i]=>ls.length-i.toNat
   | _=>0,⟨0,by omega,rfl,S16,by simp⟩,?_⟩
 rintro _ w17 ⟨i,hi,hst,S17,hall⟩
 cases hst
 refine IFB_dec (fun hlt=>⟨⟨by omega,hlt⟩,?_⟩) (fun hge=>?_)
 ·have hil:i<ls.length:=by omega
  obtain⟨p,rfl,c0,c1,c2⟩:=val_at (hl.grown S17.below) hil
  refine⟨_,by rw [Int.toNat_natCast];exact c0,_,by rw [Int.toNat_natCast];exact c1,_,by rw [Int.toNat_natCast];exact c2,S17.lit3 fun b17 w21 hb17 B21 S21=>?_⟩
  refine⟨_,S21.cell 0 rfl rfl,_,S21.cell 0 rfl rfl,_,S21.cell 0 rfl rfl,(value_Right_ok w21 ls[i]).mono ?_⟩
  rintro _ w22 ⟨_,rfl,rfl,B22⟩
  have S22:=S21.grown B22
  refine⟨_,rfl,IFB_not (IFB_of (fun hr=>?_) (fun hr=>?_))⟩
  ·rw [wrap_succ (by omega)]
   refine⟨⟨i+1,by omega,rfl,S22.drop 1,fun v hv=>?_⟩,?_⟩
   ·rw [List.take_succ_eq_append_getElem hil] at hv
    rcases List.mem_append.1 hv with h | h
    ·exact hall v h
    ·rw [List.mem_singleton.1 h];exact hr
   ·simp only [Int.toNat_natCast]
    omega
  ·exact zone_bad (p:=(Z0,Z0)) (x:=0) S22 (n:=2) rfl (fun h=>by have:=h.2 _ (List.getElem_mem hil);rw [this] at hr;cases hr)
 have hie:ls.take i=ls:=List.take_of_length_le (by omega)
 rw [hie] at hall
 have hok:zoneOk ls:=⟨hlen,hall⟩
 refine S17.newB fun b30 w30 hb30 B30 S30=>S30.chg 0 rfl (cs':=#[.int .i64 0]) (show 0<1 by decide) rfl fun w31 K31 S31=>chunk_full_ok.mono ?_
 rintro _ w32 ⟨_,rfl,bI,rfl,P32⟩
 have S32:SH (fun _=>False) w w32 [(b30,#[.int .i64 0],ty.int),(b10,zC 0 (Z0,Z0),ty.api_Zone),(b2,zC 0 (Z0,Z0),ty.api_Zone)]:=S31.grown P32.below
 refine⟨_,_,_,rfl,by kernel_rfl,fun rr hst hpe hy=>?_⟩
 obtain⟨W1,hW1⟩:∃ W1,W1=(w32.alloc (.deferred (some []))).alloc (.loop rr):=⟨_,rfl⟩
 rw [← hW1]
 have B91:Below w32.heap.size w32 W1:=by rw [hW1];exact (((Below.refl _ w32).alloc (Nat.le_refl _) _).alloc (by simp) _)
 have sz1:W1.heap.size=w32.heap.size+2:=by rw [hW1];simp
 have hL1:W1.heap[w32.heap.size+1]?=some (.loop rr):=by
  rw [hW1];have:=World.alloc_heap_new (w32.alloc (.deferred (some []))) (.loop rr);rwa [World.size_alloc] at this
 have hD1:W1.heap[w32.heap.size]?=some (.deferred (some [])):=by
  rw [hW1];exact (Below.heap_alloc _ _ _ (by simp)).trans (World.alloc_heap_new w32 _)
 obtain⟨L,hLd⟩:∃ L,L=w32.heap.size+1:=⟨_,rfl⟩
 rw [← hLd] at hL1 hy ⊢
 have l30:=S32.lt (x:=(b30,_,_)) (List.mem_cons_self ..)
 have l10:=S32.lt (x:=(b10,_,_)) (List.mem_cons_of_mem _ (List.mem_cons_self ..))
 have l2:=S32.lt (x:=(b2,_,_)) (List.mem_cons_of_mem _ (List.mem_cons_of_mem _ (List.mem_cons_self ..)))
 have w0le:=S32.below.size
 let H:Nat→List Ent:=fun q=>[(b30,#[.int .i64 ((fullL (ls.take q)).length:Int)],ty.int),(b10,zC 0 (zmm (ls.take q)),ty.api_Zone),(b2,zC 0 (Z0,Z0),ty.api_Zone)]
 let J:Nat→World→Prop:=fun q wx=>SH (fun _=>False) w wx (H q)∧wx.heap[L]?=some (.loop rr)∧wx.heap[w32.heap.size]?=some (.deferred (some []))
 have hI:W1.cell? ⟨bI,0,none⟩=some (.slice a ls.length c):=cell0 ((Keeps.of_below (F:=fun _=>False) B91).at (P32.get 0 rfl) (by simp))
 have hcall:=full_c1_ok (w:=W1) (L:=L) (b:=bI) (by omega) J (fun q wx hj=>hl.grown hj.1.below) (fun q wx wy hj B=>by
   have K:=Keeps.of_below (F:=fun _=>False) B
   exact⟨hj.1.grown B,K.at hj.2.1 (by simp),K.at hj.2.2 (by simp)⟩) (fun q wx hq hz hj=>by
   have e1:H (q+1)=H q:=by
    have:=fullL_take hq
    rw [if_pos hz,List.append_nil] at this
    show [(b30,#[Value.int .i64 ((fullL (ls.take (q+1))).length:Int)],ty.int),(b10,zC 0 (zmm (ls.take (q+1))),ty.api_Zone),(b2,zC 0 (Z0,Z0),ty.api_Zone)]=_
    rw [this,zmm_skip hq hz]
   exact⟨by rw [e1];exact hj.1,hj.2⟩) (by
  rintro q wx hq hne ⟨SJ,hL,hD⟩
  have hfl:(fullL (ls.take q)).length≤1024:=by
   have:(fullL (ls.take q)).length≤(ls.take q).length:=List.length_filter_le ..
   rw [List.length_take] at this
   omega
  have hnext:H (q+1)=[(b30,#[.int .i64 (((fullL (ls.take q)).length+1:Nat):Int)],ty.int),(b10,zC 0 (if (fullL (ls.take q)).length=0∨cmpV ls[q] (zmm (ls.take q)).1<0 then ls[q] else (zmm (ls.take q)).1,if (fullL (ls.take q)).length=0∨0<cmpV ls[q] (zmm (ls.take q)).2 then ls[q] else (zmm (ls.take q)).2),ty.api_Zone),(b2,zC 0 (Z0,Z0),ty.api_Zone)]:=by
   have e1:=fullL_take hq
   rw [if_neg hne] at e1
   show [(b30,#[Value.int .i64 ((fullL (ls.take (q+1))).length:Int)],ty.int),(b10,zC 0 (zmm (ls.take (q+1))),ty.api_Zone),(b2,zC 0 (Z0,Z0),ty.api_Zone)]=_
   rw [zmm_step hq hne,e1,List.length_append]
   rfl
  obtain⟨n,hnd⟩:∃ n,n=(fullL (ls.take q)).length:=⟨_,rfl⟩
  obtain⟨mm,hmm⟩:∃ mm,mm=zmm (ls.take q):=⟨_,rfl⟩
  have SJ':SH (fun _=>False) w wx [(b30,#[.int .i64 (n:Int)],ty.int),(b10,zC 0 mm,ty.api_Zone),(b2,zC 0 (Z0,Z0),ty.api_Zone)]:=by rw [hnd,hmm];exact SJ
  rw [← hnd,← hmm] at hnext
  rw [← hnd] at hfl
  obtain⟨v,hvd⟩:∃ v,v=ls[q]:=⟨_,rfl⟩
  rw [← hvd] at hnext ⊢
  refine hy _ _ _ _ wx hL ?_
  refine SJ'.lit3 fun b37 w37 hb37 B37 S37=>?_
  have K37:=Keeps.of_below (F:=fun _=>False) B37
  have hL37:=K37.at hL (by simp)
  have hD37:=K37.at hD (by simp)
  refine⟨hL37,?_⟩
  obtain⟨wB,hwB⟩:∃ wB,wB=w37.putObj L (.loop { rr with state:=.busy }):=⟨_,rfl⟩
  rw [← hwB]
  have hLlt:L<w37.heap.size:=(Array.getElem?_eq_some_iff.1 hL37).1
  have hLx:L<wx.heap.size:=(Array.getElem?_eq_some_iff.1 hL).1
  have KB:Keeps (fun k=>k=L) w37 wB:=by rw [hwB];exact keeps_putObj _ _ _
  have hLB:wB.heap[L]?=some (.loop { rr with state:=.busy }):=by rw [hwB];exact World.putObj_heap_same hLlt
  have hDB:=KB.at hD37 (show ¬ w32.heap.size=L by omega)
  have SB:SH (fun _=>False) w wB [(b37,#[.int .i64 v.1,.int .i64 v.2.1,.string v.2.2],ty.api_Value),(b30,#[.int .i64 (n:Int)],ty.int),(b10,zC 0 mm,ty.api_Zone),(b2,zC 0 (Z0,Z0),ty.api_Zone)]:=S37.kept KB (by
   intro y hy
   simp only [List.mem_cons,List.not_mem_nil,or_false] at hy
   rcases hy with rfl | rfl | rfl | rfl <;> simp only <;> omega) (fun k hk h=>by omega)
  let G:World→Val→Val→Int→Prop:=fun wy mn mx m=>SH (fun _=>False) w wy [(b37,#[.int .i64 v.1,.int .i64 v.2.1,.string v.2.2],ty.api_Value),(b30,#[.int .i64 m],ty.int),(b10,zC 0 (mn,mx),ty.api_Zone),(b2,zC 0 (Z0,Z0),ty.api_Zone)]∧wy.heap[L]?=some (.loop { rr with state:=.busy })∧wy.heap[w32.heap.size]?=some (.deferred (some []))
  have keepG:∀ {wy wz:World} {b:Nat},Keeps (·=b) wy wz→b≠L→b≠w32.heap.size→wy.heap[L]?=some (.loop { rr with state:=.busy })∧wy.heap[w32.heap.size]?=some (.deferred (some []))→wz.heap[L]?=some (.loop { rr with state:=.busy })∧wz.heap[w32.heap.size]?=some (.deferred (some [])) :=
   fun K h1 h2 h=>⟨K.at h.1 (fun e=>h1 e.symm),K.at h.2 (fun e=>h2 e.symm)⟩
  have growG:∀ {wy wz:World} {mn mx:Val} {m:Int},G wy mn mx m→Below wy.heap.size wy wz→G wz mn mx m:=fun h B=>by
   have K:=Keeps.of_below (F:=fun _=>False) B
   exact⟨h.1.grown B,K.at h.2.1 (by simp),K.at h.2.2 (by simp)⟩
  have fin:∀ {wy:World} {mn mx:Val},G wy mn mx (n:Int)→mn=(if n=0∨cmpV v mm.1<0 then v else mm.1)→mx=(if n=0∨0<cmpV v mm.2 then v else mm.2) →
    ∃ t50:Int,wy.cell? ⟨b30,0,none⟩=some (.int .i64 t50)∧STO ⟨b30,0,none⟩ (.int .i64 (IntKind.i64.wrap (t50+1))) (fun w50=>ENDR rr L (fun y w'=>y=true∧(SH (fun _=>False) w w' (H (q+1))∧w'.heap[L]?=some (.loop rr)∧w'.heap[w32.heap.size]?=some (.deferred (some [])))) none w50) wy:=by
   rintro wy mn mx ⟨Sy,Ly⟩ rfl rfl
   refine⟨_,Sy.cell 1 rfl rfl,?_⟩
   rw [wrap_succ (by omega)]
   refine Sy.chg 1 rfl (cs':=#[.int .i64 ((n+1:Nat):Int)]) (show 0<1 by decide) rfl fun wz Kz Sz=>?_
   obtain⟨Lz,Dz⟩:=keepG Kz (by omega) (by omega) Ly
   refine⟨Lz,rfl,?_⟩
   rw [rr_eta hst hpe]
   have lz:L<wz.heap.size:=(Array.getElem?_eq_some_iff.1 Lz).1
   have KP:=keeps_putObj wz L (.loop rr)
   refine⟨?_,World.putObj_heap_same lz,KP.at Dz (show ¬ w32.heap.size=L by omega)⟩
   rw [hnext]
   exact (Sz.drop 1).kept KP (by
    intro y hy
    simp only [List.set_cons_succ,List.set_cons_zero,List.drop_succ_cons,List.drop_zero,List.mem_cons,List.not_mem_nil,or_false] at hy
    rcases hy with rfl | rfl | rfl <;> simp only <;> omega) (fun k hk h=>by omega)
  have GB:G wB mm.1 mm.2 (n:Int):=⟨SB,hLB,hDB⟩
  refine⟨fun s w46=>s=[]∧G w46 (if n=0∨cmpV v mm.1<0 then v else mm.1) mm.2 (n:Int),?_,?_⟩
  ·refine⟨_,GB.1.cell 1 rfl rfl,IFB_eq (fun h0=>?_) (fun h0=>?_)⟩
   ·have hn0:n=0:=by omega
    refine⟨_,GB.1.cell 0 rfl rfl,_,GB.1.cell 0 rfl rfl,_,GB.1.cell 0 rfl rfl,GB.1.stoMin 2 rfl fun w41 K41 S41=>⟨rfl,?_⟩⟩
    rw [if_left hn0]
    exact⟨S41,keepG K41 (by omega) (by omega) GB.2⟩
   ·have hn0:¬ n=0:=by omega
    refine⟨_,GB.1.cell 0 rfl rfl,_,GB.1.cell 0 rfl rfl,_,GB.1.cell 0 rfl rfl,_,GB.1.cell 2 rfl rfl,_,GB.1.cell 2 rfl rfl,_,GB.1.cell 2 rfl rfl,(value_Compare_ok wB v mm.1).mono ?_⟩
    rintro _ w42 ⟨_,rfl,rfl,B42⟩
    have G42:=growG GB B42
    refine⟨_,rfl,IFB_dec (fun hc=>⟨_,G42.1.cell 0 rfl rfl,_,G42.1.cell 0 rfl rfl,_,G42.1.cell 0 rfl rfl,G42.1.stoMin 2 rfl fun w41 K41 S41=>⟨rfl,?_⟩⟩) (fun hc=>⟨rfl,?_⟩)⟩
    ·rw [if_pos (.inr hc)]
     exact⟨S41,keepG K41 (by omega) (by omega) G42.2⟩
    ·rw [if_neg (by omega)]
     exact G42
  rintro w46 ⟨_,G46⟩
  refine⟨_,G46.1.cell 1 rfl rfl,IFB_eq (fun h0=>?_) (fun h0=>?_)⟩
  ·have hn0:n=0:=by omega
   refine⟨_,G46.1.cell 0 rfl rfl,_,G46.1.cell 0 rfl rfl,_,G46.1.cell 0 rfl rfl,G46.1.stoMax 2 rfl fun w49 K49 S49=>fin (mx:=v) ⟨S49,keepG K49 (by omega) (by omega) G46.2⟩ rfl (by rw [if_left hn0])⟩
  ·have hn0:¬ n=0:=by omega
   refine⟨_,G46.1.cell 0 rfl rfl,_,G46.1.cell 0 rfl rfl,_,G46.1.cell 0 rfl rfl,_,G46.1.cell 2 rfl rfl,_,G46.1.cell 2 rfl rfl,_,G46.1.cell 2 rfl rfl,(value_Compare_ok w46 v mm.2).mono ?_⟩
   rintro _ w51 ⟨_,rfl,rfl,B51⟩
   have G51:=growG G46 B51
   refine⟨_,rfl,IFB_dec (fun hc=>⟨_,G51.1.cell 0 rfl rfl,_,G51.1.cell 0 rfl rfl,_,G51.1.cell 0 rfl rfl,G51.1.stoMax 2 rfl fun w49 K49 S49=>fin (mx:=v) ⟨S49,keepG K49 (by omega) (by omega) G51.2⟩ rfl (by rw [if_pos (.inr (by omega))])⟩) (fun hc=>fin G51 rfl (by rw [if_neg (by omega)]))⟩)
  ⟨S32.grown B91,hL1,hD1⟩ hI
 refine hcall.mono ?_
 rintro _ w57 ⟨_,rfl,SJ,hL57,hD57⟩
 have SJ':SH (fun _=>False) w w57 [(b30,#[.int .i64 ((fullL ls).length:Int)],ty.int),(b10,zC 0 (zmm ls),ty.api_Zone),(b2,zC 0 (Z0,Z0),ty.api_Zone)]:=by
  have:=SJ
  simp only [H,List.take_length] at this
  exact this
 refine⟨⟨_,rfl⟩,none,by rw [rr_eta hst hpe];exact hL57,rfl,?_⟩
 obtain⟨w58,hw58⟩:∃ w58,w58=w57.putObj L (.loop { rr with state:=.exhausted,pending:=none }):=⟨_,rfl⟩
 rw [← hw58]
 have K58:Keeps (fun k=>k=L) w57 w58:=by rw [hw58];exact keeps_putObj _ _ _
 have S58:=SJ'.kept K58 (by
  intro y hy
  simp only [List.mem_cons,List.not_mem_nil,or_false] at hy
  rcases hy with rfl | rfl | rfl <;> simp only <;> omega) (fun k hk h=>by omega)
 have hD58:=K58.at hD57 (show ¬ w32.heap.size=L by omega)
 have hnf:=nulls_full ls
 have en:IntKind.i64.wrap ((ls.length:Int)-((fullL ls).length:Int))=(nullsN ls:Int):=by rw [wrap_i64 (by omega) (by omega)];omega
 refine⟨_,S58.cell 0 rfl rfl,?_⟩
 rw [en]
 refine S58.chg 1 rfl (cs':=zC (nullsN ls:Int) (zmm ls)) (show 0<7 by decide) rfl fun w59 K59 S59=>?_
 refine⟨_,S59.cell 1 rfl rfl,_,S59.cell 1 rfl rfl,_,S59.cell 1 rfl rfl,_,S59.cell 1 rfl rfl,_,S59.cell 1 rfl rfl,_,S59.cell 1 rfl rfl,_,S59.cell 1 rfl rfl,S59.sto7 2 rfl fun w66 K66 S66=>?_⟩
 have hD66:=K66.at (K59.at hD58 (show ¬ w32.heap.size=b10 by omega)) (show ¬ w32.heap.size=b2 by omega)
 have KP:=keeps_putObj w66 w32.heap.size (.deferred none)
 have SP:=S66.kept KP (by
  intro y hy
  simp only [List.set_cons_succ,List.set_cons_zero,List.mem_cons,List.not_mem_nil,or_false] at hy
  rcases hy with rfl | rfl | rfl <;> simp only <;> omega) (fun k hk h=>by omega)
 exact⟨hD66,_,SP.cell 2 rfl rfl,_,SP.cell 2 rfl rfl,_,SP.cell 2 rfl rfl,_,SP.cell 2 rfl rfl,_,SP.cell 2 rfl rfl,_,SP.cell 2 rfl rfl,_,SP.cell 2 rfl rfl,.inl ⟨hok,rfl⟩,SP.below⟩
end
section
variable {w:World}{a:Option Addr}{c:Nat}{ls:List Val}
end
structure Within(ls:List Val)(i:Nat):Prop where
 all:∀ v∈ls.take i,v.1≠0→0≤cmpV v (zmm (ls.take i)).1∧cmpV v (zmm (ls.take i)).2≤0
 some:0<(fullL (ls.take i)).length→((zmm (ls.take i)).1∈ls.take i∧(zmm (ls.take i)).1.1≠0)∧((zmm (ls.take i)).2∈ls.take i∧(zmm (ls.take i)).2.1≠0)
 none:(fullL (ls.take i)).length=0→zmm (ls.take i)=(Z0,Z0)
theorem cmp_self(v:Val):cmpV v v=0:=(ord_val.zero v v).2 rfl
theorem full_none{ls:List Val}(h:(fullL ls).length=0):∀ v∈ls,v.1=0:=by
 intro v hv
 have hf:fullL ls=[]:=List.eq_nil_of_length_eq_zero h
 unfold fullL at hf
 have:=List.filter_eq_nil_iff.1 hf v hv
 simpa using this
theorem within{ls:List Val}:∀ i,i≤ls.length→Within ls i
 | 0,_=>⟨by simp,by simp [fullL],fun _=>rfl⟩
 | i+1,hi=>by
  have hil:i<ls.length:=by omega
  obtain⟨h1,h2,h3⟩:=within (ls:=ls) i (by omega)
  have hsub:∀ v,v∈ls.take i→v∈ls.take (i+1):=fun v hv=>by rw [List.take_succ_eq_append_getElem hil];exact List.mem_append_left _ hv
  have hin:ls[i]∈ls.take (i+1):=by rw [List.take_succ_eq_append_getElem hil];exact List.mem_append_right _ (List.mem_singleton.2 rfl)
  by_cases h0:ls[i].1=0
  ·have ef:fullL (ls.take (i+1))=fullL (ls.take i):=by rw [fullL_take hil,if_pos h0,List.append_nil]
   have ez:=zmm_skip hil h0
   refine⟨?_,?_,?_⟩
   ·rw [ez]
    intro v hv hne
    rw [List.take_succ_eq_append_getElem hil] at hv
    rcases List.mem_append.1 hv with h | h
    ·exact h1 v h hne
    ·rw [List.mem_singleton.1 h] at hne;exact absurd h0 hne
   ·rw [ef,ez]
    intro hp
    obtain⟨⟨a1,a2⟩,b1,b2⟩:=h2 hp
    exact⟨⟨hsub _ a1,a2⟩,hsub _ b1,b2⟩
   ·rw [ef,ez];exact h3
  ·have ez:=zmm_step hil h0
   have ef:(fullL (ls.take (i+1))).length=(fullL (ls.take i)).length+1:=by rw [fullL_take hil,if_neg h0,List.length_append];rfl
   obtain⟨mm,hmm⟩:∃ mm,mm=zmm (ls.take i):=⟨_,rfl⟩
   obtain⟨n,hn⟩:∃ n,n=(fullL (ls.take i)).length:=⟨_,rfl⟩
   rw [← hmm,← hn] at ez h2
   rw [← hmm] at h1
   rw [← hn] at ef
   have min_le:0≤cmpV ls[i] (if n=0∨cmpV ls[i] mm.1<0 then ls[i] else mm.1):=by
    split
    ·rw [cmp_self];exact Int.le_refl _
    ·omega
   have max_le:cmpV ls[i] (if n=0∨0<cmpV ls[i] mm.2 then ls[i] else mm.2)≤0:=by
    split
    ·rw [cmp_self];exact Int.le_refl _
    ·omega
   have old:∀ v∈ls.take i,v.1≠0→¬ n=0:=fun v hv hne h=>hne (full_none (by rw [← hn];exact h) v hv)
   refine⟨?_,?_,fun h=>by omega⟩
   ·rw [ez]
    intro v hv hne
    rw [List.take_succ_eq_append_getElem hil] at hv
    rcases List.mem_append.1 hv with h | h
    ·obtain⟨k1,k2⟩:=h1 v h hne
     have hn0:=old v h hne
     refine⟨?_,?_⟩
     ·simp only
      split
      ·rename_i hc
       have hc':cmpV ls[i] mm.1<0:=hc.resolve_left hn0
       have k1':cmpV mm.1 v≤0:=by have:=ord_val.neg v mm.1;omega
       have:=ord_val.strict _ _ _ hc' k1'
       have:=ord_val.neg ls[i] v
       omega
      ·exact k1
     ·simp only
      split
      ·rename_i hc
       have hc':0<cmpV ls[i] mm.2:=hc.resolve_left hn0
       have:cmpV mm.2 ls[i]≤0:=by have:=ord_val.neg ls[i] mm.2;omega
       exact ord_val.trans _ _ _ k2 this
      ·exact k2
    ·rw [List.mem_singleton.1 h];exact⟨min_le,max_le⟩
   ·rw [ez]
    intro _
    refine⟨?_,?_⟩
    ·simp only
     split
     ·exact⟨hin,h0⟩
     ·rename_i hc
      obtain⟨⟨a1,a2⟩,_⟩:=h2 (by omega)
      exact⟨hsub _ a1,a2⟩
    ·simp only
     split
     ·exact⟨hin,h0⟩
     ·rename_i hc
      obtain⟨_,b1,b2⟩:=h2 (by omega)
      exact⟨hsub _ b1,b2⟩
structure ReadP(K:Int)(ls:List Val)(l:List UInt8):Prop where
 good:Good1 K ls
 ex:∃ o,(nullsN ls<ls.length→OthIs K ls o)∧(¬ nullsN ls<ls.length→o=[])∧l=headL K ls++maskL ls++o
theorem bits_none{ls:List Val}(h:nullsN ls=0):bitsN ls=List.replicate ls.length 0:=by
 unfold bitsN
 rw [List.eq_replicate_iff]
 refine⟨by simp,fun b hb=>?_⟩
 obtain⟨v,hv,rfl⟩:=List.mem_map.1 hb
 unfold nullsN at h
 have:=(List.countP_eq_zero.1 h) v hv
 rw [if_neg (by simpa using this)]
theorem bits_all{ls:List Val}(h:nullsN ls=ls.length):bitsN ls=List.replicate ls.length 1:=by
 unfold bitsN
 rw [List.eq_replicate_iff]
 refine⟨by simp,fun b hb=>?_⟩
 obtain⟨v,hv,rfl⟩:=List.mem_map.1 hb
 unfold nullsN at h
 have:=(List.countP_eq_length.1 h) v hv
 rw [if_pos (by simpa using this)]
theorem Good1.null{K:Int}{ls:List Val}(h:Good1 K ls):∀ v∈ls,v.1=0→v=(0,0,E0):=by
 intro v hv h0
 have hok:=h.all v hv
 simp only [okV,Bool.and_eq_true] at hok
 have hr:=hok.1
 unfold rightB at hr
 rw [if_pos h0] at hr
 simp at hr
 obtain⟨v1,v2,v3⟩:=v
 simp only at h0 hr
 rw [h0,hr.1,hr.2]
theorem nulls_full'(ls:List Val):nullsN ls+(fullL ls).length=ls.length:=by
 induction ls with
 | nil=>rfl
 | cons v ls ih =>
  unfold nullsN fullL at ih ⊢
  by_cases h:v.1=0
  ·simp [h];omega
  ·simp [h];omega
structure ReadQ(K:Int)(ls:List Val)(l:List UInt8)(at1 at2:Nat)(o:List UInt8):Prop where
 kind:((l.getD 0 0).toNat:Int)=K
 n1:takeN l 1=some (ls.length,at1)
 n2:takeN l (at1:Int)=some (nullsN ls,at2)
 rest:l.drop at2=maskL ls++o
 oth:nullsN ls<ls.length→OthIs K ls o
 none:¬ nullsN ls<ls.length→o=[]
theorem ReadP.q{K:Int}{ls:List Val}{l:List UInt8}(h:ReadP K ls l):∃ at1 at2 o,ReadQ K ls l at1 at2 o:=by
 obtain⟨o,h1,h2,rfl⟩:=h.ex
 have hlen:=h.good.len
 have hk:=h.good.kind
 have hnl:=nullsN_le ls
 have e1:(headL K ls++maskL ls++o).drop 1=digitsL ls.length++(digitsL (nullsN ls)++(maskL ls++o)):=by simp [headL]
 have e2:=drop_more e1
 have e3:=drop_more e2
 refine⟨_,_,o,?_,takeN_drop (at_:=1) (by omega) e1,takeN_drop (by omega) e2,e3,h1,h2⟩
 have:((headL K ls++maskL ls++o).getD 0 0)=UInt8.ofNat K.toNat:=by simp [headL]
 rw [this,ofNat_toNat8 (by omega)]
 omega
def ReadV(l:List UInt8)(w w':World)(v:Value):Prop :=
 ∃(K:Int) (os:List Val) (a:Option Addr) (c:Nat) (ok:Bool),v=.tuple #[.int .i64 K,.slice a os.length c,.bool ok]∧RdN w w' a (valsL os)∧Below w.heap.size w w'∧os.length≤4096∧(∀ v∈os,ValOk v) ∧
  ∀ K' ls,ReadP K' ls l→ok=true∧K=K'∧os=ls
theorem ReadV.bad{l:List UInt8}{w w':World}(hb:Below w.heap.size w w')(h:∀ K ls,¬ ReadP K ls l):ReadV l w w' (.tuple #[.int .i64 0,.slice none 0 0,.bool false]) :=
 ⟨0,[],none,0,false,rfl,RdN.nil _ _,hb,by simp,by simp,fun K ls hls=>absurd hls (h K ls)⟩
section
variable {w:World}{a:Option Addr}{c:Nat}{l:List UInt8}
theorem chunk_read_ok(hl:Rd w a (l.map byteV))(hc:l.length≤c)(hs:l.length≤9223372036854775807) :
  Calls Tryz.prog f.chunk_read #[.slice a l.length c] w (Ret fun v w'=>ReadV l w w' v):=by
 apply R.chunk_read_calls
 unfold R.chunk_read
 refine IFB_dec (fun h=>ReadV.bad (.refl _ _) fun K ls hp=>?_) (fun hpos=>?_)
 ·obtain⟨_,_,_,q⟩:=hp.q
  have:=takeN_bounds q.n1
  omega
 have h0:0<l.length:=by omega
 refine (wire_TakeNumber_ok hl hc hs 1).mono ?_
 rintro _ w ⟨_,rfl,rfl,rfl⟩
 obtain⟨n,at1,e1,hv1,hb1,hP1⟩:∃(n at1:Nat) (e1:Int),numV (takeN l 1)=.tuple #[.int .u64 (n:Int),.int .i64 (at1:Int),.int .i64 e1]∧(n<18446744073709551616∧at1≤l.length)∧(∀ K ls,ReadP K ls l→e1=0∧n=ls.length∧takeN l 1=some (n,at1)):=by
  cases hx:takeN l 1 with
  | none =>
   refine⟨0,0,20,rfl,by omega,fun K ls hp=>?_⟩
   obtain⟨_,_,_,q⟩:=hp.q
   have:=q.n1
   rw [hx] at this;cases this
  | some x =>
   have hb:=takeN_bounds (n:=x.1) (k:=x.2) hx
   refine⟨x.1,x.2,0,rfl,by omega,fun K ls hp=>?_⟩
   obtain⟨_,_,_,q⟩:=hp.q
   have:=q.n1
   rw [hx] at this
   have:=Option.some.inj this
   exact⟨rfl,by rw [this],rfl⟩
 rw [hv1]
 refine⟨_,_,_,rfl,(wire_TakeNumber_ok hl hc hs (at1:Int)).mono ?_⟩
 rintro _ w ⟨_,rfl,rfl,rfl⟩
 obtain⟨no,at2,e2,hv2,hb2,hP2⟩:∃(no at2:Nat) (e2:Int),numV (takeN l (at1:Int))=.tuple #[.int .u64 (no:Int),.int .i64 (at2:Int),.int .i64 e2]∧(no<18446744073709551616∧at2≤l.length)∧(∀ K ls,ReadP K ls l→e2=0∧no=nullsN ls∧∃ o,ReadQ K ls l at1 at2 o):=by
  have step:∀ K ls,ReadP K ls l→∃ at2 o,ReadQ K ls l at1 at2 o:=by
   intro K ls hp
   obtain⟨a1,a2,o,q⟩:=hp.q
   have h1:=(hP1 K ls hp).2.2
   have h2:=q.n1
   rw [h1] at h2
   obtain rfl:at1=a1:=by have:=Option.some.inj h2;simpa using congrArg Prod.snd this
   exact⟨a2,o,q⟩
  cases hx:takeN l (at1:Int) with
  | none =>
   refine⟨0,0,20,rfl,by omega,fun K ls hp=>?_⟩
   obtain⟨_,_,q⟩:=step K ls hp
   have:=q.n2
   rw [hx] at this;cases this
  | some x =>
   have hb:=takeN_bounds (n:=x.1) (k:=x.2) hx
   refine⟨x.1,x.2,0,rfl,by omega,fun K ls hp=>?_⟩
   obtain⟨a2,o,q⟩:=step K ls hp
   have:=q.n2
   rw [hx] at this
   have hxx:=Option.some.inj this
   obtain rfl:x.2=a2:=by rw [hxx]
   exact⟨rfl,by rw [hxx],o,q⟩
 rw [hv2]
 refine⟨_,_,_,rfl,IFB_ne (fun h=>ReadV.bad (.refl _ _) fun K ls hp=>h (hP1 K ls hp).1) (fun he1=>IFB_ne (fun h=>ReadV.bad (.refl _ _) fun K ls hp=>h (hP2 K ls hp).1) (fun he2=>IFB_dec (fun h=>ReadV.bad (.refl _ _) fun K ls hp=>?_) (fun hn1=>IFB_dec (fun h=>ReadV.bad (.refl _ _) fun K ls hp=>?_) (fun hn2=>?_))))⟩
 ·have:=(hP1 K ls hp).2.1
  have:=hp.good.len
  omega
 ·have:=(hP1 K ls hp).2.1
  have:=(hP2 K ls hp).2.1
  have:=nullsN_le ls
  omega
 have hn:n≤1024:=by omega
 have hno:no≤n:=by omega
 refine make_new tU (l:=(n:Int)) (c:=(n:Int)) (by omega) (by omega) (by omega) (by omega) fun bo w3 hbo B3 hO3=>?_
 rw [Int.toNat_natCast] at hO3 ⊢
 have hO3':w3.heap[bo]?=some (.cells ⟨List.replicate n (.int .u64 0)⟩ ty.uint64 (0,0)):=by
  have e:madeCells (Value.int .u64 0).cells (n*1)=⟨List.replicate n (.int .u64 0)⟩:=by
   apply Array.ext'
   rw [madeCells_one _ rfl,Nat.mul_one]
  rw [← e];exact hO3
 refine⟨_,_,_,rfl,fun s w8=>∃(at3:Nat) (e:Int) (bits:List Nat) (ab:Option Addr) (cb:Nat),s=[.int .i64 (at3:Int),.int .i64 e,.slice ab bits.length cb]∧Rd w8 ab (bits.map u64V)∧Below w.heap.size w w8∧bits.length≤4096∧at3≤l.length ∧
   (∀ K ls,ReadP K ls l→e=0∧bits=bitsN ls∧∃ o,ReadQ K ls l at1 at2 o∧l.drop at3=o),?_,?_⟩
 ·have rep:∀(k:Nat) (x:Nat),(List.replicate k x).map u64V=List.replicate k (.int .u64 (x:Int)):=fun k x=>by rw [List.map_replicate];rfl
  refine IFB_eq (fun hz=>?_) (fun hz=>IFB_eq (fun hall=>?_) (fun hmid=>?_))
  ·refine⟨at2,e1,List.replicate n 0,some ⟨bo,0,none⟩,n,by rw [List.length_replicate],?_,B3,by simp;omega,hb2.2,fun K ls hp=>?_⟩
   ·have:=Rd.of_block0 hO3'
    rw [rep];exact this
   ·obtain⟨_,hno',o,q⟩:=hP2 K ls hp
    have hn':=(hP1 K ls hp).2.1
    have hz':nullsN ls=0:=by omega
    refine⟨he1,by rw [bits_none hz',hn'],o,q,?_⟩
    rw [q.rest]
    unfold maskL
    rw [if_neg (by omega)]
    rfl
  ·refine⟨fun s w4=>∃ i:Nat,i≤n∧s=[.int .i64 (i:Int)]∧Keeps (fun k=>k=bo) w3 w4∧w4.heap[bo]?=some (.cells ⟨List.replicate i (.int .u64 1)++List.replicate (n-i) (.int .u64 0)⟩ ty.uint64 (0,0)),fun s _=>match s with
     | [.int _ i]=>n-i.toNat
     | _=>0,⟨0,by omega,rfl,.refl _ _,by simpa using hO3'⟩,?_⟩
   rintro _ w4 ⟨i,hi,hst,K4,hO4⟩
   cases hst
   refine IFB_dec (fun hlt=>⟨⟨by omega,hlt⟩,?_⟩) (fun hge=>?_)
   ·rw [Int.toNat_natCast]
    unfold PTR
    simp only
    refine sto_at hO4 (p:=(⟨bo,0,none⟩:Addr).add (i*1)) (i:=i) (by rw [addr_add_blk];simp) (by show i<(_++_:List Value).length;simp;omega) fun w5 K5 hO5=>?_
    rw [wrap_succ (by omega)]
    refine⟨⟨i+1,by omega,rfl,K4.trans K5 (fun _ _ h=>h),?_⟩,?_⟩
    ·have e:(⟨List.replicate i (.int .u64 1)++List.replicate (n-i) (.int .u64 0)⟩:Array Value).setIfInBounds i (.int .u64 1)=⟨List.replicate (i+1) (.int .u64 1)++List.replicate (n-(i+1)) (.int .u64 0)⟩:=by
      apply Array.ext'
      simp only [Array.toList_setIfInBounds]
      rw [List.set_append_right _ _ (by simp),List.length_replicate,Nat.sub_self,show n-i=(n-(i+1))+1 by omega,List.replicate_succ (n:=n-(i+1)),List.set_cons_zero,List.replicate_succ' (n:=i),List.append_assoc]
      rfl
     rw [e] at hO5;exact hO5
    ·simp only [Int.toNat_natCast]
     omega
   ·have hin:i=n:=by omega
    subst hin
    rw [Nat.sub_self,List.replicate_zero,List.append_nil] at hO4
    refine⟨at2,e1,List.replicate i 1,some ⟨bo,0,none⟩,i,by rw [List.length_replicate],?_,B3.trans (K4.below B3.size fun k hk h=>by omega),by simp;omega,hb2.2,fun K ls hp=>?_⟩
    ·have:=Rd.of_block0 hO4
     rw [rep];exact this
    ·obtain⟨_,hno',o,q⟩:=hP2 K ls hp
     have hn':=(hP1 K ls hp).2.1
     have hz':nullsN ls=ls.length:=by omega
     refine⟨he1,by rw [bits_all hz',hn'],o,q,?_⟩
     rw [q.rest]
     unfold maskL
     rw [if_neg (by omega)]
     rfl
  ·rw [wrap_i64 (n:=(n:Int)) (by omega) (by omega)]
   refine (pack_Size_ok w3 (n:Int) 1).mono ?_
   rintro _ w6 ⟨_,rfl,rfl,rfl⟩
   rw [if_pos ⟨by omega,by omega,by omega,by omega⟩]
   obtain⟨sz,hsz⟩:∃ sz,sz=sizeN n 1:=⟨_,rfl⟩
   have hszv:sz=(n+7) / 8:=by rw [hsz];unfold sizeN;rw [Nat.mul_one]
   have esz:((n:Int)*1+7) / 8=(sz:Int):=by omega
   rw [esz,wrap_i64 (n:=(l.length:Int)-(at2:Int)) (by omega) (by omega)]
   have hmaskq:∀ K ls,ReadP K ls l→∃ o,ReadQ K ls l at1 at2 o∧l.drop at2=packL (bitsN ls) 1++o∧(packL (bitsN ls) 1).length=sz:=by
    intro K ls hp
    obtain⟨_,hno',o,q⟩:=hP2 K ls hp
    have hn':=(hP1 K ls hp).2.1
    refine⟨o,q,?_,?_⟩
    ·rw [q.rest]
     unfold maskL
     rw [if_pos (by omega)]
    ·rw [packL_len,hsz,hn']
     simp [bitsN]
   refine⟨_,_,rfl,IFB_dec (fun h=>ReadV.bad B3 fun K ls hp=>?_) (fun hge=>?_)⟩
   ·obtain⟨o,_,e,e2⟩:=hmaskq K ls hp
    have:=congrArg List.length e
    rw [List.length_drop,List.length_append] at this
    omega
   rw [wrap_i64 (n:=(at2:Int)+(sz:Int)) (by omega) (by omega)]
   refine⟨⟨by omega,by omega,by omega⟩,?_⟩
   rw [Int.toNat_natCast,show ((at2:Int)+(sz:Int)).toNat=at2+sz by omega,Nat.add_sub_cancel_left]
   have hsl:=(hl.grown B3).sla at2 (at2+sz) c 1 (by omega)
   rw [Nat.mul_one,Nat.mul_one,Nat.add_sub_cancel_left,← List.map_drop,← List.map_take] at hsl
   have hsll:((l.drop at2).take sz).length=sz:=by rw [List.length_take,List.length_drop];omega
   have hU:=pack_Unpack_ok (c:=c-at2) hsl (n:Int) 1 (by omega)
   rw [hsll] at hU
   refine hU.mono ?_
   rintro _ w7 ⟨_,rfl,xs,xa,xc,e,rfl,hRx,B7,hxn,hcase⟩
   have C7:=below_trans B3 B7
   have hxl:xs.length≤4096:=by
    rcases hcase with ⟨_,_,rfl,_⟩ | ⟨_,rfl,_⟩
    ·rw [unpackL_len];omega
    ·simp
   refine⟨_,_,_,_,rfl,at2+sz,e,xs,xa,xc,rfl,hRx,C7,hxl,by omega,fun K ls hp=>?_⟩
   obtain⟨o,q,e3,e4⟩:=hmaskq K ls hp
   have hn':=(hP1 K ls hp).2.1
   have hbl:(bitsN ls).length=n:=by rw [hn'];simp [bitsN]
   have htk:(l.drop at2).take sz=packL (bitsN ls) 1:=by rw [e3,← e4,List.take_left]
   have hup:=unpack_pack (bits_lt ls)
   rw [hbl] at hup
   rw [htk,Int.toNat_natCast,show (1:Int).toNat=1 from rfl] at hcase
   have hok:unArg (n:Int) 1∧unOk (packL (bitsN ls) 1) n 1:=⟨⟨by omega,by omega,by omega,by omega⟩,⟨by rw [packL_len,hbl],by rw [hup]⟩⟩
   rcases hcase with ⟨_,_,hxs,he⟩ | ⟨hno2,_⟩
   ·exact⟨he,by rw [hxs,hup],o,q,by rw [← e4,← List.drop_drop,e3,List.drop_left]⟩
   ·exact absurd hok hno2
 rintro _ e ab _ cb w8 ⟨at3,_,bits,_,_,hst,hRb,B8,hbl,hat3,hP3⟩
 cases hst
 refine (SH.start (fun _=>False) w8).drawB fun w9 B9 _=>⟨⟨by omega,by omega⟩,?_⟩
 have C9:=below_trans B8 B9
 have hdr:=drop_rd (q:=at3) (hl.grown C9) hc
 obtain⟨p,rfl,hcell⟩:=head_at (hl.grown C9) h0
 have hb0:=(l.getD 0 0).toNat_lt
 refine⟨⟨by omega,by omega,by omega⟩,_,hcell,?_⟩
 have en:IntKind.i64.wrap (IntKind.u64.wrap ((n:Int)-(no:Int)))=((n-no:Nat):Int):=by rw [wrap_u64_id (by omega) (by omega),wrap_i64 (by omega) (by omega)];omega
 rw [en,wrap_i64 (n:=((l.getD 0 0).toNat:Int)) (by omega) (by omega),Int.toNat_natCast,← List.length_drop (i:=at3) (l:=l)]
 refine (chunk_decoded_ok ((l.getD 0 0).toNat:Int) hdr (by rw [List.length_drop];omega) (by rw [List.length_drop];omega) (n:=n-no) (by omega)).mono ?_
 rintro _ w10 ⟨_,rfl,vs,a10,c10,ok,rfl,R10,B10,hvl,hvok,hD⟩
 have C10:=below_trans C9 B10
 have hD':∀ K ls,ReadP K ls l→ok=true∧vs=fullL ls:=by
  intro K ls hp
  obtain⟨_,_,o,q,ho⟩:=hP3 K ls hp
  have hn':=(hP1 K ls hp).2.1
  have hno':=(hP2 K ls hp).2.1
  have hnf:=nulls_full' ls
  refine hD ls (by rw [q.kind];exact hp.good) (by omega) (fun h=>?_) (fun h=>?_)
  ·rw [q.kind,ho];exact q.oth (by omega)
  ·rw [ho];exact q.none (by omega)
 refine⟨_,_,_,_,rfl,IFB_ne (fun h=>ReadV.bad C10 fun K ls hp=>h (hP3 K ls hp).1) (fun he=>IFB_not (IFB_of (fun hok=>?_) (fun hok=>ReadV.bad C10 fun K ls hp=>?_)))⟩
 case refine_2 =>
  have:=(hD' K ls hp).1
  rw [this] at hok;cases hok
 refine (chunk_spread_ok ((hRb.grown B9).grown B10) R10 hbl hvl hvok).mono ?_
 rintro _ w11 ⟨_,rfl,os,a11,c11,ok2,rfl,R11,B11,hol,hook,hS⟩
 have C11:=below_trans C10 B11
 obtain⟨p',hp',hcell'⟩:=head_at (hl.grown C11) h0
 cases hp'
 refine⟨_,_,_,_,rfl,⟨by omega,by omega⟩,_,hcell',?_⟩
 rw [wrap_i64 (n:=((l.getD 0 0).toNat:Int)) (by omega) (by omega)]
 refine⟨_,os,a11,c11,ok2,rfl,R11.before C10,C11,hol,hook,fun K ls hp=>?_⟩
 obtain⟨_,hbits,o,q,_⟩:=hP3 K ls hp
 obtain⟨s1,s2⟩:=hS ls hbits (hD' K ls hp).2 hp.good.null
 exact⟨s1,q.kind,s2⟩
end
theorem ChIs.read{K:Int}{ls:List Val}{b:List UInt8}(hg:Good1 K ls)(h:ChIs K ls b):ReadP K ls (b.take (b.length-4))∧5≤b.length∧b=b.take (b.length-4)++sum4 (crc (b.take (b.length-4))):=by
 obtain⟨o,h1,h2,rfl⟩:=h.ex
 have hs:∀ x,(sum4 x).length=4:=fun x=>rfl
 have hhead:1≤(headL K ls).length:=by simp [headL]
 have e:(headL K ls++maskL ls++o++sum4 (crc (headL K ls++maskL ls++o))).take ((headL K ls++maskL ls++o++sum4 (crc (headL K ls++maskL ls++o))).length-4)=headL K ls++maskL ls++o:=by
  rw [List.length_append,hs,Nat.add_sub_cancel,List.take_left]
 rw [e]
 refine⟨⟨hg,o,h1,h2,rfl⟩,?_,rfl⟩
 simp only [List.length_append,hs]
 omega
def ChDV(l:List UInt8)(w w':World)(v:Value):Prop :=
 ∃(K:Int) (ls:List Val) (a:Option Addr) (c:Nat) (e:Int),v=.tuple #[.int .i64 K,.slice a ls.length c,.int .i64 e]∧RdN w w' a (valsL ls)∧Below w.heap.size w w'∧ls.length≤4096 ∧
  ((Good1 K ls∧ChIs K ls l∧e=0∧∀ K' ls',Good1 K' ls'→ChIs K' ls' l→K'=K∧ls'=ls)∨((∀ K' ls',Good1 K' ls'→¬ ChIs K' ls' l)∧K=0∧ls=[]∧e=80))
theorem ChDV.bad{l:List UInt8}{w w':World}(hb:Below w.heap.size w w')(h:∀ K' ls',Good1 K' ls'→¬ ChIs K' ls' l):ChDV l w w' (.tuple #[.int .i64 0,.slice none 0 0,.int .i64 80]) :=
 ⟨0,[],none,0,80,rfl,RdN.nil _ _,hb,by simp,.inr ⟨h,rfl,rfl,rfl⟩⟩
section
variable {w:World}{a:Option Addr}{c:Nat}{l:List UInt8}
theorem chunk_Decode_ok(hl:Rd w a (l.map byteV))(hc:l.length≤c)(hs:l.length≤9223372036854775807) :
  Calls Tryz.prog f.chunk_Decode #[.slice a l.length c] w (Ret fun v w'=>ChDV l w w' v):=by
 apply R.chunk_Decode_calls
 unfold R.chunk_Decode
 refine IFB_dec (fun h=>ChDV.bad (.refl _ _) fun K ls hg hC=>by have:=(hC.read hg).2.1;omega) (fun hge=>?_)
 rw [wrap_i64 (n:=(l.length:Int)-4) (by omega) (by omega),show ((l.length:Int)-4).toNat=l.length-4 by omega]
 refine⟨⟨by omega,by omega,by omega⟩,?_⟩
 have hsl:=hl.sla 0 (l.length-4) c 1 (by omega)
 rw [Nat.mul_one,Nat.sub_zero,Nat.mul_one,List.drop_zero,← List.map_take] at hsl
 have hlt:(l.take (l.length-4)).length=l.length-4:=by rw [List.length_take];omega
 have hR:=chunk_read_ok (c:=c) hsl (by omega) (by omega)
 rw [hlt] at hR
 rw [Nat.sub_zero,Nat.sub_zero]
 refine hR.mono ?_
 rintro _ w1 ⟨_,rfl,K,os,a1,c1,ok,rfl,R1,B1,hol,hook,hP⟩
 refine⟨_,_,_,_,_,rfl,(chunk_Encode_ok K R1.rd (by omega) hook).mono ?_⟩
 rintro _ w2 ⟨_,rfl,h2⟩
 obtain⟨b2,a2,c2,e2,rfl,R2,B2,q2⟩:=h2.open
 have C2:=below_trans B1 B2
 have key:∀ K' ls',Good1 K' ls'→ChIs K' ls' l→ok=true∧K=K'∧os=ls':=fun K' ls' hg hC=>hP K' ls' (hC.read hg).1
 refine⟨_,_,_,_,rfl,IFB_not (IFB_of (fun hok=>?_) (fun hok=>ChDV.bad C2 fun K' ls' hg hC=>?_))⟩
 case refine_2 =>
  have:=(key K' ls' hg hC).1
  rw [this] at hok;cases hok
 rcases q2 with ⟨hr,hI,rfl⟩ | ⟨hr,rfl,rfl⟩
 ·refine IFB_ne (fun h=>absurd rfl h) (fun _=>(bytes_Equal_ok R2 (hl.grown C2)).mono ?_)
  rintro _ w3 ⟨_,rfl,rfl,rfl⟩
  refine⟨_,rfl,IFB_not (IFB_dec (fun he=>?_) (fun he=>ChDV.bad C2 fun K' ls' hg hC=>?_))⟩
  ·subst he
   refine⟨K,os,a1,c1,0,rfl,R1.grown B2,C2,hol,.inl ⟨⟨hr,hook⟩,hI,rfl,fun K' ls' hg hC=>?_⟩⟩
   obtain⟨_,e1,e2⟩:=key K' ls' hg hC
   exact⟨e1.symm,e2.symm⟩
  ·obtain⟨_,rfl,rfl⟩:=key K' ls' hg hC
   exact he (hI.one hC)
 ·refine IFB_ne (fun _=>ChDV.bad C2 fun K' ls' hg hC=>?_) (fun h=>absurd h (by decide))
  obtain⟨_,rfl,rfl⟩:=key K' ls' hg hC
  rw [hg.right] at hr;cases hr
end
end Go.Proofs.YtipgnehlihmdhaaGreatDoor

namespace Go.Proofs.YtipgnehlihmdhaaGreatDoor
set_option maxRecDepth 100000
open Go.Dn Go.Proofs
open Go.RowKit (Below)
set_option linter.unusedVariables false
section
variable {w:World}{a:Option Addr}{c:Nat}{l:List UInt8}
end
section
variable {w:World}{a:Option Addr}{c:Nat}{l:List UInt8}
end
section
variable {w:World}{ab a:Option Addr}{cb c:Nat}{bits:List Nat}{l:List UInt8}
end
section
variable {w:World}{a:Option Addr}{c:Nat}{l:List UInt8}
end
abbrev RowP:=Option Addr × Nat × List Val
def rowV1(p:RowP):Value:=.slice p.1 p.2.2.length p.2.1
abbrev rws(ps:List RowP):List (List Val):=ps.map (·.2.2)
structure RowsAt(w:World)(a:Option Addr)(ps:List RowP):Prop where
 top:Rd w a (ps.map rowV1)
 each:∀ p∈ps,Rd w p.1 (valsL p.2.2)
theorem RowsAt.grown{w w':World}{a:Option Addr}{ps:List RowP}(h:RowsAt w a ps)(B:Below w.heap.size w w'):RowsAt w' a ps:=⟨h.top.grown B,fun p hp=>(h.each p hp).grown B⟩
theorem RowsAt.at{w:World}{a:Option Addr}{ps:List RowP}(h:RowsAt w a ps){i:Nat}(hi:i<ps.length):∃ q,a=some q∧w.cell? (q.add (i*1))=some (.slice ps[i].1 ps[i].2.2.length ps[i].2.1)∧Rd w ps[i].1 (valsL ps[i].2.2):=by
 obtain⟨q,hq,hc⟩:=h.top i (rowV1 ps[i]) (by simp [hi])
 exact⟨q,hq,by rw [Nat.mul_one];exact hc,h.each _ (List.getElem_mem hi)⟩
def colOf(rows:List (List Val))(c:Nat):List Val:=rows.map fun r=>r.getD c Z0
theorem colOf_len(rows:List (List Val))(c:Nat):(colOf rows c).length=rows.length:=by simp [colOf]
theorem colOf_take(ps:List RowP){c i:Nat}(hi:i<ps.length)(hc:c<ps[i].2.2.length):colOf (rws (ps.take (i+1))) c=colOf (rws (ps.take i)) c++[ps[i].2.2[c]]:=by
 unfold colOf rws
 rw [List.take_succ_eq_append_getElem hi,List.map_append,List.map_append]
 simp only [List.map_cons,List.map_nil,List.getD,List.getElem?_eq_getElem hc,Option.getD_some]
def valsI(a:Option Addr)(c:Nat)(vs:List Val):It:=It.row ty.api_Value 3 a vs.length c (valsL vs)
section
variable {w0 w:World}{H:List It}{a:Option Addr}{c:Nat}{vs:List Val}
theorem stRdV(S:ST w0 w H)(n:Nat)(hn:H[n]?=some (valsI a c vs)):Rd w a (valsL vs):=S.rd n hn
theorem stAppV(S:ST w0 w H)(n:Nat){t:TypeId}(ht:slT Tryz.prog t=some (ty.api_Value,3,32,.agg #[.int .i64 0,.int .i64 0,.string ⟨#[]⟩]))(hn:H[n]?=some (valsI a c vs)){x:Val}{b:Nat}(hs:Rd w (some ⟨b,0,none⟩) (valC x))(hl:vs.length+1≤1000000){f:Value→World→Prop}
  (hf:∀ a' c' w',ST w0 w' (H.set n (valsI a' c' (vs++[x])))→f (.slice a' (vs++[x]).length c') w') :
  OPR Tryz.prog (Builtin.append_ #[t,t] t #[.slice a vs.length c,.slice (some ⟨b,0,none⟩) 1 1]) f w:=by
 refine S.app n hn ht rfl (by omega) (by omega) hs (mm:=1) rfl (by simp [valC];exact⟨rfl,rfl,rfl⟩) (by omega) fun a' c' w' S'=>?_
 have e1:(vs++[x]).length=vs.length+1:=by simp
 have e2:valsL vs++valC x=valsL (vs++[x]):=by simp [valsL]
 rw [e2] at S'
 have:=hf a' c' w' (by unfold valsI;rw [e1];exact S')
 rwa [e1] at this
end
section
variable {w:World}{a:Option Addr}{c:Nat}{ps:List RowP}
theorem ref09_Column_ok(hr:RowsAt w a ps)(hn:ps.length≤900000){k:Nat}(hk:∀ p∈ps,k<p.2.2.length) :
  Calls Tryz.prog f.ref09_Column #[.slice a ps.length c,.int .i64 (k:Int)] w (Ret fun v w'=>∃ a' c',v=.slice a' (colOf (rws ps) k).length c'∧ST w w' [valsI a' c' (colOf (rws ps) k)]):=by
 apply R.ref09_Column_calls
 unfold R.ref09_Column
 refine⟨fun s w1=>∃(i:Nat) (oa:Option Addr) (oc:Nat) (os:List Val),s=[.slice oa os.length oc,.int .i64 (i:Int)]∧i≤ps.length∧os=colOf (rws (ps.take i)) k∧ST w w1 [valsI oa oc os],fun s _=>match s with
   | [_,.int _ i]=>ps.length-i.toNat
   | _=>0,⟨0,none,0,[],rfl,by omega,rfl,(ST.start w).nil _ _⟩,?_⟩
 rintro oa _ oc _ w1 ⟨i,_,_,os,hst,hi,ho,S⟩
 cases hst
 have hol:os.length=i:=by rw [ho,colOf_len];simp;omega
 refine IFB_dec (fun hlt=>⟨⟨by omega,hlt⟩,?_⟩) (fun hge=>?_)
 ·have hil:i<ps.length:=by omega
  have hkl:=hk _ (List.getElem_mem hil)
  obtain⟨q,rfl,hq,hv⟩:=(hr.grown S.bel).at hil
  obtain⟨p,hp,c0,c1,c2⟩:=val_at hv hkl
  refine⟨_,_,_,by rw [Int.toNat_natCast];exact hq,⟨by omega,by omega⟩,?_⟩
  rw [hp]
  refine⟨_,by rw [Int.toNat_natCast];exact c0,_,by rw [Int.toNat_natCast];exact c1,_,by rw [Int.toNat_natCast];exact c2,S.newB fun b12 w2 _ _ S=>?_⟩
  have hsrc:Rd w2 (some ⟨b12,0,none⟩) (valC ps[i].2.2[k]):=S.rdc 0 rfl
  refine stAppV S 1 tVals rfl hsrc (by omega) fun a3 c3 w3 S=>⟨_,_,_,rfl,?_⟩
  rw [wrap_succ (by omega)]
  refine⟨⟨i+1,a3,c3,_,rfl,by omega,by rw [colOf_take ps hil hkl,ho],S.drop 1⟩,?_⟩
  show ps.length-((i+1:Nat):Int).toNat<ps.length-((i:Nat):Int).toNat
  simp only [Int.toNat_natCast]
  omega
 ·rw [List.take_of_length_le (by omega)] at ho
  subst ho
  exact⟨oa,oc,rfl,S⟩
theorem segment_byColumns_ok{a2:Option Addr}{c2 n:Nat}:Calls Tryz.prog f.segment_byColumns #[.slice a2 n c2,.slice a ps.length c] w (Ret fun v w'=>∃ b1 b2,v=.func (.func f.segment_byColumns_c1) #[] #[.pointer (some ⟨b1,0,none⟩),.pointer (some ⟨b2,0,none⟩)] ∧
  ST w w' [It.cells b2 #[.slice a ps.length c] ty.L_api_Row,It.cells b1 #[.slice a2 n c2] ty.L_api_Column]):=by
 apply R.segment_byColumns_calls
 unfold R.segment_byColumns
 exact (ST.start w).newB fun b1 w1 _ _ S1=>S1.newB fun b2 w2 _ _ S2=>⟨b1,b2,rfl,S2⟩
theorem byColumns_c1_ok{L b1 b2 n c2:Nat}{a2:Option Addr}(hn:n≤9223372036854775807)(hm:ps.length≤900000)(hk:∀ p∈ps,p.2.2.length=n)(J:Nat→World→Prop)(hrd:∀ k w,J k w→RowsAt w a ps∧w.cell? ⟨b2,0,none⟩=some (.slice a ps.length c))
  (hgrow:∀ k w w',J k w→Below w.heap.size w w'→J k w') (hstep:∀ k w la lc,k<n→J k w→Rd w la (valsL (colOf (rws ps) k))→YLD Tryz.prog L #[.int .i64 (k:Int),.slice la ps.length lc] (fun y w'=>y=true∧J (k+1) w') w)
  (h0:J 0 w) (hb:w.cell? ⟨b1,0,none⟩=some (.slice a2 n c2)) :
  Calls Tryz.prog f.segment_byColumns_c1 #[.func (.yield L) #[] #[],.pointer (some ⟨b1,0,none⟩),.pointer (some ⟨b2,0,none⟩)] w (Ret fun _ w'=>J n w'):=by
 apply R.segment_byColumns_c1_calls
 unfold R.segment_byColumns_c1
 refine⟨_,_,_,hb,fun s w1=>∃ k:Nat,k≤n∧s=[.int .i64 (k:Int)]∧J k w1,fun s _=>match s with
   | [.int _ i]=>n-i.toNat
   | _=>0,⟨0,by omega,rfl,h0⟩,?_⟩
 rintro _ w1 ⟨k,hkn,hst,hj⟩
 cases hst
 refine IFB_dec (fun hlt=>?_) (fun hge=>?_)
 ·have hkl:k<n:=by omega
  refine⟨_,_,_,(hrd _ _ hj).2,?_⟩
  refine⟨fun s w2=>∃(i:Nat) (oa:Option Addr) (oc:Nat) (os:List Val),s=[.slice oa os.length oc,.int .i64 (i:Int)]∧i≤ps.length∧os=colOf (rws (ps.take i)) k∧ST w1 w2 [valsI oa oc os],fun s _=>match s with
   | [_,.int _ i]=>ps.length-i.toNat
   | _=>0,⟨0,none,0,[],rfl,by omega,rfl,(ST.start w1).nil _ _⟩,?_⟩
  rintro oa _ oc _ w2 ⟨i,_,_,os,hst,hi,ho,S⟩
  cases hst
  have hol:os.length=i:=by rw [ho,colOf_len];simp;omega
  refine IFB_dec (fun hlt=>⟨⟨by omega,hlt⟩,?_⟩) (fun hge=>?_)
  ·have hil:i<ps.length:=by omega
   have hkl':k<ps[i].2.2.length:=by rw [hk _ (List.getElem_mem hil)];exact hkl
   obtain⟨q,rfl,hq,hv⟩:=((hrd _ _ hj).1.grown S.bel).at hil
   obtain⟨p,hp,c0,c1,c2⟩:=val_at hv hkl'
   refine⟨_,_,_,by rw [Int.toNat_natCast];exact hq,⟨by omega,by omega⟩,?_⟩
   rw [hp]
   refine⟨_,by rw [Int.toNat_natCast];exact c0,_,by rw [Int.toNat_natCast];exact c1,_,by rw [Int.toNat_natCast];exact c2,S.newB fun b12 w2 _ _ S=>?_⟩
   have hsrc:Rd w2 (some ⟨b12,0,none⟩) (valC ps[i].2.2[k]):=S.rdc 0 rfl
   refine stAppV S 1 tVals rfl hsrc (by omega) fun a3 c3 w3 S=>⟨_,_,_,rfl,?_⟩
   rw [wrap_succ (by omega)]
   refine⟨⟨i+1,a3,c3,_,rfl,by omega,by rw [colOf_take ps hil hkl',ho],S.drop 1⟩,?_⟩
   show ps.length-((i+1:Nat):Int).toNat<ps.length-((i:Nat):Int).toNat
   simp only [Int.toNat_natCast]
   omega
  ·have hie:i=ps.length:=by omega
   rw [List.take_of_length_le (by omega)] at ho
   subst ho
   rw [hol,hie,wrap_succ (by omega)]
   refine (hstep k w2 oa oc hkl (hgrow _ _ _ hj S.bel) (stRdV S 0 rfl)).mono ?_
   rintro y w3 ⟨rfl,h⟩
   refine IFB_false ⟨⟨k+1,by omega,rfl,h⟩,?_⟩
   show n-((k+1:Nat):Int).toNat<n-((k:Nat):Int).toNat
   simp only [Int.toNat_natCast]
   omega
 ·have:k=n:=by omega
  subst this
  exact hj
end
structure SegOk(cs:List Col)(rows:List (List Val)):Prop where
 right:rightCols cs=true
 len:rows.length≤1024
 fits:∀ r∈rows,fitsB cs r=true
 ok:∀ r∈rows,∀ v∈r,ValOk v
section
variable {cs:List Col}{rows:List (List Val)}
theorem fits_len{r:List Val}(h:fitsB cs r=true):r.length=cs.length:=by
 simp only [fitsB,Bool.and_eq_true,decide_eq_true_eq] at h
 exact h.1
theorem fits_at{r:List Val}(h:fitsB cs r=true){k:Nat}(h1:k<cs.length)(h2:k<r.length):fitV cs[k] r[k]=true:=by
 simp only [fitsB,Bool.and_eq_true,fitL,List.all_eq_true] at h
 exact h.2 (cs[k],r[k]) (List.mem_iff_getElem.2 ⟨k,by simp;omega,by simp⟩)
theorem SegOk.rowLen(h:SegOk cs rows){r:List Val}(hr:r∈rows):r.length=cs.length:=fits_len (h.fits r hr)
theorem SegOk.good(h:SegOk cs rows){k:Nat}(hk:k<cs.length):Good1 cs[k].2.1 (colOf rows k):=by
 have key:∀ v∈colOf rows k,okV cs[k].2.1 v=true∧ValOk v:=by
  intro v hv
  obtain⟨r,hr,rfl⟩:=List.mem_map.1 hv
  have hl:=h.rowLen hr
  have hkr:k<r.length:=by omega
  have e:r.getD k Z0=r[k]:=by simp [List.getD,hkr]
  rw [e]
  refine⟨?_,h.ok r hr _ (List.getElem_mem hkr)⟩
  have:=fits_at (h.fits r hr) hk hkr
  simp only [fitV,Bool.and_eq_true,Bool.or_eq_true,decide_eq_true_eq] at this
  simp only [okV,Bool.and_eq_true,Bool.or_eq_true,decide_eq_true_eq]
  exact⟨this.1,this.2.imp id fun h=>h.2⟩
 obtain⟨_,h1,h2,_⟩:=right_col h.right (List.getElem_mem hk)
 refine⟨?_,fun v hv=>(key v hv).2⟩
 have h3:(colOf rows k).all (okV cs[k].2.1)=true:=List.all_eq_true.2 fun v hv=>(key v hv).1
 have h4:1≤cs[k].2.1∧cs[k].2.1≤3∧(colOf rows k).length≤1024:=⟨h1,h2,by rw [colOf_len];exact h.len⟩
 simp [rightL,h3,h4]
end
theorem zmm_all{P:Val→Prop}{ls:List Val}(h0:P Z0)(h:∀ v∈ls,P v):P (zmm ls).1∧P (zmm ls).2:=by
 have key:∀ i,i≤ls.length→∀ p,zoneS (ls.take i)=some p→P p.1∧P p.2:=by
  intro i
  induction i with
  | zero=>intro _ p hp;simp [zoneS] at hp
  | succ i ih =>
   intro hi p hp
   have hil:i<ls.length:=by omega
   have hm:=h _ (List.getElem_mem hil)
   rw [zoneS_take hil] at hp
   unfold zstep at hp
   split at hp
   ·exact ih (by omega) p hp
   ·split at hp
    ·cases hp;exact⟨hm,hm⟩
    ·rename_i q hq
     obtain⟨q1,q2⟩:=ih (by omega) q hq
     cases hp
     refine⟨?_,?_⟩
     ·show P (if _ then _ else _)
      split
      ·exact hm
      ·exact q1
     ·show P (if _ then _ else _)
      split
      ·exact hm
      ·exact q2
 unfold zmm
 cases hz:zoneS ls with
 | none=>exact⟨h0,h0⟩
 | some p =>
  have:=key ls.length (Nat.le_refl _) p (by rw [List.take_length];exact hz)
  exact this
theorem Good1.rights{k:Int}{ls:List Val}(h:Good1 k ls):∀ v∈ls,rightB v=true∧ValOk v:=by
 intro v hv
 have:=h.all v hv
 simp only [okV,Bool.and_eq_true] at this
 exact⟨this.1,h.ok v hv⟩
theorem Good1.zone{k:Int}{ls:List Val}(h:Good1 k ls):(rightB (zmm ls).1=true∧ValOk (zmm ls).1)∧(rightB (zmm ls).2=true∧ValOk (zmm ls).2) :=
 zmm_all (P:=fun v=>rightB v=true∧ValOk v) ⟨by decide,valok_small (by decide) (by decide)⟩ h.rights
theorem Good1.zoneOk{k:Int}{ls:List Val}(h:Good1 k ls):zoneOk ls:=⟨h.len,fun v hv=>(h.rights v hv).1⟩
theorem layL_len{v:Val}(h:rightB v=true)(hv:ValOk v):(layL v).length≤1040:=by
 unfold layL
 split
 ·have:=digitsL_len10 (zigN_lt hv.lo hv.hi)
  simp only [List.length_cons]
  omega
 ·split
  ·simp
  ·split
   ·rename_i h3
    have hs:v.2.2.size≤1024:=by
     rcases right_kind h with h | h | ⟨h,_⟩ | ⟨_,h⟩
     ·omega
     ·omega
     ·omega
     ·exact h
    have:=textL_len hs
    simp only [List.length_cons]
    omega
   ·simp
theorem ChIs.len{k:Int}{ls:List Val}{b:List UInt8}(hg:Good1 k ls)(h:ChIs k ls b):b.length≤2000300:=by
 obtain⟨o,h1,h2,rfl⟩:=h.ex
 have hs:∀ x,(sum4 x).length=4:=fun x=>rfl
 have e1:=headL_len hg
 have e2:=maskL_len hg
 have e3:o.length≤2000000:=by
  by_cases hn:nullsN ls<ls.length
  ·exact (h1 hn).len hg
  ·rw [h2 hn];simp
 simp only [List.length_append,hs]
 omega
def lowB(n:Nat):List UInt8:=[UInt8.ofNat (n % 256),UInt8.ofNat (n / 256 % 256),UInt8.ofNat (n / 65536 % 256),UInt8.ofNat (n / 16777216 % 256)]
def magicB:List UInt8:=[83,89,68,49]
def footC(x:List UInt8)(l:List Val):List UInt8:=digitsL x.length++digitsL (nullsN l)++layL (zmm l).1++layL (zmm l).2
def footsL(rows:List (List Val))(xs:List (List UInt8)):List UInt8:=(xs.mapIdx fun i x=>footC x (colOf rows i)).flatten
theorem footsL_snoc(rows:List (List Val))(xs:List (List UInt8))(x:List UInt8):footsL rows (xs++[x])=footsL rows xs++footC x (colOf rows xs.length):=by
 unfold footsL
 rw [List.mapIdx_concat]
 simp
def footL(cs:List Col)(rows:List (List Val))(xs:List (List UInt8)):List UInt8:=schL cs++digitsL rows.length++footsL rows xs
def preL(cs:List Col)(rows:List (List Val))(xs:List (List UInt8)):List UInt8:=magicB++xs.flatten++footL cs rows xs++lowB (footL cs rows xs).length
def sealD(p:List UInt8):List UInt8:=p++digP p
structure ChsIs(cs:List Col)(rows:List (List Val))(xs:List (List UInt8)):Prop where
 len:xs.length≤cs.length
 each:∀ i (h1:i<cs.length) (h2:i<xs.length),ChIs cs[i].2.1 (colOf rows i) xs[i]
theorem ChsIs.nil(cs:List Col)(rows:List (List Val)):ChsIs cs rows []:=⟨by simp,fun i _ h=>by simp at h⟩
theorem ChsIs.snoc{cs:List Col}{rows:List (List Val)}{xs:List (List UInt8)}(h:ChsIs cs rows xs){x:List UInt8}(h1:xs.length<cs.length)(hx:ChIs cs[xs.length].2.1 (colOf rows xs.length) x):ChsIs cs rows (xs++[x]):=by
 refine⟨by simp;omega,fun i g1 g2=>?_⟩
 rcases Nat.lt_or_ge i xs.length with h3 | h3
 ·rw [List.getElem_append_left h3]
  exact h.each i g1 h3
 ·have:i=xs.length:=by simp at g2;omega
  subst this
  simp only [List.getElem_concat_length]
  exact hx
theorem ChsIs.one{cs:List Col}{rows:List (List Val)}{xs ys:List (List UInt8)}(h:ChsIs cs rows xs)(h':ChsIs cs rows ys)(hl:xs.length=ys.length):xs=ys:=by
 refine List.ext_getElem hl fun i h1 h2=>?_
 have:=h.len
 exact (h.each i (by omega) h1).one (h'.each i (by omega) h2)
theorem flatten_le{xs:List (List UInt8)}{m:Nat}(h:∀ x∈xs,x.length≤m):xs.flatten.length≤xs.length*m:=by
 induction xs with
 | nil=>simp
 | cons x xs ih =>
  have h1:=h x (by simp)
  have h2:=ih fun y hy=>h y (by simp [hy])
  simp only [List.flatten_cons,List.length_append,List.length_cons,Nat.add_mul]
  omega
theorem footC_len{k:Int}{x:List UInt8}{l:List Val}(hg:Good1 k l)(hx:x.length≤2000300):(footC x l).length≤2100:=by
 have h1:=digitsL_len10 (n:=x.length) (by omega)
 have h2:=digitsL_len10 (n:=nullsN l) (by have:=nullsN_le l;have:=hg.len;omega)
 have h3:=layL_len hg.zone.1.1 hg.zone.1.2
 have h4:=layL_len hg.zone.2.1 hg.zone.2.2
 simp only [footC,List.length_append]
 omega
section
variable {cs:List Col}{rows:List (List Val)}{xs:List (List UInt8)}
theorem ChsIs.lens(h:ChsIs cs rows xs)(hs:SegOk cs rows):∀ x∈xs,x.length≤2000300:=by
 intro x hx
 obtain⟨i,hi,rfl⟩:=List.getElem_of_mem hx
 have:=h.len
 exact (h.each i (by omega) hi).len (hs.good (by omega))
theorem ChsIs.flat(h:ChsIs cs rows xs)(hs:SegOk cs rows):xs.flatten.length≤33000000:=by
 have h1:=flatten_le (h.lens hs)
 have h2:=h.len
 have h3:=right_len hs.right
 have:xs.length*2000300≤16*2000300:=Nat.mul_le_mul_right _ (by omega)
 omega
theorem ChsIs.foots(h:ChsIs cs rows xs)(hs:SegOk cs rows):(footsL rows xs).length≤34000:=by
 have h1:(footsL rows xs).length≤(xs.mapIdx fun i x=>footC x (colOf rows i)).length*2100:=by
  refine flatten_le fun x hx=>?_
  obtain⟨i,hi,rfl⟩:=List.mem_mapIdx.1 hx
  have:=h.len
  exact footC_len (hs.good (by omega:i<cs.length)) (h.lens hs _ (List.getElem_mem hi))
 rw [List.length_mapIdx] at h1
 have h2:=h.len
 have h3:=right_len hs.right
 omega
theorem ChsIs.footLen(h:ChsIs cs rows xs)(hs:SegOk cs rows):(footL cs rows xs).length≤35000:=by
 have h1:=h.foots hs
 have h2:=schL_len hs.right
 have h3:=digitsL_len10 (n:=rows.length) (by have:=hs.len;omega)
 simp only [footL,List.length_append]
 omega
theorem ChsIs.preLen(h:ChsIs cs rows xs)(hs:SegOk cs rows):(preL cs rows xs).length≤34000000:=by
 have h1:=h.footLen hs
 have h2:=h.flat hs
 simp only [preL,List.length_append,magicB,lowB,List.length_cons,List.length_nil]
 omega
end
structure SegIs(cs:List Col)(rows:List (List Val))(b:List UInt8):Prop where
 ex:∃ xs,xs.length=cs.length∧ChsIs cs rows xs∧b=sealD (preL cs rows xs)
theorem SegIs.one{cs:List Col}{rows:List (List Val)}{b b':List UInt8}(h:SegIs cs rows b)(h':SegIs cs rows b'):b=b':=by
 obtain⟨xs,h1,h2,rfl⟩:=h.ex
 obtain⟨ys,k1,k2,rfl⟩:=h'.ex
 rw [h2.one k2 (by omega)]
def segE(cs:List Col)(rows:List (List Val)):Int:=if rightCols cs=false then 50 else if 1024<rows.length∨∃ r∈rows,fitsB cs r=false then 51 else 0
def SegV(cs:List Col)(rows:List (List Val))(v:Value):Prop :=
 (¬ SegOk cs rows∧v=.tuple #[.string ⟨#[]⟩,.int .i64 (segE cs rows)]∧segE cs rows≠0)∨(SegOk cs rows∧∃ b,v=.tuple #[.string (sof b),.int .i64 0]∧SegIs cs rows b)
end Go.Proofs.YtipgnehlihmdhaaGreatDoor
namespace Go.Dn
set_option maxRecDepth 100000
open Go.RowKit (Below)
theorem conv_lit{P:Program}{bt el:TypeId}(hb:P.underlying bt=some (.slice el))(he:P.underlying el=some (.int .u8)){w:World}{b n c:Nat}{cs:Array Value}{e:TypeId}(hg:w.heap[b]?=some (.cells cs e (0,0))){f:Value→World→Prop}
  (hf:∀ w',Keeps (·=b) w w'→w'.heap[b]?=some (.cells cs e (cs.size,cs.size+1))→f (.slice (some ⟨b,0,none⟩) n c) w'):OPR P (convert bt bt (.slice (some ⟨b,0,none⟩) n c)) f w:=by
 have hshape:w.shape? b=some (e,cs.size):=by simp [World.shape?,hg]
 have hmark:(markStringish ⟨b,0,none⟩).run P w=.ok () (w.freeze ⟨b,cs.size,none⟩ 1):=by simp [markStringish,hshape]
 have hrun:(convert bt bt (.slice (some ⟨b,0,none⟩) n c)).run P w=.ok (.slice (some ⟨b,0,none⟩) n c) (w.freeze ⟨b,cs.size,none⟩ 1):=by
  simp only [convert,Sem.run_bind,run_underlying hb,run_underlying he,Result.andThen_ok,beq_self_eq_true,hmark,Sem.run_pure]
 unfold OPR
 rw [hrun]
 refine hf _ (freeze_keeps (·=b) w ⟨b,cs.size,none⟩ 1 rfl) ?_
 unfold World.freeze
 simp [Array.getElem?_modify,hg]
theorem append_grow{P:Program}{t ty e:TypeId}{sz bytes:Nat}{z:Value}(hT:slT P t=some (e,sz,bytes,z))(hz:z.cells.size=sz)(hsz:0<sz)(hb0:0<bytes)
  {w:World} {p:Addr} {n c:Nat} {xs:List Value} (hr:Rd w (some p) xs) (hxl:xs.length=n*sz) {b:Option Addr} {m mc:Nat} {news:List Value} (hs:Rd w b news) (hl:news.length=m*sz) (hm:0<m)
  (hc:c<n+m) (_hnc:n≤c) (hby:(n+m)*bytes≤140737488355328) :
  ∃ a' c' w',(Builtin.append_ #[t,t] ty #[.slice (some p) n c,.slice b m mc]).run P w=.ok (.slice a' (n+m) c') w'∧Row w' e sz a' (n+m) c' (xs++news)∧Below w.heap.size w w'∧(∀ k,rowB a'=some k→w.heap.size≤k):=by
 obtain⟨hu,i,hi,hiz,rfl,rfl⟩:=slT_out hT
 have hnm:n+m≤140737488355328:=Nat.le_trans (Nat.le_mul_of_pos_right _ hb0) hby
 have hlen:(xs++news).length=(n+m)*i.size:=by rw [List.length_append,hxl,hl,Nat.add_mul]
 have h0:0<news.length:=by rw [hl];exact Nat.mul_pos hm hsz
 obtain⟨q,rfl,_⟩:=hs 0 news[0] (List.getElem?_eq_getElem h0)
 have hq:∀ j u,news[j]?=some u→w.cell? (q.add j)=some u:=by
  intro j u hu
  obtain⟨q',hq',hc⟩:=hs j u hu
  cases hq'
  exact hc
 have hold:∀ j v,xs[j]?=some v→w.cell? (p.add j)=some v:=by
  intro j v hv
  obtain⟨q',hq',hc⟩:=hr j v hv
  cases hq'
  exact hc
 have hge:=grownCap_ge w (n+m) c e
 have hcm:grownCap w (n+m) c e≤maxLen:=grownCap_le_maxLen w (n+m) c e (by unfold maxLen;omega)
 have hrun:=run_append_grow (P:=P) w t ty e i z hu hi hiz p n c xs hxl hold q m mc news hl hq (by omega) (by omega) (growslice_fits (by omega) hby)
 refine⟨_,_,_,hrun,⟨hlen,.inr ⟨w.heap.size,_,rfl,heap_alloc_new w.drew _,hge,by unfold maxLen at hcm;omega,?_,?_⟩⟩,((Below.refl _ w).drew).alloc (Nat.le_refl _) _,fun k hk=>?_⟩
 ·simp only [Array.size_append,List.size_toArray,size_zeroCells,hz,hxl,hl,← Nat.add_mul]
  congr 1
  omega
 ·simp only [Array.toList_append,List.append_assoc]
  rw [← List.append_assoc,← hlen]
  exact List.take_left
 ·simp [rowB] at hk
  omega
def It.buf(e:TypeId)(sz:Nat)(a:Option Addr)(n c:Nat)(xs:List Value):It where
 blk:=rowB a
 ok:=fun w=>Row w e sz a n c xs∨(∃ p,a=some p∧c=n∧Rd w a xs∧xs.length=n*sz∧p.block<w.heap.size)
 st:=fun w w' h h0=>by
  rcases h0 with h0 | ⟨p,rfl,h1,h2,h3,h4⟩
  ·exact .inl ((It.row e sz a n c xs).st w w' h h0)
  ·refine .inr ⟨p,rfl,h1,?_,h3,?_⟩
   ·intro j v hv
    obtain⟨q,hq,hc⟩:=h2 j v hv
    cases hq
    exact⟨p,rfl,by rw [World.cell?_of_block (w:=w) (by rw [addr_add_block];exact h p.block rfl)];exact hc⟩
   ·have:=h p.block rfl
    rw [Array.getElem?_eq_getElem h4] at this
    exact (Array.getElem?_eq_some_iff.1 this).1
 lt:=fun w h k hk=>by
  rcases h with h | ⟨p,rfl,_,_,_,h4⟩
  ·exact h.lt hk
  ·cases hk;exact h4
section
variable {w0 w:World}{H:List It}
theorem ST.appF(S:ST w0 w H)(n:Nat){P:Program}{t ty e:TypeId}{sz bytes:Nat}{z:Value}{a:Option Addr}{m c:Nat}{xs:List Value}(hn:H[n]?=some (It.buf e sz a m c xs))(hT:slT P t=some (e,sz,bytes,z))(hz:z.cells.size=sz)(hsz:0<sz)(hb0:0<bytes)
  {b:Option Addr} {mm mc:Nat} {news:List Value} (hs:Rd w b news) (hl:news.length=mm*sz) (hmm:0<mm) (h1:∀ u∈news,u.oneCell'=true) (hby:(m+mm)*bytes≤140737488355328) {f:Value→World→Prop}
  (hf:∀ a' c' w',ST w0 w' (H.set n (It.row e sz a' (m+mm) c' (xs++news)))→f (.slice a' (m+mm) c') w'):OPR P (Builtin.append_ #[t,t] ty #[.slice a m c,.slice b mm mc]) f w:=by
 rcases S.get n hn with h | ⟨p,rfl,rfl,h2,h3,h4⟩
 ·obtain⟨a',c',w',hrun,hrow,hk,hnew⟩:=append_row (ty:=ty) (mc:=mc) hT hz hsz hb0 h hs hl h1 hby
  unfold OPR
  rw [hrun]
  exact hf a' c' w' (S.chg n hn hk _ hrow hnew)
 ·obtain⟨a',c',w',hrun,hrow,hB,hnew⟩:=append_grow (ty:=ty) (mc:=mc) hT hz hsz hb0 h2 h3 hs hl hmm (by omega) (Nat.le_refl _) hby
  unfold OPR
  rw [hrun]
  exact hf a' c' w' (S.chg n hn (Keeps.of_below hB) _ hrow (fun k hk=>.inr (hnew k hk)))
theorem ST.rdF(S:ST w0 w H)(n:Nat){e:TypeId}{sz:Nat}{a:Option Addr}{m c:Nat}{xs:List Value}(hn:H[n]?=some (It.buf e sz a m c xs)):Rd w a xs:=by
 rcases S.get n hn with h | ⟨p,rfl,rfl,h2,h3,h4⟩
 ·exact h.rd
 ·exact h2
end
end Go.Dn
namespace Go.Proofs.YtipgnehlihmdhaaGreatDoor
set_option maxRecDepth 100000
open Go.Dn Go.Proofs
open Go.RowKit (Below)
set_option linter.unusedVariables false
theorem und_B:Tryz.prog.underlying ty.L_uint8=some (.slice ty.uint8):=by kernel_rfl
theorem und_u8:Tryz.prog.underlying ty.uint8=some (.int .u8):=by kernel_rfl
theorem LIKEL_by(l:List UInt8){n:Nat}{f:List Value→Prop}(hn:l.length=n)(h:f (l.map byteV)):LIKEL (List.replicate n (.int .u8 0)) f :=
 LIKEL_ints .u8 (l.map uI) (by simpa using hn) (by rw [← map_byteV];exact h)
def bufI(a:Option Addr)(c:Nat)(l:List UInt8):It:=It.buf ty.uint8 1 a l.length c (l.map byteV)
section
variable {w0 w:World}{H:List It}{a:Option Addr}{c:Nat}{l:List UInt8}
theorem stAppF(S:ST w0 w H)(n:Nat)(hn:H[n]?=some (bufI a c l)){m:List UInt8}{b:Option Addr}{mc:Nat}(hs:Rd w b (m.map byteV))(h0:0<m.length)(hl:l.length+m.length≤140737488355328){f:Value→World→Prop}
  (hf:∀ a' c' w',ST w0 w' (H.set n (bytesI a' c' (l++m)))→f (.slice a' (l++m).length c') w') :
  OPR Tryz.prog (Builtin.append_ #[ty.L_uint8,ty.L_uint8] ty.L_uint8 #[.slice a l.length c,.slice b m.length mc]) f w:=by
 refine S.appF n hn tB zB (by omega) (by omega) hs (mm:=m.length) (by simp) h0 (bytes_one _) (by omega) fun a' c' w' S'=>?_
 have e1:(l++m).length=l.length+m.length:=by simp
 rw [← List.map_append] at S'
 have:=hf a' c' w' (by unfold bytesI;rw [e1];exact S')
 rwa [e1] at this
theorem stToBuf(S:ST w0 w H)(n:Nat)(hn:H[n]?=some (bytesI a c l)):ST w0 w (H.set n (bufI a c l)):=S.chg n hn (.refl _ _) _ (.inl (S.get n hn)) (fun k hk=>.inl hk)
theorem stAppK(S:ST w0 w H)(n:Nat)(hn:H[n]?=some (bytesI a c l)){m:List UInt8}{k:Nat}(hk:m.length=k){b:Option Addr}{mc:Nat}(hs:Rd w b (m.map byteV))(hl:l.length+m.length≤140737488355328){f:Value→World→Prop}
  (hf:∀ a' c' w',ST w0 w' (H.set n (bytesI a' c' (l++m)))→f (.slice a' (l++m).length c') w') :
  OPR Tryz.prog (Builtin.append_ #[ty.L_uint8,ty.L_uint8] ty.L_uint8 #[.slice a l.length c,.slice b k mc]) f w:=by
 subst hk
 exact stAppB S n hn hs hl hf
end
section
variable {w:World}{a a2:Option Addr}{c c2:Nat}{cs:List Col}{ps:List RowP}
theorem segment_low_ok(n:Nat)(hn:n<4294967296):Calls Tryz.prog f.segment_low #[.int .i64 (n:Int)] w (Ret fun v w'=>∃ b,v=.slice (some ⟨b,0,none⟩) 4 4∧NewB w w' (lowB n) (some ⟨b,0,none⟩) 4):=by
 apply R.segment_low_calls
 unfold R.segment_low
 refine (ST.start w).newB fun b w1 hb B S=>⟨b,rfl,?_⟩
 have sh:∀ k,Int.fdiv (n:Int) (2 ^ k)=((n / 2 ^ k:Nat):Int):=fun k=>by
  rw [Int.fdiv_eq_ediv_of_nonneg _ (Int.pow_nonneg (by decide))]
  norm_cast
 have by_:∀ m:Nat,Value.int .u8 (IntKind.u8.wrap (m:Int))=byteV (UInt8.ofNat (m % 256)):=fun m=>by
  rw [wrap_u8,← byteV_of (x:=m % 256) (by omega)]
  congr 1
 have e:(#[Value.int .u8 (IntKind.u8.wrap (n:Int)),.int .u8 (IntKind.u8.wrap (Int.fdiv (n:Int) (2 ^ (min 8 64)))),.int .u8 (IntKind.u8.wrap (Int.fdiv (n:Int) (2 ^ (min 16 64)))),.int .u8 (IntKind.u8.wrap (Int.fdiv (n:Int) (2 ^ (min 24 64))))]:Array Value)=((lowB n).map byteV).toArray:=by
  rw [show min 8 64=8 from rfl,show min 16 64=16 from rfl,show min 24 64=24 from rfl,sh,sh,sh,by_,by_,by_,by_]
  rfl
 rw [e] at S
 have hg:=S.blk 0 rfl
 exact⟨⟨rfl,.inr ⟨b,_,rfl,hg,Nat.le_refl _,by decide,rfl,rfl⟩⟩,fun k hk=>by cases hk;exact hb,B⟩
theorem Write_c1_ok{b:Nat}{r:List Val}{ra:Option Addr}{rc:Nat}(hc:w.cell? ⟨b,0,none⟩=some (.slice a cs.length c))(hl:Rd w a (colsL cs))(hn:cs.length≤9223372036854775807)(hq:∀ c∈cs,c.1.size≤9223372036854775807)(hr:Rd w ra (valsL r)) :
  Calls Tryz.prog f.segment_Write_c1 #[.slice ra r.length rc,.pointer (some ⟨b,0,none⟩)] w (Ret fun v w'=>v=.bool (!(rightCols cs && fitsB cs r))∧Below w.heap.size w w'):=by
 apply R.segment_Write_c1_calls
 unfold R.segment_Write_c1
 refine⟨_,_,_,hc,(schema_Fits_ok hl hn hq hr).mono ?_⟩
 rintro _ w1 ⟨_,rfl,rfl,B⟩
 exact⟨_,rfl,rfl,B⟩
theorem IndexRows_ok{b:Nat}(hc:w.cell? ⟨b,0,none⟩=some (.slice a cs.length c))(hl:Rd w a (colsL cs))(hn:cs.length≤9223372036854775807)(hq:∀ c∈cs,c.1.size≤9223372036854775807)(hr:RowsAt w a2 ps)(hm:ps.length≤900000) :
  Calls Tryz.prog f.slices_IndexFunc_api_Row_api_Row #[.slice a2 ps.length c2,.func (.func f.segment_Write_c1) #[] #[.pointer (some ⟨b,0,none⟩)]] w (Ret fun v w'=>∃ z:Int,v=.int .i64 z∧Below w.heap.size w w'∧(0≤z↔∃ r∈rws ps,(rightCols cs && fitsB cs r)=false)):=by
 apply R.slices_IndexFunc_api_Row_api_Row_calls
 unfold R.slices_IndexFunc_api_Row_api_Row
 refine⟨fun st w2=>∃ i:Nat,st=[.int .i64 (i:Int)]∧i≤ps.length∧(∀ r∈rws (ps.take i),(rightCols cs && fitsB cs r)=true)∧Below w.heap.size w w2,fun st _=>match st with | [.int _ t]=>ps.length-t.toNat | _=>0,⟨0,rfl,by omega,by simp,.refl _ _⟩,?_⟩
 rintro t w2 ⟨i,hst,hi,hall,B2⟩
 cases hst
 refine IFB_dec (fun hlt=>⟨⟨by omega,hlt⟩,?_⟩) (fun hge=>⟨_,rfl,B2,?_⟩)
 ·have hil:i<ps.length:=by omega
  obtain⟨q,rfl,hq1,hv⟩:=(hr.grown B2).at hil
  have hc2:w2.cell? ⟨b,0,none⟩=some (.slice a cs.length c):=(Keeps.of_below (F:=fun _=>False) B2).cell hc (by simp)
  refine⟨_,_,_,by rw [Int.toNat_natCast];exact hq1,?_⟩
  rw [show enters Tryz.prog f.segment_Write_c1=true by kernel_rfl]
  refine (Write_c1_ok hc2 (hl.grown B2) hn hq hv).mono ?_
  rintro _ w3 ⟨_,rfl,rfl,B3⟩
  refine⟨_,rfl,IFB_not (IFB_of (fun hf=>?_) (fun hf=>?_))⟩
  ·rw [wrap_succ (by omega)]
   refine⟨⟨i+1,rfl,by omega,fun r hr=>?_,below_trans B2 B3⟩,?_⟩
   ·simp only [rws,List.mem_map] at hr
    obtain⟨p,hp,rfl⟩:=hr
    rw [List.take_succ_eq_append_getElem hil] at hp
    rcases List.mem_append.1 hp with h | h
    ·exact hall _ (List.mem_map.2 ⟨p,h,rfl⟩)
    ·rw [List.mem_singleton.1 h];exact hf
   ·show ps.length-((i+1:Nat):Int).toNat<ps.length-((i:Nat):Int).toNat
    simp only [Int.toNat_natCast]
    omega
  ·exact⟨_,rfl,below_trans B2 B3,⟨fun _=>⟨_,List.mem_map.2 ⟨ps[i],List.getElem_mem hil,rfl⟩,hf⟩,fun _=>by omega⟩⟩
 ·rw [List.take_of_length_le (by omega)] at hall
  constructor
  ·intro h;omega
  ·rintro⟨r,hr,hf⟩
   rw [hall r hr] at hf
   cases hf
theorem ContainsRows_ok{b:Nat}(hc:w.cell? ⟨b,0,none⟩=some (.slice a cs.length c))(hl:Rd w a (colsL cs))(hn:cs.length≤9223372036854775807)(hq:∀ c∈cs,c.1.size≤9223372036854775807)(hr:RowsAt w a2 ps)(hm:ps.length≤900000) :
  Calls Tryz.prog f.slices_ContainsFunc_api_Row_api_Row #[.slice a2 ps.length c2,.func (.func f.segment_Write_c1) #[] #[.pointer (some ⟨b,0,none⟩)]] w (Ret fun v w'=>∃ z:Bool,v=.bool z∧Below w.heap.size w w'∧(z=true↔∃ r∈rws ps,(rightCols cs && fitsB cs r)=false)):=by
 apply R.slices_ContainsFunc_api_Row_api_Row_calls
 unfold R.slices_ContainsFunc_api_Row_api_Row
 refine (IndexRows_ok hc hl hn hq hr hm).mono ?_
 rintro _ w1 ⟨_,rfl,z,rfl,B,h⟩
 exact⟨_,rfl,_,rfl,B,by rw [decide_eq_true_eq];exact h⟩
theorem lay_good{l:List UInt8}{v:Val}{r:Value}{w w':World}(hr:rightB v=true)(h:layV l v r w w'):∃ a c,r=.tuple #[.slice a (l++layL v).length c,.int .i64 0]∧NewB w w' (l++layL v) a c:=by
 rcases h with ⟨h,_⟩ | ⟨_,h⟩
 ·rw [hr] at h;cases h
 ·exact h
set_option maxHeartbeats 1000000 in
theorem segment_Write_ok(T:Tabs w)(hl:Rd w a (colsL cs))(hn:cs.length≤9223372036854775807)(hq:∀ c∈cs,c.1.size≤9223372036854775807)(hr:RowsAt w a2 ps)(hm:ps.length≤9223372036854775807)(hv:∀ r∈rws ps,∀ v∈r,ValOk v) :
  Calls Tryz.prog f.segment_Write #[.slice a cs.length c,.slice a2 ps.length c2] w (Ret fun v w'=>SegV cs (rws ps) v∧Below w.heap.size w w'):=by
 apply R.segment_Write_calls
 unfold R.segment_Write
 refine (ST.start w).newB fun b3 w1 hb3 B1 S=>⟨_,_,_,S.cell 0 rfl rfl,?_⟩
 refine (schema_Lay_ok (l:=[]) (a:=none) (c:=0) (Rd.nil _ _) (by simp) (hl.grown S.bel) hn hq).mono ?_
 rintro _ w2 ⟨_,rfl,h2⟩
 have bad:∀ {wx:World} (e:Int),Below w.heap.size w wx→(segE cs (rws ps)=e)→e≠0→SegV cs (rws ps) (.tuple #[.string ⟨#[]⟩,.int .i64 e])∧Below w.heap.size w wx:=by
  rintro wx e B rfl h0
  refine⟨.inl ⟨fun hs=>h0 ?_,rfl,h0⟩,B⟩
  have h1:¬ (1024<(rws ps).length∨∃ r∈rws ps,fitsB cs r=false):=by
   rintro (h | ⟨r,hr,h⟩)
   ·have:=hs.len;omega
   ·rw [hs.fits r hr] at h;cases h
  have h2:¬ rightCols cs=false:=by rw [hs.right];decide
  rw [segE,if_neg h2,if_neg h1]
 rcases h2 with ⟨hR,rfl,B2⟩ | ⟨hR,a2',c2',rfl,h2⟩
 ·refine⟨_,_,_,_,rfl,(S.grown B2).newB fun b8 w3 _ _ S=>S.sto 0 rfl (by simp) rfl fun w4 S=>IFB_ne (fun _=>bad 50 S.bel ?_ (by decide)) (fun h=>by cases h)⟩
  rw [segE,if_pos hR]
 have hRn:¬ rightCols cs=false:=by rw [hR];decide
 rw [List.nil_append] at h2 ⊢
 have S:=stAddB S h2
 refine⟨_,_,_,_,rfl,S.newB fun b8 w3 _ _ S=>S.sto 0 rfl (cs':=#[.slice a2' (schL cs).length c2']) (by simp) rfl fun w4 S=>IFB_ne (fun h=>absurd rfl h) (fun _=>IFB_dec (fun h=>bad 51 S.bel ?_ (by decide)) (fun hlen=>?_))⟩
 ·have:1024<(rws ps).length:=by simp only [rws,List.length_map];omega
  rw [segE,if_neg hRn,if_pos (.inl this)]
 have hlen':ps.length≤1024:=by omega
 refine (ContainsRows_ok (S.cell 2 rfl rfl) (hl.grown S.bel) hn hq (hr.grown S.bel) (by omega)).mono ?_
 rintro _ w5 ⟨_,rfl,z,rfl,B5,hz⟩
 have S:=S.grown B5
 refine⟨_,rfl,IFB_of (fun h=>bad 51 S.bel ?_ (by decide)) (fun hz0=>?_)⟩
 ·obtain⟨r,hr,hf⟩:=hz.1 h
  rw [hR,Bool.true_and] at hf
  rw [segE,if_neg hRn,if_pos (.inr ⟨r,hr,hf⟩)]
 have hok:SegOk cs (rws ps):=by
  refine⟨hR,by simp only [rws,List.length_map];omega,fun r hr=>?_,hv⟩
  cases hf:fitsB cs r with
  | true=>rfl
  | false =>
   have:=hz.2 ⟨r,hr,by rw [hf,Bool.and_false]⟩
   rw [hz0] at this;cases this
 have hrl:∀ p∈ps,p.2.2.length=cs.length:=fun p hp=>hok.rowLen (List.mem_map.2 ⟨p,hp,rfl⟩)
 have hcl:=right_len hR
 have hsl:=schL_len hR
 have d1:=digitsL_len10 (n:=ps.length) (by omega)
 have hrd5:Rd w5 a2' ((schL cs).map byteV):=stRdB S 1 rfl
 rw [wrap_u64_id (by omega) (by omega)]
 refine⟨_,_,_,S.cell 0 rfl rfl,(wire_Number_ok (schL cs) hrd5 ps.length (by omega) (by omega)).mono ?_⟩
 rintro _ w6 ⟨_,rfl,a6,c6,rfl,h6⟩
 have S:=stAddB S h6
 refine⟨_,_,_,rfl,S.sto 1 rfl (cs':=#[.slice a6 (schL cs++digitsL ps.length).length c6]) (by simp) rfl fun w7 S=>S.newB fun b14 w8 hb14 _ S=>conv_lit und_B und_u8 (S.blk 0 rfl) fun w9 K9 hg9=>⟨_,_,_,rfl,?_⟩⟩
 have S:=S.chg 0 rfl (K9.mono fun k _ h=>by subst h;rfl) (bufI (some ⟨b14,0,none⟩) 4 magicB) (.inr ⟨_,rfl,rfl,Rd.of_block0 hg9,rfl,(Array.getElem?_eq_some_iff.1 hg9).1⟩) (fun k hk=>.inl hk)
 refine S.newB fun b17 w10 _ _ S=>S.sto 0 rfl (cs':=#[.slice (some ⟨b14,0,none⟩) 4 4]) (by simp) rfl fun w11 S=>⟨_,_,_,S.cell 5 rfl rfl,segment_byColumns_ok.mono ?_⟩
 rintro _ w12 ⟨_,rfl,q1,q2,rfl,P⟩
 have S:=S.join P
 refine⟨_,_,_,rfl,by kernel_rfl,fun rr hst hpe hy=>?_⟩
 have S:=S.range rr
 obtain⟨L,hL⟩:∃ L,L=w12.heap.size+1:=⟨_,rfl⟩
 obtain⟨d,hd⟩:∃ d,d=w12.heap.size:=⟨_,rfl⟩
 rw [← hL] at S hy ⊢
 rw [← hd] at S ⊢
 have S:=S.pull 6 rfl
 let Hq:Obj→Option Addr→Nat→List UInt8→Option Addr→Nat→List UInt8→List It:=fun o fa fc ft ba bc bb=>[bytesI fa fc ft,It.obj L o,It.obj d (.deferred (some [])),It.cells q2 #[.slice a2 ps.length c2] ty.L_api_Row,It.cells q1 #[.slice a cs.length c] ty.L_api_Column,
  It.cells b17 #[.slice ba bb.length bc] ty.L_uint8,bufI ba bc bb,It.cells b8 #[.slice fa ft.length fc] ty.L_uint8,bytesI a2' c2' (schL cs),It.cells b3 #[.slice a cs.length c] ty.L_api_Column]
 let J:Nat→World→Prop:=fun q wx=>∃(xs:List (List UInt8)) (fa:Option Addr) (fc:Nat) (ba:Option Addr) (bc:Nat),xs.length=q∧ChsIs cs (rws ps) xs ∧
  ST w wx (Hq (.loop rr) fa fc (schL cs++digitsL ps.length++footsL (rws ps) xs) ba bc (magicB++xs.flatten))
 have hcall:=byColumns_c1_ok (w:=(w12.alloc (.deferred (some []))).alloc (.loop rr)) (c:=c2) (L:=L) (b1:=q1) (b2:=q2) (a:=a2) (c2:=c) (a2:=a) (n:=cs.length) hn (by omega) hrl J (fun q wx hj=>by
   obtain⟨xs,fa,fc,ba,bc,_,_,S⟩:=hj
   exact⟨hr.grown S.bel,S.cell 3 rfl rfl⟩) (fun q wx wy hj B=>by
   obtain⟨xs,fa,fc,ba,bc,h1,h2,S⟩:=hj
   exact⟨xs,fa,fc,ba,bc,h1,h2,S.grown B⟩) (by
  rintro q wx la lc hqn ⟨xs,fa,fc,ba,bc,hxl,hch,S⟩ hla
  subst hxl
  have hg:=hok.good hqn
  have hfl:=hch.flat hok
  have hfo:=hch.foots hok
  obtain⟨⟨z1,z2⟩,z3,z4⟩:=hg.zone
  have hcol:(colOf (rws ps) xs.length).length=ps.length:=by rw [colOf_len];simp [rws]
  refine hy _ _ _ _ _ wx (S.get 1 rfl) ?_
  refine S.begrK 1 rfl fun w14 hk14 S=>?_
  obtain⟨p,hp,c0,c1,c2⟩:=col_at (hl.grown S.bel) hqn
  refine⟨_,_,_,S.cell 9 rfl rfl,⟨by omega,by omega⟩,?_⟩
  rw [hp]
  refine⟨_,by rw [Int.toNat_natCast];exact c1,?_⟩
  have hla14:=hk14 _ _ hla
  have hE:=chunk_Encode_ok (c:=lc) cs[xs.length].2.1 hla14 (by omega) hg.ok
  rw [hcol] at hE
  refine hE.mono ?_
  rintro _ w15 ⟨_,rfl,h15⟩
  rcases h15 with ⟨hno,_⟩ | ⟨_,x,xa,xc,hx,rfl,h15⟩
  ·rw [hg.right] at hno;cases hno
  have hxl:=hx.len hg
  have hx5:0<x.length:=by have:=(hx.read hg).2.1;omega
  have S:=stAddB S h15
  have hZ:=chunk_Zone_ok (c:=lc) (hla14.grown h15.bel)
  rw [hcol] at hZ
  refine⟨_,_,_,_,rfl,hZ.mono ?_⟩
  rintro _ w16 ⟨_,rfl,hzv,B16⟩
  rcases hzv with ⟨_,rfl⟩ | ⟨hno,_⟩
  case inr=>exact absurd hg.zoneOk hno
  have S:=S.grown B16
  refine⟨_,_,_,_,_,_,_,_,rfl,S.newB fun b39 w17 _ _ S=>S.sto7 0 rfl fun w24 S=>⟨_,_,_,S.cell 7 rfl rfl,?_⟩⟩
  have hrx:Rd w24 xa (x.map byteV):=stRdB S 1 rfl
  have hml:magicB.length=4:=rfl
  refine stAppF S 8 rfl hrx hx5 (by rw [List.length_append];omega) fun a25 c25 w25 S=>⟨_,_,_,rfl,S.sto 7 rfl (cs':=#[.slice a25 (magicB++xs.flatten++x).length c25]) (by simp) rfl fun w26 S=>S.draw fun w27 _ S=>⟨_,_,_,S.cell 9 rfl rfl,_,S.cell 0 rfl rfl,?_⟩⟩
  have hnl:nullsN (colOf (rws ps) xs.length)≤1024:=by have:=nullsN_le (colOf (rws ps) xs.length);omega
  obtain⟨ft,hft⟩:∃ ft,ft=schL cs++digitsL ps.length++footsL (rws ps) xs:=⟨_,rfl⟩
  rw [← hft] at S ⊢
  have hftl:ft.length≤40000:=by rw [hft];simp only [List.length_append];omega
  have hrf:Rd w27 fa (ft.map byteV):=stRdB S 2 rfl
  rw [wrap_u64_id (n:=(x.length:Int)) (by omega) (by omega)]
  refine (wire_Number_ok ft hrf x.length (by omega) (by omega)).mono ?_
  rintro _ w28 ⟨_,rfl,a28,c28,rfl,h28⟩
  have S:=stAddB S h28
  have e28:=digitsL_len10 (n:=x.length) (by omega)
  have e29:=digitsL_len10 (n:=nullsN (colOf (rws ps) xs.length)) (by omega)
  have e30:=layL_len z1 z2
  have e31:=layL_len z3 z4
  refine⟨_,_,_,rfl,S.cell 1 rfl rfl,?_⟩
  rw [wrap_u64_id (n:=((nullsN (colOf (rws ps) xs.length):Nat):Int)) (by omega) (by omega)]
  refine (wire_Number_ok _ h28.rd (nullsN (colOf (rws ps) xs.length)) (by omega) (by rw [List.length_append];omega)).mono ?_
  rintro _ w29 ⟨_,rfl,a29,c29,rfl,h29⟩
  have S:=stAddB S h29
  refine⟨_,_,_,rfl,S.sto 11 rfl (cs':=#[.slice a29 (ft++digitsL x.length++digitsL (nullsN (colOf (rws ps) xs.length))).length c29]) (by simp) rfl fun w30 S=>⟨_,_,_,S.cell 11 rfl rfl,_,S.cell 2 rfl rfl,_,S.cell 2 rfl rfl,_,S.cell 2 rfl rfl,?_⟩⟩
  have hr30:Rd w30 a29 ((ft++digitsL x.length++digitsL (nullsN (colOf (rws ps) xs.length))).map byteV):=stRdB S 0 rfl
  refine (value_Lay_ok _ hr30 (zmm (colOf (rws ps) xs.length)).1 z2 (by simp only [List.length_append];omega)).mono ?_
  rintro _ w31 ⟨_,rfl,h31⟩
  obtain⟨a31,c31,rfl,n31⟩:=lay_good z1 h31
  have S:=stAddB S n31
  refine⟨_,_,_,_,rfl,S.sto 12 rfl (cs':=#[.slice a31 (ft++digitsL x.length++digitsL (nullsN (colOf (rws ps) xs.length))++layL (zmm (colOf (rws ps) xs.length)).1).length c31]) (by simp) rfl fun w32 S=>⟨_,_,_,S.cell 12 rfl rfl,_,S.cell 3 rfl rfl,_,S.cell 3 rfl rfl,_,S.cell 3 rfl rfl,?_⟩⟩
  have hr32:Rd w32 a31 ((ft++digitsL x.length++digitsL (nullsN (colOf (rws ps) xs.length))++layL (zmm (colOf (rws ps) xs.length)).1).map byteV):=stRdB S 0 rfl
  refine (value_Lay_ok _ hr32 (zmm (colOf (rws ps) xs.length)).2 z4 (by simp only [List.length_append];omega)).mono ?_
  rintro _ w33 ⟨_,rfl,h33⟩
  obtain⟨a33,c33,rfl,n33⟩:=lay_good z3 h33
  have S:=stAddB S n33
  have efoot:ft++digitsL x.length++digitsL (nullsN (colOf (rws ps) xs.length))++layL (zmm (colOf (rws ps) xs.length)).1++layL (zmm (colOf (rws ps) xs.length)).2=schL cs++digitsL ps.length++footsL (rws ps) (xs++[x]):=by
   rw [footsL_snoc,hft]
   simp [footC]
  have ebody:magicB++xs.flatten++x=magicB++(xs++[x]).flatten:=by simp
  rw [efoot] at S ⊢
  rw [ebody] at S
  refine⟨_,_,_,_,rfl,S.sto 13 rfl (cs':=#[.slice a33 (schL cs++digitsL ps.length++footsL (rws ps) (xs++[x])).length c33]) (by simp) rfl fun w34 S=>S.endr0 7 hst hpe rfl fun w' S=>⟨rfl,xs++[x],a33,c33,a25,c25,by simp,hch.snoc hqn hx,?_⟩⟩
  exact (stToBuf S 12 rfl).keep 6) ⟨[],a6,c6,some ⟨b14,0,none⟩,4,rfl,ChsIs.nil _ _,by
   have e1:schL cs++digitsL ps.length++footsL (rws ps) []=schL cs++digitsL ps.length:=by simp [footsL]
   have e2:magicB++([]:List (List UInt8)).flatten=magicB:=by simp
   rw [e1,e2]
   exact S⟩ (S.cell 4 rfl rfl)
 refine hcall.mono ?_
 rintro _ w35 ⟨_,rfl,xs,fa,fc,ba,bc,hxl,hch,S⟩
 refine⟨⟨_,rfl⟩,S.endl0 1 hst hpe rfl fun w36 S=>⟨rfl,S.draw fun w37 _ S=>⟨_,_,_,S.cell 5 rfl rfl,_,_,_,S.cell 7 rfl rfl,_,_,_,S.cell 7 rfl rfl,?_⟩⟩⟩
 have hfl:=hch.flat hok
 have hfo:=hch.footLen hok
 have hpl:=hch.preLen hok
 have efl:schL cs++digitsL ps.length++footsL (rws ps) xs=footL cs (rws ps) xs:=by
  unfold footL
  rw [show (rws ps).length=ps.length by simp [rws]]
 rw [efl] at S ⊢
 obtain⟨ft,hft⟩:∃ ft,ft=footL cs (rws ps) xs:=⟨_,rfl⟩
 rw [← hft] at S hfo ⊢
 obtain⟨bb,hbb⟩:∃ bb,bb=magicB++xs.flatten:=⟨_,rfl⟩
 rw [← hbb] at S ⊢
 refine (segment_low_ok ft.length (by omega)).mono ?_
 rintro _ w38 ⟨_,rfl,blo,rfl,h38⟩
 have S:=stAddB S h38
 refine⟨_,_,_,rfl,S.cell 8 rfl rfl,S.cell 6 rfl rfl,S.newB fun b69 w39 _ _ S=>?_⟩
 have hrb:Rd w39 ba (bb.map byteV):=S.rdF 8 rfl
 have hrf:Rd w39 fa (ft.map byteV):=stRdB S 2 rfl
 have hrl2:Rd w39 (some ⟨blo,0,none⟩) ((lowB ft.length).map byteV):=stRdB S 1 rfl
 have hp39:Rd w39 (some ⟨b69,0,none⟩) ([(ba,bc,bb),(fa,fc,ft),(some ⟨blo,0,none⟩,4,lowB ft.length)].map partV1):=S.rdc 0 rfl
 have ebl:bb.length≤33000004:=by rw [hbb];simp only [List.length_append,magicB,List.length_cons,List.length_nil];omega
 refine (slices_Concat_ok (c:=3) [(ba,bc,bb),(fa,fc,ft),(some ⟨blo,0,none⟩,4,lowB ft.length)] hp39 (by
   intro p hp
   simp only [List.mem_cons,List.not_mem_nil,or_false] at hp
   rcases hp with rfl | rfl | rfl
   ·exact hrb
   ·exact hrf
   ·exact hrl2) (by simp) (by rw [flat3];simp only [List.length_append,lowB,List.length_cons,List.length_nil];omega)).mono ?_
 rintro _ w40 ⟨_,rfl,a40,c40,rfl,h40⟩
 have epre:flatB [(ba,bc,bb),(fa,fc,ft),(some ⟨blo,0,none⟩,4,lowB ft.length)]=preL cs (rws ps) xs:=by
  rw [flat3,hbb,hft]
  simp [preL]
 rw [epre] at h40 ⊢
 have S:=stAddB S h40
 obtain⟨pre,hpre⟩:∃ pre,pre=preL cs (rws ps) xs:=⟨_,rfl⟩
 rw [← hpre] at S hpl ⊢
 refine⟨_,_,_,rfl,S.sto 8 rfl (cs':=#[.slice a40 pre.length c40]) (by simp) rfl fun w41 S=>⟨_,_,_,S.cell 8 rfl rfl,S.newB fun b73 w42 _ _ S=>?_⟩⟩
 have hr42:Rd w42 a40 (pre.map byteV):=stRdB S 1 rfl
 have hp42:Rd w42 (some ⟨b73,0,none⟩) ([(a40,c40,pre)].map partV1):=S.rdc 0 rfl
 have e42:flatB [(a40,c40,pre)]=pre:=by simp [flatB]
 refine (hash_Sum_ok (c:=1) (T.grown S.bel) [(a40,c40,pre)] hp42 (by
   intro p hp
   simp only [List.mem_cons,List.not_mem_nil,or_false] at hp
   subst hp
   exact hr42) (by simp) (by rw [e42];omega)).mono ?_
 rw [e42]
 rintro _ w43 ⟨_,rfl,rfl,B43⟩
 have S:=S.grown B43
 have hdl:(digP pre).length=32:=digP_len _
 obtain⟨dg,hdg⟩:∃ dg,dg=digP pre:=⟨_,rfl⟩
 rw [← hdg] at hdl ⊢
 refine LIKEL_by (dg) hdl ⟨rfl,?_⟩
 refine S.newB fun b76 w44 _ _ S=>?_
 have hdm:((dg).map byteV).length=32:=by rw [List.length_map];exact hdl
 refine BIF_len hdm ?_
 refine S.stoAll 0 rfl hdm (bytes_one _) fun w45 S=>?_
 refine S.draw fun w46 _ S=>?_
 refine⟨⟨by omega,by omega,by omega⟩,_,_,_,S.cell 10 rfl rfl,?_⟩
 have hr46:Rd w46 (SLA (some ⟨b76,0,none⟩) 0 32 1) ((dg).map byteV):=by
  have h:=(S.rdc 0 rfl).sla 0 32 32 1 (by omega)
  have e:(List.take ((32-0)*1) (List.drop (0*1) ((dg).map byteV)))=(dg).map byteV:=by
   rw [Nat.zero_mul,List.drop_zero]
   exact List.take_of_length_le (by rw [List.length_map];omega)
  have h':Rd w46 (SLA (some ⟨b76,0,none⟩) 0 32 1) (List.take ((32-0)*1) (List.drop (0*1) ((dg).map byteV))):=h
  rwa [e] at h'
 refine stAppK S 2 rfl hdl hr46 (by omega) fun a47 c47 w47 S=>⟨_,_,_,rfl,?_⟩
 have hr47:Rd w47 a47 ((pre++dg).map byteV):=stRdB S 2 rfl
 refine string_of_bytes tbytes rfl hr47 ⟨_,rfl,S.get 7 rfl,.inr ⟨hok,_,rfl,⟨xs,hxl,hch,?_⟩⟩,(S.put 7 rfl _).bel⟩
 rw [sealD,hdg,hpre]
end
def rowI(p:RowP):It:=valsI p.1 p.2.1 p.2.2
def gridH(bo:Nat)(ps:List RowP):List It:=It.cells bo ⟨ps.map rowV1⟩ ty.api_Row :: ps.map rowI
theorem tRow:slT Tryz.prog ty.api_Row=some (ty.api_Value,3,32,.agg #[.int .i64 0,.int .i64 0,.string ⟨#[]⟩]):=by kernel_rfl
theorem tRows:slT Tryz.prog ty.L_api_Row=some (ty.api_Row,1,24,.slice none 0 0):=by kernel_rfl
section
variable {w0 w:World}{E:List It}{bo:Nat}{ps:List RowP}
theorem grid_cell(S:ST w0 w (E++gridH bo ps)){i:Nat}(hi:i<ps.length):w.cell? ((⟨bo,0,none⟩:Addr).add (i*1))=some (.slice ps[i].1 ps[i].2.2.length ps[i].2.1):=by
 rw [addr_add_blk,Nat.zero_add,Nat.mul_one]
 refine S.cell E.length (cs:=⟨ps.map rowV1⟩) (t:=ty.api_Row) ?_ ?_
 ·rw [List.getElem?_append_right (Nat.le_refl _),Nat.sub_self]
  rfl
 ·rw [← Array.getElem?_toList]
  show (ps.map rowV1)[i]?=_
  rw [List.getElem?_map,List.getElem?_eq_getElem hi]
  rfl
theorem grid_app(S:ST w0 w (E++gridH bo ps)){i:Nat}(hi:i<ps.length){x:Val}{b:Nat}(hs:Rd w (some ⟨b,0,none⟩) (valC x))(hl:ps[i].2.2.length+1≤1000000){f:Value→World→Prop}
  (hf:∀ a' c' w',(∀ k:World→Prop,(∀ w'',ST w0 w'' (E++gridH bo (ps.set i (a',c',ps[i].2.2++[x])))→k w'')→STO ((⟨bo,0,none⟩:Addr).add (i*1)) (.slice a' (ps[i].2.2++[x]).length c') k w')→f (.slice a' (ps[i].2.2++[x]).length c') w') :
  OPR Tryz.prog (Builtin.append_ #[ty.api_Row,ty.api_Row] ty.api_Row #[.slice ps[i].1 ps[i].2.2.length ps[i].2.1,.slice (some ⟨b,0,none⟩) 1 1]) f w:=by
 have hn:(E++gridH bo ps)[E.length+(i+1)]?=some (valsI ps[i].1 ps[i].2.1 ps[i].2.2):=by
  rw [List.getElem?_append_right (by omega),Nat.add_sub_cancel_left]
  show (ps.map rowI)[i]?=_
  rw [List.getElem?_map,List.getElem?_eq_getElem hi]
  rfl
 refine stAppV S (E.length+(i+1)) tRow hn hs hl fun a' c' w' S'=>hf a' c' w' fun k hk=>?_
 rw [addr_add_blk,Nat.zero_add,Nat.mul_one]
 have e1:(E++gridH bo ps).set (E.length+(i+1)) (valsI a' c' (ps[i].2.2++[x]))=E++(It.cells bo ⟨ps.map rowV1⟩ ty.api_Row :: (ps.set i (a',c',ps[i].2.2++[x])).map rowI):=by
  rw [List.set_append_right _ _ (by omega),Nat.add_sub_cancel_left]
  show E++(_ :: (ps.map rowI).set i _)=_
  rw [List.map_set]
  rfl
 rw [e1] at S'
 refine S'.sto E.length (cs:=⟨ps.map rowV1⟩) (cs':=⟨(ps.set i (a',c',ps[i].2.2++[x])).map rowV1⟩) (t:=ty.api_Row) ?_ (by show i<(ps.map rowV1).length;simpa using hi) ?_ fun w'' S''=>hk w'' ?_
 ·rw [List.getElem?_append_right (Nat.le_refl _),Nat.sub_self]
  rfl
 ·apply Array.ext'
  rw [Array.toList_setIfInBounds,List.map_set]
  rfl
 ·rw [List.set_append_right _ _ (Nat.le_refl _),Nat.sub_self] at S''
  exact S''
theorem grid_rows(S:ST w0 w (E++gridH bo ps)):RowsAt w (some ⟨bo,0,none⟩) ps:=by
 refine⟨?_,fun p hp=>?_⟩
 ·have hg:w.heap[bo]?=some (.cells ⟨ps.map rowV1⟩ ty.api_Row (0,0)):=S.ok (It.cells bo ⟨ps.map rowV1⟩ ty.api_Row) (by simp [gridH])
  exact Rd.of_block0 hg
 ·have:(rowI p).ok w:=S.ok _ (List.mem_append_right _ (List.mem_cons_of_mem _ (List.mem_map.2 ⟨p,hp,rfl⟩)))
  exact Row.rd this
theorem grid_made(S:ST w0 w E){w':World}(n:Nat)(hb:w.heap.size≤bo)(B:Below w.heap.size w w')(hg:w'.heap[bo]?=some (.cells (madeCells (Value.slice none 0 0).cells (n*1)) ty.api_Row (0,0))):ST w0 w' (gridH bo (List.replicate n (none,0,[]))++E):=by
 have e:madeCells (Value.slice none 0 0).cells (n*1)=⟨(List.replicate n ((none,0,[]):RowP)).map rowV1⟩:=by
  apply Array.ext'
  rw [madeCells_one _ rfl,Nat.mul_one,List.map_replicate]
  rfl
 rw [e] at hg
 have S1:∀ m,ST w0 w' ((List.replicate m ((none,0,[]):RowP)).map rowI++E):=by
  intro m
  induction m with
  | zero=>exact S.grown B
  | succ m ih=>rw [List.replicate_succ];exact ih.nil _ _
 have nn:∀ k,(It.cells bo ⟨(List.replicate n ((none,0,[]):RowP)).map rowV1⟩ ty.api_Row).blk=some k→∀ y∈(List.replicate n ((none,0,[]):RowP)).map rowI++E,y.blk≠some k:=by
  intro k hk y hy hyk
  have hk':bo=k:=Option.some.inj hk
  rcases List.mem_append.1 hy with h | h
  ·obtain⟨p,hp,rfl⟩:=List.mem_map.1 h
   rw [(List.mem_replicate.1 hp).2] at hyk
   cases hyk
  ·have:=y.lt w (S.ok y h) k hyk
   omega
 refine⟨(S1 n).bel,fun x hx=>?_,List.pairwise_cons.2 ⟨fun y hy k hk=>nn k hk y hy,(S1 n).nd⟩,fun x hx k hk=>?_⟩
 ·rcases List.mem_cons.1 hx with rfl | hx
  ·exact hg
  ·exact (S1 n).ok x hx
 ·rcases List.mem_cons.1 hx with rfl | hx
  ·have hk':bo=k:=Option.some.inj hk
   have:=S.bel.size
   omega
  ·exact (S1 n).own x hx k hk
end
def rowAt(cols:List (List Val))(r:Nat):List Val:=cols.map fun l=>l.getD r Z0
def rowsOf(cols:List (List Val))(n:Nat):List (List Val):=(List.range n).map (rowAt cols)
theorem rowAt_snoc(cps:List RowP){j:Nat}(hj:j<cps.length){r:Nat}(hr:r<cps[j].2.2.length):rowAt (rws (cps.take (j+1))) r=rowAt (rws (cps.take j)) r++[cps[j].2.2[r]]:=by
 unfold rowAt rws
 rw [List.take_succ_eq_append_getElem hj,List.map_append,List.map_append]
 simp only [List.map_cons,List.map_nil,List.getD,List.getElem?_eq_getElem hr,Option.getD_some]
theorem rows_ext{ps:List RowP}{n:Nat}{cols:List (List Val)}(hl:ps.length=n)(h:∀ r (hr:r<ps.length),ps[r].2.2=rowAt cols r):rws ps=rowsOf cols n:=by
 refine List.ext_getElem (by simp [rowsOf,hl]) fun r h1 h2=>?_
 simp only [rws,List.getElem_map,rowsOf,List.getElem_range]
 exact h r (by simpa using h1)
section
variable {w:World}{p:Addr}{n:Nat}{cps:List RowP}{va:Option Addr}{vc:Nat}
theorem all_ok(h3:w.cell? (p.add 3)=some (.int .i64 (n:Int)))(h1:w.cell? (p.add 1)=some (.slice va cps.length vc))(hv:RowsAt w va cps)(hn:n≤4096)(hc:cps.length≤1000)(hl:∀ q∈cps,q.2.2.length=n) :
  Calls Tryz.prog f.segment_columns_all #[.pointer (some p)] w (Ret fun v w'=>∃ bo ps,v=.slice (some ⟨bo,0,none⟩) n n∧ps.length=n∧rws ps=rowsOf (rws cps) n∧RowsAt w' (some ⟨bo,0,none⟩) ps∧Below w.heap.size w w'):=by
 apply R.segment_columns_all_calls
 unfold R.segment_columns_all
 refine⟨_,h3,make_new tRows (l:=(n:Int)) (c:=(n:Int)) (by omega) (by omega) (by omega) (by omega) fun bo w1 hbo B1 hO1=>?_⟩
 rw [Int.toNat_natCast] at hO1 ⊢
 have S:=grid_made (ST.start w) n hbo B1 hO1
 rw [List.append_nil] at S
 refine⟨_,_,_,rfl,fun s w2=>∃(i:Nat) (ps:List RowP),s=[.int .i64 (i:Int)]∧i≤n∧ps.length=n∧(∀ r (hr:r<ps.length),ps[r].2.2=if r<i then rowAt (rws cps) r else [])∧ST w w2 ([]++gridH bo ps),fun s _=>match s with
   | [.int _ i]=>n-i.toNat
   | _=>0,⟨0,_,rfl,by omega,by simp,fun r hr=>by simp,S⟩,?_⟩
 rintro _ w2 ⟨i,ps,hst,hi,hpl,hrow,S⟩
 cases hst
 refine IFB_dec (fun hlt=>?_) (fun hge=>⟨bo,ps,rfl,hpl,rows_ext hpl fun r hr=>by rw [hrow r hr,if_pos (by omega)],grid_rows S,S.bel⟩)
 have hin:i<n:=by omega
 have K:=Keeps.of_below (F:=fun _=>False) S.bel
 refine⟨_,_,_,K.cell h1 (by simp),?_⟩
 refine⟨fun s w3=>∃(j:Nat) (ps:List RowP),s=[.int .i64 (j:Int)]∧j≤cps.length∧ps.length=n∧(∀ r (hr:r<ps.length),ps[r].2.2=if r<i then rowAt (rws cps) r else if r=i then rowAt (rws (cps.take j)) r else [])∧ST w w3 ([]++gridH bo ps),fun s _=>match s with
   | [.int _ j]=>cps.length-j.toNat
   | _=>0,⟨0,ps,rfl,by omega,hpl,fun r hr=>by rw [hrow r hr];simp [rowAt],S⟩,?_⟩
 clear hrow S hpl ps K
 rintro _ w3 ⟨j,ps,hst,hj,hpl,hrow,S⟩
 cases hst
 refine IFB_dec (fun hlt=>⟨⟨by omega,hlt⟩,?_⟩) (fun hge=>?_)
 ·have hjl:j<cps.length:=by omega
  have hlen:=hl _ (List.getElem_mem hjl)
  obtain⟨q,hq,hcell,hval⟩:=(hv.grown S.bel).at hjl
  rw [hq]
  refine⟨_,_,_,by rw [Int.toNat_natCast];exact hcell,S.draw fun w4 B4 S=>?_⟩
  have hip:i<ps.length:=by omega
  obtain⟨q2,hq2,d0,d1,d2⟩:=val_at (hval.grown B4) (i:=i) (by omega)
  have hgc:=grid_cell S hip
  refine⟨⟨by omega,by omega⟩,⟨by omega,by omega⟩,?_⟩
  rw [hq2]
  refine⟨_,_,_,by rw [Int.toNat_natCast];exact hgc,_,by rw [Int.toNat_natCast];exact d0,_,by rw [Int.toNat_natCast];exact d1,_,by rw [Int.toNat_natCast];exact d2,S.newB fun b20 w5 _ _ S=>?_⟩
  have S':ST w w5 ([It.cells b20 (valC (cps[j].2.2[i]'(by omega))).toArray ty.api_Value]++gridH bo ps):=S
  have hgc5:=grid_cell S' hip
  have hri:ps[i].2.2=rowAt (rws (cps.take j)) i:=by rw [hrow i hip];simp
  have hrl:ps[i].2.2.length=j:=by rw [hri];simp [rowAt,rws];omega
  refine⟨by rw [Int.toNat_natCast];exact hgc5,?_⟩
  have hsrc:Rd w5 (some ⟨b20,0,none⟩) (valC (cps[j].2.2[i]'(by omega))):=S'.rdc 0 rfl
  refine grid_app S' hip hsrc (by omega) fun a6 c6 w6 hk=>⟨_,_,_,rfl,⟨by omega,by omega⟩,?_⟩
  rw [Int.toNat_natCast]
  unfold PTR
  simp only
  refine hk _ fun w7 S=>?_
  rw [wrap_succ (by omega)]
  refine⟨⟨j+1,ps.set i (a6,c6,ps[i].2.2++[cps[j].2.2[i]'(by omega)]),rfl,by omega,by rw [List.length_set];exact hpl,fun r hr=>?_,S.drop 1⟩,?_⟩
  ·rw [List.length_set] at hr
   rw [List.getElem_set]
   by_cases hri2:i=r
   ·subst hri2
    simp only [if_true,Nat.lt_irrefl,if_false]
    rw [rowAt_snoc cps hjl (by omega),hri]
   ·rw [if_neg hri2,hrow r hr]
    by_cases h5:r<i
    ·rw [if_pos h5,if_pos h5]
    ·rw [if_neg h5,if_neg h5,if_neg (fun h=>hri2 h.symm),if_neg (fun h=>hri2 h.symm)]
  ·show cps.length-((j+1:Nat):Int).toNat<cps.length-((j:Nat):Int).toNat
   simp only [Int.toNat_natCast]
   omega
 ·rw [wrap_succ (by omega)]
  refine⟨⟨i+1,ps,rfl,by omega,hpl,fun r hr=>?_,S⟩,?_⟩
  ·rw [hrow r hr,List.take_of_length_le (by omega)]
   by_cases h5:r<i
   ·rw [if_pos h5,if_pos (by omega)]
   ·by_cases h6:r=i
    ·rw [if_neg h5,if_pos h6,if_pos (by omega)]
    ·rw [if_neg h5,if_neg h6,if_neg (by omega)]
  ·show n-((i+1:Nat):Int).toNat<n-((i:Nat):Int).toNat
   simp only [Int.toNat_natCast]
   omega
end
def takeFoots(lim:Nat)(l:List UInt8)(at_:Nat):Nat→Option (List Nat × Nat)
 | 0=>some ([],at_)
 | k+1=>match takeN l (at_:Int) with
  | none=>none
  | some x=>match takeN l (x.2:Int) with
   | none=>none
   | some y=>match takeV l (y.2:Int) with
    | none=>none
    | some u=>match takeV l (u.2:Int) with
     | none=>none
     | some v=>if lim<x.1 then none else (takeFoots lim l v.2 k).map fun r=>(x.1 :: r.1,r.2)
def takePl(lim:Nat)(l:List UInt8)(at_:Int)(n:Nat):Option (Nat × List Nat) :=
 match takeN l at_ with
 | none=>none
 | some x=>if 1024<x.1 then none else (takeFoots lim l x.2 n).map fun r=>(x.1,r.1)
def intsI(a:Option Addr)(c:Nat)(ns:List Nat):It:=It.row ty.int 1 a ns.length c (ns.map fun n:Nat=>Value.int .i64 (n:Int))
theorem tInts:slT Tryz.prog ty.L_int=some (ty.int,1,8,.int .i64 0):=by kernel_rfl
theorem stAppN{w0 w:World}{H:List It}{a:Option Addr}{c:Nat}{ns:List Nat}(S:ST w0 w H)(n:Nat)(hn:H[n]?=some (intsI a c ns)){x:Nat}{b:Nat}(hs:Rd w (some ⟨b,0,none⟩) [Value.int .i64 (x:Int)])(hl:ns.length+1≤1000000){f:Value→World→Prop}
  (hf:∀ a' c' w',ST w0 w' (H.set n (intsI a' c' (ns++[x])))→f (.slice a' (ns++[x]).length c') w') :
  OPR Tryz.prog (Builtin.append_ #[ty.L_int,ty.L_int] ty.L_int #[.slice a ns.length c,.slice (some ⟨b,0,none⟩) 1 1]) f w:=by
 refine S.app n hn tInts rfl (by omega) (by omega) hs (mm:=1) rfl (by simp;rfl) (by omega) fun a' c' w' S'=>?_
 have e1:(ns++[x]).length=ns.length+1:=by simp
 have e2:(ns.map fun n:Nat=>Value.int .i64 (n:Int))++[Value.int .i64 (x:Int)]=(ns++[x]).map fun n:Nat=>Value.int .i64 (n:Int):=by simp
 rw [e2] at S'
 have:=hf a' c' w' (by unfold intsI;rw [e1];exact S')
 rwa [e1] at this
theorem num_open{l:List UInt8}{at_:Int}(o:Option (Nat × Nat))(h:takeN l at_=o):∃(n k:Nat) (e:Int),numV o=.tuple #[.int .u64 (n:Int),.int .i64 (k:Int),.int .i64 e]∧k≤l.length∧n<18446744073709551616∧((e=0∧o=some (n,k))∨(e≠0∧o=none)):=by
 cases o with
 | none=>exact⟨0,0,20,rfl,by omega,by omega,.inr ⟨by decide,rfl⟩⟩
 | some x =>
  have:=takeN_bounds (n:=x.1) (k:=x.2) h
  exact⟨x.1,x.2,0,rfl,by omega,by omega,.inl ⟨rfl,rfl⟩⟩
theorem takeV_le{l:List UInt8}{at_:Int}{v:Val}{k:Nat}(h:takeV l at_=some (v,k)):k≤l.length:=by
 unfold takeV at h
 split at h
 ·cases h
 ·rename_i hb
  simp only at h
  split at h
  ·cases h;omega
  ·split at h
   ·obtain⟨x,hx,he⟩:=Option.map_eq_some_iff.1 h
    have:=takeN_bounds (n:=x.1) (k:=x.2) hx
    cases he
    omega
   ·split at h
    ·split at h
     ·rename_i h2;cases h;omega
     ·cases h
    ·split at h
     ·obtain⟨x,hx,he⟩:=Option.map_eq_some_iff.1 h
      have:=takeT_le (s:=x.1) (k:=x.2) hx
      cases he
      omega
     ·cases h
theorem val_open{l:List UInt8}{at_:Int}(o:Option (Val × Nat))(h:takeV l at_=o):∃(v:Val) (k:Nat) (e:Int),takenV o=.tuple #[.agg #[.int .i64 v.1,.int .i64 v.2.1,.string v.2.2],.int .i64 (k:Int),.int .i64 e]∧k≤l.length∧((e=0∧o=some (v,k))∨(e≠0∧o=none)):=by
 cases o with
 | none=>exact⟨Z0,0,20,rfl,by omega,.inr ⟨by decide,rfl⟩⟩
 | some x=>exact⟨x.1,x.2,0,rfl,takeV_le (v:=x.1) (k:=x.2) h,.inl ⟨rfl,rfl⟩⟩
def PlV(o:Option (Nat × List Nat))(w w':World)(v:Value):Prop :=
 match o with
 | none=>v=.tuple #[.int .i64 0,.slice none 0 0,.bool false]∧Below w.heap.size w w'
 | some r=>∃ a c,v=.tuple #[.int .i64 (r.1:Int),.slice a r.2.length c,.bool true]∧ST w w' [intsI a c r.2]
theorem PlV.bad{o:Option (Nat × List Nat)}{w w':World}(h:o=none)(B:Below w.heap.size w w'):PlV o w w' (.tuple #[.int .i64 0,.slice none 0 0,.bool false]):=by
 subst h
 exact⟨rfl,B⟩
section
variable {w:World}{a:Option Addr}{c:Nat}{l:List UInt8}
theorem segment_places_ok(hl:Rd w a (l.map byteV))(hc:l.length≤c)(hs:l.length≤140737488355328)(at_:Int)(n:Nat)(hn:n≤1000) :
  Calls Tryz.prog f.segment_places #[.slice a l.length c,.int .i64 at_,.int .i64 (n:Int)] w (Ret fun v w'=>PlV (takePl 1073741824 l at_ n) w w' v):=by
 apply R.segment_places_calls
 unfold R.segment_places
 refine (wire_TakeNumber_ok hl hc (by omega) at_ ).mono ?_
 rintro _ w1 ⟨_,rfl,rfl,rfl⟩
 obtain⟨r0,at0,e0,hv0,hk0,hr0,hx0⟩:=num_open _ (rfl:takeN l at_=takeN l at_)
 rw [hv0]
 have hbad:takeN l at_=none→takePl 1073741824 l at_ n=none:=fun h=>by simp [takePl,h]
 refine⟨_,_,_,rfl,IFB_ne (fun h=>.bad ?_ (.refl _ _)) (fun he0=>?_)⟩
 ·rcases hx0 with ⟨h2,_⟩ | ⟨_,h2⟩
  ·exact absurd h2 h
  ·exact hbad h2
 have hx0':takeN l at_=some (r0,at0):=by
  rcases hx0 with ⟨_,h2⟩ | ⟨h2,_⟩
  ·exact h2
  ·exact absurd he0 h2
 refine IFB_dec (fun h=>.bad ?_ (.refl _ _)) (fun h24=>?_)
 ·have:1024<r0:=by omega
  simp [takePl,hx0',this]
 have hT:takePl 1073741824 l at_ n=(takeFoots 1073741824 l at0 n).map fun r=>(r0,r.1):=by
  have:¬ 1024<r0:=by omega
  simp [takePl,hx0',this]
 rw [hT]
 refine⟨fun s w2=>∃(i at1:Nat) (ns:List Nat) (na:Option Addr) (nc:Nat),s=[.int .i64 (at1:Int),.slice na ns.length nc,.int .i64 (i:Int)]∧i≤n∧ns.length=i∧at1≤l.length ∧
   takeFoots 1073741824 l at0 n=((takeFoots 1073741824 l at1 (n-i)).map fun r=>(ns++r.1,r.2))∧ST w1 w2 [intsI na nc ns],fun s _=>match s with
  | [_,_,.int _ i]=>n-i.toNat
  | _=>0,⟨0,at0,[],none,0,rfl,by omega,rfl,by omega,by simp,(ST.start w1).nil _ _⟩,?_⟩
 rintro _ na _ nc _ w2 ⟨i,at1,ns,_,_,hst,hi,hni,hat,hrel,S⟩
 cases hst
 refine IFB_dec (fun hlt=>?_) (fun hge=>?_)
 ·obtain⟨m,hm⟩:∃ m,n-i=m+1:=⟨n-i-1,by omega⟩
  rw [hm] at hrel
  have hl2:=hl.grown S.bel
  refine (wire_TakeNumber_ok hl2 hc (by omega) (at1:Int) ).mono ?_
  rintro _ w2 ⟨_,rfl,rfl,rfl⟩
  obtain⟨x1,x2,e1,hv1,hk1,hr1,hx1⟩:=num_open _ (rfl:takeN l (at1:Int)=takeN l (at1:Int))
  rw [hv1]
  refine⟨_,_,_,rfl,(wire_TakeNumber_ok hl2 hc (by omega) (x2:Int) ).mono ?_⟩
  rintro _ w2 ⟨_,rfl,rfl,rfl⟩
  obtain⟨y1,y2,e2,hv2,hk2,hr2,hx2⟩:=num_open _ (rfl:takeN l (x2:Int)=takeN l (x2:Int))
  rw [hv2]
  refine⟨_,_,_,rfl,(value_Take_ok hl2 hc hs (y2:Int)).mono ?_⟩
  rintro _ w5 ⟨_,rfl,rfl,B5⟩
  have S:=S.grown B5
  obtain⟨u1,u2,e3,hv3,hk3,hx3⟩:=val_open _ (rfl:takeV l (y2:Int)=takeV l (y2:Int))
  rw [hv3]
  refine⟨_,_,_,_,_,rfl,S.lit3 fun b26 w9 _ S=>(value_Take_ok (hl.grown S.bel) hc hs (u2:Int)).mono ?_⟩
  rintro _ w10 ⟨_,rfl,rfl,B10⟩
  have S:=S.grown B10
  obtain⟨v1,v2,e4,hv4,hk4,hx4⟩:=val_open _ (rfl:takeV l (u2:Int)=takeV l (u2:Int))
  rw [hv4]
  refine⟨_,_,_,_,_,rfl,S.lit3 fun b33 w14 _ S=>?_⟩
  have fail:takeFoots 1073741824 l at1 (m+1)=none→((takeFoots 1073741824 l at0 n).map fun r=>(r0,r.1))=none:=fun h=>by rw [hrel,h];rfl
  refine IFB_ne (fun h=>.bad (fail ?_) S.bel) (fun h1=>?_)
  ·rcases hx1 with ⟨h2,_⟩ | ⟨_,h2⟩
   ·exact absurd h2 h
   ·simp [takeFoots,h2]
  have g1:takeN l (at1:Int)=some (x1,x2):=by
   rcases hx1 with ⟨_,h2⟩ | ⟨h2,_⟩
   ·exact h2
   ·exact absurd h1 h2
  refine IFB_ne (fun h=>.bad (fail ?_) S.bel) (fun h1=>?_)
  ·rcases hx2 with ⟨h2,_⟩ | ⟨_,h2⟩
   ·exact absurd h2 h
   ·simp [takeFoots,g1,h2]
  have g2:takeN l (x2:Int)=some (y1,y2):=by
   rcases hx2 with ⟨_,h2⟩ | ⟨h2,_⟩
   ·exact h2
   ·exact absurd h1 h2
  refine IFB_ne (fun h=>.bad (fail ?_) S.bel) (fun h1=>?_)
  ·rcases hx3 with ⟨h2,_⟩ | ⟨_,h2⟩
   ·exact absurd h2 h
   ·simp [takeFoots,g1,g2,h2]
  have g3:takeV l (y2:Int)=some (u1,u2):=by
   rcases hx3 with ⟨_,h2⟩ | ⟨h2,_⟩
   ·exact h2
   ·exact absurd h1 h2
  refine IFB_ne (fun h=>.bad (fail ?_) S.bel) (fun h1=>?_)
  ·rcases hx4 with ⟨h2,_⟩ | ⟨_,h2⟩
   ·exact absurd h2 h
   ·simp [takeFoots,g1,g2,g3,h2]
  have g4:takeV l (u2:Int)=some (v1,v2):=by
   rcases hx4 with ⟨_,h2⟩ | ⟨h2,_⟩
   ·exact h2
   ·exact absurd h1 h2
  refine IFB_dec (fun h=>.bad (fail ?_) S.bel) (fun hlim=>?_)
  ·have:1073741824<x1:=by omega
   simp [takeFoots,g1,g2,g3,g4,this]
  rw [wrap_i64 (n:=(x1:Int)) (by omega) (by omega)]
  refine S.newB fun b34 w15 _ _ S=>?_
  have hsrc:Rd w15 (some ⟨b34,0,none⟩) [Value.int .i64 (x1:Int)]:=S.rdc 0 rfl
  refine stAppN S 3 rfl hsrc (by omega) fun a16 c16 w16 S=>⟨_,_,_,rfl,?_⟩
  rw [wrap_succ (by omega)]
  refine⟨⟨i+1,v2,ns++[x1],a16,c16,rfl,by omega,by simp [hni],by omega,?_,S.drop 3⟩,?_⟩
  ·rw [hrel,show n-(i+1)=m by omega]
   have:¬ 1073741824<x1:=by omega
   simp only [takeFoots,g1,g2,g3,g4,this,if_false,Option.map_map]
   congr 1
   funext r
   simp
  ·show n-((i+1:Nat):Int).toNat<n-(i:Int).toNat
   omega
 ·have:n-i=0:=by omega
  rw [this] at hrel
  simp only [takeFoots,Option.map_some,List.append_nil] at hrel
  rw [hrel,wrap_i64 (n:=(r0:Int)) (by omega) (by omega)]
  exact⟨na,nc,rfl,S⟩
end
theorem drop_cons_iff{l:List UInt8}{at_:Nat}{c:UInt8}{r:List UInt8}(h:l.drop at_=c :: r):at_<l.length∧l.getD at_ 0=c∧l.drop (at_+1)=r:=by
 have hlt:at_<l.length:=by
  rcases Nat.lt_or_ge at_ l.length with h1 | h1
  ·exact h1
  ·rw [List.drop_eq_nil_of_le h1] at h;cases h
 have h2:=List.drop_eq_getElem_cons hlt
 rw [h2] at h
 injection h with h3 h4
 exact⟨hlt,by simp [List.getD,hlt,h3],h4⟩
theorem takeT_drop{l r:List UInt8}{at_ most:Nat}{s:ByteArray}(hs:s.size≤most)(hm:most≤1048576)(h:l.drop at_=textL s++r):takeT l (at_:Int) most=some (bl s,at_+(textL s).length):=by
 unfold textL at h
 rw [List.append_assoc] at h
 have h1:=takeN_drop (m:=s.size) (by omega) h
 have h2:=drop_more h
 have hbl:=bl_length s
 have hlen:=congrArg List.length h2
 rw [List.length_drop,List.length_append,hbl] at hlen
 unfold takeT
 rw [h1]
 have hno:¬ (1048576<s.size∨most<s.size∨l.length-(at_+(digitsL s.size).length)<s.size):=by omega
 simp only [if_neg hno,Option.some.injEq,Prod.mk.injEq]
 refine⟨?_,?_⟩
 ·rw [h2,← hbl,List.take_left]
 ·simp only [textL,List.length_append,hbl]
  omega
theorem takeV_drop{l r:List UInt8}{at_:Nat}{v:Val}(hr:rightB v=true)(hv:ValOk v)(h:l.drop at_=layL v++r):takeV l (at_:Int)=some (v,at_+(layL v).length):=by
 have eI:((at_:Int)+1)=((at_+1:Nat):Int):=by omega
 obtain⟨k,n,s⟩:=v
 rcases right_kind hr with hk | hk | ⟨hk,hn⟩ | ⟨hk,hs⟩
 ·simp only at hk
  subst hk
  simp [rightB] at hr
  obtain⟨rfl,rfl⟩:=hr
  simp only [layL] at h ⊢
  obtain⟨h1,h2,h3⟩:=drop_cons_iff (c:=0) (r:=r) (by simpa using h)
  unfold takeV
  rw [if_neg (by omega),Int.toNat_natCast,h2]
  simp
 ·simp only at hk
  subst hk
  simp [rightB] at hr
  subst hr
  simp only [layL,if_true] at h ⊢
  obtain⟨h1,h2,h3⟩:=drop_cons_iff (c:=1) (r:=digitsL (zigN n)++r) (by simpa using h)
  have h4:=takeN_drop (zigN_lt hv.lo hv.hi) h3
  unfold takeV
  rw [if_neg (by omega),Int.toNat_natCast,h2,eI,h4]
  simp only [List.length_cons,Option.map_some]
  have:=unzig_zig (n:=n)
  simp [this]
  omega
 ·simp only at hk hn
  subst hk
  simp [rightB] at hr
  obtain⟨_,rfl⟩:=hr
  simp only [layL] at h ⊢
  obtain⟨h1,h2,h3⟩:=drop_cons_iff (c:=2) (r:=UInt8.ofNat n.toNat :: r) (by simpa using h)
  obtain⟨h4,h5,h6⟩:=drop_cons_iff h3
  have e5:(l.getD (at_+1) 0).toNat=n.toNat:=by rw [h5];rcases hn with rfl | rfl <;> rfl
  unfold takeV
  rw [if_neg (by omega),Int.toNat_natCast,h2]
  simp only
  have h7:(at_:Int)+1<(l.length:Int)∧(l.getD (at_+1) 0).toNat≤1:=⟨by omega,by omega⟩
  rw [if_neg (by decide),if_neg (by decide),if_pos (by decide),if_pos h7,e5]
  rcases hn with rfl | rfl <;> rfl
 ·simp only at hk hs
  subst hk
  simp [rightB] at hr
  obtain⟨rfl,_⟩:=hr
  simp only [layL] at h ⊢
  obtain⟨h1,h2,h3⟩:=drop_cons_iff (c:=3) (r:=textL s++r) (by simpa using h)
  have h4:=takeT_drop (most:=1024) hs (by omega) h3
  unfold takeV
  rw [if_neg (by omega),Int.toNat_natCast,h2,eI,h4]
  simp [sof_bl]
  omega
theorem takeCols_drop:∀(cs:List Col) {l r:List UInt8} {at_:Nat},(∀ c∈cs,c.1.size≤24∧1≤c.2.1∧c.2.1≤3)→l.drop at_=cs.flatMap colB++r→takeCols l at_ cs.length=some (cs,at_+(cs.flatMap colB).length)
 | [],l,r,at_,_,_=>rfl
 | c :: cs,l,r,at_,hq,h=>by
  obtain⟨hs,hk1,hk2⟩:=hq c (by simp)
  rw [List.flatMap_cons,List.append_assoc] at h
  have h0:l.drop at_=textL c.1++([UInt8.ofNat c.2.1.toNat,flagB c.2.2]++(cs.flatMap colB++r)):=by rw [h];simp [colB]
  have h1:=takeT_drop (most:=24) hs (by omega) h0
  have h2:=drop_more h0
  obtain⟨g1,g2,g3⟩:=drop_cons_iff (c:=UInt8.ofNat c.2.1.toNat) (r:=flagB c.2.2 :: (cs.flatMap colB++r)) (by simpa using h2)
  obtain⟨g4,g5,g6⟩:=drop_cons_iff g3
  have hf:(flagB c.2.2).toNat≤1:=by unfold flagB;split <;> decide
  have hkk:((UInt8.ofNat c.2.1.toNat).toNat:Int)=c.2.1:=by
   have:c.2.1=1∨c.2.1=2∨c.2.1=3:=by omega
   rcases this with h | h | h <;> rw [h] <;> rfl
  have hfl:((flagB c.2.2).toNat==1)=c.2.2:=by unfold flagB;cases c.2.2 <;> rfl
  have ih:=takeCols_drop cs (l:=l) (r:=r) (at_:=at_+(textL c.1).length+2) (fun c hc=>hq c (by simp [hc])) (by rw [← g6])
  show takeCols l at_ (cs.length+1)=_
  unfold takeCols
  rw [h1]
  simp only
  have hno:¬ (l.length-(at_+(textL c.1).length)<2∨1<(l.getD (at_+(textL c.1).length+1) 0).toNat):=by rw [g5];omega
  rw [if_neg hno,ih,g2,g5]
  simp only [Option.map_some,Option.some.injEq,Prod.mk.injEq,sof_bl,hkk,hfl,true_and]
  simp only [List.flatMap_cons,colB,List.length_append,List.length_cons,List.length_nil]
  omega
theorem takeSch_drop{cs:List Col}(hR:rightCols cs=true){l r:List UInt8}{at_:Nat}(h:l.drop at_=schL cs++r):takeSch l (at_:Int)=some (cs,at_+(schL cs).length):=by
 have hl:=right_len hR
 unfold schL at h
 rw [List.append_assoc] at h
 have h1:=takeN_drop (m:=cs.length) (by omega) h
 have h2:=takeCols_drop cs (fun c hc=>by obtain⟨_,a,b,c⟩:=right_col hR hc;exact⟨c,a,b⟩) (drop_more h)
 unfold takeSch
 rw [h1]
 simp only
 rw [if_neg (by omega),h2]
 simp only [hR,if_true,schL,List.length_append]
 congr 2
 omega
theorem takeFoots_drop(lim:Nat):∀(ps:List (List UInt8 × List Val)) {l r:List UInt8} {at_:Nat},(∀ p∈ps,p.1.length≤lim∧p.1.length≤2000300∧∃ k,Good1 k p.2)→l.drop at_=(ps.map fun p=>footC p.1 p.2).flatten++r →
  takeFoots lim l at_ ps.length=some (ps.map (·.1.length),at_+((ps.map fun p=>footC p.1 p.2).flatten).length)
 | [],l,r,at_,_,_=>rfl
 | p :: ps,l,r,at_,hq,h=>by
  obtain⟨hlim,hx,k,hg⟩:=hq p (by simp)
  have hz:=hg.zone
  rw [List.map_cons,List.flatten_cons,List.append_assoc] at h
  rw [footC] at h
  simp only [List.append_assoc] at h
  have hnl:nullsN p.2<18446744073709551616:=by have:=nullsN_le p.2;have:=hg.len;omega
  have h1:=takeN_drop (m:=p.1.length) (by omega) h
  have d1:=drop_more h
  have h2:=takeN_drop hnl d1
  have d2:=drop_more d1
  have h3:=takeV_drop hz.1.1 hz.1.2 d2
  have d3:=drop_more d2
  have h4:=takeV_drop hz.2.1 hz.2.2 d3
  have d4:=drop_more d3
  have ih:=takeFoots_drop lim ps (fun p hp=>hq p (by simp [hp])) d4
  show takeFoots lim l at_ (ps.length+1)=_
  unfold takeFoots
  rw [h1]
  simp only
  rw [h2]
  simp only
  rw [h3]
  simp only
  rw [h4]
  simp only
  rw [if_neg (by omega),ih]
  simp only [Option.map_some,List.map_cons,List.flatten_cons,List.length_append,footC,Option.some.injEq,Prod.mk.injEq,true_and]
  omega
theorem takeFoots_len(lim:Nat){l:List UInt8}:∀(n at_:Nat) {r:List Nat × Nat},takeFoots lim l at_ n=some r→r.1.length=n
 | 0,at_,r,h=>by simp [takeFoots] at h;rw [← h];rfl
 | n+1,at_,r,h=>by
  unfold takeFoots at h
  split at h
  ·cases h
  ·split at h
   ·cases h
   ·split at h
    ·cases h
    ·split at h
     ·cases h
     ·split at h
      ·cases h
      ·obtain⟨x,hx,he⟩:=Option.map_eq_some_iff.1 h
       rw [← he]
       simp [takeFoots_len lim n _ hx]
theorem takePl_len{lim:Nat}{l:List UInt8}{at_:Int}{n:Nat}{r:Nat × List Nat}(h:takePl lim l at_ n=some r):r.2.length=n∧r.1≤1024:=by
 unfold takePl at h
 split at h
 ·cases h
 ·split at h
  ·cases h
  ·obtain⟨x,hx,he⟩:=Option.map_eq_some_iff.1 h
   rw [← he]
   exact⟨takeFoots_len lim n _ hx,by simp only;omega⟩
section
variable {cs:List Col}{rows:List (List Val)}{xs:List (List UInt8)}
theorem foot_sch(hs:SegOk cs rows):takeSch (footL cs rows xs) 0=some (cs,(schL cs).length):=by
 have:=takeSch_drop hs.right (l:=footL cs rows xs) (at_:=0) (r:=digitsL rows.length++footsL rows xs) (by simp [footL])
 simpa using this
theorem foot_pl{lim:Nat}(hlim:2000300≤lim)(hs:SegOk cs rows)(hx:ChsIs cs rows xs)(hl:xs.length=cs.length):takePl lim (footL cs rows xs) ((schL cs).length:Int) cs.length=some (rows.length,xs.map List.length):=by
 have d0:(footL cs rows xs).drop (schL cs).length=digitsL rows.length++(footsL rows xs++[]):=by
  rw [footL,List.append_assoc,List.drop_left]
  simp
 have h1:=takeN_drop (m:=rows.length) (by have:=hs.len;omega) d0
 have d1:=drop_more d0
 obtain⟨ps,hps⟩:∃ ps,ps=xs.mapIdx fun i x=>(x,colOf rows i):=⟨_,rfl⟩
 have e1:footsL rows xs=(ps.map fun p=>footC p.1 p.2).flatten:=by
  rw [hps,footsL]
  congr 1
  refine List.ext_getElem (by simp) fun i h1 h2=>?_
  simp
 have e2:ps.length=cs.length:=by rw [hps,List.length_mapIdx,hl]
 have e3:ps.map (·.1.length)=xs.map List.length:=by
  rw [hps]
  refine List.ext_getElem (by simp) fun i h1 h2=>?_
  simp
 rw [e1] at d1
 have h2:=takeFoots_drop lim ps (l:=footL cs rows xs) (r:=[]) (fun p hp=>by
  rw [hps] at hp
  obtain⟨i,hi,rfl⟩:=List.mem_mapIdx.1 hp
  have:=hx.lens hs _ (List.getElem_mem hi)
  exact⟨by simp only;omega,this,_,hs.good (by omega:i<cs.length)⟩) d1
 rw [e2,e3] at h2
 unfold takePl
 rw [h1]
 simp only
 rw [if_neg (by have:=hs.len;omega),h2]
 rfl
end
section
variable {w:World}{a:Option Addr}{c:Nat}{l:List UInt8}
theorem Backward_ok:Calls Tryz.prog f.slices_Backward_byte_byte #[.slice a l.length c] w (Ret fun v w'=>∃ b1,v=.func (.func f.slices_Backward_byte_byte__c1) #[] #[.pointer (some ⟨b1,0,none⟩)]∧ST w w' [It.cells b1 #[.slice a l.length c] ty.L_uint8]):=by
 apply R.slices_Backward_byte_byte_calls
 unfold R.slices_Backward_byte_byte
 exact (ST.start w).newB fun b1 w1 _ _ S1=>⟨b1,rfl,S1⟩
theorem backward_c1_ok{L b:Nat}(hn:l.length≤1000000)(J:Nat→World→Prop)(hrd:∀ k w,J k w→Rd w a (l.map byteV)∧w.cell? ⟨b,0,none⟩=some (.slice a l.length c))
  (hstep:∀ k w (hk:k<l.length),J k w→YLD Tryz.prog L #[.int .i64 ((l.length-1-k:Nat):Int),.int .u8 ((l[l.length-1-k]'(by omega)).toNat:Int)] (fun y w'=>y=true∧J (k+1) w') w) (h0:J 0 w) :
  Calls Tryz.prog f.slices_Backward_byte_byte__c1 #[.func (.yield L) #[] #[],.pointer (some ⟨b,0,none⟩)] w (Ret fun _ w'=>J l.length w'):=by
 apply R.slices_Backward_byte_byte__c1_calls
 unfold R.slices_Backward_byte_byte__c1
 refine⟨_,_,_,(hrd _ _ h0).2,fun s w1=>∃ k:Nat,k≤l.length∧s=[.int .i64 ((l.length:Int)-1-(k:Int))]∧J k w1,fun s _=>match s with
   | [.int _ i]=>(i+1).toNat
   | _=>0,⟨0,by omega,by rw [wrap_i64 (by omega) (by omega)];simp,h0⟩,?_⟩
 rintro _ w1 ⟨k,hk,hst,hj⟩
 cases hst
 refine IFB_dec (fun hlt=>?_) (fun hge=>?_)
 ·have hkl:k<l.length:=by omega
  obtain⟨r1,r2⟩:=hrd _ _ hj
  have e:(l.length:Int)-1-(k:Int)=((l.length-1-k:Nat):Int):=by omega
  have hi:l.length-1-k<l.length:=by omega
  obtain⟨p,hp,hc⟩:=byte_at r1 hi
  rw [e]
  refine⟨_,_,_,r2,⟨by omega,by omega⟩,?_⟩
  rw [hp]
  refine⟨_,by rw [Int.toNat_natCast];exact hc,?_⟩
  refine (hstep k w1 hkl hj).mono ?_
  rintro y w2 ⟨rfl,h⟩
  rw [wrap_i64 (by omega) (by omega)]
  refine IFB_false ⟨⟨k+1,by omega,by rw [← e];congr 2;omega,h⟩,?_⟩
  show (((l.length-1-k:Nat):Int)-1+1).toNat<(((l.length-1-k:Nat):Int)+1).toNat
  omega
 ·have:k=l.length:=by omega
  subst this
  exact hj
end
theorem or_byte{n x:Nat}(hn:n<1099511627776)(hx:x<256):IntKind.i64.wrap (((BitVec.ofInt 64 (IntKind.i64.wrap ((n:Int)*2 ^ (min 8 64))) ||| BitVec.ofInt 64 (IntKind.i64.wrap (x:Int))).toNat:Int))=((n*256+x:Nat):Int):=by
 have e1:(n:Int)*2 ^ (min 8 64)=((n*256:Nat):Int):=by
  rw [show min 8 64=8 from rfl]
  omega
 rw [e1,wrap_i64 (n:=((n*256:Nat):Int)) (by omega) (by omega),wrap_i64 (n:=(x:Int)) (by omega) (by omega),BitVec.toNat_or,BitVec.ofInt_natCast,BitVec.ofInt_natCast,BitVec.toNat_ofNat,BitVec.toNat_ofNat,Nat.mod_eq_of_lt (by omega),Nat.mod_eq_of_lt (by omega)]
 have e2:n*256 ||| x=n*256+x:=by
  have:=Nat.two_pow_add_eq_or_of_lt (i:=8) (b:=x) hx n
  rw [show 2 ^ 8*n=n*256 by omega] at this
  exact this.symm
 rw [e2,wrap_i64 (by omega) (by omega)]
def accN(l:List UInt8)(k:Nat):Nat:=(l.reverse.take k).foldl (fun n c=>n*256+c.toNat) 0
theorem accN_succ{l:List UInt8}{k:Nat}(hk:k<l.length):accN l (k+1)=accN l k*256+(l[l.length-1-k]'(by omega)).toNat:=by
 unfold accN
 rw [List.take_succ_eq_append_getElem (by simpa using hk),List.foldl_append]
 simp only [List.foldl_cons,List.foldl_nil]
 congr 2
 rw [List.getElem_reverse]
theorem accN_lt{l:List UInt8}:∀ k,k≤l.length→accN l k<256 ^ k
 | 0,_=>by simp [accN]
 | k+1,h=>by
  have ih:=accN_lt (l:=l) k (by omega)
  rw [accN_succ (by omega),Nat.pow_succ]
  have:=(l[l.length-1-k]'(by omega)).toNat_lt
  omega
theorem accN_low(n:Nat)(hn:n<4294967296):accN (lowB n) 4=n:=by
 have h:∀ m,m<256→(UInt8.ofNat m).toNat=m:=fun m hm=>by simp;omega
 simp only [accN,lowB,List.reverse_cons,List.reverse_nil,List.nil_append,List.cons_append,List.take_succ_cons,List.take_zero,List.foldl_cons,List.foldl_nil]
 rw [h _ (by omega),h _ (by omega),h _ (by omega),h _ (by omega)]
 omega
end Go.Proofs.YtipgnehlihmdhaaGreatDoor
