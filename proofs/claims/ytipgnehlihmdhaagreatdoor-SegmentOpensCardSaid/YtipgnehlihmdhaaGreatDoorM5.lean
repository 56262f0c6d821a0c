/-
  Texts of this claim, laid one behind the other by a program of mine (install.py): S.VTake0, S.VLay2, S.TakeS, S.VTake, S.VTake2, S.VTake3, Dn.St, S.Sch7, S.Sch8, S.Unpack, S.Unpack2, S.Take, S.DecLaw, S.Ch2, S.Ch3, S.Sum2.
-/
import Derived.Test.YtipgnehlihmdhaaGreatDoorM4
import Derived.Test.YtipgnehlihmdhaaGreatDoorM3
import Derived.Test.YtipgnehlihmdhaaGreatDoorM1
import Derived.Test.YtipgnehlihmdhaaGreatDoorM2
namespace Go.Dn
theorem SH.v3{F:Nat→Prop}{w0 w:World}{H:List Ent}(S:SH F w0 w H)(n:Nat){b:Nat}{x y:Int}{s:ByteArray}{t:TypeId}(hn:H[n]?=some (b,#[.int .i64 x,.int .i64 y,.string s],t)){Q:Int→Int→ByteArray→Prop}(h:Q x y s) :
  ∃ a:Int,w.cell? ⟨b,0,none⟩=some (.int .i64 a)∧∃ c:Int,w.cell? ⟨b,1,none⟩=some (.int .i64 c)∧∃ d:ByteArray,w.cell? ⟨b,2,none⟩=some (.string d)∧Q a c d :=
 ⟨x,S.cell n hn rfl,y,S.cell n hn rfl,s,S.cell n hn rfl,h⟩
end Go.Dn
namespace Go.Proofs.YtipgnehlihmdhaaGreatDoor
open Go.Dn Go.Proofs
open Go.RowKit (Below)
set_option linter.unusedVariables false
set_option maxRecDepth 20000
/-! ### orders -/
/-! ### the laws -/
end Go.Proofs.YtipgnehlihmdhaaGreatDoor
namespace Go.Proofs.YtipgnehlihmdhaaGreatDoor
set_option maxRecDepth 100000
open Go.Dn Go.Proofs
open Go.RowKit (Below)
set_option linter.unusedVariables false
section
variable {w:World}{a:Option Addr}{c:Nat}
theorem ref04_Lay_ok(l:List UInt8)(hl:Rd w a (l.map byteV))(v:Val)(hv:ValOk v)(hs:l.length+2000≤140737488355328) :
  Calls Tryz.prog f.ref04_Lay #[.slice a l.length c,valV v] w (Ret fun r w'=>layV l v r w w'):=by
 apply R.ref04_Lay_calls
 unfold R.ref04_Lay
 refine (SH.start (fun _=>True) w).newB fun b5 w1 hb5 B1 S1=>S1.v3 0 rfl ((ref04_Right_ok w1 v).mono ?_)
 rintro _ w2 ⟨_,rfl,rfl,B2⟩
 have S2:=S1.grown B2
 have B2':=below_trans B1 B2
 refine⟨_,rfl,IFB_not (IFB_of (fun hr=>?_) (fun hr=>.inl ⟨hr,rfl,B2'⟩))⟩
 have hk:=right_kind hr
 obtain⟨kk,hkk,hkb⟩:∃ kk:Nat,v.1=kk∧kk<4:=⟨v.1.toNat,by omega,by omega⟩
 have hkv:Value.int .u8 (IntKind.u8.wrap v.1)=byteV (UInt8.ofNat kk):=by rw [hkk,wrap_u8_id (by omega) (by omega)];exact byteV_of (by omega)
 have e10:IntKind.i64.wrap ((l.length:Int)+1)=((l.length+1:Nat):Int):=by rw [wrap_i64 (by omega) (by omega)];omega
 rw [e10]
 have hb5w:∀ w',Below w2.heap.size w2 w'→b5<w'.heap.size:=fun w' hb=>by
  have:=S2.lt (List.mem_singleton.2 rfl)
  have:=hb.size
  omega
 refine⟨fun s w15=>∃(a:Option Addr) (c:Nat),s=[.slice a (l++[UInt8.ofNat kk]).length c]∧NewB w w15 (l++[UInt8.ofNat kk]) a c∧SH (fun _=>True) w w15 [(b5,#[.int .i64 v.1,.int .i64 v.2.1,.string v.2.2],ty.api_Value)],?_,?_⟩
 ·refine S2.drawB fun w3 B3 S3=>⟨_,S3.cell 0 rfl rfl,?_⟩
  have B3':=below_trans B2' B3
  have far:∀ {w1 w2:World} {ar:Option Addr},SH (fun _=>True) w w1 [(b5,#[.int .i64 v.1,.int .i64 v.2.1,.string v.2.2],ty.api_Value)]→Keeps (fun k=>rowB ar=some k) w1 w2→(∀ k,rowB ar=some k→w3.heap.size≤k)→SH (fun _=>True) w w2 [(b5,#[.int .i64 v.1,.int .i64 v.2.1,.string v.2.2],ty.api_Value)]:=by
   intro w1 w2 ar S K hr
   refine S.kept K (fun x hx he=>?_) (fun _ _ _=>trivial)
   simp only [List.mem_singleton] at hx
   subst hx
   have:=hr _ he
   have:=S3.lt (List.mem_singleton.2 rfl)
   simp only at *
   omega
  refine⟨make_row0 tB (by omega) (by omega) fun b w4 hb B4 R4=>⟨_,_,_,rfl,(S3.grown B4).cell 0 rfl rfl,?_,?_⟩,?_⟩
  ·have h4:NewB w3 w4 [] (some ⟨b,0,none⟩) (l.length+1):=⟨R4,fun k hk=>by simp [rowB] at hk;omega,B4⟩
   refine append_bytes (l:=[]) R4 (hl.grown (below_trans B3' B4)) (by simp;omega) fun a5 c5 w5 R5 K5 N5=>?_
   have h5:NewB w3 w5 l a5 c5:=h4.appended (.refl _ _) R5 K5 N5
   have S5:=far (S3.grown B4) K5 h4.new
   refine⟨_,_,_,rfl,S5.cell 0 rfl rfl,S5.newB fun b16 w6 hb16 B6 S6=>?_⟩
   refine append_byte (h5.grown B6).row (by omega) hkv (S6.get 0 rfl) fun a7 c7 w7 R7 K7 N7=>⟨_,_,_,rfl,a7,c7,rfl,(h5.appended B6 R7 K7 N7).before B3',far (S5.grown B6) K7 h5.new⟩
  ·have h4:NewB w3 w4 [] (some ⟨b,0,none⟩) (l.length+1):=⟨R4,fun k hk=>by simp [rowB] at hk;omega,B4⟩
   refine (S3.grown B4).newB fun b16 w8 hb16 B8 S8=>?_
   refine append_bytes (l:=[]) (R4.grown B8) (hl.grown (below_trans (below_trans B3' B4) B8)) (by simp;omega) fun a5 c5 w9 R5 K5 N5=>?_
   have h5:NewB w3 w9 l a5 c5:=h4.appended B8 R5 K5 N5
   have S9:=far (S8.drop 1) K5 h4.new
   have hb16':w9.heap[b16]?=some (.cells #[.int .u8 (IntKind.u8.wrap v.1)] 5 (0,0)):=K5.at (S8.get 0 rfl) (fun he=>by simp [rowB] at he;have:=h4.row.lt (k:=b) rfl;omega)
   refine⟨_,_,_,rfl,append_byte h5.row (by omega) hkv hb16' fun a7 c7 w7 R7 K7 N7=>⟨_,_,_,rfl,a7,c7,rfl,(h5.appended (.refl _ _) R7 K7 N7).before B3',far S9 K7 h5.new⟩⟩
  ·refine S3.newB fun b16 w11 hb16 B11 S11=>make_row0 tB (by omega) (by omega) fun b w4 hb B4 R4=>⟨_,_,_,rfl,?_⟩
   have h4:NewB w11 w4 [] (some ⟨b,0,none⟩) (l.length+1):=⟨R4,fun k hk=>by simp [rowB] at hk;omega,B4⟩
   have h4':NewB w3 w4 [] (some ⟨b,0,none⟩) (l.length+1):=h4.before B11
   refine append_bytes (l:=[]) R4 (hl.grown (below_trans (below_trans B3' B11) B4)) (by simp;omega) fun a5 c5 w9 R5 K5 N5=>?_
   have h5:NewB w3 w9 l a5 c5:=h4'.appended (.refl _ _) R5 K5 N5
   have S9:=far ((S11.grown B4).drop 1) K5 h4'.new
   have hb16':w9.heap[b16]?=some (.cells #[.int .u8 (IntKind.u8.wrap v.1)] 5 (0,0)):=K5.at ((S11.grown B4).get 0 rfl) (fun he=>by simp [rowB] at he;have:=S11.lt List.mem_cons_self;simp only at this;omega)
   refine⟨_,_,_,rfl,append_byte h5.row (by omega) hkv hb16' fun a7 c7 w7 R7 K7 N7=>⟨_,_,_,rfl,a7,c7,rfl,(h5.appended (.refl _ _) R7 K7 N7).before B3',far S9 K7 h5.new⟩⟩
 rintro a5 _ c5 w5 ⟨_,_,hs',h5',S5⟩
 cases hs'
 refine⟨_,S5.cell 0 rfl rfl,IFB_eq (fun h=>⟨_,S5.cell 0 rfl rfl,?_⟩) (fun h1=>IFB_eq (fun h=>⟨_,S5.cell 0 rfl rfl,?_⟩) (fun h2=>IFB_eq (fun h=>⟨_,S5.cell 0 rfl rfl,?_⟩) (fun h3=>?_)))⟩
 ·refine (ref_Signed_ok _ h5'.rd v.2.1 hv.lo hv.hi (by simp;omega)).mono ?_
  rintro _ w6 ⟨_,rfl,a6,c6,rfl,h6⟩
  have e:(l++[UInt8.ofNat kk])++digitsL (zigN v.2.1)=l++layL v:=by
   have:kk=1:=by omega
   subst this
   simp [layL,h]
  rw [e] at h6 ⊢
  exact⟨_,_,_,rfl,.inr ⟨hr,a6,c6,rfl,h6.before h5'.bel⟩⟩
 ·have hb01:v.2.1=0∨v.2.1=1:=by omega
  refine S5.newB fun b21 w7 hb21 B7 S7=>?_
  refine append_byte (h5'.grown B7).row (by simp;omega) (x:=UInt8.ofNat v.2.1.toNat) (by rw [wrap_u8_id (by omega) (by omega)];rcases hb01 with h | h <;> rw [h] <;> rfl) (S7.get 0 rfl) fun a8 c8 w8 R8 K8 N8=>⟨_,_,_,rfl,.inr ⟨hr,a8,c8,?_⟩⟩
  have e:(l++[UInt8.ofNat kk])++[UInt8.ofNat v.2.1.toNat]=l++layL v:=by
   have:kk=2:=by omega
   subst this
   simp [layL,h]
  have h8:=h5'.appended B7 R8 K8 N8
  rw [e] at h8 ⊢
  exact⟨rfl,h8⟩
 ·refine (ref_Text_ok _ h5'.rd v.2.2 (by omega) (by simp;omega)).mono ?_
  rintro _ w6 ⟨_,rfl,a6,c6,rfl,h6⟩
  have e:(l++[UInt8.ofNat kk])++textL v.2.2=l++layL v:=by
   have:kk=3:=by omega
   subst this
   simp [layL,h]
  rw [e] at h6 ⊢
  exact⟨_,_,_,_,rfl,.inr ⟨hr,a6,c6,rfl,h6.before h5'.bel⟩⟩
 ·have e:l++[UInt8.ofNat kk]=l++layL v:=by
   have:kk=0:=by omega
   subst this
   simp [layL,h1,h2,h3]
  have h6:=h5'
  rw [e] at h6
  refine .inr ⟨hr,a5,c5,?_,h6⟩
  rw [← e]
end
def unzig(n:Nat):Int:=if n % 2=1 then -((n / 2:Nat):Int)-1 else ((n / 2:Nat):Int)
theorem and1_64(n:Nat)(h:n<18446744073709551616):(BitVec.ofInt 64 (n:Int) &&& BitVec.ofInt 64 1).toNat=n % 2:=by
 rw [BitVec.toNat_and,BitVec.ofInt_natCast,BitVec.toNat_ofNat,Nat.mod_eq_of_lt (by omega)]
 exact Nat.and_two_pow_sub_one_eq_mod n 1
theorem unzig_prog{n:Nat}(h:n<18446744073709551616) :
  IntKind.i64.wrap (((BitVec.ofInt 64 (IntKind.i64.wrap (Int.fdiv (n:Int) (2 ^ (min 1 64)))) ^^^ BitVec.ofInt 64 (IntKind.i64.wrap (0-IntKind.i64.wrap (IntKind.u64.wrap (((BitVec.ofInt 64 (n:Int) &&& BitVec.ofInt 64 1).toNat:Int)))))).toNat:Int))=unzig n:=by
 have e1:IntKind.i64.wrap (Int.fdiv (n:Int) (2 ^ (min 1 64)))=((n / 2:Nat):Int):=by
  rw [Int.fdiv_eq_ediv_of_nonneg _ (by decide),show (2:Int) ^ (min 1 64)=2 from rfl,wrap_i64 (by omega) (by omega)]
  omega
 rw [e1,and1_64 n h,wrap_u64_id (by omega) (by omega),wrap_i64 (n:=((n % 2:Nat):Int)) (by omega) (by omega)]
 unfold unzig
 by_cases ho:n % 2=1
 ·rw [ho,if_pos rfl,show IntKind.i64.wrap (0-((1:Nat):Int)) = -1 by decide,show BitVec.ofInt 64 (-1)=BitVec.allOnes 64 by decide,BitVec.xor_allOnes,BitVec.toNat_not,BitVec.ofInt_natCast,BitVec.toNat_ofNat,Nat.mod_eq_of_lt (by omega),wrap_i64_def]
  split <;> omega
 ·have:n % 2=0:=by omega
  rw [this,if_neg (by omega),show IntKind.i64.wrap (0-((0:Nat):Int))=0 by decide,show BitVec.ofInt 64 0=0#64 by decide,BitVec.xor_zero,BitVec.ofInt_natCast,BitVec.toNat_ofNat,Nat.mod_eq_of_lt (by omega),wrap_i64 (by omega) (by omega)]
theorem unzig_range{n:Nat}(h:n<18446744073709551616) : -9223372036854775808≤unzig n∧unzig n≤9223372036854775807:=by unfold unzig;split <;> omega
def sgnV(o:Option (Nat × Nat)):Value :=
 match o with
 | some x=>.tuple #[.int .i64 (unzig x.1),.int .i64 (x.2:Int),.int .i64 0]
 | none=>.tuple #[.int .i64 0,.int .i64 0,.int .i64 20]
section
variable {w:World}{a:Option Addr}{c:Nat}{l:List UInt8}
theorem wire_TakeSigned_ok(hl:Rd w a (l.map byteV))(hc:l.length≤c)(hs:l.length≤9223372036854775807)(at_:Int):Calls Tryz.prog f.wire_TakeSigned #[.slice a l.length c,.int .i64 at_] w (Ret fun v w'=>v=sgnV (takeN l at_)∧w'=w):=by
 apply R.wire_TakeSigned_calls
 unfold R.wire_TakeSigned
 refine (wire_TakeNumber_ok hl hc hs at_).mono ?_
 rintro _ w ⟨_,rfl,rfl,rfl⟩
 cases ho:takeN l at_ with
 | none=>exact⟨_,_,_,rfl,rfl,rfl⟩
 | some x =>
  obtain⟨n,k⟩:=x
  refine⟨_,_,_,rfl,?_,rfl⟩
  rw [unzig_prog (takeN_bounds ho).1]
  rfl
theorem ref_TakeSigned_ok(hl:Rd w a (l.map byteV))(hs:l.length≤9223372036854775807)(at_:Int)(hat:at_≤9223372036854775807):Calls Tryz.prog f.ref02_TakeSigned #[.slice a l.length c,.int .i64 at_] w (Ret fun v w'=>v=sgnV (takeN l at_)∧w'=w):=by
 apply R.ref02_TakeSigned_calls
 unfold R.ref02_TakeSigned
 refine (ref_TakeNumber_ok hl hs at_ hat).mono ?_
 rintro _ w ⟨_,rfl,rfl,rfl⟩
 cases ho:takeN l at_ with
 | none=>exact⟨_,_,_,rfl,IFB_true ⟨rfl,rfl⟩⟩
 | some x =>
  obtain⟨n,k⟩:=x
  have hb:=(takeN_bounds ho).1
  refine⟨_,_,_,rfl,IFB_false ?_⟩
  have e1:Int.tmod (n:Int) 2=((n % 2:Nat):Int):=by rw [Int.tmod_eq_emod_of_nonneg (by omega)];omega
  have e2:IntKind.u64.wrap (Int.tdiv (n:Int) 2)=((n / 2:Nat):Int):=by rw [Int.tdiv_eq_ediv_of_nonneg (by omega),wrap_u64_id (by omega) (by omega)];omega
  rw [e1,e2,wrap_i64 (n:=((n / 2:Nat):Int)) (by omega) (by omega)]
  refine IFB_eq (fun h=>⟨?_,rfl⟩) (fun h=>⟨?_,rfl⟩)
  ·simp only [sgnV,unzig]
   rw [if_pos (by omega),wrap_i64 (n:=0-((n / 2:Nat):Int)) (by omega) (by omega),wrap_i64 (by omega) (by omega)]
   congr 4
   omega
  ·simp only [sgnV,unzig]
   rw [if_neg (by omega)]
/-! ### Take -/
end
section
variable {w:World}{a:Option Addr}{c:Nat}{l:List UInt8}
/-! ### Take -/
def takeV(l:List UInt8)(at_:Int):Option (Val × Nat) :=
 if at_<0∨(l.length:Int)≤at_ then none else
 let k:=(l.getD at_.toNat 0).toNat
 if k=0 then some ((0,0,E0),at_.toNat+1)
 else if k=1 then (takeN l (at_+1)).map fun x=>((1,unzig x.1,E0),x.2)
 else if k=2 then (if at_+1<l.length∧(l.getD (at_.toNat+1) 0).toNat≤1 then some ((2,((l.getD (at_.toNat+1) 0).toNat:Int),E0),at_.toNat+2) else none)
 else if k=3 then (takeT l (at_+1) 1024).map fun x=>((3,0,sof x.1),x.2)
 else none
def takenV(o:Option (Val × Nat)):Value :=
 match o with
 | some x=>.tuple #[.agg #[.int .i64 x.1.1,.int .i64 x.1.2.1,.string x.1.2.2],.int .i64 (x.2:Int),.int .i64 0]
 | none=>.tuple #[.agg #[.int .i64 0,.int .i64 0,.string E0],.int .i64 0,.int .i64 20]
theorem bool_byte{l:List UInt8}{at_:Nat}:(∃ n k,takeN l (at_:Int)=some (n,k)∧(n=0∨n=1))↔(at_<l.length∧(l.getD at_ 0).toNat≤1):=by
 have ht:takeN l (at_:Int)=(readN 0 0 (l.drop at_)).map fun x=>(x.1,at_+x.2):=by unfold takeN;rw [if_neg (by omega)];rfl
 by_cases h:at_<l.length
 ·have hd:l.drop at_=l[at_] :: l.drop (at_+1):=List.drop_eq_getElem_cons h
  have hg:l.getD at_ 0=l[at_]:=by simp [List.getD,h]
  rw [hg]
  generalize l[at_]=c at hd
  have e:readN 0 0 (c :: l.drop (at_+1))=if c.toNat<128 then some (c.toNat,1) else readN 1 (c.toNat % 128) (l.drop (at_+1)):=by
   conv=>lhs;unfold readN
   rw [if_neg (by omega)]
   by_cases hc:c.toNat<128
   ·rw [if_pos hc,if_pos hc,if_neg (by omega)]
    simp
   ·rw [if_neg hc,if_neg hc]
    simp
  rw [ht,hd,e]
  by_cases hc:c.toNat<128
  ·rw [if_pos hc]
   simp only [Option.map_some,Option.some.injEq,Prod.mk.injEq]
   constructor
   ·rintro⟨n,k,⟨rfl,_⟩,hn⟩;exact⟨h,by omega⟩
   ·rintro⟨_,hn⟩;exact⟨_,_,⟨rfl,rfl⟩,by omega⟩
  ·rw [if_neg hc]
   constructor
   ·rintro⟨n,k,hs,hn⟩
    obtain⟨⟨x1,x2⟩,hx,he⟩:=Option.map_eq_some_iff.1 hs
    simp only [Prod.mk.injEq] at he
    obtain⟨_,_,_,_,hb⟩:=readN_bounds _ 1 _ _ _ (by omega) hx
    have:=hb (by omega)
    omega
   ·rintro⟨_,hn⟩;omega
 ·have hd:l.drop at_=[]:=List.drop_eq_nil_of_le (by omega)
  rw [ht,hd]
  constructor
  ·rintro⟨n,k,hs,_⟩;simp [readN] at hs
  ·rintro⟨hh,_⟩;omega
theorem bool_next{l:List UInt8}{at_ n k:Nat}(h:takeN l (at_:Int)=some (n,k))(hn:n=0∨n=1):n=(l.getD at_ 0).toNat∧k=at_+1:=by
 have hb:=bool_byte.1 ⟨n,k,h,hn⟩
 have ht:takeN l (at_:Int)=(readN 0 0 (l.drop at_)).map fun x=>(x.1,at_+x.2):=by unfold takeN;rw [if_neg (by omega)];rfl
 have hd:l.drop at_=l[at_] :: l.drop (at_+1):=List.drop_eq_getElem_cons hb.1
 have hg:l.getD at_ 0=l[at_]:=by simp [List.getD,hb.1]
 rw [hg] at hb ⊢
 rw [ht,hd] at h
 unfold readN at h
 rw [if_neg (by omega),if_pos (by omega),if_neg (by omega)] at h
 simp at h
 omega
end
end Go.Proofs.YtipgnehlihmdhaaGreatDoor
namespace Go.Dn
theorem SH.res3{F:Nat→Prop}{w0 w:World}{H:List Ent}(S:SH F w0 w H)(n:Nat){b:Nat}{x0 x1 x2:Value}{t:TypeId}(hn:H[n]?=some (b,#[x0,x1,x2],t)){v0 v1:Int}{v2:ByteArray}{Q:Int→Int→ByteArray→World→Prop}
  (hk:∀ w',SH F w0 w' (H.set n (b,#[.int .i64 v0,.int .i64 v1,.string v2],t))→Q v0 v1 v2 w') :
  STO ⟨b,0,none⟩ (.int .i64 v0) (fun w=>STO ⟨b,1,none⟩ (.int .i64 v1) (fun w=>STO ⟨b,2,none⟩ (.string v2) (fun w=>∃ r0:Int,w.cell? ⟨b,0,none⟩=some (.int .i64 r0)∧∃ r1:Int,w.cell? ⟨b,1,none⟩=some (.int .i64 r1)∧∃ r2:ByteArray,w.cell? ⟨b,2,none⟩=some (.string r2)∧Q r0 r1 r2 w) w) w) w:=by
 have hlt:=(List.getElem?_eq_some_iff.1 hn).1
 exact S.sto3K n hn fun w' _ S'=>S'.v3 n (List.getElem?_set_self hlt) (hk w' S')
end Go.Dn
namespace Go.Proofs.YtipgnehlihmdhaaGreatDoor
open Go.Dn Go.Proofs
open Go.RowKit (Below)
set_option linter.unusedVariables false
set_option maxRecDepth 20000
section
variable {w:World}{a:Option Addr}{c:Nat}{l:List UInt8}
theorem byte_getD{i:Nat}(hi:i<l.length):l.getD i 0=l[i]:=by simp [List.getD,hi]
theorem ref04_Take_ok(hl:Rd w a (l.map byteV))(hc:l.length≤c)(hs:l.length≤140737488355328)(at_:Int) :
  Calls Tryz.prog f.ref04_Take #[.slice a l.length c,.int .i64 at_] w (Ret fun v w'=>v=takenV (takeV l at_)∧Below w.heap.size w w'):=by
 apply R.ref04_Take_calls
 unfold R.ref04_Take
 refine (SH.start (fun _=>False) w).newB fun b3 w1 hb3 B1 S1=>?_
 refine IFB_dec (fun h=>S1.res3 0 rfl fun w4 S4=>⟨by simp [takeV,h,takenV],S4.below⟩) (fun h0=>IFB_dec (fun h=>S1.res3 0 rfl fun w4 S4=>⟨?_,S4.below⟩) (fun h1=>?_))
 ·unfold takeV
  rw [if_pos (.inr h)]
  rfl
 obtain⟨at_,rfl⟩:∃ k:Nat,at_=k:=⟨at_.toNat,by omega⟩
 have hat:at_<l.length:=by omega
 refine⟨⟨by omega,by omega⟩,?_⟩
 obtain⟨p,hp,hcell⟩:=byte_at (hl.grown B1) hat
 subst hp
 have hg:=byte_getD hat
 have hcc:=l[at_].toNat_lt
 refine⟨_,by rw [Int.toNat_natCast];exact hcell,S1.lit3 fun b12 w11 hb12 B11 S11=>?_⟩
 have hl11:Rd w11 (some p) (l.map byteV):=hl.grown S11.below
 rw [wrap_i64 (n:=(l[at_].toNat:Int)) (by omega) (by omega)] at S11
 have ew:IntKind.i64.wrap ((at_:Int)+1)=((at_+1:Nat):Int):=by rw [wrap_i64 (by omega) (by omega)];omega
 rw [ew]
 have ht:takeV l (at_:Int)=(if l[at_].toNat=0 then some ((0,0,E0),at_+1)
   else if l[at_].toNat=1 then (takeN l ((at_+1:Nat):Int)).map fun x=>((1,unzig x.1,E0),x.2)
   else if l[at_].toNat=2 then (if (at_:Int)+1<l.length∧(l.getD (at_+1) 0).toNat≤1 then some ((2,((l.getD (at_+1) 0).toNat:Int),E0),at_+2) else none)
   else if l[at_].toNat=3 then (takeT l ((at_+1:Nat):Int) 1024).map fun x=>((3,0,sof x.1),x.2)
   else none):=by
  unfold takeV
  rw [if_neg (by omega),Int.toNat_natCast,hg,show (at_:Int)+1=((at_+1:Nat):Int) by omega]
 generalize hkk:l[at_].toNat=kk at ht S11 hcc
 refine⟨fun s w18=>∃(nx e:Int) (v:Val),s=[.int .i64 nx,.int .i64 e]∧SH (fun _=>False) w w18 [(b12,#[.int .i64 v.1,.int .i64 v.2.1,.string v.2.2],ty.api_Value),(b3,#[.int .i64 0,.int .i64 0,.string E0],ty.api_Value)] ∧
   (e≠0→e=20∧takeV l (at_:Int)=none)∧(e=0→∃ k:Nat,nx=k∧takeV l (at_:Int)=some (v,k)),?_,?_⟩
 ·refine⟨_,S11.cell 0 rfl rfl,IFB_eq (fun h=>?_) (fun n0=>IFB_eq (fun h=>?_) (fun n1=>IFB_eq (fun h=>?_) (fun n2=>IFB_eq (fun h=>?_) (fun n3=>?_))))⟩
  ·have:kk=0:=by omega
   subst this
   exact⟨_,_,(0,0,E0),rfl,S11,fun h=>absurd rfl h,fun _=>⟨at_+1,rfl,by rw [ht];simp⟩⟩
  ·have:kk=1:=by omega
   subst this
   refine (ref_TakeSigned_ok hl11 (by omega) _ (by omega)).mono ?_
   rintro _ w11 ⟨_,rfl,rfl,rfl⟩
   cases ho:takeN l ((at_+1:Nat):Int) with
   | none =>
    exact⟨_,_,_,rfl,S11.sto 0 rfl (show 1<3 by decide) fun w13 S13=>⟨_,_,(1,0,E0),rfl,S13,fun _=>⟨rfl,by rw [ht,ho];simp⟩,fun h=>absurd h (by decide)⟩⟩
   | some x =>
    obtain⟨n,k⟩:=x
    exact⟨_,_,_,rfl,S11.sto 0 rfl (show 1<3 by decide) fun w13 S13=>⟨_,_,(1,unzig n,E0),rfl,S13,fun h=>absurd rfl h,fun _=>⟨k,rfl,by rw [ht,ho];simp⟩⟩⟩
  ·have:kk=2:=by omega
   subst this
   have no:¬ ((at_:Int)+1<l.length∧(l.getD (at_+1) 0).toNat≤1)→takeV l (at_:Int)=none:=by
    intro hn
    rw [ht]
    simp only [if_neg (show ¬ (2:Nat)=0 by decide),if_neg (show ¬ (2:Nat)=1 by decide),if_true]
    rw [if_neg hn]
   refine IFB_dec (fun h=>S11.res3 1 rfl fun w4 S4=>⟨by rw [no (by omega)];rfl,S4.below⟩) (fun h=>⟨⟨by omega,by omega⟩,?_⟩)
   have hat2:at_+1<l.length:=by omega
   obtain⟨p',hp',hcell2⟩:=byte_at hl11 hat2
   cases hp'
   have hg2:=byte_getD hat2
   have hcc2:=l[at_+1].toNat_lt
   refine⟨_,by rw [Int.toNat_natCast];exact hcell2,IFB_dec (fun h=>S11.res3 1 rfl fun w4 S4=>⟨by rw [no (by rw [hg2];omega)];rfl,S4.below⟩) (fun h=>⟨⟨by omega,by omega⟩,_,by rw [Int.toNat_natCast];exact hcell2,?_⟩)⟩
   rw [wrap_i64 (n:=(l[at_+1].toNat:Int)) (by omega) (by omega),wrap_i64 (n:=((at_+1:Nat):Int)+1) (by omega) (by omega)]
   refine S11.sto 0 rfl (show 1<3 by decide) fun w13 S13=>⟨_,_,(2,(l[at_+1].toNat:Int),E0),rfl,S13,fun h=>absurd rfl h,fun _=>⟨at_+2,by omega,?_⟩⟩
   rw [ht]
   simp only [if_neg (show ¬ (2:Nat)=0 by decide),if_neg (show ¬ (2:Nat)=1 by decide),if_true]
   rw [if_pos ⟨by omega,by rw [hg2];omega⟩,hg2]
  ·have:kk=3:=by omega
   subst this
   refine (ref_TakeText_ok hl11 hc (by omega) _ (by omega) 1024).mono ?_
   rintro _ w11 ⟨_,rfl,rfl,rfl⟩
   cases ho:takeT l ((at_+1:Nat):Int) 1024 with
   | none =>
    exact⟨_,_,_,rfl,S11.sto 0 rfl (show 2<3 by decide) fun w13 S13=>⟨_,_,(3,0,E0),rfl,S13,fun _=>⟨rfl,by rw [ht,ho];simp⟩,fun h=>absurd h (by decide)⟩⟩
   | some x =>
    obtain⟨s,k⟩:=x
    exact⟨_,_,_,rfl,S11.sto 0 rfl (show 2<3 by decide) fun w13 S13=>⟨_,_,(3,0,sof s),rfl,S13,fun h=>absurd rfl h,fun _=>⟨k,rfl,by rw [ht,ho];simp⟩⟩⟩
  ·have hno:takeV l (at_:Int)=none:=by rw [ht,if_neg (by omega),if_neg (by omega),if_neg (by omega),if_neg (by omega)]
   exact S11.res3 1 rfl fun w4 S4=>⟨by rw [hno];rfl,S4.below⟩
 ·rintro _ _ w18 ⟨nx,e,v,hs',S18,g1,g2⟩
  cases hs'
  refine IFB_ne (fun h=>S18.res3 1 rfl fun w4 S4=>⟨by rw [(g1 h).2,(g1 h).1];rfl,S4.below⟩) (fun h=>S18.v3 0 rfl (S18.res3 1 rfl fun w4 S4=>⟨?_,S4.below⟩))
  obtain⟨k,rfl,hk⟩:=g2 h
  rw [hk]
  rfl
end
end Go.Proofs.YtipgnehlihmdhaaGreatDoor
namespace Go.Proofs.YtipgnehlihmdhaaGreatDoor
set_option maxRecDepth 100000
open Go.Dn Go.Proofs
open Go.RowKit (Below)
set_option linter.unusedVariables false
section
variable {w:World}{a:Option Addr}{c:Nat}{l:List UInt8}
theorem value_Take_ok(hl:Rd w a (l.map byteV))(hc:l.length≤c)(hs:l.length≤140737488355328)(at_:Int) :
  Calls Tryz.prog f.value_Take #[.slice a l.length c,.int .i64 at_] w (Ret fun v w'=>v=takenV (takeV l at_)∧Below w.heap.size w w'):=by
 apply R.value_Take_calls
 unfold R.value_Take
 refine (SH.start (fun _=>False) w).newB fun b3 w1 hb3 B1 S1=>?_
 refine IFB_dec (fun h=>S1.res3 0 rfl fun w4 S4=>⟨by simp [takeV,h,takenV],S4.below⟩) (fun h0=>IFB_dec (fun h=>S1.res3 0 rfl fun w4 S4=>⟨?_,S4.below⟩) (fun h1=>?_))
 ·unfold takeV
  rw [if_pos (.inr h)]
  rfl
 obtain⟨at_,rfl⟩:∃ k:Nat,at_=k:=⟨at_.toNat,by omega⟩
 have hat:at_<l.length:=by omega
 refine⟨⟨by omega,by omega⟩,?_⟩
 obtain⟨p,hp,hcell⟩:=byte_at (hl.grown B1) hat
 subst hp
 have hg:=byte_getD hat
 have hcc:=l[at_].toNat_lt
 refine⟨_,by rw [Int.toNat_natCast];exact hcell,S1.lit3 fun b12 w11 hb12 B11 S11=>?_⟩
 have hl11:Rd w11 (some p) (l.map byteV):=hl.grown S11.below
 rw [wrap_i64 (n:=(l[at_].toNat:Int)) (by omega) (by omega)] at S11
 rw [wrap_i64 (n:=(at_:Int)+1) (by omega) (by omega)]
 have ht:takeV l (at_:Int)=(if l[at_].toNat=0 then some ((0,0,E0),at_+1)
   else if l[at_].toNat=1 then (takeN l ((at_:Int)+1)).map fun x=>((1,unzig x.1,E0),x.2)
   else if l[at_].toNat=2 then (if (at_:Int)+1<l.length∧(l.getD (at_+1) 0).toNat≤1 then some ((2,((l.getD (at_+1) 0).toNat:Int),E0),at_+2) else none)
   else if l[at_].toNat=3 then (takeT l ((at_:Int)+1) 1024).map fun x=>((3,0,sof x.1),x.2)
   else none):=by
  unfold takeV
  rw [if_neg (by omega),Int.toNat_natCast,hg]
 generalize hkk:l[at_].toNat=kk at ht S11 hcc
 refine⟨fun s w18=>∃(nx e:Int) (v:Val),s=[.int .i64 nx,.int .i64 e]∧SH (fun _=>False) w w18 [(b12,#[.int .i64 v.1,.int .i64 v.2.1,.string v.2.2],ty.api_Value),(b3,#[.int .i64 0,.int .i64 0,.string E0],ty.api_Value)] ∧
   (e≠0→takeV l (at_:Int)=none)∧(e=0→rightB v=false→takeV l (at_:Int)=none)∧(e=0→rightB v=true→∃ k:Nat,nx=k∧takeV l (at_:Int)=some (v,k)),?_,?_⟩
 ·refine⟨_,S11.cell 0 rfl rfl,IFB_eq (fun h=>?_) (fun n0=>IFB_eq (fun h=>?_) (fun n1=>IFB_eq (fun h=>?_) (fun n2=>IFB_eq (fun h=>?_) (fun n3=>?_))))⟩
  ·have:kk=0:=by omega
   subst this
   exact⟨_,_,(0,0,E0),rfl,S11,fun h=>absurd rfl h,fun _ h=>absurd h (by decide),fun _ _=>⟨at_+1,by omega,by rw [ht];simp⟩⟩
  ·have:kk=1:=by omega
   subst this
   refine (wire_TakeSigned_ok hl11 hc (by omega) ((at_:Int)+1)).mono ?_
   rintro _ w11 ⟨_,rfl,rfl,rfl⟩
   cases ho:takeN l ((at_:Int)+1) with
   | none =>
    exact⟨_,_,_,rfl,S11.sto 0 rfl (show 1<3 by decide) fun w13 S13=>⟨_,_,(1,0,E0),rfl,S13,fun _=>by rw [ht,ho];simp,fun h=>absurd h (by decide),fun h=>absurd h (by decide)⟩⟩
   | some x =>
    obtain⟨n,k⟩:=x
    exact⟨_,_,_,rfl,S11.sto 0 rfl (show 1<3 by decide) fun w13 S13=>⟨_,_,(1,unzig n,E0),rfl,S13,fun h=>absurd rfl h,fun _ h=>absurd h (by simp [rightB]),fun _ _=>⟨k,rfl,by rw [ht,ho];simp⟩⟩⟩
  ·have:kk=2:=by omega
   subst this
   refine (wire_TakeNumber_ok hl11 hc (by omega) ((at_:Int)+1)).mono ?_
   rintro _ w11 ⟨_,rfl,rfl,rfl⟩
   have hcast:((at_:Int)+1)=((at_+1:Nat):Int):=by omega
   have hbb:=bool_byte (l:=l) (at_:=at_+1)
   cases ho:takeN l ((at_:Int)+1) with
   | none =>
    refine⟨_,_,_,rfl,S11.sto 0 rfl (show 1<3 by decide) fun w13 S13=>⟨_,_,(2,IntKind.i64.wrap 0,E0),rfl,S13,fun _=>?_,fun h=>absurd h (by decide),fun h=>absurd h (by decide)⟩⟩
    rw [ht]
    simp only [if_neg (show ¬ (2:Nat)=0 by decide),if_neg (show ¬ (2:Nat)=1 by decide),if_true]
    rw [if_neg]
    rintro⟨q1,q2⟩
    obtain⟨n,k,q3,_⟩:=hbb.2 ⟨by omega,q2⟩
    rw [← hcast,ho] at q3
    cases q3
   | some x =>
    obtain⟨n,k⟩:=x
    have hn:=(takeN_bounds ho).1
    refine⟨_,_,_,rfl,S11.sto 0 rfl (show 1<3 by decide) fun w13 S13=>⟨_,_,(2,IntKind.i64.wrap (n:Int),E0),rfl,S13,fun h=>absurd rfl h,fun _ hf=>?_,fun _ hr=>?_⟩⟩
    ·rw [ht]
     simp only [if_neg (show ¬ (2:Nat)=0 by decide),if_neg (show ¬ (2:Nat)=1 by decide),if_true]
     rw [if_neg]
     rintro⟨q1,q2⟩
     obtain⟨n',k',q3,q4⟩:=hbb.2 ⟨by omega,q2⟩
     rw [← hcast,ho] at q3
     cases q3
     rcases q4 with rfl | rfl
     ·exact absurd hf (by decide)
     ·exact absurd hf (by decide)
    ·have h01:n=0∨n=1:=by
      have:=right_kind hr
      simp only at this
      rw [wrap_i64_def] at this
      split at this <;> omega
     obtain⟨q1,q2⟩:=bool_byte.1 ⟨n,k,hcast ▸ ho,h01⟩
     obtain⟨q3,q4⟩:=bool_next (hcast ▸ ho) h01
     refine⟨k,rfl,?_⟩
     rw [ht]
     simp only [if_neg (show ¬ (2:Nat)=0 by decide),if_neg (show ¬ (2:Nat)=1 by decide),if_true]
     rw [if_pos ⟨by omega,q2⟩,← q3,wrap_i64 (by omega) (by omega),q4]
  ·have:kk=3:=by omega
   subst this
   refine (wire_TakeText_any hl11 hc (by omega) ((at_:Int)+1) 1024).mono ?_
   rintro _ w11 ⟨_,rfl,rfl,rfl⟩
   cases ho:takeT l ((at_:Int)+1) 1024 with
   | none =>
    exact⟨_,_,_,rfl,S11.sto 0 rfl (show 2<3 by decide) fun w13 S13=>⟨_,_,(3,0,E0),rfl,S13,fun _=>by rw [ht,ho];simp,fun h=>absurd h (by decide),fun h=>absurd h (by decide)⟩⟩
   | some x =>
    obtain⟨s,k⟩:=x
    have hsz:s.length≤1024:=by
     unfold takeT at ho
     split at ho
     ·split at ho
      ·cases ho
      ·simp only [Option.some.injEq,Prod.mk.injEq] at ho
       rw [← ho.1,List.length_take]
       omega
     ·cases ho
    exact⟨_,_,_,rfl,S11.sto 0 rfl (show 2<3 by decide) fun w13 S13=>⟨_,_,(3,0,sof s),rfl,S13,fun h=>absurd rfl h,fun _ h=>absurd h (by simp [rightB,size_sof,hsz]),fun _ _=>⟨k,rfl,by rw [ht,ho];simp⟩⟩⟩
  ·have hno:takeV l (at_:Int)=none:=by rw [ht,if_neg (by omega),if_neg (by omega),if_neg (by omega),if_neg (by omega)]
   refine⟨_,_,((kk:Int),0,E0),rfl,S11,fun _=>hno,fun _ _=>hno,fun _ h=>?_⟩
   exfalso
   have:=right_kind h
   simp only at this
   omega
 ·rintro _ _ w18 ⟨nx,e,v,hs',S18,g1,g2,g3⟩
  cases hs'
  refine IFB_ne (fun h=>S18.res3 1 rfl fun w4 S4=>⟨by rw [g1 h];rfl,S4.below⟩) (fun h=>S18.v3 0 rfl ((value_Right_ok w18 v).mono ?_))
  rintro _ w22 ⟨_,rfl,rfl,B22⟩
  have S22:=S18.grown B22
  refine⟨_,rfl,IFB_not (IFB_of (fun hr=>S22.v3 0 rfl (S22.res3 1 rfl fun w4 S4=>⟨?_,S4.below⟩)) (fun hr=>S22.res3 1 rfl fun w4 S4=>⟨by rw [g2 h hr];rfl,S4.below⟩))⟩
  obtain⟨k,rfl,hk⟩:=g3 h hr
  rw [hk]
  rfl
end
end Go.Proofs.YtipgnehlihmdhaaGreatDoor
namespace Go.Dn
set_option maxRecDepth 100000
open Go.RowKit (Below)
structure It where
 blk:Option Nat
 ok:World→Prop
 st:∀ w w',(∀ k,blk=some k→w'.heap[k]?=w.heap[k]?)→ok w→ok w'
 lt:∀ w,ok w→∀ k,blk=some k→k<w.heap.size
def It.obj(b:Nat)(o:Obj):It where
 blk:=some b
 ok:=fun w=>w.heap[b]?=some o
 st:=fun w w' h h0=>(h b rfl).trans h0
 lt:=fun w h k hk=>by cases hk;exact (Array.getElem?_eq_some_iff.1 h).1
def It.cells(b:Nat)(cs:Array Value)(t:TypeId):It:=It.obj b (.cells cs t (0,0))
def It.row(e:TypeId)(sz:Nat)(a:Option Addr)(n c:Nat)(xs:List Value):It where
 blk:=rowB a
 ok:=fun w=>Row w e sz a n c xs
 st:=fun w w' h h0=>by
  refine⟨h0.1,?_⟩
  rcases h0.2 with h1 | ⟨g,cur,rfl,hg,r⟩
  ·exact .inl h1
  ·exact .inr ⟨g,cur,rfl,(h g rfl).trans hg,r⟩
 lt:=fun w h k hk=>h.lt hk
def It.rd(a:Option Addr)(xs:List Value):It where
 blk:=match xs with | []=>none | _=>rowB a
 ok:=fun w=>Rd w a xs
 st:=fun w w' h h0=>by
  intro j v hv
  obtain⟨p,hp,hc⟩:=h0 j v hv
  subst hp
  refine⟨p,rfl,?_⟩
  cases xs with
  | nil=>simp at hv
  | cons x xs =>
   rw [World.cell?_of_block (w:=w) (by rw [addr_add_block];exact h p.block rfl)]
   exact hc
 lt:=fun w h k hk=>by
  cases xs with
  | nil=>cases hk
  | cons x xs =>
   obtain⟨p,rfl,hc⟩:=h 0 x rfl
   have:=World.block_lt_of_cell? _ _ hc
   rw [addr_add_block] at this
   cases hk
   exact this
structure ST(w0 w:World)(H:List It):Prop where
 bel:Below w0.heap.size w0 w
 ok:∀ x∈H,x.ok w
 nd:H.Pairwise (fun x y=>∀ k,x.blk=some k→y.blk≠some k)
 own:∀ x∈H,∀ k,x.blk=some k→w0.heap.size≤k
section
variable {w0 w:World}{H:List It}
theorem ST.start(w:World):ST w w []:=⟨.refl _ _,by simp,by simp,by simp⟩
theorem ST.get(S:ST w0 w H)(n:Nat){x:It}(hn:H[n]?=some x):x.ok w:=S.ok x (List.mem_of_getElem? hn)
theorem ST.grown(S:ST w0 w H){w':World}(h:Below w.heap.size w w'):ST w0 w' H where
 bel:=S.bel.trans (h.mono S.bel.size)
 ok:=fun x hx=>x.st w w' (fun k hk=>h.block k (x.lt w (S.ok x hx) k hk)) (S.ok x hx)
 nd:=S.nd
 own:=S.own
theorem ST.add(S:ST w0 w H){w':World}(h:Below w.heap.size w w')(y:It)(hy:y.ok w')(hb:∀ k,y.blk=some k→w.heap.size≤k):ST w0 w' (y :: H) where
 bel:=(S.grown h).bel
 ok:=fun x hx=>by
  rcases List.mem_cons.1 hx with rfl | hx
  ·exact hy
  ·exact (S.grown h).ok x hx
 nd:=List.pairwise_cons.2 ⟨fun x hx k hk hk'=>by have:=x.lt w (S.ok x hx) k hk';have:=hb k hk;omega,S.nd⟩
 own:=fun x hx k hk=>by
  rcases List.mem_cons.1 hx with rfl | hx
  ·exact Nat.le_trans S.bel.size (hb k hk)
  ·exact S.own x hx k hk
theorem pair_ne{l:List It}(h:l.Pairwise (fun x y=>∀ k,x.blk=some k→y.blk≠some k)){i j:Nat}{x y:It}(hi:l[i]?=some x)(hj:l[j]?=some y)(hne:i≠j){k:Nat}(hk:x.blk=some k):y.blk≠some k:=by
 obtain⟨h1,rfl⟩:=List.getElem?_eq_some_iff.1 hi
 obtain⟨h2,rfl⟩:=List.getElem?_eq_some_iff.1 hj
 rcases Nat.lt_or_gt_of_ne hne with hlt | hlt
 ·exact (List.pairwise_iff_getElem.1 h) i j h1 h2 hlt k hk
 ·intro he
  exact (List.pairwise_iff_getElem.1 h) j i h2 h1 hlt k he hk
theorem ST.chg(S:ST w0 w H)(n:Nat){x:It}(hn:H[n]?=some x){w':World}(K:Keeps (fun k=>x.blk=some k) w w')(y:It)(hy:y.ok w')(hb:∀ k,y.blk=some k→x.blk=some k∨w.heap.size≤k):ST w0 w' (H.set n y) where
 bel:=S.bel.trans (K.below S.bel.size fun k hk h=>by have:=S.own x (List.mem_of_getElem? hn) k h;omega)
 ok:=by
  intro z hz
  obtain⟨i,hi⟩:=List.mem_iff_getElem?.1 hz
  by_cases hin:n=i
  ·subst hin
   rw [List.getElem?_set_self (List.getElem?_eq_some_iff.1 hn).1] at hi
   cases hi
   exact hy
  ·rw [List.getElem?_set_ne hin] at hi
   have hz':=S.ok z (List.mem_of_getElem? hi)
   refine z.st w w' (fun k hk=>K.block k (z.lt w hz' k hk) ?_) hz'
   exact fun h=>pair_ne S.nd hi hn (Ne.symm hin) hk h
 nd:=by
  refine List.pairwise_iff_getElem.2 fun i j hi hj hij k hk hk'=>?_
  rw [List.length_set] at hi hj
  have hni:=(List.getElem?_eq_some_iff.1 hn).1
  have old:∀ {i j:Nat} (hi:i<H.length) (hj:j<H.length),i≠j→H[i].blk=some k→H[j].blk≠some k:=fun hi hj hne h=>pair_ne S.nd (List.getElem?_eq_getElem hi) (List.getElem?_eq_getElem hj) hne h
  have hx:H[n]=x:=(List.getElem?_eq_some_iff.1 hn).2
  have far:∀ {j:Nat} (hj:j<H.length),j≠n→H[j].blk=some k→y.blk≠some k:=fun {j} hj hne h h'=>by
   rcases hb k h' with h2 | h2
   ·rw [← hx] at h2
    exact old hni hj (Ne.symm hne) h2 h
   ·have:=H[j].lt w (S.ok _ (List.getElem_mem hj)) k h
    omega
  by_cases h1:n=i
  ·subst h1
   rw [List.getElem_set_self] at hk
   rw [List.getElem_set_ne (by omega)] at hk'
   exact far hj (by omega) hk' hk
  ·rw [List.getElem_set_ne h1] at hk
   by_cases h2:n=j
   ·subst h2
    rw [List.getElem_set_self] at hk'
    exact far hi (by omega) hk hk'
   ·rw [List.getElem_set_ne h2] at hk'
    exact old hi hj (by omega) hk hk'
 own:=by
  intro z hz k hk
  obtain⟨i,hi⟩:=List.mem_iff_getElem?.1 hz
  by_cases hin:n=i
  ·subst hin
   rw [List.getElem?_set_self (List.getElem?_eq_some_iff.1 hn).1] at hi
   cases hi
   rcases hb k hk with h | h
   ·exact S.own x (List.mem_of_getElem? hn) k h
   ·exact Nat.le_trans S.bel.size h
  ·rw [List.getElem?_set_ne hin] at hi
   exact S.own z (List.mem_of_getElem? hi) k hk
theorem ST.sub(S:ST w0 w H){H':List It}(h:H'.Sublist H):ST w0 w H':=⟨S.bel,fun x hx=>S.ok x (h.subset hx),S.nd.sublist h,fun x hx=>S.own x (h.subset hx)⟩
theorem ST.drop(S:ST w0 w H)(n:Nat):ST w0 w (H.drop n):=S.sub (List.drop_sublist _ _)
theorem ST.perm(S:ST w0 w H){H':List It}(h:H.Perm H'):ST w0 w H' :=
 ⟨S.bel,fun x hx=>S.ok x (h.mem_iff.2 hx),(h.pairwise_iff (fun h k hk hk'=>h k hk' hk)).1 S.nd,fun x hx=>S.own x (h.mem_iff.2 hx)⟩
theorem ST.pull(S:ST w0 w H)(n:Nat){x:It}(hn:H[n]?=some x):ST w0 w (x :: H.eraseIdx n) where
 bel:=S.bel
 ok:=fun y hy=>by
  rcases List.mem_cons.1 hy with rfl | hy
  ·exact S.get n hn
  ·exact S.ok y (List.mem_of_mem_eraseIdx hy)
 nd:=by
  refine List.pairwise_cons.2 ⟨fun y hy k hk hk'=>?_,S.nd.sublist (List.eraseIdx_sublist ..)⟩
  obtain⟨i,hi,hne⟩:=List.mem_eraseIdx_iff_getElem?.1 hy
  exact pair_ne S.nd hn hne (Ne.symm hi) hk hk'
 own:=fun y hy=>by
  rcases List.mem_cons.1 hy with rfl | hy
  ·exact S.own _ (List.mem_of_getElem? hn)
  ·exact S.own y (List.mem_of_mem_eraseIdx hy)
theorem ST.join(S:ST w0 w H){w':World}{P:List It}(T:ST w w' P):ST w0 w' (P++H) where
 bel:=S.bel.trans (T.bel.mono S.bel.size)
 ok:=fun x hx=>by
  rcases List.mem_append.1 hx with h | h
  ·exact T.ok x h
  ·exact (S.grown T.bel).ok x h
 nd:=List.pairwise_append.2 ⟨T.nd,S.nd,fun x hx y hy k hk hk'=>by have:=T.own x hx k hk;have:=y.lt w (S.ok y hy) k hk';omega⟩
 own:=fun x hx k hk=>by
  rcases List.mem_append.1 hx with h | h
  ·exact Nat.le_trans S.bel.size (T.own x h k hk)
  ·exact S.own x h k hk
theorem ST.newB(S:ST w0 w H){cs:Array Value}{t:TypeId}{k:Nat→World→Prop}(hk:∀ b w',w.heap.size≤b→Below w.heap.size w w'→ST w0 w' (It.cells b cs t :: H)→k b w'):NEWB cs t k w :=
 hk _ _ (Nat.le_refl _) ((Below.refl _ w).alloc (Nat.le_refl _) _) (S.add ((Below.refl _ w).alloc (Nat.le_refl _) _) _ (heap_alloc_new w _) (fun k hk=>by cases hk;exact Nat.le_refl _))
theorem ST.draw(S:ST w0 w H){k:World→Prop}(hk:∀ w',Below w.heap.size w w'→ST w0 w' H→k w'):DRAW k w:=hk _ ((Below.refl _ w).drew) (S.grown ((Below.refl _ w).drew))
theorem ST.cell(S:ST w0 w H)(n:Nat){b:Nat}{cs:Array Value}{t:TypeId}(hn:H[n]?=some (It.cells b cs t)){i:Nat}{v:Value}(hv:cs[i]?=some v):w.cell? ⟨b,i,none⟩=some v:=by
 have:w.heap[b]?=some (.cells cs t (0,0)):=S.get n hn
 simp [World.cell?,this,hv]
theorem ST.blk(S:ST w0 w H)(n:Nat){b:Nat}{cs:Array Value}{t:TypeId}(hn:H[n]?=some (It.cells b cs t)):w.heap[b]?=some (.cells cs t (0,0)):=S.get n hn
theorem ST.rdc(S:ST w0 w H)(n:Nat){b:Nat}{cs:Array Value}{t:TypeId}(hn:H[n]?=some (It.cells b cs t)):Rd w (some ⟨b,0,none⟩) cs.toList:=Rd.of_block0 (S.blk n hn)
theorem ST.rw(S:ST w0 w H)(n:Nat){e:TypeId}{sz:Nat}{a:Option Addr}{m c:Nat}{xs:List Value}(hn:H[n]?=some (It.row e sz a m c xs)):Row w e sz a m c xs:=S.get n hn
theorem ST.rd(S:ST w0 w H)(n:Nat){e:TypeId}{sz:Nat}{a:Option Addr}{m c:Nat}{xs:List Value}(hn:H[n]?=some (It.row e sz a m c xs)):Rd w a xs:=(S.rw n hn).rd
theorem ST.sto(S:ST w0 w H)(n:Nat){b:Nat}{cs cs':Array Value}{t:TypeId}(hn:H[n]?=some (It.cells b cs t)){i:Nat}{v:Value}{k:World→Prop}(hi:i<cs.size)(hc:cs.setIfInBounds i v=cs')
  (hk:∀ w',ST w0 w' (H.set n (It.cells b cs' t))→k w'):STO ⟨b,i,none⟩ v k w:=by
 subst hc
 have hb:=S.blk n hn
 refine⟨by rw [S.cell n hn (Array.getElem?_eq_getElem hi)];rfl,by simp [World.frozen?,hb],hk _ (S.chg n hn ((keeps_setCell w b i v).mono fun k _ h=>by subst h;rfl) _ (heap_setCell_at hb v) (fun k hk=>.inl hk))⟩
theorem ST.stoAll(S:ST w0 w H)(n:Nat){b:Nat}{cs:Array Value}{t:TypeId}(hn:H[n]?=some (It.cells b cs t)){vs:List Value}(hl:vs.length=cs.size)(h1:∀ v∈vs,v.oneCell'=true)
  {k:World→Prop} (hk:∀ w',ST w0 w' (H.set n (It.cells b ⟨vs⟩ t))→k w'):STOREC vs ⟨b,0,none⟩ 0 k w :=
 STOREC_blk vs (S.blk n hn) (by omega) h1 fun w' K hb=>hk w' (S.chg n hn (K.mono fun k _ h=>by subst h;rfl) _ (by rw [splice_all vs cs hl] at hb;exact hb) (fun k hk=>.inl hk))
theorem ST.lit3(S:ST w0 w H){z0 z1 z2 v0 v1 v2:Value}{t:TypeId}{k:Nat→World→Prop}(hk:∀ b w',w.heap.size≤b→ST w0 w' (It.cells b #[v0,v1,v2] t :: H)→k b w') :
  NEWB #[z0,z1,z2] t (fun b w=>STO ⟨b,0,none⟩ v0 (fun w=>STO ⟨b,1,none⟩ v1 (fun w=>STO ⟨b,2,none⟩ v2 (fun w=>k b w) w) w) w) w :=
 S.newB fun b w1 hb _ S1=>S1.sto 0 rfl (cs':=#[v0,z1,z2]) (by simp) rfl fun w2 S2=>S2.sto 0 rfl (cs':=#[v0,v1,z2]) (by simp) rfl fun w3 S3=>S3.sto 0 rfl (cs':=#[v0,v1,v2]) (by simp) rfl fun w4 S4=>hk b w4 hb S4
theorem ST.sto7(S:ST w0 w H)(n:Nat){b:Nat}{x0 x1 x2 x3 x4 x5 x6 v0 v1 v2 v3 v4 v5 v6:Value}{t:TypeId}(hn:H[n]?=some (It.cells b #[x0,x1,x2,x3,x4,x5,x6] t)){k:World→Prop}
  (hk:∀ w',ST w0 w' (H.set n (It.cells b #[v0,v1,v2,v3,v4,v5,v6] t))→k w') :
  STO ⟨b,0,none⟩ v0 (fun w=>STO ⟨b,1,none⟩ v1 (fun w=>STO ⟨b,2,none⟩ v2 (fun w=>STO ⟨b,3,none⟩ v3 (fun w=>STO ⟨b,4,none⟩ v4 (fun w=>STO ⟨b,5,none⟩ v5 (fun w=>STO ⟨b,6,none⟩ v6 k w) w) w) w) w) w) w:=by
 have hlt:=(List.getElem?_eq_some_iff.1 hn).1
 refine S.sto n hn (cs':=#[v0,x1,x2,x3,x4,x5,x6]) (by simp) rfl fun w1 S1=>?_
 refine S1.sto n (List.getElem?_set_self hlt) (cs':=#[v0,v1,x2,x3,x4,x5,x6]) (by simp) rfl fun w2 S2=>?_
 rw [List.set_set] at S2
 refine S2.sto n (List.getElem?_set_self hlt) (cs':=#[v0,v1,v2,x3,x4,x5,x6]) (by simp) rfl fun w3 S3=>?_
 rw [List.set_set] at S3
 refine S3.sto n (List.getElem?_set_self hlt) (cs':=#[v0,v1,v2,v3,x4,x5,x6]) (by simp) rfl fun w4 S4=>?_
 rw [List.set_set] at S4
 refine S4.sto n (List.getElem?_set_self hlt) (cs':=#[v0,v1,v2,v3,v4,x5,x6]) (by simp) rfl fun w5 S5=>?_
 rw [List.set_set] at S5
 refine S5.sto n (List.getElem?_set_self hlt) (cs':=#[v0,v1,v2,v3,v4,v5,x6]) (by simp) rfl fun w6 S6=>?_
 rw [List.set_set] at S6
 refine S6.sto n (List.getElem?_set_self hlt) (cs':=#[v0,v1,v2,v3,v4,v5,v6]) (by simp) rfl fun w7 S7=>?_
 rw [List.set_set] at S7
 exact hk w7 S7
theorem ST.nil(S:ST w0 w H)(e:TypeId)(sz:Nat):ST w0 w (It.row e sz none 0 0 [] :: H):=S.add (.refl _ _) _ (Row.nil w e sz) (fun k hk=>by cases hk)
theorem ST.app(S:ST w0 w H)(n:Nat){P:Program}{t ty e:TypeId}{sz bytes:Nat}{z:Value}{a:Option Addr}{m c:Nat}{xs:List Value}(hn:H[n]?=some (It.row e sz a m c xs))(hT:slT P t=some (e,sz,bytes,z))(hz:z.cells.size=sz)(hsz:0<sz)(hb0:0<bytes)
  {b:Option Addr} {mm mc:Nat} {news:List Value} (hs:Rd w b news) (hl:news.length=mm*sz) (h1:∀ u∈news,u.oneCell'=true) (hby:(m+mm)*bytes≤140737488355328) {f:Value→World→Prop}
  (hf:∀ a' c' w',ST w0 w' (H.set n (It.row e sz a' (m+mm) c' (xs++news)))→f (.slice a' (m+mm) c') w'):OPR P (Builtin.append_ #[t,t] ty #[.slice a m c,.slice b mm mc]) f w:=by
 obtain⟨a',c',w',hrun,hrow,hk,hnew⟩:=append_row (ty:=ty) (mc:=mc) hT hz hsz hb0 (S.rw n hn) hs hl h1 hby
 unfold OPR
 rw [hrun]
 exact hf a' c' w' (S.chg n hn hk _ hrow hnew)
theorem ST.range(S:ST w0 w H)(rr:Loop):ST w0 ((w.alloc (.deferred (some []))).alloc (.loop rr)) (It.obj (w.heap.size+1) (.loop rr) :: It.obj w.heap.size (.deferred (some [])) :: H):=by
 have B1:Below w.heap.size w (w.alloc (.deferred (some []))):=(Below.refl _ w).alloc (Nat.le_refl _) _
 have S1:=S.add B1 (It.obj w.heap.size (.deferred (some []))) (heap_alloc_new w _) (fun k hk=>by cases hk;exact Nat.le_refl _)
 have S2:=S1.add ((Below.refl _ _).alloc (Nat.le_refl _) (.loop rr)) (It.obj (w.alloc (.deferred (some []))).heap.size (.loop rr)) (heap_alloc_new _ _) (fun k hk=>by cases hk;exact Nat.le_refl _)
 rwa [World.size_alloc] at S2
theorem keeps_put(w:World)(l:Nat)(o:Obj):Keeps (·=l) w (w.putObj l o):=⟨rfl,rfl,rfl,by simp,fun k _ hn=>World.putObj_heap_other hn⟩
theorem ST.put(S:ST w0 w H)(n:Nat){b:Nat}{o:Obj}(hn:H[n]?=some (It.obj b o))(o':Obj):ST w0 (w.putObj b o') (H.set n (It.obj b o')) :=
 S.chg n hn ((keeps_put w b o').mono fun k _ h=>by subst h;rfl) _ (World.putObj_heap_same (Array.getElem?_eq_some_iff.1 (S.get n hn)).1) (fun k hk=>.inl hk)
theorem ST.begr(S:ST w0 w H)(n:Nat){L:Nat}{rr:Loop}(hn:H[n]?=some (It.obj L (.loop rr))){k:World→Prop}(hk:∀ w',ST w0 w' (H.set n (It.obj L (.loop { rr with state:=.busy })))→k w'):BEGR rr L k w :=
 ⟨S.get n hn,hk _ (S.put n hn _)⟩
theorem Rd.putLoop{w:World}{a:Option Addr}{xs:List Value}(h:Rd w a xs){L:Nat}{rr:Loop}(hL:w.heap[L]?=some (.loop rr))(o:Obj):Rd (w.putObj L o) a xs:=by
 intro j v hv
 obtain⟨p,hp,hc⟩:=h j v hv
 refine⟨p,hp,(keeps_put w L o).cell hc ?_⟩
 intro he
 have he':(p.add j).block=L:=he
 simp [World.cell?,he',hL] at hc
theorem ST.begrK(S:ST w0 w H)(n:Nat){L:Nat}{rr:Loop}(hn:H[n]?=some (It.obj L (.loop rr))){k:World→Prop}(hk:∀ w',(∀ a xs,Rd w a xs→Rd w' a xs)→ST w0 w' (H.set n (It.obj L (.loop { rr with state:=.busy })))→k w'):BEGR rr L k w :=
 ⟨S.get n hn,hk _ (fun _ _ h=>h.putLoop (S.get n hn) _) (S.put n hn _)⟩
theorem ST.keep{x:It}(S:ST w0 w (x :: H))(n:Nat):ST w0 w (x :: H.drop n):=S.sub ((List.drop_sublist n H).cons_cons x)
theorem rr_same{rr:Loop}(h1:rr.state=.ready)(h2:rr.pending=none):({ rr with state:=if (none:Option Code).isNone then .ready else .done,pending:=none }:Loop)=rr:=by
 cases rr
 simp_all
theorem ST.endr0(S:ST w0 w H)(n:Nat){L:Nat}{rr:Loop}(h1:rr.state=.ready)(h2:rr.pending=none)(hn:H[n]?=some (It.obj L (.loop { rr with state:=.busy }))){k:Bool→World→Prop}(hk:∀ w',ST w0 w' (H.set n (It.obj L (.loop rr)))→k true w'):ENDR rr L k none w:=by
 refine⟨S.get n hn,?_⟩
 have:=S.put n hn (.loop { rr with state:=if (none:Option Code).isNone then .ready else .done,pending:=none })
 rw [rr_same h1 h2] at this ⊢
 exact hk _ this
theorem ST.endr1(S:ST w0 w H)(n:Nat){L:Nat}{rr:Loop}{j:Code}(hn:H[n]?=some (It.obj L (.loop { rr with state:=.busy }))){k:Bool→World→Prop}(hk:∀ w',ST w0 w' (H.set n (It.obj L (.loop { rr with state:=.done,pending:=some j })))→k false w'):ENDR rr L k (some j) w :=
 ⟨S.get n hn,hk _ (S.put n hn _)⟩
theorem ST.endl0(S:ST w0 w H)(n:Nat){L:Nat}{rr:Loop}(h1:rr.state=.ready)(h2:rr.pending=none)(hn:H[n]?=some (It.obj L (.loop rr))){k:Option Code→World→Prop}(hk:∀ w',ST w0 w' (H.set n (It.obj L (.loop { rr with state:=.exhausted,pending:=none })))→k none w'):ENDL rr L k w :=
 ⟨none,by rw [rr_same h1 h2];exact S.get n hn,hk _ (S.put n hn _)⟩
theorem ST.endl1(S:ST w0 w H)(n:Nat){L:Nat}{rr:Loop}{j:Code}(hn:H[n]?=some (It.obj L (.loop { rr with state:=.done,pending:=some j }))){k:Option Code→World→Prop}(hk:∀ w',ST w0 w' (H.set n (It.obj L (.loop { rr with state:=.exhausted,pending:=some j })))→k (some j) w'):ENDL rr L k w :=
 ⟨some j,S.get n hn,hk _ (S.put n hn _)⟩
theorem YLD.mono{P:Program}{l:Nat}{args:Array Value}{k k':Bool→World→Prop}{w:World}(h:YLD P l args k w)(hk:∀ y w',k y w'→k' y w'):YLD P l args k' w:=by
 obtain⟨f,tm,asg,bo,hy,hr⟩:=h
 refine⟨f,tm,asg,bo,hy,hr.mono ?_⟩
 rintro e w' ⟨t,he,h⟩
 exact⟨t,he,hk t w' h⟩
end
end Go.Dn
namespace Go.Proofs.YtipgnehlihmdhaaGreatDoor
set_option maxRecDepth 100000
open Go.Dn Go.Proofs
open Go.RowKit (Below)
set_option linter.unusedVariables false
def fitV(c:Col)(v:Val):Bool:=rightB v && (decide (v.1=c.2.1) || (c.2.2 && decide (v.1=0)))
def fitL(cs:List Col)(row:List Val):Bool:=(cs.zip row).all fun p=>fitV p.1 p.2
def fitsB(cs:List Col)(row:List Val):Bool:=decide (row.length=cs.length) && fitL cs row
theorem fitL_bad{cs:List Col}{row:List Val}{i:Nat}(h1:i<cs.length)(h2:i<row.length)(h:fitV cs[i] row[i]=false):fitL cs row=false:=by
 unfold fitL
 rw [List.all_eq_false]
 exact⟨(cs[i],row[i]),List.mem_iff_getElem.2 ⟨i,by simp;omega,by simp⟩,by simp [h]⟩
theorem fitL_all{cs:List Col}{row:List Val}(h:∀ i (h1:i<cs.length) (h2:i<row.length),fitV cs[i] row[i]=true):fitL cs row=true:=by
 unfold fitL
 rw [List.all_eq_true]
 intro p hp
 obtain⟨i,hi,rfl⟩:=List.mem_iff_getElem.1 hp
 simp only [List.length_zip] at hi
 simp only [List.getElem_zip]
 exact h i (by omega) (by omega)
section
variable {w:World}{a a2:Option Addr}{c c2:Nat}{cs:List Col}{row:List Val}
def colV(c:Col):Value:=.agg #[.string c.1,.int .i64 c.2.1,.bool c.2.2]
theorem pairs_c1_ok{L b1 b2:Nat}(hn:cs.length≤9223372036854775807)(hr:row.length=cs.length)(J:Nat→World→Prop)(D:World→Prop)(hrd:∀ k w,J k w→Rd w a (colsL cs)∧Rd w a2 (valsL row)∧w.cell? ⟨b2,0,none⟩=some (.slice a2 row.length c2))
  (hgrow:∀ k w w',J k w→Below w.heap.size w w'→J k w') (hstep:∀ k w (h1:k<cs.length) (h2:k<row.length),J k w→YLD Tryz.prog L #[colV cs[k],valV row[k]] (fun y w'=>(y=true∧J (k+1) w')∨(y=false∧D w')) w)
  (h0:J 0 w) (hb:w.cell? ⟨b1,0,none⟩=some (.slice a cs.length c)) :
  Calls Tryz.prog f.schema_pairs_c1 #[.func (.yield L) #[] #[],.pointer (some ⟨b1,0,none⟩),.pointer (some ⟨b2,0,none⟩)] w (Ret fun _ w'=>J cs.length w'∨D w'):=by
 apply R.schema_pairs_c1_calls
 unfold R.schema_pairs_c1
 refine⟨_,_,_,hb,fun s w1=>∃ k:Nat,k≤cs.length∧s=[.int .i64 (k:Int)]∧J k w1,fun s _=>match s with
   | [.int _ i]=>cs.length-i.toNat
   | _=>0,⟨0,by omega,rfl,h0⟩,?_⟩
 rintro _ w1 ⟨k,hk,hst,hj⟩
 cases hst
 refine IFB_dec (fun hlt=>⟨⟨by omega,hlt⟩,?_⟩) (fun hge=>?_)
 ·have hkl:k<cs.length:=by omega
  have hkr:k<row.length:=by omega
  obtain⟨p,rfl,c0,c1,c2⟩:=col_at (hrd _ _ hj).1 hkl
  refine⟨_,by rw [Int.toNat_natCast];exact c0,_,by rw [Int.toNat_natCast];exact c1,_,by rw [Int.toNat_natCast];exact c2,(ST.start w1).lit3 fun b9 w5 hb9 S5=>S5.draw fun w6 B6 S6=>?_⟩
  have hj6:=hgrow _ _ _ hj S6.bel
  obtain⟨_,r2,r3⟩:=hrd _ _ hj6
  obtain⟨q,rfl,d0,d1,d2⟩:=val_at r2 hkr
  refine⟨_,S6.cell 0 rfl rfl,_,S6.cell 0 rfl rfl,_,S6.cell 0 rfl rfl,_,_,_,r3,⟨by omega,by omega⟩,_,by rw [Int.toNat_natCast];exact d0,_,by rw [Int.toNat_natCast];exact d1,_,by rw [Int.toNat_natCast];exact d2,?_⟩
  rw [wrap_succ (by omega)]
  have mes:cs.length-((k+1:Nat):Int).toNat<cs.length-((k:Nat):Int).toNat:=by
   simp only [Int.toNat_natCast]
   omega
  refine (hstep k w6 hkl hkr hj6).mono ?_
  rintro y w7 (⟨rfl,h⟩ | ⟨rfl,h⟩)
  ·exact IFB_false ⟨⟨k+1,by omega,rfl,h⟩,mes⟩
  ·exact IFB_true (.inr h)
 ·have:k=cs.length:=by omega
  subst this
  exact .inl hj
theorem schema_pairs_ok:Calls Tryz.prog f.schema_pairs #[.slice a cs.length c,.slice a2 row.length c2] w (Ret fun v w'=>∃ b1 b2,v=.func (.func f.schema_pairs_c1) #[] #[.pointer (some ⟨b1,0,none⟩),.pointer (some ⟨b2,0,none⟩)] ∧
  ST w w' [It.cells b2 #[.slice a2 row.length c2] ty.api_Row,It.cells b1 #[.slice a cs.length c] ty.L_api_Column]):=by
 apply R.schema_pairs_calls
 unfold R.schema_pairs
 exact (ST.start w).newB fun b1 w1 _ _ S1=>S1.newB fun b2 w2 _ _ S2=>⟨b1,b2,rfl,S2⟩
theorem schema_fits_ok(hl:Rd w a (colsL cs))(hn:cs.length≤9223372036854775807)(hr:Rd w a2 (valsL row)) :
  Calls Tryz.prog f.schema_fits #[.slice a cs.length c,.slice a2 row.length c2] w (Ret fun r w'=>r=.bool (fitsB cs row)∧Below w.heap.size w w'):=by
 apply R.schema_fits_calls
 unfold R.schema_fits
 refine (ST.start w).newB fun b3 w1 _ _ S1=>IFB_ne (fun h=>S1.sto 0 rfl (cs':=#[.bool false]) (by simp) rfl fun w2 S2=>⟨_,S2.cell 0 rfl rfl,?_,S2.bel⟩) (fun hlen=>?_)
 ·have:¬ row.length=cs.length:=by omega
  simp [fitsB,this]
 have hlen':row.length=cs.length:=by omega
 have hfb:fitsB cs row=fitL cs row:=by simp [fitsB,hlen']
 refine schema_pairs_ok.mono ?_
 rintro _ w3 ⟨_,rfl,b1,b2,rfl,P3⟩
 have S3:=S1.join P3
 refine⟨_,_,_,rfl,by kernel_rfl,fun rr hst hpe hy=>?_⟩
 have S4:=S3.range rr
 obtain⟨L,hL⟩:∃ L,L=w3.heap.size+1:=⟨_,rfl⟩
 obtain⟨d,hd⟩:∃ d,d=w3.heap.size:=⟨_,rfl⟩
 rw [← hL] at S4 hy ⊢
 rw [← hd] at S4 ⊢
 let St:Obj→World→Prop:=fun o wx=>ST w wx [It.obj L o,It.obj d (.deferred (some [])),It.cells b2 #[.slice a2 row.length c2] ty.api_Row,It.cells b1 #[.slice a cs.length c] ty.L_api_Column,It.cells b3 #[.bool false] ty.bool]
 let J:Nat→World→Prop:=fun q wx=>(∀ i (h1:i<cs.length) (h2:i<row.length),i<q→fitV cs[i] row[i]=true)∧St (.loop rr) wx
 let D:World→Prop:=fun wx=>fitL cs row=false∧St (.loop { rr with state:=.done,pending:=some .ret }) wx
 have hcall:=pairs_c1_ok (w:=(w3.alloc (.deferred (some []))).alloc (.loop rr)) (c:=c) (L:=L) (b1:=b1) hn hlen' J D (fun q wx hj=>⟨hl.grown hj.2.bel,hr.grown hj.2.bel,hj.2.cell 2 rfl rfl⟩) (fun q wx wy hj B=>⟨hj.1,hj.2.grown B⟩) (by
  rintro q wx h1 h2 ⟨hall,S⟩
  refine hy _ _ _ _ _ _ _ wx (S.get 0 rfl) ?_
  refine S.lit3 fun b14 w8 _ S=>S.lit3 fun b15 w12 _ S=>S.begr 2 rfl fun w13 S=>⟨_,S.cell 0 rfl rfl,_,S.cell 0 rfl rfl,_,S.cell 0 rfl rfl,(value_Right_ok w13 row[q]).mono ?_⟩
  rintro _ w14 ⟨_,rfl,rfl,B14⟩
  have S:=S.grown B14
  have good:fitV cs[q] row[q]=true→ENDR rr L (fun y w'=>(y=true∧J (q+1) w')∨(y=false∧D w')) none w14:=fun hf=>S.endr0 2 hst hpe rfl fun w' S=>.inl ⟨rfl,⟨fun i g1 g2 hi=>by
   rcases Nat.lt_or_ge i q with h | h
   ·exact hall i g1 g2 h
   ·obtain rfl:i=q:=by omega
    exact hf,S.drop 2⟩⟩
  have bad:fitV cs[q] row[q]=false→STO ⟨b3,0,none⟩ (.bool false) (fun w15=>ENDR rr L (fun y w'=>(y=true∧J (q+1) w')∨(y=false∧D w')) (some .ret) w15) w14:=fun hf=>S.sto 6 rfl (cs':=#[.bool false]) (by simp) rfl fun w15 S=>S.endr1 2 rfl fun w' S=>.inr ⟨rfl,⟨fitL_bad h1 h2 hf,S.drop 2⟩⟩
  refine⟨_,rfl,IFB_not (IFB_of (fun hR=>⟨_,S.cell 0 rfl rfl,_,S.cell 1 rfl rfl,?_⟩) (fun hR=>bad (by simp [fitV,hR])))⟩
  refine IFB_ne (fun hk=>⟨_,S.cell 1 rfl rfl,IFB_of (fun hnu=>⟨_,S.cell 0 rfl rfl,IFB_not (IFB_eq (fun hz=>good ?_) (fun hz=>bad ?_))⟩) (fun hnu=>bad ?_)⟩) (fun hk=>good ?_)
  ·simp [fitV,hR,hnu,hz]
  ·simp [fitV,hR,hk,hz]
  ·simp [fitV,hk,hnu]
  ·simp [fitV,hR,hk]) ⟨fun i _ _ h=>by omega,S4⟩ (S4.cell 3 rfl rfl)
 refine hcall.mono ?_
 rintro _ w18 ⟨_,rfl,h⟩
 refine⟨⟨_,rfl⟩,?_⟩
 rcases h with ⟨hall,S⟩ | ⟨hf,S⟩
 ·refine S.endl0 0 hst hpe rfl fun w19 S=>.inl ⟨rfl,S.sto 4 rfl (cs':=#[.bool true]) (by simp) rfl fun w20 S=>⟨S.get 1 rfl,?_⟩⟩
  have S:=S.put 1 rfl (.deferred none)
  refine⟨_,S.cell 4 rfl rfl,?_,S.bel⟩
  rw [hfb,fitL_all fun i h1 h2=>hall i h1 h2 h1]
 ·refine S.endl1 0 rfl fun w19 S=>.inr ⟨rfl,S.get 1 rfl,?_⟩
  have S:=S.put 1 rfl (.deferred none)
  refine⟨_,S.cell 4 rfl rfl,?_,S.bel⟩
  rw [hfb,hf]
theorem schema_Fits_ok(hl:Rd w a (colsL cs))(hn:cs.length≤9223372036854775807)(hq:∀ c∈cs,c.1.size≤9223372036854775807)(hr:Rd w a2 (valsL row)) :
  Calls Tryz.prog f.schema_Fits #[.slice a cs.length c,.slice a2 row.length c2] w (Ret fun r w'=>r=.bool (rightCols cs && fitsB cs row)∧Below w.heap.size w w'):=by
 apply R.schema_Fits_calls
 unfold R.schema_Fits
 refine (schema_Right_ok hl hn hq).mono ?_
 rintro _ w1 ⟨_,rfl,rfl,B1⟩
 refine⟨_,rfl,IFB_of (fun h=>(schema_fits_ok (hl.grown B1) hn (hr.grown B1)).mono ?_) (fun h=>⟨by simp [h],B1⟩)⟩
 rintro _ w2 ⟨_,rfl,rfl,B2⟩
 exact⟨_,rfl,by simp [h],below_trans B1 B2⟩
theorem ref05_Fits_ok(hl:Rd w a (colsL cs))(hn:cs.length≤9223372036854775807)(hq:∀ c∈cs,c.1.size≤9223372036854775807)(hr:Rd w a2 (valsL row)) :
  Calls Tryz.prog f.ref05_Fits #[.slice a cs.length c,.slice a2 row.length c2] w (Ret fun r w'=>r=.bool (rightCols cs && fitsB cs row)∧Below w.heap.size w w'):=by
 apply R.ref05_Fits_calls
 unfold R.ref05_Fits
 refine (ref05_Right_ok hl hn hq).mono ?_
 rintro _ w1 ⟨_,rfl,rfl,rfl⟩
 refine⟨_,rfl,IFB_not (IFB_of (fun hR=>?_) (fun h=>⟨by simp [h],.refl _ _⟩))⟩
 refine IFB_ne (fun h=>⟨?_,.refl _ _⟩) (fun hlen=>?_)
 ·have:¬ row.length=cs.length:=by omega
  simp [fitsB,this]
 have hlen':row.length=cs.length:=by omega
 have hfb:(rightCols cs && fitsB cs row)=fitL cs row:=by simp [fitsB,hlen',hR]
 rw [hfb]
 refine⟨fun s w2=>∃ k:Nat,k≤cs.length∧s=[.int .i64 (k:Int)]∧(∀ i (h1:i<cs.length) (h2:i<row.length),i<k→fitV cs[i] row[i]=true)∧Below w1.heap.size w1 w2,fun s _=>match s with
   | [.int _ i]=>cs.length-i.toNat
   | _=>0,⟨0,by omega,rfl,fun i _ _ h=>by omega,.refl _ _⟩,?_⟩
 rintro _ w2 ⟨q,hk,hst,hall,B2⟩
 cases hst
 have mes:cs.length-((q+1:Nat):Int).toNat<cs.length-((q:Nat):Int).toNat∨¬ q<cs.length:=by
  simp only [Int.toNat_natCast]
  omega
 refine IFB_dec (fun hlt=>⟨⟨by omega,hlt⟩,?_⟩) (fun hge=>⟨by rw [fitL_all fun i h1 h2=>hall i h1 h2 (by omega)],B2⟩)
 have h2:q<row.length:=by omega
 have h1:q<cs.length:=by omega
 obtain⟨p,rfl,c0,c1,c2⟩:=val_at (hr.grown B2) h2
 refine⟨_,by rw [Int.toNat_natCast];exact c0,_,by rw [Int.toNat_natCast];exact c1,_,by rw [Int.toNat_natCast];exact c2,(ref04_Right_ok w2 row[q]).mono ?_⟩
 rintro _ w3 ⟨_,rfl,rfl,B3⟩
 refine⟨_,rfl,(ST.start w3).draw fun w4 B4 _=>?_⟩
 have C4:=below_trans (below_trans B2 B3) B4
 have good:fitV cs[q] row[q]=true→(∃ k:Nat,k≤cs.length∧[Value.int .i64 (IntKind.i64.wrap ((q:Int)+1))]=[.int .i64 (k:Int)]∧(∀ i (h1:i<cs.length) (h2:i<row.length),i<k→fitV cs[i] row[i]=true)∧Below w1.heap.size w1 w4) ∧
   cs.length-(IntKind.i64.wrap ((q:Int)+1)).toNat<cs.length-(q:Int).toNat:=fun hf=>by
  rw [wrap_succ (by omega)]
  refine⟨⟨q+1,by omega,rfl,fun i g1 g2 hi=>?_,C4⟩,mes.resolve_right (by omega)⟩
  rcases Nat.lt_or_ge i q with h | h
  ·exact hall i g1 g2 h
  ·obtain rfl:i=q:=by omega
   exact hf
 have bad:fitV cs[q] row[q]=false→Value.bool false=.bool (fitL cs row)∧Below w1.heap.size w1 w4:=fun hf=>⟨by rw [fitL_bad h1 h2 hf],C4⟩
 obtain⟨p1,hp1,d0,d1,d2⟩:=val_at (hr.grown C4) h2
 cases hp1
 obtain⟨p2,rfl,e0,e1,e2⟩:=col_at (hl.grown C4) h1
 refine IFB_not (IFB_of (fun hR=>⟨⟨by omega,by omega⟩,⟨by omega,by omega⟩,_,by rw [Int.toNat_natCast];exact d0,_,by rw [Int.toNat_natCast];exact e1,?_⟩) (fun hR=>bad (by simp [fitV,hR])))
 refine IFB_ne (fun hk=>⟨⟨by omega,by omega⟩,_,by rw [Int.toNat_natCast];exact d0,IFB_ne (fun hz=>bad ?_) (fun hz=>⟨⟨by omega,by omega⟩,_,by rw [Int.toNat_natCast];exact e2,IFB_not (IFB_of (fun hnu=>good ?_) (fun hnu=>bad ?_))⟩)⟩) (fun hk=>good ?_)
 ·simp [fitV,hk,hz]
 ·simp [fitV,hR,hnu,hz]
 ·simp [fitV,hk,hnu]
 ·simp [fitV,hR,hk]
end
def bytesI(a:Option Addr)(c:Nat)(l:List UInt8):It:=It.row ty.uint8 1 a l.length c (l.map byteV)
section
variable {w0 w:World}{H:List It}{a:Option Addr}{c:Nat}{l:List UInt8}
theorem stAddB(S:ST w0 w H){w':World}(h:NewB w w' l a c):ST w0 w' (bytesI a c l :: H):=S.add h.bel _ h.row h.new
theorem stNew(S:ST w0 w H)(n:Nat)(hn:H[n]?=some (bytesI a c l)):NewB w0 w l a c:=⟨S.get n hn,fun k hk=>S.own _ (List.mem_of_getElem? hn) k hk,S.bel⟩
theorem stRdB(S:ST w0 w H)(n:Nat)(hn:H[n]?=some (bytesI a c l)):Rd w a (l.map byteV):=(stNew S n hn).rd
theorem stAppB(S:ST w0 w H)(n:Nat)(hn:H[n]?=some (bytesI a c l)){m:List UInt8}{b:Option Addr}{mc:Nat}(hs:Rd w b (m.map byteV))(hl:l.length+m.length≤140737488355328){f:Value→World→Prop}
  (hf:∀ a' c' w',ST w0 w' (H.set n (bytesI a' c' (l++m)))→f (.slice a' (l++m).length c') w') :
  OPR Tryz.prog (Builtin.append_ #[ty.L_uint8,ty.L_uint8] ty.L_uint8 #[.slice a l.length c,.slice b m.length mc]) f w :=
 append_bytes (S.get n hn) hs hl fun a' c' w' hr hk hn'=>hf a' c' w' (S.chg n hn hk _ hr hn')
end
def flagB(b:Bool):UInt8:=if b then 1 else 0
def colB(c:Col):List UInt8:=textL c.1++[UInt8.ofNat c.2.1.toNat,flagB c.2.2]
def schL(cs:List Col):List UInt8:=digitsL cs.length++cs.flatMap colB
theorem right_len{cs:List Col}(h:rightCols cs=true):1≤cs.length∧cs.length≤16:=by
 simp [rightCols] at h
 exact h.1.1
theorem right_col{cs:List Col}(h:rightCols cs=true){c:Col}(hc:c∈cs):isNameB c.1=true∧1≤c.2.1∧c.2.1≤3∧c.1.size≤24:=by
 simp only [rightCols,Bool.and_eq_true,List.all_eq_true] at h
 have:=h.1.2 c hc
 simp only [colOk,Bool.and_eq_true,decide_eq_true_eq] at this
 have hn:=this.1
 simp only [isNameB,Bool.and_eq_true,decide_eq_true_eq] at hn
 exact⟨this.1,this.2.1,this.2.2,hn.2⟩
theorem colB_len{c:Col}(h:c.1.size≤24):(colB c).length≤36:=by
 have:=digitsL_len10 (n:=c.1.size) (by omega)
 have:=bl_length c.1
 simp only [colB,textL,List.length_append,List.length_cons,List.length_nil]
 omega
theorem colsB_len{cs:List Col}(h:∀ c∈cs,c.1.size≤24):(cs.flatMap colB).length≤cs.length*36:=by
 induction cs with
 | nil=>simp
 | cons c cs ih =>
  have h1:=colB_len (h c (by simp))
  have h2:=ih fun x hx=>h x (by simp [hx])
  rw [List.flatMap_cons,List.length_append,List.length_cons]
  omega
theorem colsB_take{cs:List Col}{i:Nat}(hi:i<cs.length):(cs.take (i+1)).flatMap colB=(cs.take i).flatMap colB++colB cs[i]:=by
 rw [List.take_succ_eq_append_getElem hi,List.flatMap_append]
 simp
theorem schL_len{cs:List Col}(h:rightCols cs=true):(schL cs).length≤600:=by
 have h1:=right_len h
 have:=digitsL_len10 (n:=cs.length) (by omega)
 have:=colsB_len fun c hc=>(right_col h hc).2.2.2
 simp only [schL,List.length_append]
 omega
def SchV(l:List UInt8)(cs:List Col)(w w':World)(v:Value):Prop :=
 (rightCols cs=false∧v=.tuple #[.slice none 0 0,.int .i64 50]∧Below w.heap.size w w')∨(rightCols cs=true∧∃ a c,v=.tuple #[.slice a (l++schL cs).length c,.int .i64 0]∧NewB w w' (l++schL cs) a c)
section
variable {w:World}{a a2:Option Addr}{c c2:Nat}{cs:List Col}{l:List UInt8}
theorem schema_flag_ok(b:Bool)(w:World):Calls Tryz.prog f.schema_flag #[.bool b] w (Ret fun v w'=>v=.int .u8 ((flagB b).toNat:Int)∧w'=w):=by
 apply R.schema_flag_calls
 unfold R.schema_flag
 exact IFB_of (fun h=>⟨by rw [h];rfl,rfl⟩) (fun h=>⟨by rw [h];rfl,rfl⟩)
theorem byteV_def(c:UInt8):Value.int .u8 (c.toNat:Int)=byteV c:=rfl
theorem two_bytes{w:World}{b:Nat}{x y:Value}{t:TypeId}{u v:UInt8}(h:w.heap[b]?=some (.cells #[x,y] t (0,0)))(hx:x=byteV u)(hy:y=byteV v):Rd w (some ⟨b,0,none⟩) ([u,v].map byteV):=by
 subst hx hy
 exact Rd.of_block0 h
theorem kind_byte{k:Int}(h1:1≤k)(h2:k≤3):Value.int .u8 (IntKind.u8.wrap k)=byteV (UInt8.ofNat k.toNat):=by
 rw [wrap_u8_id (by omega) (by omega),← byteV_of (x:=k.toNat) (by omega)]
 congr 1
 omega
theorem schema_Lay_ok(hl:Rd w a (l.map byteV))(hs:l.length+1000≤140737488355328)(hcs:Rd w a2 (colsL cs))(hn:cs.length≤9223372036854775807)(hq:∀ c∈cs,c.1.size≤9223372036854775807) :
  Calls Tryz.prog f.schema_Lay #[.slice a l.length c,.slice a2 cs.length c2] w (Ret fun v w'=>SchV l cs w w' v):=by
 apply R.schema_Lay_calls
 unfold R.schema_Lay
 refine (schema_Right_ok hcs hn hq).mono ?_
 rintro _ w1 ⟨_,rfl,rfl,B1⟩
 refine⟨_,rfl,IFB_not (IFB_of (fun hR=>?_) (fun hR=>.inl ⟨hR,rfl,B1⟩))⟩
 have hlen:=right_len hR
 have d1:=digitsL_len10 (n:=cs.length) (by omega)
 rw [wrap_u64_id (by omega) (by omega)]
 refine (wire_Number_ok l (hl.grown B1) cs.length (by omega) (by omega)).mono ?_
 rintro _ w2 ⟨_,rfl,a2',c2',rfl,h2⟩
 refine⟨_,_,_,rfl,fun s w3=>∃(i:Nat) (o:List UInt8) (oa:Option Addr) (oc:Nat),s=[.slice oa o.length oc,.int .i64 (i:Int)]∧i≤cs.length∧o=l++digitsL cs.length++(cs.take i).flatMap colB∧ST w w3 [bytesI oa oc o],fun s _=>match s with
   | [_,.int _ i]=>cs.length-i.toNat
   | _=>0,⟨0,_,a2',c2',rfl,by omega,by simp,stAddB ((ST.start w).grown B1) h2⟩,?_⟩
 rintro oa _ oc _ w3 ⟨i,o,_,_,hst,hi,ho,S⟩
 cases hst
 have ho':o.length≤l.length+10+16*36:=by
  have:=colsB_len (cs:=cs.take i) fun c hc=>(right_col hR (List.mem_of_mem_take hc)).2.2.2
  rw [List.length_take] at this
  rw [ho]
  simp only [List.length_append]
  omega
 refine IFB_dec (fun hlt=>⟨⟨by omega,hlt⟩,?_⟩) (fun hge=>.inr ⟨hR,?_⟩)
 ·have hil:i<cs.length:=by omega
  obtain⟨hN,hk1,hk2,hsz⟩:=right_col hR (List.getElem_mem hil)
  obtain⟨p,rfl,c0,c1,c2⟩:=col_at (hcs.grown S.bel) hil
  have hT:=digitsL_len10 (n:=cs[i].1.size) (by omega)
  have hbl:=bl_length cs[i].1
  refine⟨_,by rw [Int.toNat_natCast];exact c0,_,by rw [Int.toNat_natCast];exact c1,_,by rw [Int.toNat_natCast];exact c2,S.lit3 fun b14 w7 _ S=>⟨_,S.cell 0 rfl rfl,?_⟩⟩
  have hrd7:Rd w7 oa (o.map byteV):=stRdB S 1 rfl
  refine (wire_Text_ok o hrd7 cs[i].1 (by omega) (by omega)).mono ?_
  rintro _ w8 ⟨_,rfl,a8,c8,rfl,h8⟩
  refine⟨_,_,_,_,rfl,(stAddB S h8).draw fun w9 _ S=>⟨_,S.cell 1 rfl rfl,_,S.cell 1 rfl rfl,(schema_flag_ok _ w9).mono ?_⟩⟩
  rintro _ w9 ⟨_,rfl,rfl,rfl⟩
  refine⟨_,rfl,S.cell 1 rfl rfl,S.newB fun b23 w11 _ _ S=>?_⟩
  refine stAppB (m:=[UInt8.ofNat cs[i].2.1.toNat,flagB cs[i].2.2]) S 1 rfl (two_bytes (S.blk 0 rfl) (kind_byte hk1 hk2) (byteV_def _)) (by simp only [textL,List.length_append,List.length_cons,List.length_nil];omega) fun a12 c12 w12 S=>⟨_,_,_,rfl,?_⟩
  rw [wrap_succ (by omega)]
  refine⟨⟨i+1,_,a12,c12,rfl,by omega,?_,S.sub (by simp)⟩,?_⟩
  ·rw [colsB_take hil,ho]
   simp [colB]
  ·show cs.length-((i+1:Nat):Int).toNat<cs.length-((i:Nat):Int).toNat
   simp only [Int.toNat_natCast]
   omega
 ·rw [List.take_of_length_le (by omega)] at ho
  have:o=l++schL cs:=by rw [ho];simp [schL]
  subst this
  exact⟨oa,oc,rfl,stNew S 0 rfl⟩
theorem ref05_Lay_ok(hl:Rd w a (l.map byteV))(hs:l.length+1000≤140737488355328)(hcs:Rd w a2 (colsL cs))(hn:cs.length≤9223372036854775807)(hq:∀ c∈cs,c.1.size≤9223372036854775807) :
  Calls Tryz.prog f.ref05_Lay #[.slice a l.length c,.slice a2 cs.length c2] w (Ret fun v w'=>SchV l cs w w' v):=by
 apply R.ref05_Lay_calls
 unfold R.ref05_Lay
 refine (ref05_Right_ok hcs hn hq).mono ?_
 rintro _ w1 ⟨_,rfl,rfl,rfl⟩
 refine⟨_,rfl,IFB_not (IFB_of (fun hR=>?_) (fun hR=>.inl ⟨hR,rfl,.refl _ _⟩))⟩
 have hlen:=right_len hR
 have d1:=digitsL_len10 (n:=cs.length) (by omega)
 rw [wrap_u64_id (by omega) (by omega)]
 refine (ref_Number_ok l hl cs.length (by omega) (by omega)).mono ?_
 rintro _ w2 ⟨_,rfl,a2',c2',rfl,h2⟩
 refine⟨_,_,_,rfl,fun s w3=>∃(i:Nat) (o:List UInt8) (oa:Option Addr) (oc:Nat),s=[.slice oa o.length oc,.int .i64 (i:Int)]∧i≤cs.length∧o=l++digitsL cs.length++(cs.take i).flatMap colB∧ST w1 w3 [bytesI oa oc o],fun s _=>match s with
   | [_,.int _ i]=>cs.length-i.toNat
   | _=>0,⟨0,_,a2',c2',rfl,by omega,by simp,stAddB (ST.start w1) h2⟩,?_⟩
 rintro oa _ oc _ w3 ⟨i,o,_,_,hst,hi,ho,S⟩
 cases hst
 have ho':o.length≤l.length+10+16*36:=by
  have:=colsB_len (cs:=cs.take i) fun c hc=>(right_col hR (List.mem_of_mem_take hc)).2.2.2
  rw [List.length_take] at this
  rw [ho]
  simp only [List.length_append]
  omega
 refine IFB_dec (fun hlt=>⟨⟨by omega,hlt⟩,?_⟩) (fun hge=>.inr ⟨hR,?_⟩)
 ·have hil:i<cs.length:=by omega
  obtain⟨hN,hk1,hk2,hsz⟩:=right_col hR (List.getElem_mem hil)
  obtain⟨p,rfl,c0,c1,c2⟩:=col_at (hcs.grown S.bel) hil
  have hT:=digitsL_len10 (n:=cs[i].1.size) (by omega)
  have hbl:=bl_length cs[i].1
  have hb:(0:Int)≤(i:Int)∧(i:Int)<(cs.length:Int):=⟨by omega,hlt⟩
  refine⟨_,by rw [Int.toNat_natCast];exact c0,(ref_Text_ok o (stRdB S 0 rfl) cs[i].1 (by omega) (by omega)).mono ?_⟩
  rintro _ w4 ⟨_,rfl,a8,c8,rfl,h8⟩
  have S:=stAddB S h8
  obtain⟨p,hp,c0,c1,c2⟩:=col_at (hcs.grown S.bel) hil
  cases hp
  refine⟨_,_,_,_,rfl,fun s w5=>w5=w4∧s=[byteV (flagB cs[i].2.2)],⟨hb,_,by rw [Int.toNat_natCast];exact c2,IFB_of (fun h=>⟨rfl,by rw [h];rfl⟩) (fun h=>⟨rfl,by rw [h];rfl⟩)⟩,?_⟩
  rintro nu w5 ⟨rfl,hnu⟩
  have hnu':Value.int .u8 nu=byteV (flagB cs[i].2.2):=by simpa using hnu
  refine⟨hb,_,by rw [Int.toNat_natCast];exact c1,S.newB fun b23 w11 _ _ S=>?_⟩
  refine stAppB (m:=[UInt8.ofNat cs[i].2.1.toNat,flagB cs[i].2.2]) S 1 rfl (two_bytes (S.blk 0 rfl) (kind_byte hk1 hk2) hnu') (by simp only [textL,List.length_append,List.length_cons,List.length_nil];omega) fun a12 c12 w12 S=>⟨_,_,_,rfl,?_⟩
  rw [wrap_succ (by omega)]
  refine⟨⟨i+1,_,a12,c12,rfl,by omega,?_,S.sub (by simp)⟩,?_⟩
  ·rw [colsB_take hil,ho]
   simp [colB]
  ·show cs.length-((i+1:Nat):Int).toNat<cs.length-((i:Nat):Int).toNat
   simp only [Int.toNat_natCast]
   omega
 ·rw [List.take_of_length_le (by omega)] at ho
  have:o=l++schL cs:=by rw [ho];simp [schL]
  subst this
  exact⟨oa,oc,rfl,stNew S 0 rfl⟩
end
def unArg(n wd:Int):Prop:=0≤n∧n≤4096∧0≤wd∧wd≤64
instance (n wd:Int):Decidable (unArg n wd):=by unfold unArg;infer_instance
def unOk(l:List UInt8)(n wd:Nat):Prop:=l.length=sizeN n wd∧packL (unpackL l n wd) wd=l
instance (l:List UInt8) (n wd:Nat):Decidable (unOk l n wd):=by unfold unOk;infer_instance
def UnV(l:List UInt8)(n wd:Int)(w w':World)(r:Value):Prop :=
 ∃(xs:List Nat) (a:Option Addr) (c:Nat) (e:Int),r=.tuple #[.slice a xs.length c,.int .i64 e]∧Rd w' a (xs.map u64V)∧Below w.heap.size w w'∧(∀ p,a=some p→w.heap.size≤p.block) ∧
  ((unArg n wd∧unOk l n.toNat wd.toNat∧xs=unpackL l n.toNat wd.toNat∧e=0)∨(¬ (unArg n wd∧unOk l n.toNat wd.toNat)∧xs=[]∧e=if unArg n wd then 10 else 2))
theorem UnV.bad{l:List UInt8}{n wd:Int}{w w':World}{e:Int}(hb:Below w.heap.size w w')(h:¬ (unArg n wd∧unOk l n.toNat wd.toNat))(he:e=if unArg n wd then 10 else 2):UnV l n wd w w' (.tuple #[.slice none 0 0,.int .i64 e]) :=
 ⟨[],none,0,e,rfl,Rd.nil _ _,hb,(fun p hp=>by cases hp),.inr ⟨h,rfl,he⟩⟩
theorem getD_get{l:List UInt8}{j:Nat}(h:j<l.length):l.getD j 0=l[j]:=by simp [h]
section
variable {w:World}{a:Option Addr}{c:Nat}{l:List UInt8}
theorem pack_Unpack_ok(hl:Rd w a (l.map byteV))(n wd:Int)(hs:l.length≤9223372036854775807) :
  Calls Tryz.prog f.pack_Unpack #[.slice a l.length c,.int .i64 n,.int .i64 wd] w (Ret fun v w'=>UnV l n wd w w' v):=by
 apply R.pack_Unpack_calls
 unfold R.pack_Unpack
 refine (SH.start (fun _=>False) w).newB fun b4 w1 hb4 B1 S1=>S1.newB fun b3 w2 hb3 B2 S2=>⟨_,S2.cell 0 rfl rfl,(pack_Size_ok w2 n wd).mono ?_⟩
 rintro _ w3 ⟨_,rfl,rfl,rfl⟩
 by_cases harg:unArg n wd
 case neg =>
  rw [if_neg (by unfold unArg at harg;omega)]
  refine⟨_,_,rfl,fun _ _=>False,IFB_ne (fun _=>UnV.bad S2.below (fun h=>harg h.1) (by rw [if_neg harg])) (fun h=>absurd h (by decide)),?_⟩
  rintro w5 h
  exact h.elim
 obtain⟨h1,h2,h3,h4⟩:=id harg
 obtain⟨n,rfl⟩:∃ m:Nat,n=(m:Int):=⟨n.toNat,by omega⟩
 obtain⟨wd,rfl⟩:∃ m:Nat,wd=(m:Int):=⟨wd.toNat,by omega⟩
 have hn:n≤4096:=by omega
 have hw:wd≤64:=by omega
 have hm:n*wd≤4096*64:=Nat.mul_le_mul hn hw
 rw [if_pos ⟨by omega,by omega,by omega,by omega⟩]
 obtain⟨m,hmd⟩:∃ m,m=sizeN n wd:=⟨_,rfl⟩
 have hmv:m=(n*wd+7) / 8:=hmd
 have enw:((n:Int)*(wd:Int))=((n*wd:Nat):Int):=by norm_cast
 have em:((n:Int)*(wd:Int)+7) / 8=(m:Int):=by rw [enw,hmv];omega
 rw [em]
 have ew:IntKind.i64.wrap ((n:Int)*(wd:Int))=((n*wd:Nat):Int):=by rw [enw,wrap_i64 (by omega) (by omega)]
 have emod:Int.tmod ((n*wd:Nat):Int) 8=((n*wd % 8:Nat):Int):=by rw [Int.tmod_eq_emod_of_nonneg (by omega)];omega
 refine⟨_,_,rfl,fun s w5=>s=[]∧unOk l n wd∧Below w3.heap.size w3 w5∧SH (fun _=>False) w w5 [(b3,#[.int .i64 (wd:Int)],ty.int),(b4,#[.slice a l.length c],ty.L_uint8)],?_,?_⟩
 ·refine IFB_ne (fun h=>absurd rfl h) (fun _=>⟨_,_,_,S2.cell 1 rfl rfl,IFB_ne (fun h=>?_) (fun hlen=>?_)⟩)
  ·exact UnV.bad S2.below (fun hh=>h (by have:=hh.2.1;rw [this];simp [hmd])) (by rw [if_pos harg])
  ·have hlen':l.length=m:=by omega
   have hT:=tail_iff (l:=l) (n:=n) (w:=wd) (by omega)
   have hW:=tail_word (l:=l) (T:=n*wd) (by omega)
   refine S2.drawB fun w4 B4 S4=>?_
   have good:(0<l.length→n*wd % 8≠0→(l.getD (l.length-1) 0).toNat / 2 ^ (n*wd % 8)=0)→unOk l n wd:=fun h=>⟨by omega,hT.2 (hW.2 h)⟩
   refine IFB_dec (fun hpos=>⟨_,S4.cell 0 rfl rfl,?_⟩) (fun hz=>⟨rfl,good (fun h=>by omega),B4,S4⟩)
   rw [ew,emod]
   refine IFB_ne (fun h8=>⟨_,_,_,S4.cell 1 rfl rfl,?_⟩) (fun h8=>⟨rfl,good (fun _ h=>by omega),B4,S4⟩)
   rw [wrap_i64 (n:=(m:Int)-1) (by omega) (by omega)]
   refine⟨⟨by omega,by omega⟩,?_⟩
   have hj:m-1<l.length:=by omega
   obtain⟨p,rfl,hc⟩:=byte_at (hl.grown S4.below) hj
   refine⟨_,by rw [show ((m:Int)-1).toNat=m-1 by omega];exact hc,_,S4.cell 0 rfl rfl,?_⟩
   rw [ew,emod]
   refine⟨by omega,?_⟩
   rw [Int.toNat_natCast,show min (n*wd % 8) 8=n*wd % 8 by omega,fdiv_pow]
   have hg:(l.getD (l.length-1) 0)=l[m-1]:=by rw [hlen'];exact getD_get hj
   refine IFB_ne (fun h=>UnV.bad S4.below (fun hh=>h ?_) (by rw [if_pos harg])) (fun h=>⟨rfl,good (fun _ _=>?_),B4,S4⟩)
   ·have:=hW.1 (hT.1 hh.2.2) (by omega) (by omega)
    rw [hg] at this
    rw [this];rfl
   ·rw [hg];omega
 rintro w5 ⟨_,hok,B5,S5⟩
 obtain⟨hlen,hpk⟩:=id hok
 refine make_new tU (l:=(n:Int)) (c:=(n:Int)) (by omega) (by omega) (by omega) (by omega) fun bo w6 hbo B6 hO6=>?_
 rw [Int.toNat_natCast,rowU_zero (bitB l) wd n] at hO6
 rw [Int.toNat_natCast]
 have S6:=S5.grown B6
 refine⟨_,_,_,rfl,S6.newB fun b16 w7 hb16 B7 S7=>S7.stoK 0 rfl (show 0<1 by decide) fun w8 K8 S8=>⟨_,S8.cell 1 rfl rfl,(pack_places_ok w8 (n:Int) (wd:Int)).mono ?_⟩⟩
 rintro _ w9 ⟨_,rfl,b1,b2,rfl,P9⟩
 have S9:=S8.grown P9.below
 have hbo6:bo<w6.heap.size:=(Array.getElem?_eq_some_iff.1 hO6).1
 have hO7:=(Keeps.of_below (F:=fun _=>False) B7).at hO6 (by simp)
 have hO8:=K8.at hO7 (show ¬ bo=b16 by omega)
 have hO9:=(Keeps.of_below (F:=fun _=>False) P9.below).at hO8 (by simp)
 have hbo0:w.heap.size≤bo:=Nat.le_trans S5.below.size hbo
 have hbo9:bo<w9.heap.size:=(Array.getElem?_eq_some_iff.1 hO9).1
 have hb39:=S9.lt (x:=(b3,_,_)) (List.mem_cons_of_mem _ (List.mem_cons_self ..))
 have hb49:=S9.lt (x:=(b4,_,_)) (List.mem_cons_of_mem _ (List.mem_cons_of_mem _ (List.mem_cons_self ..)))
 have hb169:=S9.lt (x:=(b16,_,_)) (List.mem_cons_self ..)
 have hb28:=P9.own (b2,_,_) (List.mem_cons_self ..)
 have hb18:=P9.own (b1,_,_) (List.mem_cons_of_mem _ (List.mem_cons_self ..))
 have hb29:=P9.lt (x:=(b2,_,_)) (List.mem_cons_self ..)
 have hb19:=P9.lt (x:=(b1,_,_)) (List.mem_cons_of_mem _ (List.mem_cons_self ..))
 have hb35:=S5.lt (x:=(b3,_,_)) (List.mem_cons_self ..)
 have hb45:=S5.lt (x:=(b4,_,_)) (List.mem_cons_of_mem _ (List.mem_cons_self ..))
 refine⟨_,_,_,rfl,by kernel_rfl,fun rr hst hpe hy=>?_⟩
 obtain⟨W1,hW1⟩:∃ W1,W1=(w9.alloc (.deferred (some []))).alloc (.loop rr):=⟨_,rfl⟩
 rw [← hW1]
 have B91:Below w9.heap.size w9 W1:=by rw [hW1];exact (((Below.refl _ w9).alloc (Nat.le_refl _) _).alloc (by simp) _)
 have sz1:W1.heap.size=w9.heap.size+2:=by rw [hW1];simp
 have hL1:W1.heap[w9.heap.size+1]?=some (.loop rr):=by
  rw [hW1];have:=World.alloc_heap_new (w9.alloc (.deferred (some []))) (.loop rr);rwa [World.size_alloc] at this
 have hD1:W1.heap[w9.heap.size]?=some (.deferred (some [])):=by
  rw [hW1];exact (Below.heap_alloc _ _ _ (by simp)).trans (World.alloc_heap_new w9 _)
 have K91:=Keeps.of_below (F:=fun _=>False) B91
 have hO1:=K91.at hO9 (by simp)
 obtain⟨L,hLd⟩:∃ L,L=w9.heap.size+1:=⟨_,rfl⟩
 rw [← hLd] at hL1 hy ⊢
 have Bw1:Below w.heap.size w W1:=S9.below.trans (B91.mono S9.below.size)
 have w09:=S9.below.size
 have low:∀ {w':World},Keeps (fun k=>k=bo∨k=L) W1 w'→Below w.heap.size w w':=fun K=>Bw1.trans (K.below Bw1.size fun k hk h=>by omega)
 have hc3:∀ {w':World},Keeps (fun k=>k=bo∨k=L) W1 w'→w'.cell? ⟨b3,0,none⟩=some (.int .i64 (wd:Int)):=fun K=>K.cell (K91.cell (S9.cell 1 rfl rfl) (by simp)) (by
  show ¬ (b3=bo∨b3=L)
  omega)
 have hc4:∀ {w':World},Keeps (fun k=>k=bo∨k=L) W1 w'→w'.cell? ⟨b4,0,none⟩=some (.slice a l.length c):=fun K=>K.cell (K91.cell (S9.cell 2 rfl rfl) (by simp)) (by
  show ¬ (b4=bo∨b4=L)
  omega)
 have hc16:∀ {w':World},Keeps (fun k=>k=bo∨k=L) W1 w'→w'.cell? ⟨b16,0,none⟩=some (.slice (some ⟨bo,0,none⟩) n n):=fun K=>K.cell (K91.cell (S9.cell 0 rfl rfl) (by simp)) (by
  show ¬ (b16=bo∨b16=L)
  omega)
 have hbo8:bo<w8.heap.size:=(Array.getElem?_eq_some_iff.1 hO8).1
 have e18:w8.heap.size≤b1:=by simpa using hb18
 have e28:w8.heap.size≤b2:=by simpa using hb28
 have hb1:∀ {w':World},Keeps (fun k=>k=bo∨k=L) W1 w'→w'.cell? ⟨b1,0,none⟩=some (.int .i64 (n:Int))∧w'.cell? ⟨b2,0,none⟩=some (.int .i64 (wd:Int)):=fun K =>
  ⟨K.cell (K91.cell (P9.cell 1 rfl rfl) (by simp)) (by show ¬ (b1=bo∨b1=L);omega),K.cell (K91.cell (P9.cell 0 rfl rfl) (by simp)) (by show ¬ (b2=bo∨b2=L);omega)⟩
 have hyp:∀ t,t<n*wd→∀ wx,(Keeps (fun k=>k=bo∨k=L) W1 wx∧wx.heap[bo]?=some (.cells (rowU (bitB l) wd n t) ty.uint64 (0,0))∧wx.heap[L]?=some (.loop rr)) →
   YLD Tryz.prog L #[.int .i64 ((t / wd:Nat):Int),.int .i64 ((t % wd:Nat):Int)] (fun y w'=>y=true∧(Keeps (fun k=>k=bo∨k=L) W1 w'∧w'.heap[bo]?=some (.cells (rowU (bitB l) wd n (t+1)) ty.uint64 (0,0))∧w'.heap[L]?=some (.loop rr))) wx:=by
  rintro t ht wx ⟨K,hO,hL⟩
  have hw0:0<wd:=Nat.pos_of_ne_zero (by rintro rfl;simp at ht)
  have hti:t / wd<n:=(Nat.div_lt_iff_lt_mul hw0).2 ht
  have htk:t % wd<wd:=Nat.mod_lt _ hw0
  have htm:t / 8<l.length:=by omega
  refine hy _ _ _ wx hL ⟨hL,?_⟩
  obtain⟨w11,hw11⟩:∃ w11,w11=wx.putObj L (.loop { rr with state:=.busy }):=⟨_,rfl⟩
  rw [← hw11]
  have hLlt:L<wx.heap.size:=(Array.getElem?_eq_some_iff.1 hL).1
  have K11:Keeps (fun k=>k=L) wx w11:=by rw [hw11];exact keeps_putObj _ _ _
  have hL11:w11.heap[L]?=some (.loop { rr with state:=.busy }):=by rw [hw11];exact World.putObj_heap_same hLlt
  have K2:Keeps (fun k=>k=bo∨k=L) W1 w11.drew:=(K.trans K11 (fun k _ h=>.inr h)).drew
  have hO12:w11.drew.heap[bo]?=some (.cells (rowU (bitB l) wd n t) ty.uint64 (0,0)):=K11.at hO (by show ¬ bo=L;omega)
  refine⟨_,hc3 (K.trans K11 (fun k _ h=>.inr h)),?_⟩
  unfold DRAW
  have et:IntKind.i64.wrap (IntKind.i64.wrap (((t / wd:Nat):Int)*(wd:Int))+((t % wd:Nat):Int))=(t:Int):=by
   have h1:((t / wd:Nat):Int)*(wd:Int)=((t / wd*wd:Nat):Int):=by rw [Int.natCast_mul]
   have h2:=Nat.div_add_mod t wd
   rw [Nat.mul_comm] at h2
   rw [h1]
   generalize t / wd*wd=q at h2
   generalize t % wd=r' at h2
   rw [wrap_i64 (n:=(q:Int)) (by omega) (by omega),wrap_i64 (by omega) (by omega)]
   omega
  have ed:Int.fdiv (t:Int) (2 ^ (min 3 64))=((t / 8:Nat):Int):=fdiv_pow t 3
  rw [et,ed]
  refine⟨_,_,_,hc16 K2,⟨Int.natCast_nonneg _,by exact_mod_cast hti⟩,?_⟩
  rw [Int.toNat_natCast]
  have ea:(⟨bo,0,none⟩:Addr).add (t / wd*1)=⟨bo,t / wd,none⟩:=by rw [addr_add_blk];simp
  obtain⟨p,rfl,hc⟩:=byte_at (hl.grown (low K2)) htm
  show ∃ n:Int,w11.drew.cell? ((⟨bo,0,none⟩:Addr).add (t / wd*1))=some (.int .u64 n)∧_
  rw [ea]
  have hcell:w11.drew.cell? ⟨bo,t / wd,none⟩=some (.int .u64 (stU (bitB l) wd t (t / wd):Int)):=by
   simp only [World.cell?,hO12]
   simpa using rowU_get hti
  refine⟨_,hcell,_,_,_,hc4 K2,⟨Int.natCast_nonneg _,by exact_mod_cast htm⟩,_,by rw [Int.toNat_natCast];exact hc,?_⟩
  rw [and7 (by omega),Int.toNat_natCast,Int.toNat_natCast,bit_prog8 (l[t / 8]).toNat_lt (Nat.mod_lt _ (by omega)),shl_bit64 (by omega)]
  have hbit:l[t / 8].toNat.testBit (t % 8)=bitB l t:=by unfold bitB;rw [getD_get htm]
  rw [hbit]
  have hsh:(bitB l t).toNat*2 ^ (t % wd)<18446744073709551616:=by
   have:2 ^ (t % wd)<2 ^ 64:=Nat.pow_lt_pow_right (by omega) (by omega)
   cases bitB l t
   ·simp
   ·simpa using this
  have hsu:stU (bitB l) wd t (t / wd)<18446744073709551616:=Nat.lt_of_lt_of_le (stU_lt _ hw0 _ _) (Nat.pow_le_pow_right (n:=2) (by omega) hw)
  rw [or64 hsu hsh,stU_step]
  refine⟨Int.natCast_nonneg _,Int.natCast_nonneg _,⟨Int.natCast_nonneg _,by exact_mod_cast hti⟩,?_⟩
  show STO ((⟨bo,0,none⟩:Addr).add (t / wd*1)) _ _ _
  rw [ea]
  refine sto_blk hO12 (by rw [rowU_size];exact hti) fun w13 K13 hO13=>?_
  have hL13:w13.heap[L]?=some (.loop { rr with state:=.busy }):=K13.at (show w11.drew.heap[L]?=_ from hL11) (by show ¬ L=bo;omega)
  refine⟨hL13,rfl,?_⟩
  rw [rr_eta hst hpe]
  rw [rowU_set _ rfl] at hO13
  have hlt13:L<w13.heap.size:=(Array.getElem?_eq_some_iff.1 hL13).1
  refine⟨(K2.trans K13 (fun k _ h=>.inl h)).trans (keeps_putObj _ _ _) (fun k _ h=>.inr h),?_,World.putObj_heap_same hlt13⟩
  exact (World.putObj_heap_other (by omega)).trans hO13
 refine (places_ok (l:=L) (b1:=b1) (b2:=b2) hn hw (fun t wx=>Keeps (fun k=>k=bo∨k=L) W1 wx∧wx.heap[bo]?=some (.cells (rowU (bitB l) wd n t) ty.uint64 (0,0))∧wx.heap[L]?=some (.loop rr))
  (fun t wx hj=>hb1 hj.1) (fun t wx hj=>⟨hj.1.drew,hj.2.1,hj.2.2⟩) hyp ⟨.refl _ _,hO1,hL1⟩).mono ?_
 rintro _ w14 ⟨_,rfl,K14,hO14,hL14⟩
 have hlt14:L<w14.heap.size:=(Array.getElem?_eq_some_iff.1 hL14).1
 refine⟨⟨_,rfl⟩,none,by rw [rr_eta hst hpe];exact hL14,rfl,?_⟩
 obtain⟨w15,hw15⟩:∃ w15,w15=w14.putObj L (.loop { rr with state:=.exhausted,pending:=none }):=⟨_,rfl⟩
 rw [← hw15]
 have K15:Keeps (fun k=>k=bo∨k=L) W1 w15:=by rw [hw15];exact K14.trans (keeps_putObj _ _ _) (fun k _ h=>.inr h)
 have hO15:w15.heap[bo]?=some (.cells (rowU (bitB l) wd n (n*wd)) ty.uint64 (0,0)):=by rw [hw15];exact (World.putObj_heap_other (by omega)).trans hO14
 have hD15:w15.heap[w9.heap.size]?=some (.deferred (some [])):=K15.at hD1 (by show ¬ (w9.heap.size=bo∨w9.heap.size=L);omega)
 have B15:=low K15
 have hO16:=(World.putObj_heap_other (w:=w15) (o:=.deferred none) (show bo≠w9.heap.size by omega)).trans hO15
 refine⟨_,_,_,hc16 K15,hD15,unpackL l n wd,some ⟨bo,0,none⟩,n,0,by rw [unpackL_len],?_,B15.trans ((keeps_putObj w15 w9.heap.size _).below B15.size fun k hk he=>by omega),(fun p hp=>by cases hp;exact hbo0),.inl ⟨harg,hok,rfl,rfl⟩⟩
 have:=Rd.of_block0 hO16
 rwa [rowU_end] at this
end
theorem cast_mod2(b:Bool):((b.toNat:Int)=1)↔b=true:=by cases b <;> decide
section
variable {w:World}{a:Option Addr}{c:Nat}{l:List UInt8}
theorem ref_Unpack_ok(hl:Rd w a (l.map byteV))(n wd:Int)(hs:l.length≤9223372036854775807) :
  Calls Tryz.prog f.ref01_Unpack #[.slice a l.length c,.int .i64 n,.int .i64 wd] w (Ret fun v w'=>UnV l n wd w w' v):=by
 apply R.ref01_Unpack_calls
 unfold R.ref01_Unpack
 refine (ref_Size_ok w n wd).mono ?_
 rintro _ w ⟨_,rfl,rfl,rfl⟩
 by_cases harg:unArg n wd
 case neg =>
  rw [if_neg (by unfold unArg at harg;omega)]
  exact⟨_,_,rfl,IFB_ne (fun _=>UnV.bad (.refl _ _) (fun h=>harg h.1) (by rw [if_neg harg])) (fun h=>absurd h (by decide))⟩
 obtain⟨h1,h2,h3,h4⟩:=id harg
 obtain⟨n,rfl⟩:∃ m:Nat,n=(m:Int):=⟨n.toNat,by omega⟩
 obtain⟨wd,rfl⟩:∃ m:Nat,wd=(m:Int):=⟨wd.toNat,by omega⟩
 have hn:n≤4096:=by omega
 have hw:wd≤64:=by omega
 have hm:n*wd≤4096*64:=Nat.mul_le_mul hn hw
 rw [if_pos ⟨by omega,by omega,by omega,by omega⟩]
 obtain⟨m,hmd⟩:∃ m,m=sizeN n wd:=⟨_,rfl⟩
 have hmv:m=(n*wd+7) / 8:=hmd
 have enw:((n:Int)*(wd:Int))=((n*wd:Nat):Int):=by norm_cast
 have em:((n:Int)*(wd:Int)+7) / 8=(m:Int):=by rw [enw,hmv];omega
 rw [em]
 refine⟨_,_,rfl,IFB_ne (fun h=>absurd rfl h) (fun _=>IFB_ne (fun h=>?_) (fun hlen=>?_))⟩
 ·exact UnV.bad (.refl _ _) (fun hh=>h (by have:=hh.2.1;rw [this];simp [hmd])) (by rw [if_pos harg])
 have hlen':l.length=m:=by omega
 refine make_new tU (l:=(n:Int)) (c:=(n:Int)) (by omega) (by omega) (by omega) (by omega) fun bo w2 hbo B2 hO2=>?_
 rw [Int.toNat_natCast,rowU_zero (bitB l) wd n] at hO2
 rw [Int.toNat_natCast]
 refine⟨_,_,_,rfl,?_⟩
 have low:∀ {w':World},Keeps (fun k=>k=bo) w2 w'→Below w.heap.size w w':=fun K=>B2.trans (K.below B2.size fun k hk h=>by omega)
 refine⟨fun s w3=>∃ i:Nat,i≤n∧s=[.int .i64 (i:Int)]∧Keeps (fun k=>k=bo) w2 w3∧w3.heap[bo]?=some (.cells (rowU (bitB l) wd n (i*wd)) ty.uint64 (0,0)),fun s _=>match s with
   | [.int _ i]=>n-i.toNat
   | _=>0,⟨0,by omega,rfl,.refl _ _,by rw [Nat.zero_mul];exact hO2⟩,?_⟩
 rintro _ w3 ⟨i,hi,hs,K3,hO3⟩
 cases hs
 refine IFB_dec (fun hlt=>?_) (fun hge=>?_)
 ·have hil:i<n:=by omega
  refine⟨fun s w5=>∃ k:Nat,k≤wd∧s=[.int .i64 (k:Int)]∧Keeps (fun k=>k=bo) w2 w5∧w5.heap[bo]?=some (.cells (rowU (bitB l) wd n (i*wd+k)) ty.uint64 (0,0)),fun s _=>match s with
    | [.int _ k]=>wd-k.toNat
    | _=>0,⟨0,by omega,by simp,K3,hO3⟩,?_⟩
  rintro _ w5 ⟨k,hk,hs,K5,hO5⟩
  cases hs
  refine IFB_dec (fun hlt2=>?_) (fun hge2=>?_)
  ·have hkw:k<wd:=by omega
   have hiw:i*wd+k<n*wd:=by
    have:(i+1)*wd≤n*wd:=Nat.mul_le_mul_right _ hil
    rw [Nat.succ_mul] at this
    omega
   have hd1:(i*wd+k) / wd=i:=by
    rw [Nat.mul_comm,Nat.mul_add_div (by omega),Nat.div_eq_of_lt hkw,Nat.add_zero]
   have hd2:(i*wd+k) % wd=k:=by
    rw [Nat.mul_comm,Nat.mul_add_mod,Nat.mod_eq_of_lt hkw]
   obtain⟨t,ht⟩:∃ t,t=i*wd+k:=⟨_,rfl⟩
   rw [← ht] at hO5 hiw hd1 hd2
   have et:IntKind.i64.wrap (IntKind.i64.wrap ((i:Int)*(wd:Int))+(k:Int))=(t:Int):=by
    have h1:(i:Int)*(wd:Int)=((i*wd:Nat):Int):=by rw [Int.natCast_mul]
    rw [h1,ht]
    generalize i*wd=q at ht
    rw [wrap_i64 (n:=(q:Int)) (by omega) (by omega),wrap_i64 (by omega) (by omega)]
    omega
   have ed:IntKind.i64.wrap (Int.tdiv (t:Int) 8)=((t / 8:Nat):Int):=by
    rw [Int.tdiv_eq_ediv_of_nonneg (by omega),wrap_i64 (by omega) (by omega)]
    omega
   have er:Int.tmod (t:Int) 8=((t % 8:Nat):Int):=by
    rw [Int.tmod_eq_emod_of_nonneg (by omega)]
    omega
   rw [et,ed,er]
   have htm:t / 8<l.length:=by omega
   refine⟨⟨by omega,by omega⟩,?_⟩
   obtain⟨p,rfl,hc⟩:=byte_at (hl.grown (low K5)) htm
   refine⟨_,by rw [Int.toNat_natCast];exact hc,by omega,?_⟩
   rw [Int.toNat_natCast,bit_prog8 (l[t / 8]).toNat_lt (Nat.mod_lt _ (by omega)),wrap_succ (by omega)]
   have hbit:l[t / 8].toNat.testBit (t % 8)=bitB l t:=by unfold bitB;rw [getD_get htm]
   rw [hbit]
   have hmu:∀ wx:World,Keeps (fun k=>k=bo) w2 wx→wx.heap[bo]?=some (.cells (rowU (bitB l) wd n (t+1)) ty.uint64 (0,0)) →
     ((∃ k':Nat,k'≤wd∧[Value.int .i64 ((k+1:Nat):Int)]=[.int .i64 (k':Int)]∧Keeps (fun k=>k=bo) w2 wx∧wx.heap[bo]?=some (.cells (rowU (bitB l) wd n (i*wd+k')) ty.uint64 (0,0)))∧wd-((k+1:Nat):Int).toNat<wd-((k:Nat):Int).toNat):=by
    intro wx K hO
    refine⟨⟨k+1,by omega,rfl,K,by rw [← Nat.add_assoc,← ht];exact hO⟩,?_⟩
    simp only [Int.toNat_natCast]
    omega
   refine IFB_eq (fun h1=>?_) (fun h1=>?_)
   ·have hb1:bitB l t=true:=(cast_mod2 _).1 h1
    unfold DRAW
    have ea:(⟨bo,0,none⟩:Addr).add (i*1)=⟨bo,i,none⟩:=by rw [addr_add_blk];simp
    refine⟨⟨by omega,by omega⟩,?_⟩
    rw [Int.toNat_natCast,Int.toNat_natCast]
    have hcell:w5.drew.cell? ((⟨bo,0,none⟩:Addr).add (i*1))=some (.int .u64 (stU (bitB l) wd t i:Int)):=by
     rw [ea]
     have:w5.drew.heap[bo]?=some (.cells (rowU (bitB l) wd n t) ty.uint64 (0,0)):=hO5
     simp only [World.cell?,this]
     simpa using rowU_get hil
    refine⟨by omega,_,hcell,⟨by omega,by omega⟩,?_⟩
    have esh:=shl_bit64 (b:=true) (s:=k) (by omega)
    simp only [Bool.toNat_true,Nat.one_mul] at esh
    rw [show IntKind.u64.wrap (((1:Nat):Int))=1 from by decide] at esh
    rw [esh]
    have hsh:2 ^ k<2 ^ 64:=Nat.pow_lt_pow_right (by omega) (by omega)
    have hsu:stU (bitB l) wd t i<18446744073709551616:=Nat.lt_of_lt_of_le (stU_lt _ (by omega) _ _) (Nat.pow_le_pow_right (n:=2) (by omega) hw)
    rw [or64 hsu hsh]
    have estep:=stU_step (bitB l) wd t
    rw [hb1,hd1,hd2] at estep
    simp only [Bool.toNat_true,Nat.one_mul] at estep
    rw [estep]
    unfold PTR
    simp only
    rw [ea]
    refine sto_blk (show w5.drew.heap[bo]?=_ from hO5) (by rw [rowU_size];exact hil) fun w7 K7 hO7=>?_
    have hset:=rowU_set (f:=bitB l) (w:=wd) (m:=n) (t:=t) _ rfl
    rw [hd1] at hset
    rw [hset] at hO7
    exact hmu w7 (K5.drew.trans K7 (fun k _ h=>h)) hO7
   ·have hb0:bitB l t=false:=by
     cases h:bitB l t
     ·rfl
     ·exact absurd ((cast_mod2 _).2 h) h1
    exact hmu w5 K5 (by rw [rowU_skip hb0];exact hO5)
  ·have:k=wd:=by omega
   subst this
   rw [wrap_succ (by omega)]
   refine⟨⟨i+1,by omega,rfl,K5,by rw [Nat.succ_mul];exact hO5⟩,?_⟩
   simp only [Int.toNat_natCast]
   omega
 ·have:i=n:=by omega
  subst this
  have B3:=low K3
  have hr3:Rd w3 (some ⟨bo,0,none⟩) ((unpackL l i wd).map u64V):=by
   have:=Rd.of_block0 hO3
   rwa [rowU_end] at this
  have hul:=unpackL_len l i wd
  have hcall:=ref_Pack_ok (c:=i) hr3 (by omega) hw (unpackL_lt l i wd)
  rw [hul] at hcall
  refine hcall.mono ?_
  rintro _ w7 ⟨_,rfl,a7,c7,rfl,h7⟩
  have B7:=below_trans B3 h7.bel
  refine⟨_,_,_,_,rfl,string_of_bytes tbytes rfl h7.rd ⟨_,rfl,string_of_bytes tbytes rfl (hl.grown B7) ⟨_,rfl,?_⟩⟩⟩
  rw [bytesEq_iff]
  refine IFB_not (IFB_dec (fun he=>?_) (fun he=>?_))
  ·refine⟨unpackL l i wd,some ⟨bo,0,none⟩,i,0,by rw [hul],hr3.grown h7.bel,B7,(fun p hp=>by cases hp;exact hbo),.inl ⟨harg,⟨by simpa using (show l.length=sizeN i wd by omega),?_⟩,rfl,rfl⟩⟩
   have:=congrArg bl he
   rwa [bl_sof,bl_sof] at this
  ·exact UnV.bad B7 (fun hh=>he (by have:=hh.2.2;simp only [Int.toNat_natCast] at this;rw [this])) (by rw [if_pos harg])
end
def takeMany(l:List UInt8)(at_:Nat):Nat→Option (List (List UInt8) × Nat)
 | 0=>some ([],at_)
 | k+1=>match takeT l (at_:Int) 1024 with
  | none=>none
  | some x=>(takeMany l x.2 k).map fun r=>(x.1 :: r.1,r.2)
theorem takeT_le{l:List UInt8}{at_:Int}{most:Nat}{s:List UInt8}{k:Nat}(h:takeT l at_ most=some (s,k)):k≤l.length:=by
 unfold takeT at h
 split at h
 ·rename_i x hx
  have hb:=takeN_bounds (n:=x.1) (k:=x.2) hx
  split at h
  ·cases h
  ·simp only [Option.some.injEq,Prod.mk.injEq] at h
   omega
 ·cases h
theorem takeMany_len{l:List UInt8}:∀ {n at_:Nat} {r:List (List UInt8) × Nat},takeMany l at_ n=some r→r.1.length=n
 | 0,_,_,h=>by simp only [takeMany,Option.some.injEq] at h;subst h;rfl
 | n+1,at_,r,h=>by
  unfold takeMany at h
  split at h
  ·cases h
  ·obtain⟨q,hq,rfl⟩:=Option.map_eq_some_iff.1 h
   simp [takeMany_len hq]
theorem takeMany_le{l:List UInt8}:∀ {n at_:Nat} {r:List (List UInt8) × Nat},takeMany l at_ n=some r→at_≤l.length→r.2≤l.length
 | 0,_,_,h,ha=>by simp only [takeMany,Option.some.injEq] at h;subst h;exact ha
 | n+1,at_,r,h,ha=>by
  unfold takeMany at h
  split at h
  ·cases h
  ·rename_i x hx
   obtain⟨q,hq,rfl⟩:=Option.map_eq_some_iff.1 h
   exact takeMany_le (r:=q) hq (takeT_le (s:=x.1) (k:=x.2) hx)
theorem takeMany_none{l:List UInt8}{at_ k:Nat}(hx:takeT l (at_:Int) 1024=none):takeMany l at_ (k+1)=none:=by
 unfold takeMany
 rw [hx]
theorem takeMany_some{l:List UInt8}{at_ k:Nat}{x:List UInt8 × Nat}(hx:takeT l (at_:Int) 1024=some x):takeMany l at_ (k+1)=(takeMany l x.2 k).map fun r=>(x.1 :: r.1,r.2):=by
 conv=>lhs;unfold takeMany
 rw [hx]
def ManyV(l:List UInt8)(at_ n:Nat)(w':World)(v:Value):Prop :=
 match takeMany l at_ n with
 | none=>v=.tuple #[.slice none 0 0,.int .i64 0,.bool false]
 | some r=>∃ a c,v=.tuple #[.slice a r.1.length c,.int .i64 (r.2:Int),.bool true]∧Rd w' a (strs r.1)
section
variable {w0 w:World}{a:Option Addr}{c:Nat}{l:List UInt8}
theorem dict_taker_ok(at_:Int):Calls Tryz.prog f.dict_taker #[.slice a l.length c,.int .i64 at_] w (Ret fun v w'=>∃ b1 b2,v=.func (.func f.dict_taker_c1) #[] #[.pointer (some ⟨b1,0,none⟩),.pointer (some ⟨b2,0,none⟩)] ∧
  SH (fun _=>False) w w' [(b2,#[.int .i64 at_],ty.int),(b1,#[.slice a l.length c],ty.L_uint8)]):=by
 apply R.dict_taker_calls
 unfold R.dict_taker
 exact (SH.start (fun _=>False) w).newB fun b1 w1 _ _ S1=>S1.newB fun b2 w2 _ _ S2=>⟨b1,b2,rfl,S2⟩
theorem taker_c1_ok{b1 b2 at_ n:Nat}(S:SH (fun _=>False) w0 w [(b2,#[.int .i64 (at_:Int)],ty.int),(b1,#[.slice a l.length c],ty.L_uint8)])(hl:Rd w0 a (l.map byteV))(hc:l.length≤c)(hs:l.length≤9223372036854775807)(hn:n≤4096) :
  Calls Tryz.prog f.dict_taker_c1 #[.int .u64 (n:Int),.pointer (some ⟨b1,0,none⟩),.pointer (some ⟨b2,0,none⟩)] w (Ret fun v w'=>ManyV l at_ n w' v∧Below w0.heap.size w0 w'):=by
 apply R.dict_taker_c1_calls
 unfold R.dict_taker_c1
 refine⟨fun st w1=>∃(i:Nat) (ss:List (List UInt8)) (at2:Nat) (oa:Option Addr) (oc:Nat),st=[.slice oa ss.length oc,.int .u64 (i:Int)]∧i=ss.length∧i≤n∧Row w1 ty.string 1 oa ss.length oc (strs ss) ∧
   SH (fun _=>False) w0 w1 [(b2,#[.int .i64 (at2:Int)],ty.int),(b1,#[.slice a l.length c],ty.L_uint8)]∧(∀ k,rowB oa=some k→w0.heap.size≤k∧k≠b1∧k≠b2) ∧
   takeMany l at_ n=(takeMany l at2 (n-i)).map fun r=>(ss++r.1,r.2),fun s _=>match s with
   | [_,.int _ i]=>n-i.toNat
   | _=>0,⟨0,[],at_,none,0,rfl,rfl,by omega,Row.nil _ _ _,S,by simp [rowB],by simp⟩,?_⟩
 rintro oa _ oc _ w1 ⟨i,ss,at2,_,_,hst,hi,hin,R1,S1,N1,hT⟩
 cases hst
 refine IFB_dec (fun hlt=>?_) (fun hge=>?_)
 ·refine⟨_,_,_,S1.cell 1 rfl rfl,_,S1.cell 0 rfl rfl,(wire_TakeText_any (hl.grown S1.below) hc hs (at2:Int) 1024).mono ?_⟩
  rintro _ w3 ⟨_,rfl,rfl,rfl⟩
  have hstep:n-i=(n-(i+1))+1:=by omega
  rw [hstep] at hT
  cases hx:takeT l (at2:Int) 1024 with
  | none =>
   refine⟨_,_,_,rfl,IFB_ne (fun _=>⟨?_,S1.below⟩) (fun h=>absurd h (by decide))⟩
   rw [takeMany_none hx] at hT
   unfold ManyV
   rw [hT]
   rfl
  | some x =>
   rw [takeMany_some hx] at hT
   refine⟨_,_,_,rfl,IFB_ne (fun h=>absurd rfl h) (fun _=>S1.newB fun b14 w4 hb14 B4 S4=>?_)⟩
   have hsrc:Rd w4 (some ⟨b14,0,none⟩) (strs [x.1]):=by
    have:=Rd.of_block0 (S4.get 0 rfl)
    simpa [strs] using this
   have l1:=S1.lt (x:=(b2,_,_)) (List.mem_cons_self ..)
   have l2:=S1.lt (x:=(b1,_,_)) (List.mem_cons_of_mem _ (List.mem_cons_self ..))
   refine append_strs (u:=[x.1]) (R1.grown B4) rfl hsrc (by simp;omega) fun a5 c5 w5 R5 K5 N5=>⟨_,_,_,rfl,?_⟩
   have S5:SH (fun _=>False) w0 w5 [(b2,#[.int .i64 (at2:Int)],ty.int),(b1,#[.slice a l.length c],ty.L_uint8)]:=(S4.drop 1).kept K5 (by
    intro y hy hr
    simp only [List.drop_succ_cons,List.drop_zero,List.mem_cons,List.not_mem_nil,or_false] at hy
    rcases hy with rfl | rfl
    ·exact (N1 _ hr).2.2 rfl
    ·exact (N1 _ hr).2.1 rfl) (fun k hk hr=>by have:=(N1 _ hr).1;omega)
   have N5':∀ k,rowB a5=some k→w0.heap.size≤k∧k≠b1∧k≠b2:=by
    intro k hk
    have:=B4.size
    rcases N5 k hk with h | h
    ·exact N1 k h
    ·have:=S4.below.size
     exact⟨by omega,by omega,by omega⟩
   refine S5.stoK 0 rfl (show 0<1 by decide) fun w6 K6 S6=>?_
   have R6:=R5.keeps K6 fun k hk he=>(N5' k hk).2.2 he
   rw [show IntKind.u64.wrap ((i:Int)+1)=((i+1:Nat):Int) by rw [wrap_u64_id (by omega) (by omega)];omega]
   refine⟨⟨i+1,ss++[x.1],x.2,a5,c5,rfl,by simp [hi],by omega,R6,S6,N5',?_⟩,?_⟩
   ·rw [hT,Option.map_map]
    congr 1
    funext r
    simp
   ·simp only [Int.toNat_natCast]
    omega
 ·have hin':i=n:=by omega
  refine S1.drawB fun w2 B2 S2=>⟨_,S2.cell 0 rfl rfl,?_,S2.below⟩
  have:n-i=0:=by omega
  rw [this] at hT
  unfold ManyV
  have e:takeMany l at_ n=some (ss,at2):=by rw [hT];simp [takeMany]
  rw [e]
  exact⟨oa,oc,rfl,(R1.grown B2).rd⟩
theorem ref_taken_ok{at_ n:Nat}(hl:Rd w a (l.map byteV))(hc:l.length≤c)(hs:l.length≤9223372036854775807)(hn:n≤4096)(hat:at_≤9223372036854775807) :
  Calls Tryz.prog f.ref07_taken #[.slice a l.length c,.int .i64 (at_:Int),.int .i64 (n:Int)] w (Ret fun v w'=>ManyV l at_ n w' v∧Below w.heap.size w w'):=by
 apply R.ref07_taken_calls
 unfold R.ref07_taken
 refine⟨fun st w1=>∃(i:Nat) (ss:List (List UInt8)) (at2:Nat) (oa:Option Addr) (oc:Nat),st=[.int .i64 (at2:Int),.slice oa ss.length oc,.int .i64 (i:Int)]∧i=ss.length∧i≤n∧Row w1 ty.string 1 oa ss.length oc (strs ss) ∧
   Below w.heap.size w w1∧(∀ k,rowB oa=some k→w.heap.size≤k)∧at2≤9223372036854775807 ∧
   takeMany l at_ n=(takeMany l at2 (n-i)).map fun r=>(ss++r.1,r.2),fun s _=>match s with
   | [_,_,.int _ i]=>n-i.toNat
   | _=>0,⟨0,[],at_,none,0,rfl,rfl,by omega,Row.nil _ _ _,.refl _ _,by simp [rowB],hat,by simp⟩,?_⟩
 rintro _ oa _ oc _ w1 ⟨i,ss,at2,_,_,hst,hi,hin,R1,B1,N1,hat2,hT⟩
 cases hst
 refine IFB_dec (fun hlt=>?_) (fun hge=>?_)
 ·refine (ref_TakeText_ok (hl.grown B1) hc hs (at2:Int) (by omega) 1024).mono ?_
  rintro _ w3 ⟨_,rfl,rfl,rfl⟩
  have hstep:n-i=(n-(i+1))+1:=by omega
  rw [hstep] at hT
  cases hx:takeT l (at2:Int) 1024 with
  | none =>
   refine⟨_,_,_,rfl,IFB_ne (fun _=>⟨?_,B1⟩) (fun h=>absurd h (by decide))⟩
   rw [takeMany_none hx] at hT
   unfold ManyV
   rw [hT]
   rfl
  | some x =>
   rw [takeMany_some hx] at hT
   refine⟨_,_,_,rfl,IFB_ne (fun h=>absurd rfl h) (fun _=>(SH.start (fun _=>False) w3).newB fun b14 w4 hb14 B4 S4=>?_)⟩
   have hsrc:Rd w4 (some ⟨b14,0,none⟩) (strs [x.1]):=by
    have:=Rd.of_block0 (S4.get 0 rfl)
    simpa [strs] using this
   refine append_strs (u:=[x.1]) (R1.grown B4) rfl hsrc (by simp;omega) fun a5 c5 w5 R5 K5 N5=>⟨_,_,_,rfl,?_⟩
   have C4:=below_trans B1 B4
   have C5:Below w.heap.size w w5:=C4.trans (K5.below C4.size fun k hk he=>by have:=N1 k he;omega)
   have N5':∀ k,rowB a5=some k→w.heap.size≤k:=by
    intro k hk
    rcases N5 k hk with h | h
    ·exact N1 k h
    ·have:=C4.size
     omega
   have hle:=takeT_le (s:=x.1) (k:=x.2) hx
   rw [wrap_succ (by omega)]
   refine⟨⟨i+1,ss++[x.1],x.2,a5,c5,rfl,by simp [hi],by omega,R5,C5,N5',by omega,?_⟩,?_⟩
   ·rw [hT,Option.map_map]
    congr 1
    funext r
    simp
   ·simp only [Int.toNat_natCast]
    omega
 ·have hin':i=n:=by omega
  refine⟨?_,B1⟩
  have:n-i=0:=by omega
  rw [this] at hT
  unfold ManyV
  have e:takeMany l at_ n=some (ss,at2):=by rw [hT];simp [takeMany]
  rw [e]
  exact⟨oa,oc,rfl,R1.rd⟩
end
theorem takeN_at{n:Nat}(h:n<18446744073709551616)(pre b:List UInt8):takeN (pre++(digitsL n++b)) (pre.length:Int)=some (n,pre.length+(digitsL n).length):=by
 unfold takeN
 rw [if_neg (by omega),Int.toNat_natCast,List.drop_left]
 rw [readN_digits n 0 0 b (by simpa using h) (by omega) (by intro;rfl)]
 simp
theorem takeT_at{s:ByteArray}(hz:s.size≤1024)(pre b:List UInt8):takeT (pre++(textL s++b)) (pre.length:Int) 1024=some (bl s,pre.length+(textL s).length):=by
 unfold takeT textL
 rw [List.append_assoc,takeN_at (by omega)]
 have hl:=bl_length s
 simp only
 rw [if_neg (by simp only [List.length_append];omega)]
 congr 1
 have e:pre++(digitsL s.size++(bl s++b))=(pre++digitsL s.size)++(bl s++b):=by simp
 rw [e,← List.length_append,List.drop_left,← hl,List.take_left]
 simp only [List.length_append,Nat.add_assoc]
theorem takeMany_at:∀ {ls:List ByteArray} (hz:∀ s∈ls,s.size≤1024) (pre b:List UInt8),takeMany (pre++(laidL ls++b)) pre.length ls.length=some (ls.map bl,pre.length+(laidL ls).length)
 | [],_,pre,b=>by simp [takeMany,laidL]
 | s :: ls,hz,pre,b=>by
  have e:pre++(laidL (s :: ls)++b)=pre++(textL s++(laidL ls++b)):=by simp [laidL]
  have e2:pre++(textL s++(laidL ls++b))=(pre++textL s)++(laidL ls++b):=by simp
  rw [List.length_cons]
  unfold takeMany
  rw [e,takeT_at (hz s (List.mem_cons_self ..))]
  simp only
  rw [e2,← List.length_append,takeMany_at (fun x hx=>hz x (List.mem_cons_of_mem _ hx))]
  simp [laidL,Nat.add_assoc]
theorem unpack_pack{xs:List Nat}{w:Nat}(hx:∀ x∈xs,x<2 ^ w):unpackL (packL xs w) xs.length w=xs:=by
 apply List.ext_getElem
 ·simp [unpackL]
 ·intro i h1 h2
  have e:(unpackL (packL xs w) xs.length w)[i]=stU (bitB (packL xs w)) w (xs.length*w) i:=by simp [unpackL]
  rw [e]
  have hxi:=hx _ (List.getElem_mem h2)
  by_cases hw:0<w
  case neg =>
   have:w=0:=by omega
   subst this
   have h0:xs[i]=0:=by simpa using hxi
   simp [stU,h0]
  apply Nat.eq_of_testBit_eq
  intro k
  rw [stU_bit _ hw]
  by_cases hk:k<w
  ·have hiw:i*w+k<xs.length*w:=by
    have:(i+1)*w≤xs.length*w:=Nat.mul_le_mul_right _ h2
    rw [Nat.succ_mul] at this
    omega
   have hd1:(i*w+k) / w=i:=by
    rw [Nat.mul_comm,Nat.mul_add_div (by omega),Nat.div_eq_of_lt hk,Nat.add_zero]
   have hd2:(i*w+k) % w=k:=by
    rw [Nat.mul_comm,Nat.mul_add_mod,Nat.mod_eq_of_lt hk]
   have hj:(i*w+k) / 8<sizeN xs.length w:=by unfold sizeN;omega
   have hb:bitB (packL xs w) (i*w+k)=bitA xs w (i*w+k):=by
    unfold bitB
    have:(packL xs w).getD ((i*w+k) / 8) 0=UInt8.ofNat (stB (bitA xs w) (xs.length*w) ((i*w+k) / 8)):=by
     simp [List.getD,pack_get hj]
    rw [this,pack_bit (Nat.mod_lt _ (by omega)),show (i*w+k) / 8*8+(i*w+k) % 8=i*w+k by omega]
    simp [hiw]
   rw [hb]
   unfold bitA
   rw [hd1,hd2]
   simp [hk,hiw,h2]
  ·rw [Nat.testBit_lt_two_pow (Nat.lt_of_lt_of_le hxi (Nat.pow_le_pow_right (by omega) (Nat.le_of_not_lt hk)))]
   simp [hk]
def tabB(many:Nat)(ts:List (List UInt8))(xs:List Nat):Option (List (List UInt8)):=if ∀ p∈xs,p<many then some (xs.map fun p=>ts.getD p []) else none
def tableL(l:List UInt8)(n:Nat):Option (List (List UInt8)) :=
 (takeN l 1).bind fun x=>if n<x.1 then none else (takeMany l x.2 x.1).bind fun y=>if l.length≤y.2 then none else
  if unArg (n:Int) ((l.getD y.2 0).toNat:Int)∧unOk (l.drop (y.2+1)) n (l.getD y.2 0).toNat then tabB x.1 y.1 (unpackL (l.drop (y.2+1)) n (l.getD y.2 0).toNat) else none
theorem places_lt{t:List (List UInt8)}{ls:List ByteArray}(ht:IsRise (ls.map bl) t):∀ x∈placesL t ls,x<t.length:=by
 intro x hx
 obtain⟨s,hs,rfl⟩:=List.mem_map.1 hx
 exact List.idxOf_lt_length_of_mem ((ht.mem _).2 (List.mem_map.2 ⟨s,hs,rfl⟩))
theorem rise_len{t:List (List UInt8)}{ls:List ByteArray}(ht:IsRise (ls.map bl) t):t.length≤ls.length:=by
 have:=nodup_len (lt_nodup ht.up) (fun x hx=>(ht.mem x).1 hx)
 simpa using this
theorem width13{t:List (List UInt8)}{ls:List ByteArray}{w:Nat}(ht:IsRise (ls.map bl) t)(hn:ls.length≤4096)(hw:IsLen (orL (placesL t ls)) w):w≤13 :=
 hw.le.2 ((orL_lt _ _).2 fun x hx=>by have:=places_lt ht x hx;have:=rise_len ht;omega)
theorem table_reads{ls:List ByteArray}{b:List UInt8}(hok:encOk 1 ls)(h:EncIs ls 1 b):tableL b ls.length=some (ls.map bl):=by
 cases h with
 | table t w ht hw =>
 obtain⟨_,_,hn,hlong⟩:=hok
 have hz:=longB_false hlong
 have htl:=rise_len ht
 have htz:∀ s∈t.map sof,s.size≤1024:=by
  intro s hs
  obtain⟨x,hx,rfl⟩:=List.mem_map.1 hs
  obtain⟨s',hs',rfl⟩:=List.mem_map.1 ((ht.mem x).1 hx)
  rw [sof_bl]
  exact hz s' hs'
 have hw13:=width13 ht hn hw
 have hpl:=(orL_lt _ _).1 hw.1
 obtain⟨xs,hxs⟩:∃ xs,xs=placesL t ls:=⟨_,rfl⟩
 have hxl:xs.length=ls.length:=by rw [hxs];simp [placesL]
 rw [← hxs] at hpl ⊢
 have e1:(1 :: digitsL t.length)++(laidL (t.map sof)++(UInt8.ofNat w :: packL xs w))=[1]++(digitsL t.length++(laidL (t.map sof)++(UInt8.ofNat w :: packL xs w))):=by simp
 have e2:[1]++(digitsL t.length++(laidL (t.map sof)++(UInt8.ofNat w :: packL xs w)))=([1]++digitsL t.length)++(laidL (t.map sof)++(UInt8.ofNat w :: packL xs w)):=by simp
 obtain⟨b,hb⟩:∃ b,b=(1 :: digitsL t.length)++(laidL (t.map sof)++(UInt8.ofNat w :: packL xs w)):=⟨_,rfl⟩
 have h1:takeN b 1=some (t.length,1+(digitsL t.length).length):=by
  rw [hb,e1]
  exact takeN_at (by omega) [1] _
 have h2:takeMany b (1+(digitsL t.length).length) t.length=some (t,1+(digitsL t.length).length+(laidL (t.map sof)).length):=by
  have h:=takeMany_at htz ([1]++digitsL t.length) (UInt8.ofNat w :: packL xs w)
  rw [← e2,← e1,← hb] at h
  simp only [List.length_append,List.length_cons,List.length_nil,List.length_map] at h
  rw [show 0+1+(digitsL t.length).length=1+(digitsL t.length).length by omega] at h
  rw [h]
  have:(t.map sof).map bl=t:=by
   rw [List.map_map]
   have:(bl ∘ sof)=id:=by funext x;exact bl_sof x
   rw [this,List.map_id]
  rw [this]
 obtain⟨q,hq⟩:∃ q,q=1+(digitsL t.length).length+(laidL (t.map sof)).length:=⟨_,rfl⟩
 have e3:b=((1 :: digitsL t.length)++laidL (t.map sof))++(UInt8.ofNat w :: packL xs w):=by rw [hb];simp
 have hq2:q=((1 :: digitsL t.length)++laidL (t.map sof)).length:=by rw [hq];simp;omega
 have hlen:b.length=q+1+(packL xs w).length:=by rw [e3,List.length_append,← hq2,List.length_cons];omega
 have hg:b.getD q 0=UInt8.ofNat w:=by
  rw [e3,hq2]
  simp [List.getD]
 have hd:b.drop (q+1)=packL xs w:=by
  rw [e3,hq2,← List.drop_drop,List.drop_left]
  rfl
 have hwN:(UInt8.ofNat w).toNat=w:=ofNat_toNat8 (by omega)
 rw [← hq] at h2
 rw [← hb]
 simp only [tableL,h1,h2,Option.bind_some,hg,hd,hwN]
 rw [if_neg (by omega),if_neg (by omega)]
 have hun:unpackL (packL xs w) ls.length w=xs:=by rw [← hxl];exact unpack_pack hpl
 have hcond:unArg (ls.length:Int) (w:Int)∧unOk (packL xs w) ls.length w:=by
  refine⟨⟨by omega,by omega,by omega,by omega⟩,?_,?_⟩
  ·rw [packL_len,hxl]
  ·rw [hun]
 rw [if_pos hcond,hun]
 unfold tabB
 rw [if_pos (by rw [hxs];exact places_lt ht),hxs]
 congr 1
 unfold placesL
 rw [List.map_map]
 apply List.map_congr_left
 intro s hs
 have hm:bl s∈t:=(ht.mem _).2 (List.mem_map.2 ⟨s,hs,rfl⟩)
 have hi:=List.idxOf_lt_length_of_mem hm
 simp only [Function.comp]
 simp [List.getD,hi,List.getElem_idxOf]
theorem plain_reads{ls:List ByteArray}{b:List UInt8}(hok:encOk 0 ls)(h:EncIs ls 0 b):(takeMany b 1 ls.length).map (·.1)=some (ls.map bl):=by
 cases h with
 | plain =>
 have h:=takeMany_at (longB_false hok.2.2.2) [0] []
 simp only [List.append_nil] at h
 have e:[0]++laidL ls=0 :: laidL ls:=rfl
 rw [e] at h
 have e1:([0]:List UInt8).length=1:=rfl
 rw [e1] at h
 rw [h]
 rfl
structure DecIs(l:List UInt8)(n:Nat)(ls:List ByteArray):Prop where
 len:ls.length=n
 ok:encOk ((l.getD 0 0).toNat:Int) ls
 enc:EncIs ls ((l.getD 0 0).toNat:Int) l
def readL(l:List UInt8)(n:Nat):Option (List (List UInt8)):=if l.getD 0 0=0 then (takeMany l 1 n).map (·.1) else tableL l n
theorem DecIs.reads{l:List UInt8}{n:Nat}{ls:List ByteArray}(h:DecIs l n ls):readL l n=some (ls.map bl):=by
 obtain⟨rfl,ok,enc⟩:=h
 unfold readL
 by_cases h0:l.getD 0 0=0
 ·rw [if_pos h0]
  rw [h0] at ok enc
  exact plain_reads ok enc
 ·rw [if_neg h0]
  have h1:((l.getD 0 0).toNat:Int)=1:=by
   have h2:=ok.1
   have h3:=ok.2.1
   have:(l.getD 0 0).toNat≠0:=fun h=>h0 (UInt8.toNat_inj.1 h)
   omega
  rw [h1] at ok enc
  exact table_reads ok enc
theorem DecIs.one{l:List UInt8}{n:Nat}{ls ms:List ByteArray}(h:DecIs l n ls)(h':DecIs l n ms):ls=ms:=by
 have:=Option.some.inj (h.reads.symm.trans h'.reads)
 have:=congrArg (List.map sof) this
 rwa [map_sof_bl,map_sof_bl] at this
theorem tableL_len{l:List UInt8}{n:Nat}{ms:List (List UInt8)}(h:tableL l n=some ms):ms.length=n:=by
 unfold tableL at h
 obtain⟨x,_,h⟩:=Option.bind_eq_some_iff.1 h
 split at h
 ·cases h
 ·obtain⟨y,_,h⟩:=Option.bind_eq_some_iff.1 h
  split at h
  ·cases h
  ·split at h
   ·unfold tabB at h
    split at h
    ·cases h;simp [unpackL]
    ·cases h
   ·cases h
theorem readL_len{l:List UInt8}{n:Nat}{ms:List (List UInt8)}(h:readL l n=some ms):ms.length=n:=by
 unfold readL at h
 split at h
 ·obtain⟨r,hr,rfl⟩:=Option.map_eq_some_iff.1 h
  exact takeMany_len hr
 ·exact tableL_len h
structure Two(B:Nat)(w:World)(ns:List Int)(na:Option Addr)(nc:Nat)(ss:List ByteArray)(sa:Option Addr)(sc:Nat):Prop where
 rn:Row w ty.int64 1 na ns.length nc (ns.map i64V)
 rs:Row w ty.string 1 sa ss.length sc (ss.map Value.string)
 nn:∀ x,rowB na=some x→B≤x
 sn:∀ x,rowB sa=some x→B≤x
 ne:∀ x,rowB na=some x→rowB sa≠some x
theorem Two.nil(B:Nat)(w:World):Two B w [] none 0 [] none 0:=⟨Row.nil _ _ _,Row.nil _ _ _,by simp [rowB],by simp [rowB],by simp [rowB]⟩
section
variable {B:Nat}{w w':World}{ns:List Int}{na:Option Addr}{nc:Nat}{ss:List ByteArray}{sa:Option Addr}{sc:Nat}
theorem Two.keeps(h:Two B w ns na nc ss sa sc){F:Nat→Prop}(K:Keeps F w w')(hF:∀ x,F x→x<B∨w.heap.size≤x):Two B w' ns na nc ss sa sc :=
 ⟨h.rn.keeps K fun x hx hf=>by have:=h.nn x hx;have:=h.rn.lt hx;have:=hF x hf;omega,h.rs.keeps K fun x hx hf=>by have:=h.sn x hx;have:=h.rs.lt hx;have:=hF x hf;omega,h.nn,h.sn,h.ne⟩
theorem Two.grown(h:Two B w ns na nc ss sa sc)(hb:Below w.heap.size w w'):Two B w' ns na nc ss sa sc:=h.keeps (F:=fun _=>False) (Keeps.of_below hb) (by simp)
theorem tL64:slT Tryz.prog ty.L_int64=some (ty.int64,1,8,.int .i64 0):=by kernel_rfl
theorem Two.appN(h:Two B w ns na nc ss sa sc)(hB:B≤w.heap.size)(hl:ns.length≤1000000){x:Int}{b:Nat}{t:TypeId}(hb:w.heap[b]?=some (.cells #[i64V x] t (0,0))){f:Value→World→Prop}
  (hf:∀ a' c' w',Two B w' (ns++[x]) a' c' ss sa sc→Keeps (fun k=>rowB na=some k) w w'→f (.slice a' (ns++[x]).length c') w'):OPR Tryz.prog (Builtin.append_ #[ty.L_int64,ty.L_int64] ty.L_int64 #[.slice na ns.length nc,.slice (some ⟨b,0,none⟩) 1 1]) f w:=by
 have hsrc:Rd w (some ⟨b,0,none⟩) ([x].map i64V):=by
  have:=Rd.of_block0 hb
  simpa using this
 obtain⟨a5,c5,w2,hrun,hrow,hk5,hnw⟩:=append_row (ty:=ty.L_int64) (mc:=1) tL64 rfl (by omega) (by omega) h.rn hsrc (m:=1) rfl (by simp [i64V];rfl) (by omega)
 unfold OPR
 rw [hrun]
 have e:ns.length+1=(ns++[x]).length:=by simp
 rw [e] at hrow ⊢
 refine hf a5 c5 w2 ⟨by rw [List.map_append];exact hrow,h.rs.keeps hk5 fun k hk hr=>h.ne k hr hk,fun k hk=>?_,h.sn,fun k hk hs=>?_⟩ hk5
 ·rcases hnw k hk with h1 | h1
  ·exact h.nn k h1
  ·omega
 ·rcases hnw k hk with h1 | h1
  ·exact h.ne k h1 hs
  ·have:=h.rs.lt hs
   omega
theorem Two.appS(h:Two B w ns na nc ss sa sc)(hB:B≤w.heap.size)(hl:ss.length≤1000000){x:ByteArray}{b:Nat}{t:TypeId}(hb:w.heap[b]?=some (.cells #[.string x] t (0,0))){f:Value→World→Prop}
  (hf:∀ a' c' w',Two B w' ns na nc (ss++[x]) a' c'→Keeps (fun k=>rowB sa=some k) w w'→f (.slice a' (ss++[x]).length c') w'):OPR Tryz.prog (Builtin.append_ #[ty.L_string,ty.L_string] ty.L_string #[.slice sa ss.length sc,.slice (some ⟨b,0,none⟩) 1 1]) f w:=by
 have hsrc:Rd w (some ⟨b,0,none⟩) ([x].map Value.string):=by
  have:=Rd.of_block0 hb
  simpa using this
 obtain⟨a5,c5,w2,hrun,hrow,hk5,hnw⟩:=append_row (ty:=ty.L_string) (mc:=1) tS rfl (by omega) (by omega) h.rs hsrc (m:=1) rfl (by simp;rfl) (by omega)
 unfold OPR
 rw [hrun]
 have e:ss.length+1=(ss++[x]).length:=by simp
 rw [e] at hrow ⊢
 refine hf a5 c5 w2 ⟨h.rn.keeps hk5 fun k hk hr=>h.ne k hk hr,by rw [List.map_append];exact hrow,h.nn,fun k hk=>?_,fun k hk hs=>?_⟩ hk5
 ·rcases hnw k hk with h1 | h1
  ·exact h.sn k h1
  ·omega
 ·rcases hnw k hs with h1 | h1
  ·exact h.ne k hk h1
  ·have:=h.rn.lt hk
   omega
end
def numsL(ls:List Val):List Int:=(fullL ls).map (·.2.1)
def textsL(ls:List Val):List ByteArray:=(fullL ls).map (·.2.2)
theorem numsL_len(ls:List Val):(numsL ls).length≤ls.length:=by unfold numsL fullL;rw [List.length_map];exact List.length_filter_le ..
theorem textsL_len(ls:List Val):(textsL ls).length≤ls.length:=by unfold textsL fullL;rw [List.length_map];exact List.length_filter_le ..
theorem nums_take{ls:List Val}{i:Nat}(hi:i<ls.length):(ls[i].1=0→numsL (ls.take (i+1))=numsL (ls.take i)∧textsL (ls.take (i+1))=textsL (ls.take i)) ∧
  (ls[i].1≠0→numsL (ls.take (i+1))=numsL (ls.take i)++[ls[i].2.1]∧textsL (ls.take (i+1))=textsL (ls.take i)++[ls[i].2.2]):=by
 unfold numsL textsL
 rw [fullL_take hi]
 constructor
 ·intro h;simp [h]
 ·intro h;simp [h]
inductive OthIs (kind:Int) (ls:List Val):List UInt8→Prop
 | text (h:kind=3) (b0 b1:List UInt8) (h0:EncIs (textsL ls) 0 b0) (h1:EncIs (textsL ls) 1 b1):OthIs kind ls (if b1.length<b0.length then b1 else b0)
 | num (h:kind≠3):OthIs kind ls (intsL (bestN (numsL ls)) (numsL ls))
theorem OthIs.one{kind:Int}{ls:List Val}{b c:List UInt8}(h:OthIs kind ls b)(h':OthIs kind ls c):b=c:=by
 cases h with
 | text h b0 b1 h0 h1 =>
  cases h' with
  | text k c0 c1 k0 k1=>rw [h0.one k0,h1.one k1]
  | num k=>exact absurd h k
 | num h =>
  cases h' with
  | text k c0 c1 k0 k1=>exact absurd k h
  | num k=>rfl
structure Good1(kind:Int)(ls:List Val):Prop where
 right:rightL kind ls=true
 ok:∀ v∈ls,ValOk v
theorem Good1.len{kind:Int}{ls:List Val}(h:Good1 kind ls):ls.length≤1024:=by
 have:=h.right
 simp [rightL] at this
 omega
theorem Good1.kind{kind:Int}{ls:List Val}(h:Good1 kind ls):1≤kind∧kind≤3:=by
 have:=h.right
 simp [rightL] at this
 omega
theorem Good1.all{kind:Int}{ls:List Val}(h:Good1 kind ls):∀ v∈ls,okV kind v=true:=by
 have:=h.right
 simp only [rightL,Bool.and_eq_true,List.all_eq_true] at this
 exact this.1
theorem Good1.nums{kind:Int}{ls:List Val}(h:Good1 kind ls):∀ x∈numsL ls,I64 x:=by
 intro x hx
 obtain⟨v,hv,rfl⟩:=List.mem_map.1 hx
 have:=h.ok v (List.mem_filter.1 hv).1
 exact⟨this.lo,this.hi⟩
theorem Good1.texts{kind:Int}{ls:List Val}(h:Good1 kind ls):longB (textsL ls)=false:=by
 unfold longB
 rw [List.any_eq_false]
 intro s hs
 obtain⟨v,hv,rfl⟩:=List.mem_map.1 hs
 have:=h.all v (List.mem_filter.1 hv).1
 simp only [okV,Bool.and_eq_true] at this
 have hr:=this.1
 simp only [decide_eq_true_eq]
 unfold rightB at hr
 have hE:∀ s:ByteArray,s=E0→s.size=0:=by rintro s rfl;rfl
 split at hr
 ·simp at hr;have:=hE _ hr.2;omega
 ·split at hr
  ·simp at hr;have:=hE _ hr;omega
  ·split at hr
   ·simp at hr;have:=hE _ hr.2;omega
   ·split at hr
    ·simp at hr;omega
    ·cases hr
theorem Good1.enc{kind:Int}{ls:List Val}(h:Good1 kind ls)(f:Int)(hf:0≤f∧f≤1):encOk f (textsL ls):=⟨hf.1,hf.2,by have:=textsL_len ls;have:=h.len;omega,h.texts⟩
theorem EncIs.len{f:Int}{ls:List ByteArray}{b:List UInt8}(hok:encOk f ls)(h:EncIs ls f b):b.length≤60000+ls.length*1034:=by
 obtain⟨_,_,hn,hlong⟩:=hok
 have hz:=longB_false hlong
 cases h with
 | plain =>
  have:=laidL_len hz
  simp only [List.length_cons]
  omega
 | table t w ht hw =>
  have htl:t.length≤ls.length:=by
   have:=nodup_len (lt_nodup ht.up) (fun x hx=>(ht.mem x).1 hx)
   simpa using this
  have htz:∀ s∈t.map sof,s.size≤1024:=by
   intro s hs
   obtain⟨x,hx,rfl⟩:=List.mem_map.1 hs
   obtain⟨s',hs',rfl⟩:=List.mem_map.1 ((ht.mem x).1 hx)
   rw [sof_bl]
   exact hz s' hs'
  have l1:=laidL_len htz
  rw [List.length_map] at l1
  have l2:=digitsL_len10 (n:=t.length) (by omega)
  have hw13:w≤13:=hw.le.2 ((orL_lt _ _).2 fun x hx=>by
   obtain⟨s,hs,rfl⟩:=List.mem_map.1 hx
   have:=List.idxOf_le_length (l:=t) (a:=bl s)
   omega)
  have hpl:(placesL t ls).length=ls.length:=by simp [placesL]
  have l3:(placesL t ls).length*w≤4096*13:=Nat.mul_le_mul (by omega) hw13
  simp only [List.length_append,List.length_cons,packL_len]
  unfold sizeN
  omega
theorem OthIs.len{kind:Int}{ls:List Val}{b:List UInt8}(hg:Good1 kind ls)(h:OthIs kind ls b):b.length≤2000000:=by
 have l1:=textsL_len ls
 have l2:=numsL_len ls
 have l3:=hg.len
 cases h with
 | text h b0 b1 h0 h1 =>
  have k0:=h0.len (hg.enc 0 (by omega))
  have k1:=h1.len (hg.enc 1 (by omega))
  split <;> omega
 | num h =>
  have:=intsL_len (bestN (numsL ls)) (by omega) hg.nums
  omega
section
variable {w:World}{a:Option Addr}{c:Nat}{ls:List Val}
theorem ref08_others_ok{kind:Int}(hg:Good1 kind ls)(hl:Rd w a (valsL ls)) :
  Calls Tryz.prog f.ref08_others #[.int .i64 kind,.slice a ls.length c] w (Ret fun v w'=>∃ b a' c',v=.slice a' b.length c'∧OthIs kind ls b∧NewB w w' b a' c'):=by
 have hlen:=hg.len
 apply R.ref08_others_calls
 unfold R.ref08_others
 refine⟨fun s w1=>∃(i:Nat) (na:Option Addr) (nc:Nat) (sa:Option Addr) (sc:Nat),s=[.slice na (numsL (ls.take i)).length nc,.slice sa (textsL (ls.take i)).length sc,.int .i64 (i:Int)]∧i≤ls.length∧Two w.heap.size w1 (numsL (ls.take i)) na nc (textsL (ls.take i)) sa sc∧Below w.heap.size w w1,fun s _=>match s with
   | [_,_,.int _ i]=>ls.length-i.toNat
   | _=>0,⟨0,none,0,none,0,rfl,by omega,Two.nil _ _,.refl _ _⟩,?_⟩
 rintro na _ nc sa _ sc _ w1 ⟨i,_,_,_,_,hst,hi,hT,B1⟩
 cases hst
 have mes:ls.length-(IntKind.i64.wrap ((i:Int)+1)).toNat<ls.length-((i:Nat):Int).toNat∨¬ i<ls.length:=by
  by_cases h:i<ls.length
  ·left
   rw [wrap_succ (by omega)]
   simp only [Int.toNat_natCast]
   omega
  ·exact .inr h
 refine IFB_dec (fun hlt=>⟨⟨by omega,hlt⟩,?_⟩) (fun hge=>?_)
 ·have hil:i<ls.length:=by omega
  have mes:=mes.resolve_right (by omega)
  obtain⟨p,rfl,c0,c1,c2⟩:=val_at (hl.grown B1) hil
  obtain⟨t0,t1⟩:=nums_take hil
  refine⟨_,by rw [Int.toNat_natCast];exact c0,IFB_ne (fun hne=>⟨⟨by omega,hlt⟩,_,by rw [Int.toNat_natCast];exact c1,(SH.start (fun _=>False) w1).newB fun b2 w2 hb2 B2 S2=>?_⟩) (fun hz=>?_)⟩
  ·obtain⟨e1,e2⟩:=t1 hne
   have C2:=below_trans B1 B2
   have hn1:=numsL_len (ls.take i)
   have hn2:=textsL_len (ls.take i)
   rw [List.length_take] at hn1 hn2
   refine (hT.grown B2).appN C2.size (by omega) (S2.get 0 rfl) fun a3 c3 w3 h3 K3=>⟨_,_,_,rfl,⟨by omega,hlt⟩,?_⟩
   have C3:Below w.heap.size w w3:=C2.trans (K3.below C2.size fun k hk he=>by have:=hT.nn k he;omega)
   obtain⟨p',hp',_,_,c2'⟩:=val_at (hl.grown C3) hil
   cases hp'
   refine⟨_,by rw [Int.toNat_natCast];exact c2',(SH.start (fun _=>False) w3).newB fun b4 w4 hb4 B4 S4=>?_⟩
   have C4:=below_trans C3 B4
   refine (h3.grown B4).appS C4.size (by omega) (S4.get 0 rfl) fun a5 c5 w5 h5 K5=>⟨_,_,_,rfl,?_⟩
   refine⟨⟨i+1,a3,c3,a5,c5,?_,by omega,by rw [e1,e2];exact h5,C4.trans (K5.below C4.size fun k hk he=>by have:=hT.sn k he;omega)⟩,mes⟩
   rw [e1,e2,wrap_succ (by omega)]
  ·obtain⟨e1,e2⟩:=t0 hz
   refine⟨⟨i+1,na,nc,sa,sc,?_,by omega,by rw [e1,e2];exact hT,B1⟩,mes⟩
   rw [e1,e2,wrap_succ (by omega)]
 ·have hie:ls.take i=ls:=List.take_of_length_le (by omega)
  rw [hie] at hT ⊢
  have hn4:(textsL ls).length≤9223372036854775807:=by have:=textsL_len ls;omega
  have hn5:(numsL ls).length≤4096:=by have:=numsL_len ls;omega
  refine IFB_eq (fun h3=>?_) (fun h3=>?_)
  ·refine (ref_Best_ok hT.rs.rd hn4).mono ?_
   rintro _ w30 ⟨_,rfl,hB,B30⟩
   rcases hB with ⟨hno,_⟩ | ⟨b0,b1,h0,h1,_,rfl⟩
   ·exact absurd (hg.enc 0 (by omega)) hno
   refine⟨_,_,rfl,?_⟩
   have hf:0≤(if b1.length<b0.length then (1:Int) else 0)∧(if b1.length<b0.length then (1:Int) else 0)≤1:=by split <;> omega
   refine (ref_Encode_ok _ (hT.rs.rd.grown B30) hn4).mono ?_
   rintro _ w31 ⟨_,rfl,hE⟩
   rcases hE with ⟨hno,_⟩ | ⟨_,b,a,c,hE,rfl,hN⟩
   ·exact absurd (hg.enc _ hf) hno
   refine⟨_,_,_,_,rfl,b,a,c,rfl,?_,hN.before (below_trans B1 B30)⟩
   have:=OthIs.text (kind:=kind) (ls:=ls) h3 b0 b1 h0 h1
   split at hE
   ·rename_i hlt
    rw [if_pos hlt] at this
    rw [hE.one h1];exact this
   ·rename_i hlt
    rw [if_neg hlt] at this
    rw [hE.one h0];exact this
  ·refine (ref_ints_Best_ok hT.rn.rd hn5 hg.nums).mono ?_
   rintro _ w30 ⟨_,rfl,rfl,B30⟩
   refine⟨_,_,rfl,(ref_ints_Encode_ok _ (hT.rn.rd.grown B30) hg.nums).mono ?_⟩
   rintro _ w31 ⟨_,rfl,hE⟩
   obtain⟨a,c,rfl,hN⟩:=IntsV.good (bestN_le _) hn5 hE
   exact⟨_,_,_,_,rfl,_,a,c,rfl,.num h3,hN.before (below_trans B1 B30)⟩
end
section
variable {w:World}{a:Option Addr}{c:Nat}{ls:List Val}
theorem chunk_encoded_ok{kind:Int}(hg:Good1 kind ls)(hl:Rd w a (valsL ls)) :
  Calls Tryz.prog f.chunk_encoded #[.int .i64 kind,.slice a ls.length c] w (Ret fun v w'=>∃ b a' c',v=.slice a' b.length c'∧OthIs kind ls b∧NewB w w' b a' c'):=by
 have hlen:=hg.len
 apply R.chunk_encoded_calls
 unfold R.chunk_encoded
 refine (SH.start (fun _=>False) w).newB fun b3 w1 hb3 B1 S1=>S1.newB fun b4 w2 hb4 B2 S2=>chunk_full_ok.mono ?_
 rintro _ w9 ⟨_,rfl,bI,rfl,P9⟩
 refine⟨_,_,_,rfl,by kernel_rfl,fun rr hst hpe hy=>?_⟩
 obtain⟨W1,hW1⟩:∃ W1,W1=(w9.alloc (.deferred (some []))).alloc (.loop rr):=⟨_,rfl⟩
 rw [← hW1]
 have B91:Below w9.heap.size w9 W1:=by rw [hW1];exact (((Below.refl _ w9).alloc (Nat.le_refl _) _).alloc (by simp) _)
 have sz1:W1.heap.size=w9.heap.size+2:=by rw [hW1];simp
 have hL1:W1.heap[w9.heap.size+1]?=some (.loop rr):=by
  rw [hW1];have:=World.alloc_heap_new (w9.alloc (.deferred (some []))) (.loop rr);rwa [World.size_alloc] at this
 have hD1:W1.heap[w9.heap.size]?=some (.deferred (some [])):=by
  rw [hW1];exact (Below.heap_alloc _ _ _ (by simp)).trans (World.alloc_heap_new w9 _)
 have K91:=Keeps.of_below (F:=fun _=>False) B91
 obtain⟨L,hLd⟩:∃ L,L=w9.heap.size+1:=⟨_,rfl⟩
 rw [← hLd] at hL1 hy ⊢
 have S9:=S2.grown P9.below
 have h39:=S9.lt (x:=(b3,_,_)) (List.mem_cons_of_mem _ (List.mem_cons_self ..))
 have h49:=S9.lt (x:=(b4,_,_)) (List.mem_cons_self ..)
 have hb34:b4≠b3:=S9.ne 0 1 rfl rfl (by decide)
 have Bw9:Below w.heap.size w w9:=S9.below
 have Bw1:Below w.heap.size w W1:=Bw9.trans (B91.mono Bw9.size)
 have w09:=Bw9.size
 have hb3w:w.heap.size≤b3:=hb3
 have hb4w:w.heap.size≤b4:=by have:=B1.size;omega
 let F:Nat→Prop:=fun x=>x=b3∨x=b4∨x=L
 let J:Nat→World→Prop:=fun q wx=>Keeps F W1 wx∧wx.heap[L]?=some (.loop rr)∧∃ na nc sa sc,wx.heap[b3]?=some (.cells #[.slice na (numsL (ls.take q)).length nc] ty.L_int64 (0,0)) ∧
  wx.heap[b4]?=some (.cells #[.slice sa (textsL (ls.take q)).length sc] ty.L_string (0,0))∧Two W1.heap.size wx (numsL (ls.take q)) na nc (textsL (ls.take q)) sa sc
 have low:∀ {w':World},Keeps F W1 w'→Below w.heap.size w w':=fun K=>Bw1.trans (K.below Bw1.size fun k hk h=>by
  rcases h with h | h | h <;> omega)
 have hI:W1.cell? ⟨bI,0,none⟩=some (.slice a ls.length c):=cell0 (K91.at (P9.get 0 rfl) (by simp))
 have hcall:=full_c1_ok (w:=W1) (L:=L) (b:=bI) (by omega) J (fun q wx hj=>hl.grown (low hj.1)) (fun q wx wy hj B=>by
   obtain⟨j1,j2,na,nc,sa,sc,j3,j4,j5⟩:=hj
   have K:=Keeps.of_below (F:=fun _=>False) B
   exact⟨j1.trans K (fun x _ h=>h.elim),K.at j2 (by simp),na,nc,sa,sc,K.at j3 (by simp),K.at j4 (by simp),j5.grown B⟩) (fun q wx hq hz hj=>by
   obtain⟨j1,j2,na,nc,sa,sc,j3,j4,j5⟩:=hj
   obtain⟨e1,e2⟩:=(nums_take hq).1 hz
   exact⟨j1,j2,na,nc,sa,sc,by rw [e1];exact j3,by rw [e2];exact j4,by rw [e1,e2];exact j5⟩) (by
  rintro q wx hq hne ⟨K,hL,na,nc,sa,sc,g3,g4,hT⟩
  obtain⟨e1,e2⟩:=(nums_take hq).2 hne
  have hn1:=numsL_len (ls.take q)
  have hn2:=textsL_len (ls.take q)
  rw [List.length_take] at hn1 hn2
  refine hy _ _ _ _ wx hL ?_
  refine (SH.start (fun _=>False) wx).lit3 fun b11 w8 hb11 B8 S8=>?_
  have K8:=Keeps.of_below (F:=fun _=>False) B8
  have hL8:=K8.at hL (by simp)
  refine⟨hL8,?_⟩
  obtain⟨wB,hwB⟩:∃ wB,wB=w8.putObj L (.loop { rr with state:=.busy }):=⟨_,rfl⟩
  rw [← hwB]
  have hLlt:L<w8.heap.size:=(Array.getElem?_eq_some_iff.1 hL8).1
  have KB:Keeps (fun k=>k=L) w8 wB:=by rw [hwB];exact keeps_putObj _ _ _
  have hLB:wB.heap[L]?=some (.loop { rr with state:=.busy }):=by rw [hwB];exact World.putObj_heap_same hLlt
  unfold DRAW
  obtain⟨wD,hwD⟩:∃ wD,wD=wB.drew:=⟨_,rfl⟩
  rw [← hwD]
  have KD:Keeps (fun _=>False) wB wD:=by rw [hwD];exact (Keeps.refl _ _).drew
  have sx:=K.size
  have s8:=B8.size
  have d3:wD.heap[b3]?=some (.cells #[.slice na (numsL (ls.take q)).length nc] ty.L_int64 (0,0)):=KD.at (KB.at (K8.at g3 (by simp)) (by show ¬ b3=L;omega)) (by simp)
  have d4:wD.heap[b4]?=some (.cells #[.slice sa (textsL (ls.take q)).length sc] ty.L_string (0,0)):=KD.at (KB.at (K8.at g4 (by simp)) (by show ¬ b4=L;omega)) (by simp)
  have dL:wD.heap[L]?=some (.loop { rr with state:=.busy }):=KD.at hLB (by simp)
  have d11:wD.heap[b11]?=some (.cells #[.int .i64 ls[q].1,.int .i64 ls[q].2.1,.string ls[q].2.2] ty.api_Value (0,0)):=KD.at (KB.at (S8.get 0 rfl) (by show ¬ b11=L;omega)) (by simp)
  have dT:Two W1.heap.size wD (numsL (ls.take q)) na nc (textsL (ls.take q)) sa sc:=((hT.grown B8).keeps KB (fun x hx=>.inl (by omega))).keeps KD (by simp)
  have dK:Keeps F W1 wD:=((K.trans K8 (fun x _ h=>h.elim)).trans KB (fun x _ h=>.inr (.inr h))).trans KD (fun x _ h=>h.elim)
  have l3:b3<W1.heap.size:=by omega
  have l4:b4<W1.heap.size:=by omega
  have lL:L<W1.heap.size:=by omega
  have l11:W1.heap.size≤b11:=by omega
  have fin:∀(wy:World) (na':Option Addr) (nc':Nat) (sa':Option Addr) (sc':Nat),Keeps F W1 wy→wy.heap[L]?=some (.loop { rr with state:=.busy })→wy.heap[b3]?=some (.cells #[.slice na (numsL (ls.take q)).length nc] ty.L_int64 (0,0)) →
    wy.heap[b4]?=some (.cells #[.slice sa (textsL (ls.take q)).length sc] ty.L_string (0,0))→Two W1.heap.size wy (numsL (ls.take q)++[ls[q].2.1]) na' nc' (textsL (ls.take q)++[ls[q].2.2]) sa' sc' →
    STO ⟨b3,0,none⟩ (.slice na' (numsL (ls.take q)++[ls[q].2.1]).length nc') (fun w15=>STO ⟨b4,0,none⟩ (.slice sa' (textsL (ls.take q)++[ls[q].2.2]).length sc') (fun w16=>ENDR rr L (fun y w'=>y=true∧(Keeps F W1 w'∧w'.heap[L]?=some (.loop rr)∧∃ na nc sa sc,w'.heap[b3]?=some (.cells #[.slice na (numsL (ls.take (q+1))).length nc] ty.L_int64 (0,0)) ∧
  w'.heap[b4]?=some (.cells #[.slice sa (textsL (ls.take (q+1))).length sc] ty.L_string (0,0))∧Two W1.heap.size w' (numsL (ls.take (q+1))) na nc (textsL (ls.take (q+1))) sa sc)) none w16) w15) wy:=by
   intro wy na' nc' sa' sc' yK yL y3 y4 yT
   refine sto_blk y3 (by simp) fun wz Kz z3=>sto_blk (Kz.at y4 hb34) (by simp) fun wq Kq q4=>?_
   have qL:wq.heap[L]?=some (.loop { rr with state:=.busy }):=Kq.at (Kz.at yL (by show ¬ L=b3;omega)) (by show ¬ L=b4;omega)
   refine⟨qL,rfl,?_⟩
   rw [rr_eta hst hpe]
   have lq:L<wq.heap.size:=(Array.getElem?_eq_some_iff.1 qL).1
   have KP:=keeps_putObj wq L (.loop rr)
   have q3:=Kq.at z3 (show ¬ b3=b4 from fun h=>hb34 h.symm)
   refine⟨((yK.trans Kz (fun x _ h=>.inl h)).trans Kq (fun x _ h=>.inr (.inl h))).trans KP (fun x _ h=>.inr (.inr h)),World.putObj_heap_same lq,na',nc',sa',sc',?_,?_,?_⟩
   ·rw [e1];exact KP.at q3 (by show ¬ b3=L;omega)
   ·rw [e2];exact KP.at q4 (by show ¬ b4=L;omega)
   ·rw [e1,e2]
    exact ((yT.keeps Kz (fun x hx=>.inl (by omega))).keeps Kq (fun x hx=>.inl (by omega))).keeps KP (fun x hx=>.inl (by omega))
  have offN:∀ {x:Nat},x<W1.heap.size→¬ rowB na=some x:=fun hx h=>by have:=hT.nn _ h;omega
  have offS:∀ {x:Nat},x<W1.heap.size→¬ rowB sa=some x:=fun hx h=>by have:=hT.sn _ h;omega
  have sB:w8.heap.size≤wB.heap.size:=KB.size
  have sD:wB.heap.size≤wD.heap.size:=KD.size
  have c11a:wD.cell? ⟨b11,1,none⟩=some (.int .i64 ls[q].2.1):=by simp [World.cell?,d11]
  have c11b:wD.cell? ⟨b11,2,none⟩=some (.string ls[q].2.2):=by simp [World.cell?,d11]
  refine⟨_,_,_,cell0 d3,_,c11a,_,_,_,cell0 d4,_,c11b,?_,?_⟩
  ·refine (SH.start (fun _=>False) wD).newB fun b16 wE hb16 BE SE=>?_
   have KE:=Keeps.of_below (F:=fun _=>False) BE
   have f3:=KE.at d3 (by simp)
   have f4:=KE.at d4 (by simp)
   have fL:=KE.at dL (by simp)
   have f11:=KE.at d11 (by simp)
   have fT:=dT.grown BE
   have fK:Keeps F W1 wE:=dK.trans KE (fun x _ h=>h.elim)
   have sE:=BE.size
   refine⟨by simp [World.cell?,f11],cell0 f4,cell0 f3,?_,?_⟩
   ·refine fT.appN (by omega) (by omega) (SE.get 0 rfl) fun aN cN wN hN KN=>⟨_,_,_,rfl,?_⟩
    have n11:¬ rowB na=some b11:=fun h=>by have:=hT.rn.lt h;omega
    have m11:=KN.at f11 n11
    have m3:=KN.at f3 (offN l3)
    have m4:=KN.at f4 (offN l4)
    have mL:=KN.at fL (offN lL)
    have mK:Keeps F W1 wN:=fK.trans KN (fun x hx h=>absurd h (offN hx))
    have sN:=KN.size
    refine⟨by simp [World.cell?,m11],cell0 m4,(SH.start (fun _=>False) wN).newB fun b19 wO hb19 BO SO=>⟨cell0 ((Keeps.of_below (F:=fun _=>False) BO).at m4 (by simp)),?_⟩⟩
    have KO:=Keeps.of_below (F:=fun _=>False) BO
    have sO:=BO.size
    refine (hN.grown BO).appS (by omega) (by omega) (SO.get 0 rfl) fun aS cS wS hS KS=>⟨_,_,_,rfl,?_⟩
    refine fin wS aN cN aS cS ((mK.trans KO (fun x _ h=>h.elim)).trans KS (fun x hx h=>absurd h (offS hx))) (KS.at (KO.at mL (by simp)) (offS lL)) (KS.at (KO.at m3 (by simp)) (offS l3)) (KS.at (KO.at m4 (by simp)) (offS l4)) hS
   ·refine (SH.start (fun _=>False) wE).newB fun b22 wO hb22 BO SO=>?_
    have KO:=Keeps.of_below (F:=fun _=>False) BO
    have sO:=BO.size
    have o3:=KO.at f3 (by simp)
    have o4:=KO.at f4 (by simp)
    have oL:=KO.at fL (by simp)
    have o16:wO.heap[b16]?=some (.cells #[.int .i64 ls[q].2.1] ty.int64 (0,0)):=KO.at (SE.get 0 rfl) (by simp)
    have oK:Keeps F W1 wO:=fK.trans KO (fun x _ h=>h.elim)
    refine⟨cell0 o4,cell0 o3,(fT.grown BO).appN (by omega) (by omega) o16 fun aN cN wN hN KN=>⟨_,_,_,rfl,cell0 (KN.at o4 (offN l4)),?_⟩⟩
    have n22:¬ rowB na=some b22:=fun h=>by have:=hT.rn.lt h;omega
    have sN:=KN.size
    refine hN.appS (by omega) (by omega) (KN.at (SO.get 0 rfl) n22) fun aS cS wS hS KS=>⟨_,_,_,rfl,?_⟩
    exact fin wS aN cN aS cS ((oK.trans KN (fun x hx h=>absurd h (offN hx))).trans KS (fun x hx h=>absurd h (offS hx))) (KS.at (KN.at oL (offN lL)) (offS lL)) (KS.at (KN.at o3 (offN l3)) (offS l3)) (KS.at (KN.at o4 (offN l4)) (offS l4)) hS
  ·refine (SH.start (fun _=>False) wD).newB fun b27 wE hb27 BE SE=>?_
   have KE:=Keeps.of_below (F:=fun _=>False) BE
   have f3:=KE.at d3 (by simp)
   have f4:=KE.at d4 (by simp)
   have fL:=KE.at dL (by simp)
   have f11:=KE.at d11 (by simp)
   have fT:=dT.grown BE
   have fK:Keeps F W1 wE:=dK.trans KE (fun x _ h=>h.elim)
   have sE:=BE.size
   refine⟨cell0 f4,by simp [World.cell?,f11],cell0 f3,(SH.start (fun _=>False) wE).newB fun b28 wO hb28 BO SO=>?_⟩
   have KO:=Keeps.of_below (F:=fun _=>False) BO
   have sO:=BO.size
   have o3:=KO.at f3 (by simp)
   have o4:=KO.at f4 (by simp)
   have oL:=KO.at fL (by simp)
   have o27:wO.heap[b27]?=some (.cells #[.string ls[q].2.2] ty.string (0,0)):=KO.at (SE.get 0 rfl) (by simp)
   have oK:Keeps F W1 wO:=fK.trans KO (fun x _ h=>h.elim)
   refine⟨cell0 o4,cell0 o3,(fT.grown BO).appN (by omega) (by omega) (SO.get 0 rfl) fun aN cN wN hN KN=>⟨_,_,_,rfl,cell0 (KN.at o4 (offN l4)),?_⟩⟩
   have n27:¬ rowB na=some b27:=fun h=>by have:=hT.rn.lt h;omega
   have sN:=KN.size
   refine hN.appS (by omega) (by omega) (KN.at o27 n27) fun aS cS wS hS KS=>⟨_,_,_,rfl,?_⟩
   exact fin wS aN cN aS cS ((oK.trans KN (fun x hx h=>absurd h (offN hx))).trans KS (fun x hx h=>absurd h (offS hx))) (KS.at (KN.at oL (offN lL)) (offS lL)) (KS.at (KN.at o3 (offN l3)) (offS l3)) (KS.at (KN.at o4 (offN l4)) (offS l4)) hS)
  ⟨.refl _ _,hL1,none,0,none,0,K91.at (S9.get 1 rfl) (by simp),K91.at (S9.get 0 rfl) (by simp),Two.nil _ _⟩ hI
 refine hcall.mono ?_
 rintro _ w14 ⟨_,rfl,K14,hL14,na,nc,sa,sc,g3,g4,hT⟩
 rw [List.take_length] at g3 g4 hT
 refine⟨⟨_,rfl⟩,none,by rw [rr_eta hst hpe];exact hL14,rfl,?_⟩
 obtain⟨w15,hw15⟩:∃ w15,w15=w14.putObj L (.loop { rr with state:=.exhausted,pending:=none }):=⟨_,rfl⟩
 rw [← hw15]
 have K15:Keeps (fun k=>k=L) w14 w15:=by rw [hw15];exact keeps_putObj _ _ _
 have KF:=K14.trans K15 (fun x _ h=>.inr (.inr h))
 have g3':=K15.at g3 (show ¬ b3=L by omega)
 have g4':=K15.at g4 (show ¬ b4=L by omega)
 have hT':=hT.keeps K15 (fun x hx=>.inl (by omega))
 have hD15:w15.heap[w9.heap.size]?=some (.deferred (some [])):=KF.at hD1 (by show ¬ (w9.heap.size=b3∨w9.heap.size=b4∨w9.heap.size=L);omega)
 have B15:=low KF
 have hn4:(textsL ls).length≤9223372036854775807:=by have:=textsL_len ls;omega
 have hn5:(numsL ls).length≤4096:=by have:=numsL_len ls;omega
 have s15:=KF.size
 have fin2:∀ {wz:World} {b:List UInt8} {az:Option Addr} {cz:Nat},NewB w15 wz b az cz→wz.heap[w9.heap.size]?=some (.deferred (some []))∧NewB w (wz.putObj w9.heap.size (.deferred none)) b az cz:=by
  intro wz b az cz hN
  have KP:=keeps_putObj wz w9.heap.size (.deferred none)
  have hB:=below_trans B15 hN.bel
  refine⟨(Keeps.of_below (F:=fun _=>False) hN.bel).at hD15 (by simp),hN.row.keeps KP fun x hx he=>by have:=hN.new x hx;omega,fun k hk=>by have:=hN.new k hk;omega,hB.trans (KP.below hB.size fun k hk he=>by omega)⟩
 refine IFB_eq (fun h3=>⟨_,_,_,cell0 g4',?_⟩) (fun h3=>⟨_,_,_,cell0 g3',?_⟩)
 ·refine (dict_Best_ok hT'.rs.rd hn4).mono ?_
  rintro _ w30 ⟨_,rfl,hB,B30⟩
  rcases hB with ⟨hno,_⟩ | ⟨b0,b1,h0,h1,_,rfl⟩
  ·exact absurd (hg.enc 0 (by omega)) hno
  refine⟨_,_,rfl,_,_,_,cell0 ((Keeps.of_below (F:=fun _=>False) B30).at g4' (by simp)),?_⟩
  have hf:0≤(if b1.length<b0.length then (1:Int) else 0)∧(if b1.length<b0.length then (1:Int) else 0)≤1:=by split <;> omega
  refine (dict_Encode_ok _ (hT'.rs.rd.grown B30) hn4).mono ?_
  rintro _ w31 ⟨_,rfl,hE⟩
  rcases hE with ⟨hno,_⟩ | ⟨_,b,az,cz,hE,rfl,hN⟩
  ·exact absurd (hg.enc _ hf) hno
  obtain⟨q1,q2⟩:=fin2 (hN.before B30)
  refine⟨_,_,_,_,rfl,q1,b,az,cz,rfl,?_,q2⟩
  have:=OthIs.text (kind:=kind) (ls:=ls) h3 b0 b1 h0 h1
  split at hE
  ·rename_i hlt
   rw [if_pos hlt] at this
   rw [hE.one h1];exact this
  ·rename_i hlt
   rw [if_neg hlt] at this
   rw [hE.one h0];exact this
 ·refine (ints_Best_ok hT'.rn.rd hT'.rn.le hn5 hg.nums).mono ?_
  rintro _ w30 ⟨_,rfl,rfl,B30⟩
  refine⟨_,_,rfl,_,_,_,cell0 ((Keeps.of_below (F:=fun _=>False) B30).at g3' (by simp)),(ints_Encode_ok _ (hT'.rn.rd.grown B30) hT'.rn.le hg.nums).mono ?_⟩
  rintro _ w31 ⟨_,rfl,hE⟩
  obtain⟨az,cz,rfl,hN⟩:=IntsV.good (bestN_le _) hn5 hE
  obtain⟨q1,q2⟩:=fin2 (hN.before B30)
  exact⟨_,_,_,_,rfl,q1,_,az,cz,rfl,.num h3,q2⟩
end
theorem tmod2(r:BitVec 32):Int.tmod (r.toNat:Int) 2=if r.getLsbD 0 then 1 else 0:=by
 rw [Int.tmod_eq_emod_of_nonneg (by omega)]
 have h:r.getLsbD 0=decide (r.toNat % 2=1):=by
  simp [BitVec.getLsbD,Nat.testBit_zero]
 rw [h]
 by_cases hh:r.toNat % 2=1 <;> simp [hh] <;> omega
theorem tdiv2(r:BitVec 32):Int.tdiv (r.toNat:Int) 2=((r >>> 1).toNat:Int):=by
 rw [Int.tdiv_eq_ediv_of_nonneg (by omega),BitVec.toNat_ushiftRight,Nat.shiftRight_eq_div_pow]
 norm_cast
theorem ref02_Sum_ok{w:World}{a:Option Addr}{c:Nat}(l:List UInt8)(hb:Rd w a (l.map byteV))(hl:l.length<9223372036854775807) :
  Calls Tryz.prog f.ref02_Sum #[.slice a l.length c] w (Ret fun v w'=>v=.int .u32 ((crc l).toNat:Int)∧w'=w):=by
 apply R.ref02_Sum_calls
 unfold R.ref02_Sum
 refine⟨fun s w2=>match s with
   | [.int _ r,.int _ i]=>w2=w∧∃ j:Nat,i=j∧j≤l.length∧r=((crcRest 4294967295#32 (l.take j)).toNat:Int)
   | _=>False,
  fun s _=>match s with
   | [_,.int _ i]=>l.length-i.toNat
   | _=>0,⟨rfl,0,rfl,Nat.zero_le _,by simp [crcRest]⟩,?_⟩
 rintro r i w2 ⟨rfl,j,rfl,hj,rfl⟩
 refine IFB_dec (fun hlt2=>?_) (fun hge2=>?_)
 ·have hjl:j<l.length:=by omega
  refine⟨⟨by omega,by omega⟩,?_⟩
  obtain⟨p2,rfl,hc2⟩:=hb j (byteV l[j]) (by simp [hjl])
  have hsn:=crcRest_take_snoc l j hjl 4294967295#32
  generalize hR2:crcRest 4294967295#32 (l.take j)=R2 at hsn ⊢
  refine⟨(l[j].toNat:Int),by simpa [byteV] using hc2,?_⟩
  have h0:(IntKind.u32.wrap (((BitVec.ofInt 32 (R2.toNat:Int) ^^^ BitVec.ofInt 32 (IntKind.u32.wrap ((l[j].toNat:Int)))).toNat:Int)))=((R2 ^^^ byte32 l[j]).toNat:Int):=by
   rw [ofInt_wrap32,ofInt_nat,wrap32_nat,BitVec.ofInt_natCast]
   rfl
  rw [h0]
  refine⟨fun s w3=>match s with
    | [.int _ r,.int _ i]=>w3=w2∧∃ m:Nat,i=m∧m≤8∧r=((crcSteps m (R2 ^^^ byte32 l[j])).toNat:Int)
    | _=>False,
   fun s _=>match s with
    | [_,.int _ i]=>8-i.toNat
    | _=>0,⟨rfl,0,rfl,Nat.zero_le _,by simp [crcSteps]⟩,?_⟩
  rintro r i w3 ⟨rfl,m,rfl,hm,rfl⟩
  refine IFB_dec (fun hlt3=>?_) (fun hge3=>?_)
  ·have hst:=crcSteps_snoc m (R2 ^^^ byte32 l[j])
   generalize crcSteps m (R2 ^^^ byte32 l[j])=q at hst ⊢
   simp only [tmod2,tdiv2,wrap32_nat]
   rw [wrap_succ (by omega)]
   cases hh:q.getLsbD 0 with
   | true =>
    refine IFB_true ?_
    rw [ofInt_nat]
    refine⟨⟨trivial,m+1,rfl,by omega,?_⟩,?_⟩
    ·rw [hst,crcStep_eq,hh];rfl
    ·simp only [Int.toNat_natCast];omega
   | false =>
    refine IFB_false ?_
    refine⟨⟨trivial,m+1,rfl,by omega,?_⟩,?_⟩
    ·rw [hst,crcStep_eq,hh];simp
    ·simp only [Int.toNat_natCast];omega
  ·have:m=8:=by omega
   subst this
   rw [wrap_succ (by omega)]
   refine⟨⟨rfl,j+1,rfl,by omega,by rw [hsn];rfl⟩,?_⟩
   simp only [Int.toNat_natCast]
   omega
 ·have:j=l.length:=by omega
  subst this
  refine⟨?_,rfl⟩
  rw [List.take_length,ofInt_nat,wrap32_nat,BitVec.xor_comm]
  rfl
theorem sealed_bytes(x:BitVec 32)(w:World)(b:Nat)(t:TypeId)(hb:w.heap[b]?=some (.cells #[.int .u8 (IntKind.u8.wrap (x.toNat:Int)),.int .u8 (IntKind.u8.wrap ((Int.fdiv (x.toNat:Int) (2 ^ (min 8 32))))),.int .u8 (IntKind.u8.wrap ((Int.fdiv (x.toNat:Int) (2 ^ (min 16 32))))),.int .u8 (IntKind.u8.wrap ((Int.fdiv (x.toNat:Int) (2 ^ (min 24 32)))))] t (0,0))) :
  Rd w (some ⟨b,0,none⟩) ((sum4 x).map byteV):=by
 have:=Rd.of_block0 hb
 rw [u8of_nat,u8of_shift,u8of_shift,u8of_shift] at this
 exact this
end Go.Proofs.YtipgnehlihmdhaaGreatDoor
