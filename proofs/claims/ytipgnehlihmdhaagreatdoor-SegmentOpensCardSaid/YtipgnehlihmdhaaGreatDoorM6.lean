/-
  Texts of this claim, laid one behind the other by a program of mine (install.py): S.Ch4, S.Ch5, S.TakeS2, S.Table, S.Dec, S.IntsD, S.IntsF, S.IntsG, S.Ch10, S.Sch9, S.Cmp, S.CmpL, S.Ch6.
-/
import Derived.Test.YtipgnehlihmdhaaGreatDoorM5
import Derived.Test.YtipgnehlihmdhaaGreatDoorM4
import Derived.Test.YtipgnehlihmdhaaGreatDoorM3
namespace Go.Proofs.YtipgnehlihmdhaaGreatDoor
set_option maxRecDepth 100000
open Go.Dn Go.Proofs
open Go.RowKit (Below)
set_option linter.unusedVariables false
def headL(kind:Int)(ls:List Val):List UInt8:=[UInt8.ofNat kind.toNat]++digitsL ls.length++digitsL (nullsN ls)
def maskL(ls:List Val):List UInt8:=if 0<nullsN ls∧nullsN ls<ls.length then packL (bitsN ls) 1 else []
structure ChIs(kind:Int)(ls:List Val)(b:List UInt8):Prop where
 ex:∃ o,(nullsN ls<ls.length→OthIs kind ls o)∧(¬ nullsN ls<ls.length→o=[])∧b=(headL kind ls++maskL ls++o)++sum4 (crc (headL kind ls++maskL ls++o))
theorem ChIs.one{kind:Int}{ls:List Val}{b c:List UInt8}(h:ChIs kind ls b)(h':ChIs kind ls c):b=c:=by
 obtain⟨o,h1,h2,rfl⟩:=h.ex
 obtain⟨o',k1,k2,rfl⟩:=h'.ex
 have:o=o':=by
  by_cases hn:nullsN ls<ls.length
  ·exact (h1 hn).one (k1 hn)
  ·rw [h2 hn,k2 hn]
 rw [this]
def ChV(kind:Int)(ls:List Val)(w w':World)(r:Value):Prop :=
 (rightL kind ls=false∧r=.tuple #[.slice none 0 0,.int .i64 2]∧Below w.heap.size w w')∨(rightL kind ls=true∧∃ b a c,ChIs kind ls b∧r=.tuple #[.slice a b.length c,.int .i64 0]∧NewB w w' b a c)
theorem headL_len{kind:Int}{ls:List Val}(hg:Good1 kind ls):(headL kind ls).length≤21:=by
 have h1:=digitsL_len10 (n:=ls.length) (by have:=hg.len;omega)
 have h2:=digitsL_len10 (n:=nullsN ls) (by have:=hg.len;have:=nullsN_le ls;omega)
 simp only [headL,List.length_append,List.length_cons,List.length_nil]
 omega
theorem maskL_len{kind:Int}{ls:List Val}(hg:Good1 kind ls):(maskL ls).length≤200:=by
 have:=hg.len
 unfold maskL
 split
 ·rw [packL_len]
  unfold sizeN
  have:(bitsN ls).length=ls.length:=by simp [bitsN]
  rw [this]
  omega
 ·simp
theorem bits_lt(ls:List Val):∀ x∈bitsN ls,x<2 ^ 1:=by
 intro x hx
 obtain⟨v,_,rfl⟩:=List.mem_map.1 hx
 split <;> omega
section
variable {w:World}{a:Option Addr}{c:Nat}{ls:List Val}
theorem chunk_Encode_ok(kind:Int)(hl:Rd w a (valsL ls))(hn:ls.length≤9223372036854775807)(hv:∀ v∈ls,ValOk v) :
  Calls Tryz.prog f.chunk_Encode #[.int .i64 kind,.slice a ls.length c] w (Ret fun v w'=>ChV kind ls w w' v):=by
 apply R.chunk_Encode_calls
 unfold R.chunk_Encode
 refine (chunk_right_ok kind hl hn).mono ?_
 rintro _ w1 ⟨_,rfl,rfl,B1⟩
 refine⟨_,rfl,IFB_not (IFB_of (fun hr=>?_) (fun hr=>.inl ⟨hr,rfl,B1⟩))⟩
 have hg:Good1 kind ls:=⟨hr,hv⟩
 have hlen:=hg.len
 have hk:=hg.kind
 have hnl:=nullsN_le ls
 refine⟨fun s w2=>∃(i:Nat) (ba:Option Addr) (bc:Nat),s=[.slice ba (bitsN (ls.take i)).length bc,.int .i64 (nullsN (ls.take i):Int),.int .i64 (i:Int)]∧i≤ls.length∧NewU w1 w2 (bitsN (ls.take i)) ba bc,fun s _=>match s with
   | [_,_,.int _ i]=>ls.length-i.toNat
   | _=>0,⟨0,none,0,rfl,by omega,NewU.nil w1⟩,?_⟩
 rintro ba _ bc _ _ w2 ⟨i,_,_,hst,hi,h2⟩
 cases hst
 have C2:=below_trans B1 h2.bel
 refine IFB_dec (fun hlt=>⟨⟨by omega,hlt⟩,?_⟩) (fun hge=>?_)
 ·have hil:i<ls.length:=by omega
  obtain⟨p,rfl,c0,c1,c2⟩:=val_at (hl.grown C2) hil
  have hbl:(bitsN (ls.take i)).length≤1024:=by simp [bitsN];omega
  have hnl2:=nullsN_le (ls.take i)
  rw [List.length_take] at hnl2
  have mes:ls.length-((i+1:Nat):Int).toNat<ls.length-((i:Nat):Int).toNat:=by
   simp only [Int.toNat_natCast]
   omega
  refine⟨_,by rw [Int.toNat_natCast];exact c0,_,by rw [Int.toNat_natCast];exact c1,_,by rw [Int.toNat_natCast];exact c2,(SH.start (fun _=>False) w2).lit3 fun b13 w6 hb13 B6 S6=>⟨_,S6.cell 0 rfl rfl,?_⟩⟩
  rw [wrap_succ (by omega),wrap_succ (by omega)]
  refine IFB_eq (fun hz=>?_) (fun hz=>?_)
  ·refine S6.newB fun b15 w7 hb15 B7 S7=>append_u64 ((h2.grown B6).grown B7) (by omega) (x:=1) rfl (S7.get 0 rfl) fun a8 c8 w8 h8=>⟨_,_,_,rfl,⟨i+1,a8,c8,?_,by omega,?_⟩,mes⟩
   ·rw [nullsN_take hil,bitsN_take hil,if_pos hz]
   ·rw [bitsN_take hil,if_pos hz];exact h8
  ·refine S6.newB fun b15 w7 hb15 B7 S7=>append_u64 ((h2.grown B6).grown B7) (by omega) (x:=0) rfl (S7.get 0 rfl) fun a8 c8 w8 h8=>⟨_,_,_,rfl,⟨i+1,a8,c8,?_,by omega,?_⟩,mes⟩
   ·rw [nullsN_take hil,bitsN_take hil,if_neg hz];rfl
   ·rw [bitsN_take hil,if_neg hz];exact h8
 have hie:ls.take i=ls:=List.take_of_length_le (by omega)
 rw [hie] at h2 ⊢
 have hbl:(bitsN ls).length=ls.length:=by simp [bitsN]
 rw [wrap_u8_id (by omega) (by omega)]
 refine (SH.start (fun _=>False) w2).newB fun b21 w11 hb21 B11 S11=>?_
 have C11:=below_trans C2 B11
 have hN11:Rd w11 (some ⟨b21,0,none⟩) ([UInt8.ofNat kind.toNat].map byteV):=by
  have:=Rd.of_block0 (S11.get 0 rfl)
  have e:Value.int .u8 kind=byteV (UInt8.ofNat kind.toNat):=by
   have:=byteV_of (x:=kind.toNat) (by omega)
   rw [← this]
   congr 1
   omega
  simpa [e] using this
 rw [wrap_u64_id (by omega) (by omega)]
 refine (wire_Number_ok (c:=1) [UInt8.ofNat kind.toNat] hN11 ls.length (by omega) (by simp)).mono ?_
 rintro _ w12 ⟨_,rfl,a12,c12,rfl,h12⟩
 have d1:=digitsL_len10 (n:=ls.length) (by omega)
 rw [wrap_u64_id (by omega) (by omega)]
 refine⟨_,_,_,rfl,(wire_Number_ok _ h12.rd (nullsN ls) (by omega) (by simp;omega)).mono ?_⟩
 rintro _ w13 ⟨_,rfl,a13,c13,rfl,h13⟩
 have C12:=below_trans C11 h12.bel
 have h13':=h13.before C12
 have hhead:[UInt8.ofNat kind.toNat]++digitsL ls.length++digitsL (nullsN ls)=headL kind ls:=rfl
 rw [hhead] at h13' ⊢
 have hhl:=headL_len hg
 have hml:=maskL_len hg
 refine⟨_,_,_,rfl,fun s w17=>∃(b:List UInt8) (ab:Option Addr) (cb:Nat),s=[.slice ab b.length cb]∧b=headL kind ls++maskL ls∧NewB w w17 b ab cb,?_,?_⟩
 ·refine⟨fun s w14=>∃ t:Bool,s=[.bool t]∧w14=w13∧(t=true↔0<nullsN ls∧nullsN ls<ls.length),?_,?_⟩
  ·refine IFB_dec (fun h=>⟨_,rfl,rfl,by simp;omega⟩) (fun h=>⟨_,rfl,rfl,by simp;omega⟩)
  rintro _ w14 ⟨t,hst,rfl,ht⟩
  cases hst
  refine IFB_of (fun h=>?_) (fun h=>?_)
  ·have hcond:=ht.1 h
   have hrd:Rd w14 ba ((bitsN ls).map u64V):=((h2.row.rd.grown B11).grown h12.bel).grown h13.bel
   refine (pack_Pack_ok (wd:=1) hrd (by omega) (by omega) (bits_lt ls)).mono ?_
   rintro _ w15 ⟨_,rfl,a15,c15,rfl,h15⟩
   have hpl:(packL (bitsN ls) 1).length≤200:=by
    have:=maskL_len hg
    unfold maskL at this
    rwa [if_pos hcond] at this
   refine⟨_,_,_,_,rfl,append_bytes (h13'.grown h15.bel).row h15.rd (by omega) fun a16 c16 w16 R16 K16 N16=>⟨_,_,_,rfl,_,a16,c16,rfl,?_,h13'.appended h15.bel R16 K16 N16⟩⟩
   unfold maskL
   rw [if_pos hcond]
  ·have hcond:¬ (0<nullsN ls∧nullsN ls<ls.length):=fun hh=>by rw [ht.2 hh] at h;cases h
   refine⟨_,a13,c13,rfl,?_,h13'⟩
   unfold maskL
   rw [if_neg hcond,List.append_nil]
 rintro ab _ cb w17 ⟨b,_,_,hst,hb,h17⟩
 cases hst
 have hbl2:b.length≤221:=by rw [hb,List.length_append];omega
 refine⟨fun s w20=>∃(o b2:List UInt8) (ab:Option Addr) (cb:Nat),s=[.slice ab b2.length cb]∧b2=b++o∧o.length≤2000000∧(nullsN ls<ls.length→OthIs kind ls o)∧(¬ nullsN ls<ls.length→o=[])∧NewB w w20 b2 ab cb,?_,?_⟩
 ·refine IFB_dec (fun h=>?_) (fun h=>⟨[],b,ab,cb,rfl,by simp,by simp,fun hh=>absurd hh (by omega),fun _=>rfl,h17⟩)
  refine (chunk_encoded_ok hg (hl.grown h17.bel)).mono ?_
  rintro _ w18 ⟨_,rfl,o,a18,c18,rfl,hO,h18⟩
  have hol:=hO.len hg
  refine⟨_,_,_,rfl,append_bytes (h17.grown h18.bel).row h18.rd (by omega) fun a19 c19 w19 R19 K19 N19=>⟨_,_,_,rfl,o,_,a19,c19,rfl,rfl,hol,fun _=>hO,fun hh=>absurd (by omega) hh,h17.appended h18.bel R19 K19 N19⟩⟩
 rintro ab2 _ cb2 w20 ⟨o,b2,_,_,hst,hb2,hol,ho1,ho2,h20⟩
 cases hst
 have hb2l:b2.length≤2000221:=by rw [hb2,List.length_append];omega
 refine (SH.start (fun _=>False) w20).newB fun b41 w21 hb41 B21 S21=>?_
 have hS:=wire_Sum_ok (w:=w21) (a:=some ⟨b41,0,none⟩) (c:=1) [(ab2,cb2,b2)] (by
  have:=Rd.of_block0 (S21.get 0 rfl)
  simpa [partV1] using this) (by
  intro p hp
  rw [List.mem_singleton.1 hp]
  exact h20.rd.grown B21) (by simp) (by
  intro p hp
  rw [List.mem_singleton.1 hp]
  simp only
  omega)
 refine hS.mono ?_
 rintro _ w22 ⟨_,rfl,rfl,rfl⟩
 have ef:([(ab2,cb2,b2)]:List PartB).flatMap (·.2.2)=b2:=by simp
 rw [ef]
 refine⟨_,rfl,(SH.start (fun _=>False) w22).newB fun b44 w23 hb44 B23 S23=>?_⟩
 have hR:=sealed_bytes (crc b2) w23 b44 _ (S23.get 0 rfl)
 have h23:=(h20.grown B21).grown B23
 refine append_bytes (m:=sum4 (crc b2)) h23.row hR (by simp [sum4];omega) fun a24 c24 w24 R24 K24 N24=>⟨_,_,_,rfl,.inr ⟨hr,_,a24,c24,⟨o,ho1,ho2,?_⟩,rfl,h20.appended (below_trans B21 B23) R24 K24 N24⟩⟩
 rw [hb2,hb]
theorem ref08_Encode_ok(kind:Int)(hl:Rd w a (valsL ls))(hn:ls.length≤9223372036854775807)(hv:∀ v∈ls,ValOk v) :
  Calls Tryz.prog f.ref08_Encode #[.int .i64 kind,.slice a ls.length c] w (Ret fun v w'=>ChV kind ls w w' v):=by
 apply R.ref08_Encode_calls
 unfold R.ref08_Encode
 refine (ref08_Right_ok kind hl hn).mono ?_
 rintro _ w1 ⟨_,rfl,rfl,B1⟩
 refine⟨_,rfl,IFB_not (IFB_of (fun hr=>?_) (fun hr=>.inl ⟨hr,rfl,B1⟩))⟩
 have hg:Good1 kind ls:=⟨hr,hv⟩
 have hlen:=hg.len
 have hk:=hg.kind
 have hnl:=nullsN_le ls
 refine (ref08_nulls_ok (hl.grown B1) (by omega)).mono ?_
 rintro _ w2 ⟨_,rfl,rfl,rfl⟩
 have hbl:(bitsN ls).length=ls.length:=by simp [bitsN]
 rw [wrap_u8_id (by omega) (by omega)]
 refine⟨_,rfl,(SH.start (fun _=>False) w2).newB fun b21 w11 hb21 B11 S11=>?_⟩
 have C11:=below_trans B1 B11
 have hN11:Rd w11 (some ⟨b21,0,none⟩) ([UInt8.ofNat kind.toNat].map byteV):=by
  have:=Rd.of_block0 (S11.get 0 rfl)
  have e:Value.int .u8 kind=byteV (UInt8.ofNat kind.toNat):=by
   have:=byteV_of (x:=kind.toNat) (by omega)
   rw [← this]
   congr 1
   omega
  simpa [e] using this
 rw [wrap_u64_id (by omega) (by omega)]
 refine (ref_Number_ok (c:=1) [UInt8.ofNat kind.toNat] hN11 ls.length (by omega) (by simp)).mono ?_
 rintro _ w12 ⟨_,rfl,a12,c12,rfl,h12⟩
 have d1:=digitsL_len10 (n:=ls.length) (by omega)
 rw [wrap_u64_id (by omega) (by omega)]
 refine⟨_,_,_,rfl,(ref_Number_ok _ h12.rd (nullsN ls) (by omega) (by simp;omega)).mono ?_⟩
 rintro _ w13 ⟨_,rfl,a13,c13,rfl,h13⟩
 have C12:=below_trans C11 h12.bel
 have h13':=h13.before C12
 have hhead:[UInt8.ofNat kind.toNat]++digitsL ls.length++digitsL (nullsN ls)=headL kind ls:=rfl
 rw [hhead] at h13' ⊢
 have hhl:=headL_len hg
 have hml:=maskL_len hg
 refine⟨_,_,_,rfl,fun s w17=>∃(b:List UInt8) (ab:Option Addr) (cb:Nat),s=[.slice ab b.length cb]∧b=headL kind ls++maskL ls∧NewB w w17 b ab cb,?_,?_⟩
 ·refine⟨fun s w14=>∃ t:Bool,s=[.bool t]∧w14=w13∧(t=true↔0<nullsN ls∧nullsN ls<ls.length),?_,?_⟩
  ·refine IFB_dec (fun h=>⟨_,rfl,rfl,by simp;omega⟩) (fun h=>⟨_,rfl,rfl,by simp;omega⟩)
  rintro _ w14 ⟨t,hst,rfl,ht⟩
  cases hst
  refine IFB_of (fun h=>?_) (fun h=>?_)
  ·have hcond:=ht.1 h
   have hpl:(packL (bitsN ls) 1).length≤200:=by
    have:=maskL_len hg
    unfold maskL at this
    rwa [if_pos hcond] at this
   refine⟨fun s w2=>∃(i:Nat) (ba:Option Addr) (bc:Nat),s=[.slice ba (bitsN (ls.take i)).length bc,.int .i64 (i:Int)]∧i≤ls.length∧NewU w14 w2 (bitsN (ls.take i)) ba bc,fun s _=>match s with
     | [_,.int _ i]=>ls.length-i.toNat
     | _=>0,⟨0,none,0,rfl,by omega,NewU.nil w14⟩,?_⟩
   rintro ba _ bc _ w7 ⟨i,_,_,hst,hi,h2⟩
   cases hst
   have C2:=below_trans h13'.bel h2.bel
   refine IFB_dec (fun hlt=>⟨⟨by omega,hlt⟩,?_⟩) (fun hge=>?_)
   ·have hil:i<ls.length:=by omega
    obtain⟨p,rfl,c0,c1,c2⟩:=val_at (hl.grown C2) hil
    have hbl:(bitsN (ls.take i)).length≤1024:=by simp [bitsN];omega
    have mes:ls.length-((i+1:Nat):Int).toNat<ls.length-((i:Nat):Int).toNat:=by
     simp only [Int.toNat_natCast]
     omega
    refine⟨_,by rw [Int.toNat_natCast];exact c0,?_⟩
    rw [wrap_succ (by omega)]
    refine IFB_eq (fun hz=>?_) (fun hz=>?_)
    ·refine (SH.start (fun _=>False) w7).newB fun b15 w8 hb15 B7 S7=>append_u64 (h2.grown B7) (by omega) (x:=1) rfl (S7.get 0 rfl) fun a8 c8 w8 h8=>⟨_,_,_,rfl,⟨i+1,a8,c8,?_,by omega,?_⟩,mes⟩
     ·rw [bitsN_take hil,if_pos hz]
     ·rw [bitsN_take hil,if_pos hz];exact h8
    ·refine (SH.start (fun _=>False) w7).newB fun b15 w8 hb15 B7 S7=>append_u64 (h2.grown B7) (by omega) (x:=0) rfl (S7.get 0 rfl) fun a8 c8 w8 h8=>⟨_,_,_,rfl,⟨i+1,a8,c8,?_,by omega,?_⟩,mes⟩
     ·rw [bitsN_take hil,if_neg hz]
     ·rw [bitsN_take hil,if_neg hz];exact h8
   have hie:ls.take i=ls:=List.take_of_length_le (by omega)
   rw [hie] at h2 ⊢
   refine (ref_Pack_ok (wd:=1) h2.row.rd (by omega) (by omega) (bits_lt ls)).mono ?_
   rintro _ w15 ⟨_,rfl,a15,c15,rfl,h15⟩
   refine⟨_,_,_,_,rfl,append_bytes (h13'.grown (below_trans h2.bel h15.bel)).row h15.rd (by omega) fun a16 c16 w16 R16 K16 N16=>⟨_,_,_,rfl,_,a16,c16,rfl,?_,h13'.appended (below_trans h2.bel h15.bel) R16 K16 N16⟩⟩
   unfold maskL
   rw [if_pos hcond]
  ·have hcond:¬ (0<nullsN ls∧nullsN ls<ls.length):=fun hh=>by rw [ht.2 hh] at h;cases h
   refine⟨_,a13,c13,rfl,?_,h13'⟩
   unfold maskL
   rw [if_neg hcond,List.append_nil]
 rintro ab _ cb w17 ⟨b,_,_,hst,hb,h17⟩
 cases hst
 have hbl2:b.length≤221:=by rw [hb,List.length_append];omega
 refine⟨fun s w20=>∃(o b2:List UInt8) (ab:Option Addr) (cb:Nat),s=[.slice ab b2.length cb]∧b2=b++o∧o.length≤2000000∧(nullsN ls<ls.length→OthIs kind ls o)∧(¬ nullsN ls<ls.length→o=[])∧NewB w w20 b2 ab cb,?_,?_⟩
 ·refine IFB_dec (fun h=>?_) (fun h=>⟨[],b,ab,cb,rfl,by simp,by simp,fun hh=>absurd hh (by omega),fun _=>rfl,h17⟩)
  refine (ref08_others_ok hg (hl.grown h17.bel)).mono ?_
  rintro _ w18 ⟨_,rfl,o,a18,c18,rfl,hO,h18⟩
  have hol:=hO.len hg
  refine⟨_,_,_,rfl,append_bytes (h17.grown h18.bel).row h18.rd (by omega) fun a19 c19 w19 R19 K19 N19=>⟨_,_,_,rfl,o,_,a19,c19,rfl,rfl,hol,fun _=>hO,fun hh=>absurd (by omega) hh,h17.appended h18.bel R19 K19 N19⟩⟩
 rintro ab2 _ cb2 w20 ⟨o,b2,_,_,hst,hb2,hol,ho1,ho2,h20⟩
 cases hst
 have hb2l:b2.length≤2000221:=by rw [hb2,List.length_append];omega
 refine (ref02_Sum_ok b2 h20.rd (by omega)).mono ?_
 rintro _ w22 ⟨_,rfl,rfl,rfl⟩
 refine⟨_,rfl,(SH.start (fun _=>False) w22).newB fun b44 w23 hb44 B23 S23=>?_⟩
 have hR:=sealed_bytes (crc b2) w23 b44 _ (S23.get 0 rfl)
 have h23:=h20.grown B23
 refine append_bytes (m:=sum4 (crc b2)) h23.row hR (by simp [sum4];omega) fun a24 c24 w24 R24 K24 N24=>⟨_,_,_,rfl,.inr ⟨hr,_,a24,c24,⟨o,ho1,ho2,?_⟩,rfl,h20.appended B23 R24 K24 N24⟩⟩
 rw [hb2,hb]
end
theorem valok_small{v:Val}(h1 : -10≤v.2.1)(h2:v.2.1≤10):ValOk v:=⟨by omega,by omega⟩
theorem ChV.open{kind:Int}{ls:List Val}{w w':World}{r:Value}(h:ChV kind ls w w' r):∃(bs:List UInt8) (a:Option Addr) (c:Nat) (e:Int),r=.tuple #[.slice a bs.length c,.int .i64 e]∧Rd w' a (bs.map byteV)∧Below w.heap.size w w'∧((rightL kind ls=true∧ChIs kind ls bs∧e=0)∨(rightL kind ls=false∧bs=[]∧e=2)):=by
 rcases h with ⟨h1,rfl,hb⟩ | ⟨h1,b,a,c,h2,rfl,h3⟩
 ·exact⟨[],none,0,2,rfl,Rd.nil _ _,hb,.inr ⟨h1,rfl,rfl⟩⟩
 ·exact⟨b,a,c,0,rfl,h3.rd,h3.bel,.inl ⟨h1,h2,rfl⟩⟩
theorem unzig_zig{n:Int}:unzig (zigN n)=n:=by unfold unzig zigN;split <;> split <;> omega
theorem enters_taker:enters Tryz.prog f.dict_taker_c1=true:=by kernel_rfl
theorem num_some{x:Nat × Nat}:numV (some x)=.tuple #[.int .u64 (x.1:Int),.int .i64 (x.2:Int),.int .i64 0]:=rfl
theorem tabB_take{many:Nat}{ts:List (List UInt8)}{xs:List Nat}{i:Nat}(hi:i<xs.length):(xs.take (i+1)).map (fun p=>ts.getD p [])=(xs.take i).map (fun p=>ts.getD p [])++[ts.getD xs[i] []]:=by
 rw [List.take_succ_eq_append_getElem hi,List.map_append]
 rfl
theorem drop_rd{w:World}{a:Option Addr}{c q:Nat}{l:List UInt8}(hl:Rd w a (l.map byteV))(hc:l.length≤c):Rd w (SLA a q c 1) ((l.drop q).map byteV):=by
 have h:=hl.sla q l.length c 1 hc
 rw [Nat.mul_one,Nat.mul_one,← List.map_drop] at h
 have e:((l.drop q).map byteV).take (l.length-q)=(l.drop q).map byteV:=List.take_of_length_le (by simp)
 rwa [e] at h
section
variable {w:World}{a:Option Addr}{c:Nat}{l:List UInt8}
theorem fromTable_ok(hl:Rd w a (l.map byteV))(hc:l.length≤c)(hs:l.length≤9223372036854775807){n:Nat}(hn:n≤4096) :
  Calls Tryz.prog f.dict_fromTable #[.slice a l.length c,.int .i64 (n:Int)] w (Ret fun v w'=>∃(ms:List (List UInt8)) (a':Option Addr) (c':Nat) (ok:Bool),v=.tuple #[.slice a' ms.length c',.bool ok]∧Rd w' a' (strs ms)∧Below w.heap.size w w' ∧
   ((ok=false∧tableL l n=none)∨(ok=true∧tableL l n=some ms))):=by
 apply R.dict_fromTable_calls
 unfold R.dict_fromTable
 have bad:∀ {w':World},Below w.heap.size w w'→tableL l n=none→∃(ms:List (List UInt8)) (a':Option Addr) (c':Nat) (ok:Bool),(Value.tuple #[.slice none 0 0,.bool false])=.tuple #[.slice a' ms.length c',.bool ok]∧Rd w' a' (strs ms)∧Below w.heap.size w w' ∧
   ((ok=false∧tableL l n=none)∨(ok=true∧tableL l n=some ms)):=fun hb ht=>⟨[],none,0,false,rfl,Rd.nil _ _,hb,.inl ⟨rfl,ht⟩⟩
 refine (wire_TakeNumber_ok hl hc hs 1).mono ?_
 rintro _ w ⟨_,rfl,rfl,rfl⟩
 cases hx:takeN l 1 with
 | none=>exact⟨_,_,_,rfl,IFB_ne (fun _=>bad (.refl _ _) (by simp [tableL,hx])) (fun h=>absurd h (by decide))⟩
 | some x =>
 have hxb:=takeN_bounds (n:=x.1) (k:=x.2) hx
 rw [num_some]
 rw [wrap_u64_id (n:=(n:Int)) (by omega) (by omega)]
 refine⟨_,_,_,rfl,IFB_ne (fun h=>absurd rfl h) (fun _=>IFB_dec (fun h=>bad (.refl _ _) ?_) (fun hmany=>?_))⟩
 ·simp only [tableL,hx,Option.bind_some]
  rw [if_pos (by omega)]
 have hm:¬ n<x.1:=by omega
 refine (dict_taker_ok (x.2:Int)).mono ?_
 rintro _ w2 ⟨_,rfl,b1,b2,rfl,S2⟩
 refine⟨_,_,_,rfl,?_⟩
 rw [enters_taker]
 refine (taker_c1_ok (n:=x.1) S2 hl hc hs (by omega)).mono ?_
 rintro _ w3 ⟨_,rfl,hM,B3⟩
 unfold ManyV at hM
 cases hy:takeMany l x.2 x.1 with
 | none =>
  rw [hy] at hM
  subst hM
  refine⟨_,_,_,_,_,rfl,IFB_true (bad B3 ?_)⟩
  simp only [tableL,hx,hy,Option.bind_some,Option.bind_none]
  rw [if_neg hm]
 | some y =>
 rw [hy] at hM
 obtain⟨ta,tc,rfl,hR3⟩:=hM
 have hylen:=takeMany_len hy
 have hyle:=takeMany_le hy (by omega)
 refine⟨_,_,_,_,_,rfl,IFB_false (IFB_dec (fun h=>bad B3 ?_) (fun hlt=>?_))⟩
 ·simp only [tableL,hx,hy,Option.bind_some]
  rw [if_neg hm,if_pos (by omega)]
 have hj:y.2<l.length:=by omega
 refine (SH.start (fun _=>False) w3).drawB fun w4 B4 _=>?_
 have C4:=below_trans B3 B4
 rw [wrap_i64 (n:=(y.2:Int)+1) (by omega) (by omega),show ((y.2:Int)+1).toNat=y.2+1 by omega]
 refine⟨⟨by omega,by omega,by omega⟩,⟨by omega,by omega⟩,?_⟩
 have hdr:=drop_rd (q:=y.2+1) (hl.grown C4) hc
 obtain⟨p,rfl,hcell⟩:=byte_at (hl.grown C4) hj
 refine⟨_,by rw [Int.toNat_natCast];exact hcell,?_⟩
 have hbt:=(l[y.2]).toNat_lt
 rw [wrap_i64 (n:=(l[y.2].toNat:Int)) (by omega) (by omega),← List.length_drop (i:=y.2+1) (l:=l)]
 refine (pack_Unpack_ok hdr (n:Int) (l[y.2].toNat:Int) (by rw [List.length_drop];omega)).mono ?_
 rintro _ w5 ⟨_,rfl,xs,xa,xc,e,rfl,hRx,B5,hxn,hcase⟩
 have C5:=below_trans C4 B5
 rw [Int.toNat_natCast,Int.toNat_natCast] at hcase
 have hg:l.getD y.2 0=l[y.2]:=getD_get hj
 refine⟨_,_,_,_,rfl,?_⟩
 have hxs4:xs.length≤4096:=by
  rcases hcase with ⟨_,_,rfl,_⟩ | ⟨_,rfl,_⟩
  ·rw [unpackL_len];exact hn
  ·simp
 refine⟨fun s w6=>∃(i:Nat) (oa:Option Addr) (oc:Nat),s=[.slice oa i oc,.int .i64 (i:Int)]∧i≤xs.length∧(∀ p∈xs.take i,p<x.1)∧Row w6 ty.string 1 oa i oc (strs ((xs.take i).map fun p=>y.1.getD p []))∧(∀ k,rowB oa=some k→w5.heap.size≤k)∧Below w5.heap.size w5 w6,fun s _=>match s with
   | [_,.int _ i]=>xs.length-i.toNat
   | _=>0,⟨0,none,0,rfl,by omega,by simp,Row.nil _ _ _,by simp [rowB],.refl _ _⟩,?_⟩
 rintro oa i oc _ w6 ⟨_,_,_,hst,hi,hall,R6,N6,B6⟩
 cases hst
 have C6:=below_trans C5 B6
 refine IFB_dec (fun hlt2=>⟨⟨by omega,hlt2⟩,?_⟩) (fun hge=>?_)
 ·have hix:i<xs.length:=by omega
  obtain⟨p2,rfl,hcx⟩:=num_at (hRx.grown B6) hix
  refine⟨_,by rw [Int.toNat_natCast];exact hcx,IFB_dec (fun hbig=>?_) (fun hsm=>?_)⟩
  ·rcases hcase with ⟨h1,h2,rfl,rfl⟩ | ⟨_,rfl,_⟩
   ·refine bad C6 ?_
    simp only [tableL,hx,hy,Option.bind_some,hg]
    rw [if_neg hm,if_neg (by omega),if_pos ⟨h1,h2⟩]
    unfold tabB
    rw [if_neg (fun h=>by have:=h _ (List.getElem_mem hix);omega)]
   ·simp at hix
  ·have hpx:xs[i]<x.1:=by omega
   have hpy:xs[i]<y.1.length:=by omega
   refine⟨⟨by omega,by omega⟩,?_⟩
   have hsl:xs[i]<(y.1.map sof).length:=by simpa using hpy
   obtain⟨p3,rfl,hct⟩:=str_at (ls:=y.1.map sof) (((hR3.grown B4).grown B5).grown B6) hsl
   refine⟨_,by rw [Int.toNat_natCast];exact hct,(SH.start (fun _=>False) w6).newB fun b7 w7 hb7 B7 S7=>?_⟩
   have hgy:y.1.getD xs[i] []=y.1[xs[i]]:=by simp [hpy]
   have hsrc:Rd w7 (some ⟨b7,0,none⟩) (strs [y.1.getD xs[i] []]):=by
    have:=Rd.of_block0 (S7.get 0 rfl)
    rw [hgy]
    simpa [strs] using this
   have el:i=((xs.take i).map fun p=>y.1.getD p []).length:=by simp;omega
   have R7:=R6.grown B7
   obtain⟨u,hu⟩:∃ u,u=(xs.take i).map fun p=>y.1.getD p []:=⟨_,rfl⟩
   rw [← hu] at R7 el
   have hstep:(xs.take (i+1)).map (fun p=>y.1.getD p [])=u++[y.1.getD xs[i] []]:=by rw [hu];exact tabB_take (many:=0) hix
   have happ:=@append_strs w7 oa oc u [y.1.getD xs[i] []] (by rw [← el];exact R7) (some ⟨b7,0,none⟩) 1 1 rfl hsrc (by rw [← el];simp;omega)
   rw [← el] at happ
   refine happ fun a8 c8 w8 R8 K8 N8=>⟨_,_,_,rfl,?_⟩
   have el8:(u++[y.1.getD xs[i] []]).length=i+1:=by rw [List.length_append,← el];rfl
   rw [el8] at R8 ⊢
   rw [wrap_succ (by omega)]
   have B67:Below w5.heap.size w5 w7:=B6.trans (B7.mono B6.size)
   refine⟨⟨i+1,a8,c8,rfl,by omega,?_,by rw [hstep];exact R8,fun k hk=>?_,B67.trans (K8.below B67.size fun k hk he=>by have:=N6 k he;omega)⟩,?_⟩
   ·intro q hq
    rw [List.take_succ_eq_append_getElem hix] at hq
    rcases List.mem_append.1 hq with h | h
    ·exact hall q h
    ·rw [List.mem_singleton.1 h];exact hpx
   ·rcases N8 k hk with h | h
    ·exact N6 k h
    ·exact Nat.le_trans B67.size h
   ·simp only [Int.toNat_natCast]
    omega
 ·have hie:xs.take i=xs:=List.take_of_length_le (by omega)
  have hil:i=xs.length:=by omega
  rw [hie] at hall R6
  have el:(xs.map fun p=>y.1.getD p []).length=i:=by simp [hil]
  refine⟨xs.map fun p=>y.1.getD p [],oa,oc,e==0,by rw [el],R6.rd,C6,?_⟩
  rcases hcase with ⟨h1,h2,rfl,rfl⟩ | ⟨hno,rfl,he⟩
  ·refine .inr ⟨rfl,?_⟩
   simp only [tableL,hx,hy,Option.bind_some,hg]
   rw [if_neg hm,if_neg (by omega),if_pos ⟨h1,h2⟩]
   unfold tabB
   rw [if_pos hall]
  ·refine .inl ⟨?_,?_⟩
   ·rw [he];split <;> rfl
   ·simp only [tableL,hx,hy,Option.bind_some,hg]
    rw [if_neg hm,if_neg (by omega),if_neg hno]
theorem placed_ok(hl:Rd w a (l.map byteV))(hc:l.length≤c)(hs:l.length≤9223372036854775807){n:Nat}(hn:n≤4096) :
  Calls Tryz.prog f.ref07_placed #[.slice a l.length c,.int .i64 (n:Int)] w (Ret fun v w'=>∃(a':Option Addr) (c':Nat),v=.slice a' ((tableL l n).getD []).length c'∧Rd w' a' (strs ((tableL l n).getD []))∧Below w.heap.size w w'):=by
 apply R.ref07_placed_calls
 unfold R.ref07_placed
 have bad:∀ {w':World},Below w.heap.size w w'→tableL l n=none→∃(a':Option Addr) (c':Nat),(Value.slice none 0 0)=.slice a' ((tableL l n).getD []).length c'∧Rd w' a' (strs ((tableL l n).getD []))∧Below w.heap.size w w':=fun hb ht=>⟨none,0,by rw [ht];rfl,by rw [ht];exact Rd.nil _ _,hb⟩
 refine (ref_TakeNumber_ok hl hs 1 (by decide)).mono ?_
 rintro _ w ⟨_,rfl,rfl,rfl⟩
 cases hx:takeN l 1 with
 | none=>exact⟨_,_,_,rfl,IFB_ne (fun _=>bad (.refl _ _) (by simp [tableL,hx])) (fun h=>absurd h (by decide))⟩
 | some x =>
 have hxb:=takeN_bounds (n:=x.1) (k:=x.2) hx
 rw [num_some]
 rw [wrap_u64_id (n:=(n:Int)) (by omega) (by omega)]
 refine⟨_,_,_,rfl,IFB_ne (fun h=>absurd rfl h) (fun _=>IFB_dec (fun h=>bad (.refl _ _) ?_) (fun hmany=>?_))⟩
 ·simp only [tableL,hx,Option.bind_some]
  rw [if_pos (by omega)]
 have hm:¬ n<x.1:=by omega
 rw [wrap_i64 (n:=(x.1:Int)) (by omega) (by omega)]
 refine (ref_taken_ok (n:=x.1) (at_:=x.2) hl hc hs (by omega) (by omega)).mono ?_
 rintro _ w3 ⟨_,rfl,hM,B3⟩
 unfold ManyV at hM
 cases hy:takeMany l x.2 x.1 with
 | none =>
  rw [hy] at hM
  subst hM
  refine⟨_,_,_,_,_,rfl,IFB_true (bad B3 ?_)⟩
  simp only [tableL,hx,hy,Option.bind_some,Option.bind_none]
  rw [if_neg hm]
 | some y =>
 rw [hy] at hM
 obtain⟨ta,tc,rfl,hR3⟩:=hM
 have hylen:=takeMany_len hy
 have hyle:=takeMany_le hy (by omega)
 refine⟨_,_,_,_,_,rfl,IFB_false (IFB_dec (fun h=>bad B3 ?_) (fun hlt=>?_))⟩
 ·simp only [tableL,hx,hy,Option.bind_some]
  rw [if_neg hm,if_pos (by omega)]
 have hj:y.2<l.length:=by omega
 refine (SH.start (fun _=>False) w3).drawB fun w4 B4 _=>?_
 have C4:=below_trans B3 B4
 rw [wrap_i64 (n:=(y.2:Int)+1) (by omega) (by omega),show ((y.2:Int)+1).toNat=y.2+1 by omega]
 refine⟨⟨by omega,by omega,by omega⟩,⟨by omega,by omega⟩,?_⟩
 have hdr:=drop_rd (q:=y.2+1) (hl.grown C4) hc
 obtain⟨p,rfl,hcell⟩:=byte_at (hl.grown C4) hj
 refine⟨_,by rw [Int.toNat_natCast];exact hcell,?_⟩
 have hbt:=(l[y.2]).toNat_lt
 rw [wrap_i64 (n:=(l[y.2].toNat:Int)) (by omega) (by omega),← List.length_drop (i:=y.2+1) (l:=l)]
 refine (ref_Unpack_ok hdr (n:Int) (l[y.2].toNat:Int) (by rw [List.length_drop];omega)).mono ?_
 rintro _ w5 ⟨_,rfl,xs,xa,xc,e,rfl,hRx,B5,hxn,hcase⟩
 have C5:=below_trans C4 B5
 rw [Int.toNat_natCast,Int.toNat_natCast] at hcase
 have hg:l.getD y.2 0=l[y.2]:=getD_get hj
 refine⟨_,_,_,_,rfl,?_⟩
 rcases hcase with ⟨h1,h2,rfl,rfl⟩ | ⟨hno,rfl,he⟩
 case inr =>
  refine IFB_ne (fun _=>bad C5 ?_) (fun h=>by rw [he] at h;split at h <;> cases h)
  simp only [tableL,hx,hy,Option.bind_some,hg]
  rw [if_neg hm,if_neg (by omega),if_neg hno]
 refine IFB_ne (fun h=>absurd rfl h) (fun _=>?_)
 obtain⟨xs,hxs⟩:∃ xs,xs=unpackL (l.drop (y.2+1)) n l[y.2].toNat:=⟨_,rfl⟩
 have hxl:xs.length=n:=by rw [hxs,unpackL_len]
 have hval:tableL l n=tabB x.1 y.1 xs:=by
  simp only [tableL,hx,hy,Option.bind_some,hg]
  rw [if_neg hm,if_neg (by omega),if_pos ⟨h1,h2⟩,hxs]
 rw [← hxs] at hRx ⊢
 refine⟨fun s w6=>∃(i:Nat) (oa:Option Addr) (oc:Nat),s=[.slice oa i oc,.int .i64 (i:Int)]∧i≤xs.length∧(∀ p∈xs.take i,p<x.1)∧Row w6 ty.string 1 oa i oc (strs ((xs.take i).map fun p=>y.1.getD p []))∧(∀ k,rowB oa=some k→w5.heap.size≤k)∧Below w5.heap.size w5 w6,fun s _=>match s with
   | [_,.int _ i]=>xs.length-i.toNat
   | _=>0,⟨0,none,0,rfl,by omega,by simp,Row.nil _ _ _,by simp [rowB],.refl _ _⟩,?_⟩
 rintro oa i oc _ w6 ⟨_,_,_,hst,hi,hall,R6,N6,B6⟩
 cases hst
 have C6:=below_trans C5 B6
 refine IFB_dec (fun hlt2=>⟨⟨by omega,by omega⟩,?_⟩) (fun hge=>?_)
 ·have hix:i<xs.length:=by omega
  obtain⟨p2,rfl,hcx⟩:=num_at (hRx.grown B6) hix
  refine⟨_,by rw [Int.toNat_natCast];exact hcx,IFB_dec (fun hbig=>?_) (fun hsm=>?_)⟩
  ·refine bad C6 ?_
   rw [hval]
   unfold tabB
   rw [if_neg (fun h=>by have:=h _ (List.getElem_mem hix);omega)]
  ·have hpx:xs[i]<x.1:=by omega
   have hpy:xs[i]<y.1.length:=by omega
   refine⟨⟨by omega,by omega⟩,_,by rw [Int.toNat_natCast];exact hcx,⟨by omega,by omega⟩,?_⟩
   have hsl:xs[i]<(y.1.map sof).length:=by simpa using hpy
   obtain⟨p3,rfl,hct⟩:=str_at (ls:=y.1.map sof) (((hR3.grown B4).grown B5).grown B6) hsl
   refine⟨_,by rw [Int.toNat_natCast];exact hct,(SH.start (fun _=>False) w6).newB fun b7 w7 hb7 B7 S7=>?_⟩
   have hgy:y.1.getD xs[i] []=y.1[xs[i]]:=by simp [hpy]
   have hsrc:Rd w7 (some ⟨b7,0,none⟩) (strs [y.1.getD xs[i] []]):=by
    have:=Rd.of_block0 (S7.get 0 rfl)
    rw [hgy]
    simpa [strs] using this
   have el:i=((xs.take i).map fun p=>y.1.getD p []).length:=by simp;omega
   have R7:=R6.grown B7
   obtain⟨u,hu⟩:∃ u,u=(xs.take i).map fun p=>y.1.getD p []:=⟨_,rfl⟩
   rw [← hu] at R7 el
   have hstep:(xs.take (i+1)).map (fun p=>y.1.getD p [])=u++[y.1.getD xs[i] []]:=by rw [hu];exact tabB_take (many:=0) hix
   have happ:=@append_strs w7 oa oc u [y.1.getD xs[i] []] (by rw [← el];exact R7) (some ⟨b7,0,none⟩) 1 1 rfl hsrc (by rw [← el];simp;omega)
   rw [← el] at happ
   refine happ fun a8 c8 w8 R8 K8 N8=>⟨_,_,_,rfl,?_⟩
   have el8:(u++[y.1.getD xs[i] []]).length=i+1:=by rw [List.length_append,← el];rfl
   rw [el8] at R8 ⊢
   rw [wrap_succ (by omega)]
   have B67:Below w5.heap.size w5 w7:=B6.trans (B7.mono B6.size)
   refine⟨⟨i+1,a8,c8,rfl,by omega,?_,by rw [hstep];exact R8,fun k hk=>?_,B67.trans (K8.below B67.size fun k hk he=>by have:=N6 k he;omega)⟩,?_⟩
   ·intro q hq
    rw [List.take_succ_eq_append_getElem hix] at hq
    rcases List.mem_append.1 hq with h | h
    ·exact hall q h
    ·rw [List.mem_singleton.1 h];exact hpx
   ·rcases N8 k hk with h | h
    ·exact N6 k h
    ·exact Nat.le_trans B67.size h
   ·simp only [Int.toNat_natCast]
    omega
 ·have hie:xs.take i=xs:=List.take_of_length_le (by omega)
  have hil:i=xs.length:=by omega
  rw [hie] at hall R6
  have el:(xs.map fun p=>y.1.getD p []).length=i:=by simp [hil]
  have hv:tableL l n=some (xs.map fun p=>y.1.getD p []):=by
   rw [hval]
   unfold tabB
   rw [if_pos hall]
  rw [hv]
  exact⟨oa,oc,by rw [Option.getD_some,el],R6.rd,C6⟩
end
def decArg(n:Int):Prop:=0≤n∧n≤4096
def DecV(l:List UInt8)(n:Int)(w w':World)(v:Value):Prop :=
 ∃(ls:List ByteArray) (a:Option Addr) (c:Nat) (e:Int),v=.tuple #[.slice a ls.length c,.int .i64 e]∧Rd w' a (ls.map Value.string)∧Below w.heap.size w w'∧ls.length≤4096 ∧
  ((¬ decArg n∧ls=[]∧e=2)∨(decArg n∧DecIs l n.toNat ls∧e=0∧0<l.length)∨(decArg n∧(∀ ms,¬ (DecIs l n.toNat ms∧0<l.length))∧ls=[]∧e=70))
theorem DecV.bad{l:List UInt8}{n:Int}{w w':World}(hb:Below w.heap.size w w')(hn:decArg n)(h:∀ ms,¬ (DecIs l n.toNat ms∧0<l.length)):DecV l n w w' (.tuple #[.slice none 0 0,.int .i64 70]) :=
 ⟨[],none,0,70,rfl,Rd.nil _ _,hb,by simp,.inr (.inr ⟨hn,h,rfl,rfl⟩)⟩
theorem DecV.arg{l:List UInt8}{n:Int}{w w':World}(hb:Below w.heap.size w w')(hn:¬ decArg n):DecV l n w w' (.tuple #[.slice none 0 0,.int .i64 2]) :=
 ⟨[],none,0,2,rfl,Rd.nil _ _,hb,by simp,.inl ⟨hn,rfl,rfl⟩⟩
theorem DecIs.head{l:List UInt8}{n:Nat}{ls:List ByteArray}(h:DecIs l n ls):(l.getD 0 0).toNat≤1:=by
 have:=h.ok.2.1
 omega
section
variable {w:World}{a:Option Addr}{c:Nat}{l:List UInt8}
theorem bytes_Equal_ok{a2:Option Addr}{c2:Nat}{m:List UInt8}(hl:Rd w a (l.map byteV))(hm:Rd w a2 (m.map byteV)) :
  Calls Tryz.prog f.bytes_Equal #[.slice a l.length c,.slice a2 m.length c2] w (Ret fun v w'=>w'=w∧v=.bool (decide (l=m))):=by
 apply R.bytes_Equal_calls
 unfold R.bytes_Equal
 refine string_of_bytes tbytes rfl hl ⟨_,rfl,string_of_bytes tbytes rfl hm ⟨_,rfl,rfl,?_⟩⟩
 rw [bytesEq_iff]
 congr 1
 rw [decide_eq_decide]
 exact⟨fun h=>by have:=congrArg bl h;rwa [bl_sof,bl_sof] at this,fun h=>by rw [h]⟩
theorem head_at(hl:Rd w a (l.map byteV))(h0:0<l.length):∃ p,a=some p∧w.cell? p=some (.int .u8 ((l.getD 0 0).toNat:Int)):=by
 obtain⟨p,hp,hc⟩:=byte_at hl h0
 refine⟨p,hp,?_⟩
 rw [Nat.zero_mul,addr_add_zero] at hc
 rw [hc,getD_get h0]
theorem reads_enc{n:Nat}{ms:List (List UInt8)}(h0:0<l.length){bs:List UInt8}{e:Int}
  (hq:(encOk ((l.getD 0 0).toNat:Int) (ms.map sof)∧EncIs (ms.map sof) ((l.getD 0 0).toNat:Int) bs∧e=0)∨(¬ encOk ((l.getD 0 0).toNat:Int) (ms.map sof)∧bs=[]∧e=2)) (hlen:ms.length=n)
  (hms:ms=(readL l n).getD []):(bs=l→DecIs l n (ms.map sof))∧(bs≠l→∀ xs,¬ (DecIs l n xs∧0<l.length)):=by
 constructor
 ·rintro rfl
  rcases hq with ⟨h1,h2,_⟩ | ⟨_,h2,_⟩
  ·exact⟨by simpa using hlen,h1,h2⟩
  ·subst h2
   simp at h0
 ·rintro hne xs ⟨hx,_⟩
  have hr:=hx.reads
  rw [hr] at hms
  simp only [Option.getD_some] at hms
  have he:ms.map sof=xs:=by rw [hms,map_sof_bl]
  rw [he] at hq
  rcases hq with ⟨h1,h2,_⟩ | ⟨h1,_⟩
  ·exact hne (h2.one hx.enc)
  ·exact h1 hx.ok
theorem dict_Decode_ok(hl:Rd w a (l.map byteV))(hc:l.length≤c)(hs:l.length≤9223372036854775807)(n:Int) :
  Calls Tryz.prog f.dict_Decode #[.slice a l.length c,.int .i64 n] w (Ret fun v w'=>DecV l n w w' v):=by
 apply R.dict_Decode_calls
 unfold R.dict_Decode
 refine⟨fun s w1=>∃ b:Bool,s=[.bool b]∧w1=w∧(b=true↔¬ decArg n),?_,?_⟩
 ·refine IFB_dec (fun h=>⟨true,rfl,rfl,?_⟩) (fun h=>⟨_,rfl,rfl,?_⟩)
  ·unfold decArg;simp;omega
  ·unfold decArg;simp;omega
 rintro _ w1 ⟨b,hst,rfl,hb⟩
 cases hst
 refine IFB_of (fun h=>DecV.arg (.refl _ _) (hb.1 h)) (fun h=>?_)
 have harg:decArg n:=by
  rcases Classical.em (decArg n) with h1 | h1
  ·exact h1
  ·rw [hb.2 h1] at h;cases h
 obtain⟨n,rfl⟩:∃ m:Nat,n=(m:Int):=⟨n.toNat,by have:=harg.1;omega⟩
 have hn:n≤4096:=by have:=harg.2;omega
 refine IFB_eq (fun h=>DecV.bad (.refl _ _) harg fun ms hm=>by have:=hm.2;omega) (fun hne=>?_)
 have h0:0<l.length:=by omega
 obtain⟨p,rfl,hcell⟩:=head_at hl h0
 have hb0:=(l.getD 0 0).toNat_lt
 refine⟨⟨by omega,by omega⟩,_,hcell,IFB_dec (fun h=>DecV.bad (.refl _ _) harg fun ms hm=>by have:=hm.1.head;omega) (fun hle=>?_)⟩
 refine⟨fun s w5=>∃(ms:List (List UInt8)) (a':Option Addr) (c':Nat) (ok:Bool),s=[.slice a' ms.length c',.bool ok]∧Rd w5 a' (strs ms)∧Below w1.heap.size w1 w5∧((ok=false∧readL l n=none)∨(ok=true∧readL l n=some ms)),?_,?_⟩
 ·refine⟨⟨by omega,by omega⟩,_,hcell,IFB_eq (fun hz=>?_) (fun hz=>?_)⟩
  ·have hz':l.getD 0 0=0:=UInt8.toNat_inj.1 (by show _=0;omega)
   refine (dict_taker_ok (at_:=1)).mono ?_
   rintro _ w2 ⟨_,rfl,b1,b2,rfl,S2⟩
   refine⟨_,_,_,rfl,?_⟩
   rw [enters_taker,wrap_u64_id (by omega) (by omega)]
   refine (taker_c1_ok (at_:=1) (n:=n) S2 hl hc hs hn).mono ?_
   rintro _ w3 ⟨_,rfl,hM,B3⟩
   unfold ManyV at hM
   have hr:readL l n=(takeMany l 1 n).map (·.1):=by unfold readL;rw [if_pos hz']
   cases hy:takeMany l 1 n with
   | none =>
    rw [hy] at hM hr
    subst hM
    exact⟨_,_,_,_,_,rfl,[],none,0,false,rfl,Rd.nil _ _,B3,.inl ⟨rfl,hr⟩⟩
   | some y =>
    rw [hy] at hM hr
    obtain⟨ta,tc,rfl,hR3⟩:=hM
    exact⟨_,_,_,_,_,rfl,y.1,ta,tc,true,rfl,hR3,B3,.inr ⟨rfl,hr⟩⟩
  ·have hz':¬ l.getD 0 0=0:=fun h=>hz (by rw [h];rfl)
   refine (fromTable_ok hl hc hs hn).mono ?_
   rintro _ w3 ⟨_,rfl,ms,a',c',ok,rfl,hR3,B3,hcase⟩
   have hr:readL l n=tableL l n:=by unfold readL;rw [if_neg hz']
   rw [← hr] at hcase
   exact⟨_,_,_,_,rfl,ms,a',c',ok,rfl,hR3,B3,hcase⟩
 rintro a' _ c' _ w5 ⟨ms,_,_,ok,hst,hR5,B5,hcase⟩
 cases hst
 rcases hcase with ⟨rfl,hr⟩ | ⟨rfl,hr⟩
 ·refine IFB_true (DecV.bad B5 harg ?_)
  rintro xs ⟨hx,_⟩
  rw [Int.toNat_natCast,] at hx
  rw [hx.reads] at hr
  cases hr
 have hmn:=readL_len hr
 refine IFB_false ⟨⟨by omega,by omega⟩,?_⟩
 obtain⟨p',hp',hcell5⟩:=head_at (hl.grown B5) h0
 cases hp'
 refine⟨_,hcell5,?_⟩
 rw [wrap_i64 (by omega) (by omega)]
 have hE:=dict_Encode_ok (c:=c') ((l.getD 0 0).toNat:Int) (ls:=ms.map sof) hR5 (by rw [List.length_map];omega)
 rw [List.length_map] at hE
 refine hE.mono ?_
 rintro _ w6 ⟨_,rfl,h6⟩
 obtain⟨bs,a6,c6,e6,rfl,hR6,B6,q6⟩:=enc_open h6
 have C6:=below_trans B5 B6
 refine⟨_,_,_,_,rfl,(bytes_Equal_ok hR6 (hl.grown C6)).mono ?_⟩
 rintro _ w7 ⟨_,rfl,rfl,rfl⟩
 obtain⟨g1,g2⟩:=reads_enc h0 q6 hmn (by rw [hr];rfl)
 refine⟨_,rfl,IFB_not (IFB_dec (fun he=>?_) (fun he=>DecV.bad C6 harg (by rw [Int.toNat_natCast];exact g2 he)))⟩
 refine⟨ms.map sof,a',c',0,by rw [List.length_map],hR5.grown B6,C6,by rw [List.length_map];omega,.inr (.inl ⟨harg,by rw [Int.toNat_natCast];exact g1 he,rfl,h0⟩)⟩
theorem ref_Decode_ok(hl:Rd w a (l.map byteV))(hc:l.length≤c)(hs:l.length≤9223372036854775807)(n:Int) :
  Calls Tryz.prog f.ref07_Decode #[.slice a l.length c,.int .i64 n] w (Ret fun v w'=>DecV l n w w' v):=by
 apply R.ref07_Decode_calls
 unfold R.ref07_Decode
 refine IFB_dec (fun h=>DecV.arg (.refl _ _) (by unfold decArg;omega)) (fun h1=>IFB_dec (fun h=>DecV.arg (.refl _ _) (by unfold decArg;omega)) (fun h2=>?_))
 have harg:decArg n:=⟨by omega,by omega⟩
 obtain⟨n,rfl⟩:∃ m:Nat,n=(m:Int):=⟨n.toNat,by omega⟩
 have hn:n≤4096:=by omega
 refine IFB_eq (fun h=>DecV.bad (.refl _ _) harg fun ms hm=>by have:=hm.2;omega) (fun hne=>?_)
 have h0:0<l.length:=by omega
 obtain⟨p,rfl,hcell⟩:=head_at hl h0
 have hb0:=(l.getD 0 0).toNat_lt
 refine⟨⟨by omega,by omega⟩,_,hcell,IFB_dec (fun h=>DecV.bad (.refl _ _) harg fun ms hm=>by have:=hm.1.head;omega) (fun hle=>?_)⟩
 refine⟨fun s w5=>∃(ms:List (List UInt8)) (a':Option Addr) (c':Nat),s=[.slice a' ms.length c']∧Rd w5 a' (strs ms)∧Below w.heap.size w w5∧ms=(readL l n).getD [],?_,?_⟩
 ·refine⟨⟨by omega,by omega⟩,_,hcell,IFB_eq (fun hz=>?_) (fun hz=>?_)⟩
  ·have hz':l.getD 0 0=0:=UInt8.toNat_inj.1 (by show _=0;omega)
   refine (ref_taken_ok (at_:=1) (n:=n) hl hc hs hn (by decide)).mono ?_
   rintro _ w3 ⟨_,rfl,hM,B3⟩
   unfold ManyV at hM
   have hr:readL l n=(takeMany l 1 n).map (·.1):=by unfold readL;rw [if_pos hz']
   cases hy:takeMany l 1 n with
   | none =>
    rw [hy] at hM hr
    subst hM
    exact⟨_,_,_,_,_,rfl,[],none,0,rfl,Rd.nil _ _,B3,by rw [hr];rfl⟩
   | some y =>
    rw [hy] at hM hr
    obtain⟨ta,tc,rfl,hR3⟩:=hM
    exact⟨_,_,_,_,_,rfl,y.1,ta,tc,rfl,hR3,B3,by rw [hr];rfl⟩
  ·have hz':¬ l.getD 0 0=0:=fun h=>hz (by rw [h];rfl)
   refine (placed_ok hl hc hs hn).mono ?_
   rintro _ w3 ⟨_,rfl,a',c',rfl,hR3,B3⟩
   have hr:readL l n=tableL l n:=by unfold readL;rw [if_neg hz']
   exact⟨_,_,_,rfl,_,a',c',rfl,hR3,B3,by rw [hr]⟩
 rintro a' _ c' w5 ⟨ms,_,_,hst,hR5,B5,hms⟩
 cases hst
 refine IFB_ne (fun hlen=>DecV.bad B5 harg ?_) (fun hlen=>?_)
 ·rintro xs ⟨hx,_⟩
  rw [Int.toNat_natCast] at hx
  have hr:=hx.reads
  have:=readL_len hr
  rw [hr,Option.getD_some] at hms
  rw [← hms] at this
  omega
 refine⟨⟨by omega,by omega⟩,?_⟩
 obtain⟨p',hp',hcell5⟩:=head_at (hl.grown B5) h0
 cases hp'
 refine⟨_,hcell5,?_⟩
 rw [wrap_i64 (by omega) (by omega)]
 have hE:=ref_Encode_ok (c:=c') ((l.getD 0 0).toNat:Int) (ls:=ms.map sof) hR5 (by rw [List.length_map];omega)
 rw [List.length_map] at hE
 refine hE.mono ?_
 rintro _ w6 ⟨_,rfl,h6⟩
 obtain⟨bs,a6,c6,e6,rfl,hR6,B6,q6⟩:=enc_open h6
 have C6:=below_trans B5 B6
 refine⟨_,_,_,_,rfl,string_of_bytes tbytes rfl hR6 ⟨_,rfl,string_of_bytes tbytes rfl (hl.grown C6) ⟨_,rfl,?_⟩⟩⟩
 rw [bytesEq_iff]
 obtain⟨g1,g2⟩:=reads_enc h0 q6 (n:=n) (by omega) hms
 refine IFB_not (IFB_dec (fun he=>?_) (fun he=>DecV.bad C6 harg (by rw [Int.toNat_natCast];exact g2 (fun h=>he (by rw [h])))))
 have he':bs=l:=by have:=congrArg bl he;rwa [bl_sof,bl_sof] at this
 refine⟨ms.map sof,a',c',0,by rw [List.length_map],hR5.grown B6,C6,by rw [List.length_map];omega,.inr (.inl ⟨harg,by rw [Int.toNat_natCast];exact g1 he',rfl,h0⟩)⟩
end
structure NewI(w w':World)(xs:List Int)(a:Option Addr)(c:Nat):Prop where
 row:Row w' ty.int64 1 a xs.length c (xs.map i64V)
 new:∀ k,rowB a=some k→w.heap.size≤k
 bel:Below w.heap.size w w'
theorem NewI.nil(w:World):NewI w w [] none 0:=⟨Row.nil _ _ _,by simp [rowB],.refl _ _⟩
theorem NewI.grown{w w1 w2:World}{xs:List Int}{a:Option Addr}{c:Nat}(h:NewI w w1 xs a c)(hb:Below w1.heap.size w1 w2):NewI w w2 xs a c:=⟨h.row.grown hb,h.new,below_trans h.bel hb⟩
theorem tL64':slT Tryz.prog ty.L_int64=some (ty.int64,1,8,.int .i64 0):=by kernel_rfl
theorem append_i64{w w1:World}{a:Option Addr}{c:Nat}{xs:List Int}(h:NewI w w1 xs a c)(hl:xs.length+1≤1000000){x:Int}{b:Nat}{t:TypeId}(hb:w1.heap[b]?=some (.cells #[.int .i64 x] t (0,0))){f:Value→World→Prop}
  (hf:∀ a' c' w',NewI w w' (xs++[x]) a' c'→f (.slice a' (xs++[x]).length c') w'):OPR Tryz.prog (Builtin.append_ #[ty.L_int64,ty.L_int64] ty.L_int64 #[.slice a xs.length c,.slice (some ⟨b,0,none⟩) 1 1]) f w1:=by
 have hsrc:Rd w1 (some ⟨b,0,none⟩) ([x].map i64V):=by
  have:=Rd.of_block0 hb
  simpa [i64V] using this
 obtain⟨a5,c5,w2,hrun,hrow,hk5,hnw⟩:=append_row (ty:=ty.L_int64) (mc:=1) tL64' rfl (by omega) (by omega) h.row hsrc (m:=1) rfl (by simp [i64V];rfl) (by omega)
 unfold OPR
 rw [hrun]
 have e:xs.length+1=(xs++[x]).length:=by simp
 rw [e] at hrow ⊢
 refine hf a5 c5 w2 ⟨by rw [List.map_append];exact hrow,fun k hk=>?_,h.bel.trans (hk5.below h.bel.size fun k hk he=>by have:=h.new k he;omega)⟩
 rcases hnw k hk with h1 | h1
 ·exact h.new k h1
 ·exact Nat.le_trans h.bel.size h1
def restL(f:Nat)(r:List Int):List UInt8:=if f=0 then r.flatMap sigL else runsL r
structure IntIs(l:List UInt8)(n:Nat)(ls:List Int):Prop where
 len:ls.length=n
 num:∀ x∈ls,I64 x
 form:(l.getD 0 0).toNat≤3
 enc:l=intsL (l.getD 0 0).toNat ls
def LooseV(l:List UInt8)(n:Nat)(w w':World)(v:Value):Prop :=
 ∃(ms:List Int) (a:Option Addr) (c:Nat) (ok:Bool),v=.tuple #[.slice a ms.length c,.bool ok]∧NewI w w' ms a c∧(∀ x∈ms,I64 x)∧ms.length≤4096∧(ok=true→ms.length=n)∧∀ ls,IntIs l n ls→ok=true∧ms=ls
theorem LooseV.bad{l:List UInt8}{n:Nat}{w w':World}(hb:Below w.heap.size w w')(h:∀ ls,¬ IntIs l n ls):LooseV l n w w' (.tuple #[.slice none 0 0,.bool false]) :=
 ⟨[],none,0,false,rfl,⟨Row.nil _ _ _,by simp [rowB],hb⟩,by simp,by simp,(fun h=>by cases h),fun ls hls=>absurd hls (h ls)⟩
theorem takeN_drop{l r:List UInt8}{at_ m:Nat}(hm:m<18446744073709551616)(h:l.drop at_=digitsL m++r):takeN l (at_:Int)=some (m,at_+(digitsL m).length):=by
 unfold takeN
 rw [if_neg (by omega),Int.toNat_natCast,h,readN_digits m 0 0 r (by simpa using hm) (by omega) (by intro;rfl)]
 simp
theorem drop_more{l r d:List UInt8}{at_:Nat}(h:l.drop at_=d++r):l.drop (at_+d.length)=r:=by
 rw [← List.drop_drop,h,List.drop_left]
structure Step(l:List UInt8)(f at_:Nat)(ls:List Int)(k many at1 nx:Nat)(x:Int):Prop where
 num:f=1→takeN l (at_:Int)=some (many,at1)
 one:f=0→many=1∧at1=at_
 sgn:takeN l (at1:Int)=some (zigN x,nx)
 pos:0<many
 le:k+many≤ls.length
 take:ls.take (k+many)=ls.take k++List.replicate many x
 rest:l.drop nx=restL f (ls.drop (k+many))
 i64:I64 x
theorem step_of{l:List UInt8}{f at_:Nat}{ls:List Int}{k:Nat}(hf:f≤1)(hx:∀ x∈ls,I64 x)(hn:ls.length≤4096)(hr:l.drop at_=restL f (ls.drop k))(hk:k<ls.length):∃ many at1 nx x,Step l f at_ ls k many at1 nx x:=by
 have hd:ls.drop k=ls[k] :: ls.drop (k+1):=List.drop_eq_getElem_cons hk
 have hxk:=hx _ (List.getElem_mem hk)
 have hz:=zigN_lt hxk.1 hxk.2
 rcases (by omega:f=0∨f=1) with rfl | rfl
 ·have e:l.drop at_=sigL ls[k]++restL 0 (ls.drop (k+1)):=by rw [hr,hd];unfold restL;rw [if_pos rfl,if_pos rfl,List.flatMap_cons]
  refine⟨1,at_,at_+(sigL ls[k]).length,ls[k],fun h=>(by omega),fun _=>⟨rfl,rfl⟩,takeN_drop hz e,by omega,by omega,?_,drop_more e,hxk⟩
  rw [List.take_succ_eq_append_getElem hk]
  rfl
 ·obtain⟨t,ht⟩:∃ t,t=((ls.drop (k+1)).takeWhile (·==ls[k])).length:=⟨_,rfl⟩
  have htl:t≤(ls.drop (k+1)).length:=by rw [ht];exact (List.takeWhile_sublist _).length_le
  rw [List.length_drop] at htl
  have e0:runsL (ls.drop k)=digitsL (t+1)++(sigL ls[k]++runsL ((ls.drop (k+1)).drop t)):=by
   rw [hd]
   conv=>lhs;unfold runsL
   rw [ht]
  have e:l.drop at_=digitsL (t+1)++(sigL ls[k]++runsL ((ls.drop (k+1)).drop t)):=by
   rw [hr];unfold restL;rw [if_neg (by omega),e0]
  have e1:=drop_more e
  refine⟨t+1,at_+(digitsL (t+1)).length,at_+(digitsL (t+1)).length+(sigL ls[k]).length,ls[k],fun _=>takeN_drop (by omega) e,fun h=>(by omega),takeN_drop hz e1,by omega,by omega,?_,?_,hxk⟩
  ·rw [List.take_add,hd,List.take_succ_cons]
   congr 1
   rw [List.replicate_succ]
   congr 1
   have h1:(ls.drop (k+1)).take t=(ls.drop (k+1)).takeWhile (·==ls[k]):=by
    rw [ht]
    exact (List.prefix_iff_eq_take.1 (List.takeWhile_prefix _)).symm
   rw [h1,List.eq_replicate_iff]
   refine⟨ht.symm,fun y hy=>?_⟩
   have:=List.all_eq_true.1 List.all_takeWhile y hy
   simpa using this
  ·rw [drop_more e1]
   unfold restL
   rw [if_neg (by omega),List.drop_drop]
   congr 2
   omega
theorem restL_nil{f:Nat}{r:List Int}(h:restL f r=[]):r=[]:=by
 cases r with
 | nil=>rfl
 | cons x r =>
  exfalso
  unfold restL at h
  split at h
  ·have:=congrArg List.length h
   have hp:=List.length_pos_iff.2 (digitsL_pos (zigN x))
   simp only [List.flatMap_cons,List.length_append,List.length_nil,sigL] at this
   omega
  ·unfold runsL at h
   have:=congrArg List.length h
   have hp:=List.length_pos_iff.2 (digitsL_pos ((r.takeWhile (·==x)).length+1))
   simp only [List.length_append,List.length_nil] at this
   omega
theorem sgn_some{x:Nat × Nat}:sgnV (some x)=.tuple #[.int .i64 (unzig x.1),.int .i64 (x.2:Int),.int .i64 0]:=rfl
section
variable {w:World}{a:Option Addr}{c:Nat}{l:List UInt8}
def Tr(l:List UInt8)(f n:Nat)(out:List Int)(at_:Nat):Prop:=∀ ls,IntIs l n ls→∃ k,k≤ls.length∧out=ls.take k∧l.drop at_=restL f (ls.drop k)
theorem Tr.step{f n:Nat}{out:List Int}{at_:Nat}(h:Tr l f n out at_)(hf:f≤1)(hn:n≤4096)(hat:at_<l.length){ls:List Int}(hls:IntIs l n ls):∃ k many at1 nx x,out=ls.take k∧k≤ls.length∧Step l f at_ ls k many at1 nx x:=by
 obtain⟨k,hk,ho,hr⟩:=h ls hls
 have hkl:k<ls.length:=by
  rcases Nat.lt_or_ge k ls.length with h | h
  ·exact h
  ·exfalso
   have:ls.drop k=[]:=List.drop_of_length_le h
   rw [this] at hr
   have e:restL f []=[]:=by unfold restL;split <;> simp [runsL_nil]
   rw [e] at hr
   have:=congrArg List.length hr
   rw [List.length_drop,List.length_nil] at this
   omega
 obtain⟨many,at1,nx,x,hs⟩:=step_of hf hls.num (by have:=hls.len;omega) hr hkl
 exact⟨k,many,at1,nx,x,ho,hk,hs⟩
theorem ints_loose_ok(hl:Rd w a (l.map byteV))(hc:l.length≤c)(hs:l.length≤9223372036854775807)(h0:0<l.length){fm:Nat}(hfm:fm=(l.getD 0 0).toNat)(hf:fm≤1){n:Nat}(hn:n≤4096) :
  Calls Tryz.prog f.ints_loose #[.slice a l.length c,.int .i64 (n:Int)] w (Ret fun v w'=>LooseV l n w w' v):=by
 apply R.ints_loose_calls
 unfold R.ints_loose
 have tr0:Tr l fm n [] 1:=by
  intro ls hls
  refine⟨0,by omega,rfl,?_⟩
  have:=hls.enc
  rw [← hfm] at this
  rw [List.drop_zero]
  rcases (by omega:fm=0∨fm=1) with rfl | rfl
  ·rw [this];simp [intsL,restL]
  ·rw [this];simp [intsL,restL]
 refine⟨fun s w1=>∃(at_:Nat) (out:List Int) (oa:Option Addr) (oc:Nat),s=[.slice oa out.length oc,.int .i64 (at_:Int)]∧NewI w w1 out oa oc∧(∀ x∈out,I64 x)∧out.length≤n∧at_≤9223372036854775807∧Tr l fm n out at_,fun s _=>match s with
   | [_,.int _ i]=>l.length-i.toNat
   | _=>0,⟨1,[],none,0,rfl,NewI.nil w,by simp,by simp,by omega,tr0⟩,?_⟩
 rintro oa _ oc _ w1 ⟨at_,out,_,_,hst,h1,hI,hol,hat9,hT⟩
 cases hst
 refine IFB_dec (fun hlt=>?_) (fun hge=>?_)
 case refine_2 =>
  have eqn:((out.length:Int)==(n:Int))=true→out.length=n:=fun h=>by
   have:(out.length:Int)=n:=by simpa using h
   omega
  refine⟨out,oa,oc,_,rfl,h1,hI,by omega,eqn,fun ls hls=>?_⟩
  obtain⟨k,hk,ho,hr⟩:=hT ls hls
  have hd:l.drop at_=[]:=List.drop_of_length_le (by omega)
  rw [hd] at hr
  have hnil:=restL_nil hr.symm
  have hkl:ls.length≤k:=List.drop_eq_nil_iff.1 hnil
  have:ls.take k=ls:=List.take_of_length_le hkl
  rw [this] at ho
  subst ho
  exact⟨by have:=hls.len;simp [this],rfl⟩
 have hat:at_<l.length:=by omega
 obtain⟨p,rfl,hcell⟩:=head_at (hl.grown h1.bel) h0
 have hb0:=(l.getD 0 0).toNat_lt
 refine⟨fun s w3=>w3=w1∧∃(at1 many:Nat) (e:Int),s=[.int .i64 (at1:Int),.int .u64 (many:Int),.int .i64 e]∧at1≤9223372036854775807∧((e≠0∧fm=1∧takeN l (at_:Int)=none)∨(e=0∧at_≤at1∧many<18446744073709551616∧((fm=1∧takeN l (at_:Int)=some (many,at1))∨(fm=0∧many=1∧at1=at_)))),?_,?_⟩
 ·refine⟨⟨by omega,by omega⟩,_,hcell,IFB_eq (fun h1'=>?_) (fun hne=>?_)⟩
  ·refine (wire_TakeNumber_ok (hl.grown h1.bel) hc hs (at_:Int)).mono ?_
   rintro _ w2 ⟨_,rfl,rfl,rfl⟩
   cases hx:takeN l (at_:Int) with
   | none=>exact⟨_,_,_,rfl,rfl,0,0,20,rfl,by omega,.inl ⟨by decide,by omega,rfl⟩⟩
   | some x =>
    have hb:=takeN_bounds (n:=x.1) (k:=x.2) hx
    exact⟨_,_,_,rfl,rfl,x.2,x.1,0,rfl,by omega,.inr ⟨rfl,by omega,by omega,.inl ⟨by omega,rfl⟩⟩⟩
  ·exact⟨rfl,at_,1,0,rfl,by omega,.inr ⟨rfl,by omega,by omega,.inr ⟨by omega,rfl,rfl⟩⟩⟩
 rintro _ _ e w3 ⟨rfl,at1,many,_,hst,hat1,hcase⟩
 cases hst
 refine (wire_TakeSigned_ok (hl.grown h1.bel) hc hs (at1:Int)).mono ?_
 rintro _ w4 ⟨_,rfl,rfl,rfl⟩
 have key:∀ ls,IntIs l n ls→∃ k nx x,out=ls.take k∧e=0∧takeN l (at1:Int)=some (zigN x,nx)∧0<many∧k+many≤ls.length∧k≤ls.length∧ls.take (k+many)=ls.take k++List.replicate many x∧l.drop nx=restL fm (ls.drop (k+many)):=by
  intro ls hls
  obtain⟨k,m,a1,nx,x,ho,hkl,hs⟩:=hT.step hf hn hat hls
  rcases hcase with ⟨_,hf1,hno⟩ | ⟨he,_,_,⟨hf1,hso⟩ | ⟨hf0,hm1,ha1⟩⟩
  ·rw [hs.num hf1] at hno;cases hno
  ·have:=hs.num hf1
   rw [hso] at this
   obtain⟨rfl,rfl⟩:=Prod.mk.injEq .. ▸ Option.some.inj this
   exact⟨k,nx,x,ho,he,hs.sgn,hs.pos,hs.le,hkl,hs.take,hs.rest⟩
  ·obtain⟨q1,q2⟩:=hs.one hf0
   subst q1 q2 hm1 ha1
   exact⟨k,nx,x,ho,he,hs.sgn,hs.pos,hs.le,hkl,hs.take,hs.rest⟩
 cases hy:takeN l (at1:Int) with
 | none =>
  have hno:∀ ls,¬ IntIs l n ls:=fun ls hls=>by
   obtain⟨k,nx,x,_,_,h,_⟩:=key ls hls
   rw [hy] at h;cases h
  refine⟨_,_,_,rfl,IFB_ne (fun _=>LooseV.bad h1.bel hno) (fun _=>IFB_ne (fun _=>LooseV.bad h1.bel hno) (fun h=>absurd h (by decide)))⟩
 | some y =>
 rw [sgn_some]
 have hyb:=takeN_bounds (n:=y.1) (k:=y.2) hy
 have hyI:=unzig_range hyb.1
 have ew:IntKind.u64.wrap (IntKind.i64.wrap ((n:Int)-(out.length:Int)))=((n-out.length:Nat):Int):=by
  rw [wrap_i64 (by omega) (by omega),wrap_u64_id (by omega) (by omega)];omega
 rw [ew]
 refine⟨_,_,_,rfl,IFB_ne (fun hene=>LooseV.bad h1.bel fun ls hls=>?_) (fun he0=>IFB_ne (fun h=>absurd rfl h) (fun _=>IFB_eq (fun hm0=>LooseV.bad h1.bel fun ls hls=>?_) (fun hm0=>IFB_dec (fun hbig=>LooseV.bad h1.bel fun ls hls=>?_) (fun hsm=>?_))))⟩
 ·obtain⟨_,_,_,_,h,_⟩:=key ls hls
  exact hene h
 ·obtain⟨_,_,_,_,_,_,h,_⟩:=key ls hls
  omega
 ·obtain⟨k,_,_,ho,_,_,_,h,_⟩:=key ls hls
  have:=hls.len
  have e2:out.length=k:=by rw [ho,List.length_take];omega
  omega
 have hmany:many≤n-out.length:=by omega
 have hatnx:at_<y.2:=by
  rcases hcase with ⟨h,_⟩ | ⟨_,h,_⟩
  ·exact absurd he0 h
  ·omega
 refine⟨fun s w5=>∃(j:Nat) (o2:List Int) (oa:Option Addr) (oc:Nat),s=[.slice oa o2.length oc,.int .u64 (j:Int)]∧j≤many∧o2=out++List.replicate j (unzig y.1)∧NewI w w5 o2 oa oc,fun s _=>match s with
   | [_,.int _ i]=>many-i.toNat
   | _=>0,⟨0,out,oa,oc,rfl,by omega,by simp,h1⟩,?_⟩
 rintro oa2 _ oc2 _ w5 ⟨j,o2,_,_,hst,hj,ho2,h5⟩
 cases hst
 have ho2l:o2.length=out.length+j:=by rw [ho2];simp
 refine IFB_dec (fun hlt2=>?_) (fun hge2=>?_)
 ·refine (SH.start (fun _=>False) w5).newB fun b6 w6 hb6 B6 S6=>append_i64 (h5.grown B6) (by omega) (S6.get 0 rfl) fun a7 c7 w7 h7=>⟨_,_,_,rfl,?_⟩
  rw [show IntKind.u64.wrap ((j:Int)+1)=((j+1:Nat):Int) by rw [wrap_u64_id (by omega) (by omega)];omega]
  refine⟨⟨j+1,_,a7,c7,rfl,by omega,?_,h7⟩,?_⟩
  ·rw [ho2,List.replicate_succ',List.append_assoc]
  ·simp only [Int.toNat_natCast]
   omega
 ·have hjm:j=many:=by omega
  subst hjm
  refine⟨⟨y.2,o2,oa2,oc2,rfl,h5,?_,by omega,by omega,?_⟩,?_⟩
  ·intro x hx
   rw [ho2] at hx
   rcases List.mem_append.1 hx with h | h
   ·exact hI x h
   ·rw [(List.mem_replicate.1 h).2];exact hyI
  ·intro ls hls
   obtain⟨k,nx,x,g1,_,g3,g4,g5,g6,g7,g8⟩:=key ls hls
   rw [hy] at g3
   have g3':=Option.some.inj g3
   have ex:unzig y.1=x:=by rw [g3'];exact unzig_zig
   have enx:y.2=nx:=by rw [g3']
   refine⟨k+j,g5,?_,by rw [enx];exact g8⟩
   rw [ho2,g7,g1,ex]
  ·simp only [Int.toNat_natCast]
   omega
end
theorem append_i64K{w w1:World}{a:Option Addr}{c:Nat}{xs:List Int}(h:NewI w w1 xs a c)(hl:xs.length+1≤1000000){x:Int}{b:Nat}{t:TypeId}(hb:w1.heap[b]?=some (.cells #[.int .i64 x] t (0,0))){f:Value→World→Prop}
  (hf:∀ a' c' w',NewI w w' (xs++[x]) a' c'→Keeps (fun k=>rowB a=some k) w1 w'→(∀ k,rowB a'=some k→rowB a=some k∨w1.heap.size≤k)→f (.slice a' (xs++[x]).length c') w'):OPR Tryz.prog (Builtin.append_ #[ty.L_int64,ty.L_int64] ty.L_int64 #[.slice a xs.length c,.slice (some ⟨b,0,none⟩) 1 1]) f w1:=by
 have hsrc:Rd w1 (some ⟨b,0,none⟩) ([x].map i64V):=by
  have:=Rd.of_block0 hb
  simpa [i64V] using this
 obtain⟨a5,c5,w2,hrun,hrow,hk5,hnw⟩:=append_row (ty:=ty.L_int64) (mc:=1) tL64' rfl (by omega) (by omega) h.row hsrc (m:=1) rfl (by simp [i64V];rfl) (by omega)
 unfold OPR
 rw [hrun]
 have e:xs.length+1=(xs++[x]).length:=by simp
 rw [e] at hrow ⊢
 refine hf a5 c5 w2 ⟨by rw [List.map_append];exact hrow,fun k hk=>?_,h.bel.trans (hk5.below h.bel.size fun k hk he=>by have:=h.new k he;omega)⟩ hk5 hnw
 rcases hnw k hk with h1 | h1
 ·exact h.new k h1
 ·exact Nat.le_trans h.bel.size h1
theorem packed_reads{c0:UInt8}{first:Int}{s:List Nat}{l:List UInt8}(hl:l=c0 :: packedL first s)(hf:I64 first)(hx:∀ x∈s,x<18446744073709551616) :
  takeN l 1=some (zigN first,1+(sigL first).length)∧1+(sigL first).length<l.length∧(l.getD (1+(sigL first).length) 0).toNat=lenN (orL s)∧l.drop (1+(sigL first).length+1)=packL s (lenN (orL s)):=by
 have h64:=lenN_le64 hx
 have e:l.drop 1=digitsL (zigN first)++(UInt8.ofNat (lenN (orL s)) :: packL s (lenN (orL s))):=by rw [hl];rfl
 have e2:=drop_more e
 have hlen:l.length=1+(sigL first).length+1+(packL s (lenN (orL s))).length:=by rw [hl];simp [packedL];omega
 refine⟨takeN_drop (at_:=1) (zigN_lt hf.1 hf.2) e,by omega,?_,?_⟩
 ·have:(l.drop (1+(sigL first).length))[0]?=some (UInt8.ofNat (lenN (orL s))):=by
   have e3:l.drop (1+(sigL first).length)=UInt8.ofNat (lenN (orL s)) :: packL s (lenN (orL s)):=e2
   rw [e3];rfl
  rw [List.getElem?_drop,Nat.add_zero] at this
  rw [List.getD,this]
  exact ofNat_toNat8 (by omega)
 ·rw [← List.drop_drop]
  have e3:l.drop (1+(sigL first).length)=UInt8.ofNat (lenN (orL s)) :: packL s (lenN (orL s)):=e2
  rw [e3];rfl
theorem unOk_pack{s:List Nat}{m:Nat}(hm:s.length=m)(hn:m≤4096)(hx:∀ x∈s,x<18446744073709551616):unArg (m:Int) (lenN (orL s):Int)∧unOk (packL s (lenN (orL s))) m (lenN (orL s))∧unpackL (packL s (lenN (orL s))) m (lenN (orL s))=s:=by
 have h64:=lenN_le64 hx
 have hlt:=(orL_lt s _).1 (lenN_is (orL s)).1
 have hu:=unpack_pack hlt
 rw [hm] at hu
 exact⟨⟨by omega,by omega,by omega,by omega⟩,⟨by rw [packL_len,hm],by rw [hu]⟩,hu⟩
theorem wrap_back{x y:Int}(hx:I64 x)(hy:I64 y):IntKind.i64.wrap (x+IntKind.i64.wrap (y-x))=y:=by
 unfold I64 at hx hy
 rw [wrap_i64_def,wrap_i64_def]
 split <;> split <;> omega
theorem frame_back{x m:Int}(hx:I64 x)(hm:I64 m)(hle:m≤x):IntKind.i64.wrap (IntKind.u64.wrap (IntKind.u64.wrap m+((x-m).toNat:Int)))=x:=by
 unfold I64 at hx hm
 rw [wrap_i64_def,wrap_u64,wrap_u64]
 split <;> omega
theorem stepsN_get{ls:List Int}{i:Nat}(h:i+1<ls.length):(stepsN ls)[i]?=some (zigN (IntKind.i64.wrap (ls[i+1]-ls[i]))):=by
 have hr:i<ls.length-1:=by omega
 simp only [stepsN,List.getElem?_map,List.getElem?_range hr,Option.map_some]
 rw [getD_int h,getD_int (by omega)]
theorem frameN_get{ls:List Int}{i:Nat}(h:i<ls.length):(frameN ls)[i]?=some ((ls[i]-minL ls).toNat):=by simp [frameN,h]
theorem get_of{α:Type}{xs ys:List α}{i:Nat}{y:α}(h:xs=ys)(hy:ys[i]?=some y)(hi:i<xs.length):xs[i]=y:=by
 subst h
 rw [List.getElem?_eq_getElem hi] at hy
 exact Option.some.inj hy
def firstI(fm:Nat)(ls:List Int):Int:=if fm=2 then ls.headD 0 else minL ls
def packI(fm:Nat)(ls:List Int):List Nat:=if fm=2 then stepsN ls else frameN ls
theorem tight_key{l:List UInt8}{n fm:Nat}{ls:List Int}(h:IntIs l n ls)(hfm:fm=(l.getD 0 0).toNat)(hf:fm=2∨fm=3)(hn:0<n) :
  I64 (firstI fm ls)∧(∀ x∈packI fm ls,x<18446744073709551616)∧l=UInt8.ofNat fm :: packedL (firstI fm ls) (packI fm ls)∧(packI fm ls).length=(if fm=2 then n-1 else n):=by
 have hp:0<ls.length:=by have:=h.len;omega
 have hne:ls≠[]:=List.length_pos_iff.1 hp
 have he:=h.enc
 rw [← hfm] at he
 have hlen:=h.len
 rcases hf with rfl | rfl
 ·refine⟨?_,stepsN_lt,?_,?_⟩
  ·have:=minTo_I64 h.num hp 0
   simpa [minTo,firstI] using this
  ·rw [he];simp only [intsL];rw [if_neg hne];rfl
  ·simp [packI,stepsN,hlen]
 ·refine⟨minTo_I64 h.num hp _,frameN_lt h.num,?_,?_⟩
  ·rw [he];simp only [intsL];rw [if_neg hne];rfl
  ·simp [packI,frameN,hlen]
section
variable {w:World}{a:Option Addr}{c:Nat}{l:List UInt8}
theorem ints_zag_ok{u:Nat}(hu:u<18446744073709551616):Calls Tryz.prog f.ints_zag #[.int .u64 (u:Int)] w (Ret fun v w'=>w'=w∧v=.int .i64 (unzig u)):=by
 apply R.ints_zag_calls
 unfold R.ints_zag
 rw [unzig_prog hu]
 exact⟨rfl,rfl⟩
theorem ints_tight_ok(hl:Rd w a (l.map byteV))(hc:l.length≤c)(hs:l.length≤9223372036854775807)(h0:0<l.length){fm:Nat}(hfm:fm=(l.getD 0 0).toNat)(hf:fm=2∨fm=3){n:Nat}(hn:n≤4096) :
  Calls Tryz.prog f.ints_tight #[.slice a l.length c,.int .i64 (n:Int)] w (Ret fun v w'=>LooseV l n w w' v):=by
 apply R.ints_tight_calls
 unfold R.ints_tight
 refine IFB_eq (fun hz=>?_) (fun hnz=>?_)
 ·have hn0:n=0:=by omega
  subst hn0
  refine⟨[],none,0,_,rfl,NewI.nil w,by simp,by simp,fun _=>rfl,fun ls hls=>?_⟩
  have hls0:ls=[]:=List.eq_nil_of_length_eq_zero hls.len
  subst hls0
  have he:=hls.enc
  rw [← hfm] at he
  have h1:l.length=1:=by
   rw [he]
   rcases hf with rfl | rfl <;> simp [intsL]
  exact⟨by simp [h1],rfl⟩
 have hn0:0<n:=by omega
 refine (wire_TakeSigned_ok hl hc hs 1).mono ?_
 rintro _ w ⟨_,rfl,rfl,rfl⟩
 cases hy:takeN l 1 with
 | none =>
  refine⟨_,_,_,rfl,IFB_ne (fun _=>LooseV.bad (.refl _ _) fun ls hls=>?_) (fun h=>absurd h (by decide))⟩
  obtain⟨k1,k2,k3,_⟩:=tight_key hls hfm hf hn0
  have:=(packed_reads k3 k1 k2).1
  rw [hy] at this;cases this
 | some y =>
 rw [sgn_some]
 have hyb:=takeN_bounds (n:=y.1) (k:=y.2) hy
 have hyI:I64 (unzig y.1):=unzig_range hyb.1
 refine⟨_,_,_,rfl,IFB_ne (fun h=>absurd rfl h) (fun _=>IFB_dec (fun hbig=>LooseV.bad (.refl _ _) fun ls hls=>?_) (fun hlt=>?_))⟩
 ·obtain⟨k1,k2,k3,_⟩:=tight_key hls hfm hf hn0
  obtain⟨q1,q2,_⟩:=packed_reads k3 k1 k2
  rw [hy] at q1
  have:=Option.some.inj q1
  have:y.2=1+(sigL (firstI fm ls)).length:=by rw [this]
  omega
 have hj:y.2<l.length:=by omega
 refine make_row0 tL64' (c:=n) (by omega) (by omega) fun b2 w2 hb2 B2 R2=>⟨_,_,_,rfl,?_⟩
 have h2:NewI w w2 [] (some ⟨b2,0,none⟩) n:=⟨R2,fun k hk=>by cases hk;exact hb2,B2⟩
 obtain⟨p,rfl,hcell⟩:=head_at (hl.grown B2) h0
 have hb0:=(l.getD 0 0).toNat_lt
 obtain⟨m,hm⟩:∃ m,m=(if fm=2 then n-1 else n):=⟨_,rfl⟩
 obtain⟨o0,ho0⟩:∃ o:List Int,o=(if fm=2 then [unzig y.1] else []):=⟨_,rfl⟩
 have ho0l:o0.length+m=n:=by
  rw [ho0,hm]
  rcases hf with rfl | rfl
  ·simp;omega
  ·simp
 have ho0I:∀ x∈o0,I64 x:=by
  rw [ho0]
  split
  ·intro x hx;rw [List.mem_singleton.1 hx];exact hyI
  ·simp
 refine⟨fun s w5=>∃(oa:Option Addr) (oc:Nat),s=[.int .i64 (m:Int),.slice oa o0.length oc]∧NewI w w5 o0 oa oc,?_,?_⟩
 ·refine⟨⟨by omega,by omega⟩,_,hcell,IFB_eq (fun he=>?_) (fun he=>?_)⟩
  ·have h2':fm=2:=by omega
   refine (SH.start (fun _=>False) w2).newB fun b3 w3 hb3 B3 S3=>append_i64 (h2.grown B3) (by simp) (S3.get 0 rfl) fun a4 c4 w4 h4=>⟨_,_,_,rfl,a4,c4,?_,?_⟩
   ·rw [wrap_i64 (by omega) (by omega),hm,ho0,if_pos h2',if_pos h2']
    simp
    omega
   ·rw [ho0,if_pos h2'];exact h4
  ·have h2':¬ fm=2:=by omega
   refine⟨some ⟨b2,0,none⟩,n,?_,?_⟩
   ·rw [hm,ho0,if_neg h2',if_neg h2'];rfl
   ·rw [ho0,if_neg h2'];exact h2
 rintro _ oa _ oc w5 ⟨_,_,hst,h5⟩
 cases hst
 refine (SH.start (fun _=>False) w5).drawB fun w6 B6 _=>?_
 have C6:=below_trans h5.bel B6
 have h6:=h5.grown B6
 rw [wrap_i64 (n:=(y.2:Int)+1) (by omega) (by omega),show ((y.2:Int)+1).toNat=y.2+1 by omega]
 refine⟨⟨by omega,by omega,by omega⟩,⟨by omega,by omega⟩,?_⟩
 have hdr:=drop_rd (q:=y.2+1) (hl.grown C6) hc
 obtain⟨p',hp',hcellj⟩:=byte_at (hl.grown C6) hj
 cases hp'
 refine⟨_,by rw [Int.toNat_natCast];exact hcellj,?_⟩
 have hbt:=(l[y.2]).toNat_lt
 rw [wrap_i64 (n:=(l[y.2].toNat:Int)) (by omega) (by omega),← List.length_drop (i:=y.2+1) (l:=l)]
 have hmle:m≤4096:=by omega
 refine (pack_Unpack_ok hdr (m:Int) (l[y.2].toNat:Int) (by rw [List.length_drop];omega)).mono ?_
 rintro _ w7 ⟨_,rfl,xs,xa,xc,e,rfl,hRx,B7,hxn,hcase⟩
 rw [Int.toNat_natCast,Int.toNat_natCast] at hcase
 have h7:=h6.grown B7
 have hg:l.getD y.2 0=l[y.2]:=getD_get hj
 have hxm:xs.length≤m∧(e=0→xs.length=m)∧∀ x∈xs,x<18446744073709551616:=by
  rcases hcase with ⟨ha,_,rfl,rfl⟩ | ⟨_,rfl,he⟩
  ·refine⟨by rw [unpackL_len];omega,fun _=>unpackL_len _ _ _,fun x hx=>?_⟩
   have:=unpackL_lt _ _ _ x hx
   have h64:l[y.2].toNat≤64:=by have:=ha.2.2.2;omega
   exact Nat.lt_of_lt_of_le this (Nat.pow_le_pow_right (n:=2) (by omega) h64)
  ·refine⟨by simp,fun h=>?_,by simp⟩
   rw [h] at he
   split at he <;> cases he
 obtain⟨hxm1,hxm2,hx64⟩:=hxm
 have key:∀ ls,IntIs l n ls→e=0∧xs=packI fm ls∧unzig y.1=firstI fm ls:=by
  intro ls hls
  obtain⟨k1,k2,k3,k4⟩:=tight_key hls hfm hf hn0
  obtain⟨q1,q2,q3,q4⟩:=packed_reads k3 k1 k2
  rw [hy] at q1
  have hyy:=Option.some.inj q1
  have hy2:y.2=1+(sigL (firstI fm ls)).length:=by rw [hyy]
  have hy1:y.1=zigN (firstI fm ls):=by rw [hyy]
  rw [← hy2,hg] at q3
  rw [← hy2] at q4
  rw [← hm] at k4
  obtain⟨u1,u2,u3⟩:=unOk_pack k4 hmle k2
  rw [q3,q4] at hcase
  rcases hcase with ⟨_,_,hxs,he⟩ | ⟨hno,_⟩
  ·exact⟨he,by rw [hxs,u3],by rw [hy1];exact unzig_zig⟩
  ·exact absurd ⟨u1,u2⟩ hno
 refine⟨_,_,_,_,rfl,?_⟩
 refine⟨fun s w8=>∃(i:Nat) (fi:Int) (out:List Int) (oa:Option Addr) (oc:Nat),s=[.int .i64 fi,.slice oa out.length oc,.int .i64 (i:Int)]∧i≤xs.length∧I64 fi∧out.length=o0.length+i∧(∀ x∈out,I64 x)∧NewI w w8 out oa oc∧Rd w8 xa (xs.map u64V)∧(∀ k p,rowB oa=some k→xa=some p→p.block≠k) ∧
   (∀ ls,IntIs l n ls→out=ls.take (o0.length+i)∧fi=(if fm=2 then ls.getD i 0 else firstI fm ls)),fun s _=>match s with
   | [_,_,.int _ i]=>xs.length-i.toNat
   | _=>0,⟨0,unzig y.1,o0,oa,oc,rfl,by omega,hyI,rfl,ho0I,h7,hRx,fun k p hk hp=>(by have:=h6.row.lt hk;have:=hxn p hp;omega),fun ls hls=>?_⟩,?_⟩
 ·obtain⟨_,_,k3⟩:=key ls hls
  have hp:0<ls.length:=by have:=hls.len;omega
  have hhd:ls.headD 0=ls.getD 0 0:=by cases ls <;> rfl
  refine⟨?_,?_⟩
  ·rw [ho0]
   rcases hf with rfl | rfl
   ·simp only [if_pos,List.length_cons,List.length_nil]
    rw [k3]
    cases ls with
    | nil=>simp at hp
    | cons x r=>rfl
   ·simp
  ·rw [k3]
   rcases hf with rfl | rfl
   ·simp only [firstI,if_pos];exact hhd
   ·rfl
 rintro fi oa3 _ oc3 _ w8 ⟨i,_,out,_,_,hst,hi,hfi,hol,hoI,h8,hRx8,hfar,hT⟩
 cases hst
 refine IFB_dec (fun hlt2=>⟨⟨by omega,hlt2⟩,?_⟩) (fun hge=>?_)
 ·have hix:i<xs.length:=by omega
  have hu:=hx64 _ (List.getElem_mem hix)
  obtain⟨p2,hp2,hcx⟩:=num_at hRx8 hix
  have hp2lt:p2.block<w8.heap.size:=by
   have:=World.block_lt_of_cell? w8 _ hcx
   rwa [addr_add_block] at this
  subst hp2
  obtain⟨p3,hp3,hcell3⟩:=head_at (hl.grown h8.bel) h0
  cases hp3
  refine⟨_,by rw [Int.toNat_natCast];exact hcx,⟨by omega,by omega⟩,_,hcell3,?_⟩
  have mes:xs.length-((i+1:Nat):Int).toNat<xs.length-((i:Nat):Int).toNat:=by
   simp only [Int.toNat_natCast]
   omega
  rw [wrap_succ (by omega)]
  have next:∀ {v fi':Int} {wx:World} {b:Nat} {t:TypeId},Below w8.heap.size w8 wx→wx.heap[b]?=some (.cells #[.int .i64 v] t (0,0))→I64 v→I64 fi' →
    (∀ ls,IntIs l n ls→ls.take (o0.length+(i+1))=ls.take (o0.length+i)++[v]∧fi'=(if fm=2 then ls.getD (i+1) 0 else firstI fm ls)) →
    OPR Tryz.prog (Builtin.append_ #[ty.L_int64,ty.L_int64] ty.L_int64 #[.slice oa3 out.length oc3,.slice (some ⟨b,0,none⟩) 1 1]) (fun r w11=>∃(t77:Option Addr) (t77l t77c:Nat),r=.slice t77 t77l t77c ∧
     (∃(i_1:Nat) (fi:Int) (out:List Int) (oa:Option Addr) (oc:Nat),[Value.int .i64 fi',.slice t77 t77l t77c,.int .i64 ((i+1:Nat):Int)]=[.int .i64 fi,.slice oa out.length oc,.int .i64 (i_1:Int)]∧i_1≤xs.length∧I64 fi∧out.length=o0.length+i_1∧(∀ x∈out,I64 x)∧NewI w w11 out oa oc∧Rd w11 (some p2) (xs.map u64V)∧(∀ k p,rowB oa=some k→some p2=some p→p.block≠k) ∧
      (∀ ls,IntIs l n ls→out=ls.take (o0.length+i_1)∧fi=(if fm=2 then ls.getD i_1 0 else firstI fm ls)))∧xs.length-((i+1:Nat):Int).toNat<xs.length-((i:Nat):Int).toNat) wx:=by
   intro v fi' wx b t Bx hb hv hfi' hP
   refine append_i64K (h8.grown Bx) (by omega) hb fun a11 c11 w11 h11 K11 N11=>⟨_,_,_,rfl,⟨i+1,fi',_,a11,c11,rfl,by omega,hfi',by simp [hol];omega,?_,h11,?_,?_,fun ls hls=>?_⟩,mes⟩
   ·intro x hx
    rcases List.mem_append.1 hx with h | h
    ·exact hoI x h
    ·rw [List.mem_singleton.1 h];exact hv
   ·exact (hRx8.grown Bx).keeps K11 fun q hq hr=>hfar _ q hr hq rfl
   ·intro k q hk hq
    rcases N11 k hk with h | h
    ·exact hfar k q h hq
    ·have:=Bx.size
     cases hq
     omega
   ·obtain⟨t1,_⟩:=hT ls hls
    obtain⟨g1,g2⟩:=hP ls hls
    exact⟨by rw [g1,t1],g2⟩
  refine IFB_eq (fun he=>?_) (fun he=>?_)
  ·have h2':fm=2:=by omega
   have ho1:o0.length=1:=by rw [ho0,if_pos h2'];rfl
   refine (ints_zag_ok hu).mono ?_
   rintro _ w9 ⟨_,rfl,rfl,rfl⟩
   refine⟨_,rfl,(SH.start (fun _=>False) w9).newB fun b10 w10 hb10 B10 S10=>next B10 (S10.get 0 rfl) (wrap_I64 _) (wrap_I64 _) fun ls hls=>?_⟩
   obtain⟨_,k2,_⟩:=key ls hls
   obtain⟨_,t2⟩:=hT ls hls
   rw [if_pos h2'] at t2
   have hsl:(stepsN ls).length=ls.length-1:=by simp [stepsN]
   have hxs:xs=stepsN ls:=by rw [k2];simp [packI,h2']
   have hi1:i+1<ls.length:=by rw [hxs,hsl] at hix;omega
   have hxi:=get_of hxs (stepsN_get hi1) hix
   have hval:IntKind.i64.wrap (fi+unzig xs[i])=ls[i+1]:=by
    rw [hxi,unzig_zig,t2,getD_int (by omega)]
    exact wrap_back (hls.num _ (List.getElem_mem _)) (hls.num _ (List.getElem_mem _))
   rw [hval,ho1,if_pos h2',getD_int hi1,show 1+(i+1)=(i+1)+1 by omega,show 1+i=i+1 by omega]
   exact⟨List.take_succ_eq_append_getElem hi1,rfl⟩
  ·have h2':¬ fm=2:=by omega
   have h3':fm=3:=by omega
   have ho1:o0.length=0:=by rw [ho0,if_neg h2'];rfl
   refine (SH.start (fun _=>False) w8).newB fun b10 w10 hb10 B10 S10=>next B10 (S10.get 0 rfl) (wrap_I64 _) hfi fun ls hls=>?_
   obtain⟨_,k2,_⟩:=key ls hls
   obtain⟨_,t2⟩:=hT ls hls
   rw [if_neg h2'] at t2 ⊢
   have hxs:xs=frameN ls:=by rw [k2];simp [packI,h2']
   have hi1:i<ls.length:=by rw [hxs] at hix;simpa [frameN] using hix
   have hmem:=List.getElem_mem hi1
   have hfm':firstI fm ls=minL ls:=by simp [firstI,h2']
   have hxi:=get_of hxs (frameN_get hi1) hix
   have hval:IntKind.i64.wrap (IntKind.u64.wrap (IntKind.u64.wrap fi+(xs[i]:Int)))=ls[i]:=by
    rw [hxi,t2,hfm']
    exact frame_back (hls.num _ hmem) (minTo_I64 hls.num (by omega) _) (minL_le hmem)
   rw [hval,ho1,Nat.zero_add,Nat.zero_add]
   exact⟨List.take_succ_eq_append_getElem hi1,t2⟩
 ·have hie:i=xs.length:=by omega
  have eqn:(e==0)=true→out.length=n:=fun h=>by
   have he:e=0:=by simpa using h
   have:=hxm2 he
   omega
  refine⟨out,oa3,oc3,_,rfl,h8,hoI,by omega,eqn,fun ls hls=>?_⟩
  obtain⟨k1,_,_⟩:=key ls hls
  obtain⟨t1,_⟩:=hT ls hls
  have hxl:=hxm2 k1
  refine⟨by simp [k1],?_⟩
  rw [t1,List.take_of_length_le (by have:=hls.len;omega)]
end
def IDecV(l:List UInt8)(n:Int)(w w':World)(v:Value):Prop :=
 ∃(ls:List Int) (a:Option Addr) (c:Nat) (e:Int),v=.tuple #[.slice a ls.length c,.int .i64 e]∧Rd w' a (ls.map i64V)∧Below w.heap.size w w'∧ls.length≤4096∧(∀ x∈ls,I64 x) ∧
  ((¬ decArg n∧ls=[]∧e=2)∨(decArg n∧IntIs l n.toNat ls∧0<l.length∧(∀ ms,IntIs l n.toNat ms→ms=ls)∧e=0)∨(decArg n∧(∀ ms,¬ (IntIs l n.toNat ms∧0<l.length))∧ls=[]∧e=60))
theorem IDecV.bad{l:List UInt8}{n:Int}{w w':World}(hb:Below w.heap.size w w')(hn:decArg n)(h:∀ ms,¬ (IntIs l n.toNat ms∧0<l.length)):IDecV l n w w' (.tuple #[.slice none 0 0,.int .i64 60]) :=
 ⟨[],none,0,60,rfl,Rd.nil _ _,hb,by simp,by simp,.inr (.inr ⟨hn,h,rfl,rfl⟩)⟩
theorem IDecV.arg{l:List UInt8}{n:Int}{w w':World}(hb:Below w.heap.size w w')(hn:¬ decArg n):IDecV l n w w' (.tuple #[.slice none 0 0,.int .i64 2]) :=
 ⟨[],none,0,2,rfl,Rd.nil _ _,hb,by simp,by simp,.inl ⟨hn,rfl,rfl⟩⟩
theorem enters_loose:enters Tryz.prog f.ints_loose=true:=by kernel_rfl
theorem enters_tight:enters Tryz.prog f.ints_tight=true:=by kernel_rfl
section
variable {w:World}{a:Option Addr}{c:Nat}{l:List UInt8}
theorem ints_Decode_ok(hl:Rd w a (l.map byteV))(hc:l.length≤c)(hs:l.length≤9223372036854775807)(n:Int) :
  Calls Tryz.prog f.ints_Decode #[.slice a l.length c,.int .i64 n] w (Ret fun v w'=>IDecV l n w w' v):=by
 apply R.ints_Decode_calls
 unfold R.ints_Decode
 refine⟨fun s w1=>∃ b:Bool,s=[.bool b]∧w1=w∧(b=true↔¬ decArg n),?_,?_⟩
 ·refine IFB_dec (fun h=>⟨true,rfl,rfl,?_⟩) (fun h=>⟨_,rfl,rfl,?_⟩)
  ·unfold decArg;simp;omega
  ·unfold decArg;simp;omega
 rintro _ w1 ⟨b,hst,rfl,hb⟩
 cases hst
 refine IFB_of (fun h=>IDecV.arg (.refl _ _) (hb.1 h)) (fun h=>?_)
 have harg:decArg n:=by
  rcases Classical.em (decArg n) with h1 | h1
  ·exact h1
  ·rw [hb.2 h1] at h;cases h
 obtain⟨n,rfl⟩:∃ m:Nat,n=(m:Int):=⟨n.toNat,by have:=harg.1;omega⟩
 have hn:n≤4096:=by have:=harg.2;omega
 refine IFB_eq (fun h=>IDecV.bad (.refl _ _) harg fun ms hm=>by have:=hm.2;omega) (fun hne=>?_)
 have h0:0<l.length:=by omega
 obtain⟨p,rfl,hcell⟩:=head_at hl h0
 have hb0:=(l.getD 0 0).toNat_lt
 refine⟨⟨by omega,by omega⟩,_,hcell,IFB_dec (fun h=>IDecV.bad (.refl _ _) harg fun ms hm=>by have:=hm.1.form;omega) (fun hle=>?_)⟩
 obtain⟨fm,hfm⟩:∃ fm,fm=(l.getD 0 0).toNat:=⟨_,rfl⟩
 rw [← hfm] at hcell hle
 have hread:∀ fn,(fn=f.ints_loose∧fm≤1)∨(fn=f.ints_tight∧(fm=2∨fm=3))→enters Tryz.prog fn=true∧Calls Tryz.prog fn #[.slice (some p) l.length c,.int .i64 (n:Int)] w1 (Ret fun v w'=>LooseV l n w1 w' v):=by
  rintro fn (⟨rfl,h⟩ | ⟨rfl,h⟩)
  ·exact⟨enters_loose,ints_loose_ok hl hc hs h0 hfm h hn⟩
  ·exact⟨enters_tight,ints_tight_ok hl hc hs h0 hfm h hn⟩
 refine⟨fun s w2=>w2=w1∧∃ fn,s=[.func (.func fn) #[] #[]]∧((fn=f.ints_loose∧fm≤1)∨(fn=f.ints_tight∧(fm=2∨fm=3))),?_,?_⟩
 ·refine⟨⟨by omega,by omega⟩,_,hcell,IFB_dec (fun h=>⟨rfl,_,rfl,.inr ⟨rfl,by omega⟩⟩) (fun h=>⟨rfl,_,rfl,.inl ⟨rfl,by omega⟩⟩)⟩
 rintro _ _ _ w2 ⟨rfl,fn,hst,hfn⟩
 cases hst
 obtain⟨hent,hcall⟩:=hread _ hfn
 rw [hent]
 refine hcall.mono ?_
 rintro _ w3 ⟨_,rfl,ms,a3,c3,ok,rfl,h3,hI3,hl3,hok3,hall⟩
 refine⟨_,_,_,_,rfl,IFB_not (IFB_of (fun hk=>?_) (fun hk=>IDecV.bad h3.bel harg fun ls hls=>?_))⟩
 case refine_2 =>
  rw [Int.toNat_natCast] at hls
  have:=(hall ls hls.1).1
  rw [this] at hk;cases hk
 have hlen:=hok3 hk
 obtain⟨p',hp',hcell3⟩:=head_at (hl.grown h3.bel) h0
 cases hp'
 rw [← hfm] at hcell3
 refine⟨⟨by omega,by omega⟩,_,hcell3,?_⟩
 rw [wrap_i64 (by omega) (by omega)]
 refine (ints_Encode_ok (fm:Int) h3.row.rd h3.row.le hI3).mono ?_
 rintro _ w4 ⟨_,rfl,hE⟩
 obtain⟨a4,c4,rfl,h4⟩:=IntsV.good (by omega) hl3 hE
 have C4:=below_trans h3.bel h4.bel
 refine⟨_,_,_,_,rfl,(bytes_Equal_ok (l:=intsL fm ms) (c:=c4) h4.rd (hl.grown C4)).mono ?_⟩
 rintro _ w5 ⟨_,rfl,rfl,rfl⟩
 refine⟨_,rfl,IFB_not (IFB_dec (fun he=>?_) (fun he=>IDecV.bad C4 harg fun ls hls=>he ?_))⟩
 ·refine⟨ms,a3,c3,0,rfl,h3.row.rd.grown h4.bel,C4,hl3,hI3,.inr (.inl ⟨harg,?_,h0,?_,rfl⟩)⟩
  ·rw [Int.toNat_natCast]
   exact⟨hlen,hI3,by omega,by rw [← hfm];exact he.symm⟩
  ·intro ls hls
   rw [Int.toNat_natCast] at hls
   exact ((hall ls hls).2).symm
 ·rw [Int.toNat_natCast] at hls
  have h1:=(hall ls hls.1).2
  have h2:=hls.1.enc
  rw [← hfm] at h2
  rw [h1,← h2]
end
theorem tVals:slT Tryz.prog ty.L_api_Value=some (ty.api_Value,3,32,.agg #[.int .i64 0,.int .i64 0,.string ⟨#[]⟩]):=by kernel_rfl
structure NewV(w w':World)(vs:List Val)(a:Option Addr)(c:Nat):Prop where
 row:Row w' ty.api_Value 3 a vs.length c (valsL vs)
 new:∀ k,rowB a=some k→w.heap.size≤k
 bel:Below w.heap.size w w'
theorem NewV.nil(w:World):NewV w w [] none 0:=⟨Row.nil _ _ _,by simp [rowB],.refl _ _⟩
theorem NewV.grown{w w1 w2:World}{xs:List Val}{a:Option Addr}{c:Nat}(h:NewV w w1 xs a c)(hb:Below w1.heap.size w1 w2):NewV w w2 xs a c:=⟨h.row.grown hb,h.new,below_trans h.bel hb⟩
theorem vals_append(xs ys:List Val):valsL (xs++ys)=valsL xs++valsL ys:=by simp [valsL]
theorem append_val{w w1:World}{a:Option Addr}{c:Nat}{xs:List Val}(h:NewV w w1 xs a c)(hl:xs.length+1≤1000000){x:Val}{b:Nat}{t:TypeId}(hb:w1.heap[b]?=some (.cells #[.int .i64 x.1,.int .i64 x.2.1,.string x.2.2] t (0,0))){f:Value→World→Prop}
  (hf:∀ a' c' w',NewV w w' (xs++[x]) a' c'→f (.slice a' (xs++[x]).length c') w'):OPR Tryz.prog (Builtin.append_ #[ty.L_api_Value,ty.L_api_Value] ty.L_api_Value #[.slice a xs.length c,.slice (some ⟨b,0,none⟩) 1 1]) f w1:=by
 have hsrc:Rd w1 (some ⟨b,0,none⟩) (valsL [x]):=by
  have:=Rd.of_block0 hb
  simpa [valC] using this
 obtain⟨a5,c5,w2,hrun,hrow,hk5,hnw⟩:=append_row (ty:=ty.L_api_Value) (mc:=1) tVals rfl (by omega) (by omega) h.row hsrc (m:=1) rfl (by simp [valC];exact⟨rfl,rfl,rfl⟩) (by omega)
 unfold OPR
 rw [hrun]
 have e:xs.length+1=(xs++[x]).length:=by simp
 rw [e] at hrow ⊢
 refine hf a5 c5 w2 ⟨by rw [vals_append];exact hrow,fun k hk=>?_,h.bel.trans (hk5.below h.bel.size fun k hk he=>by have:=h.new k he;omega)⟩
 rcases hnw k hk with h1 | h1
 ·exact h.new k h1
 ·exact Nat.le_trans h.bel.size h1
/-! ### the values that are not null -/
theorem full_nums{kind:Int}{ls:List Val}(hg:Good1 kind ls)(h3:kind≠3):fullL ls=(numsL ls).map fun x=>(kind,x,E0):=by
 unfold numsL
 rw [List.map_map]
 conv=>lhs;rw [← List.map_id (fullL ls)]
 apply List.map_congr_left
 intro v hv
 obtain⟨hm,hne⟩:=List.mem_filter.1 hv
 have hok:=hg.all v hm
 simp only [okV,Bool.and_eq_true,Bool.or_eq_true,decide_eq_true_eq] at hok
 have hk1:v.1=kind:=hok.2.resolve_right (by simpa using hne)
 have hr:=hok.1
 have h33:¬ v.1=3:=by rw [hk1];exact h3
 have he:v.2.2=E0:=by
  unfold rightB at hr
  split at hr
  ·simp at hr;exact hr.2
  ·split at hr
   ·simpa using hr
   ·split at hr
    ·simp at hr;exact hr.2
    ·simp at hr
 show v=(kind,v.2.1,E0)
 rw [← hk1,← he]
theorem full_texts{kind:Int}{ls:List Val}(hg:Good1 kind ls)(h3:kind=3):fullL ls=(textsL ls).map fun s=>(kind,0,s):=by
 unfold textsL
 rw [List.map_map]
 conv=>lhs;rw [← List.map_id (fullL ls)]
 apply List.map_congr_left
 intro v hv
 obtain⟨hm,hne⟩:=List.mem_filter.1 hv
 have hok:=hg.all v hm
 simp only [okV,Bool.and_eq_true,Bool.or_eq_true,decide_eq_true_eq] at hok
 have hk1:v.1=kind:=hok.2.resolve_right (by simpa using hne)
 have hr:=hok.1
 have h33:v.1=3:=by rw [hk1];exact h3
 have he:v.2.1=0:=by
  unfold rightB at hr
  rw [if_neg (by omega),if_neg (by omega),if_neg (by omega),if_pos h33] at hr
  simp at hr
  exact hr.1
 show v=(kind,0,v.2.2)
 rw [← hk1,← he]
theorem oth_texts{ls:List Val}{o:List UInt8}(hg:Good1 3 ls)(h:OthIs 3 ls o):DecIs o (textsL ls).length (textsL ls)∧0<o.length:=by
 have key:∀(f:Int) (b:List UInt8),(0≤f∧f≤1)→EncIs (textsL ls) f b→DecIs b (textsL ls).length (textsL ls)∧0<b.length:=by
  intro f b hf hE
  have hh:((b.getD 0 0).toNat:Int)=f:=by
   cases hE with
   | plain=>rfl
   | table t wd ht hw=>rfl
  refine⟨⟨rfl,by rw [hh];exact hg.enc f hf,by rw [hh];exact hE⟩,?_⟩
  cases hE with
  | plain=>simp
  | table t wd ht hw=>simp
 cases h with
 | text h b0 b1 h0 h1 =>
  split
  ·exact key 1 b1 (by omega) h1
  ·exact key 0 b0 (by omega) h0
 | num h=>exact absurd rfl h
theorem intsL_head{f:Nat}(hf:f≤3)(l:List Int):((intsL f l).getD 0 0).toNat=f∧0<(intsL f l).length:=by
 rcases (by omega:f=0∨f=1∨f=2∨f=3) with rfl | rfl | rfl | rfl <;> exact⟨rfl,by simp [intsL]⟩
theorem oth_nums{kind:Int}{ls:List Val}{o:List UInt8}(hg:Good1 kind ls)(h3:kind≠3)(h:OthIs kind ls o):IntIs o (numsL ls).length (numsL ls)∧0<o.length:=by
 cases h with
 | text h b0 b1 h0 h1=>exact absurd h h3
 | num h =>
  obtain⟨e1,e2⟩:=intsL_head (bestN_le (numsL ls)) (numsL ls)
  exact⟨⟨rfl,hg.nums,by rw [e1];exact bestN_le _,by rw [e1]⟩,e2⟩
def DecdV(kind:Int)(l:List UInt8)(n:Nat)(w w':World)(v:Value):Prop :=
 ∃(vs:List Val) (a:Option Addr) (c:Nat) (ok:Bool),v=.tuple #[.slice a vs.length c,.bool ok]∧Rd w' a (valsL vs)∧Below w.heap.size w w'∧vs.length≤4096∧(∀ v∈vs,ValOk v) ∧
  ∀ ls,Good1 kind ls→(fullL ls).length=n→(0<n→OthIs kind ls l)→(n=0→l=[])→ok=true∧vs=fullL ls
section
variable {w:World}{a:Option Addr}{c:Nat}{l:List UInt8}
theorem chunk_decoded_ok(kind:Int)(hl:Rd w a (l.map byteV))(hc:l.length≤c)(hs:l.length≤9223372036854775807){n:Nat}(hn:n≤1024) :
  Calls Tryz.prog f.chunk_decoded #[.int .i64 kind,.slice a l.length c,.int .i64 (n:Int)] w (Ret fun v w'=>DecdV kind l n w w' v):=by
 apply R.chunk_decoded_calls
 unfold R.chunk_decoded
 refine IFB_eq (fun hz=>?_) (fun hnz=>IFB_eq (fun h3=>?_) (fun h3=>?_))
 ·have hn0:n=0:=by omega
  subst hn0
  refine⟨[],none,0,_,rfl,Rd.nil _ _,.refl _ _,by simp,by simp,fun ls hg hf _ h0=>?_⟩
  rw [h0 rfl]
  exact⟨rfl,(List.eq_nil_of_length_eq_zero hf).symm⟩
 ·subst h3
  have hn0:0<n:=by omega
  refine (dict_Decode_ok hl hc hs (n:Int)).mono ?_
  rintro _ w1 ⟨_,rfl,ss,a1,c1,e1,rfl,R1,B1,l1,q1⟩
  have harg:decArg (n:Int):=⟨by omega,by omega⟩
  rw [Int.toNat_natCast] at q1
  refine⟨_,_,_,_,rfl,?_⟩
  refine⟨fun s w2=>∃(i:Nat) (oa:Option Addr) (oc:Nat),s=[.slice oa ((ss.take i).map fun s=>((3:Int),(0:Int),s)).length oc,.int .i64 (i:Int)]∧i≤ss.length∧NewV w1 w2 ((ss.take i).map fun s=>((3:Int),(0:Int),s)) oa oc,fun s _=>match s with
    | [_,.int _ i]=>ss.length-i.toNat
    | _=>0,⟨0,none,0,rfl,by omega,NewV.nil w1⟩,?_⟩
  rintro oa _ oc _ w2 ⟨i,_,_,hst,hi,h2⟩
  cases hst
  refine IFB_dec (fun hlt=>⟨⟨by omega,hlt⟩,?_⟩) (fun hge=>?_)
  ·have hil:i<ss.length:=by omega
   obtain⟨p,rfl,hcell⟩:=str_at (R1.grown h2.bel) hil
   refine⟨_,by rw [Int.toNat_natCast];exact hcell,(SH.start (fun _=>False) w2).newB fun b3 w3 hb3 B3 S3=>append_val (x:=(3,0,ss[i])) (h2.grown B3) (by simp;omega) (S3.get 0 rfl) fun a4 c4 w4 h4=>⟨_,_,_,rfl,?_⟩⟩
   have e:(ss.take (i+1)).map (fun s=>((3:Int),(0:Int),s))=(ss.take i).map (fun s=>((3:Int),(0:Int),s))++[((3:Int),(0:Int),ss[i])]:=by
    rw [List.take_succ_eq_append_getElem hil,List.map_append];rfl
   rw [wrap_succ (by omega)]
   refine⟨⟨i+1,a4,c4,by rw [e],by omega,by rw [e];exact h4⟩,?_⟩
   simp only [Int.toNat_natCast]
   omega
  ·have hie:ss.take i=ss:=List.take_of_length_le (by omega)
   rw [hie] at h2 ⊢
   refine⟨_,oa,oc,_,rfl,h2.row.rd,below_trans B1 h2.bel,by simp;omega,?_,fun ls hg hf ho _=>?_⟩
   ·intro v hv
    obtain⟨s,_,rfl⟩:=List.mem_map.1 hv
    exact⟨by simp,by simp⟩
   ·obtain⟨d1,d2⟩:=oth_texts hg (ho hn0)
    have hft:=full_texts hg rfl
    have htl:(textsL ls).length=n:=by rw [← hf,hft,List.length_map]
    rw [htl] at d1
    rcases q1 with ⟨k1,_⟩ | ⟨_,k2,rfl,_⟩ | ⟨_,k2,_⟩
    ·exact absurd harg k1
    ·rw [hft,k2.one d1];exact⟨rfl,rfl⟩
    ·exact absurd ⟨d1,d2⟩ (k2 _)
 ·have hn0:0<n:=by omega
  refine (ints_Decode_ok hl hc hs (n:Int)).mono ?_
  rintro _ w1 ⟨_,rfl,ns,a1,c1,e1,rfl,R1,B1,l1,hI,q1⟩
  have harg:decArg (n:Int):=⟨by omega,by omega⟩
  rw [Int.toNat_natCast] at q1
  refine⟨_,_,_,_,rfl,?_⟩
  refine⟨fun s w2=>∃(i:Nat) (oa:Option Addr) (oc:Nat),s=[.slice oa ((ns.take i).map fun x=>((kind:Int),(x:Int),E0)).length oc,.int .i64 (i:Int)]∧i≤ns.length∧NewV w1 w2 ((ns.take i).map fun x=>((kind:Int),(x:Int),E0)) oa oc,fun s _=>match s with
    | [_,.int _ i]=>ns.length-i.toNat
    | _=>0,⟨0,none,0,rfl,by omega,NewV.nil w1⟩,?_⟩
  rintro oa _ oc _ w2 ⟨i,_,_,hst,hi,h2⟩
  cases hst
  refine IFB_dec (fun hlt=>⟨⟨by omega,hlt⟩,?_⟩) (fun hge=>?_)
  ·have hil:i<ns.length:=by omega
   obtain⟨p,rfl,hcell⟩:=int_at (R1.grown h2.bel) hil
   refine⟨_,by rw [Int.toNat_natCast];exact hcell,(SH.start (fun _=>False) w2).newB fun b3 w3 hb3 B3 S3=>append_val (x:=(kind,ns[i],E0)) (h2.grown B3) (by simp;omega) (S3.get 0 rfl) fun a4 c4 w4 h4=>⟨_,_,_,rfl,?_⟩⟩
   have e:(ns.take (i+1)).map (fun x=>((kind:Int),(x:Int),E0))=(ns.take i).map (fun x=>((kind:Int),(x:Int),E0))++[((kind:Int),(ns[i]:Int),E0)]:=by
    rw [List.take_succ_eq_append_getElem hil,List.map_append];rfl
   rw [wrap_succ (by omega)]
   refine⟨⟨i+1,a4,c4,by rw [e],by omega,by rw [e];exact h4⟩,?_⟩
   simp only [Int.toNat_natCast]
   omega
  ·have hie:ns.take i=ns:=List.take_of_length_le (by omega)
   rw [hie] at h2 ⊢
   refine⟨_,oa,oc,_,rfl,h2.row.rd,below_trans B1 h2.bel,by simp;omega,?_,fun ls hg hf ho _=>?_⟩
   ·intro v hv
    obtain⟨x,hx,rfl⟩:=List.mem_map.1 hv
    exact⟨(hI x hx).1,(hI x hx).2⟩
   ·obtain⟨d1,d2⟩:=oth_nums hg h3 (ho hn0)
    have hft:=full_nums hg h3
    have htl:(numsL ls).length=n:=by rw [← hf,hft,List.length_map]
    rw [htl] at d1
    rcases q1 with ⟨k1,_⟩ | ⟨_,_,_,k2,rfl⟩ | ⟨_,k2,_⟩
    ·exact absurd harg k1
    ·rw [hft,k2 _ d1];exact⟨rfl,rfl⟩
    ·exact absurd ⟨d1,d2⟩ (k2 _)
end
/-! ### spread -/
theorem vals_set(cur:List Val){i:Nat}(hi:i<cur.length)(v:Val) :
  (((⟨valsL cur⟩:Array Value).setIfInBounds (i*3) (.int .i64 v.1)).setIfInBounds (i*3+1) (.int .i64 v.2.1)).setIfInBounds (i*3+2) (.string v.2.2)=⟨valsL (cur.set i v)⟩:=by
 apply Array.ext'
 simp only [Array.toList_setIfInBounds]
 apply List.ext_getElem?
 intro j
 have hl:=vals_len cur
 have hl2:=vals_len (cur.set i v)
 rw [List.length_set] at hl2
 by_cases hj:j<cur.length*3
 ·have hq:j / 3<cur.length:=by omega
  have e:j=j / 3*3+j % 3:=by omega
  have g1:=vals_get cur (j / 3) (j % 3) hq (by omega)
  have g2:=vals_get (cur.set i v) (j / 3) (j % 3) (by rw [List.length_set];exact hq) (by omega)
  rw [← e] at g1 g2
  rw [g2]
  simp only [List.getElem?_set,List.length_set,hl]
  by_cases hji:j / 3=i
  ·subst hji
   simp only [List.getElem_set_self]
   rcases (by omega:j % 3=0∨j % 3=1∨j % 3=2) with h | h | h
   ·rw [h] at e ⊢
    rw [if_neg (by omega),if_neg (by omega),if_pos (by omega),if_pos (by omega)];rfl
   ·rw [h] at e ⊢
    rw [if_neg (by omega),if_pos (by omega),if_pos (by omega)];rfl
   ·rw [h] at e ⊢
    rw [if_pos (by omega),if_pos (by omega)];rfl
  ·rw [if_neg (by omega),if_neg (by omega),if_neg (by omega),g1]
   rw [List.getElem_set_ne (fun h=>hji h.symm)]
 ·rw [List.getElem?_eq_none (by simp only [List.length_set,hl];omega),List.getElem?_eq_none (by rw [hl2];omega)]
theorem vals_zero(n:Nat):madeCells (Value.agg #[.int .i64 0,.int .i64 0,.string ⟨#[]⟩]).cells (n*3)=⟨valsL (List.replicate n (0,0,E0))⟩:=by
 apply Array.ext'
 apply List.ext_getElem?
 intro j
 by_cases hj:j<n*3
 ·have g2:=vals_get (List.replicate n (0,0,E0)) (j / 3) (j % 3) (by rw [List.length_replicate];omega) (by omega)
  have e:j / 3*3+j % 3=j:=by omega
  rw [e] at g2
  rw [g2,List.getElem_replicate]
  have hc:(Value.agg #[.int .i64 0,.int .i64 0,.string ⟨#[]⟩]).cells=#[.int .i64 0,.int .i64 0,.string ⟨#[]⟩]:=rfl
  rw [hc]
  have hsz:(#[Value.int .i64 0,.int .i64 0,.string ⟨#[]⟩]:Array Value).size=3:=rfl
  rcases (by omega:j % 3=0∨j % 3=1∨j % 3=2) with h | h | h <;> simp [madeCells,hj,h,valC]
 ·rw [List.getElem?_eq_none (by rw [Array.length_toList,madeCells_size];omega),List.getElem?_eq_none (by rw [vals_len,List.length_replicate];omega)]
structure RdN(w w':World)(a:Option Addr)(xs:List Value):Prop where
 rd:Rd w' a xs
 new:∀ k,rowB a=some k→w.heap.size≤k
theorem RdN.nil(w w':World):RdN w w' none []:=⟨Rd.nil _ _,fun k hk=>by cases hk⟩
theorem RdN.grown{w w' w2:World}{a:Option Addr}{xs:List Value}(h:RdN w w' a xs)(B:Below w'.heap.size w' w2):RdN w w2 a xs:=⟨h.rd.grown B,h.new⟩
theorem RdN.before{w0 w w':World}{a:Option Addr}{xs:List Value}(h:RdN w w' a xs)(B:Below w0.heap.size w0 w):RdN w0 w' a xs:=⟨h.rd,fun k hk=>Nat.le_trans B.size (h.new k hk)⟩
def SprV(bits:List Nat)(vs:List Val)(w w':World)(v:Value):Prop :=
 ∃(os:List Val) (a:Option Addr) (c:Nat) (ok:Bool),v=.tuple #[.slice a os.length c,.bool ok]∧RdN w w' a (valsL os)∧Below w.heap.size w w'∧os.length≤4096∧(∀ v∈os,ValOk v) ∧
  ∀ ls,bits=bitsN ls→vs=fullL ls→(∀ v∈ls,v.1=0→v=(0,0,E0))→ok=true∧os=ls
theorem sto_at{w:World}{b:Nat}{cs:Array Value}{t:TypeId}(hb:w.heap[b]?=some (.cells cs t (0,0))){p:Addr}{i:Nat}(hp:p=⟨b,i,none⟩){v:Value}{k:World→Prop}(hi:i<cs.size)
  (hk:∀ w',Keeps (·=b) w w'→w'.heap[b]?=some (.cells (cs.setIfInBounds i v) t (0,0))→k w'):STO p v k w:=by
 subst hp
 exact sto_blk hb hi hk
section
variable {w:World}{a a2:Option Addr}{c c2:Nat}{bits:List Nat}{vs:List Val}
theorem chunk_spread_ok(hb:Rd w a (bits.map u64V))(hv:Rd w a2 (valsL vs))(hn:bits.length≤4096)(hvn:vs.length≤4096)(hok:∀ v∈vs,ValOk v) :
  Calls Tryz.prog f.chunk_spread #[.slice a bits.length c,.slice a2 vs.length c2] w (Ret fun v w'=>SprV bits vs w w' v):=by
 apply R.chunk_spread_calls
 unfold R.chunk_spread
 refine make_new tVals (l:=(bits.length:Int)) (c:=(bits.length:Int)) (by omega) (by omega) (by omega) (by omega) fun bo w1 hbo B1 hO1=>?_
 rw [Int.toNat_natCast,vals_zero] at hO1
 rw [Int.toNat_natCast]
 have low:∀ {w':World},Keeps (fun k=>k=bo) w1 w'→Below w.heap.size w w':=fun K=>B1.trans (K.below B1.size fun k hk h=>by omega)
 refine⟨_,_,_,rfl,fun s w2=>∃(at_ i:Nat) (cur:List Val),s=[.int .i64 (at_:Int),.int .i64 (i:Int)]∧i≤bits.length∧at_≤vs.length∧cur.length=bits.length∧(∀ v∈cur,ValOk v)∧Keeps (fun k=>k=bo) w1 w2∧w2.heap[bo]?=some (.cells ⟨valsL cur⟩ ty.api_Value (0,0)) ∧
   (∀ ls,bits=bitsN ls→vs=fullL ls→(∀ v∈ls,v.1=0→v=(0,0,E0))→at_=(fullL (ls.take i)).length∧cur=ls.take i++List.replicate (bits.length-i) (0,0,E0)),fun s _=>match s with
   | [_,.int _ i]=>bits.length-i.toNat
   | _=>0,⟨0,0,_,rfl,by omega,by omega,by simp,?_,.refl _ _,hO1,fun ls _ _ _=>⟨rfl,by simp⟩⟩,?_⟩
 ·intro v hv
  rw [(List.mem_replicate.1 hv).2]
  exact⟨by simp,by simp⟩
 rintro _ _ w2 ⟨at_,i,cur,hst,hi,hat,hcl,hcok,K2,hO2,hT⟩
 cases hst
 have B2:=low K2
 have blen:∀ {ls:List Val},bits=bitsN ls→ls.length=bits.length:=fun h=>by rw [h];simp [bitsN]
 refine IFB_dec (fun hlt=>⟨⟨by omega,hlt⟩,?_⟩) (fun hge=>?_)
 ·have hil:i<bits.length:=by omega
  have hic:i<cur.length:=by omega
  obtain⟨p,rfl,hcell⟩:=num_at (hb.grown B2) hil
  refine⟨_,by rw [Int.toNat_natCast];exact hcell,?_⟩
  have mes:bits.length-((i+1:Nat):Int).toNat<bits.length-((i:Nat):Int).toNat:=by
   simp only [Int.toNat_natCast]
   omega
  have bit:∀ {ls:List Val} (h:bits=bitsN ls) (hl:i<ls.length),bits[i]=if ls[i].1=0 then 1 else 0:=by
   intro ls h hl
   subst h
   simp [bitsN]
  rw [wrap_succ (k:=i) (by omega)]
  refine IFB_eq (fun h1=>?_) (fun h1=>IFB_eq (fun hend=>?_) (fun hne=>?_))
  ·refine⟨⟨at_,i+1,cur,rfl,by omega,hat,hcl,hcok,K2,hO2,fun ls g1 g2 g3=>?_⟩,mes⟩
   obtain⟨t1,t2⟩:=hT ls g1 g2 g3
   have hl:=blen g1
   have hl':i<ls.length:=by omega
   have hb1:=bit g1 hl'
   have hz:ls[i].1=0:=by
    by_cases hz:ls[i].1=0
    ·exact hz
    ·rw [if_neg hz] at hb1;omega
   refine⟨by rw [t1,fullL_take hl',if_pos hz,List.append_nil],?_⟩
   rw [t2,List.take_succ_eq_append_getElem hl',g3 _ (List.getElem_mem hl') hz,List.append_assoc]
   congr 1
   rw [show bits.length-i=(bits.length-(i+1))+1 by omega,List.replicate_succ]
   rfl
  ·refine⟨[],none,0,false,rfl,RdN.nil _ _,B2,by simp,by simp,fun ls g1 g2 g3=>?_⟩
   exfalso
   obtain⟨t1,t2⟩:=hT ls g1 g2 g3
   have hl:=blen g1
   have hl':i<ls.length:=by omega
   have hb1:=bit g1 hl'
   have hnz:¬ ls[i].1=0:=fun hz=>by rw [if_pos hz] at hb1;omega
   have hle:(fullL (ls.take (i+1))).length≤(fullL ls).length:=by
    unfold fullL
    exact ((List.take_sublist (i+1) ls).filter _).length_le
   rw [fullL_take hl',if_neg hnz,List.length_append,← t1,← g2] at hle
   simp at hle
   omega
  ·have hav:at_<vs.length:=by omega
   obtain⟨p2,hp2,c0,c1,c2⟩:=val_at (hv.grown B2) hav
   subst hp2
   refine⟨⟨by omega,by omega⟩,_,by rw [Int.toNat_natCast];exact c0,_,by rw [Int.toNat_natCast];exact c1,_,by rw [Int.toNat_natCast];exact c2,⟨by omega,by omega⟩,?_⟩
   rw [Int.toNat_natCast]
   have hsz:(⟨valsL cur⟩:Array Value).size=bits.length*3:=by
    show (valsL cur).length=_
    rw [vals_len,hcl]
   refine sto_at hO2 (p:=(⟨bo,0,none⟩:Addr).add (i*3)) (i:=i*3) (by rw [addr_add_blk];simp) (by omega) fun w3 K3 hO3=>?_
   refine sto_at hO3 (p:=((⟨bo,0,none⟩:Addr).add (i*3)).add 1) (i:=i*3+1) (by rw [addr_add_blk,addr_add_blk];simp) (by simp only [Array.size_setIfInBounds];omega) fun w4 K4 hO4=>?_
   refine sto_at hO4 (p:=((⟨bo,0,none⟩:Addr).add (i*3)).add 2) (i:=i*3+2) (by rw [addr_add_blk,addr_add_blk];simp) (by simp only [Array.size_setIfInBounds];omega) fun w5 K5 hO5=>?_
   rw [vals_set cur hic] at hO5
   rw [wrap_succ (by omega)]
   refine⟨⟨at_+1,i+1,cur.set i vs[at_],rfl,by omega,by omega,by rw [List.length_set];exact hcl,?_,((K2.trans K3 (fun _ _ h=>h)).trans K4 (fun _ _ h=>h)).trans K5 (fun _ _ h=>h),hO5,fun ls g1 g2 g3=>?_⟩,mes⟩
   ·intro v hv'
    rcases List.mem_or_eq_of_mem_set hv' with h | h
    ·exact hcok v h
    ·rw [h];exact hok _ (List.getElem_mem hav)
   ·obtain⟨t1,t2⟩:=hT ls g1 g2 g3
    have hl:=blen g1
    have hl':i<ls.length:=by omega
    have hb1:=bit g1 hl'
    have hnz:¬ ls[i].1=0:=fun hz=>by rw [if_pos hz] at hb1;omega
    have hft:=fullL_take hl'
    rw [if_neg hnz] at hft
    refine⟨by rw [t1,hft,List.length_append];rfl,?_⟩
    have hv2:vs[at_]=ls[i]:=by
     have hpre:fullL (ls.take (i+1)) <+: fullL ls:=by
      unfold fullL
      exact (List.take_prefix (i+1) ls).filter _
     rw [hft] at hpre
     obtain⟨r,hr⟩:=hpre
     have hv?:vs[at_]?=some ls[i]:=by
      rw [g2,← hr,List.append_assoc,t1]
      simp
     rw [List.getElem?_eq_getElem hav] at hv?
     exact Option.some.inj hv?
    rw [hv2,t2,List.take_succ_eq_append_getElem hl']
    have htl:(ls.take i).length=i:=by rw [List.length_take];omega
    rw [List.set_append_right _ _ (by omega),htl,Nat.sub_self,show bits.length-i=(bits.length-(i+1))+1 by omega,List.replicate_succ,List.set_cons_zero,List.append_assoc]
    rfl
 ·refine⟨cur,some ⟨bo,0,none⟩,bits.length,_,by rw [hcl],?_,B2,by omega,hcok,fun ls g1 g2 g3=>?_⟩
  ·exact⟨Rd.of_block0 hO2,fun k hk=>by cases hk;exact hbo⟩
  ·obtain⟨t1,t2⟩:=hT ls g1 g2 g3
   have hl:=blen g1
   have hie:ls.take i=ls:=List.take_of_length_le (by omega)
   rw [hie] at t1 t2
   refine⟨by rw [g2,t1];simp,?_⟩
   rw [t2,show bits.length-i=0 by omega]
   simp
end
def colsI(a:Option Addr)(c:Nat)(cs:List Col):It:=It.row ty.api_Column 3 a cs.length c (colsL cs)
theorem tCols:slT Tryz.prog ty.L_api_Column=some (ty.api_Column,3,32,.agg #[.string ⟨#[]⟩,.int .i64 0,.bool false]):=by kernel_rfl
section
variable {w0 w:World}{H:List It}{a:Option Addr}{c:Nat}{cs:List Col}
theorem stRdC(S:ST w0 w H)(n:Nat)(hn:H[n]?=some (colsI a c cs)):Rd w a (colsL cs):=S.rd n hn
theorem stAppC(S:ST w0 w H)(n:Nat)(hn:H[n]?=some (colsI a c cs)){x:Col}{b:Nat}(hs:Rd w (some ⟨b,0,none⟩) (colC x))(hl:cs.length+1≤1000000){f:Value→World→Prop}
  (hf:∀ a' c' w',ST w0 w' (H.set n (colsI a' c' (cs++[x])))→f (.slice a' (cs++[x]).length c') w') :
  OPR Tryz.prog (Builtin.append_ #[ty.L_api_Column,ty.L_api_Column] ty.L_api_Column #[.slice a cs.length c,.slice (some ⟨b,0,none⟩) 1 1]) f w:=by
 refine S.app n hn tCols rfl (by omega) (by omega) hs (mm:=1) rfl (by simp [colC];exact⟨rfl,rfl,rfl⟩) (by omega) fun a' c' w' S'=>?_
 have e1:(cs++[x]).length=cs.length+1:=by simp
 have e2:colsL cs++colC x=colsL (cs++[x]):=by simp [colsL]
 rw [e2] at S'
 have:=hf a' c' w' (by unfold colsI;rw [e1];exact S')
 rwa [e1] at this
end
def takeCols(l:List UInt8)(at_:Nat):Nat→Option (List Col × Nat)
 | 0=>some ([],at_)
 | n+1=>match takeT l (at_:Int) 24 with
  | none=>none
  | some x=>if l.length-x.2<2∨1<(l.getD (x.2+1) 0).toNat then none else
   (takeCols l (x.2+2) n).map fun r=>((sof x.1,((l.getD x.2 0).toNat:Int),(l.getD (x.2+1) 0).toNat==1) :: r.1,r.2)
def takeSch(l:List UInt8)(at_:Int):Option (List Col × Nat) :=
 match takeN l at_ with
 | none=>none
 | some x=>if 16<x.1 then none else match takeCols l x.2 x.1 with
  | none=>none
  | some r=>if rightCols r.1 then some r else none
theorem takeT_len{l:List UInt8}{at_:Int}{most:Nat}{s:List UInt8}{k:Nat}(h:takeT l at_ most=some (s,k)):s.length≤l.length:=by
 unfold takeT at h
 split at h
 ·split at h
  ·cases h
  ·simp only [Option.some.injEq,Prod.mk.injEq] at h
   obtain⟨rfl,_⟩:=h
   rw [List.length_take,List.length_drop]
   omega
 ·cases h
def SchTV(o:Option (List Col × Nat))(w w':World)(v:Value):Prop :=
 match o with
 | none=>v=.tuple #[.slice none 0 0,.int .i64 0,.int .i64 52]∧Below w.heap.size w w'
 | some r=>∃ a c,v=.tuple #[.slice a r.1.length c,.int .i64 (r.2:Int),.int .i64 0]∧ST w w' [colsI a c r.1]
theorem SchTV.bad{o:Option (List Col × Nat)}{w w':World}(h:o=none)(B:Below w.heap.size w w'):SchTV o w w' (.tuple #[.slice none 0 0,.int .i64 0,.int .i64 52]):=by
 subst h
 exact⟨rfl,B⟩
section
variable {w:World}{a:Option Addr}{c:Nat}{l:List UInt8}
theorem col_bytes(hl:Rd w a (l.map byteV)){k:Nat}(h:2≤l.length-k):∃ p,a=some p∧w.cell? (p.add (k*1))=some (.int .u8 ((l.getD k 0).toNat:Int))∧w.cell? (p.add ((k+1)*1))=some (.int .u8 ((l.getD (k+1) 0).toNat:Int)):=by
 have h1:k<l.length:=by omega
 have h2:k+1<l.length:=by omega
 obtain⟨p,rfl,c1⟩:=byte_at hl h1
 obtain⟨p',hp,c2⟩:=byte_at hl h2
 cases hp
 exact⟨p,rfl,by rw [c1];simp [List.getD,h1],by rw [c2];simp [List.getD,h2]⟩
theorem schema_Take_ok(hl:Rd w a (l.map byteV))(hc:l.length≤c)(hs:l.length≤140737488355328)(at_:Int) :
  Calls Tryz.prog f.schema_Take #[.slice a l.length c,.int .i64 at_] w (Ret fun v w'=>SchTV (takeSch l at_) w w' v):=by
 apply R.schema_Take_calls
 unfold R.schema_Take
 refine (wire_TakeNumber_ok hl hc (by omega) at_).mono ?_
 rintro _ w1 ⟨_,rfl,rfl,rfl⟩
 cases hx:takeN l at_ with
 | none=>exact⟨_,_,_,rfl,IFB_ne (fun _=>.bad (by simp [takeSch,hx]) (.refl _ _)) (fun h=>by cases h)⟩
 | some x =>
  obtain⟨n,at0⟩:=x
  obtain⟨hn,_,_,hb2,_⟩:=takeN_bounds hx
  refine⟨_,_,_,rfl,IFB_ne (fun h=>absurd rfl h) (fun _=>IFB_dec (fun h=>.bad ?_ (.refl _ _)) (fun h16=>?_))⟩
  ·have:16<n:=by simp only at h;omega
   simp [takeSch,hx,this]
  have h16':n≤16:=by simp only at h16;omega
  have hT:takeSch l at_=match takeCols l at0 n with
   | none=>none
   | some r=>if rightCols r.1 then some r else none:=by
   have:¬ 16<n:=by omega
   simp [takeSch,hx,this]
  rw [hT]
  refine⟨fun s w2=>∃(i at1:Nat) (cs:List Col) (ca:Option Addr) (cc:Nat),s=[.int .i64 (at1:Int),.slice ca cs.length cc,.int .u64 (i:Int)]∧i≤n∧cs.length=i∧at1≤l.length∧(∀ c∈cs,c.1.size≤9223372036854775807) ∧
    takeCols l at0 n=((takeCols l at1 (n-i)).map fun r=>(cs++r.1,r.2))∧ST w1 w2 [colsI ca cc cs],fun s _=>match s with
   | [_,_,.int _ i]=>n-i.toNat
   | _=>0,⟨0,at0,[],none,0,rfl,by omega,rfl,by omega,by simp,by simp,(ST.start w1).nil _ _⟩,?_⟩
  rintro _ ca _ cc _ w2 ⟨i,at1,cs,_,_,hst,hi,hci,hat,hq,hrel,S⟩
  cases hst
  refine IFB_dec (fun hlt=>?_) (fun hge=>?_)
  ·obtain⟨m,hm⟩:∃ m,n-i=m+1:=⟨n-i-1,by simp only at hlt;omega⟩
   rw [hm] at hrel
   have hl2:=hl.grown S.bel
   refine (wire_TakeText_any hl2 hc (by omega) (at1:Int) 24).mono ?_
   rintro _ w3 ⟨_,rfl,rfl,rfl⟩
   cases ht:takeT l (at1:Int) 24 with
   | none =>
    refine⟨_,_,_,rfl,IFB_ne (fun _=>.bad ?_ S.bel) (fun h=>by cases h)⟩
    rw [hrel]
    simp [takeCols,ht]
   | some x =>
    obtain⟨nm,k⟩:=x
    have hk:=takeT_le ht
    have hnm:=takeT_len ht
    refine⟨_,_,_,rfl,IFB_ne (fun h=>absurd rfl h) (fun _=>?_)⟩
    simp only
    rw [wrap_i64 (n:=(l.length:Int)-(k:Int)) (by omega) (by omega),wrap_succ (k:=k) (by omega)]
    refine IFB_dec (fun h2=>.bad ?_ S.bel) (fun h2=>?_)
    ·rw [hrel]
     have:l.length-k<2:=by omega
     simp [takeCols,ht,this]
    obtain⟨p,rfl,d0,d1⟩:=col_bytes hl2 (k:=k) (by omega)
    refine⟨⟨by omega,by omega⟩,_,by rw [Int.toNat_natCast];exact d1,IFB_dec (fun h3=>.bad ?_ S.bel) (fun h3=>S.draw fun w4 B4 S=>?_)⟩
    ·rw [hrel]
     have:l.length-k<2∨1<(l.getD (k+1) 0).toNat:=.inr (by omega)
     simp only [takeCols,ht,if_pos this,Option.map_none]
    have hl4:=hl2.grown B4
    obtain⟨p',hp',d0,d1⟩:=col_bytes hl4 (k:=k) (by omega)
    cases hp'
    have hby:=(l.getD k 0).toNat_lt
    refine⟨⟨by omega,by omega⟩,⟨by omega,by omega⟩,_,by rw [Int.toNat_natCast];exact d0,_,by rw [Int.toNat_natCast];exact d1,?_⟩
    rw [wrap_i64 (n:=((l.getD k 0).toNat:Int)) (by omega) (by omega),wrap_i64 (n:=(k:Int)+2) (by omega) (by omega),wrap_u64_id (n:=(i:Int)+1) (by omega) (by simp only at hlt;omega)]
    obtain⟨x,hx⟩:∃ x:Col,x=(sof nm,((l.getD k 0).toNat:Int),(l.getD (k+1) 0).toNat==1):=⟨_,rfl⟩
    refine S.newB fun b21 w5 _ _ S=>?_
    have hsrc:Rd w5 (some ⟨b21,0,none⟩) (colC x):=by
     have h:=S.rdc 0 rfl
     have e:(((l.getD (k+1) 0).toNat:Int)==1)=((l.getD (k+1) 0).toNat==1):=by rw [Bool.eq_iff_iff];simp;omega
     rw [e] at h
     rw [hx]
     exact h
    refine stAppC S 1 rfl hsrc (by simp only at hlt;omega) fun a6 c6 w6 S=>⟨_,_,_,rfl,?_⟩
    refine⟨⟨i+1,k+2,cs++[x],a6,c6,?_,by simp only at hlt;omega,by simp [hci],by omega,?_,?_,S.drop 1⟩,?_⟩
    ·simp only [List.length_append,List.length_cons,List.length_nil,List.cons.injEq,Value.int.injEq,true_and,and_true]
     constructor <;> omega
    ·intro c hc
     rcases List.mem_append.1 hc with h | h
     ·exact hq c h
     ·rw [List.mem_singleton.1 h,hx]
      show (sof nm).size≤_
      rw [size_sof]
      omega
    ·rw [hrel,show n-(i+1)=m by omega]
     have h2':¬ (l.length-k<2∨1<(l.getD (k+1) 0).toNat):=by omega
     simp only [takeCols,ht,h2',if_false,Option.map_map]
     congr 1
     funext r
     simp [hx]
    ·show n-((i:Int)+1).toNat<n-(i:Int).toNat
     simp only at hlt
     omega
  ·have:n-i=0:=by simp only at hge;omega
   rw [this] at hrel
   simp only [takeCols,Option.map_some,List.append_nil] at hrel
   rw [hrel]
   refine (schema_Right_ok (stRdC S 0 rfl) (by omega) hq).mono ?_
   rintro _ w7 ⟨_,rfl,rfl,B7⟩
   refine⟨_,rfl,IFB_not (IFB_of (fun hR=>?_) (fun hR=>.bad (by simp [hR]) (S.grown B7).bel))⟩
   simp only [hR,if_true]
   exact⟨ca,cc,rfl,S.grown B7⟩
theorem ref05_Take_ok(hl:Rd w a (l.map byteV))(hc:l.length≤c)(hs:l.length≤140737488355328)(at_:Int)(hat0:at_≤9223372036854775807) :
  Calls Tryz.prog f.ref05_Take #[.slice a l.length c,.int .i64 at_] w (Ret fun v w'=>SchTV (takeSch l at_) w w' v):=by
 apply R.ref05_Take_calls
 unfold R.ref05_Take
 refine (ref_TakeNumber_ok hl (by omega) at_ hat0).mono ?_
 rintro _ w1 ⟨_,rfl,rfl,rfl⟩
 cases hx:takeN l at_ with
 | none=>exact⟨_,_,_,rfl,IFB_ne (fun _=>.bad (by simp [takeSch,hx]) (.refl _ _)) (fun h=>by cases h)⟩
 | some x =>
  obtain⟨n,at0⟩:=x
  obtain⟨hn,_,_,hb2,_⟩:=takeN_bounds hx
  refine⟨_,_,_,rfl,IFB_ne (fun h=>absurd rfl h) (fun _=>IFB_dec (fun h=>.bad ?_ (.refl _ _)) (fun h16=>?_))⟩
  ·have:16<n:=by simp only at h;omega
   simp [takeSch,hx,this]
  have h16':n≤16:=by simp only at h16;omega
  have hT:takeSch l at_=match takeCols l at0 n with
   | none=>none
   | some r=>if rightCols r.1 then some r else none:=by
   have:¬ 16<n:=by omega
   simp [takeSch,hx,this]
  rw [hT]
  simp only
  rw [wrap_i64 (n:=(n:Int)) (by omega) (by omega)]
  refine⟨fun s w2=>∃(i at1:Nat) (cs:List Col) (ca:Option Addr) (cc:Nat),s=[.int .i64 (at1:Int),.slice ca cs.length cc,.int .i64 (i:Int)]∧i≤n∧cs.length=i∧at1≤l.length∧(∀ c∈cs,c.1.size≤9223372036854775807) ∧
    takeCols l at0 n=((takeCols l at1 (n-i)).map fun r=>(cs++r.1,r.2))∧ST w1 w2 [colsI ca cc cs],fun s _=>match s with
   | [_,_,.int _ i]=>n-i.toNat
   | _=>0,⟨0,at0,[],none,0,rfl,by omega,rfl,by omega,by simp,by simp,(ST.start w1).nil _ _⟩,?_⟩
  rintro _ ca _ cc _ w2 ⟨i,at1,cs,_,_,hst,hi,hci,hat,hq,hrel,S⟩
  cases hst
  refine IFB_dec (fun hlt=>?_) (fun hge=>?_)
  ·obtain⟨m,hm⟩:∃ m,n-i=m+1:=⟨n-i-1,by omega⟩
   rw [hm] at hrel
   have hl2:=hl.grown S.bel
   refine (ref_TakeText_ok hl2 hc (by omega) (at1:Int) (by omega) 24).mono ?_
   rintro _ w3 ⟨_,rfl,rfl,rfl⟩
   cases ht:takeT l (at1:Int) 24 with
   | none =>
    refine⟨_,_,_,rfl,IFB_ne (fun _=>.bad ?_ S.bel) (fun h=>by cases h)⟩
    rw [hrel]
    simp [takeCols,ht]
   | some x =>
    obtain⟨nm,k⟩:=x
    have hk:=takeT_le ht
    have hnm:=takeT_len ht
    refine⟨_,_,_,rfl,IFB_ne (fun h=>absurd rfl h) (fun _=>?_)⟩
    simp only
    rw [wrap_i64 (n:=(l.length:Int)-(k:Int)) (by omega) (by omega),wrap_succ (k:=k) (by omega)]
    refine IFB_dec (fun h2=>.bad ?_ S.bel) (fun h2=>?_)
    ·rw [hrel]
     have:l.length-k<2:=by omega
     simp [takeCols,ht,this]
    obtain⟨p,rfl,d0,d1⟩:=col_bytes hl2 (k:=k) (by omega)
    refine⟨⟨by omega,by omega⟩,_,by rw [Int.toNat_natCast];exact d1,IFB_dec (fun h3=>.bad ?_ S.bel) (fun h3=>S.draw fun w4 B4 S=>?_)⟩
    ·rw [hrel]
     have:l.length-k<2∨1<(l.getD (k+1) 0).toNat:=.inr (by omega)
     simp only [takeCols,ht,if_pos this,Option.map_none]
    have hl4:=hl2.grown B4
    obtain⟨p',hp',d0,d1⟩:=col_bytes hl4 (k:=k) (by omega)
    cases hp'
    have hby:=(l.getD k 0).toNat_lt
    refine⟨⟨by omega,by omega⟩,⟨by omega,by omega⟩,_,by rw [Int.toNat_natCast];exact d0,_,by rw [Int.toNat_natCast];exact d1,?_⟩
    rw [wrap_i64 (n:=((l.getD k 0).toNat:Int)) (by omega) (by omega),wrap_i64 (n:=(k:Int)+2) (by omega) (by omega),wrap_succ (k:=i) (by omega)]
    obtain⟨x,hx⟩:∃ x:Col,x=(sof nm,((l.getD k 0).toNat:Int),(l.getD (k+1) 0).toNat==1):=⟨_,rfl⟩
    refine S.newB fun b21 w5 _ _ S=>?_
    have hsrc:Rd w5 (some ⟨b21,0,none⟩) (colC x):=by
     have h:=S.rdc 0 rfl
     have e:(((l.getD (k+1) 0).toNat:Int)==1)=((l.getD (k+1) 0).toNat==1):=by rw [Bool.eq_iff_iff];simp;omega
     rw [e] at h
     rw [hx]
     exact h
    refine stAppC S 1 rfl hsrc (by omega) fun a6 c6 w6 S=>⟨_,_,_,rfl,?_⟩
    refine⟨⟨i+1,k+2,cs++[x],a6,c6,?_,by omega,by simp [hci],by omega,?_,?_,S.drop 1⟩,?_⟩
    ·simp only [List.length_append,List.length_cons,List.length_nil,List.cons.injEq,Value.int.injEq,true_and,and_true]
     omega
    ·intro c hc
     rcases List.mem_append.1 hc with h | h
     ·exact hq c h
     ·rw [List.mem_singleton.1 h,hx]
      show (sof nm).size≤_
      rw [size_sof]
      omega
    ·rw [hrel,show n-(i+1)=m by omega]
     have h2':¬ (l.length-k<2∨1<(l.getD (k+1) 0).toNat):=by omega
     simp only [takeCols,ht,h2',if_false,Option.map_map]
     congr 1
     funext r
     simp [hx]
    ·show n-((i+1:Nat):Int).toNat<n-(i:Int).toNat
     omega
  ·have:n-i=0:=by omega
   rw [this] at hrel
   simp only [takeCols,Option.map_some,List.append_nil] at hrel
   rw [hrel]
   refine (ref05_Right_ok (stRdC S 0 rfl) (by omega) hq).mono ?_
   rintro _ w7 ⟨_,rfl,rfl,rfl⟩
   refine⟨_,rfl,IFB_not (IFB_of (fun hR=>?_) (fun hR=>.bad (by simp [hR]) S.bel))⟩
   simp only [hR,if_true]
   exact⟨ca,cc,rfl,S⟩
end
end Go.Proofs.YtipgnehlihmdhaaGreatDoor
namespace Go.Proofs.YtipgnehlihmdhaaGreatDoor
set_option maxRecDepth 100000
open Go.Dn Go.Proofs
open Go.RowKit (Below)
set_option linter.unusedVariables false
/-! ### the order -/
def compI(x y:Int):Int:=if x<y then -1 else if x > y then 1 else 0
def cmpV(a b:Val):Int :=
 if compI a.1 b.1≠0 then compI a.1 b.1 else if compI a.2.1 b.2.1≠0 then compI a.2.1 b.2.1 else Lib.compareBytes (bl a.2.2) (bl b.2.2)
theorem cmp_isNaN64(w:World)(x:Int):Calls Tryz.prog f.cmp_isNaN_int64 #[.int .i64 x] w (Ret fun r w'=>r=.bool false∧w'=w):=by
 apply R.cmp_isNaN_int64_calls
 exact⟨by simp,rfl⟩
theorem cmp_Compare64(w:World)(x y:Int):Calls Tryz.prog f.cmp_Compare_int64 #[.int .i64 x,.int .i64 y] w (Ret fun r w'=>r=.int .i64 (compI x y)∧w'=w):=by
 apply R.cmp_Compare_int64_calls
 unfold R.cmp_Compare_int64
 refine (cmp_isNaN64 w x).mono ?_
 rintro _ w ⟨_,rfl,rfl,rfl⟩
 refine⟨_,rfl,(cmp_isNaN64 w y).mono ?_⟩
 rintro _ w ⟨_,rfl,rfl,rfl⟩
 refine⟨_,rfl,IFB_false (IFB_false (IFB_dec (fun h=>⟨?_,rfl⟩) (fun h=>IFB_dec (fun h2=>⟨?_,rfl⟩) (fun h2=>⟨?_,rfl⟩))))⟩
 ·simp [compI,h]
 ·simp [compI,h,h2]
 ·simp [compI,h,h2]
theorem cmp_isNaNI(w:World)(x:Int):Calls Tryz.prog f.cmp_isNaN_int #[.int .i64 x] w (Ret fun r w'=>r=.bool false∧w'=w):=by
 apply R.cmp_isNaN_int_calls
 unfold R.cmp_isNaN_int
 exact⟨by simp,rfl⟩
theorem cmpInt(x y:Int)(w:World):Calls Tryz.prog f.cmp_Compare_int #[.int .i64 x,.int .i64 y] w fun e w'=>e=.returned (.int .i64 (compI x y))∧w'=w:=by
 have h:Calls Tryz.prog f.cmp_Compare_int #[.int .i64 x,.int .i64 y] w (Ret fun r w'=>r=.int .i64 (compI x y)∧w'=w):=by
  apply R.cmp_Compare_int_calls
  unfold R.cmp_Compare_int
  refine (cmp_isNaNI w x).mono ?_
  rintro _ w ⟨_,rfl,rfl,rfl⟩
  refine⟨_,rfl,(cmp_isNaNI w y).mono ?_⟩
  rintro _ w ⟨_,rfl,rfl,rfl⟩
  refine⟨_,rfl,IFB_false (IFB_false (IFB_dec (fun h=>⟨?_,rfl⟩) (fun h=>IFB_dec (fun h2=>⟨?_,rfl⟩) (fun h2=>⟨?_,rfl⟩))))⟩
  ·simp [compI,h]
  ·simp [compI,h,h2]
  ·simp [compI,h,h2]
 refine h.mono ?_
 rintro _ _ ⟨_,rfl,rfl,rfl⟩
 exact⟨rfl,rfl⟩
theorem cmp_Or3{w:World}{b:Nat}{t:TypeId}(x y z:Int)(hb:w.heap[b]?=some (.cells #[.int .i64 x,.int .i64 y,.int .i64 z] t (0,0))) :
  Calls Tryz.prog f.cmp_Or_int #[.slice (some ⟨b,0,none⟩) 3 3] w (Ret fun r w'=>r=.int .i64 (if x≠0 then x else if y≠0 then y else z)∧w'=w):=by
 apply R.cmp_Or_int_calls
 unfold R.cmp_Or_int
 have cell:∀(k:Nat) (v:Value),[Value.int .i64 x,.int .i64 y,.int .i64 z][k]?=some v→w.cell? ((⟨b,0,none⟩:Addr).add ((k:Int).toNat*1))=some v:=by
  intro k v hv
  rw [Int.toNat_natCast,Nat.mul_one,addr_add_blk,Nat.zero_add]
  simp only [World.cell?,hb]
  simpa using hv
 refine⟨fun s w1=>w1=w∧(s=[.int .i64 ((0:Nat):Int)]∨(s=[.int .i64 ((1:Nat):Int)]∧x=0)∨(s=[.int .i64 ((2:Nat):Int)]∧x=0∧y=0)∨(s=[.int .i64 ((3:Nat):Int)]∧x=0∧y=0∧z=0)),
  fun s _=>match s with
   | [.int _ i]=>3-i.toNat
   | _=>0,⟨rfl,.inl rfl⟩,?_⟩
 rintro i w1 ⟨rfl,hs⟩
 rcases hs with hs | ⟨hs,h0⟩ | ⟨hs,h0,h1⟩ | ⟨hs,h0,h1,h2⟩
 ·cases hs
  refine IFB_true ⟨by decide,_,cell 0 _ rfl,IFB_ne (fun h=>⟨by rw [if_pos h],rfl⟩) (fun h=>?_)⟩
  rw [wrap_succ (by omega)]
  exact⟨⟨rfl,.inr (.inl ⟨rfl,h⟩)⟩,show 2<3 by decide⟩
 ·cases hs
  refine IFB_true ⟨by decide,_,cell 1 _ rfl,IFB_ne (fun h=>⟨by rw [if_neg (by omega),if_pos h],rfl⟩) (fun h=>?_)⟩
  rw [wrap_succ (by omega)]
  exact⟨⟨rfl,.inr (.inr (.inl ⟨rfl,h0,h⟩))⟩,show 1<2 by decide⟩
 ·cases hs
  refine IFB_true ⟨by decide,_,cell 2 _ rfl,IFB_ne (fun h=>⟨by rw [if_neg (by omega),if_neg (by omega)],rfl⟩) (fun h=>?_)⟩
  rw [wrap_succ (by omega)]
  exact⟨⟨rfl,.inr (.inr (.inr ⟨rfl,h0,h1,h⟩))⟩,show 0<1 by decide⟩
 ·cases hs
  exact IFB_false ⟨by rw [if_neg (by omega),if_neg (by omega),h2],rfl⟩
theorem value_Compare_ok(w:World)(a b:Val):Calls Tryz.prog f.value_Compare #[valV a,valV b] w (Ret fun r w'=>r=.int .i64 (cmpV a b)∧Below w.heap.size w w'):=by
 apply R.value_Compare_calls
 unfold R.value_Compare
 refine (SH.start (fun _=>False) w).newB fun b7 w1 hb7 B1 S1=>S1.newB fun b8 w2 hb8 B2 S2=>S2.drawB fun w3 B3 S3=>?_
 refine⟨_,S3.cell 1 rfl rfl,_,S3.cell 0 rfl rfl,_,S3.cell 1 rfl rfl,_,S3.cell 0 rfl rfl,_,S3.cell 1 rfl rfl,_,S3.cell 0 rfl rfl,(cmpInt _ _ w3).mono ?_⟩
 rintro _ w3 ⟨rfl,rfl⟩
 refine⟨_,rfl,S3.cell 0 rfl rfl,S3.cell 1 rfl rfl,S3.cell 0 rfl rfl,S3.cell 1 rfl rfl,(cmp_Compare64 w3 _ _).mono ?_⟩
 rintro _ w3 ⟨_,rfl,rfl,rfl⟩
 refine⟨_,rfl,S3.cell 0 rfl rfl,S3.cell 1 rfl rfl,(Tryz.strings_Compare _ _ w3).mono ?_⟩
 rintro _ w3 ⟨rfl,rfl⟩
 refine⟨_,rfl,S3.newB fun b21 w7 hb21 B7 S7=>(cmp_Or3 _ _ _ (S7.get 0 rfl)).mono ?_⟩
 rintro _ w7 ⟨_,rfl,rfl,rfl⟩
 exact⟨_,rfl,rfl,S7.below⟩
def lessV(a b:Val):Bool:=if a.1≠b.1 then decide (a.1<b.1) else if a.1=3 then bytesLt a.2.2 b.2.2 else decide (a.2.1<b.2.1)
theorem ref_less_ok(w:World)(a b:Val):Calls Tryz.prog f.ref04_less #[valV a,valV b] w (Ret fun r w'=>r=.bool (lessV a b)∧Below w.heap.size w w'):=by
 apply R.ref04_less_calls
 unfold R.ref04_less
 refine (SH.start (fun _=>False) w).newB fun b7 w1 hb7 B1 S1=>S1.newB fun b8 w2 hb8 B2 S2=>?_
 refine⟨_,S2.cell 1 rfl rfl,_,S2.cell 0 rfl rfl,IFB_ne (fun h=>⟨_,S2.cell 1 rfl rfl,_,S2.cell 0 rfl rfl,by simp [lessV,h],S2.below⟩) (fun h=>⟨_,S2.cell 1 rfl rfl,IFB_eq (fun h3=>⟨_,S2.cell 1 rfl rfl,_,S2.cell 0 rfl rfl,?_,S2.below⟩) (fun h3=>⟨_,S2.cell 1 rfl rfl,_,S2.cell 0 rfl rfl,?_,S2.below⟩)⟩)⟩
 ·simp only [lessV];rw [if_neg (by simp [h]),if_pos h3]
 ·simp only [lessV];rw [if_neg (by simp [h]),if_neg h3]
def rcmpV(a b:Val):Int:=if lessV a b=true then -1 else if lessV b a=true then 1 else 0
theorem ref_Compare_ok(w:World)(a b:Val):Calls Tryz.prog f.ref04_Compare #[valV a,valV b] w (Ret fun r w'=>r=.int .i64 (rcmpV a b)∧Below w.heap.size w w'):=by
 apply R.ref04_Compare_calls
 unfold R.ref04_Compare
 refine (SH.start (fun _=>False) w).newB fun b7 w1 hb7 B1 S1=>S1.newB fun b8 w2 hb8 B2 S2=>?_
 refine⟨_,S2.cell 1 rfl rfl,_,S2.cell 1 rfl rfl,_,S2.cell 1 rfl rfl,_,S2.cell 0 rfl rfl,_,S2.cell 0 rfl rfl,_,S2.cell 0 rfl rfl,(ref_less_ok w2 a b).mono ?_⟩
 rintro _ w3 ⟨_,rfl,rfl,B3⟩
 have S3:=S2.grown B3
 refine⟨_,rfl,_,S3.cell 0 rfl rfl,_,S3.cell 0 rfl rfl,_,S3.cell 0 rfl rfl,_,S3.cell 1 rfl rfl,_,S3.cell 1 rfl rfl,_,S3.cell 1 rfl rfl,(ref_less_ok w3 b a).mono ?_⟩
 rintro _ w4 ⟨_,rfl,rfl,B4⟩
 refine⟨_,rfl,IFB_of (fun h=>⟨by simp [rcmpV,h],(S3.grown B4).below⟩) (fun h=>IFB_of (fun h2=>⟨by simp [rcmpV,h,h2],(S3.grown B4).below⟩) (fun h2=>⟨by simp [rcmpV,h,h2],(S3.grown B4).below⟩))⟩
end Go.Proofs.YtipgnehlihmdhaaGreatDoor
namespace Go.Dn
end Go.Dn
namespace Go.Proofs.YtipgnehlihmdhaaGreatDoor
open Go.Dn Go.Proofs
open Go.RowKit (Below)
set_option linter.unusedVariables false
set_option maxRecDepth 20000
/-! ### orders -/
structure IsOrd{α:Type}(f:α→α→Int):Prop where
 neg:∀ x y,f y x =-f x y
 zero:∀ x y,f x y=0↔x=y
 trans:∀ x y z,f x y≤0→f y z≤0→f x z≤0
theorem IsOrd.strict{α:Type}{f:α→α→Int}(h:IsOrd f)(x y z:α)(h1:f x y<0)(h2:f y z≤0):f x z<0:=by
 have h3:=h.trans x y z (by omega) h2
 rcases Int.lt_or_eq_of_le h3 with h4 | h4
 ·exact h4
 ·have:=(h.zero x z).1 h4
  subst this
  have:=h.neg x y
  omega
theorem ord_int:IsOrd compI:=by
 refine⟨fun x y=>?_,fun x y=>?_,fun x y z=>?_⟩
 ·unfold compI
  split <;> split <;> (try split) <;> (try split) <;> omega
 ·unfold compI
  split
  ·constructor <;> intro h <;> omega
  ·split
   ·constructor <;> intro h <;> omega
   ·constructor <;> intro h <;> omega
 ·unfold compI
  intro h1 h2
  split at h1 <;> split at h2 <;> split <;> (try split at h1) <;> (try split at h2) <;> (try split) <;> omega
theorem cb_neg:∀ x y:List UInt8,Lib.compareBytes y x =-Lib.compareBytes x y
 | [],[]=>rfl
 | [],_ :: _=>rfl
 | _ :: _,[]=>rfl
 | a :: x,b :: y=>by
  simp only [Lib.compareBytes]
  by_cases h1:a<b
  ·have h2:¬ b<a:=fun h=>absurd (UInt8.lt_trans h1 h) (UInt8.lt_irrefl a)
   simp [h1,h2]
  ·by_cases h2:b<a
   ·simp [h1,h2]
   ·simp [h1,h2,cb_neg x y]
theorem u8_eq{a b:UInt8}(h1:¬ a<b)(h2:¬ b<a):a=b:=UInt8.le_antisymm (UInt8.not_lt.1 h2) (UInt8.not_lt.1 h1)
theorem cb_zero:∀ x y:List UInt8,Lib.compareBytes x y=0↔x=y
 | [],[]=>by simp [Lib.compareBytes]
 | [],_ :: _=>by simp [Lib.compareBytes]
 | _ :: _,[]=>by simp [Lib.compareBytes]
 | a :: x,b :: y=>by
  simp only [Lib.compareBytes]
  by_cases h1:a<b
  ·rw [if_pos h1]
   constructor
   ·intro h;cases h
   ·intro h;cases h;exact absurd h1 (UInt8.lt_irrefl a)
  ·rw [if_neg h1]
   by_cases h2:b<a
   ·rw [if_pos h2]
    constructor
    ·intro h;cases h
    ·intro h;cases h;exact absurd h2 (UInt8.lt_irrefl a)
   ·rw [if_neg h2,cb_zero x y,u8_eq h1 h2]
    simp
theorem cb_trans:∀ x y z:List UInt8,Lib.compareBytes x y≤0→Lib.compareBytes y z≤0→Lib.compareBytes x z≤0
 | [],_,[],_,_=>by simp [Lib.compareBytes]
 | [],_,_ :: _,_,_=>by simp [Lib.compareBytes]
 | _ :: _,[],_,h,_=>by simp [Lib.compareBytes] at h
 | _ :: _,_ :: _,[],_,h=>by simp [Lib.compareBytes] at h
 | a :: x,b :: y,c :: z,h1,h2=>by
  simp only [Lib.compareBytes] at h1 h2 ⊢
  by_cases e1:a<b
  ·by_cases e2:b<c
   ·rw [if_pos (UInt8.lt_trans e1 e2)];decide
   ·rw [if_neg e2] at h2
    by_cases e3:c<b
    ·rw [if_pos e3] at h2;omega
    ·have:=u8_eq e2 e3;subst this
     rw [if_pos e1];decide
  ·rw [if_neg e1] at h1
   by_cases e2:b<a
   ·rw [if_pos e2] at h1;omega
   ·have:=u8_eq e1 e2
    subst this
    rw [if_neg e2] at h1
    by_cases e3:a<c
    ·rw [if_pos e3];decide
    ·rw [if_neg e3] at h2 ⊢
     by_cases e4:c<a
     ·rw [if_pos e4] at h2;omega
     ·rw [if_neg e4] at h2 ⊢
      exact cb_trans x y z h1 h2
def lexF{α β:Type}(f:α→α→Int)(g:β→β→Int)(x y:α × β):Int:=if f x.1 y.1≠0 then f x.1 y.1 else g x.2 y.2
theorem IsOrd.lex{α β:Type}{f:α→α→Int}{g:β→β→Int}(hf:IsOrd f)(hg:IsOrd g):IsOrd (lexF f g):=by
 refine⟨fun x y=>?_,fun x y=>?_,fun x y z=>?_⟩
 ·have h1:=hf.neg x.1 y.1
  have h2:=hg.neg x.2 y.2
  unfold lexF
  split <;> split <;> omega
 ·have h1:=hf.zero x.1 y.1
  have h2:=hg.zero x.2 y.2
  unfold lexF
  split
  ·rename_i h
   constructor
   ·intro e;exact absurd e h
   ·intro e;rw [e] at h;exact absurd ((hf.zero _ _).2 rfl) h
  ·rename_i h
   have e1:x.1=y.1:=h1.1 (by omega)
   rw [h2]
   constructor
   ·intro e;exact Prod.ext e1 e
   ·intro e;rw [e]
 ·unfold lexF
  intro a b
  by_cases h1:f x.1 y.1=0
  ·have e1:=(hf.zero _ _).1 h1
   rw [if_neg (by omega)] at a
   rw [← e1] at b
   by_cases h2:f x.1 z.1=0
   ·rw [if_neg (by omega)] at b ⊢
    exact hg.trans _ _ _ a b
   ·rw [if_pos h2] at b ⊢
    exact b
  ·rw [if_pos h1] at a
   by_cases h2:f y.1 z.1=0
   ·have e2:=(hf.zero _ _).1 h2
    rw [← e2,if_pos h1]
    exact a
   ·rw [if_pos h2] at b
    have:=hf.strict x.1 y.1 z.1 (by omega) b
    rw [if_pos (by omega)]
    omega
def cmpT(a b:Val):Int:=lexF compI (lexF compI (fun s t=>Lib.compareBytes (bl s) (bl t))) a b
theorem cmpV_eq(a b:Val):cmpV a b=cmpT a b:=by
 simp only [cmpV,cmpT,lexF]
theorem ord_str:IsOrd (fun s t:ByteArray=>Lib.compareBytes (bl s) (bl t)) :=
 ⟨fun x y=>cb_neg _ _,fun x y=>(cb_zero _ _).trans ⟨fun h=>bl_inj h,fun h=>by rw [h]⟩,fun x y z=>cb_trans _ _ _⟩
theorem ord_val:IsOrd cmpV:=by
 have:cmpV=cmpT:=by funext a b;exact cmpV_eq a b
 rw [this]
 exact ord_int.lex (ord_int.lex ord_str)
theorem cmpV_small(a b:Val) : -1≤cmpV a b∧cmpV a b≤1:=by
 have h1:∀ x y,-1≤compI x y∧compI x y≤1:=by intro x y;unfold compI;split <;> (try split) <;> decide
 have h2:∀ x y,-1≤Lib.compareBytes x y∧Lib.compareBytes x y≤1:=by
  intro x
  induction x with
  | nil=>intro y;cases y <;> simp [Lib.compareBytes]
  | cons a x ih =>
   intro y
   cases y with
   | nil=>simp [Lib.compareBytes]
   | cons b y=>simp only [Lib.compareBytes];split;decide;split;decide;exact ih y
 unfold cmpV
 split
 ·exact h1 _ _
 ·split
  ·exact h1 _ _
  ·exact h2 _ _
theorem bytesLess_iff:∀ x y:List UInt8,Op.bytesLess x y=true↔Lib.compareBytes x y<0
 | [],[]=>by simp [Op.bytesLess,Lib.compareBytes]
 | [],_ :: _=>by simp [Op.bytesLess,Lib.compareBytes]
 | _ :: _,[]=>by simp [Op.bytesLess,Lib.compareBytes]
 | a :: x,b :: y=>by
  simp only [Op.bytesLess,Lib.compareBytes,Bool.or_eq_true,decide_eq_true_eq,Bool.and_eq_true,beq_iff_eq,bytesLess_iff x y]
  by_cases h1:a<b
  ·simp [h1]
  ·by_cases h2:b<a
   ·have:a≠b:=fun e=>by subst e;exact UInt8.lt_irrefl a h2
    simp [h1,h2,this]
   ·have:=u8_eq h1 h2
    simp [this]
theorem bytesLt_iff(s t:ByteArray):bytesLt s t=true↔Lib.compareBytes (bl s) (bl t)<0:=by
 unfold bytesLt
 rw [ByteArray.toList_eq,ByteArray.toList_eq]
 exact bytesLess_iff _ _
theorem right_empty{v:Val}(h:rightB v=true)(h3:¬ v.1=3):v.2.2=E0:=by
 unfold rightB at h
 split at h
 ·simp at h;exact h.2
 ·split at h
  ·simpa using h
  ·split at h
   ·simp at h;exact h.2
   ·cases h
theorem cmp_ref{a b:Val}(ha:rightB a=true)(hb:rightB b=true):cmpV a b=rcmpV a b:=by
 have hs:=cmpV_small a b
 have hneg:=ord_val.neg a b
 have key:∀ x y:Val,rightB x=true→rightB y=true→(lessV x y=true↔cmpV x y<0):=by
  intro x y hx hy
  by_cases h1:x.1=y.1
  ·have e0:compI x.1 y.1=0:=(ord_int.zero _ _).2 h1
   have c0:cmpV x y=if compI x.2.1 y.2.1≠0 then compI x.2.1 y.2.1 else Lib.compareBytes (bl x.2.2) (bl y.2.2):=by unfold cmpV;rw [if_neg (by omega)]
   have l0:lessV x y=if x.1=3 then bytesLt x.2.2 y.2.2 else decide (x.2.1<y.2.1):=by unfold lessV;rw [if_neg (by omega)]
   rw [c0,l0]
   by_cases h3:x.1=3
   ·have h3':y.1=3:=h1 ▸ h3
    rw [if_pos h3]
    unfold rightB at hx hy
    simp [h3] at hx
    simp [h3'] at hy
    have e1:compI x.2.1 y.2.1=0:=(ord_int.zero _ _).2 (by rw [hx.1,hy.1])
    rw [if_neg (by omega)]
    exact bytesLt_iff _ _
   ·rw [if_neg h3]
    have e2:x.2.2=E0∧y.2.2=E0:=⟨right_empty hx h3,right_empty hy (h1 ▸ h3)⟩
    rw [e2.1,e2.2]
    have e3:Lib.compareBytes (bl E0) (bl E0)=0:=rfl
    rw [e3]
    unfold compI
    split
    ·simp;omega
    ·split
     ·simp;omega
     ·simp;omega
  ·have e0:compI x.1 y.1≠0:=fun h=>h1 ((ord_int.zero _ _).1 h)
   have c0:cmpV x y=compI x.1 y.1:=by unfold cmpV;rw [if_pos e0]
   have l0:lessV x y=decide (x.1<y.1):=by unfold lessV;rw [if_pos h1]
   rw [c0,l0]
   unfold compI at *
   split
   ·simp;omega
   ·split
    ·simp;omega
    ·rename_i n1 n2;omega
 unfold rcmpV
 by_cases h1:lessV a b=true
 ·rw [if_pos h1]
  have:=(key a b ha hb).1 h1
  omega
 ·rw [if_neg h1]
  have n1:¬ cmpV a b<0:=fun h=>h1 ((key a b ha hb).2 h)
  by_cases h2:lessV b a=true
  ·rw [if_pos h2]
   have:=(key b a hb ha).1 h2
   omega
  ·rw [if_neg h2]
   have n2:¬ cmpV b a<0:=fun h=>h2 ((key b a hb ha).2 h)
   omega
/-! ### the laws -/
end Go.Proofs.YtipgnehlihmdhaaGreatDoor
namespace Go.Dn
open Go.RowKit (Below)
section
variable {F:Nat→Prop}{w0 w:World}{H:List Ent}
theorem SH.chg(S:SH F w0 w H)(n:Nat){b:Nat}{cs cs':Array Value}{t:TypeId}(hn:H[n]?=some (b,cs,t)){i:Nat}{v:Value}{k:World→Prop}(hi:i<cs.size)(hc:cs.setIfInBounds i v=cs')
  (hk:∀ w',Keeps (·=b) w w'→SH F w0 w' (H.set n (b,cs',t))→k w'):STO ⟨b,i,none⟩ v k w:=by
 subst hc
 exact S.stoK n hn hi hk
theorem SH.sto7(S:SH F w0 w H)(n:Nat){b:Nat}{x0 x1 x2 x3 x4 x5 x6 v0 v1 v2 v3 v4 v5 v6:Value}{t:TypeId}(hn:H[n]?=some (b,#[x0,x1,x2,x3,x4,x5,x6],t)){k:World→Prop}
  (hk:∀ w',Keeps (·=b) w w'→SH F w0 w' (H.set n (b,#[v0,v1,v2,v3,v4,v5,v6],t))→k w') :
  STO ⟨b,0,none⟩ v0 (fun w=>STO ⟨b,1,none⟩ v1 (fun w=>STO ⟨b,2,none⟩ v2 (fun w=>STO ⟨b,3,none⟩ v3 (fun w=>STO ⟨b,4,none⟩ v4 (fun w=>STO ⟨b,5,none⟩ v5 (fun w=>STO ⟨b,6,none⟩ v6 k w) w) w) w) w) w) w:=by
 have hlt:=(List.getElem?_eq_some_iff.1 hn).1
 have tr:∀ {a c d:World},Keeps (·=b) a c→Keeps (·=b) c d→Keeps (·=b) a d:=fun h h'=>h.trans h' (fun _ _ h=>h)
 refine S.chg n hn (cs':=#[v0,x1,x2,x3,x4,x5,x6]) (by simp) rfl fun w1 K1 S1=>?_
 refine S1.chg n (List.getElem?_set_self hlt) (cs':=#[v0,v1,x2,x3,x4,x5,x6]) (by simp) rfl fun w2 K2 S2=>?_
 rw [List.set_set] at S2
 refine S2.chg n (List.getElem?_set_self hlt) (cs':=#[v0,v1,v2,x3,x4,x5,x6]) (by simp) rfl fun w3 K3 S3=>?_
 rw [List.set_set] at S3
 refine S3.chg n (List.getElem?_set_self hlt) (cs':=#[v0,v1,v2,v3,x4,x5,x6]) (by simp) rfl fun w4 K4 S4=>?_
 rw [List.set_set] at S4
 refine S4.chg n (List.getElem?_set_self hlt) (cs':=#[v0,v1,v2,v3,v4,x5,x6]) (by simp) rfl fun w5 K5 S5=>?_
 rw [List.set_set] at S5
 refine S5.chg n (List.getElem?_set_self hlt) (cs':=#[v0,v1,v2,v3,v4,v5,x6]) (by simp) rfl fun w6 K6 S6=>?_
 rw [List.set_set] at S6
 refine S6.chg n (List.getElem?_set_self hlt) (cs':=#[v0,v1,v2,v3,v4,v5,v6]) (by simp) rfl fun w7 K7 S7=>?_
 rw [List.set_set] at S7
 exact hk w7 (tr (tr (tr (tr (tr (tr K1 K2) K3) K4) K5) K6) K7) S7
theorem SH.stoMin(S:SH F w0 w H)(n:Nat){b:Nat}{x0 x1 x2 x3 x4 x5 x6 v1 v2 v3:Value}{t:TypeId}(hn:H[n]?=some (b,#[x0,x1,x2,x3,x4,x5,x6],t)){k:World→Prop}
  (hk:∀ w',Keeps (·=b) w w'→SH F w0 w' (H.set n (b,#[x0,v1,v2,v3,x4,x5,x6],t))→k w'):STO ⟨b,1,none⟩ v1 (fun w=>STO ⟨b,2,none⟩ v2 (fun w=>STO ⟨b,3,none⟩ v3 k w) w) w:=by
 have hlt:=(List.getElem?_eq_some_iff.1 hn).1
 have tr:∀ {a c d:World},Keeps (·=b) a c→Keeps (·=b) c d→Keeps (·=b) a d:=fun h h'=>h.trans h' (fun _ _ h=>h)
 refine S.chg n hn (cs':=#[x0,v1,x2,x3,x4,x5,x6]) (by simp) rfl fun w1 K1 S1=>?_
 refine S1.chg n (List.getElem?_set_self hlt) (cs':=#[x0,v1,v2,x3,x4,x5,x6]) (by simp) rfl fun w2 K2 S2=>?_
 rw [List.set_set] at S2
 refine S2.chg n (List.getElem?_set_self hlt) (cs':=#[x0,v1,v2,v3,x4,x5,x6]) (by simp) rfl fun w3 K3 S3=>?_
 rw [List.set_set] at S3
 exact hk w3 (tr (tr K1 K2) K3) S3
theorem SH.stoMax(S:SH F w0 w H)(n:Nat){b:Nat}{x0 x1 x2 x3 x4 x5 x6 v4 v5 v6:Value}{t:TypeId}(hn:H[n]?=some (b,#[x0,x1,x2,x3,x4,x5,x6],t)){k:World→Prop}
  (hk:∀ w',Keeps (·=b) w w'→SH F w0 w' (H.set n (b,#[x0,x1,x2,x3,v4,v5,v6],t))→k w'):STO ⟨b,4,none⟩ v4 (fun w=>STO ⟨b,5,none⟩ v5 (fun w=>STO ⟨b,6,none⟩ v6 k w) w) w:=by
 have hlt:=(List.getElem?_eq_some_iff.1 hn).1
 have tr:∀ {a c d:World},Keeps (·=b) a c→Keeps (·=b) c d→Keeps (·=b) a d:=fun h h'=>h.trans h' (fun _ _ h=>h)
 refine S.chg n hn (cs':=#[x0,x1,x2,x3,v4,x5,x6]) (by simp) rfl fun w1 K1 S1=>?_
 refine S1.chg n (List.getElem?_set_self hlt) (cs':=#[x0,x1,x2,x3,v4,v5,x6]) (by simp) rfl fun w2 K2 S2=>?_
 rw [List.set_set] at S2
 refine S2.chg n (List.getElem?_set_self hlt) (cs':=#[x0,x1,x2,x3,v4,v5,v6]) (by simp) rfl fun w3 K3 S3=>?_
 rw [List.set_set] at S3
 exact hk w3 (tr (tr K1 K2) K3) S3
end
end Go.Dn
namespace Go.Proofs.YtipgnehlihmdhaaGreatDoor
open Go.Dn Go.Proofs
open Go.RowKit (Below)
set_option linter.unusedVariables false
set_option maxRecDepth 20000
abbrev Z0:Val:=(0,0,E0)
def zstep(z:Option (Val × Val))(v:Val):Option (Val × Val) :=
 if v.1=0 then z else match z with
 | none=>some (v,v)
 | some p=>some (if cmpV v p.1<0 then v else p.1,if 0<cmpV v p.2 then v else p.2)
def zoneS(ls:List Val):Option (Val × Val):=ls.foldl zstep none
def zmm(ls:List Val):Val × Val:=(zoneS ls).getD (Z0,Z0)
def zC(n:Int)(p:Val × Val):Array Value:=#[.int .i64 n,.int .i64 p.1.1,.int .i64 p.1.2.1,.string p.1.2.2,.int .i64 p.2.1,.int .i64 p.2.2.1,.string p.2.2.2]
def zV(n:Int)(p:Val × Val)(e:Int):Value:=.tuple #[.agg (zC n p),.int .i64 e]
theorem zoneS_take{ls:List Val}{i:Nat}(hi:i<ls.length):zoneS (ls.take (i+1))=zstep (zoneS (ls.take i)) ls[i]:=by
 unfold zoneS
 rw [List.take_succ_eq_append_getElem hi,List.foldl_append]
 rfl
theorem zone_none{ls:List Val}:∀ i,i≤ls.length→((zoneS (ls.take i)).isNone=true↔(fullL (ls.take i)).length=0)
 | 0,_=>by simp [zoneS,fullL]
 | i+1,h=>by
  have ih:=zone_none (ls:=ls) i (by omega)
  have hi:i<ls.length:=by omega
  rw [zoneS_take hi,fullL_take hi]
  unfold zstep
  by_cases h0:ls[i].1=0
  ·rw [if_pos h0,if_pos h0,List.append_nil]
   exact ih
  ·rw [if_neg h0,if_neg h0]
   cases zoneS (ls.take i) <;> simp
theorem zmm_step{ls:List Val}{i:Nat}(hi:i<ls.length)(h0:ls[i].1≠0):zmm (ls.take (i+1))=(if (fullL (ls.take i)).length=0∨cmpV ls[i] (zmm (ls.take i)).1<0 then ls[i] else (zmm (ls.take i)).1,if (fullL (ls.take i)).length=0∨0<cmpV ls[i] (zmm (ls.take i)).2 then ls[i] else (zmm (ls.take i)).2):=by
 have hn:=zone_none (ls:=ls) i (by omega)
 unfold zmm
 rw [zoneS_take hi]
 unfold zstep
 rw [if_neg h0]
 cases hz:zoneS (ls.take i) with
 | none =>
  rw [hz] at hn
  have:(fullL (ls.take i)).length=0:=hn.1 rfl
  simp [this]
 | some p =>
  rw [hz] at hn
  have:¬ (fullL (ls.take i)).length=0:=fun h=>by simpa using hn.2 h
  simp [this]
theorem zmm_skip{ls:List Val}{i:Nat}(hi:i<ls.length)(h0:ls[i].1=0):zmm (ls.take (i+1))=zmm (ls.take i):=by
 unfold zmm
 rw [zoneS_take hi]
 unfold zstep
 rw [if_pos h0]
theorem nulls_full(ls:List Val):nullsN ls+(fullL ls).length=ls.length:=by
 induction ls with
 | nil=>rfl
 | cons v ls ih =>
  unfold nullsN fullL at ih ⊢
  by_cases h:v.1=0
  ·simp [h];omega
  ·simp [h];omega
def zoneOk(ls:List Val):Prop:=ls.length≤1024∧∀ v∈ls,rightB v=true
def ZoneV(ls:List Val)(r:Value):Prop:=(zoneOk ls∧r=zV (nullsN ls:Int) (zmm ls) 0)∨(¬ zoneOk ls∧r=zV 0 (Z0,Z0) 2)
section
variable {w:World}{a:Option Addr}{c:Nat}{ls:List Val}
theorem zone_bad{H:List Ent}{wx:World}{b2 n:Nat}{x:Int}{p:Val × Val}(S:SH (fun _=>False) w wx H)(hn:H[n]?=some (b2,zC x p,ty.api_Zone))(hno:¬ zoneOk ls) :
  STO ⟨b2,0,none⟩ (.int .i64 0) (fun w2=>STO ⟨b2,1,none⟩ (.int .i64 0) (fun w3=>STO ⟨b2,2,none⟩ (.int .i64 0) (fun w4=>STO ⟨b2,3,none⟩ (.string ⟨#[]⟩) (fun w5=>STO ⟨b2,4,none⟩ (.int .i64 0) (fun w6=>STO ⟨b2,5,none⟩ (.int .i64 0) (fun w7=>STO ⟨b2,6,none⟩ (.string ⟨#[]⟩) (fun w8 =>
   ∃ r0:Int,w8.cell? ⟨b2,0,none⟩=some (.int .i64 r0)∧∃ r1:Int,w8.cell? ⟨b2,1,none⟩=some (.int .i64 r1)∧∃ r2:Int,w8.cell? ⟨b2,2,none⟩=some (.int .i64 r2)∧∃ r3:ByteArray,w8.cell? ⟨b2,3,none⟩=some (.string r3)∧∃ r4:Int,w8.cell? ⟨b2,4,none⟩=some (.int .i64 r4)∧∃ r5:Int,w8.cell? ⟨b2,5,none⟩=some (.int .i64 r5)∧∃ r6:ByteArray,w8.cell? ⟨b2,6,none⟩=some (.string r6) ∧
   (fun v w'=>ZoneV ls v∧Below w.heap.size w w') (.tuple #[.agg #[.int .i64 r0,.int .i64 r1,.int .i64 r2,.string r3,.int .i64 r4,.int .i64 r5,.string r6],.int .i64 2]) w8) w7) w6) w5) w4) w3) w2) wx:=by
 have hlt:=(List.getElem?_eq_some_iff.1 hn).1
 refine S.sto7 n hn fun w8 K8 S8=>?_
 have hn8:=List.getElem?_set_self (l:=H) (a:=(b2,(#[Value.int .i64 0,.int .i64 0,.int .i64 0,.string ⟨#[]⟩,.int .i64 0,.int .i64 0,.string ⟨#[]⟩]:Array Value),ty.api_Zone)) hlt
 exact⟨_,S8.cell n hn8 rfl,_,S8.cell n hn8 rfl,_,S8.cell n hn8 rfl,_,S8.cell n hn8 rfl,_,S8.cell n hn8 rfl,_,S8.cell n hn8 rfl,_,S8.cell n hn8 rfl,.inr ⟨hno,rfl⟩,S8.below⟩
end
end Go.Proofs.YtipgnehlihmdhaaGreatDoor
