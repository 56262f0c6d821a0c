/-
  Texts of this claim, laid one behind the other by a program of mine (install.py): S.Hash8, S.Hash9, S.Hash10, S.Hash11, S.Sch1, S.Shelf, S.Sch2, S.Sch3, S.Sch4, S.Sch5, Dn.Open, S.Val, S.ValB, S.Len, S.Width, S.Pack, S.Pack2, S.Pack3, S.Iter, Dn.Maps, S.Rise, S.ValA, S.Bits, S.Sig, S.IntsL, S.Sig2, S.Laid, S.Enc.
-/
import Derived.Test.YtipgnehlihmdhaaGreatDoorM2
import Derived.Shelf.Small.Strs
import Derived.Shelf.Strings.Search1
import Derived.Shelf.Strings.AsciiSet
import Derived.Test.YtipgnehlihmdhaaGreatDoorProg
import Derived.ChangeArms
import Derived.Deep.Slices
import Derived.OpenShut
import Derived.Shelf.SlIter.Nil
import Derived.Shelf.SortM.Plain
import Derived.Shelf.SortM.SortNone
import Derived.Ground.GgzProg
import Derived.Ground.SlgmProg
import Derived.Maps.Own
import Derived.Maps.Views
import Derived.Sort.KeysCollected
namespace Go.Proofs.YtipgnehlihmdhaaGreatDoor
set_option maxRecDepth 100000
open Go.Dn Go.Proofs
open Go.RowKit (Below)
set_option linter.unusedVariables false
theorem _root_.Go.Dn.SH.adopt{F:Nat→Prop}{w0 w:World}{H:List Ent}(S:SH F w0 w H){w':World}(B:Below w.heap.size w w'){b:Nat}{cs:Array Value}{t:TypeId}(hb:w.heap.size≤b)(hc:w'.heap[b]?=some (.cells cs t (0,0))) :
  SH F w0 w' ((b,cs,t) :: H) where
 keeps:=(S.grown B).keeps
 mem:=by
  intro x hx
  rcases List.mem_cons.1 hx with rfl | hx
  ·exact hc
  ·exact (S.grown B).mem x hx
 nodup:=by
  rw [List.map_cons,List.nodup_cons]
  refine⟨fun hm=>?_,S.nodup⟩
  obtain⟨x,hx,he⟩:=List.mem_map.1 hm
  have h1:=S.lt hx
  have h2:x.1=b:=he
  omega
 own:=by
  intro x hx
  rcases List.mem_cons.1 hx with rfl | hx
  ·exact .inr (Nat.le_trans S.keeps.size hb)
  ·exact S.own x hx
theorem PTR_in{a:Addr}{k:Addr→Prop}(h:k a):PTR (some a) k:=h
theorem Words_new(w:World):Calls Tryz.prog f.ref03_Words #[] w (Ret fun v w'=>∃ b,v=.slice (some ⟨b,0,none⟩) 8 8∧w.heap.size≤b∧w'.heap[b]?=some (.cells ⟨firstL.map wV⟩ 108 (0,0))∧Below w.heap.size w w'):=by
 apply R.ref03_Words_calls
 unfold R.ref03_Words
 refine (SH.start (fun _=>False) w).newB fun b1 w1 hb B S=>⟨b1,rfl,hb,?_,B⟩
 exact S.get 0 rfl
theorem heldAt_of{w:World}{b:Nat}{cs:List Value}(h:Rd w (some ⟨b,0,none⟩) cs):holds (heldAt ⟨b,0,none⟩ cs 0) w:=by
 refine (heldAt_holds _ w cs 0).2 fun j v hj=>?_
 obtain⟨p,hp,hc⟩:=h j v hj
 cases hp
 rw [Nat.zero_add]
 exact hc
set_option maxHeartbeats 1000000 in
theorem block_ok{w:World}(h:List Wd)(hh:h.length=8){a:Option Addr}{c:Nat}(blk:List UInt8)(hb:blk.length=64)(hr:Rd w a (blk.map byteV))(n:Nat)(hn:n<18446744073709551616)(last:Bool) :
  Calls Tryz.prog f.ref03_block #[.agg ⟨h.map wV⟩,.slice a 64 c,.int .u64 (n:Int),.bool last] w (Ret fun r w'=>r=.agg ⟨(nextP h blk n last).map wV⟩∧Below w.heap.size w w'):=by
 obtain⟨p,rfl,_⟩:=hr 0 (byteV (blk.getD 0 0)) (by simp [hb])
 apply R.ref03_block_calls
 unfold R.ref03_block
 refine (SH.start (fun _=>False) w).newB fun b5 w1 _ _ S=>S.newB fun b6 w2 _ _ S=>(Words_new w2).mono ?_
 rintro _ w3 ⟨_,rfl,bw,rfl,hbw,hcw,B3⟩
 replace S:=S.adopt B3 hbw hcw
 refine⟨_,_,_,rfl,S.newB fun b9 w4 _ _ S=>?_⟩
 refine⟨fun st w'=>∃ i:Nat,st=[.int .i64 (i:Int)]∧i≤64∧SH (fun _=>False) w w' [(b9,⟨(mA blk i).map wV⟩,158),(bw,⟨firstL.map wV⟩,108),(b6,⟨List.replicate 8 (.int .u32 0)⟩,118),(b5,⟨h.map wV⟩,118)],
  fun st _=>match st with | [.int _ t]=>(64-t).toNat | _=>0,⟨0,rfl,by omega,S⟩,?_⟩
 rintro t w5 ⟨i,hst,hi,S⟩
 cases int1 hst
 have hml:=mA_len blk i
 refine IFB_dec (fun hlt=>?_) (fun hge=>?_)
 ·have hi64:i<64:=by omega
  refine S.draw fun w6 S=>?_
  rw [tdiv4 i hi64,tmod4 i hi64]
  have hby:w6.cell? (p.add ((i:Int).toNat*1))=some (.int .u8 (uI (blk.getD i 0))):=by
   obtain⟨q,hq,hc⟩:=(hr.grown S.below) i (byteV (blk.getD i 0)) (by simp [hb,hi64])
   cases hq
   rw [Int.toNat_natCast,Nat.mul_one]
   exact hc
  refine⟨⟨by omega,by omega⟩,⟨by omega,by omega⟩,PTR_in ⟨_,S.wd 0 rfl (by omega) (Int.toNat_natCast _),_,hby,by omega,⟨by omega,by omega⟩,?_⟩⟩
  have e3:IntKind.u32.wrap ((((mA blk i).getD (i / 4) 0).toNat:Int)+(IntKind.u32.wrap ((IntKind.u32.wrap (uI (blk.getD i 0)))*2 ^ (min ((((8*(i % 4):Nat):Int)).toNat) 32))))
    = (((mA blk i).getD (i / 4) 0+(byW (blk.getD i 0) <<< (8*(i % 4)))).toNat:Int):=by
   have e4:IntKind.u32.wrap (((byW (blk.getD i 0)).toNat:Int)*2 ^ (8*(i % 4)))=((byW (blk.getD i 0) <<< (8*(i % 4))).toNat:Int):=by
    rw [← shl32,ofInt_wrap32,wrap_u32,BitVec.toNat_ofInt]
    omega
   rw [Int.toNat_natCast,Nat.min_eq_left (by omega),uI,hbyte32,e4,add32]
  rw [e3]
  refine S.wdsto 0 rfl (by omega) (Int.toNat_natCast _) fun w8 S=>?_
  rw [wrap_succ (by omega)]
  exact⟨⟨i+1,rfl,by omega,S⟩,by show (64-((i+1:Nat):Int)).toNat<(64-(i:Int)).toNat;omega⟩
 ·have hi64:i=64:=by omega
  refine S.newB fun b15 w8 _ _ S=>?_
  refine⟨fun st w'=>∃ j:Nat,st=[.int .i64 (j:Int)]∧j≤8∧SH (fun _=>False) w w' [(b15,⟨(vR h j).map wV⟩,158),(b9,⟨(mA blk i).map wV⟩,158),(bw,⟨firstL.map wV⟩,108),(b6,⟨List.replicate 8 (.int .u32 0)⟩,118),(b5,⟨h.map wV⟩,118)],
   fun st _=>match st with | [.int _ t]=>(8-t).toNat | _=>0,⟨0,rfl,by omega,S⟩,?_⟩
  rintro t w9 ⟨j,hst,hj,S⟩
  cases int1 hst
  have hvl:=vR_len h j
  refine IFB_dec (fun hlt=>⟨⟨by omega,hlt⟩,?_⟩) (fun hge=>?_)
  ·have hj8:j<8:=by omega
   have hfl:firstL.length=8:=rfl
   have e8:IntKind.i64.wrap (8+(j:Int))=((8+j:Nat):Int):=by rw [wrap_i64 (by omega) (by omega)];omega
   rw [e8]
   refine⟨_,S.wd 4 rfl (by omega) (Int.toNat_natCast _),⟨by omega,by omega⟩,S.wdsto 0 rfl (by omega) (Int.toNat_natCast _) fun w10 S=>?_⟩
   refine⟨⟨by omega,by omega⟩,PTR_in ⟨_,S.wd 2 rfl (by omega) (Int.toNat_natCast _),⟨by omega,by omega⟩,S.wdsto 0 rfl (by simp only [List.length_set];omega) (Int.toNat_natCast _) fun w11 S=>?_⟩⟩
   rw [wrap_succ (by omega)]
   exact⟨⟨j+1,rfl,by omega,S⟩,by show (8-((j+1:Nat):Int)).toNat<(8-(j:Int)).toNat;omega⟩
  ·have hj8:j=8:=by omega
   have en1:∀ x:Wd,IntKind.u32.wrap (((BitVec.ofInt 32 (x.toNat:Int) ^^^ BitVec.ofInt 32 (IntKind.u32.wrap (Int.tmod (n:Int) 4294967296))).toNat:Int))=((x ^^^ BitVec.ofNat 32 n).toNat:Int):=by
    intro x
    have:BitVec.ofInt 32 (Int.tmod (n:Int) 4294967296)=BitVec.ofNat 32 n:=by
     rw [Int.tmod_eq_emod_of_nonneg (by omega)]
     apply BitVec.eq_of_toNat_eq
     rw [BitVec.toNat_ofInt,BitVec.toNat_ofNat]
     omega
    rw [ofInt_wrap32,this,ofInt_nat,wrap32_nat]
   have en2:∀ x:Wd,IntKind.u32.wrap (((BitVec.ofInt 32 (x.toNat:Int) ^^^ BitVec.ofInt 32 (IntKind.u32.wrap (IntKind.u64.wrap (Int.tdiv (n:Int) 4294967296)))).toNat:Int))=((x ^^^ BitVec.ofNat 32 (n / 4294967296)).toNat:Int):=by
    intro x
    have:IntKind.u64.wrap (Int.tdiv (n:Int) 4294967296)=((n / 4294967296:Nat):Int):=by
     rw [Int.tdiv_eq_ediv_of_nonneg (by omega),wrap_u64_id (by omega) (by omega)]
     omega
    rw [this,ofInt_wrap32,ofInt_nat,wrap32_nat,BitVec.ofInt_natCast]
   have en3:∀ x:Wd,IntKind.u32.wrap (((BitVec.ofInt 32 (x.toNat:Int) ^^^ BitVec.ofInt 32 4294967295).toNat:Int))=((4294967295 ^^^ x).toNat:Int):=by
    intro x
    rw [ofInt_nat,wrap32_nat,BitVec.xor_comm]
    rfl
   refine⟨_,S.wd' 0 rfl (by omega),?_⟩
   rw [en1]
   refine S.wdsto' 0 rfl (by omega) fun w13 S=>⟨_,S.wd' 0 rfl (by simp only [List.length_set];omega),?_⟩
   rw [en2]
   refine S.wdsto' 0 rfl (by simp only [List.length_set];omega) fun w14 S=>?_
   have hvn:(vN (vR h j) n last).length=16:=by rw [vN_len];exact hvl
   refine⟨fun _ w'=>SH (fun _=>False) w w' [(b15,⟨(vN (vR h j) n last).map wV⟩,158),(b9,⟨(mA blk i).map wV⟩,158),(bw,⟨firstL.map wV⟩,108),(b6,⟨List.replicate 8 (.int .u32 0)⟩,118),(b5,⟨h.map wV⟩,118)],?_,?_⟩
   ·refine IFB_of (fun hl=>?_) (fun hl=>?_)
    ·subst hl
     refine⟨_,S.wd' 0 rfl (by simp only [List.length_set];omega),?_⟩
     rw [en3]
     exact S.wdsto' 0 rfl (by simp only [List.length_set];omega) fun w15 S=>S
    ·subst hl
     exact S
   ·intro w15 S
    generalize hV0:vN (vR h j) n last=V0 at *
    generalize hm0:mA blk i=m0 at *
    refine⟨fun st w'=>∃ r:Nat,st=[.int .i64 (r:Int)]∧r≤10∧SH (fun _=>False) w w' [(b15,⟨(outerP m0 V0 r).map wV⟩,158),(b9,⟨m0.map wV⟩,158),(bw,⟨firstL.map wV⟩,108),(b6,⟨List.replicate 8 (.int .u32 0)⟩,118),(b5,⟨h.map wV⟩,118)],
     fun st _=>match st with | [.int _ t]=>(10-t).toNat | _=>0,⟨0,rfl,by omega,S⟩,?_⟩
    rintro t w16 ⟨r,hst,hr10,S⟩
    cases int1 hst
    have hol:=(outerP_len m0 V0 r).trans hvn
    refine IFB_dec (fun hlt=>?_) (fun hge=>?_)
    ·have hr1:r<10:=by omega
     refine (Order_ok r hr1 w16).mono ?_
     rintro _ w17 ⟨_,rfl,rfl,B17⟩
     replace S:=S.grown B17
     refine⟨_,rfl,fun st w'=>∃ q:Nat,st=[.int .i64 (q:Int)]∧q≤8∧SH (fun _=>False) w w' [(b15,⟨(innerP m0 r (outerP m0 V0 r) q).map wV⟩,158),(b9,⟨m0.map wV⟩,158),(bw,⟨firstL.map wV⟩,108),(b6,⟨List.replicate 8 (.int .u32 0)⟩,118),(b5,⟨h.map wV⟩,118)],
      fun st _=>match st with | [.int _ t]=>(8-t).toNat | _=>0,⟨0,rfl,by omega,S⟩,?_⟩
     rintro t w18 ⟨q,hst,hq,S⟩
     cases int1 hst
     have hil:=(innerP_len m0 r (outerP m0 V0 r) q).trans hol
     refine IFB_dec (fun hlt2=>S.draw fun w19 S=>?_) (fun hge2=>?_)
     ·have hq8:q<8:=by omega
      have e2:IntKind.i64.wrap (2*(q:Int))=((2*q:Nat):Int):=by rw [wrap_i64 (by omega) (by omega)];omega
      have e3:IntKind.i64.wrap (((2*q:Nat):Int)+1)=((2*q+1:Nat):Int):=wrap_succ (by omega)
      have o0:=ord_lt r hr1 (2*q) (by omega)
      have o1:=ord_lt r hr1 (2*q+1) (by omega)
      rw [e2,e3,Int.toNat_natCast,Int.toNat_natCast,ordS_let r hr1 (2*q) (by omega),ordS_let r hr1 (2*q+1) (by omega),ordS_size r hr1]
      refine⟨⟨by omega,by omega⟩,⟨by omega,by omega⟩,⟨by omega,by omega⟩,⟨by omega,by omega⟩,LOADC_wd _ hil (Rd.of_block0 (S.get 0 rfl)) ?_⟩
      refine⟨_,S.wd 1 rfl (by omega) (Int.toNat_natCast _),_,S.wd 1 rfl (by omega) (Int.toNat_natCast _),(Places_ok q hq8 w19).mono ?_⟩
      rintro _ w20 ⟨_,rfl,rfl,B20⟩
      replace S:=S.grown B20
      refine⟨_,rfl,S.wd 1 rfl (by omega) (Int.toNat_natCast _),S.wd 1 rfl (by omega) (Int.toNat_natCast _),heldAt_of (Rd.of_block0 (S.get 0 rfl)),?_⟩
      refine (mixed_ok _ hil (plcS q) (plcS_size q hq8) (plc q 0) (plc q 1) (plc q 2) (plc q 3) (plcS_let q hq8 0 (by omega)) (plcS_let q hq8 1 (by omega)) (plcS_let q hq8 2 (by omega)) (plcS_let q hq8 3 (by omega))
       (plc_lt q hq8 0 (by omega)) (plc_lt q hq8 1 (by omega)) (plc_lt q hq8 2 (by omega)) (plc_lt q hq8 3 (by omega)) _ _ w20).mono ?_
      rintro _ w21 ⟨_,rfl,rfl,B21⟩
      replace S:=S.grown B21
      have hx:=mix_step m0 r q (innerP m0 r (outerP m0 V0 r) q) hil hq8
      rw [hx]
      have hsl:(stepP m0 r q (innerP m0 r (outerP m0 V0 r) q)).length=16:=(innerP_len m0 r (outerP m0 V0 r) (q+1)).trans hol
      have hs2:((stepP m0 r q (innerP m0 r (outerP m0 V0 r) q)).map wV).length=16:=by rw [List.length_map];exact hsl
      refine LIKEL_wd _ hsl ⟨rfl,BIF_len hs2 (S.stoAll 0 rfl (by rw [hs2];simp [hil]) (wd_one _) fun w22 _ S=>?_)⟩
      rw [wrap_succ (by omega)]
      exact⟨⟨q+1,rfl,by omega,S⟩,by show (8-((q+1:Nat):Int)).toNat<(8-(q:Int)).toNat;omega⟩
     ·have hq8:q=8:=by omega
      subst hq8
      rw [wrap_succ (by omega)]
      exact⟨⟨r+1,rfl,by omega,S⟩,by show (10-((r+1:Nat):Int)).toNat<(10-(r:Int)).toNat;omega⟩
    ·have hr1:r=10:=by omega
     generalize hV:outerP m0 V0 r=V at *
     refine⟨fun st w'=>∃ q:Nat,st=[.int .i64 (q:Int)]∧q≤8∧SH (fun _=>False) w w' [(b15,⟨V.map wV⟩,158),(b9,⟨m0.map wV⟩,158),(bw,⟨firstL.map wV⟩,108),(b6,⟨List.replicate 8 (.int .u32 0)⟩,118),(b5,⟨(hF h V q).map wV⟩,118)],
      fun st _=>match st with | [.int _ t]=>(8-t).toNat | _=>0,⟨0,rfl,by omega,S⟩,?_⟩
     rintro t w23 ⟨q,hst,hq,S⟩
     cases int1 hst
     have hhl:=(hF_len h V q).trans hh
     refine IFB_dec (fun hlt=>S.draw fun w25 S=>?_) (fun hge=>?_)
     ·have e8:IntKind.i64.wrap (8+(q:Int))=((q+8:Nat):Int):=by rw [wrap_i64 (by omega) (by omega)];omega
      rw [e8]
      refine⟨⟨by omega,hlt⟩,⟨by omega,by omega⟩,⟨by omega,by omega⟩,_,S.wd 4 rfl (by omega) (Int.toNat_natCast _),_,S.wd 0 rfl (by omega) (Int.toNat_natCast _),_,S.wd 0 rfl (by omega) (Int.toNat_natCast _),⟨by omega,hlt⟩,?_⟩
      rw [xor32,xor32,BitVec.xor_assoc]
      refine S.wdsto 4 rfl (by omega) (Int.toNat_natCast _) fun w26 S=>?_
      rw [wrap_succ (by omega)]
      exact⟨⟨q+1,rfl,by omega,S⟩,by show (8-((q+1:Nat):Int)).toNat<(8-(q:Int)).toNat;omega⟩
     ·have hq8:q=8:=by omega
      have hl2:((hF h V q).map wV).length=8:=by rw [List.length_map];exact hhl
      refine LOADC_wd (hF h V q) hhl (Rd.of_block0 (S.get 4 rfl)) (BIF_len hl2 (S.stoAll 3 rfl hl2 (wd_one _) fun w24 _ S=>?_))
      refine LOADC_wd (hF h V q) hhl (Rd.of_block0 (S.get 3 rfl)) ⟨?_,S.below⟩
      have ev:vN (vF h 8) n last=V0:=by rw [← vR_vF h hh,← hj8,hV0]
      have em:mO blk 64=m0:=by rw [← mA_mO,← hi64,hm0]
      unfold nextP
      rw [ev,em,← hr1,hV,hq8]
def wR:Nat→List Wd
 | 0=>List.replicate 8 0
 | i+1=>(wR i).set i (firstL.getD i 0)
theorem wR_len:∀ i,(wR i).length=8
 | 0=>rfl
 | i+1=>by simp [wR,wR_len i]
theorem wR_8:wR 8=firstL:=by decide
theorem slT28:slT Tryz.prog 28=some (5,1,1,.int .u8 0):=by kernel_rfl
set_option maxHeartbeats 1000000 in
theorem ref03_Sum_ok{w:World}{a:Option Addr}{c:Nat}(l:List UInt8)(hr:Rd w a (l.map byteV))(hc:l.length≤c)(hl:l.length≤140737488355328) :
  Calls Tryz.prog f.ref03_Sum #[.slice a l.length c] w (Ret fun v w'=>v=.agg ⟨(digP l).map byteV⟩∧Below w.heap.size w w'):=by
 apply R.ref03_Sum_calls
 unfold R.ref03_Sum
 refine (SH.start (fun _=>False) w).newB fun b2 w1 _ _ S=>(Words_new w1).mono ?_
 rintro _ w2 ⟨_,rfl,bw,rfl,hbw,hcw,B2⟩
 replace S:=S.adopt B2 hbw hcw
 refine⟨_,_,_,rfl,S.newB fun b5 w3 _ _ S=>?_⟩
 refine⟨fun st w'=>∃ i:Nat,st=[.int .i64 (i:Int)]∧i≤8∧SH (fun _=>False) w w' [(b5,⟨(wR i).map wV⟩,118),(bw,⟨firstL.map wV⟩,108),(b2,⟨List.replicate 32 (.int .u8 0)⟩,73)],
  fun st _=>match st with | [.int _ t]=>(8-t).toNat | _=>0,⟨0,rfl,by omega,S⟩,?_⟩
 rintro t w4 ⟨i,hst,hi,S⟩
 cases int1 hst
 have hwl:=wR_len i
 have hfl:firstL.length=8:=rfl
 refine IFB_dec (fun hlt=>?_) (fun hge=>?_)
 ·refine⟨⟨by omega,by omega⟩,PTR_in ⟨_,S.wd 1 rfl (by omega) (Int.toNat_natCast _),⟨by omega,by omega⟩,S.wdsto 0 rfl (by omega) (Int.toNat_natCast _) fun w5 S=>?_⟩⟩
  rw [wrap_succ (by omega)]
  exact⟨⟨i+1,rfl,by omega,S⟩,by show (8-((i+1:Nat):Int)).toNat<(8-(i:Int)).toNat;omega⟩
 ·have hi8:i=8:=by omega
  have hw8:wR i=firstL:=by rw [hi8,wR_8]
  rw [hw8] at S
  refine⟨_,S.wd' 0 rfl (by omega),?_⟩
  have e0:∀ x:Wd,IntKind.u32.wrap (((BitVec.ofInt 32 (x.toNat:Int) ^^^ BitVec.ofInt 32 16842784).toNat:Int))=((x ^^^ 16842784).toNat:Int):=by
   intro x
   rw [ofInt_nat,wrap32_nat]
   rfl
  rw [e0]
  refine S.wdsto' 0 rfl (by omega) fun w6 S=>?_
  refine⟨fun st w'=>∃ k:Nat,st=[.int .i64 ((64*k:Nat):Int)]∧(k=0∨64*k<l.length)∧SH (fun _=>False) w w' [(b5,⟨(sumP l k).map wV⟩,118),(bw,⟨firstL.map wV⟩,108),(b2,⟨List.replicate 32 (.int .u8 0)⟩,73)],
   fun st _=>match st with | [.int _ t]=>((l.length:Int)+64-t).toNat | _=>0,⟨0,rfl,.inl rfl,S⟩,?_⟩
  rintro t w7 ⟨k,hst,hk,S⟩
  cases int1 hst
  have hsl:=sumP_len l k
  refine make_new slT28 (l:=64) (c:=64) (by omega) (by omega) (by omega) (by omega) fun b8 w8 hb8 B8 hc8=>?_
  have hz:(madeCells (Value.int .u8 0).cells ((64:Int).toNat*1))=⟨List.replicate 64 (.int .u8 0)⟩:=by
   apply Array.ext'
   exact madeCells_one (.int .u8 0) rfl 64
  rw [hz] at hc8
  replace S:=S.adopt B8 hb8 hc8
  refine⟨_,_,_,rfl,⟨by omega,by omega,by omega⟩,?_⟩
  have hrd:Rd w8 (SLA a (64*k) c 1) ((l.drop (64*k)).map byteV):=by
   have:=(hr.grown S.below).sla (64*k) l.length c 1 hc
   rw [List.take_of_length_le (by simp),Nat.mul_one,← List.map_drop] at this
   exact this
  rw [Int.toNat_natCast]
  refine S.copy 0 rfl (P:=Tryz.prog) (elem:=5) (dLen:=64) (by kernel_rfl) (by kernel_rfl) (a:=SLA a (64*k) c 1) (xs:=(l.drop (64*k)).map byteV) (by simp) (by simp) hrd (by_one _) fun w9 _ S=>?_
  have eb:(⟨((l.drop (64*k)).map byteV).take 64++(List.replicate 64 (Value.int .u8 0)).drop (min (l.length-64*k) 64)⟩:Array Value)=⟨(blkAt l (64*k)).map byteV⟩:=by
   rw [List.drop_replicate]
   simp only [blkAt,zeroB,List.map_append,List.map_replicate,List.map_take]
   rfl
  replace S:=eb ▸ S
  have ele:endAt l (64*k)≤l.length:=by unfold endAt;omega
  have ee:IntKind.i64.wrap (((64*k:Nat):Int)+((min (l.length-64*k) 64:Nat):Int))=((endAt l (64*k):Nat):Int):=by
   unfold endAt
   rw [wrap_i64 (by omega) (by omega)]
   omega
  have eu:IntKind.u64.wrap ((endAt l (64*k):Nat):Int)=((endAt l (64*k):Nat):Int):=by
   rw [wrap_u64_id (by omega) (by omega)]
  have eq2:(((endAt l (64*k):Nat):Int)==((l.length:Nat):Int))=(endAt l (64*k)==l.length):=by
   rw [Bool.eq_iff_iff]
   simp
   omega
  refine⟨_,rfl,LOADC_wd (sumP l k) hsl (Rd.of_block0 (S.get 1 rfl)) ?_⟩
  rw [ee,eu,eq2]
  refine (block_ok (sumP l k) hsl (c:=64) (blkAt l (64*k)) (blkAt_len _ _) (Rd.of_block0 (S.get 0 rfl)) (endAt l (64*k)) (by omega) _).mono ?_
  rintro _ w10 ⟨_,rfl,rfl,B10⟩
  have hnl:=sumP_len l (k+1)
  rw [sumP] at hnl
  refine LIKEL_wd _ hnl ⟨rfl,BIF_len (by rw [List.length_map];exact hnl) ?_⟩
  refine (S.grown B10).stoAll 1 rfl (by simp only [List.length_map,hnl,List.size_toArray,hsl]) (wd_one _) fun w11 _ S=>?_
  replace S:=S.drop 1
  change SH (fun _=>False) w w11 [(b5,⟨(sumP l (k+1)).map wV⟩,118),(bw,⟨firstL.map wV⟩,108),(b2,⟨List.replicate 32 (.int .u8 0)⟩,73)] at S
  refine IFB_of (fun hlast=>?_) (fun hlast=>?_)
  ·have hend:endAt l (64*k)=l.length:=by simpa using hlast
   have hkn:nblk l=k+1:=by
    unfold nblk
    unfold endAt at hend
    omega
   have hs1:=sumP_len l (k+1)
   refine S.newB fun b20 w12 _ _ S=>?_
   refine⟨fun st w'=>∃ i:Nat,st=[.int .i64 (i:Int)]∧i≤32∧SH (fun _=>False) w w' [(b20,⟨(outP (sumP l (k+1)) i).map byteV⟩,73),(b5,⟨(sumP l (k+1)).map wV⟩,118),(bw,⟨firstL.map wV⟩,108),(b2,⟨List.replicate 32 (.int .u8 0)⟩,73)],
    fun st _=>match st with | [.int _ t]=>(32-t).toNat | _=>0,⟨0,rfl,by omega,S⟩,?_⟩
   rintro t w13 ⟨i,hst,hi,S⟩
   cases int1 hst
   have hol:=outP_len (sumP l (k+1)) i
   refine IFB_dec (fun hlt=>?_) (fun hge=>?_)
   ·have hi32:i<32:=by omega
    rw [tdiv4 i (by omega),tmod4 i (by omega)]
    refine⟨⟨by omega,by omega⟩,_,S.wd 1 rfl (by omega) (Int.toNat_natCast _),by omega,⟨by omega,hlt⟩,?_⟩
    rw [Int.toNat_natCast,outB_prog _ _ (by omega)]
    refine S.bysto 0 rfl (by omega) (Int.toNat_natCast _) fun w15 S=>?_
    rw [wrap_succ (by omega)]
    exact⟨⟨i+1,rfl,by omega,S⟩,by show (32-((i+1:Nat):Int)).toNat<(32-(i:Int)).toNat;omega⟩
   ·have hi32:i=32:=by omega
    have hl2:((outP (sumP l (k+1)) i).map byteV).length=32:=by rw [List.length_map];exact hol
    refine LOADC_by (outP (sumP l (k+1)) i) hol (Rd.of_block0 (S.get 0 rfl)) (BIF_len hl2 ?_)
    refine S.stoAll 3 rfl hl2 (by_one _) fun w14 _ S=>?_
    refine LOADC_by (outP (sumP l (k+1)) i) hol (Rd.of_block0 (S.get 3 rfl)) ⟨?_,S.below⟩
    unfold digP
    rw [hkn,hi32]
  ·have hend:endAt l (64*k)≠l.length:=by simpa using hlast
   have he2:endAt l (64*k)=64*(k+1):=by
    unfold endAt at hend ⊢
    omega
   rw [he2]
   exact⟨⟨k+1,rfl,by omega,S⟩,by show ((l.length:Int)+64-((64*(k+1):Nat):Int)).toNat<((l.length:Int)+64-((64*k:Nat):Int)).toNat;omega⟩
theorem digP_len(l:List UInt8):(digP l).length=32:=outP_len _ _
def letB(c:UInt8):Bool:=decide (97≤c.toNat) && decide (c.toNat≤122)
def othB(c:UInt8):Bool:=(decide (48≤c.toNat) && decide (c.toNat≤57)) || c.toNat==95
def nameAt(s:ByteArray)(i:Nat):Bool:=letB (sget s i) || (othB (sget s i) && i != 0)
def isNameB(s:ByteArray):Bool:=(List.range s.size).all (nameAt s) && decide (1≤s.size) && decide (s.size≤24)
theorem ref05_IsName_ok(s:ByteArray)(hs:s.size≤9223372036854775807)(w:World):Calls Tryz.prog f.ref05_IsName #[.string s] w (Ret fun r w'=>r=.bool (isNameB s)∧w'=w):=by
 apply R.ref05_IsName_calls
 unfold R.ref05_IsName
 refine⟨fun st w'=>∃ i:Nat,st=[.int .i64 (i:Int)]∧i≤s.size∧(∀ j,j<i→nameAt s j=true)∧w'=w,
  fun st _=>match st with | [.int _ t]=>((s.size:Int)-t).toNat | _=>0,⟨0,rfl,by omega,fun j hj=>by omega,rfl⟩,?_⟩
 rintro t w1 ⟨i,hst,hi,hall,rfl⟩
 cases int1 hst
 refine IFB_dec (fun hlt=>?_) (fun hge=>?_)
 ·have hb:(0:Int)≤(i:Int)∧(i:Int)<(s.size:Int):=⟨by omega,hlt⟩
  rw [Int.toNat_natCast]
  refine⟨fun st w'=>st=[.bool (letB (sget s i))]∧w'=w1,⟨hb,IFB_dec (fun h=>⟨hb,?_⟩) (fun h=>?_)⟩,?_⟩
  ·have h97:97≤(sget s i).toNat:=by omega
   refine⟨?_,rfl⟩
   congr 2
   rw [Bool.eq_iff_iff]
   simp [letB,h97]
   omega
  ·have h97:¬ 97≤(sget s i).toNat:=by omega
   refine⟨?_,rfl⟩
   simp [letB,h97]
  ·rintro letter w2 ⟨hl,rfl⟩
   have hle:letter=letB (sget s i):=by simpa using hl
   subst hle
   refine⟨fun st w'=>st=[.bool (othB (sget s i))]∧w'=w2,⟨hb,IFB_dec (fun h=>⟨hb,IFB_dec (fun h2=>?_) (fun h2=>⟨hb,?_⟩)⟩) (fun h=>⟨hb,?_⟩)⟩,?_⟩
   ·have h48:48≤(sget s i).toNat:=by omega
    have h57:(sget s i).toNat≤57:=by omega
    refine⟨?_,rfl⟩
    simp [othB,h48,h57]
   ·have h57:¬ (sget s i).toNat≤57:=by omega
    refine⟨?_,rfl⟩
    congr 2
    rw [Bool.eq_iff_iff]
    simp [othB,h57]
    omega
   ·have h48:¬ 48≤(sget s i).toNat:=by omega
    refine⟨?_,rfl⟩
    congr 2
    rw [Bool.eq_iff_iff]
    simp [othB,h48]
    omega
   ·rintro other w3 ⟨ho,rfl⟩
    have hoe:other=othB (sget s i):=by simpa using ho
    subst hoe
    have hno:nameAt s i=false→isNameB s=false:=by
     intro h
     have:(List.range s.size).all (nameAt s)=false:=by
      rw [List.all_eq_false]
      exact⟨i,List.mem_range.2 (by omega),by simp [h]⟩
     simp [isNameB,this]
    have hstep:nameAt s i=true→(∃ k:Nat,[Value.int .i64 (IntKind.i64.wrap ((i:Int)+1))]=[.int .i64 (k:Int)]∧k≤s.size∧(∀ j,j<k→nameAt s j=true)∧w3=w3) ∧
      ((s.size:Int)-IntKind.i64.wrap ((i:Int)+1)).toNat<((s.size:Int)-(i:Int)).toNat:=by
     intro h
     rw [wrap_succ (by omega)]
     refine⟨⟨i+1,rfl,by omega,fun j hj=>?_,rfl⟩,by omega⟩
     rcases Nat.lt_or_ge j i with h2 | h2
     ·exact hall j h2
     ·rw [show j=i by omega]
      exact h
    refine IFB_of (fun h1=>IFB_of (fun h2=>?_) (fun h2=>IFB_eq (fun h3=>?_) (fun h3=>?_))) (fun h1=>?_)
    ·exact⟨by rw [hno (by simp_all [nameAt])],rfl⟩
    ·have h0:i=0:=by omega
     exact⟨by rw [hno (by simp_all [nameAt])],rfl⟩
    ·have:i≠0:=by omega
     exact hstep (by simp_all [nameAt])
    ·exact hstep (by simp_all [nameAt])
 ·have hie:i=s.size:=by omega
  have ha:(List.range s.size).all (nameAt s)=true:=by
   rw [List.all_eq_true]
   intro j hj
   exact hall j (by have:=List.mem_range.1 hj;omega)
  refine IFB_dec (fun h=>⟨?_,rfl⟩) (fun h=>⟨?_,rfl⟩)
  ·have h1:1≤s.size:=by omega
   congr 1
   rw [Bool.eq_iff_iff]
   simp [isNameB,ha,h1]
   omega
  ·have h1:¬ 1≤s.size:=by omega
   simp [isNameB,h1]
end Go.Proofs.YtipgnehlihmdhaaGreatDoor
namespace Go.Proofs
set_option maxRecDepth 100000
open Go.Shelf
def Tryz.lays106_ren:Go.Shelf.Ren:=⟨fun | 106=>108 | 213=>149 | 265=>183 | n=>n,fun | 9=>9 | 3=>3 | n=>n,fun | n=>n⟩
theorem Tryz.lays106:Go.Proofs.Lays.n106 Tryz.prog Tryz.lays106_ren:={
 mixed:=by kernel_rfl
 f106:=Tryz.func108.trans (congrArg some (by kernel_rfl))
 f213:=Tryz.func149.trans (congrArg some (by kernel_rfl))
 f265:=Tryz.func183.trans (congrArg some (by kernel_rfl))
 t3:=Tryz.underlying3
 a3:=Tryz.isAgg3
 z3:=Tryz.sizeOf3
 v3:=Tryz.zeroValue3
 t9:=Tryz.underlying9
 a9:=Tryz.isAgg9
 z9:=Tryz.sizeOf9
 v9:=Tryz.zeroValue9 }
open Go.RowKit in
theorem Tryz.strings_Compare(a b:ByteArray)(w:World) :
  Calls Tryz.prog 108 #[.string a,.string b] w fun e w'=>e=.returned (.int .i64 (Lib.compareBytes a.data.toList b.data.toList))∧w'=w:=Any.strings_Compare Tryz.lays106 a b w
def Tryz.lays137_ren:Go.Shelf.Ren:=⟨fun | 137=>132 | 217=>168 | 266=>192 | n=>n,fun | 9=>9 | 5=>5 | 3=>3 | n=>n,fun | n=>n⟩
theorem Tryz.lays137:Go.Proofs.Lays.n137 Tryz.prog Tryz.lays137_ren:={
 mixed:=by kernel_rfl
 f137:=Tryz.func132.trans (congrArg some (by kernel_rfl))
 f217:=Tryz.func168.trans (congrArg some (by kernel_rfl))
 f266:=Tryz.func192.trans (congrArg some (by kernel_rfl))
 t3:=Tryz.underlying3
 a3:=Tryz.isAgg3
 z3:=Tryz.sizeOf3
 v3:=Tryz.zeroValue3
 t5:=Tryz.underlying5
 a5:=Tryz.isAgg5
 z5:=Tryz.sizeOf5
 v5:=Tryz.zeroValue5
 t9:=Tryz.underlying9
 a9:=Tryz.isAgg9
 z9:=Tryz.sizeOf9
 v9:=Tryz.zeroValue9 }
open Go.RowKit in
theorem Tryz.strings_IndexByte(s:ByteArray)(c:Int)(w:World) :
  Calls Tryz.prog 132 #[.string s,.int .u8 c] w fun e w'=>e=.returned (.int .i64 (Lib.indexByte s.data.toList c.toNat.toUInt8))∧w'=w:=Any.strings_IndexByte Tryz.lays137 s c w
def Tryz.lays227_ren:Go.Shelf.Ren:=⟨fun | 227=>171 | n=>n,fun | 9=>9 | 116=>223 | 4=>4 | 0=>0 | 3=>3 | 5=>5 | n=>n,fun | n=>n⟩
theorem Tryz.lays227:Go.Proofs.Lays.n227 Tryz.prog Tryz.lays227_ren:={
 mixed:=by kernel_rfl
 f227:=Tryz.func171.trans (congrArg some (by kernel_rfl))
 t0:=Tryz.underlying0
 a0:=Tryz.isAgg0
 z0:=Tryz.sizeOf0
 v0:=Tryz.zeroValue0
 t3:=Tryz.underlying3
 a3:=Tryz.isAgg3
 z3:=Tryz.sizeOf3
 v3:=Tryz.zeroValue3
 t4:=Tryz.underlying4
 a4:=Tryz.isAgg4
 z4:=Tryz.sizeOf4
 v4:=Tryz.zeroValue4
 t5:=Tryz.underlying5
 a5:=Tryz.isAgg5
 z5:=Tryz.sizeOf5
 v5:=Tryz.zeroValue5
 t9:=Tryz.underlying9
 a9:=Tryz.isAgg9
 z9:=Tryz.sizeOf9
 v9:=Tryz.zeroValue9
 t116:=Tryz.underlying223
 a116:=Tryz.isAgg223
 z116:=Tryz.sizeOf223 }
open Go.RowKit Go.Lib in
theorem Tryz.strings_makeASCIISet(hv116:∀ w,(zeroValue 223).run Tryz.prog w=.ok (.agg (Array.replicate 256 (.bool false))) w)(chars:ByteArray)(w:World)(hs:chars.size<4294967281)(hascii:∀(j:Nat) b,chars.data.toList[j]?=some b→b.toNat<128) :
  Calls Tryz.prog 171 #[.string chars] w fun e w'=>e=.returned (.tuple #[.agg (Lib.setCells chars.data.toList),.bool true])∧w'=w.alloc (.cells (Lib.setCells chars.data.toList) 223):=Any.strings_makeASCIISet Tryz.lays227 hv116 (by kernel_rfl) chars w hs hascii
def Tryz.lays228_ren:Go.Shelf.Ren:=⟨fun | 228=>193 | n=>n,fun | 124=>227 | 5=>5 | 4=>4 | 0=>0 | 116=>223 | n=>n,fun | n=>n⟩
theorem Tryz.lays228:Go.Proofs.Lays.n228 Tryz.prog Tryz.lays228_ren:={
 mixed:=by kernel_rfl
 f228:=Tryz.func193.trans (congrArg some (by kernel_rfl))
 t0:=Tryz.underlying0
 a0:=Tryz.isAgg0
 z0:=Tryz.sizeOf0
 v0:=Tryz.zeroValue0
 t4:=Tryz.underlying4
 a4:=Tryz.isAgg4
 z4:=Tryz.sizeOf4
 v4:=Tryz.zeroValue4
 t5:=Tryz.underlying5
 a5:=Tryz.isAgg5
 z5:=Tryz.sizeOf5
 v5:=Tryz.zeroValue5
 t116:=Tryz.underlying223
 a116:=Tryz.isAgg223
 z116:=Tryz.sizeOf223
 t124:=Tryz.underlying227
 a124:=Tryz.isAgg227
 z124:=Tryz.sizeOf227
 v124:=Tryz.zeroValue227 }
open Go.RowKit Go.Lib in
theorem Tryz.asciiSet_contains(b:Nat)(x:UInt8)(v:Bool)(w:World)(hc:w.cell? ⟨b,x.toNat,none⟩=some (.bool v)) :
  Calls Tryz.prog 193 #[.pointer (some ⟨b,0,none⟩),.int .u8 x.toNat] w fun e w'=>e=.returned (.bool v)∧w'=w:=Any.asciiSet_contains Tryz.lays228 b x v w hc
end Go.Proofs
namespace Go.Proofs.YtipgnehlihmdhaaGreatDoor
set_option maxRecDepth 100000
open Go.Dn Go.Proofs
open Go.RowKit (Below)
set_option linter.unusedVariables false
theorem trimRight_ok(mem:UInt8→Bool){w:World}{b:Nat}(hc:∀ x:UInt8,w.cell? ⟨b,x.toNat,none⟩=some (.bool (mem x)))(s:ByteArray)(hs:s.size≤9223372036854775807) :
  Calls Tryz.prog f.strings_trimRightASCII #[.string s,.pointer (some ⟨b,0,none⟩)] w (Ret fun r w'=>∃ l m,r=.string (sof l)∧bl s=l++m∧m.all mem=true∧(l=[]∨∃ p c,l=p++[c]∧mem c=false)∧w'=w):=by
 apply R.strings_trimRightASCII_calls
 unfold R.strings_trimRightASCII
 refine⟨fun st w'=>∃ l m,st=[.string (sof l)]∧bl s=l++m∧m.all mem=true∧w'=w,fun st _=>match st with | [.string t]=>t.size | _=>0,⟨bl s,[],by rw [sof_bl],by simp,rfl,rfl⟩,?_⟩
 rintro t w1 ⟨l,m,hst,hl,hm,rfl⟩
 have ht:t=sof l:=by simpa using hst
 subst ht
 rw [size_sof]
 have hlen:l.length≤9223372036854775807:=by
  have:=congrArg List.length hl
  rw [bl_length,List.length_append] at this
  omega
 refine IFB_dec (fun h=>?_) (fun h=>?_)
 ·have hne:l≠[]:=by intro h2;subst h2;simp at h
  obtain⟨p,c,rfl⟩:∃ p c,l=p++[c]:=⟨l.dropLast,l.getLast hne,(List.dropLast_concat_getLast hne).symm⟩
  simp only [List.length_append,List.length_cons,List.length_nil] at h hlen ⊢
  have e1:IntKind.i64.wrap (((p.length+(0+1):Nat):Int)-1)=(p.length:Int):=by rw [wrap_i64 (by omega) (by omega)];omega
  rw [e1,Int.toNat_natCast,sget_eq,bl_sof,show (p++[c]).getD p.length 0=c by simp]
  refine⟨⟨by omega,by omega⟩,(Tryz.asciiSet_contains b c (mem c) w1 (hc c)).mono ?_⟩
  rintro _ w2 ⟨rfl,rfl⟩
  refine⟨_,rfl,IFB_of (fun h2=>?_) (fun h2=>?_)⟩
  ·exact⟨p++[c],m,rfl,hl,hm,.inr ⟨p,c,rfl,by simpa using h2⟩,rfl⟩
  ·have hmc:mem c=true:=by simpa using h2
   have e2:ByteArray.extract (sof (p++[c])) 0 p.length=sof p:=by
    rw [extract_eq,bl_sof]
    simp
   refine⟨⟨by omega,by omega,by omega⟩,?_⟩
   rw [e2]
   exact⟨⟨p,c :: m,rfl,by rw [hl];simp,by simp [hmc,hm],rfl⟩,by show (sof p).size<(sof (p++[c])).size;rw [size_sof,size_sof];simp⟩
 ·have:l=[]:=List.eq_nil_of_length_eq_zero (by omega)
  exact⟨l,m,rfl,hl,hm,.inl this,rfl⟩
theorem trimLeft_ok(mem:UInt8→Bool){w:World}{b:Nat}(hc:∀ x:UInt8,w.cell? ⟨b,x.toNat,none⟩=some (.bool (mem x)))(s:ByteArray) :
  Calls Tryz.prog f.strings_trimLeftASCII #[.string s,.pointer (some ⟨b,0,none⟩)] w (Ret fun r w'=>∃ l m,r=.string (sof l)∧bl s=m++l∧m.all mem=true∧(l=[]∨∃ c p,l=c :: p∧mem c=false)∧w'=w):=by
 apply R.strings_trimLeftASCII_calls
 unfold R.strings_trimLeftASCII
 refine⟨fun st w'=>∃ l m,st=[.string (sof l)]∧bl s=m++l∧m.all mem=true∧w'=w,fun st _=>match st with | [.string t]=>t.size | _=>0,⟨bl s,[],by rw [sof_bl],by simp,rfl,rfl⟩,?_⟩
 rintro t w1 ⟨l,m,hst,hl,hm,rfl⟩
 have ht:t=sof l:=by simpa using hst
 subst ht
 rw [size_sof]
 refine IFB_dec (fun h=>?_) (fun h=>?_)
 ·cases l with
  | nil=>simp at h
  | cons c p =>
   simp only [List.length_cons] at h ⊢
   rw [sget_eq,bl_sof,show (c :: p).getD 0 0=c by rfl]
   refine⟨⟨by omega,by omega⟩,(Tryz.asciiSet_contains b c (mem c) w1 (hc c)).mono ?_⟩
   rintro _ w2 ⟨rfl,rfl⟩
   refine⟨_,rfl,IFB_of (fun h2=>?_) (fun h2=>?_)⟩
   ·exact⟨c :: p,m,rfl,hl,hm,.inr ⟨c,p,rfl,by simpa using h2⟩,rfl⟩
   ·have hmc:mem c=true:=by simpa using h2
    have e2:ByteArray.extract (sof (c :: p)) 1 (p.length+1)=sof p:=by
     rw [extract_eq,bl_sof]
     simp
    refine⟨⟨by omega,by omega,by omega⟩,?_⟩
    rw [e2]
    exact⟨⟨p,m++[c],rfl,by rw [hl];simp,by simp [hmc,hm],rfl⟩,by show (sof p).size<(sof (c :: p)).size;rw [size_sof,size_sof];simp⟩
 ·have:l=[]:=List.eq_nil_of_length_eq_zero (by omega)
  exact⟨l,m,rfl,hl,hm,.inl this,rfl⟩
theorem LIKEL_bools:∀(us:List Bool) {n:Nat} {f:List Value→Prop},us.length=n→f (us.map .bool)→LIKEL (List.replicate n (.bool false)) f
 | [],_,_,hn,h=>by subst hn;exact h
 | u :: us,_,_,hn,h=>by subst hn;exact⟨u,LIKEL_bools us rfl h⟩
def setB(l:List UInt8):List Bool:=(List.range 256).map fun j=>l.contains (UInt8.ofNat j)
theorem setB_cells(l:List UInt8):Lib.setCells l=⟨(setB l).map .bool⟩:=by
 rw [Lib.setCells_eq]
 apply Array.ext'
 simp [setB,List.map_map,Function.comp_def]
theorem strings_Trim_ok(s cut:ByteArray)(hs:s.size≤9223372036854775807)(h2:2≤cut.size)(hz:cut.size<4294967281)(ha:∀(j:Nat) b,cut.data.toList[j]?=some b→b.toNat<128)(w:World) :
  Calls Tryz.prog f.strings_Trim #[.string s,.string cut] w (Ret fun r w'=>∃ q,r=.string q∧(q=⟨#[]⟩↔(bl s).all (bl cut).contains=true)∧Below w.heap.size w w'):=by
 apply R.strings_Trim_calls
 unfold R.strings_Trim
 have he:∀ x:ByteArray,bytesEq x ⟨#[]⟩=true→x=⟨#[]⟩:=fun x h=>by rw [bytesEq_iff] at h;simpa using h
 refine IFB_of (fun h=>?_) (fun h0=>IFB_of (fun h=>?_) (fun h1=>?_))
 ·have:=he s h
  subst this
  exact⟨_,rfl,by simp [bl],.refl _ _⟩
 ·have:=he cut h
  subst this
  exact absurd h2 (by decide)
 ·refine⟨fun st w'=>st=[.bool false]∧w'=w,IFB_eq (fun h=>by omega) (fun _=>⟨rfl,rfl⟩),?_⟩
  rintro t w1 ⟨ht,rfl⟩
  have:t=false:=by simpa using ht
  subst this
  refine IFB_false ((Tryz.strings_makeASCIISet (fun _=>by kernel_rfl) cut w1 hz ha).mono ?_)
  rintro _ w5 ⟨rfl,rfl⟩
  rw [setB_cells]
  have hbl:(setB cut.data.toList).length=256:=by simp [setB]
  refine LIKEL_bools (setB cut.data.toList) hbl ⟨true,rfl,?_⟩
  have B0:Below w1.heap.size w1 (w1.alloc (.cells ⟨(setB cut.data.toList).map .bool⟩ 223)):=(Below.refl _ w1).alloc (Nat.le_refl _) _
  have S0:=(SH.start (fun _=>False) w1).grown B0
  have h1:∀ v∈(setB cut.data.toList).map Value.bool,v.oneCell'=true:=by
   intro v hv
   obtain⟨u,_,rfl⟩:=List.mem_map.1 hv
   rfl
  have hl2:((setB cut.data.toList).map Value.bool).length=256:=by rw [List.length_map];exact hbl
  refine S0.newB fun b12 w6 _ _ S=>BIF_len hl2 (S.stoAll 0 rfl hl2 h1 fun w7 _ S=>IFB_true ?_)
  have hc:∀ x:UInt8,w7.cell? ⟨b12,x.toNat,none⟩=some (.bool ((bl cut).contains x)):=fun x=>S.cell 0 rfl (by
   rw [← setB_cells]
   exact Lib.setCells_at _ _)
  refine (trimRight_ok (bl cut).contains hc s hs).mono ?_
  rintro _ w8 ⟨_,rfl,l,m,rfl,hl,hm,hlast,rfl⟩
  refine⟨_,rfl,(trimLeft_ok (bl cut).contains hc (sof l)).mono ?_⟩
  rintro _ w9 ⟨_,rfl,q,p,rfl,hq,hp,hfirst,rfl⟩
  refine⟨_,rfl,_,rfl,?_,S.below⟩
  rw [bl_sof] at hq
  rw [hl,hq,List.all_append,List.all_append,hm,hp]
  rcases hfirst with rfl | ⟨c,r,rfl,hcf⟩
  ·simp [sof]
  ·simp [sof]
   intro hcc
   simp_all
theorem byte_all{p:UInt8→Bool}(h:(List.range 256).all (fun n=>p (UInt8.ofNat n))=true)(c:UInt8):p c=true:=by
 have:=List.all_eq_true.1 h c.toNat (List.mem_range.2 c.toNat_lt)
 simpa using this
def lettersS:ByteArray:=⟨#[97,98,99,100,101,102,103,104,105,106,107,108,109,110,111,112,113,114,115,116,117,118,119,120,121,122]⟩
def othersS:ByteArray:=⟨#[97,98,99,100,101,102,103,104,105,106,107,108,109,110,111,112,113,114,115,116,117,118,119,120,121,122,48,49,50,51,52,53,54,55,56,57,95]⟩
theorem lets_eq(c:UInt8):decide (Lib.indexByte lettersS.data.toList c≥0)=letB c:=by
 have:=byte_all (p:=fun c=>decide (Lib.indexByte lettersS.data.toList c≥0)==letB c) (by kernel_rfl) c
 simpa using this
theorem oths_eq(c:UInt8):(bl othersS).contains c=(letB c || othB c):=by
 have:=byte_all (p:=fun c=>(bl othersS).contains c==(letB c || othB c)) (by kernel_rfl) c
 simpa using this
theorem isName_eq{s:ByteArray}(h1:1≤s.size)(h2:s.size≤24):isNameB s=(letB (sget s 0) && (bl s).all fun c=>letB c || othB c):=by
 have hl:(bl s).length=s.size:=bl_length s
 have he:∀ i (hi:i<(bl s).length),sget s i=(bl s)[i]:=fun i hi=>by rw [sget_eq];simp [List.getD,hi]
 rw [Bool.eq_iff_iff]
 simp only [isNameB,Bool.and_eq_true,List.all_eq_true,List.mem_range,decide_eq_true_eq,h1,h2,and_true]
 constructor
 ·intro h
  refine⟨?_,fun c hc=>?_⟩
  ·have:=h 0 (by omega)
   simpa [nameAt] using this
  ·obtain⟨i,hi,rfl⟩:=List.getElem_of_mem hc
   have:=h i (by omega)
   rw [nameAt,he i hi] at this
   simp only [Bool.or_eq_true,Bool.and_eq_true] at this ⊢
   rcases this with h | h
   ·exact .inl h
   ·exact .inr h.1
 ·rintro⟨h0,h⟩ i hi
  have hi':i<(bl s).length:=by omega
  have:=h _ (List.getElem_mem hi')
  rw [nameAt]
  by_cases hz:i=0
  ·subst hz
   simp [h0]
  ·rw [he i hi']
   simp only [Bool.or_eq_true,Bool.and_eq_true] at this ⊢
   rcases this with h | h
   ·exact .inl h
   ·exact .inr ⟨h,by simpa using hz⟩
theorem schema_IsName_ok(s:ByteArray)(hs:s.size≤9223372036854775807)(w:World):Calls Tryz.prog f.schema_IsName #[.string s] w (Ret fun r w'=>r=.bool (isNameB s)∧Below w.heap.size w w'):=by
 apply R.schema_IsName_calls
 unfold R.schema_IsName
 refine IFB_not (IFB_of (fun h=>?_) (fun h0=>?_))
 ·rw [bytesEq_iff] at h
  have:s=⟨#[]⟩:=by simpa using h
  subst this
  exact⟨rfl,.refl _ _⟩
 rw [bytesEq_iff] at h0
 have hne:s≠⟨#[]⟩:=by simpa using h0
 have h1:1≤s.size:=by
  rcases Nat.eq_zero_or_pos s.size with h | h
  ·exact absurd (bl_inj (by rw [List.eq_nil_of_length_eq_zero ((bl_length s).trans h)];rfl)) hne
  ·exact h
 refine IFB_dec (fun h2=>?_) (fun h2=>⟨?_,.refl _ _⟩)
 case refine_2 =>
  have h2':¬ s.size≤24:=by omega
  simp [isNameB,h2']
 have h2':s.size≤24:=by omega
 have hb:=(sget s 0).toNat_lt
 refine⟨⟨by omega,by omega⟩,(Tryz.strings_IndexByte lettersS ((sget s 0).toNat:Int) w).mono ?_⟩
 rintro _ w1 ⟨rfl,rfl⟩
 refine⟨_,rfl,?_⟩
 have e:((sget s 0).toNat:Int).toNat.toUInt8=sget s 0:=by simp
 rw [e,lets_eq]
 refine IFB_of (fun h3=>?_) (fun h3=>⟨?_,.refl _ _⟩)
 ·refine (strings_Trim_ok s othersS hs (by decide) (by decide) ?_ w1).mono ?_
  ·intro j b hj
   have h:othersS.data.toList.all (fun b=>decide (b.toNat<128))=true:=by decide
   exact of_decide_eq_true (List.all_eq_true.1 h b (List.mem_of_getElem? hj))
  rintro _ w2 ⟨_,rfl,q,rfl,hq,B⟩
  refine⟨_,rfl,?_,B⟩
  congr 1
  rw [bytesEq_iff,isName_eq h1 h2',h3,Bool.true_and,Bool.eq_iff_iff,decide_eq_true_eq,hq]
  simp only [List.all_eq_true,oths_eq]
 ·rw [isName_eq h1 h2',h3,Bool.false_and]
end Go.Proofs.YtipgnehlihmdhaaGreatDoor
namespace Go.Dn
set_option maxRecDepth 100000
section
variable {P:Program}{w:World}
end
end Go.Dn
namespace Go.Proofs.YtipgnehlihmdhaaGreatDoor
set_option maxRecDepth 100000
open Go.Dn Go.Proofs
open Go.RowKit (Below)
set_option linter.unusedVariables false
abbrev Val:=Int × Int × ByteArray
def valV(v:Val):Value:=.agg #[.int .i64 v.1,.int .i64 v.2.1,.string v.2.2]
abbrev E0:ByteArray:=⟨#[]⟩
def rightB(v:Val):Bool :=
 if v.1=0 then decide (v.2.1=0∧v.2.2=E0) else if v.1=1 then decide (v.2.2=E0) else if v.1=2 then decide ((v.2.1=0∨v.2.1=1)∧v.2.2=E0) else
 if v.1=3 then decide (v.2.1=0∧v.2.2.size≤1024) else false
theorem and1(n:Int):n=IntKind.i64.wrap (((BitVec.ofInt 64 n &&& BitVec.ofInt 64 1).toNat:Int))↔(n=0∨n=1):=by
 have h:(BitVec.ofInt 64 n &&& BitVec.ofInt 64 1).toNat=0∨(BitVec.ofInt 64 n &&& BitVec.ofInt 64 1).toNat=1:=by
  rw [BitVec.toNat_and]
  have h1:(BitVec.ofInt 64 1).toNat=2 ^ 1-1:=by decide
  rw [h1,Nat.and_two_pow_sub_one_eq_mod]
  omega
 constructor
 ·intro e
  rcases h with h | h
  ·rw [h] at e;left;rw [e];decide
  ·rw [h] at e;right;rw [e];decide
 ·rintro (rfl | rfl) <;> decide
theorem value_Right_ok(w:World)(v:Val):Calls Tryz.prog f.value_Right #[valV v] w (Ret fun r w'=>r=.bool (rightB v)∧Below w.heap.size w w'):=by
 obtain⟨k,n,s⟩:=v
 apply R.value_Right_calls
 show R.value_Right _ _ k n s
 unfold R.value_Right
 refine (SH.start (fun _=>False) w).newB fun b4 w1 hb4 B1 S1=>⟨_,S1.cell 0 rfl rfl,S1.lit3 fun b6 w5 hb6 B5 S5=>?_⟩
 refine⟨fun _ w9=>∃ p:Val,SH (fun _=>False) w w9 [(b6,#[.int .i64 p.1,.int .i64 p.2.1,.string p.2.2],ty.api_Value),(b4,#[.int .i64 k,.int .i64 n,.string s],ty.api_Value)]∧p.1=k ∧
   (0≤k→k<4→(((k,n,s):Val)=p∧s.size≤1024↔rightB (k,n,s)=true)),?_,?_⟩
 ·refine⟨_,S5.cell 1 rfl rfl,IFB_eq (fun h=>?_) (fun h0=>IFB_eq (fun h=>⟨_,S5.cell 1 rfl rfl,?_⟩) (fun h1=>IFB_eq (fun h=>⟨_,S5.cell 1 rfl rfl,?_⟩) (fun h2=>IFB_eq (fun h=>⟨_,S5.cell 1 rfl rfl,?_⟩) (fun h3=>?_))))⟩
  ·subst h
   refine⟨(0,0,E0),S5,rfl,fun _ _=>?_⟩
   simp only [rightB,if_pos,decide_eq_true_eq,Prod.mk.injEq,true_and]
   constructor
   ·rintro⟨⟨h1,h2⟩,_⟩;exact⟨h1,h2⟩
   ·rintro⟨h1,rfl⟩;exact⟨⟨h1,rfl⟩,by decide⟩
  ·subst h
   refine S5.sto 0 rfl (show 1<3 by decide) fun w6 S6=>⟨(1,n,E0),S6,rfl,fun _ _=>?_⟩
   simp only [rightB,if_neg (show ¬ (1:Int)=0 by decide),if_pos,decide_eq_true_eq,Prod.mk.injEq,true_and]
   constructor
   ·rintro⟨h1,_⟩;exact h1
   ·rintro rfl;exact⟨rfl,by decide⟩
  ·subst h
   refine S5.sto 0 rfl (show 1<3 by decide) fun w6 S6=>⟨(2,IntKind.i64.wrap (((BitVec.ofInt 64 n &&& BitVec.ofInt 64 1).toNat:Int)),E0),S6,rfl,fun _ _=>?_⟩
   simp only [rightB,if_neg (show ¬ (2:Int)=0 by decide),if_neg (show ¬ (2:Int)=1 by decide),if_pos,decide_eq_true_eq,Prod.mk.injEq,true_and]
   rw [and1]
   constructor
   ·rintro⟨⟨h1,h2⟩,_⟩;exact⟨h1,h2⟩
   ·rintro⟨h1,rfl⟩;exact⟨⟨h1,rfl⟩,by decide⟩
  ·subst h
   refine S5.sto 0 rfl (show 2<3 by decide) fun w6 S6=>⟨(3,0,s),S6,rfl,fun _ _=>?_⟩
   simp only [rightB,if_neg (show ¬ (3:Int)=0 by decide),if_neg (show ¬ (3:Int)=1 by decide),if_neg (show ¬ (3:Int)=2 by decide),if_pos,decide_eq_true_eq,Prod.mk.injEq,true_and,and_true]
  ·exact⟨(k,0,E0),S5,rfl,fun _ _=>by omega⟩
 ·rintro w9 ⟨p,S9,hp,hiff⟩
  have no:¬ (0≤k∧k<4)→Value.bool false=.bool (rightB (k,n,s)):=by
   intro hk
   simp only [rightB]
   rw [if_neg (by omega),if_neg (by omega),if_neg (by omega),if_neg (by omega)]
  refine⟨_,S9.cell 1 rfl rfl,IFB_dec (fun h0=>⟨_,S9.cell 1 rfl rfl,IFB_dec (fun h4=>?_) (fun h4=>⟨no (by omega),S9.below⟩)⟩) (fun h0=>⟨no (by omega),S9.below⟩)⟩
  refine⟨_,S9.cell 1 rfl rfl,_,S9.cell 1 rfl rfl,_,S9.cell 1 rfl rfl,_,S9.cell 0 rfl rfl,_,S9.cell 0 rfl rfl,_,S9.cell 0 rfl rfl,?_⟩
  have hi:=hiff h0 h4
  rw [beq_str]
  refine IFB_of (fun he=>⟨_,S9.cell 1 rfl rfl,?_,S9.below⟩) (fun he=>⟨?_,S9.below⟩)
  ·simp only [Bool.and_true,Bool.and_eq_true,beq_iff_eq,decide_eq_true_eq] at he
   have e:((k,n,s):Val)=p:=by
    obtain⟨p1,p2,p3⟩:=p
    simp only at he
    rw [he.1,he.2.1,he.2.2]
   congr 1
   rw [Bool.eq_iff_iff]
   rw [← hi]
   simp only [e,true_and,decide_eq_true_eq]
   omega
  ·have hn:¬ (rightB (k,n,s)=true):=by
    rw [← hi]
    rintro⟨e,_⟩
    rw [← e] at he
    simp at he
   simp [Bool.eq_false_iff.2 hn]
theorem ref04_Right_ok(w:World)(v:Val):Calls Tryz.prog f.ref04_Right #[valV v] w (Ret fun r w'=>r=.bool (rightB v)∧Below w.heap.size w w'):=by
 obtain⟨k,n,s⟩:=v
 apply R.ref04_Right_calls
 show R.ref04_Right _ _ k n s
 unfold R.ref04_Right
 refine (SH.start (fun _=>False) w).newB fun b4 w1 hb4 B1 S1=>⟨_,S1.cell 0 rfl rfl,?_⟩
 simp only [bytesEq_iff,rightB]
 refine IFB_eq (fun h=>⟨_,S1.cell 0 rfl rfl,IFB_eq (fun hn=>⟨_,S1.cell 0 rfl rfl,?_,B1⟩) (fun hn=>⟨?_,B1⟩)⟩) (fun h0=>IFB_eq (fun h=>⟨_,S1.cell 0 rfl rfl,?_,B1⟩) (fun h1=>IFB_eq (fun h=>⟨_,S1.cell 0 rfl rfl,?_⟩) (fun h2=>IFB_eq (fun h=>⟨_,S1.cell 0 rfl rfl,IFB_eq (fun hn=>⟨_,S1.cell 0 rfl rfl,?_,B1⟩) (fun hn=>⟨?_,B1⟩)⟩) (fun h3=>⟨?_,B1⟩))))
 ·simp [h,hn]
 ·simp [h,hn]
 ·simp [h]
 ·refine IFB_eq (fun hn=>⟨_,S1.cell 0 rfl rfl,?_,B1⟩) (fun hn=>⟨_,S1.cell 0 rfl rfl,IFB_eq (fun hn1=>⟨_,S1.cell 0 rfl rfl,?_,B1⟩) (fun hn1=>⟨?_,B1⟩)⟩)
  ·simp [h,hn]
  ·simp [h,hn1]
  ·simp [h,hn,hn1]
 ·simp [h,hn]
  omega
 ·simp [h,hn]
 ·simp [h0,h1,h2,h3]
/-! ### the order -/
end Go.Proofs.YtipgnehlihmdhaaGreatDoor
namespace Go.Proofs.YtipgnehlihmdhaaGreatDoor
set_option maxRecDepth 100000
open Go.Dn Go.Proofs
open Go.RowKit (Below)
set_option linter.unusedVariables false
/-! ### what package-level variables hold -/
/-! ### Number, Signed, Text -/
/-! ### Lay -/
structure ValOk(v:Val):Prop where
 lo : -9223372036854775808≤v.2.1
 hi:v.2.1≤9223372036854775807
theorem right_kind{v:Val}(h:rightB v=true):v.1=0∨v.1=1∨(v.1=2∧(v.2.1=0∨v.2.1=1))∨(v.1=3∧v.2.2.size≤1024):=by
 unfold rightB at h
 split at h
 ·left;assumption
 ·split at h
  ·right;left;assumption
  ·split at h
   ·right;right;left;simp at h;exact⟨by assumption,h.1⟩
   ·split at h
    ·right;right;right;simp at h;exact⟨by assumption,h.2⟩
    ·cases h
/-! ### Show -/
end Go.Proofs.YtipgnehlihmdhaaGreatDoor
namespace Go.Proofs.YtipgnehlihmdhaaGreatDoor
set_option maxRecDepth 100000
open Go.Dn Go.Proofs
open Go.RowKit (Below)
set_option linter.unusedVariables false
def IsLen(x r:Nat):Prop:=x<2 ^ r∧(r=0∨2 ^ (r-1)≤x)
theorem IsLen.one{x r s:Nat}(h:IsLen x r)(h':IsLen x s):r=s:=by
 have key:∀ {a b:Nat},IsLen x a→IsLen x b→a≤b:=by
  intro a b ha hb
  rcases ha.2 with h0 | h0
  ·omega
  ·rcases Nat.lt_or_ge b a with hlt | hge
   ·have:2 ^ b≤2 ^ (a-1):=Nat.pow_le_pow_right (by omega) (by omega)
    have:=hb.1
    omega
   ·exact hge
 exact Nat.le_antisymm (key h h') (key h' h)
theorem IsLen.le{x r w:Nat}(h:IsLen x r):r≤w↔x<2 ^ w:=by
 constructor
 ·intro hle
  exact Nat.lt_of_lt_of_le h.1 (Nat.pow_le_pow_right (by omega) hle)
 ·intro hlt
  rcases h.2 with h0 | h0
  ·omega
  ·rcases Nat.lt_or_ge w r with hlt2 | hge
   ·have:2 ^ w≤2 ^ (r-1):=Nat.pow_le_pow_right (by omega) (by omega)
    omega
   ·exact hge
theorem IsLen.of_le{x r:Nat}(h:∀ w,r≤w↔x<2 ^ w):IsLen x r:=by
 refine⟨(h r).1 (Nat.le_refl _),?_⟩
 rcases Nat.eq_zero_or_pos r with h0 | h0
 ·exact .inl h0
 ·right
  rcases Nat.lt_or_ge x (2 ^ (r-1)) with hlt | hge
  ·have:=(h (r-1)).2 hlt
   omega
  ·exact hge
theorem IsLen.shift{x r s:Nat}(h:IsLen (x / 2 ^ s) r)(hx:2 ^ s≤x):IsLen x (r+s):=by
 have hp:0<2 ^ s:=Nat.two_pow_pos s
 have h1:1≤x / 2 ^ s:=(Nat.le_div_iff_mul_le hp).2 (by omega)
 have hr:r≠0:=by
  rintro rfl
  have:=h.1
  simp at this
  omega
 refine⟨?_,.inr ?_⟩
 ·rw [Nat.pow_add]
  exact (Nat.div_lt_iff_lt_mul hp).1 h.1
 ·rcases h.2 with h0 | h0
  ·exact absurd h0 hr
  ·rw [show r+s-1=(r-1)+s by omega,Nat.pow_add]
   exact (Nat.le_div_iff_mul_le hp).1 h0
def lenT:ByteArray:=⟨#[0,1,2,2,3,3,3,3,4,4,4,4,4,4,4,4,5,5,5,5,5,5,5,5,5,5,5,5,5,5,5,5,6,6,6,6,6,6,6,6,6,6,6,6,6,6,6,6,6,6,6,6,6,6,6,6,6,6,6,6,6,6,6,6,7,7,7,7,7,7,7,7,7,7,7,7,7,7,7,7,7,7,7,7,7,7,7,7,7,7,7,7,7,7,7,7,7,7,7,7,7,7,7,7,7,7,7,7,7,7,7,7,7,7,7,7,7,7,7,7,7,7,7,7,7,7,7,7,8,8,8,8,8,8,8,8,8,8,8,8,8,8,8,8,8,8,8,8,8,8,8,8,8,8,8,8,8,8,8,8,8,8,8,8,8,8,8,8,8,8,8,8,8,8,8,8,8,8,8,8,8,8,8,8,8,8,8,8,8,8,8,8,8,8,8,8,8,8,8,8,8,8,8,8,8,8,8,8,8,8,8,8,8,8,8,8,8,8,8,8,8,8,8,8,8,8,8,8,8,8,8,8,8,8,8,8,8,8,8,8,8,8,8,8,8,8,8,8,8,8,8,8,8,8,8,8]⟩
theorem lenT_size:lenT.size=256:=by decide
theorem lenT_all:((List.range 256).all fun i=>decide (i<2 ^ (sget lenT i).toNat) && ((sget lenT i).toNat==0 || decide (2 ^ ((sget lenT i).toNat-1)≤i)) && decide ((sget lenT i).toNat≤8))=true:=by decide +kernel
theorem lenT_is{i:Nat}(h:i<256):IsLen i (sget lenT i).toNat∧(sget lenT i).toNat≤8:=by
 have:=List.all_eq_true.1 lenT_all i (List.mem_range.2 h)
 simp only [Bool.and_eq_true,decide_eq_true_eq,Bool.or_eq_true,beq_iff_eq] at this
 exact⟨⟨this.1.1,this.1.2⟩,this.2⟩
theorem fdiv_pow(x s:Nat):Int.fdiv (x:Int) (2 ^ s)=((x / 2 ^ s:Nat):Int):=by
 rw [Int.fdiv_eq_ediv_of_nonneg _ (Int.le_of_lt (Int.pow_pos (by omega)))]
 norm_cast
theorem Len64_ok(w:World)(x:Nat)(hx:x<18446744073709551616):Calls Tryz.prog f.math_bits_Len64 #[.int .u64 (x:Int)] w (Ret fun v w'=>∃ r:Nat,v=.int .i64 (r:Int)∧IsLen x r∧r≤64∧w'=w):=by
 apply R.math_bits_Len64_calls
 unfold R.math_bits_Len64
 refine⟨fun st w1=>w1=w∧∃ y n:Nat,st=[.int .u64 (y:Int),.int .i64 (n:Int)]∧y<4294967296∧n≤32∧(∀ r,IsLen y r→r≤32→IsLen x (r+n)∨(n=0∧x=y)),?_,?_⟩
 ·refine IFB_dec (fun h=>⟨rfl,x / 2 ^ 32,32,?_,?_,by omega,fun r hr _=>.inl (hr.shift (by omega))⟩) (fun h=>⟨rfl,x,0,rfl,by omega,by omega,fun r _ _=>.inr ⟨rfl,rfl⟩⟩)
  ·rw [show min 32 64=32 from rfl,fdiv_pow]
   rfl
  ·omega
 rintro _ _ w1 ⟨rfl,y,n,hst,hy,hn,hyx⟩
 cases hst
 refine⟨fun st w2=>w2=w1∧∃ z m:Nat,st=[.int .u64 (z:Int),.int .i64 (m:Int)]∧z<65536∧m≤48∧(∀ r,IsLen z r→r≤16→IsLen x (r+m)),?_,?_⟩
 ·have fin:∀ r,IsLen y r→r≤32→IsLen x (r+n):=by
   intro r hr h32
   rcases hyx r hr h32 with h | ⟨rfl,rfl⟩
   ·exact h
   ·exact hr
  refine IFB_dec (fun h=>⟨rfl,y / 2 ^ 16,n+16,?_,by omega,by omega,fun r hr h16=>?_⟩) (fun h=>⟨rfl,y,n,rfl,by omega,by omega,fun r hr h16=>fin r hr (by omega)⟩)
  ·rw [show min 16 64=16 from rfl,fdiv_pow,wrap_i64 (by omega) (by omega)]
   rfl
  ·have:=fin _ (hr.shift (s:=16) (by omega)) (by omega)
   rwa [Nat.add_assoc,Nat.add_comm 16] at this
 rintro _ _ w2 ⟨rfl,z,m,hst,hz,hm,hzx⟩
 cases hst
 have e256:((ByteArray.size lenT:Nat):Int)=256:=by rw [lenT_size];rfl
 refine IFB_dec (fun h=>?_) (fun h=>?_)
 ·rw [show min 8 64=8 from rfl,fdiv_pow,wrap_u8_id (by omega) (by omega)]
  have hlt:z / 2 ^ 8<256:=by omega
  have ht:=lenT_is hlt
  refine⟨⟨by omega,by show _<((ByteArray.size lenT:Nat):Int);omega⟩,(sget lenT (z / 2 ^ 8)).toNat+8+m,?_,?_,by omega,rfl⟩
  ·have hT:∀ i,(sget lenT i).toNat<256:=fun i=>UInt8.toNat_lt _
   show Value.int .i64 (IntKind.i64.wrap (IntKind.i64.wrap ((m:Int)+8)+IntKind.i64.wrap ((sget lenT ((z / 2 ^ 8:Nat):Int).toNat).toNat:Int)))=_
   rw [Int.toNat_natCast,wrap_i64 (n:=(m:Int)+8) (by omega) (by omega),wrap_i64 (n:=((sget lenT (z / 2 ^ 8)).toNat:Int)) (by omega) (by omega),wrap_i64 (by omega) (by omega)]
   congr 1
   omega
  ·exact hzx _ (ht.1.shift (s:=8) (by omega)) (by omega)
 ·have hlt:z<256:=by omega
  have ht:=lenT_is hlt
  rw [wrap_u8_id (by omega) (by omega)]
  refine⟨⟨by omega,by show _<((ByteArray.size lenT:Nat):Int);omega⟩,(sget lenT z).toNat+m,?_,?_,by omega,rfl⟩
  ·show Value.int .i64 (IntKind.i64.wrap ((m:Int)+IntKind.i64.wrap ((sget lenT ((z:Nat):Int).toNat).toNat:Int)))=_
   rw [Int.toNat_natCast,wrap_i64 (n:=((sget lenT z).toNat:Int)) (by omega) (by omega),wrap_i64 (by omega) (by omega)]
   congr 1
   omega
  ·exact hzx _ ht.1 (by omega)
def u64V(x:Nat):Value:=.int .u64 (x:Int)
def orL(xs:List Nat):Nat:=xs.foldl (· ||| ·) 0
theorem or_lt{a b w:Nat}:a ||| b<2 ^ w↔a<2 ^ w∧b<2 ^ w :=
 ⟨fun h=>⟨Nat.lt_of_le_of_lt Nat.left_le_or h,Nat.lt_of_le_of_lt Nat.right_le_or h⟩,fun h=>Nat.or_lt_two_pow h.1 h.2⟩
theorem foldl_or(xs:List Nat)(a w:Nat):xs.foldl (· ||| ·) a<2 ^ w↔a<2 ^ w∧∀ x∈xs,x<2 ^ w:=by
 induction xs generalizing a with
 | nil=>simp
 | cons x xs ih=>rw [List.foldl_cons,ih,or_lt];simp [and_assoc]
theorem orL_lt(xs:List Nat)(w:Nat):orL xs<2 ^ w↔∀ x∈xs,x<2 ^ w:=by
 unfold orL
 rw [foldl_or]
 simp [Nat.two_pow_pos]
theorem orL_take{xs:List Nat}{k:Nat}(hk:k<xs.length):orL (xs.take (k+1))=orL (xs.take k) ||| xs[k]:=by
 unfold orL
 rw [List.take_succ_eq_append_getElem hk,List.foldl_append]
 rfl
theorem or64{a b:Nat}(ha:a<18446744073709551616)(hb:b<18446744073709551616):IntKind.u64.wrap (((BitVec.ofInt 64 (a:Int) ||| BitVec.ofInt 64 (b:Int)).toNat:Int))=((a ||| b:Nat):Int):=by
 have e:(BitVec.ofInt 64 (a:Int) ||| BitVec.ofInt 64 (b:Int)).toNat=a ||| b:=by
  rw [BitVec.toNat_or,BitVec.ofInt_natCast,BitVec.ofInt_natCast,BitVec.toNat_ofNat,BitVec.toNat_ofNat,Nat.mod_eq_of_lt (by omega),Nat.mod_eq_of_lt (by omega)]
 have:=(or_lt (w:=64)).2 ⟨ha,hb⟩
 rw [e,wrap_u64_id (by omega) (by omega)]
theorem num_at{w:World}{a:Option Addr}{xs:List Nat}(hl:Rd w a (xs.map u64V)){i:Nat}(hi:i<xs.length):∃ p,a=some p∧w.cell? (p.add (i*1))=some (.int .u64 (xs[i]:Int)):=by
 obtain⟨p,hp,hc⟩:=hl i (u64V xs[i]) (by simp [hi])
 exact⟨p,hp,by rw [Nat.mul_one];exact hc⟩
section
variable {w:World}{a:Option Addr}{c:Nat}{xs:List Nat}
theorem pack_Width_ok(hl:Rd w a (xs.map u64V))(hn:xs.length≤140737488355328)(hx:∀ x∈xs,x<18446744073709551616) :
  Calls Tryz.prog f.pack_Width #[.slice a xs.length c] w (Ret fun v w'=>∃ r:Nat,v=.int .i64 (r:Int)∧IsLen (orL xs) r∧r≤64∧w'=w):=by
 apply R.pack_Width_calls
 unfold R.pack_Width
 refine⟨fun s w1=>w1=w∧∃ k:Nat,k≤xs.length∧s=[.int .u64 (orL (xs.take k):Int),.int .i64 (k:Int)],fun s _=>match s with
   | [_,.int _ i]=>xs.length-i.toNat
   | _=>0,⟨rfl,0,by omega,rfl⟩,?_⟩
 rintro _ _ w1 ⟨rfl,k,hk,hs⟩
 cases hs
 have hall:orL (xs.take k)<18446744073709551616:=(orL_lt (xs.take k) 64).2 fun x h=>hx x (List.mem_of_mem_take h)
 refine IFB_dec (fun hlt=>⟨⟨by omega,hlt⟩,?_⟩) (fun hge=>?_)
 ·have hkl:k<xs.length:=by omega
  obtain⟨p,rfl,hc⟩:=num_at hl hkl
  refine⟨_,by rw [Int.toNat_natCast];exact hc,?_⟩
  have hxk:=hx _ (List.getElem_mem hkl)
  rw [or64 hall hxk,wrap_succ (by omega),← orL_take hkl]
  refine⟨⟨rfl,k+1,by omega,rfl⟩,?_⟩
  simp only [Int.toNat_natCast]
  omega
 ·have hkk:xs.take k=xs:=List.take_of_length_le (by omega)
  rw [hkk] at hall ⊢
  refine (Len64_ok w1 (orL xs) hall).mono ?_
  rintro _ w2 ⟨_,rfl,r,rfl,h1,h2,rfl⟩
  exact⟨_,rfl,r,rfl,h1,h2,rfl⟩
end
theorem pack_Size_ok(w:World)(n wd:Int):Calls Tryz.prog f.pack_Size #[.int .i64 n,.int .i64 wd] w (Ret fun v w'=>w'=w∧v=(if 0≤n∧n≤4096∧0≤wd∧wd≤64 then .tuple #[.int .i64 ((n*wd+7) / 8),.int .i64 0] else .tuple #[.int .i64 0,.int .i64 2])):=by
 apply R.pack_Size_calls
 unfold R.pack_Size
 refine IFB_dec (fun h=>⟨rfl,by rw [if_neg (by omega)]⟩) (fun h1=>IFB_dec (fun h=>⟨rfl,by rw [if_neg (by omega)]⟩) (fun h2=>IFB_dec (fun h=>⟨rfl,by rw [if_neg (by omega)]⟩) (fun h3=>IFB_dec (fun h=>⟨rfl,by rw [if_neg (by omega)]⟩) (fun h4=>⟨rfl,?_⟩))))
 have hm:0≤n*wd:=Int.mul_nonneg (by omega) (by omega)
 have hm2:n*wd≤4096*64:=Int.mul_le_mul (by omega) (by omega) (by omega) (by omega)
 rw [if_pos (by omega),wrap_i64 (n:=n*wd) (by omega) (by omega),wrap_i64 (n:=n*wd+7) (by omega) (by omega),Int.tdiv_eq_ediv_of_nonneg (by omega),wrap_i64 (by omega) (by omega)]
theorem ref_Size_ok(w:World)(n wd:Int):Calls Tryz.prog f.ref01_Size #[.int .i64 n,.int .i64 wd] w (Ret fun v w'=>w'=w∧v=(if 0≤n∧n≤4096∧0≤wd∧wd≤64 then .tuple #[.int .i64 ((n*wd+7) / 8),.int .i64 0] else .tuple #[.int .i64 0,.int .i64 2])):=by
 apply R.ref01_Size_calls
 unfold R.ref01_Size
 have hw:Calls Tryz.prog f.ref01_isWidth #[.int .i64 wd] w (Ret fun v w'=>w'=w∧v=.bool (decide (0≤wd∧wd≤64))):=by
  apply R.ref01_isWidth_calls
  unfold R.ref01_isWidth
  refine IFB_dec (fun h=>⟨rfl,?_⟩) (fun h=>⟨rfl,?_⟩)
  ·congr 1
   simp
   omega
  ·congr 1
   simp
   omega
 refine hw.mono ?_
 rintro _ w1 ⟨_,rfl,rfl,rfl⟩
 refine⟨_,rfl,IFB_not (IFB_dec (fun h0=>?_) (fun h=>⟨rfl,by rw [if_neg (by omega)]⟩))⟩
 refine IFB_dec (fun h=>⟨rfl,by rw [if_neg (by omega)]⟩) (fun h1=>IFB_dec (fun h=>⟨rfl,by rw [if_neg (by omega)]⟩) (fun h2=>⟨rfl,?_⟩))
 have hm:0≤n*wd:=Int.mul_nonneg (by omega) (by omega)
 have hm2:n*wd≤4096*64:=Int.mul_le_mul (by omega) (by omega) (by omega) (by omega)
 rw [if_pos (by omega),wrap_i64 (n:=n*wd) (by omega) (by omega),wrap_i64 (n:=n*wd+7) (by omega) (by omega),Int.tdiv_eq_ediv_of_nonneg (by omega),wrap_i64 (by omega) (by omega)]
theorem ref_Of_ok(w:World)(x wd:Nat)(hx:x<18446744073709551616)(hw:wd≤64):Calls Tryz.prog f.ref01_Of #[.int .u64 (x:Int),.int .i64 (wd:Int)] w (Ret fun v w'=>w'=w∧v=.bool (decide (x<2 ^ wd))):=by
 apply R.ref01_Of_calls
 unfold R.ref01_Of
 refine⟨fun s w1=>w1=w∧∃ k:Nat,k≤wd∧s=[.int .u64 ((x / 2 ^ k:Nat):Int),.int .i64 (k:Int)],fun s _=>match s with
   | [_,.int _ i]=>wd-i.toNat
   | _=>0,⟨rfl,0,by omega,by simp⟩,?_⟩
 rintro _ _ w1 ⟨rfl,k,hk,hs⟩
 cases hs
 have hle:x / 2 ^ k≤x:=Nat.div_le_self _ _
 refine IFB_dec (fun hlt=>?_) (fun hge=>⟨rfl,?_⟩)
 ·have e:IntKind.u64.wrap (Int.tdiv ((x / 2 ^ k:Nat):Int) 2)=((x / 2 ^ k / 2:Nat):Int):=by
   generalize x / 2 ^ k=y at hle
   rw [Int.tdiv_eq_ediv_of_nonneg (by omega),wrap_u64_id (by omega) (by omega)]
   omega
  rw [e,wrap_succ (by omega)]
  refine⟨⟨rfl,k+1,by omega,?_⟩,?_⟩
  ·rw [Nat.pow_succ,← Nat.div_div_eq_div_mul]
  ·simp only [Int.toNat_natCast]
   omega
 ·have:k=wd:=by omega
  subst this
  congr 1
  rw [Bool.eq_iff_iff]
  simp only [beq_iff_eq,decide_eq_true_eq]
  have hp:0<2 ^ k:=Nat.two_pow_pos k
  constructor
  ·intro h
   have h0:x / 2 ^ k=0:=by omega
   exact (Nat.div_eq_zero_iff_lt hp).1 h0
  ·intro h
   have h0:=(Nat.div_eq_zero_iff_lt hp).2 h
   omega
section
variable {w:World}{a:Option Addr}{c:Nat}{xs:List Nat}
theorem ref_Width_ok(hl:Rd w a (xs.map u64V))(hn:xs.length≤140737488355328)(hx:∀ x∈xs,x<18446744073709551616) :
  Calls Tryz.prog f.ref01_Width #[.slice a xs.length c] w (Ret fun v w'=>∃ r:Nat,v=.int .i64 (r:Int)∧IsLen (orL xs) r∧r≤64∧w'=w):=by
 apply R.ref01_Width_calls
 unfold R.ref01_Width
 refine⟨fun s w1=>w1=w∧∃ k r:Nat,k≤xs.length∧r≤64∧IsLen (orL (xs.take k)) r∧s=[.int .i64 (r:Int),.int .i64 (k:Int)],fun s _=>match s with
   | [_,.int _ i]=>xs.length-i.toNat
   | _=>0,⟨rfl,0,0,by omega,by omega,⟨by simp [orL],.inl rfl⟩,rfl⟩,?_⟩
 rintro _ _ w1 ⟨rfl,k,r,hk,hr,hlen,hs⟩
 cases hs
 refine IFB_dec (fun hlt=>⟨⟨by omega,hlt⟩,?_⟩) (fun hge=>?_)
 ·have hkl:k<xs.length:=by omega
  have hxk:=hx _ (List.getElem_mem hkl)
  obtain⟨p,rfl,hc⟩:=num_at hl hkl
  refine⟨_,by rw [Int.toNat_natCast];exact hc,(ref_Of_ok w1 xs[k] r hxk hr).mono ?_⟩
  rintro _ w2 ⟨_,rfl,rfl,rfl⟩
  refine⟨_,rfl,?_⟩
  refine⟨fun s w3=>w3=w2∧∃ q:Nat,r≤q∧q≤64∧(q=r∨¬ xs[k]<2 ^ (q-1))∧s=[.int .i64 (q:Int),.bool (decide (xs[k]<2 ^ q))],fun s _=>match s with
    | [.int _ i,_]=>64-i.toNat
    | _=>0,⟨rfl,r,by omega,by omega,.inl rfl,rfl⟩,?_⟩
  rintro _ _ w3 ⟨rfl,q,hq1,hq2,hq3,hs⟩
  cases hs
  refine IFB_not (IFB_dec (fun hok=>?_) (fun hno=>⟨⟨by omega,hlt⟩,_,by rw [Int.toNat_natCast];exact hc,?_⟩))
  ·rw [wrap_succ (by omega)]
   refine⟨⟨rfl,k+1,q,by omega,hq2,?_,rfl⟩,?_⟩
   ·rw [orL_take hkl]
    refine IsLen.of_le fun wd=>?_
    rw [or_lt,← hlen.le (w:=wd)]
    constructor
    ·intro h
     exact⟨by omega,Nat.lt_of_lt_of_le hok (Nat.pow_le_pow_right (by omega) h)⟩
    ·rintro⟨h1,h2⟩
     rcases hq3 with h | h
     ·omega
     ·rcases Nat.lt_or_ge wd q with hlt2 | hge
      ·exact absurd (Nat.lt_of_lt_of_le h2 (Nat.pow_le_pow_right (by omega) (by omega))) h
      ·exact hge
   ·simp only [Int.toNat_natCast]
    omega
  ·have hq64:q<64:=by
    rcases Nat.lt_or_ge q 64 with h | h
    ·exact h
    ·have:q=64:=by omega
     subst this
     exact absurd hxk hno
   rw [wrap_succ (by omega)]
   refine (ref_Of_ok w3 xs[k] (q+1) hxk (by omega)).mono ?_
   rintro _ w4 ⟨_,rfl,rfl,rfl⟩
   refine⟨_,rfl,⟨rfl,q+1,by omega,by omega,.inr hno,rfl⟩,?_⟩
   simp only [Int.toNat_natCast]
   omega
 ·have hkk:xs.take k=xs:=List.take_of_length_le (by omega)
  rw [hkk] at hlen
  exact⟨r,rfl,hlen,hr,rfl⟩
end
theorem keeps_putObj(w:World)(l:Nat)(o:Obj):Keeps (·=l) w (w.putObj l o) :=
 ⟨rfl,rfl,rfl,by simp,fun k _ hn=>World.putObj_heap_other hn⟩
def stB(f:Nat→Bool):Nat→Nat→Nat
 | 0,_=>0
 | t+1,j=>if j=t / 8∧f t=true then stB f t j ||| 2 ^ (t % 8) else stB f t j
theorem stB_lt(f:Nat→Bool)(t j:Nat):stB f t j<256:=by
 induction t with
 | zero=>simp [stB]
 | succ t ih =>
  unfold stB
  split
  ·exact (or_lt (w:=8)).2 ⟨ih,Nat.pow_lt_pow_right (by omega) (by omega)⟩
  ·exact ih
def bitA(xs:List Nat)(w t:Nat):Bool:=(xs.getD (t / w) 0).testBit (t % w)
def sizeN(n w:Nat):Nat:=(n*w+7) / 8
def packL(xs:List Nat)(w:Nat):List UInt8:=(List.range (sizeN xs.length w)).map fun j=>UInt8.ofNat (stB (bitA xs w) (xs.length*w) j)
theorem packL_len(xs:List Nat)(w:Nat):(packL xs w).length=sizeN xs.length w:=by simp [packL]
def rowC(f:Nat→Bool)(m t:Nat):Array Value:=⟨(List.range m).map fun j=>.int .u8 (stB f t j:Int)⟩
theorem rowC_size(f:Nat→Bool)(m t:Nat):(rowC f m t).size=m:=by simp [rowC]
theorem rowC_get{f:Nat→Bool}{m t j:Nat}(h:j<m):(rowC f m t)[j]?=some (.int .u8 (stB f t j:Int)):=by simp [rowC,h]
theorem rowC_set{f:Nat→Bool}{m t:Nat}(v:Nat)(hv:v=stB f (t+1) (t / 8)):(rowC f m t).setIfInBounds (t / 8) (.int .u8 (v:Int))=rowC f m (t+1):=by
 apply Array.ext'
 apply List.ext_getElem?
 intro i
 simp only [Array.toList_setIfInBounds,rowC,List.getElem?_set,List.length_map,List.length_range]
 by_cases h:t / 8=i
 ·subst h
  by_cases h2:t / 8<m
  ·simp [h2,hv]
  ·simp [h2]
 ·have e:stB f (t+1) i=stB f t i:=by
   conv=>lhs;unfold stB
   rw [if_neg (by omega)]
  by_cases h2:i<m
  ·simp [h,h2,e]
  ·simp [h,h2]
theorem rowC_zero(f:Nat→Bool)(m:Nat):madeCells (Value.int .u8 0).cells (m*1)=rowC f m 0:=by
 apply Array.ext'
 rw [madeCells_one _ rfl]
 simp [rowC,stB,List.map_const']
theorem rowC_end(xs:List Nat)(w:Nat):(rowC (bitA xs w) (sizeN xs.length w) (xs.length*w)).toList=(packL xs w).map byteV:=by
 simp only [rowC,packL,List.map_map]
 apply List.map_congr_left
 intro j _
 have:=stB_lt (bitA xs w) (xs.length*w) j
 exact byteV_of this
/-! ### words of the program -/
theorem bit_prog{x k:Nat}(hx:x<18446744073709551616)(hk:k<64):IntKind.u8.wrap (IntKind.u64.wrap (((BitVec.ofInt 64 (Int.fdiv (x:Int) (2 ^ (min k 64))) &&& BitVec.ofInt 64 1).toNat:Int)))=((x.testBit k).toNat:Int):=by
 rw [show min k 64=k by omega,fdiv_pow]
 have hle:x / 2 ^ k≤x:=Nat.div_le_self _ _
 have e:(BitVec.ofInt 64 ((x / 2 ^ k:Nat):Int) &&& BitVec.ofInt 64 1).toNat=x / 2 ^ k % 2:=by
  rw [BitVec.toNat_and,BitVec.ofInt_natCast,BitVec.toNat_ofNat,Nat.mod_eq_of_lt (by omega)]
  exact Nat.and_two_pow_sub_one_eq_mod _ 1
 rw [e]
 have hm:x / 2 ^ k % 2<2:=Nat.mod_lt _ (by omega)
 rw [Nat.testBit_eq_decide_div_mod_eq]
 generalize x / 2 ^ k % 2=y at hm
 rw [wrap_u64_id (by omega) (by omega),wrap_u8_id (by omega) (by omega)]
 rcases (by omega:y=0∨y=1) with rfl | rfl <;> rfl
theorem and7{t:Nat}(ht:t<9223372036854775808):IntKind.i64.wrap (((BitVec.ofInt 64 (t:Int) &&& BitVec.ofInt 64 7).toNat:Int))=((t % 8:Nat):Int):=by
 have e:(BitVec.ofInt 64 (t:Int) &&& BitVec.ofInt 64 7).toNat=t % 8:=by
  rw [BitVec.toNat_and,BitVec.ofInt_natCast,BitVec.toNat_ofNat,Nat.mod_eq_of_lt (by omega)]
  exact Nat.and_two_pow_sub_one_eq_mod _ 3
 rw [e,wrap_i64 (by omega) (by omega)]
theorem or8{a b:Nat}(ha:a<256)(hb:b<256):IntKind.u8.wrap (((BitVec.ofInt 8 (a:Int) ||| BitVec.ofInt 8 (b:Int)).toNat:Int))=((a ||| b:Nat):Int):=by
 have e:(BitVec.ofInt 8 (a:Int) ||| BitVec.ofInt 8 (b:Int)).toNat=a ||| b:=by
  rw [BitVec.toNat_or,BitVec.ofInt_natCast,BitVec.ofInt_natCast,BitVec.toNat_ofNat,BitVec.toNat_ofNat,Nat.mod_eq_of_lt (by omega),Nat.mod_eq_of_lt (by omega)]
 have:=(or_lt (w:=8)).2 ⟨ha,hb⟩
 rw [e,wrap_u8_id (by omega) (by omega)]
theorem shl_bit{b:Bool}{s:Nat}(hs:s<8):IntKind.u8.wrap ((b.toNat:Int)*2 ^ (min s 8))=((b.toNat*2 ^ s:Nat):Int):=by
 have hp:2 ^ s<2 ^ 8:=Nat.pow_lt_pow_right (by omega) hs
 rw [show min s 8=s by omega]
 have e:((b.toNat:Int)*2 ^ s)=((b.toNat*2 ^ s:Nat):Int):=by norm_cast
 rw [e]
 cases b
 ·simp;decide
 ·simp only [Bool.toNat_true,Nat.one_mul]
  generalize 2 ^ s=y at hp
  rw [wrap_u8_id (by omega) (by omega)]
theorem stB_step(f:Nat→Bool)(t:Nat):stB f t (t / 8) ||| (f t).toNat*2 ^ (t % 8)=stB f (t+1) (t / 8):=by
 conv=>rhs;unfold stB
 cases h:f t
 ·simp
 ·simp
/-! ### the iterator -/
theorem pack_places_ok(w:World)(n wd:Int):Calls Tryz.prog f.pack_places #[.int .i64 n,.int .i64 wd] w (Ret fun v w'=>∃ b1 b2,v=.func (.func f.pack_places_c1) #[] #[.pointer (some ⟨b1,0,none⟩),.pointer (some ⟨b2,0,none⟩)]∧SH (fun _=>False) w w' [(b2,#[.int .i64 wd],ty.int),(b1,#[.int .i64 n],ty.int)]):=by
 apply R.pack_places_calls
 unfold R.pack_places
 exact (SH.start (fun _=>False) w).newB fun b1 w1 _ _ S1=>S1.newB fun b2 w2 _ _ S2=>⟨b1,b2,rfl,S2⟩
theorem places_ok{n wd l b1 b2:Nat}(hn:n≤4096)(hw:wd≤64)(J:Nat→World→Prop)
  (hcell:∀ t w,J t w→w.cell? ⟨b1,0,none⟩=some (.int .i64 (n:Int))∧w.cell? ⟨b2,0,none⟩=some (.int .i64 (wd:Int))) (hdrew:∀ t w,J t w→J t w.drew)
  (hstep:∀ t,t<n*wd→∀ w,J t w→YLD Tryz.prog l #[.int .i64 ((t / wd:Nat):Int),.int .i64 ((t % wd:Nat):Int)] (fun y w'=>y=true∧J (t+1) w') w)
  {w:World} (h0:J 0 w):Calls Tryz.prog f.pack_places_c1 #[.func (.yield l) #[] #[],.pointer (some ⟨b1,0,none⟩),.pointer (some ⟨b2,0,none⟩)] w (Ret fun _ w'=>J (n*wd) w'):=by
 have hm:n*wd≤4096*64:=Nat.mul_le_mul hn hw
 apply R.pack_places_c1_calls
 unfold R.pack_places_c1
 refine⟨fun s w1=>∃ t:Nat,t≤n*wd∧s=[.int .i64 (t:Int)]∧J t w1,fun s _=>match s with
   | [.int _ i]=>n*wd-i.toNat
   | _=>0,⟨0,by omega,rfl,h0⟩,?_⟩
 rintro _ w1 ⟨t,ht,hs,hj⟩
 cases hs
 obtain⟨c1,c2⟩:=hcell t w1 hj
 refine⟨_,c1,_,c2,?_⟩
 have em:IntKind.i64.wrap ((n:Int)*(wd:Int))=((n*wd:Nat):Int):=by rw [← Int.natCast_mul,wrap_i64 (by omega) (by omega)]
 rw [em]
 refine IFB_dec (fun hlt=>?_) (fun hge=>?_)
 ·have hlt':t<n*wd:=by omega
  have hw0:wd≠0:=by rintro rfl;simp at hlt'
  have hj2:=hdrew t w1 hj
  obtain⟨d1,d2⟩:=hcell t _ hj2
  refine⟨_,d2,by omega,_,d2,by omega,?_⟩
  have e1:IntKind.i64.wrap (Int.tdiv (t:Int) (wd:Int))=((t / wd:Nat):Int):=by
   have hle:t / wd≤t:=Nat.div_le_self _ _
   have:Int.tdiv (t:Int) (wd:Int)=((t / wd:Nat):Int):=by rw [Int.tdiv_eq_ediv_of_nonneg (by omega)];norm_cast
   rw [this]
   generalize t / wd=q at hle
   rw [wrap_i64 (by omega) (by omega)]
  have e2:Int.tmod (t:Int) (wd:Int)=((t % wd:Nat):Int):=by rw [Int.tmod_eq_emod_of_nonneg (by omega)];norm_cast
  rw [e1,e2]
  obtain⟨fn,tm,asg,bo,hy,hr⟩:=hstep t hlt' _ hj2
  refine⟨fn,tm,asg,bo,hy,hr.mono ?_⟩
  rintro e w3 ⟨y,he,rfl,hj3⟩
  refine⟨true,he,IFB_false ?_⟩
  rw [wrap_succ (by omega)]
  refine⟨⟨t+1,by omega,rfl,hj3⟩,?_⟩
  simp only [Int.toNat_natCast]
  omega
 ·have:t=n*wd:=by omega
  rw [this] at hj
  exact hj
theorem rr_eta{rr:Loop}(h1:rr.state=.ready)(h2:rr.pending=none):({ rr with state:=if (none:Option Code).isNone then .ready else .done,pending:=none }:Loop)=rr:=by
 cases rr
 simp_all
section
variable {w:World}{a:Option Addr}{c:Nat}{xs:List Nat}
theorem pack_Pack_ok(hl:Rd w a (xs.map u64V))(hn:xs.length≤4096){wd:Nat}(hw:wd≤64)(hx:∀ x∈xs,x<2 ^ wd) :
  Calls Tryz.prog f.pack_Pack #[.int .i64 (wd:Int),.slice a xs.length c] w (Ret fun v w'=>∃ a' c',v=.tuple #[.slice a' (packL xs wd).length c',.int .i64 0]∧NewB w w' (packL xs wd) a' c'):=by
 have h64:(2:Nat) ^ wd≤2 ^ 64:=Nat.pow_le_pow_right (by omega) hw
 have hx64:∀ x∈xs,x<18446744073709551616:=fun x h=>Nat.lt_of_lt_of_le (hx x h) h64
 have hm:xs.length*wd≤4096*64:=Nat.mul_le_mul hn hw
 obtain⟨m,hmd⟩:∃ m,m=sizeN xs.length wd:=⟨_,rfl⟩
 have hmv:m=(xs.length*wd+7) / 8:=hmd
 apply R.pack_Pack_calls
 unfold R.pack_Pack
 refine (SH.start (fun _=>False) w).newB fun b3 w1 hb3 B1 S1=>S1.newB fun b4 w2 hb4 B2 S2=>⟨_,_,_,S2.cell 0 rfl rfl,_,S2.cell 1 rfl rfl,(pack_Size_ok w2 (xs.length:Int) (wd:Int)).mono ?_⟩
 rintro _ w3 ⟨_,rfl,rfl,rfl⟩
 rw [if_pos ⟨by omega,by omega,by omega,by omega⟩]
 refine⟨_,_,rfl,S2.drawB fun w4 B4 S4=>IFB_ne (fun h=>absurd rfl h) (fun _=>⟨_,_,_,S4.cell 0 rfl rfl,_,S4.cell 1 rfl rfl,(pack_Width_ok (hl.grown S4.below) (by omega) hx64).mono ?_⟩)⟩
 rintro _ w5 ⟨_,rfl,r,rfl,hr,hr64,rfl⟩
 have hrw:r≤wd:=hr.le.2 ((orL_lt xs wd).2 hx)
 refine⟨_,rfl,S4.cell 1 rfl rfl,IFB_dec (fun h=>by omega) (fun _=>?_)⟩
 have em:((xs.length:Int)*(wd:Int)+7) / 8=(m:Int):=by
  rw [hmv]
  have:((xs.length:Int)*(wd:Int))=((xs.length*wd:Nat):Int):=by norm_cast
  rw [this]
  omega
 rw [em]
 refine make_new tB (l:=(m:Int)) (c:=(m:Int)) (by omega) (by omega) (by omega) (by omega) fun bo w6 hbo B6 hO6=>?_
 rw [Int.toNat_natCast,rowC_zero (bitA xs wd) m] at hO6
 rw [Int.toNat_natCast]
 have S6:=S4.grown B6
 refine⟨_,_,_,rfl,S6.newB fun b16 w7 hb16 B7 S7=>S7.stoK 0 rfl (show 0<1 by decide) fun w8 K8 S8=>⟨_,_,_,S8.cell 1 rfl rfl,_,S8.cell 2 rfl rfl,(pack_places_ok w8 (xs.length:Int) (wd:Int)).mono ?_⟩⟩
 rintro _ w9 ⟨_,rfl,b1,b2,rfl,P9⟩
 have S9:=S8.grown P9.below
 have hbo6:bo<w6.heap.size:=(Array.getElem?_eq_some_iff.1 hO6).1
 have hO7:=(Keeps.of_below (F:=fun _=>False) B7).at hO6 (by simp)
 have hO8:=K8.at hO7 (show ¬ bo=b16 by omega)
 have hO9:=(Keeps.of_below (F:=fun _=>False) P9.below).at hO8 (by simp)
 have hbo0:w.heap.size≤bo:=Nat.le_trans S4.below.size hbo
 have hbo9:bo<w9.heap.size:=(Array.getElem?_eq_some_iff.1 hO9).1
 have hb49:=S9.lt (x:=(b4,_,_)) (List.mem_cons_of_mem _ (List.mem_cons_self ..))
 have hb39:=S9.lt (x:=(b3,_,_)) (List.mem_cons_of_mem _ (List.mem_cons_of_mem _ (List.mem_cons_self ..)))
 have hb169:=S9.lt (x:=(b16,_,_)) (List.mem_cons_self ..)
 have hb28:=P9.own (b2,_,_) (List.mem_cons_self ..)
 have hb18:=P9.own (b1,_,_) (List.mem_cons_of_mem _ (List.mem_cons_self ..))
 have hb29:=P9.lt (x:=(b2,_,_)) (List.mem_cons_self ..)
 have hb19:=P9.lt (x:=(b1,_,_)) (List.mem_cons_of_mem _ (List.mem_cons_self ..))
 refine⟨_,_,_,rfl,by kernel_rfl,fun rr hst hpe hy=>?_⟩
 obtain⟨W1,hW1⟩:∃ W1,W1=(w9.alloc (.deferred (some []))).alloc (.loop rr):=⟨_,rfl⟩
 rw [← hW1]
 have B91:Below w9.heap.size w9 W1:=by rw [hW1];exact (((Below.refl _ w9).alloc (Nat.le_refl _) _).alloc (by simp) _)
 have sz1:W1.heap.size=w9.heap.size+2:=by rw [hW1];simp
 have hL1:W1.heap[w9.heap.size+1]?=some (.loop rr):=by
  rw [hW1];have:=World.alloc_heap_new (w9.alloc (.deferred (some []))) (.loop rr);rwa [World.size_alloc] at this
 have hD1:W1.heap[w9.heap.size]?=some (.deferred (some [])):=by
  rw [hW1];exact (Below.heap_alloc _ _ _ (by simp)).trans (World.alloc_heap_new w9 _)
 have K91:=Keeps.of_below (F:=fun _=>False) B91
 have hO1:=K91.at hO9 (by simp)
 obtain⟨L,hLd⟩:∃ L,L=w9.heap.size+1:=⟨_,rfl⟩
 rw [← hLd] at hL1 hy ⊢
 have Bw1:Below w.heap.size w W1:=S9.below.trans (B91.mono S9.below.size)
 have w09:=S9.below.size
 have low:∀ {w':World},Keeps (fun k=>k=bo∨k=L) W1 w'→Below w.heap.size w w':=fun K=>Bw1.trans (K.below Bw1.size fun k hk h=>by omega)
 have hc3:∀ {w':World},Keeps (fun k=>k=bo∨k=L) W1 w'→w'.cell? ⟨b3,0,none⟩=some (.int .i64 (wd:Int)):=fun K=>K.cell (K91.cell (S9.cell 2 rfl rfl) (by simp)) (by
  have:=S6.lt (x:=(b3,_,_)) (List.mem_cons_of_mem _ (List.mem_cons_self ..))
  have h4:=S4.lt (x:=(b3,_,_)) (List.mem_cons_of_mem _ (List.mem_cons_self ..))
  show ¬ (b3=bo∨b3=L)
  omega)
 have hc4:∀ {w':World},Keeps (fun k=>k=bo∨k=L) W1 w'→w'.cell? ⟨b4,0,none⟩=some (.slice a xs.length c):=fun K=>K.cell (K91.cell (S9.cell 1 rfl rfl) (by simp)) (by
  have h4:=S4.lt (x:=(b4,_,_)) (List.mem_cons_self ..)
  show ¬ (b4=bo∨b4=L)
  omega)
 have hc16:∀ {w':World},Keeps (fun k=>k=bo∨k=L) W1 w'→w'.cell? ⟨b16,0,none⟩=some (.slice (some ⟨bo,0,none⟩) m m):=fun K=>K.cell (K91.cell (S9.cell 0 rfl rfl) (by simp)) (by
  show ¬ (b16=bo∨b16=L)
  omega)
 have hbo8:bo<w8.heap.size:=(Array.getElem?_eq_some_iff.1 hO8).1
 have e18:w8.heap.size≤b1:=by simpa using hb18
 have e28:w8.heap.size≤b2:=by simpa using hb28
 have hb1:∀ {w':World},Keeps (fun k=>k=bo∨k=L) W1 w'→w'.cell? ⟨b1,0,none⟩=some (.int .i64 (xs.length:Int))∧w'.cell? ⟨b2,0,none⟩=some (.int .i64 (wd:Int)):=fun K =>
  ⟨K.cell (K91.cell (P9.cell 1 rfl rfl) (by simp)) (by show ¬ (b1=bo∨b1=L);omega),K.cell (K91.cell (P9.cell 0 rfl rfl) (by simp)) (by show ¬ (b2=bo∨b2=L);omega)⟩
 have hyp:∀ t,t<xs.length*wd→∀ wx,(Keeps (fun k=>k=bo∨k=L) W1 wx∧wx.heap[bo]?=some (.cells (rowC (bitA xs wd) m t) ty.uint8 (0,0))∧wx.heap[L]?=some (.loop rr)) →
   YLD Tryz.prog L #[.int .i64 ((t / wd:Nat):Int),.int .i64 ((t % wd:Nat):Int)] (fun y w'=>y=true∧(Keeps (fun k=>k=bo∨k=L) W1 w'∧w'.heap[bo]?=some (.cells (rowC (bitA xs wd) m (t+1)) ty.uint8 (0,0))∧w'.heap[L]?=some (.loop rr))) wx:=by
  rintro t ht wx ⟨K,hO,hL⟩
  have hw0:0<wd:=Nat.pos_of_ne_zero (by rintro rfl;simp at ht)
  have hti:t / wd<xs.length:=(Nat.div_lt_iff_lt_mul hw0).2 ht
  have htk:t % wd<wd:=Nat.mod_lt _ hw0
  have htm:t / 8<m:=by omega
  refine hy _ _ _ wx hL ⟨hL,?_⟩
  obtain⟨w11,hw11⟩:∃ w11,w11=wx.putObj L (.loop { rr with state:=.busy }):=⟨_,rfl⟩
  rw [← hw11]
  have hLlt:L<wx.heap.size:=(Array.getElem?_eq_some_iff.1 hL).1
  have K11:Keeps (fun k=>k=L) wx w11:=by rw [hw11];exact keeps_putObj _ _ _
  have hL11:w11.heap[L]?=some (.loop { rr with state:=.busy }):=by rw [hw11];exact World.putObj_heap_same hLlt
  have K2:Keeps (fun k=>k=bo∨k=L) W1 w11.drew:=(K.trans K11 (fun k _ h=>.inr h)).drew
  have hO12:w11.drew.heap[bo]?=some (.cells (rowC (bitA xs wd) m t) ty.uint8 (0,0)):=K11.at hO (by show ¬ bo=L;omega)
  refine⟨_,hc3 (K.trans K11 (fun k _ h=>.inr h)),?_⟩
  unfold DRAW
  have et:IntKind.i64.wrap (IntKind.i64.wrap (((t / wd:Nat):Int)*(wd:Int))+((t % wd:Nat):Int))=(t:Int):=by
   have h1:((t / wd:Nat):Int)*(wd:Int)=((t / wd*wd:Nat):Int):=by rw [Int.natCast_mul]
   have h2:=Nat.div_add_mod t wd
   rw [Nat.mul_comm] at h2
   rw [h1]
   generalize t / wd*wd=q at h2
   generalize t % wd=r' at h2
   rw [wrap_i64 (n:=(q:Int)) (by omega) (by omega),wrap_i64 (by omega) (by omega)]
   omega
  have ed:Int.fdiv (t:Int) (2 ^ (min 3 64))=((t / 8:Nat):Int):=fdiv_pow t 3
  rw [et,ed]
  refine⟨_,_,_,hc16 K2,⟨by omega,by omega⟩,?_⟩
  rw [Int.toNat_natCast]
  have ea:(⟨bo,0,none⟩:Addr).add (t / 8*1)=⟨bo,t / 8,none⟩:=by rw [addr_add_blk];simp
  obtain⟨p,rfl,hc⟩:=num_at (hl.grown (low K2)) hti
  show ∃ n:Int,w11.drew.cell? ((⟨bo,0,none⟩:Addr).add (t / 8*1))=some (.int .u8 n)∧_
  rw [ea]
  have hcell:w11.drew.cell? ⟨bo,t / 8,none⟩=some (.int .u8 (stB (bitA xs wd) t (t / 8):Int)):=by
   simp only [World.cell?,hO12]
   simpa using rowC_get htm
  refine⟨_,hcell,_,_,_,hc4 K2,⟨Int.natCast_nonneg _,by exact_mod_cast hti⟩,_,by rw [Int.toNat_natCast];exact hc,Int.natCast_nonneg _,?_⟩
  rw [and7 (by omega),Int.toNat_natCast,Int.toNat_natCast,bit_prog (hx64 _ (List.getElem_mem hti)) (by omega),shl_bit (Nat.mod_lt _ (by omega))]
  have hbit:xs[t / wd].testBit (t % wd)=bitA xs wd t:=by simp [bitA,List.getD,hti]
  rw [hbit]
  have hsh:(bitA xs wd t).toNat*2 ^ (t % 8)<256:=by
   have:2 ^ (t % 8)<2 ^ 8:=Nat.pow_lt_pow_right (by omega) (Nat.mod_lt _ (by omega))
   cases bitA xs wd t
   ·simp
   ·simpa using this
  rw [or8 (stB_lt _ _ _) hsh,stB_step]
  refine⟨by omega,⟨by omega,by omega⟩,?_⟩
  show STO ((⟨bo,0,none⟩:Addr).add (t / 8*1)) _ _ _
  rw [ea]
  refine sto_blk hO12 (by rw [rowC_size];exact htm) fun w13 K13 hO13=>?_
  have hL13:w13.heap[L]?=some (.loop { rr with state:=.busy }):=K13.at (show w11.drew.heap[L]?=_ from hL11) (by show ¬ L=bo;omega)
  refine⟨hL13,rfl,?_⟩
  rw [rr_eta hst hpe]
  rw [rowC_set _ rfl] at hO13
  have hlt13:L<w13.heap.size:=(Array.getElem?_eq_some_iff.1 hL13).1
  refine⟨(K2.trans K13 (fun k _ h=>.inl h)).trans (keeps_putObj _ _ _) (fun k _ h=>.inr h),?_,World.putObj_heap_same hlt13⟩
  exact (World.putObj_heap_other (by omega)).trans hO13
 refine (places_ok (l:=L) (b1:=b1) (b2:=b2) hn hw (fun t wx=>Keeps (fun k=>k=bo∨k=L) W1 wx∧wx.heap[bo]?=some (.cells (rowC (bitA xs wd) m t) ty.uint8 (0,0))∧wx.heap[L]?=some (.loop rr))
  (fun t wx hj=>hb1 hj.1) (fun t wx hj=>⟨hj.1.drew,hj.2.1,hj.2.2⟩) hyp ⟨.refl _ _,hO1,hL1⟩).mono ?_
 rintro _ w14 ⟨_,rfl,K14,hO14,hL14⟩
 have hlt14:L<w14.heap.size:=(Array.getElem?_eq_some_iff.1 hL14).1
 refine⟨⟨_,rfl⟩,none,by rw [rr_eta hst hpe];exact hL14,rfl,?_⟩
 obtain⟨w15,hw15⟩:∃ w15,w15=w14.putObj L (.loop { rr with state:=.exhausted,pending:=none }):=⟨_,rfl⟩
 rw [← hw15]
 have K15:Keeps (fun k=>k=bo∨k=L) W1 w15:=by rw [hw15];exact K14.trans (keeps_putObj _ _ _) (fun k _ h=>.inr h)
 have hO15:w15.heap[bo]?=some (.cells (rowC (bitA xs wd) m (xs.length*wd)) ty.uint8 (0,0)):=by rw [hw15];exact (World.putObj_heap_other (by omega)).trans hO14
 have hD15:w15.heap[w9.heap.size]?=some (.deferred (some [])):=K15.at hD1 (by show ¬ (w9.heap.size=bo∨w9.heap.size=L);omega)
 have B15:=low K15
 refine⟨_,_,_,hc16 K15,hD15,some ⟨bo,0,none⟩,m,?_,?_⟩
 ·rw [packL_len,← hmd]
 ·refine⟨⟨by simp,.inr ⟨bo,rowC (bitA xs wd) m (xs.length*wd),rfl,(World.putObj_heap_other (by omega)).trans hO15,?_,by omega,by rw [rowC_size];omega,?_⟩⟩,fun k hk=>?_,B15.trans ((keeps_putObj w15 w9.heap.size _).below B15.size fun k hk he=>by omega)⟩
  ·rw [packL_len,← hmd];exact Nat.le_refl _
  ·have e:=rowC_end xs wd
   rw [← hmd] at e
   rw [e,Nat.mul_one,← List.length_map (f:=byteV),List.take_length]
  ·cases hk
   exact hbo0
end
theorem rowC_skip{f:Nat→Bool}{m t:Nat}(h:f t=false):rowC f m (t+1)=rowC f m t:=by
 unfold rowC
 congr 1
 apply List.map_congr_left
 intro j _
 conv=>lhs;unfold stB
 rw [if_neg (by simp [h])]
section
variable {w:World}{a:Option Addr}{c:Nat}{xs:List Nat}
theorem ref_Pack_ok(hl:Rd w a (xs.map u64V))(hn:xs.length≤4096){wd:Nat}(hw:wd≤64)(hx:∀ x∈xs,x<2 ^ wd) :
  Calls Tryz.prog f.ref01_Pack #[.int .i64 (wd:Int),.slice a xs.length c] w (Ret fun v w'=>∃ a' c',v=.tuple #[.slice a' (packL xs wd).length c',.int .i64 0]∧NewB w w' (packL xs wd) a' c'):=by
 have h64:(2:Nat) ^ wd≤2 ^ 64:=Nat.pow_le_pow_right (by omega) hw
 have hx64:∀ x∈xs,x<18446744073709551616:=fun x h=>Nat.lt_of_lt_of_le (hx x h) h64
 have hm:xs.length*wd≤4096*64:=Nat.mul_le_mul hn hw
 obtain⟨m,hmd⟩:∃ m,m=sizeN xs.length wd:=⟨_,rfl⟩
 have hmv:m=(xs.length*wd+7) / 8:=hmd
 apply R.ref01_Pack_calls
 unfold R.ref01_Pack
 refine (ref_Size_ok w (xs.length:Int) (wd:Int)).mono ?_
 rintro _ w ⟨_,rfl,rfl,rfl⟩
 rw [if_pos ⟨by omega,by omega,by omega,by omega⟩]
 refine⟨_,_,rfl,IFB_ne (fun h=>absurd rfl h) (fun _=>?_)⟩
 have em:((xs.length:Int)*(wd:Int)+7) / 8=(m:Int):=by
  rw [hmv]
  have:((xs.length:Int)*(wd:Int))=((xs.length*wd:Nat):Int):=by norm_cast
  rw [this]
  omega
 rw [em]
 refine make_new tB (l:=(m:Int)) (c:=(m:Int)) (by omega) (by omega) (by omega) (by omega) fun bo w2 hbo B2 hO2=>?_
 rw [Int.toNat_natCast,rowC_zero (bitA xs wd) m] at hO2
 rw [Int.toNat_natCast]
 refine⟨_,_,_,rfl,?_⟩
 have low:∀ {w':World},Keeps (fun k=>k=bo) w2 w'→Below w.heap.size w w':=fun K=>B2.trans (K.below B2.size fun k hk h=>by omega)
 refine⟨fun s w3=>∃ i:Nat,i≤xs.length∧s=[.int .i64 (i:Int)]∧Keeps (fun k=>k=bo) w2 w3∧w3.heap[bo]?=some (.cells (rowC (bitA xs wd) m (i*wd)) ty.uint8 (0,0)),fun s _=>match s with
   | [.int _ i]=>xs.length-i.toNat
   | _=>0,⟨0,by omega,rfl,.refl _ _,by rw [Nat.zero_mul];exact hO2⟩,?_⟩
 rintro _ w3 ⟨i,hi,hs,K3,hO3⟩
 cases hs
 refine IFB_dec (fun hlt=>⟨⟨by omega,hlt⟩,?_⟩) (fun hge=>?_)
 ·have hil:i<xs.length:=by omega
  have hxi:=hx64 _ (List.getElem_mem hil)
  obtain⟨p,rfl,hc⟩:=num_at (hl.grown (low K3)) hil
  refine⟨_,by rw [Int.toNat_natCast];exact hc,(ref_Of_ok w3 xs[i] wd hxi hw).mono ?_⟩
  rintro _ w4 ⟨_,rfl,rfl,rfl⟩
  refine⟨_,rfl,IFB_not (IFB_dec (fun _=>⟨⟨by omega,hlt⟩,_,by rw [Int.toNat_natCast];exact hc,?_⟩) (fun h=>absurd (hx _ (List.getElem_mem hil)) h))⟩
  refine⟨fun s w5=>∃ k:Nat,k≤wd∧s=[.int .u64 ((xs[i] / 2 ^ k:Nat):Int),.int .i64 (k:Int)]∧Keeps (fun k=>k=bo) w2 w5∧w5.heap[bo]?=some (.cells (rowC (bitA xs wd) m (i*wd+k)) ty.uint8 (0,0)),fun s _=>match s with
    | [_,.int _ k]=>wd-k.toNat
    | _=>0,⟨0,by omega,by simp,K3,hO3⟩,?_⟩
  rintro _ _ w5 ⟨k,hk,hs,K5,hO5⟩
  cases hs
  refine IFB_dec (fun hlt2=>?_) (fun hge2=>?_)
  ·have hkw:k<wd:=by omega
   have hiw:i*wd+k<xs.length*wd:=by
    have:(i+1)*wd≤xs.length*wd:=Nat.mul_le_mul_right _ hil
    rw [Nat.succ_mul] at this
    omega
   have hle:xs[i] / 2 ^ k≤xs[i]:=Nat.div_le_self _ _
   have e2:IntKind.u64.wrap (Int.tdiv ((xs[i] / 2 ^ k:Nat):Int) 2)=((xs[i] / 2 ^ (k+1):Nat):Int):=by
    rw [Nat.pow_succ,← Nat.div_div_eq_div_mul]
    generalize xs[i] / 2 ^ k=y at hle
    rw [Int.tdiv_eq_ediv_of_nonneg (by omega),wrap_u64_id (by omega) (by omega)]
    omega
   rw [e2,wrap_succ (by omega)]
   have em2:Int.tmod ((xs[i] / 2 ^ k:Nat):Int) 2=((xs[i] / 2 ^ k % 2:Nat):Int):=by
    rw [Int.tmod_eq_emod_of_nonneg (Int.natCast_nonneg _)]
    norm_cast
   rw [em2]
   have hbit:bitA xs wd (i*wd+k)=decide (xs[i] / 2 ^ k % 2=1):=by
    have h1:(i*wd+k) / wd=i:=by
     rw [Nat.mul_comm,Nat.mul_add_div (by omega),Nat.div_eq_of_lt hkw,Nat.add_zero]
    have h2:(i*wd+k) % wd=k:=by
     rw [Nat.mul_comm,Nat.mul_add_mod,Nat.mod_eq_of_lt hkw]
    unfold bitA
    rw [h1,h2,Nat.testBit_eq_decide_div_mod_eq]
    simp [List.getD,hil]
   obtain⟨t,ht⟩:∃ t,t=i*wd+k:=⟨_,rfl⟩
   rw [← ht] at hbit hO5 hiw
   have hmu:∀ wx:World,Keeps (fun k=>k=bo) w2 wx→wx.heap[bo]?=some (.cells (rowC (bitA xs wd) m (t+1)) ty.uint8 (0,0)) →
     ((∃ k':Nat,k'≤wd∧[Value.int .u64 ((xs[i] / 2 ^ (k+1):Nat):Int),.int .i64 ((k+1:Nat):Int)]=[.int .u64 ((xs[i] / 2 ^ k':Nat):Int),.int .i64 (k':Int)]∧Keeps (fun k=>k=bo) w2 wx∧wx.heap[bo]?=some (.cells (rowC (bitA xs wd) m (i*wd+k')) ty.uint8 (0,0)))∧wd-((k+1:Nat):Int).toNat<wd-((k:Nat):Int).toNat):=by
    intro wx K hO
    refine⟨⟨k+1,by omega,rfl,K,by rw [← Nat.add_assoc,← ht];exact hO⟩,?_⟩
    simp only [Int.toNat_natCast]
    omega
   refine IFB_eq (fun h1=>?_) (fun h1=>?_)
   ·have hb1:bitA xs wd t=true:=by
     rw [hbit]
     exact decide_eq_true (by exact_mod_cast h1)
    unfold DRAW
    have et:IntKind.i64.wrap (IntKind.i64.wrap ((i:Int)*(wd:Int))+(k:Int))=(t:Int):=by
     have h1:(i:Int)*(wd:Int)=((i*wd:Nat):Int):=by rw [Int.natCast_mul]
     rw [h1,ht]
     generalize i*wd=q at ht
     rw [wrap_i64 (n:=(q:Int)) (by omega) (by omega),wrap_i64 (by omega) (by omega)]
     omega
    have ed:IntKind.i64.wrap (Int.tdiv (t:Int) 8)=((t / 8:Nat):Int):=by
     rw [Int.tdiv_eq_ediv_of_nonneg (by omega),wrap_i64 (by omega) (by omega)]
     omega
    have er:Int.tmod (t:Int) 8=((t % 8:Nat):Int):=by
     rw [Int.tmod_eq_emod_of_nonneg (by omega)]
     omega
    rw [et,ed,er]
    have htm:t / 8<m:=by omega
    refine⟨⟨by omega,by omega⟩,?_⟩
    rw [Int.toNat_natCast,Int.toNat_natCast]
    have ea:(⟨bo,0,none⟩:Addr).add (t / 8*1)=⟨bo,t / 8,none⟩:=by rw [addr_add_blk];simp
    have hcell:w5.drew.cell? ((⟨bo,0,none⟩:Addr).add (t / 8*1))=some (.int .u8 (stB (bitA xs wd) t (t / 8):Int)):=by
     rw [ea]
     have:w5.drew.heap[bo]?=some (.cells (rowC (bitA xs wd) m t) ty.uint8 (0,0)):=hO5
     simp only [World.cell?,this]
     simpa using rowC_get htm
    refine⟨by omega,_,hcell,⟨by omega,by omega⟩,?_⟩
    have esh:=shl_bit (b:=true) (s:=t % 8) (Nat.mod_lt _ (by omega))
    simp only [Bool.toNat_true,Nat.one_mul] at esh
    rw [show (((1:Nat):Int))=1 from rfl] at esh
    rw [esh]
    have hsh:2 ^ (t % 8)<2 ^ 8:=Nat.pow_lt_pow_right (by omega) (Nat.mod_lt _ (by omega))
    rw [or8 (stB_lt _ _ _) hsh]
    have estep:=stB_step (bitA xs wd) t
    rw [hb1] at estep
    simp only [Bool.toNat_true,Nat.one_mul] at estep
    rw [estep]
    unfold PTR
    simp only
    rw [ea]
    refine sto_blk (show w5.drew.heap[bo]?=_ from hO5) (by rw [rowC_size];exact htm) fun w7 K7 hO7=>?_
    rw [rowC_set _ rfl] at hO7
    exact hmu w7 (K5.drew.trans K7 (fun k _ h=>h)) hO7
   ·have hb0:bitA xs wd t=false:=by
     rw [hbit]
     exact decide_eq_false (fun h=>h1 (by exact_mod_cast h))
    exact hmu w5 K5 (by rw [rowC_skip hb0];exact hO5)
  ·have:k=wd:=by omega
   subst this
   rw [wrap_succ (by omega)]
   refine⟨⟨i+1,by omega,rfl,K5,by rw [Nat.succ_mul];exact hO5⟩,?_⟩
   simp only [Int.toNat_natCast]
   omega
 ·have:i=xs.length:=by omega
  subst this
  have B3:=low K3
  refine⟨some ⟨bo,0,none⟩,m,by rw [packL_len,← hmd],⟨by simp,.inr ⟨bo,rowC (bitA xs wd) m (xs.length*wd),rfl,hO3,?_,by omega,by rw [rowC_size];omega,?_⟩⟩,fun k hk=>?_,B3⟩
  ·rw [packL_len,← hmd];exact Nat.le_refl _
  ·have e:=rowC_end xs wd
   rw [← hmd] at e
   rw [e,Nat.mul_one,← List.length_map (f:=byteV),List.take_length]
  ·cases hk
   exact hbo
end
end Go.Proofs.YtipgnehlihmdhaaGreatDoor
namespace Go.Proofs
set_option maxRecDepth 100000
open Go.RowKit Go.Maps Go.Sort Go.Shelf
def Tryz.keys141_ren:Go.Shelf.Ren:=⟨fun | 7=>141 | 10=>179 | n=>n,fun | 23=>189 | 26=>9 | 3=>64 | 28=>192 | 0=>0 | 27=>191 | 33=>42 | 4=>4 | n=>n,fun | n=>n⟩
theorem Tryz.keys141:Go.Proofs.SlLaysZ.n7 Tryz.prog Tryz.keys141_ren:={
 mixed:=by kernel_rfl
 f7:=⟨Tryz.f141.name,by decide,Tryz.func141.trans (congrArg some (by kernel_rfl))⟩
 f10:=⟨Tryz.f179.name,by decide,Tryz.func179.trans (congrArg some (by kernel_rfl))⟩
 t0:=Tryz.underlying0
 a0:=Tryz.isAgg0
 z0:=Tryz.sizeOf0
 v0:=Tryz.zeroValue0
 t4:=Tryz.underlying4
 a4:=Tryz.isAgg4
 z4:=Tryz.sizeOf4
 v4:=Tryz.zeroValue4
 t23:=Tryz.underlying189
 a23:=Tryz.isAgg189
 z23:=Tryz.sizeOf189
 v23:=Tryz.zeroValue189
 t26:=Tryz.underlying9
 a26:=Tryz.isAgg9
 z26:=Tryz.sizeOf9
 v26:=Tryz.zeroValue9
 t27:=Tryz.underlying191
 a27:=Tryz.isAgg191
 z27:=Tryz.sizeOf191
 v27:=Tryz.zeroValue191
 t28:=Tryz.underlying192
 a28:=Tryz.isAgg192
 z28:=Tryz.sizeOf192
 v28:=Tryz.zeroValue192
 t33:=Tryz.underlying42
 a33:=Tryz.isAgg42
 z33:=Tryz.sizeOf42
 v33:=Tryz.zeroValue42 }
def Tryz.sorted140_ren:Go.Shelf.Ren:=⟨fun | 6=>140 | 8=>177 | 9=>178 | 11=>197 | 13=>199 | 12=>198 | 23=>216 | 24=>135 | 14=>207 | 15=>208 | 16=>209 | 17=>210 | 18=>211 | 19=>212 | 20=>213 | 21=>214 | 22=>215 | 25=>222 | 26=>223 | 27=>224 | 28=>225 | 29=>226 | 30=>227 | 31=>228 | n=>n,fun | 26=>9 | 28=>192 | 24=>33 | 0=>0 | 3=>3 | 37=>88 | 48=>108 | 50=>64 | 4=>4 | 40=>254 | 39=>253 | 45=>212 | 5=>5 | 9=>9 | 51=>268 | 55=>272 | 57=>274 | 58=>275 | 33=>42 | n=>n,fun | n=>n⟩
theorem Tryz.sorted140:Go.Proofs.SlLaysZ.n6 Tryz.prog Tryz.sorted140_ren:={
 mixed:=by kernel_rfl
 f6:=⟨Tryz.f140.name,by decide,Tryz.func140.trans (congrArg some (by kernel_rfl))⟩
 f8:=⟨Tryz.f177.name,by decide,Tryz.func177.trans (congrArg some (by kernel_rfl))⟩
 f11:=⟨Tryz.f197.name,by decide,Tryz.func197.trans (congrArg some (by kernel_rfl))⟩
 t0:=Tryz.underlying0
 a0:=Tryz.isAgg0
 z0:=Tryz.sizeOf0
 v0:=Tryz.zeroValue0
 t24:=Tryz.underlying33
 a24:=Tryz.isAgg33
 z24:=Tryz.sizeOf33
 v24:=Tryz.zeroValue33
 t26:=Tryz.underlying9
 a26:=Tryz.isAgg9
 z26:=Tryz.sizeOf9
 v26:=Tryz.zeroValue9
 t28:=Tryz.underlying192
 a28:=Tryz.isAgg192
 z28:=Tryz.sizeOf192
 v28:=Tryz.zeroValue192
 i26:=by kernel_rfl }
def Tryz.sort178_ren:Go.Shelf.Ren:=⟨fun | 6=>178 | 8=>199 | 9=>198 | 19=>216 | 20=>135 | 21=>207 | 22=>208 | 23=>209 | 24=>210 | 25=>211 | 26=>212 | 27=>213 | 28=>214 | 29=>215 | 36=>222 | 31=>223 | 32=>224 | 37=>225 | 38=>226 | 39=>227 | 41=>228 | n=>n,fun | 27=>33 | 29=>9 | 3=>3 | 32=>88 | 26=>33 | 0=>0 | 44=>108 | 46=>64 | 4=>4 | 36=>254 | 35=>253 | 41=>212 | 5=>5 | 9=>9 | 53=>268 | 57=>272 | 63=>274 | 64=>275 | n=>n,fun | n=>n⟩
theorem Tryz.sort178:Go.Proofs.SlLaysM.n6 Tryz.prog Tryz.sort178_ren:={
 mixed:=by kernel_rfl
 f6:=⟨Tryz.f178.name,by decide,Tryz.func178.trans (congrArg some (by kernel_rfl))⟩
 f8:=Tryz.func199.trans (congrArg some (by kernel_rfl))
 f9:=⟨Tryz.f198.name,by decide,Tryz.func198.trans (congrArg some (by kernel_rfl))⟩
 f19:=Tryz.func216.trans (congrArg some (by kernel_rfl))
 f20:=Tryz.func135.trans (congrArg some (by kernel_rfl))
 f21:=⟨Tryz.f207.name,by decide,Tryz.func207.trans (congrArg some (by kernel_rfl))⟩
 f22:=⟨Tryz.f208.name,by decide,Tryz.func208.trans (congrArg some (by kernel_rfl))⟩
 f23:=⟨Tryz.f209.name,by decide,Tryz.func209.trans (congrArg some (by kernel_rfl))⟩
 f24:=⟨Tryz.f210.name,by decide,Tryz.func210.trans (congrArg some (by kernel_rfl))⟩
 f25:=⟨Tryz.f211.name,by decide,Tryz.func211.trans (congrArg some (by kernel_rfl))⟩
 f26:=⟨Tryz.f212.name,by decide,Tryz.func212.trans (congrArg some (by kernel_rfl))⟩
 f27:=⟨Tryz.f213.name,by decide,Tryz.func213.trans (congrArg some (by kernel_rfl))⟩
 f28:=⟨Tryz.f214.name,by decide,Tryz.func214.trans (congrArg some (by kernel_rfl))⟩
 f29:=⟨Tryz.f215.name,by decide,Tryz.func215.trans (congrArg some (by kernel_rfl))⟩
 f31:=Tryz.func223.trans (congrArg some (by kernel_rfl))
 f32:=Tryz.func224.trans (congrArg some (by kernel_rfl))
 f36:=⟨Tryz.f222.name,by decide,Tryz.func222.trans (congrArg some (by kernel_rfl))⟩
 f37:=⟨Tryz.f225.name,by decide,Tryz.func225.trans (congrArg some (by kernel_rfl))⟩
 f38:=⟨Tryz.f226.name,by decide,Tryz.func226.trans (congrArg some (by kernel_rfl))⟩
 f39:=⟨Tryz.f227.name,by decide,Tryz.func227.trans (congrArg some (by kernel_rfl))⟩
 f41:=⟨Tryz.f228.name,by decide,Tryz.func228.trans (congrArg some (by kernel_rfl))⟩
 t0:=Tryz.underlying0
 a0:=Tryz.isAgg0
 z0:=Tryz.sizeOf0
 v0:=Tryz.zeroValue0
 t3:=Tryz.underlying3
 a3:=Tryz.isAgg3
 z3:=Tryz.sizeOf3
 v3:=Tryz.zeroValue3
 t4:=Tryz.underlying4
 a4:=Tryz.isAgg4
 z4:=Tryz.sizeOf4
 v4:=Tryz.zeroValue4
 t5:=Tryz.underlying5
 a5:=Tryz.isAgg5
 z5:=Tryz.sizeOf5
 v5:=Tryz.zeroValue5
 t9:=Tryz.underlying9
 a9:=Tryz.isAgg9
 z9:=Tryz.sizeOf9
 v9:=Tryz.zeroValue9
 t26:=Tryz.underlying33
 a26:=Tryz.isAgg33
 z26:=Tryz.sizeOf33
 v26:=Tryz.zeroValue33
 t27:=Tryz.underlying33
 a27:=Tryz.isAgg33
 z27:=Tryz.sizeOf33
 v27:=Tryz.zeroValue33
 t29:=Tryz.underlying9
 a29:=Tryz.isAgg9
 z29:=Tryz.sizeOf9
 v29:=Tryz.zeroValue9
 t32:=Tryz.underlying88
 a32:=Tryz.isAgg88
 z32:=Tryz.sizeOf88
 v32:=Tryz.zeroValue88
 t35:=Tryz.underlying253
 a35:=Tryz.isAgg253
 z35:=Tryz.sizeOf253
 v35:=Tryz.zeroValue253
 t36:=Tryz.underlying254
 a36:=Tryz.isAgg254
 z36:=Tryz.sizeOf254
 v36:=Tryz.zeroValue254
 t41:=Tryz.underlying212
 a41:=Tryz.isAgg212
 z41:=Tryz.sizeOf212
 v41:=Tryz.zeroValue212
 t44:=Tryz.underlying108
 a44:=Tryz.isAgg108
 z44:=Tryz.sizeOf108
 v44:=Tryz.zeroValue108
 t46:=Tryz.underlying64
 a46:=Tryz.isAgg64
 z46:=Tryz.sizeOf64
 v46:=Tryz.zeroValue64
 t53:=Tryz.underlying268
 a53:=Tryz.isAgg268
 z53:=Tryz.sizeOf268
 v53:=Tryz.zeroValue268
 t57:=Tryz.underlying272
 a57:=Tryz.isAgg272
 z57:=Tryz.sizeOf272
 v57:=Tryz.zeroValue272
 t63:=Tryz.underlying274
 a63:=Tryz.isAgg274
 z63:=Tryz.sizeOf274
 v63:=Tryz.zeroValue274
 t64:=Tryz.underlying275
 a64:=Tryz.isAgg275
 z64:=Tryz.sizeOf275
 v64:=Tryz.zeroValue275 }
theorem Tryz.sorts140(m:Nat):AnyZ.SortsIn Tryz.prog Tryz.sorted140_ren Fence.wide m :=
 ⟨fun blk off cap ss W hH hblk hsz=>callsIn_wide.2 (AnyM.slices_Sort_string Tryz.sort178 blk off cap ss W hH hblk hsz),
 fun p cap W=>callsIn_wide.2 (AnyM.slices_Sort_string_none Tryz.sort178 p cap W)⟩
theorem Tryz.maps_Keys_141(mb:Option Nat)(W:World):CallsIn Fence.wide 5 Tryz.prog 141 #[.map mb] W fun e w'=>e=.returned (.func (.func 179) #[] #[.pointer (some ⟨W.heap.size,0,none⟩)])∧w'=W.alloc (.cells #[.map mb] 189) :=
 AnyZ.keys_in Tryz.keys141 Fence.wide 5 trivial rfl mb W
set_option maxHeartbeats 1000000 in
theorem Tryz.slices_Sorted_keys_140_141{H:Type}(b nn:Nat)(D0:DataW H)(R:Value→Option (DataW H × List MemPlace))(w:World)(hown:w.ownsMap Tryz.prog 9 R b nn D0)(hmax:Maps.size D0≤maxLen)(hbytes:Maps.size D0*16≤140737488355328) :
  CallsIn Fence.wide 5 Tryz.prog 140 #[.func (.func 179) #[] #[.pointer (some ⟨w.heap.size,0,none⟩)]] (w.alloc (.cells #[.map (some b)] 189)) fun e w'=>∃(v:Value) (ss:List (List UInt8)),e=.returned v∧ss.Perm (strKeys D0) ∧
   w'.ownsRow (w.alloc (.cells #[.map (some b)] 189)).heap.size 9 1 v ss.length ((ss.mergeSort (fun x y=>decide (x≤y))).map encStr)∧(v=.slice none 0 0↔ss=[])∧Below (w.alloc (.cells #[.map (some b)] 189)).heap.size (w.alloc (.cells #[.map (some b)] 189)) w':=by
 have hbl:=hown.lt
 have hseq:SeqGives Fence.wide 2 Tryz.prog 179 #[.pointer (some ⟨w.heap.size,0,none⟩)] encStr (fun ss=>ss.Perm (strKeys D0)) (Maps.size D0) (w.alloc (.cells #[.map (some b)] 189)) :=
  AnyZ.keys_gives (ρ:=Tryz.keys141_ren) { Tryz.keys141 with } Fence.wide _ trivial rfl (by omega) w.heap.size b nn D0 _ (by simp) (by simp) (by
   obtain⟨es,clock,hb,Ft,hs,hD⟩:=hown
   exact⟨es,clock,(Below.heap_alloc _ _ b hbl).trans hb,Ft,hs,hD⟩)
 exact AnyZ.sorted_in Tryz.sorted140 Fence.wide 5 trivial trivial trivial trivial rfl (by omega) (Tryz.sorts140 _) (enters_of Tryz.func178 (by kernel_rfl) rfl) 179 #[.pointer (some ⟨w.heap.size,0,none⟩)] trivial (enters_of Tryz.func179 (by kernel_rfl) rfl) _ _ hmax hbytes _ hseq
end Go.Proofs
namespace Go.Dn
set_option maxRecDepth 100000
open Go.RowKit (Below)
open Go.Maps (has Tidy Keyed)
theorem Keeps.of_grownBy{w w':World}{b:Nat}(h:w.grownBy w' (some b)):Keeps (·=b) w w' :=
 ⟨h.os,h.tape,h.output,h.size,fun k hk hn=>h.block k hk (fun e=>hn (Option.some.inj e))⟩
def MapU(P:Program)(k e:TypeId)(q:IntKind)(w:World)(b n:Nat)(g:List UInt8→Option Int):Prop :=
 ∃ D:DataW Unit,w.ownsMap P k (plainElem P e) b n D∧Tidy D∧∀ x,has D (.string x)=(g x).isSome∧D.atKey (.string x) (.lit (.int q 0))=.lit (.int q ((g x).getD 0))
section
variable {P:Program}{k e t:TypeId}{q:IntKind}{w:World}{b n:Nat}{g:List UInt8→Option Int}
theorem MapU.kept(h:MapU P k e q w b n g){F:Nat→Prop}{w':World}(K:Keeps F w w')(hn:¬ F b):MapU P k e q w' b n g:=by
 obtain⟨D,⟨es,clock,hb,r⟩,h2⟩:=h
 exact⟨D,⟨es,clock,K.at hb hn,r⟩,h2⟩
theorem MapU.lt(h:MapU P k e q w b n g):b<w.heap.size:=by
 obtain⟨D,h,_⟩:=h
 exact h.lt
theorem MapU.put(h:MapU P k e q w b n g)(hk:P.underlying k=some .string)(he:P.underlying e=some (.int q))(ht:P.underlying t=some (.map k e))(hn:n<maxLen){s:ByteArray}(hs:s.size≤maxLen){v:Int}(hv:(Lit.int q v).wf=true)
  {f:World→Prop} (hf:∀ w',Keeps (·=b) w w'→MapU P k e q w' b (n+1) (fun y=>if y=bl s then some v else g y)→f w'):OPU P (Instr.mapUpdate t (.map (some b)) (.string s) (.int q v)) f w:=by
 obtain⟨D,hD,hT,hg⟩:=h
 have hkey:keyOf P k (.string s)=some (.string (bl s)):=by simp [keyOf,hk,mapKey,hs,bl]
 obtain⟨w',hrun,hown,hgrow⟩:=hD.update (Maps.string_keyed hk) ht hn hkey (plainElem_int he hv)
 unfold OPU
 rw [hrun]
 have hkl:WideAt.IsKeyLit (.string (bl s)):=by simp [WideAt.IsKeyLit]
 refine hf w' (.of_grownBy hgrow) ⟨_,hown,hT.put hkl _,fun x=>?_⟩
 by_cases hx:x=bl s
 ·subst hx
  simp only [if_true]
  exact⟨Maps.has_put_same hT.isMap hkl _,Maps.atKey_put_same hT.isMap hkl _ _⟩
 ·have hne:Lit.string x≠.string (bl s):=fun e=>hx (by injection e)
  simp only [hx,if_false]
  exact⟨(Maps.has_put_other hne _).trans (hg x).1,(Maps.atKey_put_other hne _ _).trans (hg x).2⟩
theorem MapU.get(h:MapU P k e q w b n g)(hk:P.underlying k=some .string)(he:P.underlying e=some (.int q))(ht:P.underlying t=some (.map k e))(hz:(zeroValue e).run P w=.ok (.int q 0) w){s:ByteArray}(hs:s.size≤maxLen)
  {f:Value→World→Prop} (hf:f (.int q ((g (bl s)).getD 0)) w):OPR P (Instr.lookup t (.map (some b)) (.string s) false) f w:=by
 obtain⟨D,hD,hT,hg⟩:=h
 have hkey:keyOf P k (.string s)=some (.string (bl s)):=by simp [keyOf,hk,mapKey,hs,bl]
 obtain⟨c,hrun,hat,_⟩:=hD.lookup_int (Maps.string_keyed hk) ht he hz hkey
 rw [(hg (bl s)).2] at hat
 have:c=(g (bl s)).getD 0:=by injection hat with h1;injection h1 with _ h2;exact h2.symm
 unfold OPR
 rw [hrun,this]
 exact hf
theorem MapU.keys(h:MapU P k e q w b n g)(hk:P.underlying k=some .string):∃ D:DataW Unit,w.ownsMap P k (plainElem P e) b n D∧Maps.size D≤n∧(strKeys D).Nodup∧∀ x,x∈strKeys D↔(g x).isSome=true:=by
 obtain⟨D,hD,hT,hg⟩:=h
 obtain⟨es,e1,hpw⟩:=hT
 obtain⟨es',hD',hko⟩:=hD.keysOf
 obtain rfl:es=es':=by rw [e1] at hD';simpa using hD'
 have hstr:∀ p∈es,∃ x,p.1=.string x:=fun p hp=>by obtain⟨v,hv⟩:=hko p hp;obtain⟨x,_,hx,_⟩:=Maps.keyOf_str hk hv;exact⟨x,hx⟩
 have hnd:(strKeys D).Nodup:=by
  rw [e1]
  show (es.map fun p=>strOf p.1).Nodup
  refine List.pairwise_map.2 (hpw.imp_of_mem fun {p r} hp' hq' hne e=>hne ?_)
  obtain⟨a,ha⟩:=hstr p hp'
  obtain⟨c,hc⟩:=hstr r hq'
  rw [ha,hc] at e ⊢
  exact congrArg _ e
 refine⟨D,hD,?_,hnd,fun x=>?_⟩
 ·obtain⟨es2,clock,_,_,hs,e2⟩:=hD
  rw [e2]
  simp only [Maps.size,length_sorted,List.length_map,Array.length_toList]
  exact hs
 ·rw [← (hg x).1,e1,Maps.has_eq,List.any_eq_true]
  show x∈es.map (fun p=>strOf p.1)↔_
  rw [List.mem_map]
  constructor
  ·rintro⟨p,hp',rfl⟩
   obtain⟨a,ha⟩:=hstr p hp'
   exact⟨p,hp',by rw [ha];simp [Lit.sameKey,strOf]⟩
  ·rintro⟨p,hp',hs⟩
   obtain⟨a,ha⟩:=hstr p hp'
   rw [ha] at hs
   exact⟨p,hp',by rw [ha];simpa [Lit.sameKey,strOf] using hs⟩
end
end Go.Dn
namespace Go.Proofs.YtipgnehlihmdhaaGreatDoor
set_option maxRecDepth 100000
open Go.Dn Go.Proofs
open Go.RowKit (Below)
set_option linter.unusedVariables false
theorem row_of_owns{w:World}{base:Nat}{e:TypeId}{v:Value}{n:Nat}{xs:List Value}(h:w.ownsRow base e 1 v n xs):∃ a c,v=.slice a n c∧Row w e 1 a n c xs∧∀ k,rowB a=some k→base≤k:=by
 obtain⟨hl,⟨rfl,rfl⟩ | ⟨g,cap,cur,rfl,hb,hg,h1,h2,h3,h4⟩⟩:=h
 ·exact⟨none,0,rfl,⟨hl,.inl ⟨rfl,rfl,rfl⟩⟩,by simp [rowB]⟩
 ·refine⟨_,cap,rfl,⟨hl,.inr ⟨g,cur,rfl,hg,h1,?_,h3,h4⟩⟩,fun k hk=>?_⟩
  ·exact Nat.le_trans h2 (by decide)
  ·cases hk;exact hb
structure IsRise(ls t:List (List UInt8)):Prop where
 up:t.Pairwise (·<·)
 mem:∀ x,x∈t↔x∈ls
theorem lt_nodup{t:List (List UInt8)}(h:t.Pairwise (·<·)):t.Nodup:=h.imp fun {a b} hab e=>by subst e;exact List.lt_irrefl _ hab
theorem IsRise.one{ls t u:List (List UInt8)}(h:IsRise ls t)(h':IsRise ls u):t=u:=by
 have hp:t.Perm u:=(List.perm_ext_iff_of_nodup (lt_nodup h.up) (lt_nodup h'.up)).2 fun x=>(h.mem x).trans (h'.mem x).symm
 exact List.Perm.eq_of_pairwise (le:=fun a b=>a<b) (fun a b _ _ h1 h2=>absurd h2 (List.lt_asymm h1)) h.up h'.up hp
theorem rise_sort{ls ss:List (List UInt8)}(hnd:ss.Nodup)(hm:∀ x,x∈ss↔x∈ls):IsRise ls (ss.mergeSort (fun x y=>decide (x≤y))):=by
 have tr:∀ a b c:List UInt8,leB a b=true→leB b c=true→leB a c=true:=fun a b c h1 h2=>by simp only [leB,decide_eq_true_eq] at *;exact List.le_trans h1 h2
 have to:∀ a b:List UInt8,(leB a b || leB b a)=true:=fun a b=>by simp only [leB,Bool.or_eq_true,decide_eq_true_eq];exact List.le_total a b
 have hs:=List.pairwise_mergeSort tr to ss
 have hp:=List.mergeSort_perm ss leB
 have hn:(ss.mergeSort leB).Nodup:=hp.nodup_iff.2 hnd
 refine⟨?_,fun x=>(hp.mem_iff).trans (hm x)⟩
 refine (hs.and hn).imp fun {a b} ⟨h1,h2⟩=>?_
 simp only [leB,decide_eq_true_eq] at h1
 rcases Decidable.em (a<b) with h | h
 ·exact h
 ·exact absurd (List.le_antisymm h1 (List.not_lt.1 h)) h2
theorem und_str:Tryz.prog.underlying ty.string=some .string:=by kernel_rfl
theorem und_u64:Tryz.prog.underlying ty.uint64=some (.int .u64):=by kernel_rfl
abbrev MapS(w:World)(b n:Nat)(g:List UInt8→Option Int):Prop:=MapU Tryz.prog ty.string ty.uint64 .u64 w b n g
theorem sortedKeys_ok{w:World}{b n:Nat}{g:List UInt8→Option Int}(h:MapS w b n g)(hn:n≤4096){ls:List (List UInt8)}(hg:∀ x,(g x).isSome=true↔x∈ls){k:Value→World→Prop}
  (hk:∀ a c t w',IsRise ls t→Row w' ty.string 1 a t.length c (t.map encStr)→(∀ k,rowB a=some k→w.heap.size≤k)→Below w.heap.size w w'→k (.slice a t.length c) w') :
  Calls Tryz.prog f.maps_Keys_map_string_uint64_string_uint64 #[.map (some b)] w (fun e w1=>∃(fn:FuncId) (fi ca:Array Value),e=.returned (.func (.func fn) fi ca) ∧
   Calls Tryz.prog f.slices_Sorted_string #[.func (.func fn) fi ca] w1 (fun e w2=>∃(a:Option Addr) (l c:Nat),e=.returned (.slice a l c)∧k (.slice a l c) w2)):=by
 obtain⟨D,hD,hsz,hnd,hmem⟩:=h.keys und_str
 refine (callsIn_wide.1 (Tryz.maps_Keys_141 (some b) w)).mono ?_
 rintro _ w1 ⟨rfl,rfl⟩
 refine⟨_,_,_,rfl,(callsIn_wide.1 (Tryz.slices_Sorted_keys_140_141 b n D (plainElem Tryz.prog ty.uint64) w hD (Nat.le_trans (Nat.le_trans hsz hn) (by decide)) (by omega))).mono ?_⟩
 rintro _ w2 ⟨v,ss,rfl,hperm,hrow,_,hb⟩
 obtain⟨a,c,rfl,hR,hnew⟩:=row_of_owns hrow
 have hr:=rise_sort (ls:=ls) (hperm.nodup_iff.2 hnd) (fun x=>(hperm.mem_iff).trans ((hmem x).trans (hg x)))
 have hlen:(ss.mergeSort (fun x y=>decide (x≤y))).length=ss.length:=List.length_mergeSort _
 have sz:w.heap.size≤(w.alloc (.cells #[.map (some b)] ty.map_string_uint64)).heap.size:=by simp
 refine⟨_,_,_,rfl,?_⟩
 have:=hk a c _ w2 hr (by rw [hlen];exact hR) (fun k hk=>Nat.le_trans sz (hnew k hk)) (((Below.refl _ w).alloc (Nat.le_refl _) _).trans (hb.mono sz))
 rwa [hlen] at this
def valC(v:Val):List Value:=[.int .i64 v.1,.int .i64 v.2.1,.string v.2.2]
def stU(f:Nat→Bool)(w:Nat):Nat→Nat→Nat
 | 0,_=>0
 | t+1,j=>if j=t / w∧f t=true then stU f w t j ||| 2 ^ (t % w) else stU f w t j
theorem stU_bit(f:Nat→Bool){w:Nat}(hw:0<w)(t i k:Nat):(stU f w t i).testBit k=(decide (k<w∧i*w+k<t) && f (i*w+k)):=by
 induction t with
 | zero=>simp [stU]
 | succ t ih =>
  unfold stU
  have hd:=Nat.div_add_mod t w
  have hm:=Nat.mod_lt t hw
  rw [Nat.mul_comm] at hd
  split
  ·rename_i h
   obtain⟨rfl,hf⟩:=h
   rw [Nat.testBit_or,ih,Nat.testBit_two_pow]
   by_cases hk:t % w=k
   ·subst hk
    rw [hd]
    simp [hm,hf]
   ·have:¬ (t / w*w+k=t):=by omega
    rw [Bool.eq_iff_iff]
    simp [hk]
    intro _ _
    omega
  ·rename_i h
   rw [ih]
   by_cases hk:k<w∧i*w+k=t
   ·have hi:i=t / w:=by
     rw [← hk.2,Nat.mul_comm,Nat.mul_add_div hw,Nat.div_eq_of_lt hk.1];rfl
    have hf:f t=false:=by
     cases hft:f t
     ·rfl
     ·exact absurd ⟨hi,hft⟩ h
    rw [hk.2,hf]
    simp
   ·rw [Bool.eq_iff_iff]
    simp
    intro _ _
    omega
theorem stB_eq(f:Nat→Bool)(t j:Nat):stB f t j=stU f 8 t j:=by
 induction t with
 | zero=>rfl
 | succ t ih=>unfold stB stU;rw [ih]
theorem stU_lt(f:Nat→Bool){w:Nat}(hw:0<w)(t i:Nat):stU f w t i<2 ^ w:=by
 apply Nat.lt_pow_two_of_testBit
 intro k hk
 rw [stU_bit f hw]
 simp
 intro h
 omega
def bitB(l:List UInt8)(t:Nat):Bool:=(l.getD (t / 8) 0).toNat.testBit (t % 8)
def unpackL(l:List UInt8)(n w:Nat):List Nat:=(List.range n).map (stU (bitB l) w (n*w))
theorem unpackL_len(l:List UInt8)(n w:Nat):(unpackL l n w).length=n:=by simp [unpackL]
theorem unpackL_lt(l:List UInt8)(n w:Nat):∀ x∈unpackL l n w,x<2 ^ w:=by
 intro x hx
 obtain⟨i,_,rfl⟩:=List.mem_map.1 hx
 by_cases hw:0<w
 ·exact stU_lt _ hw _ _
 ·have:w=0:=by omega
  subst this
  simp [stU]
theorem bitA_unpack(l:List UInt8){n w t:Nat}(ht:t<n*w):bitA (unpackL l n w) w t=bitB l t:=by
 have hw:0<w:=Nat.pos_of_ne_zero (by rintro rfl;simp at ht)
 have hi:t / w<n:=(Nat.div_lt_iff_lt_mul hw).2 ht
 have hd:=Nat.div_add_mod t w
 have hm:=Nat.mod_lt t hw
 rw [Nat.mul_comm] at hd
 unfold bitA
 have:(unpackL l n w).getD (t / w) 0=stU (bitB l) w (n*w) (t / w):=by simp [unpackL,hi]
 rw [this,stU_bit _ hw,hd]
 simp [hm,ht]
theorem u8_testBit{c:UInt8}{k:Nat}(hk:8≤k):c.toNat.testBit k=false :=
 Nat.testBit_lt_two_pow (Nat.lt_of_lt_of_le c.toNat_lt (Nat.pow_le_pow_right (by omega) hk))
theorem u8_ext{c d:UInt8}(h:∀ k,k<8→c.toNat.testBit k=d.toNat.testBit k):c=d:=by
 apply UInt8.toNat_inj.1
 apply Nat.eq_of_testBit_eq
 intro k
 by_cases hk:k<8
 ·exact h k hk
 ·rw [u8_testBit (by omega),u8_testBit (by omega)]
theorem pack_get{xs:List Nat}{w j:Nat}(hj:j<sizeN xs.length w):(packL xs w)[j]?=some (UInt8.ofNat (stB (bitA xs w) (xs.length*w) j)):=by
 simp [packL,hj]
theorem pack_bit{xs:List Nat}{w j k:Nat}(hk:k<8):(UInt8.ofNat (stB (bitA xs w) (xs.length*w) j)).toNat.testBit k=(decide (j*8+k<xs.length*w) && bitA xs w (j*8+k)):=by
 rw [ofNat_toNat8 (stB_lt _ _ _),stB_eq,stU_bit _ (by omega)]
 simp [hk]
theorem tail_iff{l:List UInt8}{n w:Nat}(hl:l.length=sizeN n w):packL (unpackL l n w) w=l↔∀ t,n*w≤t→bitB l t=false:=by
 have hs:sizeN (unpackL l n w).length w=l.length:=by rw [unpackL_len,hl]
 have hN:l.length=(n*w+7) / 8:=hl
 constructor
 ·intro h t ht
  by_cases hj:t / 8<l.length
  ·have h1:(packL (unpackL l n w) w)[t / 8]?=l[t / 8]?:=by rw [h]
   rw [pack_get (by omega),List.getElem?_eq_getElem hj] at h1
   have h2:=Option.some.inj h1
   unfold bitB
   have:l.getD (t / 8) 0=l[t / 8]:=by simp [hj]
   rw [this,← h2,pack_bit (Nat.mod_lt _ (by omega)),unpackL_len]
   have:¬ (t / 8*8+t % 8<n*w):=by omega
   simp [this]
  ·unfold bitB
   have:l.getD (t / 8) 0=0:=by simp [List.getD,List.getElem?_eq_none (Nat.le_of_not_lt hj)]
   rw [this]
   simp
 ·intro h
  apply List.ext_getElem?
  intro j
  by_cases hj:j<l.length
  ·rw [pack_get (by omega),List.getElem?_eq_getElem hj]
   congr 1
   apply u8_ext
   intro k hk
   rw [pack_bit hk,unpackL_len]
   have hb:bitB l (j*8+k)=l[j].toNat.testBit k:=by
    unfold bitB
    rw [show (j*8+k) / 8=j by omega,show (j*8+k) % 8=k by omega]
    simp [hj]
   by_cases ht:j*8+k<n*w
   ·rw [bitA_unpack l ht,hb]
    simp [ht]
   ·have:=h _ (Nat.le_of_not_lt ht)
    rw [← hb,this]
    simp [ht]
  ·rw [List.getElem?_eq_none (by rw [packL_len];omega),List.getElem?_eq_none (by omega)]
theorem tail_word{l:List UInt8}{T:Nat}(hl:l.length=(T+7) / 8):(∀ t,T≤t→bitB l t=false)↔(0<l.length→T % 8≠0→(l.getD (l.length-1) 0).toNat / 2 ^ (T % 8)=0):=by
 constructor
 ·intro h h0 h8
  apply Nat.eq_of_testBit_eq
  intro k
  rw [Nat.testBit_div_two_pow,Nat.zero_testBit]
  by_cases hk:T % 8+k<8
  ·have:=h (T+k) (by omega)
   unfold bitB at this
   rw [show (T+k) / 8=l.length-1 by omega,show (T+k) % 8=T % 8+k by omega] at this
   rw [Nat.add_comm]
   exact this
  ·exact u8_testBit (by omega)
 ·intro h t ht
  unfold bitB
  by_cases hj:t / 8<l.length
  ·have h8:T % 8≠0:=by omega
   have:=h (by omega) h8
   have e:t / 8=l.length-1:=by omega
   rw [e]
   have h2:((l.getD (l.length-1) 0).toNat / 2 ^ (T % 8)).testBit (t % 8-T % 8)=false:=by rw [this,Nat.zero_testBit]
   rw [Nat.testBit_div_two_pow] at h2
   rw [show t % 8-T % 8+T % 8=t % 8 by omega] at h2
   exact h2
  ·have:l.getD (t / 8) 0=0:=by simp [List.getD,List.getElem?_eq_none (Nat.le_of_not_lt hj)]
   rw [this]
   simp
/-! ### rows of numbers -/
def rowU(f:Nat→Bool)(w m t:Nat):Array Value:=⟨(List.range m).map fun j=>.int .u64 (stU f w t j:Int)⟩
theorem rowU_size(f:Nat→Bool)(w m t:Nat):(rowU f w m t).size=m:=by simp [rowU]
theorem rowU_get{f:Nat→Bool}{w m t j:Nat}(h:j<m):(rowU f w m t)[j]?=some (.int .u64 (stU f w t j:Int)):=by simp [rowU,h]
theorem rowU_set{f:Nat→Bool}{w m t:Nat}(v:Nat)(hv:v=stU f w (t+1) (t / w)):(rowU f w m t).setIfInBounds (t / w) (.int .u64 (v:Int))=rowU f w m (t+1):=by
 apply Array.ext'
 apply List.ext_getElem?
 intro i
 simp only [Array.toList_setIfInBounds,rowU,List.getElem?_set,List.length_map,List.length_range]
 by_cases h:t / w=i
 ·subst h
  by_cases h2:t / w<m
  ·simp [h2,hv]
  ·simp [h2]
 ·have e:stU f w (t+1) i=stU f w t i:=by
   conv=>lhs;unfold stU
   rw [if_neg (by omega)]
  by_cases h2:i<m
  ·simp [h,h2,e]
  ·simp [h,h2]
theorem rowU_skip{f:Nat→Bool}{w m t:Nat}(h:f t=false):rowU f w m (t+1)=rowU f w m t:=by
 unfold rowU
 congr 1
 apply List.map_congr_left
 intro j _
 conv=>lhs;unfold stU
 rw [if_neg (by simp [h])]
theorem rowU_zero(f:Nat→Bool)(w m:Nat):madeCells (Value.int .u64 0).cells (m*1)=rowU f w m 0:=by
 apply Array.ext'
 rw [madeCells_one _ rfl]
 simp [rowU,stU,List.map_const']
theorem rowU_end(l:List UInt8)(n w:Nat):(rowU (bitB l) w n (n*w)).toList=(unpackL l n w).map u64V:=by
 simp [rowU,unpackL,u64V]
theorem stU_step(f:Nat→Bool)(w t:Nat):stU f w t (t / w) ||| (f t).toNat*2 ^ (t % w)=stU f w (t+1) (t / w):=by
 conv=>rhs;unfold stU
 cases h:f t
 ·simp
 ·simp
/-! ### words -/
theorem bit_prog8{x k:Nat}(hx:x<256)(hk:k<8):IntKind.u8.wrap (((BitVec.ofInt 8 (Int.fdiv (x:Int) (2 ^ (min k 8))) &&& BitVec.ofInt 8 1).toNat:Int))=((x.testBit k).toNat:Int):=by
 rw [show min k 8=k by omega,fdiv_pow]
 have hle:x / 2 ^ k≤x:=Nat.div_le_self _ _
 have e:(BitVec.ofInt 8 ((x / 2 ^ k:Nat):Int) &&& BitVec.ofInt 8 1).toNat=x / 2 ^ k % 2:=by
  rw [BitVec.toNat_and,BitVec.ofInt_natCast,BitVec.toNat_ofNat,Nat.mod_eq_of_lt (by omega)]
  exact Nat.and_two_pow_sub_one_eq_mod _ 1
 rw [e]
 have hm:x / 2 ^ k % 2<2:=Nat.mod_lt _ (by omega)
 rw [Nat.testBit_eq_decide_div_mod_eq]
 generalize x / 2 ^ k % 2=y at hm
 rw [wrap_u8_id (by omega) (by omega)]
 rcases (by omega:y=0∨y=1) with rfl | rfl <;> rfl
theorem shl_bit64{b:Bool}{s:Nat}(hs:s<64):IntKind.u64.wrap (IntKind.u64.wrap (b.toNat:Int)*2 ^ (min s 64))=((b.toNat*2 ^ s:Nat):Int):=by
 have hp:2 ^ s<2 ^ 64:=Nat.pow_lt_pow_right (by omega) hs
 rw [show min s 64=s by omega,show IntKind.u64.wrap (b.toNat:Int)=(b.toNat:Int) by cases b <;> decide]
 have e:((b.toNat:Int)*2 ^ s)=((b.toNat*2 ^ s:Nat):Int):=by norm_cast
 rw [e]
 cases b
 ·simp;decide
 ·simp only [Bool.toNat_true,Nat.one_mul]
  generalize 2 ^ s=y at hp
  rw [wrap_u64_id (by omega) (by omega)]
end Go.Proofs.YtipgnehlihmdhaaGreatDoor
namespace Go.Proofs.YtipgnehlihmdhaaGreatDoor
set_option maxRecDepth 100000
open Go.Dn Go.Proofs
open Go.RowKit (Below)
set_option linter.unusedVariables false
/-! ### what package-level variables hold -/
/-! ### Number, Signed, Text -/
def zigN(n:Int):Nat:=if n<0 then (-(2*n)-1).toNat else (2*n).toNat
theorem zigN_lt{n:Int}(h1 : -9223372036854775808≤n)(h2:n≤9223372036854775807):zigN n<18446744073709551616:=by unfold zigN;split <;> omega
theorem zig_prog{n:Int}(h1 : -9223372036854775808≤n)(h2:n≤9223372036854775807) :
  IntKind.u64.wrap (((BitVec.ofInt 64 (IntKind.u64.wrap (IntKind.i64.wrap (n*2 ^ (min 1 64)))) ^^^ BitVec.ofInt 64 (IntKind.u64.wrap (Int.fdiv n (2 ^ (min 63 64))))).toNat:Int))=(zigN n:Int):=by
 have e1:IntKind.u64.wrap (IntKind.i64.wrap (n*2 ^ (min 1 64)))=(2*n) % 18446744073709551616:=by
  rw [wrap_u64,wrap_i64_def]
  have:n*2 ^ (min 1 64)=2*n:=by rw [show (2:Int) ^ (min 1 64)=2 from rfl];omega
  rw [this]
  split <;> omega
 rw [e1]
 by_cases hn:n<0
 ·have e2:Int.fdiv n (2 ^ (min 63 64)) = -1:=by
   rw [Int.fdiv_eq_ediv_of_nonneg _ (by decide),show (2:Int) ^ (min 63 64)=9223372036854775808 from rfl]
   omega
  rw [e2,show IntKind.u64.wrap (-1)=18446744073709551615 by decide]
  obtain⟨m,hm⟩:∃ m:Nat,(2*n) % 18446744073709551616=(m:Int):=⟨((2*n) % 18446744073709551616).toNat,by omega⟩
  have hmlt:m<18446744073709551616:=by omega
  rw [hm,show BitVec.ofInt 64 18446744073709551615=BitVec.allOnes 64 by decide,BitVec.xor_allOnes,BitVec.toNat_not,BitVec.ofInt_natCast,BitVec.toNat_ofNat,Nat.mod_eq_of_lt (by omega),wrap_u64_id (by omega) (by omega)]
  unfold zigN
  rw [if_pos hn]
  omega
 ·have e2:Int.fdiv n (2 ^ (min 63 64))=0:=by
   rw [Int.fdiv_eq_ediv_of_nonneg _ (by decide),show (2:Int) ^ (min 63 64)=9223372036854775808 from rfl]
   omega
  obtain⟨m,rfl⟩:∃ m:Nat,n=(m:Int):=⟨n.toNat,by omega⟩
  rw [e2,show IntKind.u64.wrap 0=0 by decide,show BitVec.ofInt 64 0=0#64 by decide,BitVec.xor_zero]
  have:(2*(m:Int)) % 18446744073709551616=((2*m:Nat):Int):=by omega
  rw [this,BitVec.ofInt_natCast,BitVec.toNat_ofNat,Nat.mod_eq_of_lt (by omega),wrap_u64_id (by omega) (by omega)]
  unfold zigN
  rw [if_neg hn]
  omega
theorem wire_Signed_ok{w:World}{a:Option Addr}{c:Nat}(l:List UInt8)(hl:Rd w a (l.map byteV))(n:Int)(h1 : -9223372036854775808≤n)(h2:n≤9223372036854775807)(hs:l.length+10≤140737488355328) :
  Calls Tryz.prog f.wire_Signed #[.slice a l.length c,.int .i64 n] w (Ret fun v w'=>∃ a c,v=.slice a (l++digitsL (zigN n)).length c∧NewB w w' (l++digitsL (zigN n)) a c):=by
 apply R.wire_Signed_calls
 unfold R.wire_Signed
 rw [zig_prog h1 h2]
 refine (wire_Number_ok l hl (zigN n) (zigN_lt h1 h2) hs).mono ?_
 rintro _ w1 ⟨_,rfl,a1,c1,rfl,h⟩
 exact⟨_,_,_,rfl,a1,c1,rfl,h⟩
/-! ### Lay -/
/-! ### Show -/
end Go.Proofs.YtipgnehlihmdhaaGreatDoor
namespace Go.Proofs.YtipgnehlihmdhaaGreatDoor
set_option maxRecDepth 100000
open Go.Dn Go.Proofs
open Go.RowKit (Below)
set_option linter.unusedVariables false
def i64V(x:Int):Value:=.int .i64 x
def I64(x:Int):Prop := -9223372036854775808≤x∧x≤9223372036854775807
theorem wrap_I64(x:Int):I64 (IntKind.i64.wrap x):=by
 rw [wrap_i64_def]
 unfold I64
 split <;> omega
def lenN(x:Nat):Nat:=if x=0 then 0 else Nat.log2 x+1
theorem lenN_is(x:Nat):IsLen x (lenN x):=by
 unfold lenN
 split
 ·rename_i h
  subst h
  exact⟨by decide,.inl rfl⟩
 ·rename_i h
  exact⟨Nat.lt_log2_self,.inr (by rw [Nat.add_sub_cancel];exact Nat.log2_self_le h)⟩
def sigL(x:Int):List UInt8:=digitsL (zigN x)
theorem sigL_len{x:Int}(h:I64 x):(sigL x).length≤10:=digitsL_len10 (zigN_lt h.1 h.2)
def runsL:List Int→List UInt8
 | []=>[]
 | x :: r=>digitsL ((r.takeWhile (·==x)).length+1)++(sigL x++runsL (r.drop (r.takeWhile (·==x)).length))
termination_by l=>l.length
decreasing_by simp only [List.length_drop,List.length_cons];omega
structure IsRun(l:List Int)(k n:Nat):Prop where
 pos:0<n
 le:k+n≤l.length
 all:∀ j,j<n→l[k+j]?=l[k]?
 stop:k+n=l.length∨l[k+n]?≠l[k]?
theorem takeWhile_len{x:Int}:∀ {r:List Int} {n:Nat},n≤r.length→(∀ j,j<n→r[j]?=some x)→(n=r.length∨r[n]?≠some x)→(r.takeWhile (·==x)).length=n
 | [],n,h1,_,_=>by simp at h1;simp [h1]
 | y :: r,0,_,_,h3=>by
  rcases h3 with h3 | h3
  ·simp at h3
  ·simp only [List.getElem?_cons_zero,ne_eq,Option.some.injEq] at h3
   rw [List.takeWhile_cons_of_neg (by simpa using h3)]
   rfl
 | y :: r,n+1,h1,h2,h3=>by
  have h0:=h2 0 (by omega)
  simp only [List.getElem?_cons_zero,Option.some.injEq] at h0
  rw [List.takeWhile_cons_of_pos (by simpa using h0),List.length_cons]
  rw [takeWhile_len (r:=r) (n:=n) (by simpa using h1) (fun j hj=>by have:=h2 (j+1) (by omega);simpa using this) (by
   rcases h3 with h3 | h3
   ·exact .inl (by simpa using h3)
   ·exact .inr (by simpa using h3))]
theorem runs_cut{l:List Int}{k n:Nat}(h:IsRun l k n):runsL (l.drop k)=digitsL n++(sigL (l.getD k 0)++runsL (l.drop (k+n))):=by
 have hp:=h.pos
 have hl:=h.le
 have hk:k<l.length:=by omega
 have hg:l.getD k 0=l[k]:=by simp [hk]
 have hk?:l[k]?=some l[k]:=List.getElem?_eq_getElem hk
 rw [List.drop_eq_getElem_cons hk,hg]
 conv=>lhs;unfold runsL
 have hT:((l.drop (k+1)).takeWhile (·==l[k])).length=n-1:=by
  apply takeWhile_len
  ·rw [List.length_drop];omega
  ·intro j hj
   rw [List.getElem?_drop,← hk?,← h.all (j+1) (by omega)]
   congr 1
   omega
  ·rcases h.stop with h3 | h3
   ·left;rw [List.length_drop];omega
   ·right
    rw [List.getElem?_drop,← hk?]
    have e:k+1+(n-1)=k+n:=by omega
    rw [e]
    exact h3
 rw [hT,List.drop_drop,show n-1+1=n by omega,show k+1+(n-1)=k+n by omega]
theorem runsL_nil:runsL []=[]:=by unfold runsL;rfl
def stepsN(l:List Int):List Nat:=(List.range (l.length-1)).map fun i=>zigN (IntKind.i64.wrap (l.getD (i+1) 0-l.getD i 0))
def minTo(l:List Int)(k:Nat):Int:=(l.take k).foldl (fun m x=>if x<m then x else m) (l.headD 0)
def minL(l:List Int):Int:=minTo l l.length
def frameN(l:List Int):List Nat:=l.map fun x=>(x-minL l).toNat
theorem minTo_succ{l:List Int}{k:Nat}(hk:k<l.length):minTo l (k+1)=if l[k]<minTo l k then l[k] else minTo l k:=by
 unfold minTo
 rw [List.take_succ_eq_append_getElem hk,List.foldl_append]
 rfl
theorem foldl_min_le(l:List Int):∀ m:Int,l.foldl (fun m x=>if x<m then x else m) m≤m∧(∀ x∈l,l.foldl (fun m x=>if x<m then x else m) m≤x)∧(l.foldl (fun m x=>if x<m then x else m) m=m∨l.foldl (fun m x=>if x<m then x else m) m∈l):=by
 induction l with
 | nil=>intro m;simp
 | cons y l ih =>
  intro m
  obtain⟨h1,h2,h3⟩:=ih (if y<m then y else m)
  rw [List.foldl_cons]
  refine⟨?_,?_,?_⟩
  ·refine Int.le_trans h1 ?_
   split <;> omega
  ·intro x hx
   rcases List.mem_cons.1 hx with rfl | hx
   ·refine Int.le_trans h1 ?_
    split <;> omega
   ·exact h2 x hx
  ·rcases h3 with h3 | h3
   ·rw [h3]
    split
    ·right;exact List.mem_cons_self ..
    ·left;rfl
   ·right;exact List.mem_cons_of_mem _ h3
theorem minL_le{l:List Int}{x:Int}(h:x∈l):minL l≤x:=by
 unfold minL minTo
 rw [List.take_length]
 exact (foldl_min_le l _).2.1 x h
theorem minTo_I64{l:List Int}(h:∀ x∈l,I64 x)(h0:0<l.length)(k:Nat):I64 (minTo l k):=by
 unfold minTo
 have hh:I64 (l.headD 0):=by
  cases l with
  | nil=>simp at h0
  | cons y l=>exact h y (List.mem_cons_self ..)
 rcases (foldl_min_le (l.take k) (l.headD 0)).2.2 with e | e
 ·rw [e];exact hh
 ·exact h _ (List.mem_of_mem_take e)
theorem stepsN_lt{l:List Int}:∀ x∈stepsN l,x<18446744073709551616:=by
 intro x hx
 obtain⟨i,_,rfl⟩:=List.mem_map.1 hx
 have:=wrap_I64 (l.getD (i+1) 0-l.getD i 0)
 exact zigN_lt this.1 this.2
theorem frameN_lt{l:List Int}(h:∀ x∈l,I64 x):∀ x∈frameN l,x<18446744073709551616:=by
 intro x hx
 obtain⟨y,hy,rfl⟩:=List.mem_map.1 hx
 have h1:=h y hy
 have h2:=minTo_I64 h (List.length_pos_of_mem hy) l.length
 have h3:=minL_le hy
 unfold minL at h3 ⊢
 unfold I64 at h1 h2
 omega
def packedL(first:Int)(s:List Nat):List UInt8:=sigL first++(UInt8.ofNat (lenN (orL s)) :: packL s (lenN (orL s)))
def intsL(form:Nat)(l:List Int):List UInt8 :=
 match form with
 | 0=>0 :: l.flatMap sigL
 | 1=>1 :: runsL l
 | 2=>2 :: (if l=[] then [] else packedL (l.headD 0) (stepsN l))
 | _=>3 :: (if l=[] then [] else packedL (minL l) (frameN l))
theorem lenN_le64{s:List Nat}(h:∀ x∈s,x<18446744073709551616):lenN (orL s)≤64:=(lenN_is _).le.2 ((orL_lt s 64).2 h)
theorem packedL_len{f:Int}{s:List Nat}(hf:I64 f)(h:∀ x∈s,x<18446744073709551616):(packedL f s).length≤12+s.length*8:=by
 have h1:=sigL_len hf
 have h2:=packL_len s (lenN (orL s))
 have h3:=lenN_le64 h
 unfold packedL
 simp only [List.length_append,List.length_cons]
 unfold sizeN at h2
 have h4:s.length*lenN (orL s)≤s.length*64:=Nat.mul_le_mul_left _ h3
 omega
theorem flatSig_len{l:List Int}(h:∀ x∈l,I64 x):(l.flatMap sigL).length≤l.length*10:=by
 induction l with
 | nil=>simp
 | cons x l ih =>
  have h1:=sigL_len (h x (List.mem_cons_self ..))
  have h2:=ih fun y hy=>h y (List.mem_cons_of_mem _ hy)
  simp only [List.flatMap_cons,List.length_append,List.length_cons]
  omega
theorem runsL_len:∀(n:Nat) (l:List Int),l.length≤n→n≤4096→(∀ x∈l,I64 x)→(runsL l).length≤l.length*20
 | _,[],_,_,_=>by rw [runsL_nil];simp
 | 0,x :: l,h,_,_=>by simp at h
 | n+1,x :: l,h,hn,hx=>by
  unfold runsL
  have h1:=sigL_len (hx x (List.mem_cons_self ..))
  have hT:(l.takeWhile (·==x)).length≤l.length:=(List.takeWhile_sublist _).length_le
  have hl:l.length≤n:=by simpa using h
  have h2:=digitsL_len10 (n:=(l.takeWhile (·==x)).length+1) (by omega)
  have h3:=runsL_len n (l.drop (l.takeWhile (·==x)).length) (by rw [List.length_drop];omega) (by omega) (fun y hy=>hx y (List.mem_cons_of_mem _ (List.mem_of_mem_drop hy)))
  rw [List.length_drop] at h3
  simp only [List.length_append,List.length_cons]
  omega
theorem intsL_len{l:List Int}(f:Nat)(hn:l.length≤4096)(h:∀ x∈l,I64 x):(intsL f l).length≤13+l.length*20:=by
 unfold intsL
 split
 ·have:=flatSig_len h
  simp only [List.length_cons]
  omega
 ·have:=runsL_len 4096 l hn (by omega) h
  simp only [List.length_cons]
  omega
 ·split
  ·simp only [List.length_cons,List.length_nil]
   omega
  ·rename_i h0
   have hp:0<l.length:=List.length_pos_iff.2 h0
   have h1:I64 (l.headD 0):=by
    have:=minTo_I64 h hp 0
    simpa [minTo] using this
   have:=packedL_len h1 (stepsN_lt (l:=l))
   have e:(stepsN l).length=l.length-1:=by simp [stepsN]
   rw [e] at this
   simp only [List.length_cons]
   omega
 ·split
  ·simp only [List.length_cons,List.length_nil]
   omega
  ·rename_i h0
   have hp:0<l.length:=List.length_pos_iff.2 h0
   have:=packedL_len (minTo_I64 h hp l.length) (frameN_lt h)
   have e:(frameN l).length=l.length:=by simp [frameN]
   rw [e] at this
   unfold minL
   simp only [List.length_cons]
   omega
section
variable {w:World}{a:Option Addr}{c:Nat}
theorem ref_Zig_ok(n:Int)(h1 : -9223372036854775808≤n)(h2:n≤9223372036854775807):Calls Tryz.prog f.ref02_Zig #[.int .i64 n] w (Ret fun v w'=>v=.int .u64 (zigN n:Int)∧w'=w):=by
 apply R.ref02_Zig_calls
 unfold R.ref02_Zig
 refine IFB_dec (fun h=>⟨?_,rfl⟩) (fun h=>⟨?_,rfl⟩)
 ·rw [wrap_i64 (n:=n+1) (by omega) (by omega),wrap_i64 (n:=0-(n+1)) (by omega) (by omega),wrap_u64_id (n:=0-(n+1)) (by omega) (by omega),wrap_u64_id (n:=2*(0-(n+1))) (by omega) (by omega),wrap_u64_id (by omega) (by omega)]
  unfold zigN
  rw [if_pos h]
  congr 1
  omega
 ·rw [wrap_u64_id (n:=n) (by omega) (by omega),wrap_u64_id (by omega) (by omega)]
  unfold zigN
  rw [if_neg h]
  congr 1
  omega
theorem ref_Signed_ok(l:List UInt8)(hl:Rd w a (l.map byteV))(n:Int)(h1 : -9223372036854775808≤n)(h2:n≤9223372036854775807)(hs:l.length+10≤140737488355328) :
  Calls Tryz.prog f.ref02_Signed #[.slice a l.length c,.int .i64 n] w (Ret fun v w'=>∃ a c,v=.slice a (l++digitsL (zigN n)).length c∧NewB w w' (l++digitsL (zigN n)) a c):=by
 apply R.ref02_Signed_calls
 unfold R.ref02_Signed
 refine (ref_Zig_ok n h1 h2).mono ?_
 rintro _ w ⟨_,rfl,rfl,rfl⟩
 refine⟨_,rfl,(ref_Number_ok l hl (zigN n) (zigN_lt h1 h2) hs).mono ?_⟩
 rintro _ w1 ⟨_,rfl,a1,c1,rfl,h⟩
 exact⟨_,_,_,rfl,a1,c1,rfl,h⟩
end
def laidL(ls:List ByteArray):List UInt8:=ls.flatMap textL
theorem laidL_take{ls:List ByteArray}{k:Nat}(hk:k<ls.length):laidL (ls.take (k+1))=laidL (ls.take k)++textL ls[k]:=by
 unfold laidL
 rw [List.take_succ_eq_append_getElem hk,List.flatMap_append]
 simp
theorem textL_len{s:ByteArray}(h:s.size≤1024):(textL s).length≤1034:=by
 have:=digitsL_len10 (n:=s.size) (by omega)
 have:=bl_length s
 simp [textL]
 omega
theorem laidL_len{ls:List ByteArray}(h:∀ s∈ls,s.size≤1024):(laidL ls).length≤ls.length*1034:=by
 induction ls with
 | nil=>simp [laidL]
 | cons s ls ih =>
  have h1:=textL_len (h s (List.mem_cons_self ..))
  have h2:=ih fun x hx=>h x (List.mem_cons_of_mem _ hx)
  simp only [laidL,List.flatMap_cons,List.length_append,List.length_cons] at *
  omega
theorem tP:slT Tryz.prog ty.L_L_uint8=some (ty.L_uint8,1,24,.slice none 0 0):=by kernel_rfl
theorem str_at{w:World}{a:Option Addr}{ls:List ByteArray}(hl:Rd w a (ls.map Value.string)){i:Nat}(hi:i<ls.length):∃ p,a=some p∧w.cell? (p.add (i*1))=some (.string ls[i]):=by
 obtain⟨p,hp,hc⟩:=hl i (.string ls[i]) (by simp [hi])
 exact⟨p,hp,by rw [Nat.mul_one];exact hc⟩
theorem dict_laid_ok{w:World}{a:Option Addr}{c:Nat}{ls:List ByteArray}(hl:Rd w a (ls.map Value.string))(hn:ls.length≤4096)(hz:∀ s∈ls,s.size≤1024) :
  Calls Tryz.prog f.dict_laid #[.slice a ls.length c] w (Ret fun v w'=>∃ a' c',v=.slice a' (laidL ls).length c'∧NewB w w' (laidL ls) a' c'):=by
 apply R.dict_laid_calls
 unfold R.dict_laid
 refine⟨fun s w1=>∃(ps:List PartB) (pa:Option Addr) (pc:Nat),s=[.slice pa ps.length pc,.int .i64 (ps.length:Int)]∧ps.length≤ls.length∧Row w1 ty.L_uint8 1 pa ps.length pc (ps.map partV1)∧(∀ k,rowB pa=some k→w.heap.size≤k) ∧
   (∀ p∈ps,Rd w1 p.1 (p.2.2.map byteV)∧(∀ k,rowB pa=some k→rowB p.1≠some k)∧∀ k,rowB p.1=some k→k<w1.heap.size)∧flatB ps=laidL (ls.take ps.length)∧Below w.heap.size w w1,fun s _=>match s with
   | [_,.int _ i]=>ls.length-i.toNat
   | _=>0,⟨[],none,0,rfl,by simp,Row.nil _ _ _,by simp [rowB],by simp,by simp [flatB,laidL],.refl _ _⟩,?_⟩
 rintro pa _ pc _ w1 ⟨ps,_,_,hs,hle,hR,hnew,hps,hfl,B1⟩
 cases hs
 refine IFB_dec (fun hlt=>⟨⟨by omega,hlt⟩,?_⟩) (fun hge=>?_)
 ·have hkl:ps.length<ls.length:=by omega
  obtain⟨p,rfl,hc⟩:=str_at (hl.grown B1) hkl
  have hsz:=hz _ (List.getElem_mem hkl)
  refine⟨_,by rw [Int.toNat_natCast];exact hc,(wire_Text_ok (c:=0) [] (Rd.nil _ _) ls[ps.length] (by omega) (by simp;omega)).mono ?_⟩
  rintro _ w3 ⟨_,rfl,a3,c3,rfl,h3⟩
  rw [List.nil_append] at h3 ⊢
  refine⟨_,_,_,_,rfl,(SH.start (fun _=>False) w3).newB fun b12 w4 hb12 B4 S4=>?_⟩
  have h4:=h3.grown B4
  have hsrc:Rd w4 (some ⟨b12,0,none⟩) [partV1 (a3,c3,textL ls[ps.length])]:=by
   have:=Rd.of_block0 (S4.get 0 rfl)
   simpa [partV1] using this
  obtain⟨a5,c5,w5,hrun,hrow,hk,hnw⟩:=append_row (ty:=ty.L_L_uint8) (mc:=1) tP rfl (by omega) (by omega) (hR.grown (h4.bel)) hsrc (m:=1) rfl (by simp [partV1];rfl) (by omega)
  unfold OPR
  rw [hrun]
  refine⟨_,_,_,rfl,?_⟩
  have e1:(ps++[(a3,c3,textL ls[ps.length])]).length=ps.length+1:=by simp
  have B4':Below w.heap.size w w4:=B1.trans (h4.bel.mono B1.size)
  refine⟨⟨ps++[(a3,c3,textL ls[ps.length])],a5,c5,?_,by omega,?_,fun k hk5=>?_,fun q hq=>?_,?_,B4'.trans (hk.below B4'.size fun k hlt hkk=>?_)⟩,?_⟩
  ·rw [wrap_succ (by omega),e1]
  ·rw [e1,List.map_append]
   exact hrow
  ·rcases hnw k hk5 with h | h
   ·exact hnew k h
   ·exact Nat.le_trans B4'.size h
  ·have hpl:∀ k,rowB pa=some k→k<w1.heap.size:=fun k h=>hR.lt h
   have hfar:∀ k,rowB pa=some k→rowB q.1≠some k:=by
    intro k hk1 hk2
    rcases List.mem_append.1 hq with h | h
    ·exact (hps q h).2.1 k hk1 hk2
    ·simp only [List.mem_singleton] at h
     subst h
     have:=h3.new k hk2
     have:=hpl k hk1
     omega
   have hrd4:Rd w4 q.1 (q.2.2.map byteV):=by
    rcases List.mem_append.1 hq with h | h
    ·exact (hps q h).1.grown h4.bel
    ·simp only [List.mem_singleton] at h
     subst h
     exact h4.rd
   have hql:∀ k,rowB q.1=some k→k<w4.heap.size:=by
    intro k hk2
    rcases List.mem_append.1 hq with h' | h'
    ·exact Nat.lt_of_lt_of_le ((hps q h').2.2 k hk2) h4.bel.size
    ·simp only [List.mem_singleton] at h'
     subst h'
     exact h4.row.lt hk2
   refine⟨?_,fun k hk5 hk2=>?_,fun k hk2=>Nat.lt_of_lt_of_le (hql k hk2) hk.size⟩
   ·exact hrd4.keeps hk (fun p hp hF=>hfar p.block hF (by rw [hp];rfl))
   ·rcases hnw k hk5 with h | h
    ·exact hfar k h hk2
    ·have:=hql k hk2
     omega
  ·rw [e1,laidL_take hkl,← hfl]
   simp [flatB]
  ·have:=hnew k hkk
   omega
  ·simp only [Int.toNat_natCast]
   rw [wrap_succ (by omega)]
   omega
 ·have hpl:ps.length=ls.length:=by omega
  rw [hpl,List.take_length] at hfl
  have hlen:=laidL_len hz
  refine (slices_Concat_ok ps hR.rd (fun p hp=>(hps p hp).1) (by omega) (by rw [hfl];omega)).mono ?_
  rintro _ w2 ⟨_,rfl,a2,c2,rfl,h2⟩
  rw [hfl] at h2 ⊢
  exact⟨_,_,_,rfl,a2,c2,rfl,h2.before B1⟩
def longB(ls:List ByteArray):Bool:=ls.any fun s=>decide (1024<s.size)
theorem longB_false{ls:List ByteArray}(h:longB ls=false):∀ s∈ls,s.size≤1024:=by
 intro s hs
 have:=List.any_eq_false.1 h s hs
 simpa using this
theorem long_ok(w:World)(s:ByteArray):Calls Tryz.prog f.dict_Encode_c1 #[.string s] w (Ret fun v w'=>w'=w∧v=.bool (decide (1024<s.size))):=by
 apply R.dict_Encode_c1_calls
 unfold R.dict_Encode_c1
 refine⟨rfl,?_⟩
 congr 1
 rw [Bool.eq_iff_iff]
 simp
 omega
theorem enters_long:enters Tryz.prog f.dict_Encode_c1=true:=by kernel_rfl
section
variable {w:World}{a:Option Addr}{c:Nat}{ls:List ByteArray}
theorem ContainsFunc_ok(hl:Rd w a (ls.map Value.string))(hn:ls.length≤9223372036854775807) :
  Calls Tryz.prog f.slices_ContainsFunc_string_string #[.slice a ls.length c,.func (.func f.dict_Encode_c1) #[] #[]] w (Ret fun v w'=>w'=w∧v=.bool (longB ls)):=by
 have idx:Calls Tryz.prog f.slices_IndexFunc_string_string #[.slice a ls.length c,.func (.func f.dict_Encode_c1) #[] #[]] w (Ret fun v w'=>w'=w∧∃ i:Int,v=.int .i64 i∧(0≤i↔longB ls=true)):=by
  apply R.slices_IndexFunc_string_string_calls
  unfold R.slices_IndexFunc_string_string
  refine⟨fun s w1=>w1=w∧∃ k:Nat,k≤ls.length∧s=[.int .i64 (k:Int)]∧longB (ls.take k)=false,fun s _=>match s with
    | [.int _ i]=>ls.length-i.toNat
    | _=>0,⟨rfl,0,by omega,rfl,rfl⟩,?_⟩
  rintro _ w1 ⟨rfl,k,hk,hs,hlo⟩
  cases hs
  refine IFB_dec (fun hlt=>⟨⟨by omega,hlt⟩,?_⟩) (fun hge=>?_)
  ·have hkl:k<ls.length:=by omega
   obtain⟨p,rfl,hc⟩:=str_at hl hkl
   refine⟨_,by rw [Int.toNat_natCast];exact hc,?_⟩
   rw [enters_long]
   refine (long_ok w1 ls[k]).mono ?_
   rintro _ w2 ⟨_,rfl,rfl,rfl⟩
   refine⟨_,rfl,IFB_dec (fun h=>⟨rfl,_,rfl,?_⟩) (fun h=>?_)⟩
   ·refine⟨fun _=>?_,fun _=>by omega⟩
    exact List.any_eq_true.2 ⟨ls[k],List.getElem_mem hkl,by simpa using h⟩
   ·rw [wrap_succ (by omega)]
    refine⟨⟨rfl,k+1,by omega,rfl,?_⟩,?_⟩
    ·unfold longB at hlo ⊢
     rw [List.take_succ_eq_append_getElem hkl,List.any_append,hlo]
     simp
     omega
    ·simp only [Int.toNat_natCast]
     omega
  ·have hkk:ls.take k=ls:=List.take_of_length_le (by omega)
   rw [hkk] at hlo
   refine⟨rfl,_,rfl,?_⟩
   rw [hlo]
   simp
 apply R.slices_ContainsFunc_string_string_calls
 unfold R.slices_ContainsFunc_string_string
 refine idx.mono ?_
 rintro _ w1 ⟨_,rfl,rfl,i,rfl,hi⟩
 refine⟨_,rfl,rfl,?_⟩
 congr 1
 rw [Bool.eq_iff_iff,decide_eq_true_eq]
 exact hi
end
def placesL(t:List (List UInt8))(ls:List ByteArray):List Nat:=ls.map fun s=>t.idxOf (bl s)
inductive EncIs (ls:List ByteArray):Int→List UInt8→Prop
 | plain:EncIs ls 0 (0 :: laidL ls)
 | table (t:List (List UInt8)) (w:Nat) (ht:IsRise (ls.map bl) t) (hw:IsLen (orL (placesL t ls)) w):EncIs ls 1 ((1 :: digitsL t.length)++(laidL (t.map sof)++(UInt8.ofNat w :: packL (placesL t ls) w)))
theorem EncIs.one{ls:List ByteArray}{f:Int}{b c:List UInt8}(h:EncIs ls f b)(h':EncIs ls f c):b=c:=by
 cases h with
 | plain=>cases h';rfl
 | table t w ht hw =>
  cases h' with
  | table t' w' ht' hw' =>
   have:=ht.one ht'
   subst this
   rw [hw.one hw']
def encOk(f:Int)(ls:List ByteArray):Prop:=0≤f∧f≤1∧ls.length≤4096∧longB ls=false
instance (f:Int) (ls:List ByteArray):Decidable (encOk f ls):=by unfold encOk;infer_instance
def EncV(f:Int)(ls:List ByteArray)(w w':World)(r:Value):Prop :=
 (¬ encOk f ls∧r=.tuple #[.slice none 0 0,.int .i64 2]∧Below w.heap.size w w')∨(encOk f ls∧∃ b a c,EncIs ls f b∧r=.tuple #[.slice a b.length c,.int .i64 0]∧NewB w w' b a c)
end Go.Proofs.YtipgnehlihmdhaaGreatDoor
