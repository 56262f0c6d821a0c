/-
  Texts of this claim, laid one behind the other by a program of mine (install.py): S.Sch8, S.Unpack, S.Unpack2, S.Take, S.DecLaw, S.Ch2, S.Ch3, S.Sum2, S.Ch4, S.Ch5, S.TakeS2, S.Table, S.Dec, S.IntsD, S.IntsF, S.IntsG, S.Ch10.
-/
import Derived.Test.YtipgnehlihmdhaaGreatDoorM4
import Derived.Test.YtipgnehlihmdhaaGreatDoorM3
namespace Go.Proofs.YtipgnehlihmdhaaGreatDoor
set_option maxRecDepth 100000
open Go.Dn Go.Proofs
open Go.RowKit (Below)
set_option linter.unusedVariables false
def bytesI(a:Option Addr)(c:Nat)(l:List UInt8):It:=It.row ty.uint8 1 a l.length c (l.map byteV)
section
variable {w0 w:World}{H:List It}{a:Option Addr}{c:Nat}{l:List UInt8}
theorem stAddB(S:ST w0 w H){w':World}(h:NewB w w' l a c):ST w0 w' (bytesI a c l :: H):=S.add h.bel _ h.row h.new
theorem stNew(S:ST w0 w H)(n:Nat)(hn:H[n]?=some (bytesI a c l)):NewB w0 w l a c:=⟨S.get n hn,fun k hk=>S.own _ (List.mem_of_getElem? hn) k hk,S.bel⟩
theorem stRdB(S:ST w0 w H)(n:Nat)(hn:H[n]?=some (bytesI a c l)):Rd w a (l.map byteV):=(stNew S n hn).rd
theorem stAppB(S:ST w0 w H)(n:Nat)(hn:H[n]?=some (bytesI a c l)){m:List UInt8}{b:Option Addr}{mc:Nat}(hs:Rd w b (m.map byteV))(hl:l.length+m.length≤140737488355328){f:Value→World→Prop}
  (hf:∀ a' c' w',ST w0 w' (H.set n (bytesI a' c' (l++m)))→f (.slice a' (l++m).length c') w') :
  OPR Tryz.prog (Builtin.append_ #[ty.L_uint8,ty.L_uint8] ty.L_uint8 #[.slice a l.length c,.slice b m.length mc]) f w :=
 append_bytes (S.get n hn) hs hl fun a' c' w' hr hk hn'=>hf a' c' w' (S.chg n hn hk _ hr hn')
end
def flagB(b:Bool):UInt8:=if b then 1 else 0
def colB(c:Col):List UInt8:=textL c.1++[UInt8.ofNat c.2.1.toNat,flagB c.2.2]
def schL(cs:List Col):List UInt8:=digitsL cs.length++cs.flatMap colB
theorem right_len{cs:List Col}(h:rightCols cs=true):1≤cs.length∧cs.length≤16:=by
 simp [rightCols] at h
 exact h.1.1
theorem right_col{cs:List Col}(h:rightCols cs=true){c:Col}(hc:c∈cs):isNameB c.1=true∧1≤c.2.1∧c.2.1≤3∧c.1.size≤24:=by
 simp only [rightCols,Bool.and_eq_true,List.all_eq_true] at h
 have:=h.1.2 c hc
 simp only [colOk,Bool.and_eq_true,decide_eq_true_eq] at this
 have hn:=this.1
 simp only [isNameB,Bool.and_eq_true,decide_eq_true_eq] at hn
 exact⟨this.1,this.2.1,this.2.2,hn.2⟩
theorem colB_len{c:Col}(h:c.1.size≤24):(colB c).length≤36:=by
 have:=digitsL_len10 (n:=c.1.size) (by omega)
 have:=bl_length c.1
 simp only [colB,textL,List.length_append,List.length_cons,List.length_nil]
 omega
theorem colsB_len{cs:List Col}(h:∀ c∈cs,c.1.size≤24):(cs.flatMap colB).length≤cs.length*36:=by
 induction cs with
 | nil=>simp
 | cons c cs ih =>
  have h1:=colB_len (h c (by simp))
  have h2:=ih fun x hx=>h x (by simp [hx])
  rw [List.flatMap_cons,List.length_append,List.length_cons]
  omega
theorem colsB_take{cs:List Col}{i:Nat}(hi:i<cs.length):(cs.take (i+1)).flatMap colB=(cs.take i).flatMap colB++colB cs[i]:=by
 rw [List.take_succ_eq_append_getElem hi,List.flatMap_append]
 simp
theorem schL_len{cs:List Col}(h:rightCols cs=true):(schL cs).length≤600:=by
 have h1:=right_len h
 have:=digitsL_len10 (n:=cs.length) (by omega)
 have:=colsB_len fun c hc=>(right_col h hc).2.2.2
 simp only [schL,List.length_append]
 omega
def SchV(l:List UInt8)(cs:List Col)(w w':World)(v:Value):Prop :=
 (rightCols cs=false∧v=.tuple #[.slice none 0 0,.int .i64 50]∧Below w.heap.size w w')∨(rightCols cs=true∧∃ a c,v=.tuple #[.slice a (l++schL cs).length c,.int .i64 0]∧NewB w w' (l++schL cs) a c)
section
variable {w:World}{a a2:Option Addr}{c c2:Nat}{cs:List Col}{l:List UInt8}
theorem schema_flag_ok(b:Bool)(w:World):Calls Tryz.prog f.schema_flag #[.bool b] w (Ret fun v w'=>v=.int .u8 ((flagB b).toNat:Int)∧w'=w):=by
 apply R.schema_flag_calls
 unfold R.schema_flag
 exact IFB_of (fun h=>⟨by rw [h];rfl,rfl⟩) (fun h=>⟨by rw [h];rfl,rfl⟩)
theorem byteV_def(c:UInt8):Value.int .u8 (c.toNat:Int)=byteV c:=rfl
theorem two_bytes{w:World}{b:Nat}{x y:Value}{t:TypeId}{u v:UInt8}(h:w.heap[b]?=some (.cells #[x,y] t (0,0)))(hx:x=byteV u)(hy:y=byteV v):Rd w (some ⟨b,0,none⟩) ([u,v].map byteV):=by
 subst hx hy
 exact Rd.of_block0 h
theorem kind_byte{k:Int}(h1:1≤k)(h2:k≤3):Value.int .u8 (IntKind.u8.wrap k)=byteV (UInt8.ofNat k.toNat):=by
 rw [wrap_u8_id (by omega) (by omega),← byteV_of (x:=k.toNat) (by omega)]
 congr 1
 omega
theorem schema_Lay_ok(hl:Rd w a (l.map byteV))(hs:l.length+1000≤140737488355328)(hcs:Rd w a2 (colsL cs))(hn:cs.length≤9223372036854775807)(hq:∀ c∈cs,c.1.size≤9223372036854775807) :
  Calls Tryz.prog f.schema_Lay #[.slice a l.length c,.slice a2 cs.length c2] w (Ret fun v w'=>SchV l cs w w' v):=by
 apply R.schema_Lay_calls
 unfold R.schema_Lay
 refine (schema_Right_ok hcs hn hq).mono ?_
 rintro _ w1 ⟨_,rfl,rfl,B1⟩
 refine⟨_,rfl,IFB_not (IFB_of (fun hR=>?_) (fun hR=>.inl ⟨hR,rfl,B1⟩))⟩
 have hlen:=right_len hR
 have d1:=digitsL_len10 (n:=cs.length) (by omega)
 rw [wrap_u64_id (by omega) (by omega)]
 refine (wire_Number_ok l (hl.grown B1) cs.length (by omega) (by omega)).mono ?_
 rintro _ w2 ⟨_,rfl,a2',c2',rfl,h2⟩
 refine⟨_,_,_,rfl,fun s w3=>∃(i:Nat) (o:List UInt8) (oa:Option Addr) (oc:Nat),s=[.slice oa o.length oc,.int .i64 (i:Int)]∧i≤cs.length∧o=l++digitsL cs.length++(cs.take i).flatMap colB∧ST w w3 [bytesI oa oc o],fun s _=>match s with
   | [_,.int _ i]=>cs.length-i.toNat
   | _=>0,⟨0,_,a2',c2',rfl,by omega,by simp,stAddB ((ST.start w).grown B1) h2⟩,?_⟩
 rintro oa _ oc _ w3 ⟨i,o,_,_,hst,hi,ho,S⟩
 cases hst
 have ho':o.length≤l.length+10+16*36:=by
  have:=colsB_len (cs:=cs.take i) fun c hc=>(right_col hR (List.mem_of_mem_take hc)).2.2.2
  rw [List.length_take] at this
  rw [ho]
  simp only [List.length_append]
  omega
 refine IFB_dec (fun hlt=>⟨⟨by omega,hlt⟩,?_⟩) (fun hge=>.inr ⟨hR,?_⟩)
 ·have hil:i<cs.length:=by omega
  obtain⟨hN,hk1,hk2,hsz⟩:=right_col hR (List.getElem_mem hil)
  obtain⟨p,rfl,c0,c1,c2⟩:=col_at (hcs.grown S.bel) hil
  have hT:=digitsL_len10 (n:=cs[i].1.size) (by omega)
  have hbl:=bl_length cs[i].1
  refine⟨_,by rw [Int.toNat_natCast];exact c0,_,by rw [Int.toNat_natCast];exact c1,_,by rw [Int.toNat_natCast];exact c2,S.lit3 fun b14 w7 _ S=>⟨_,S.cell 0 rfl rfl,?_⟩⟩
  have hrd7:Rd w7 oa (o.map byteV):=stRdB S 1 rfl
  refine (wire_Text_ok o hrd7 cs[i].1 (by omega) (by omega)).mono ?_
  rintro _ w8 ⟨_,rfl,a8,c8,rfl,h8⟩
  refine⟨_,_,_,_,rfl,(stAddB S h8).draw fun w9 _ S=>⟨_,S.cell 1 rfl rfl,_,S.cell 1 rfl rfl,(schema_flag_ok _ w9).mono ?_⟩⟩
  rintro _ w9 ⟨_,rfl,rfl,rfl⟩
  refine⟨_,rfl,S.cell 1 rfl rfl,S.newB fun b23 w11 _ _ S=>?_⟩
  refine stAppB (m:=[UInt8.ofNat cs[i].2.1.toNat,flagB cs[i].2.2]) S 1 rfl (two_bytes (S.blk 0 rfl) (kind_byte hk1 hk2) (byteV_def _)) (by simp only [textL,List.length_append,List.length_cons,List.length_nil];omega) fun a12 c12 w12 S=>⟨_,_,_,rfl,?_⟩
  rw [wrap_succ (by omega)]
  refine⟨⟨i+1,_,a12,c12,rfl,by omega,?_,S.sub (by simp)⟩,?_⟩
  ·rw [colsB_take hil,ho]
   simp [colB]
  ·show cs.length-((i+1:Nat):Int).toNat<cs.length-((i:Nat):Int).toNat
   simp only [Int.toNat_natCast]
   omega
 ·rw [List.take_of_length_le (by omega)] at ho
  have:o=l++schL cs:=by rw [ho];simp [schL]
  subst this
  exact⟨oa,oc,rfl,stNew S 0 rfl⟩
end
def unArg(n wd:Int):Prop:=0≤n∧n≤4096∧0≤wd∧wd≤64
instance (n wd:Int):Decidable (unArg n wd):=by unfold unArg;infer_instance
def unOk(l:List UInt8)(n wd:Nat):Prop:=l.length=sizeN n wd∧packL (unpackL l n wd) wd=l
instance (l:List UInt8) (n wd:Nat):Decidable (unOk l n wd):=by unfold unOk;infer_instance
def UnV(l:List UInt8)(n wd:Int)(w w':World)(r:Value):Prop :=
 ∃(xs:List Nat) (a:Option Addr) (c:Nat) (e:Int),r=.tuple #[.slice a xs.length c,.int .i64 e]∧Rd w' a (xs.map u64V)∧Below w.heap.size w w'∧(∀ p,a=some p→w.heap.size≤p.block) ∧
  ((unArg n wd∧unOk l n.toNat wd.toNat∧xs=unpackL l n.toNat wd.toNat∧e=0)∨(¬ (unArg n wd∧unOk l n.toNat wd.toNat)∧xs=[]∧e=if unArg n wd then 10 else 2))
theorem UnV.bad{l:List UInt8}{n wd:Int}{w w':World}{e:Int}(hb:Below w.heap.size w w')(h:¬ (unArg n wd∧unOk l n.toNat wd.toNat))(he:e=if unArg n wd then 10 else 2):UnV l n wd w w' (.tuple #[.slice none 0 0,.int .i64 e]) :=
 ⟨[],none,0,e,rfl,Rd.nil _ _,hb,(fun p hp=>by cases hp),.inr ⟨h,rfl,he⟩⟩
theorem getD_get{l:List UInt8}{j:Nat}(h:j<l.length):l.getD j 0=l[j]:=by simp [h]
section
variable {w:World}{a:Option Addr}{c:Nat}{l:List UInt8}
theorem pack_Unpack_ok(hl:Rd w a (l.map byteV))(n wd:Int)(hs:l.length≤9223372036854775807) :
  Calls Tryz.prog f.pack_Unpack #[.slice a l.length c,.int .i64 n,.int .i64 wd] w (Ret fun v w'=>UnV l n wd w w' v):=by
 apply R.pack_Unpack_calls
 unfold R.pack_Unpack
 refine (SH.start (fun _=>False) w).newB fun b4 w1 hb4 B1 S1=>S1.newB fun b3 w2 hb3 B2 S2=>⟨_,S2.cell 0 rfl rfl,(pack_Size_ok w2 n wd).mono ?_⟩
 rintro _ w3 ⟨_,rfl,rfl,rfl⟩
 by_cases harg:unArg n wd
 case neg =>
  rw [if_neg (by unfold unArg at harg;omega)]
  refine⟨_,_,rfl,fun _ _=>False,IFB_ne (fun _=>UnV.bad S2.below (fun h=>harg h.1) (by rw [if_neg harg])) (fun h=>absurd h (by decide)),?_⟩
  rintro w5 h
  exact h.elim
 obtain⟨h1,h2,h3,h4⟩:=id harg
 obtain⟨n,rfl⟩:∃ m:Nat,n=(m:Int):=⟨n.toNat,by omega⟩
 obtain⟨wd,rfl⟩:∃ m:Nat,wd=(m:Int):=⟨wd.toNat,by omega⟩
 have hn:n≤4096:=by omega
 have hw:wd≤64:=by omega
 have hm:n*wd≤4096*64:=Nat.mul_le_mul hn hw
 rw [if_pos ⟨by omega,by omega,by omega,by omega⟩]
 obtain⟨m,hmd⟩:∃ m,m=sizeN n wd:=⟨_,rfl⟩
 have hmv:m=(n*wd+7) / 8:=hmd
 have enw:((n:Int)*(wd:Int))=((n*wd:Nat):Int):=by norm_cast
 have em:((n:Int)*(wd:Int)+7) / 8=(m:Int):=by rw [enw,hmv];omega
 rw [em]
 have ew:IntKind.i64.wrap ((n:Int)*(wd:Int))=((n*wd:Nat):Int):=by rw [enw,wrap_i64 (by omega) (by omega)]
 have emod:Int.tmod ((n*wd:Nat):Int) 8=((n*wd % 8:Nat):Int):=by rw [Int.tmod_eq_emod_of_nonneg (by omega)];omega
 refine⟨_,_,rfl,fun s w5=>s=[]∧unOk l n wd∧Below w3.heap.size w3 w5∧SH (fun _=>False) w w5 [(b3,#[.int .i64 (wd:Int)],ty.int),(b4,#[.slice a l.length c],ty.L_uint8)],?_,?_⟩
 ·refine IFB_ne (fun h=>absurd rfl h) (fun _=>⟨_,_,_,S2.cell 1 rfl rfl,IFB_ne (fun h=>?_) (fun hlen=>?_)⟩)
  ·exact UnV.bad S2.below (fun hh=>h (by have:=hh.2.1;rw [this];simp [hmd])) (by rw [if_pos harg])
  ·have hlen':l.length=m:=by omega
   have hT:=tail_iff (l:=l) (n:=n) (w:=wd) (by omega)
   have hW:=tail_word (l:=l) (T:=n*wd) (by omega)
   refine S2.drawB fun w4 B4 S4=>?_
   have good:(0<l.length→n*wd % 8≠0→(l.getD (l.length-1) 0).toNat / 2 ^ (n*wd % 8)=0)→unOk l n wd:=fun h=>⟨by omega,hT.2 (hW.2 h)⟩
   refine IFB_dec (fun hpos=>⟨_,S4.cell 0 rfl rfl,?_⟩) (fun hz=>⟨rfl,good (fun h=>by omega),B4,S4⟩)
   rw [ew,emod]
   refine IFB_ne (fun h8=>⟨_,_,_,S4.cell 1 rfl rfl,?_⟩) (fun h8=>⟨rfl,good (fun _ h=>by omega),B4,S4⟩)
   rw [wrap_i64 (n:=(m:Int)-1) (by omega) (by omega)]
   refine⟨⟨by omega,by omega⟩,?_⟩
   have hj:m-1<l.length:=by omega
   obtain⟨p,rfl,hc⟩:=byte_at (hl.grown S4.below) hj
   refine⟨_,by rw [show ((m:Int)-1).toNat=m-1 by omega];exact hc,_,S4.cell 0 rfl rfl,?_⟩
   rw [ew,emod]
   refine⟨by omega,?_⟩
   rw [Int.toNat_natCast,show min (n*wd % 8) 8=n*wd % 8 by omega,fdiv_pow]
   have hg:(l.getD (l.length-1) 0)=l[m-1]:=by rw [hlen'];exact getD_get hj
   refine IFB_ne (fun h=>UnV.bad S4.below (fun hh=>h ?_) (by rw [if_pos harg])) (fun h=>⟨rfl,good (fun _ _=>?_),B4,S4⟩)
   ·have:=hW.1 (hT.1 hh.2.2) (by omega) (by omega)
    rw [hg] at this
    rw [this];rfl
   ·rw [hg];omega
 rintro w5 ⟨_,hok,B5,S5⟩
 obtain⟨hlen,hpk⟩:=id hok
 refine make_new tU (l:=(n:Int)) (c:=(n:Int)) (by omega) (by omega) (by omega) (by omega) fun bo w6 hbo B6 hO6=>?_
 rw [Int.toNat_natCast,rowU_zero (bitB l) wd n] at hO6
 rw [Int.toNat_natCast]
 have S6:=S5.grown B6
 refine⟨_,_,_,rfl,S6.newB fun b16 w7 hb16 B7 S7=>S7.stoK 0 rfl (show 0<1 by decide) fun w8 K8 S8=>⟨_,S8.cell 1 rfl rfl,(pack_places_ok w8 (n:Int) (wd:Int)).mono ?_⟩⟩
 rintro _ w9 ⟨_,rfl,b1,b2,rfl,P9⟩
 have S9:=S8.grown P9.below
 have hbo6:bo<w6.heap.size:=(Array.getElem?_eq_some_iff.1 hO6).1
 have hO7:=(Keeps.of_below (F:=fun _=>False) B7).at hO6 (by simp)
 have hO8:=K8.at hO7 (show ¬ bo=b16 by omega)
 have hO9:=(Keeps.of_below (F:=fun _=>False) P9.below).at hO8 (by simp)
 have hbo0:w.heap.size≤bo:=Nat.le_trans S5.below.size hbo
 have hbo9:bo<w9.heap.size:=(Array.getElem?_eq_some_iff.1 hO9).1
 have hb39:=S9.lt (x:=(b3,_,_)) (List.mem_cons_of_mem _ (List.mem_cons_self ..))
 have hb49:=S9.lt (x:=(b4,_,_)) (List.mem_cons_of_mem _ (List.mem_cons_of_mem _ (List.mem_cons_self ..)))
 have hb169:=S9.lt (x:=(b16,_,_)) (List.mem_cons_self ..)
 have hb28:=P9.own (b2,_,_) (List.mem_cons_self ..)
 have hb18:=P9.own (b1,_,_) (List.mem_cons_of_mem _ (List.mem_cons_self ..))
 have hb29:=P9.lt (x:=(b2,_,_)) (List.mem_cons_self ..)
 have hb19:=P9.lt (x:=(b1,_,_)) (List.mem_cons_of_mem _ (List.mem_cons_self ..))
 have hb35:=S5.lt (x:=(b3,_,_)) (List.mem_cons_self ..)
 have hb45:=S5.lt (x:=(b4,_,_)) (List.mem_cons_of_mem _ (List.mem_cons_self ..))
 refine⟨_,_,_,rfl,by kernel_rfl,fun rr hst hpe hy=>?_⟩
 obtain⟨W1,hW1⟩:∃ W1,W1=(w9.alloc (.deferred (some []))).alloc (.loop rr):=⟨_,rfl⟩
 rw [← hW1]
 have B91:Below w9.heap.size w9 W1:=by rw [hW1];exact (((Below.refl _ w9).alloc (Nat.le_refl _) _).alloc (by simp) _)
 have sz1:W1.heap.size=w9.heap.size+2:=by rw [hW1];simp
 have hL1:W1.heap[w9.heap.size+1]?=some (.loop rr):=by
  rw [hW1];have:=World.alloc_heap_new (w9.alloc (.deferred (some []))) (.loop rr);rwa [World.size_alloc] at this
 have hD1:W1.heap[w9.heap.size]?=some (.deferred (some [])):=by
  rw [hW1];exact (Below.heap_alloc _ _ _ (by simp)).trans (World.alloc_heap_new w9 _)
 have K91:=Keeps.of_below (F:=fun _=>False) B91
 have hO1:=K91.at hO9 (by simp)
 obtain⟨L,hLd⟩:∃ L,L=w9.heap.size+1:=⟨_,rfl⟩
 rw [← hLd] at hL1 hy ⊢
 have Bw1:Below w.heap.size w W1:=S9.below.trans (B91.mono S9.below.size)
 have w09:=S9.below.size
 have low:∀ {w':World},Keeps (fun k=>k=bo∨k=L) W1 w'→Below w.heap.size w w':=fun K=>Bw1.trans (K.below Bw1.size fun k hk h=>by omega)
 have hc3:∀ {w':World},Keeps (fun k=>k=bo∨k=L) W1 w'→w'.cell? ⟨b3,0,none⟩=some (.int .i64 (wd:Int)):=fun K=>K.cell (K91.cell (S9.cell 1 rfl rfl) (by simp)) (by
  show ¬ (b3=bo∨b3=L)
  omega)
 have hc4:∀ {w':World},Keeps (fun k=>k=bo∨k=L) W1 w'→w'.cell? ⟨b4,0,none⟩=some (.slice a l.length c):=fun K=>K.cell (K91.cell (S9.cell 2 rfl rfl) (by simp)) (by
  show ¬ (b4=bo∨b4=L)
  omega)
 have hc16:∀ {w':World},Keeps (fun k=>k=bo∨k=L) W1 w'→w'.cell? ⟨b16,0,none⟩=some (.slice (some ⟨bo,0,none⟩) n n):=fun K=>K.cell (K91.cell (S9.cell 0 rfl rfl) (by simp)) (by
  show ¬ (b16=bo∨b16=L)
  omega)
 have hbo8:bo<w8.heap.size:=(Array.getElem?_eq_some_iff.1 hO8).1
 have e18:w8.heap.size≤b1:=by simpa using hb18
 have e28:w8.heap.size≤b2:=by simpa using hb28
 have hb1:∀ {w':World},Keeps (fun k=>k=bo∨k=L) W1 w'→w'.cell? ⟨b1,0,none⟩=some (.int .i64 (n:Int))∧w'.cell? ⟨b2,0,none⟩=some (.int .i64 (wd:Int)):=fun K =>
  ⟨K.cell (K91.cell (P9.cell 1 rfl rfl) (by simp)) (by show ¬ (b1=bo∨b1=L);omega),K.cell (K91.cell (P9.cell 0 rfl rfl) (by simp)) (by show ¬ (b2=bo∨b2=L);omega)⟩
 have hyp:∀ t,t<n*wd→∀ wx,(Keeps (fun k=>k=bo∨k=L) W1 wx∧wx.heap[bo]?=some (.cells (rowU (bitB l) wd n t) ty.uint64 (0,0))∧wx.heap[L]?=some (.loop rr)) →
   YLD Tryz.prog L #[.int .i64 ((t / wd:Nat):Int),.int .i64 ((t % wd:Nat):Int)] (fun y w'=>y=true∧(Keeps (fun k=>k=bo∨k=L) W1 w'∧w'.heap[bo]?=some (.cells (rowU (bitB l) wd n (t+1)) ty.uint64 (0,0))∧w'.heap[L]?=some (.loop rr))) wx:=by
  rintro t ht wx ⟨K,hO,hL⟩
  have hw0:0<wd:=Nat.pos_of_ne_zero (by rintro rfl;simp at ht)
  have hti:t / wd<n:=(Nat.div_lt_iff_lt_mul hw0).2 ht
  have htk:t % wd<wd:=Nat.mod_lt _ hw0
  have htm:t / 8<l.length:=by omega
  refine hy _ _ _ wx hL ⟨hL,?_⟩
  obtain⟨w11,hw11⟩:∃ w11,w11=wx.putObj L (.loop { rr with state:=.busy }):=⟨_,rfl⟩
  rw [← hw11]
  have hLlt:L<wx.heap.size:=(Array.getElem?_eq_some_iff.1 hL).1
  have K11:Keeps (fun k=>k=L) wx w11:=by rw [hw11];exact keeps_putObj _ _ _
  have hL11:w11.heap[L]?=some (.loop { rr with state:=.busy }):=by rw [hw11];exact World.putObj_heap_same hLlt
  have K2:Keeps (fun k=>k=bo∨k=L) W1 w11.drew:=(K.trans K11 (fun k _ h=>.inr h)).drew
  have hO12:w11.drew.heap[bo]?=some (.cells (rowU (bitB l) wd n t) ty.uint64 (0,0)):=K11.at hO (by show ¬ bo=L;omega)
  refine⟨_,hc3 (K.trans K11 (fun k _ h=>.inr h)),?_⟩
  unfold DRAW
  have et:IntKind.i64.wrap (IntKind.i64.wrap (((t / wd:Nat):Int)*(wd:Int))+((t % wd:Nat):Int))=(t:Int):=by
   have h1:((t / wd:Nat):Int)*(wd:Int)=((t / wd*wd:Nat):Int):=by rw [Int.natCast_mul]
   have h2:=Nat.div_add_mod t wd
   rw [Nat.mul_comm] at h2
   rw [h1]
   generalize t / wd*wd=q at h2
   generalize t % wd=r' at h2
   rw [wrap_i64 (n:=(q:Int)) (by omega) (by omega),wrap_i64 (by omega) (by omega)]
   omega
  have ed:Int.fdiv (t:Int) (2 ^ (min 3 64))=((t / 8:Nat):Int):=fdiv_pow t 3
  rw [et,ed]
  refine⟨_,_,_,hc16 K2,⟨Int.natCast_nonneg _,by exact_mod_cast hti⟩,?_⟩
  rw [Int.toNat_natCast]
  have ea:(⟨bo,0,none⟩:Addr).add (t / wd*1)=⟨bo,t / wd,none⟩:=by rw [addr_add_blk];simp
  obtain⟨p,rfl,hc⟩:=byte_at (hl.grown (low K2)) htm
  show ∃ n:Int,w11.drew.cell? ((⟨bo,0,none⟩:Addr).add (t / wd*1))=some (.int .u64 n)∧_
  rw [ea]
  have hcell:w11.drew.cell? ⟨bo,t / wd,none⟩=some (.int .u64 (stU (bitB l) wd t (t / wd):Int)):=by
   simp only [World.cell?,hO12]
   simpa using rowU_get hti
  refine⟨_,hcell,_,_,_,hc4 K2,⟨Int.natCast_nonneg _,by exact_mod_cast htm⟩,_,by rw [Int.toNat_natCast];exact hc,?_⟩
  rw [and7 (by omega),Int.toNat_natCast,Int.toNat_natCast,bit_prog8 (l[t / 8]).toNat_lt (Nat.mod_lt _ (by omega)),shl_bit64 (by omega)]
  have hbit:l[t / 8].toNat.testBit (t % 8)=bitB l t:=by unfold bitB;rw [getD_get htm]
  rw [hbit]
  have hsh:(bitB l t).toNat*2 ^ (t % wd)<18446744073709551616:=by
   have:2 ^ (t % wd)<2 ^ 64:=Nat.pow_lt_pow_right (by omega) (by omega)
   cases bitB l t
   ·simp
   ·simpa using this
  have hsu:stU (bitB l) wd t (t / wd)<18446744073709551616:=Nat.lt_of_lt_of_le (stU_lt _ hw0 _ _) (Nat.pow_le_pow_right (n:=2) (by omega) hw)
  rw [or64 hsu hsh,stU_step]
  refine⟨Int.natCast_nonneg _,Int.natCast_nonneg _,⟨Int.natCast_nonneg _,by exact_mod_cast hti⟩,?_⟩
  show STO ((⟨bo,0,none⟩:Addr).add (t / wd*1)) _ _ _
  rw [ea]
  refine sto_blk hO12 (by rw [rowU_size];exact hti) fun w13 K13 hO13=>?_
  have hL13:w13.heap[L]?=some (.loop { rr with state:=.busy }):=K13.at (show w11.drew.heap[L]?=_ from hL11) (by show ¬ L=bo;omega)
  refine⟨hL13,rfl,?_⟩
  rw [rr_eta hst hpe]
  rw [rowU_set _ rfl] at hO13
  have hlt13:L<w13.heap.size:=(Array.getElem?_eq_some_iff.1 hL13).1
  refine⟨(K2.trans K13 (fun k _ h=>.inl h)).trans (keeps_putObj _ _ _) (fun k _ h=>.inr h),?_,World.putObj_heap_same hlt13⟩
  exact (World.putObj_heap_other (by omega)).trans hO13
 refine (places_ok (l:=L) (b1:=b1) (b2:=b2) hn hw (fun t wx=>Keeps (fun k=>k=bo∨k=L) W1 wx∧wx.heap[bo]?=some (.cells (rowU (bitB l) wd n t) ty.uint64 (0,0))∧wx.heap[L]?=some (.loop rr))
  (fun t wx hj=>hb1 hj.1) (fun t wx hj=>⟨hj.1.drew,hj.2.1,hj.2.2⟩) hyp ⟨.refl _ _,hO1,hL1⟩).mono ?_
 rintro _ w14 ⟨_,rfl,K14,hO14,hL14⟩
 have hlt14:L<w14.heap.size:=(Array.getElem?_eq_some_iff.1 hL14).1
 refine⟨⟨_,rfl⟩,none,by rw [rr_eta hst hpe];exact hL14,rfl,?_⟩
 obtain⟨w15,hw15⟩:∃ w15,w15=w14.putObj L (.loop { rr with state:=.exhausted,pending:=none }):=⟨_,rfl⟩
 rw [← hw15]
 have K15:Keeps (fun k=>k=bo∨k=L) W1 w15:=by rw [hw15];exact K14.trans (keeps_putObj _ _ _) (fun k _ h=>.inr h)
 have hO15:w15.heap[bo]?=some (.cells (rowU (bitB l) wd n (n*wd)) ty.uint64 (0,0)):=by rw [hw15];exact (World.putObj_heap_other (by omega)).trans hO14
 have hD15:w15.heap[w9.heap.size]?=some (.deferred (some [])):=K15.at hD1 (by show ¬ (w9.heap.size=bo∨w9.heap.size=L);omega)
 have B15:=low K15
 have hO16:=(World.putObj_heap_other (w:=w15) (o:=.deferred none) (show bo≠w9.heap.size by omega)).trans hO15
 refine⟨_,_,_,hc16 K15,hD15,unpackL l n wd,some ⟨bo,0,none⟩,n,0,by rw [unpackL_len],?_,B15.trans ((keeps_putObj w15 w9.heap.size _).below B15.size fun k hk he=>by omega),(fun p hp=>by cases hp;exact hbo0),.inl ⟨harg,hok,rfl,rfl⟩⟩
 have:=Rd.of_block0 hO16
 rwa [rowU_end] at this
end
section
variable {w:World}{a:Option Addr}{c:Nat}{l:List UInt8}
end
def takeMany(l:List UInt8)(at_:Nat):Nat→Option (List (List UInt8) × Nat)
 | 0=>some ([],at_)
 | k+1=>match takeT l (at_:Int) 1024 with
  | none=>none
  | some x=>(takeMany l x.2 k).map fun r=>(x.1 :: r.1,r.2)
theorem takeT_le{l:List UInt8}{at_:Int}{most:Nat}{s:List UInt8}{k:Nat}(h:takeT l at_ most=some (s,k)):k≤l.length:=by
 unfold takeT at h
 split at h
 ·rename_i x hx
  have hb:=takeN_bounds (n:=x.1) (k:=x.2) hx
  split at h
  ·cases h
  ·simp only [Option.some.injEq,Prod.mk.injEq] at h
   omega
 ·cases h
theorem takeMany_len{l:List UInt8}:∀ {n at_:Nat} {r:List (List UInt8) × Nat},takeMany l at_ n=some r→r.1.length=n
 | 0,_,_,h=>by simp only [takeMany,Option.some.injEq] at h;subst h;rfl
 | n+1,at_,r,h=>by
  unfold takeMany at h
  split at h
  ·cases h
  ·obtain⟨q,hq,rfl⟩:=Option.map_eq_some_iff.1 h
   simp [takeMany_len hq]
theorem takeMany_le{l:List UInt8}:∀ {n at_:Nat} {r:List (List UInt8) × Nat},takeMany l at_ n=some r→at_≤l.length→r.2≤l.length
 | 0,_,_,h,ha=>by simp only [takeMany,Option.some.injEq] at h;subst h;exact ha
 | n+1,at_,r,h,ha=>by
  unfold takeMany at h
  split at h
  ·cases h
  ·rename_i x hx
   obtain⟨q,hq,rfl⟩:=Option.map_eq_some_iff.1 h
   exact takeMany_le (r:=q) hq (takeT_le (s:=x.1) (k:=x.2) hx)
theorem takeMany_none{l:List UInt8}{at_ k:Nat}(hx:takeT l (at_:Int) 1024=none):takeMany l at_ (k+1)=none:=by
 unfold takeMany
 rw [hx]
theorem takeMany_some{l:List UInt8}{at_ k:Nat}{x:List UInt8 × Nat}(hx:takeT l (at_:Int) 1024=some x):takeMany l at_ (k+1)=(takeMany l x.2 k).map fun r=>(x.1 :: r.1,r.2):=by
 conv=>lhs;unfold takeMany
 rw [hx]
def ManyV(l:List UInt8)(at_ n:Nat)(w':World)(v:Value):Prop :=
 match takeMany l at_ n with
 | none=>v=.tuple #[.slice none 0 0,.int .i64 0,.bool false]
 | some r=>∃ a c,v=.tuple #[.slice a r.1.length c,.int .i64 (r.2:Int),.bool true]∧Rd w' a (strs r.1)
section
variable {w0 w:World}{a:Option Addr}{c:Nat}{l:List UInt8}
theorem dict_taker_ok(at_:Int):Calls Tryz.prog f.dict_taker #[.slice a l.length c,.int .i64 at_] w (Ret fun v w'=>∃ b1 b2,v=.func (.func f.dict_taker_c1) #[] #[.pointer (some ⟨b1,0,none⟩),.pointer (some ⟨b2,0,none⟩)] ∧
  SH (fun _=>False) w w' [(b2,#[.int .i64 at_],ty.int),(b1,#[.slice a l.length c],ty.L_uint8)]):=by
 apply R.dict_taker_calls
 unfold R.dict_taker
 exact (SH.start (fun _=>False) w).newB fun b1 w1 _ _ S1=>S1.newB fun b2 w2 _ _ S2=>⟨b1,b2,rfl,S2⟩
theorem taker_c1_ok{b1 b2 at_ n:Nat}(S:SH (fun _=>False) w0 w [(b2,#[.int .i64 (at_:Int)],ty.int),(b1,#[.slice a l.length c],ty.L_uint8)])(hl:Rd w0 a (l.map byteV))(hc:l.length≤c)(hs:l.length≤9223372036854775807)(hn:n≤4096) :
  Calls Tryz.prog f.dict_taker_c1 #[.int .u64 (n:Int),.pointer (some ⟨b1,0,none⟩),.pointer (some ⟨b2,0,none⟩)] w (Ret fun v w'=>ManyV l at_ n w' v∧Below w0.heap.size w0 w'):=by
 apply R.dict_taker_c1_calls
 unfold R.dict_taker_c1
 refine⟨fun st w1=>∃(i:Nat) (ss:List (List UInt8)) (at2:Nat) (oa:Option Addr) (oc:Nat),st=[.slice oa ss.length oc,.int .u64 (i:Int)]∧i=ss.length∧i≤n∧Row w1 ty.string 1 oa ss.length oc (strs ss) ∧
   SH (fun _=>False) w0 w1 [(b2,#[.int .i64 (at2:Int)],ty.int),(b1,#[.slice a l.length c],ty.L_uint8)]∧(∀ k,rowB oa=some k→w0.heap.size≤k∧k≠b1∧k≠b2) ∧
   takeMany l at_ n=(takeMany l at2 (n-i)).map fun r=>(ss++r.1,r.2),fun s _=>match s with
   | [_,.int _ i]=>n-i.toNat
   | _=>0,⟨0,[],at_,none,0,rfl,rfl,by omega,Row.nil _ _ _,S,by simp [rowB],by simp⟩,?_⟩
 rintro oa _ oc _ w1 ⟨i,ss,at2,_,_,hst,hi,hin,R1,S1,N1,hT⟩
 cases hst
 refine IFB_dec (fun hlt=>?_) (fun hge=>?_)
 ·refine⟨_,_,_,S1.cell 1 rfl rfl,_,S1.cell 0 rfl rfl,(wire_TakeText_any (hl.grown S1.below) hc hs (at2:Int) 1024).mono ?_⟩
  rintro _ w3 ⟨_,rfl,rfl,rfl⟩
  have hstep:n-i=(n-(i+1))+1:=by omega
  rw [hstep] at hT
  cases hx:takeT l (at2:Int) 1024 with
  | none =>
   refine⟨_,_,_,rfl,IFB_ne (fun _=>⟨?_,S1.below⟩) (fun h=>absurd h (by decide))⟩
   rw [takeMany_none hx] at hT
   unfold ManyV
   rw [hT]
   rfl
  | some x =>
   rw [takeMany_some hx] at hT
   refine⟨_,_,_,rfl,IFB_ne (fun h=>absurd rfl h) (fun _=>S1.newB fun b14 w4 hb14 B4 S4=>?_)⟩
   have hsrc:Rd w4 (some ⟨b14,0,none⟩) (strs [x.1]):=by
    have:=Rd.of_block0 (S4.get 0 rfl)
    simpa [strs] using this
   have l1:=S1.lt (x:=(b2,_,_)) (List.mem_cons_self ..)
   have l2:=S1.lt (x:=(b1,_,_)) (List.mem_cons_of_mem _ (List.mem_cons_self ..))
   refine append_strs (u:=[x.1]) (R1.grown B4) rfl hsrc (by simp;omega) fun a5 c5 w5 R5 K5 N5=>⟨_,_,_,rfl,?_⟩
   have S5:SH (fun _=>False) w0 w5 [(b2,#[.int .i64 (at2:Int)],ty.int),(b1,#[.slice a l.length c],ty.L_uint8)]:=(S4.drop 1).kept K5 (by
    intro y hy hr
    simp only [List.drop_succ_cons,List.drop_zero,List.mem_cons,List.not_mem_nil,or_false] at hy
    rcases hy with rfl | rfl
    ·exact (N1 _ hr).2.2 rfl
    ·exact (N1 _ hr).2.1 rfl) (fun k hk hr=>by have:=(N1 _ hr).1;omega)
   have N5':∀ k,rowB a5=some k→w0.heap.size≤k∧k≠b1∧k≠b2:=by
    intro k hk
    have:=B4.size
    rcases N5 k hk with h | h
    ·exact N1 k h
    ·have:=S4.below.size
     exact⟨by omega,by omega,by omega⟩
   refine S5.stoK 0 rfl (show 0<1 by decide) fun w6 K6 S6=>?_
   have R6:=R5.keeps K6 fun k hk he=>(N5' k hk).2.2 he
   rw [show IntKind.u64.wrap ((i:Int)+1)=((i+1:Nat):Int) by rw [wrap_u64_id (by omega) (by omega)];omega]
   refine⟨⟨i+1,ss++[x.1],x.2,a5,c5,rfl,by simp [hi],by omega,R6,S6,N5',?_⟩,?_⟩
   ·rw [hT,Option.map_map]
    congr 1
    funext r
    simp
   ·simp only [Int.toNat_natCast]
    omega
 ·have hin':i=n:=by omega
  refine S1.drawB fun w2 B2 S2=>⟨_,S2.cell 0 rfl rfl,?_,S2.below⟩
  have:n-i=0:=by omega
  rw [this] at hT
  unfold ManyV
  have e:takeMany l at_ n=some (ss,at2):=by rw [hT];simp [takeMany]
  rw [e]
  exact⟨oa,oc,rfl,(R1.grown B2).rd⟩
end
theorem takeN_at{n:Nat}(h:n<18446744073709551616)(pre b:List UInt8):takeN (pre++(digitsL n++b)) (pre.length:Int)=some (n,pre.length+(digitsL n).length):=by
 unfold takeN
 rw [if_neg (by omega),Int.toNat_natCast,List.drop_left]
 rw [readN_digits n 0 0 b (by simpa using h) (by omega) (by intro;rfl)]
 simp
theorem takeT_at{s:ByteArray}(hz:s.size≤1024)(pre b:List UInt8):takeT (pre++(textL s++b)) (pre.length:Int) 1024=some (bl s,pre.length+(textL s).length):=by
 unfold takeT textL
 rw [List.append_assoc,takeN_at (by omega)]
 have hl:=bl_length s
 simp only
 rw [if_neg (by simp only [List.length_append];omega)]
 congr 1
 have e:pre++(digitsL s.size++(bl s++b))=(pre++digitsL s.size)++(bl s++b):=by simp
 rw [e,← List.length_append,List.drop_left,← hl,List.take_left]
 simp only [List.length_append,Nat.add_assoc]
theorem takeMany_at:∀ {ls:List ByteArray} (hz:∀ s∈ls,s.size≤1024) (pre b:List UInt8),takeMany (pre++(laidL ls++b)) pre.length ls.length=some (ls.map bl,pre.length+(laidL ls).length)
 | [],_,pre,b=>by simp [takeMany,laidL]
 | s :: ls,hz,pre,b=>by
  have e:pre++(laidL (s :: ls)++b)=pre++(textL s++(laidL ls++b)):=by simp [laidL]
  have e2:pre++(textL s++(laidL ls++b))=(pre++textL s)++(laidL ls++b):=by simp
  rw [List.length_cons]
  unfold takeMany
  rw [e,takeT_at (hz s (List.mem_cons_self ..))]
  simp only
  rw [e2,← List.length_append,takeMany_at (fun x hx=>hz x (List.mem_cons_of_mem _ hx))]
  simp [laidL,Nat.add_assoc]
theorem unpack_pack{xs:List Nat}{w:Nat}(hx:∀ x∈xs,x<2 ^ w):unpackL (packL xs w) xs.length w=xs:=by
 apply List.ext_getElem
 ·simp [unpackL]
 ·intro i h1 h2
  have e:(unpackL (packL xs w) xs.length w)[i]=stU (bitB (packL xs w)) w (xs.length*w) i:=by simp [unpackL]
  rw [e]
  have hxi:=hx _ (List.getElem_mem h2)
  by_cases hw:0<w
  case neg =>
   have:w=0:=by omega
   subst this
   have h0:xs[i]=0:=by simpa using hxi
   simp [stU,h0]
  apply Nat.eq_of_testBit_eq
  intro k
  rw [stU_bit _ hw]
  by_cases hk:k<w
  ·have hiw:i*w+k<xs.length*w:=by
    have:(i+1)*w≤xs.length*w:=Nat.mul_le_mul_right _ h2
    rw [Nat.succ_mul] at this
    omega
   have hd1:(i*w+k) / w=i:=by
    rw [Nat.mul_comm,Nat.mul_add_div (by omega),Nat.div_eq_of_lt hk,Nat.add_zero]
   have hd2:(i*w+k) % w=k:=by
    rw [Nat.mul_comm,Nat.mul_add_mod,Nat.mod_eq_of_lt hk]
   have hj:(i*w+k) / 8<sizeN xs.length w:=by unfold sizeN;omega
   have hb:bitB (packL xs w) (i*w+k)=bitA xs w (i*w+k):=by
    unfold bitB
    have:(packL xs w).getD ((i*w+k) / 8) 0=UInt8.ofNat (stB (bitA xs w) (xs.length*w) ((i*w+k) / 8)):=by
     simp [List.getD,pack_get hj]
    rw [this,pack_bit (Nat.mod_lt _ (by omega)),show (i*w+k) / 8*8+(i*w+k) % 8=i*w+k by omega]
    simp [hiw]
   rw [hb]
   unfold bitA
   rw [hd1,hd2]
   simp [hk,hiw,h2]
  ·rw [Nat.testBit_lt_two_pow (Nat.lt_of_lt_of_le hxi (Nat.pow_le_pow_right (by omega) (Nat.le_of_not_lt hk)))]
   simp [hk]
def tabB(many:Nat)(ts:List (List UInt8))(xs:List Nat):Option (List (List UInt8)):=if ∀ p∈xs,p<many then some (xs.map fun p=>ts.getD p []) else none
def tableL(l:List UInt8)(n:Nat):Option (List (List UInt8)) :=
 (takeN l 1).bind fun x=>if n<x.1 then none else (takeMany l x.2 x.1).bind fun y=>if l.length≤y.2 then none else
  if unArg (n:Int) ((l.getD y.2 0).toNat:Int)∧unOk (l.drop (y.2+1)) n (l.getD y.2 0).toNat then tabB x.1 y.1 (unpackL (l.drop (y.2+1)) n (l.getD y.2 0).toNat) else none
theorem places_lt{t:List (List UInt8)}{ls:List ByteArray}(ht:IsRise (ls.map bl) t):∀ x∈placesL t ls,x<t.length:=by
 intro x hx
 obtain⟨s,hs,rfl⟩:=List.mem_map.1 hx
 exact List.idxOf_lt_length_of_mem ((ht.mem _).2 (List.mem_map.2 ⟨s,hs,rfl⟩))
theorem rise_len{t:List (List UInt8)}{ls:List ByteArray}(ht:IsRise (ls.map bl) t):t.length≤ls.length:=by
 have:=nodup_len (lt_nodup ht.up) (fun x hx=>(ht.mem x).1 hx)
 simpa using this
theorem width13{t:List (List UInt8)}{ls:List ByteArray}{w:Nat}(ht:IsRise (ls.map bl) t)(hn:ls.length≤4096)(hw:IsLen (orL (placesL t ls)) w):w≤13 :=
 hw.le.2 ((orL_lt _ _).2 fun x hx=>by have:=places_lt ht x hx;have:=rise_len ht;omega)
theorem table_reads{ls:List ByteArray}{b:List UInt8}(hok:encOk 1 ls)(h:EncIs ls 1 b):tableL b ls.length=some (ls.map bl):=by
 cases h with
 | table t w ht hw =>
 obtain⟨_,_,hn,hlong⟩:=hok
 have hz:=longB_false hlong
 have htl:=rise_len ht
 have htz:∀ s∈t.map sof,s.size≤1024:=by
  intro s hs
  obtain⟨x,hx,rfl⟩:=List.mem_map.1 hs
  obtain⟨s',hs',rfl⟩:=List.mem_map.1 ((ht.mem x).1 hx)
  rw [sof_bl]
  exact hz s' hs'
 have hw13:=width13 ht hn hw
 have hpl:=(orL_lt _ _).1 hw.1
 obtain⟨xs,hxs⟩:∃ xs,xs=placesL t ls:=⟨_,rfl⟩
 have hxl:xs.length=ls.length:=by rw [hxs];simp [placesL]
 rw [← hxs] at hpl ⊢
 have e1:(1 :: digitsL t.length)++(laidL (t.map sof)++(UInt8.ofNat w :: packL xs w))=[1]++(digitsL t.length++(laidL (t.map sof)++(UInt8.ofNat w :: packL xs w))):=by simp
 have e2:[1]++(digitsL t.length++(laidL (t.map sof)++(UInt8.ofNat w :: packL xs w)))=([1]++digitsL t.length)++(laidL (t.map sof)++(UInt8.ofNat w :: packL xs w)):=by simp
 obtain⟨b,hb⟩:∃ b,b=(1 :: digitsL t.length)++(laidL (t.map sof)++(UInt8.ofNat w :: packL xs w)):=⟨_,rfl⟩
 have h1:takeN b 1=some (t.length,1+(digitsL t.length).length):=by
  rw [hb,e1]
  exact takeN_at (by omega) [1] _
 have h2:takeMany b (1+(digitsL t.length).length) t.length=some (t,1+(digitsL t.length).length+(laidL (t.map sof)).length):=by
  have h:=takeMany_at htz ([1]++digitsL t.length) (UInt8.ofNat w :: packL xs w)
  rw [← e2,← e1,← hb] at h
  simp only [List.length_append,List.length_cons,List.length_nil,List.length_map] at h
  rw [show 0+1+(digitsL t.length).length=1+(digitsL t.length).length by omega] at h
  rw [h]
  have:(t.map sof).map bl=t:=by
   rw [List.map_map]
   have:(bl ∘ sof)=id:=by funext x;exact bl_sof x
   rw [this,List.map_id]
  rw [this]
 obtain⟨q,hq⟩:∃ q,q=1+(digitsL t.length).length+(laidL (t.map sof)).length:=⟨_,rfl⟩
 have e3:b=((1 :: digitsL t.length)++laidL (t.map sof))++(UInt8.ofNat w :: packL xs w):=by rw [hb];simp
 have hq2:q=((1 :: digitsL t.length)++laidL (t.map sof)).length:=by rw [hq];simp;omega
 have hlen:b.length=q+1+(packL xs w).length:=by rw [e3,List.length_append,← hq2,List.length_cons];omega
 have hg:b.getD q 0=UInt8.ofNat w:=by
  rw [e3,hq2]
  simp [List.getD]
 have hd:b.drop (q+1)=packL xs w:=by
  rw [e3,hq2,← List.drop_drop,List.drop_left]
  rfl
 have hwN:(UInt8.ofNat w).toNat=w:=ofNat_toNat8 (by omega)
 rw [← hq] at h2
 rw [← hb]
 simp only [tableL,h1,h2,Option.bind_some,hg,hd,hwN]
 rw [if_neg (by omega),if_neg (by omega)]
 have hun:unpackL (packL xs w) ls.length w=xs:=by rw [← hxl];exact unpack_pack hpl
 have hcond:unArg (ls.length:Int) (w:Int)∧unOk (packL xs w) ls.length w:=by
  refine⟨⟨by omega,by omega,by omega,by omega⟩,?_,?_⟩
  ·rw [packL_len,hxl]
  ·rw [hun]
 rw [if_pos hcond,hun]
 unfold tabB
 rw [if_pos (by rw [hxs];exact places_lt ht),hxs]
 congr 1
 unfold placesL
 rw [List.map_map]
 apply List.map_congr_left
 intro s hs
 have hm:bl s∈t:=(ht.mem _).2 (List.mem_map.2 ⟨s,hs,rfl⟩)
 have hi:=List.idxOf_lt_length_of_mem hm
 simp only [Function.comp]
 simp [List.getD,hi,List.getElem_idxOf]
theorem plain_reads{ls:List ByteArray}{b:List UInt8}(hok:encOk 0 ls)(h:EncIs ls 0 b):(takeMany b 1 ls.length).map (·.1)=some (ls.map bl):=by
 cases h with
 | plain =>
 have h:=takeMany_at (longB_false hok.2.2.2) [0] []
 simp only [List.append_nil] at h
 have e:[0]++laidL ls=0 :: laidL ls:=rfl
 rw [e] at h
 have e1:([0]:List UInt8).length=1:=rfl
 rw [e1] at h
 rw [h]
 rfl
structure DecIs(l:List UInt8)(n:Nat)(ls:List ByteArray):Prop where
 len:ls.length=n
 ok:encOk ((l.getD 0 0).toNat:Int) ls
 enc:EncIs ls ((l.getD 0 0).toNat:Int) l
def readL(l:List UInt8)(n:Nat):Option (List (List UInt8)):=if l.getD 0 0=0 then (takeMany l 1 n).map (·.1) else tableL l n
theorem DecIs.reads{l:List UInt8}{n:Nat}{ls:List ByteArray}(h:DecIs l n ls):readL l n=some (ls.map bl):=by
 obtain⟨rfl,ok,enc⟩:=h
 unfold readL
 by_cases h0:l.getD 0 0=0
 ·rw [if_pos h0]
  rw [h0] at ok enc
  exact plain_reads ok enc
 ·rw [if_neg h0]
  have h1:((l.getD 0 0).toNat:Int)=1:=by
   have h2:=ok.1
   have h3:=ok.2.1
   have:(l.getD 0 0).toNat≠0:=fun h=>h0 (UInt8.toNat_inj.1 h)
   omega
  rw [h1] at ok enc
  exact table_reads ok enc
theorem DecIs.one{l:List UInt8}{n:Nat}{ls ms:List ByteArray}(h:DecIs l n ls)(h':DecIs l n ms):ls=ms:=by
 have:=Option.some.inj (h.reads.symm.trans h'.reads)
 have:=congrArg (List.map sof) this
 rwa [map_sof_bl,map_sof_bl] at this
theorem tableL_len{l:List UInt8}{n:Nat}{ms:List (List UInt8)}(h:tableL l n=some ms):ms.length=n:=by
 unfold tableL at h
 obtain⟨x,_,h⟩:=Option.bind_eq_some_iff.1 h
 split at h
 ·cases h
 ·obtain⟨y,_,h⟩:=Option.bind_eq_some_iff.1 h
  split at h
  ·cases h
  ·split at h
   ·unfold tabB at h
    split at h
    ·cases h;simp [unpackL]
    ·cases h
   ·cases h
theorem readL_len{l:List UInt8}{n:Nat}{ms:List (List UInt8)}(h:readL l n=some ms):ms.length=n:=by
 unfold readL at h
 split at h
 ·obtain⟨r,hr,rfl⟩:=Option.map_eq_some_iff.1 h
  exact takeMany_len hr
 ·exact tableL_len h
structure Two(B:Nat)(w:World)(ns:List Int)(na:Option Addr)(nc:Nat)(ss:List ByteArray)(sa:Option Addr)(sc:Nat):Prop where
 rn:Row w ty.int64 1 na ns.length nc (ns.map i64V)
 rs:Row w ty.string 1 sa ss.length sc (ss.map Value.string)
 nn:∀ x,rowB na=some x→B≤x
 sn:∀ x,rowB sa=some x→B≤x
 ne:∀ x,rowB na=some x→rowB sa≠some x
theorem Two.nil(B:Nat)(w:World):Two B w [] none 0 [] none 0:=⟨Row.nil _ _ _,Row.nil _ _ _,by simp [rowB],by simp [rowB],by simp [rowB]⟩
section
variable {B:Nat}{w w':World}{ns:List Int}{na:Option Addr}{nc:Nat}{ss:List ByteArray}{sa:Option Addr}{sc:Nat}
theorem Two.keeps(h:Two B w ns na nc ss sa sc){F:Nat→Prop}(K:Keeps F w w')(hF:∀ x,F x→x<B∨w.heap.size≤x):Two B w' ns na nc ss sa sc :=
 ⟨h.rn.keeps K fun x hx hf=>by have:=h.nn x hx;have:=h.rn.lt hx;have:=hF x hf;omega,h.rs.keeps K fun x hx hf=>by have:=h.sn x hx;have:=h.rs.lt hx;have:=hF x hf;omega,h.nn,h.sn,h.ne⟩
theorem Two.grown(h:Two B w ns na nc ss sa sc)(hb:Below w.heap.size w w'):Two B w' ns na nc ss sa sc:=h.keeps (F:=fun _=>False) (Keeps.of_below hb) (by simp)
theorem tL64:slT Tryz.prog ty.L_int64=some (ty.int64,1,8,.int .i64 0):=by kernel_rfl
theorem Two.appN(h:Two B w ns na nc ss sa sc)(hB:B≤w.heap.size)(hl:ns.length≤1000000){x:Int}{b:Nat}{t:TypeId}(hb:w.heap[b]?=some (.cells #[i64V x] t (0,0))){f:Value→World→Prop}
  (hf:∀ a' c' w',Two B w' (ns++[x]) a' c' ss sa sc→Keeps (fun k=>rowB na=some k) w w'→f (.slice a' (ns++[x]).length c') w'):OPR Tryz.prog (Builtin.append_ #[ty.L_int64,ty.L_int64] ty.L_int64 #[.slice na ns.length nc,.slice (some ⟨b,0,none⟩) 1 1]) f w:=by
 have hsrc:Rd w (some ⟨b,0,none⟩) ([x].map i64V):=by
  have:=Rd.of_block0 hb
  simpa using this
 obtain⟨a5,c5,w2,hrun,hrow,hk5,hnw⟩:=append_row (ty:=ty.L_int64) (mc:=1) tL64 rfl (by omega) (by omega) h.rn hsrc (m:=1) rfl (by simp [i64V];rfl) (by omega)
 unfold OPR
 rw [hrun]
 have e:ns.length+1=(ns++[x]).length:=by simp
 rw [e] at hrow ⊢
 refine hf a5 c5 w2 ⟨by rw [List.map_append];exact hrow,h.rs.keeps hk5 fun k hk hr=>h.ne k hr hk,fun k hk=>?_,h.sn,fun k hk hs=>?_⟩ hk5
 ·rcases hnw k hk with h1 | h1
  ·exact h.nn k h1
  ·omega
 ·rcases hnw k hk with h1 | h1
  ·exact h.ne k h1 hs
  ·have:=h.rs.lt hs
   omega
theorem Two.appS(h:Two B w ns na nc ss sa sc)(hB:B≤w.heap.size)(hl:ss.length≤1000000){x:ByteArray}{b:Nat}{t:TypeId}(hb:w.heap[b]?=some (.cells #[.string x] t (0,0))){f:Value→World→Prop}
  (hf:∀ a' c' w',Two B w' ns na nc (ss++[x]) a' c'→Keeps (fun k=>rowB sa=some k) w w'→f (.slice a' (ss++[x]).length c') w'):OPR Tryz.prog (Builtin.append_ #[ty.L_string,ty.L_string] ty.L_string #[.slice sa ss.length sc,.slice (some ⟨b,0,none⟩) 1 1]) f w:=by
 have hsrc:Rd w (some ⟨b,0,none⟩) ([x].map Value.string):=by
  have:=Rd.of_block0 hb
  simpa using this
 obtain⟨a5,c5,w2,hrun,hrow,hk5,hnw⟩:=append_row (ty:=ty.L_string) (mc:=1) tS rfl (by omega) (by omega) h.rs hsrc (m:=1) rfl (by simp;rfl) (by omega)
 unfold OPR
 rw [hrun]
 have e:ss.length+1=(ss++[x]).length:=by simp
 rw [e] at hrow ⊢
 refine hf a5 c5 w2 ⟨h.rn.keeps hk5 fun k hk hr=>h.ne k hk hr,by rw [List.map_append];exact hrow,h.nn,fun k hk=>?_,fun k hk hs=>?_⟩ hk5
 ·rcases hnw k hk with h1 | h1
  ·exact h.sn k h1
  ·omega
 ·rcases hnw k hs with h1 | h1
  ·exact h.ne k hk h1
  ·have:=h.rn.lt hk
   omega
end
def numsL(ls:List Val):List Int:=(fullL ls).map (·.2.1)
def textsL(ls:List Val):List ByteArray:=(fullL ls).map (·.2.2)
theorem numsL_len(ls:List Val):(numsL ls).length≤ls.length:=by unfold numsL fullL;rw [List.length_map];exact List.length_filter_le ..
theorem textsL_len(ls:List Val):(textsL ls).length≤ls.length:=by unfold textsL fullL;rw [List.length_map];exact List.length_filter_le ..
theorem nums_take{ls:List Val}{i:Nat}(hi:i<ls.length):(ls[i].1=0→numsL (ls.take (i+1))=numsL (ls.take i)∧textsL (ls.take (i+1))=textsL (ls.take i)) ∧
  (ls[i].1≠0→numsL (ls.take (i+1))=numsL (ls.take i)++[ls[i].2.1]∧textsL (ls.take (i+1))=textsL (ls.take i)++[ls[i].2.2]):=by
 unfold numsL textsL
 rw [fullL_take hi]
 constructor
 ·intro h;simp [h]
 ·intro h;simp [h]
inductive OthIs (kind:Int) (ls:List Val):List UInt8→Prop
 | text (h:kind=3) (b0 b1:List UInt8) (h0:EncIs (textsL ls) 0 b0) (h1:EncIs (textsL ls) 1 b1):OthIs kind ls (if b1.length<b0.length then b1 else b0)
 | num (h:kind≠3):OthIs kind ls (intsL (bestN (numsL ls)) (numsL ls))
theorem OthIs.one{kind:Int}{ls:List Val}{b c:List UInt8}(h:OthIs kind ls b)(h':OthIs kind ls c):b=c:=by
 cases h with
 | text h b0 b1 h0 h1 =>
  cases h' with
  | text k c0 c1 k0 k1=>rw [h0.one k0,h1.one k1]
  | num k=>exact absurd h k
 | num h =>
  cases h' with
  | text k c0 c1 k0 k1=>exact absurd k h
  | num k=>rfl
structure Good1(kind:Int)(ls:List Val):Prop where
 right:rightL kind ls=true
 ok:∀ v∈ls,ValOk v
theorem Good1.len{kind:Int}{ls:List Val}(h:Good1 kind ls):ls.length≤1024:=by
 have:=h.right
 simp [rightL] at this
 omega
theorem Good1.kind{kind:Int}{ls:List Val}(h:Good1 kind ls):1≤kind∧kind≤3:=by
 have:=h.right
 simp [rightL] at this
 omega
theorem Good1.all{kind:Int}{ls:List Val}(h:Good1 kind ls):∀ v∈ls,okV kind v=true:=by
 have:=h.right
 simp only [rightL,Bool.and_eq_true,List.all_eq_true] at this
 exact this.1
theorem Good1.nums{kind:Int}{ls:List Val}(h:Good1 kind ls):∀ x∈numsL ls,I64 x:=by
 intro x hx
 obtain⟨v,hv,rfl⟩:=List.mem_map.1 hx
 have:=h.ok v (List.mem_filter.1 hv).1
 exact⟨this.lo,this.hi⟩
theorem Good1.texts{kind:Int}{ls:List Val}(h:Good1 kind ls):longB (textsL ls)=false:=by
 unfold longB
 rw [List.any_eq_false]
 intro s hs
 obtain⟨v,hv,rfl⟩:=List.mem_map.1 hs
 have:=h.all v (List.mem_filter.1 hv).1
 simp only [okV,Bool.and_eq_true] at this
 have hr:=this.1
 simp only [decide_eq_true_eq]
 unfold rightB at hr
 have hE:∀ s:ByteArray,s=E0→s.size=0:=by rintro s rfl;rfl
 split at hr
 ·simp at hr;have:=hE _ hr.2;omega
 ·split at hr
  ·simp at hr;have:=hE _ hr;omega
  ·split at hr
   ·simp at hr;have:=hE _ hr.2;omega
   ·split at hr
    ·simp at hr;omega
    ·cases hr
theorem Good1.enc{kind:Int}{ls:List Val}(h:Good1 kind ls)(f:Int)(hf:0≤f∧f≤1):encOk f (textsL ls):=⟨hf.1,hf.2,by have:=textsL_len ls;have:=h.len;omega,h.texts⟩
theorem EncIs.len{f:Int}{ls:List ByteArray}{b:List UInt8}(hok:encOk f ls)(h:EncIs ls f b):b.length≤60000+ls.length*1034:=by
 obtain⟨_,_,hn,hlong⟩:=hok
 have hz:=longB_false hlong
 cases h with
 | plain =>
  have:=laidL_len hz
  simp only [List.length_cons]
  omega
 | table t w ht hw =>
  have htl:t.length≤ls.length:=by
   have:=nodup_len (lt_nodup ht.up) (fun x hx=>(ht.mem x).1 hx)
   simpa using this
  have htz:∀ s∈t.map sof,s.size≤1024:=by
   intro s hs
   obtain⟨x,hx,rfl⟩:=List.mem_map.1 hs
   obtain⟨s',hs',rfl⟩:=List.mem_map.1 ((ht.mem x).1 hx)
   rw [sof_bl]
   exact hz s' hs'
  have l1:=laidL_len htz
  rw [List.length_map] at l1
  have l2:=digitsL_len10 (n:=t.length) (by omega)
  have hw13:w≤13:=hw.le.2 ((orL_lt _ _).2 fun x hx=>by
   obtain⟨s,hs,rfl⟩:=List.mem_map.1 hx
   have:=List.idxOf_le_length (l:=t) (a:=bl s)
   omega)
  have hpl:(placesL t ls).length=ls.length:=by simp [placesL]
  have l3:(placesL t ls).length*w≤4096*13:=Nat.mul_le_mul (by omega) hw13
  simp only [List.length_append,List.length_cons,packL_len]
  unfold sizeN
  omega
theorem OthIs.len{kind:Int}{ls:List Val}{b:List UInt8}(hg:Good1 kind ls)(h:OthIs kind ls b):b.length≤2000000:=by
 have l1:=textsL_len ls
 have l2:=numsL_len ls
 have l3:=hg.len
 cases h with
 | text h b0 b1 h0 h1 =>
  have k0:=h0.len (hg.enc 0 (by omega))
  have k1:=h1.len (hg.enc 1 (by omega))
  split <;> omega
 | num h =>
  have:=intsL_len (bestN (numsL ls)) (by omega) hg.nums
  omega
section
variable {w:World}{a:Option Addr}{c:Nat}{ls:List Val}
end
section
variable {w:World}{a:Option Addr}{c:Nat}{ls:List Val}
theorem chunk_encoded_ok{kind:Int}(hg:Good1 kind ls)(hl:Rd w a (valsL ls)) :
  Calls Tryz.prog f.chunk_encoded #[.int .i64 kind,.slice a ls.length c] w (Ret fun v w'=>∃ b a' c',v=.slice a' b.length c'∧OthIs kind ls b∧NewB w w' b a' c'):=by
 have hlen:=hg.len
 apply R.chunk_encoded_calls
 unfold R.chunk_encoded
 refine (SH.start (fun _=>False) w).newB fun b3 w1 hb3 B1 S1=>S1.newB fun b4 w2 hb4 B2 S2=>chunk_full_ok.mono ?_
 rintro _ w9 ⟨_,rfl,bI,rfl,P9⟩
 refine⟨_,_,_,rfl,by kernel_rfl,fun rr hst hpe hy=>?_⟩
 obtain⟨W1,hW1⟩:∃ W1,W1=(w9.alloc (.deferred (some []))).alloc (.loop rr):=⟨_,rfl⟩
 rw [← hW1]
 have B91:Below w9.heap.size w9 W1:=by rw [hW1];exact (((Below.refl _ w9).alloc (Nat.le_refl _) _).alloc (by simp) _)
 have sz1:W1.heap.size=w9.heap.size+2:=by rw [hW1];simp
 have hL1:W1.heap[w9.heap.size+1]?=some (.loop rr):=by
  rw [hW1];have:=World.alloc_heap_new (w9.alloc (.deferred (some []))) (.loop rr);rwa [World.size_alloc] at this
 have hD1:W1.heap[w9.heap.size]?=some (.deferred (some [])):=by
  rw [hW1];exact (Below.heap_alloc _ _ _ (by simp)).trans (World.alloc_heap_new w9 _)
 have K91:=Keeps.of_below (F:=fun _=>False) B91
 obtain⟨L,hLd⟩:∃ L,L=w9.heap.size+1:=⟨_,rfl⟩
 rw [← hLd] at hL1 hy ⊢
 have S9:=S2.grown P9.below
 have h39:=S9.lt (x:=(b3,_,_)) (List.mem_cons_of_mem _ (List.mem_cons_self ..))
 have h49:=S9.lt (x:=(b4,_,_)) (List.mem_cons_self ..)
 have hb34:b4≠b3:=S9.ne 0 1 rfl rfl (by decide)
 have Bw9:Below w.heap.size w w9:=S9.below
 have Bw1:Below w.heap.size w W1:=Bw9.trans (B91.mono Bw9.size)
 have w09:=Bw9.size
 have hb3w:w.heap.size≤b3:=hb3
 have hb4w:w.heap.size≤b4:=by have:=B1.size;omega
 let F:Nat→Prop:=fun x=>x=b3∨x=b4∨x=L
 let J:Nat→World→Prop:=fun q wx=>Keeps F W1 wx∧wx.heap[L]?=some (.loop rr)∧∃ na nc sa sc,wx.heap[b3]?=some (.cells #[.slice na (numsL (ls.take q)).length nc] ty.L_int64 (0,0)) ∧
  wx.heap[b4]?=some (.cells #[.slice sa (textsL (ls.take q)).length sc] ty.L_string (0,0))∧Two W1.heap.size wx (numsL (ls.take q)) na nc (textsL (ls.take q)) sa sc
 have low:∀ {w':World},Keeps F W1 w'→Below w.heap.size w w':=fun K=>Bw1.trans (K.below Bw1.size fun k hk h=>by
  rcases h with h | h | h <;> omega)
 have hI:W1.cell? ⟨bI,0,none⟩=some (.slice a ls.length c):=cell0 (K91.at (P9.get 0 rfl) (by simp))
 have hcall:=full_c1_ok (w:=W1) (L:=L) (b:=bI) (by omega) J (fun q wx hj=>hl.grown (low hj.1)) (fun q wx wy hj B=>by
   obtain⟨j1,j2,na,nc,sa,sc,j3,j4,j5⟩:=hj
   have K:=Keeps.of_below (F:=fun _=>False) B
   exact⟨j1.trans K (fun x _ h=>h.elim),K.at j2 (by simp),na,nc,sa,sc,K.at j3 (by simp),K.at j4 (by simp),j5.grown B⟩) (fun q wx hq hz hj=>by
   obtain⟨j1,j2,na,nc,sa,sc,j3,j4,j5⟩:=hj
   obtain⟨e1,e2⟩:=(nums_take hq).1 hz
   exact⟨j1,j2,na,nc,sa,sc,by rw [e1];exact j3,by rw [e2];exact j4,by rw [e1,e2];exact j5⟩) (by
  rintro q wx hq hne ⟨K,hL,na,nc,sa,sc,g3,g4,hT⟩
  obtain⟨e1,e2⟩:=(nums_take hq).2 hne
  have hn1:=numsL_len (ls.take q)
  have hn2:=textsL_len (ls.take q)
  rw [List.length_take] at hn1 hn2
  refine hy _ _ _ _ wx hL ?_
  refine (SH.start (fun _=>False) wx).lit3 fun b11 w8 hb11 B8 S8=>?_
  have K8:=Keeps.of_below (F:=fun _=>False) B8
  have hL8:=K8.at hL (by simp)
  refine⟨hL8,?_⟩
  obtain⟨wB,hwB⟩:∃ wB,wB=w8.putObj L (.loop { rr with state:=.busy }):=⟨_,rfl⟩
  rw [← hwB]
  have hLlt:L<w8.heap.size:=(Array.getElem?_eq_some_iff.1 hL8).1
  have KB:Keeps (fun k=>k=L) w8 wB:=by rw [hwB];exact keeps_putObj _ _ _
  have hLB:wB.heap[L]?=some (.loop { rr with state:=.busy }):=by rw [hwB];exact World.putObj_heap_same hLlt
  unfold DRAW
  obtain⟨wD,hwD⟩:∃ wD,wD=wB.drew:=⟨_,rfl⟩
  rw [← hwD]
  have KD:Keeps (fun _=>False) wB wD:=by rw [hwD];exact (Keeps.refl _ _).drew
  have sx:=K.size
  have s8:=B8.size
  have d3:wD.heap[b3]?=some (.cells #[.slice na (numsL (ls.take q)).length nc] ty.L_int64 (0,0)):=KD.at (KB.at (K8.at g3 (by simp)) (by show ¬ b3=L;omega)) (by simp)
  have d4:wD.heap[b4]?=some (.cells #[.slice sa (textsL (ls.take q)).length sc] ty.L_string (0,0)):=KD.at (KB.at (K8.at g4 (by simp)) (by show ¬ b4=L;omega)) (by simp)
  have dL:wD.heap[L]?=some (.loop { rr with state:=.busy }):=KD.at hLB (by simp)
  have d11:wD.heap[b11]?=some (.cells #[.int .i64 ls[q].1,.int .i64 ls[q].2.1,.string ls[q].2.2] ty.api_Value (0,0)):=KD.at (KB.at (S8.get 0 rfl) (by show ¬ b11=L;omega)) (by simp)
  have dT:Two W1.heap.size wD (numsL (ls.take q)) na nc (textsL (ls.take q)) sa sc:=((hT.grown B8).keeps KB (fun x hx=>.inl (by omega))).keeps KD (by simp)
  have dK:Keeps F W1 wD:=((K.trans K8 (fun x _ h=>h.elim)).trans KB (fun x _ h=>.inr (.inr h))).trans KD (fun x _ h=>h.elim)
  have l3:b3<W1.heap.size:=by omega
  have l4:b4<W1.heap.size:=by omega
  have lL:L<W1.heap.size:=by omega
  have l11:W1.heap.size≤b11:=by omega
  have fin:∀(wy:World) (na':Option Addr) (nc':Nat) (sa':Option Addr) (sc':Nat),Keeps F W1 wy→wy.heap[L]?=some (.loop { rr with state:=.busy })→wy.heap[b3]?=some (.cells #[.slice na (numsL (ls.take q)).length nc] ty.L_int64 (0,0)) →
    wy.heap[b4]?=some (.cells #[.slice sa (textsL (ls.take q)).length sc] ty.L_string (0,0))→Two W1.heap.size wy (numsL (ls.take q)++[ls[q].2.1]) na' nc' (textsL (ls.take q)++[ls[q].2.2]) sa' sc' →
    STO ⟨b3,0,none⟩ (.slice na' (numsL (ls.take q)++[ls[q].2.1]).length nc') (fun w15=>STO ⟨b4,0,none⟩ (.slice sa' (textsL (ls.take q)++[ls[q].2.2]).length sc') (fun w16=>ENDR rr L (fun y w'=>y=true∧(Keeps F W1 w'∧w'.heap[L]?=some (.loop rr)∧∃ na nc sa sc,w'.heap[b3]?=some (.cells #[.slice na (numsL (ls.take (q+1))).length nc] ty.L_int64 (0,0)) ∧
  w'.heap[b4]?=some (.cells #[.slice sa (textsL (ls.take (q+1))).length sc] ty.L_string (0,0))∧Two W1.heap.size w' (numsL (ls.take (q+1))) na nc (textsL (ls.take (q+1))) sa sc)) none w16) w15) wy:=by
   intro wy na' nc' sa' sc' yK yL y3 y4 yT
   refine sto_blk y3 (by simp) fun wz Kz z3=>sto_blk (Kz.at y4 hb34) (by simp) fun wq Kq q4=>?_
   have qL:wq.heap[L]?=some (.loop { rr with state:=.busy }):=Kq.at (Kz.at yL (by show ¬ L=b3;omega)) (by show ¬ L=b4;omega)
   refine⟨qL,rfl,?_⟩
   rw [rr_eta hst hpe]
   have lq:L<wq.heap.size:=(Array.getElem?_eq_some_iff.1 qL).1
   have KP:=keeps_putObj wq L (.loop rr)
   have q3:=Kq.at z3 (show ¬ b3=b4 from fun h=>hb34 h.symm)
   refine⟨((yK.trans Kz (fun x _ h=>.inl h)).trans Kq (fun x _ h=>.inr (.inl h))).trans KP (fun x _ h=>.inr (.inr h)),World.putObj_heap_same lq,na',nc',sa',sc',?_,?_,?_⟩
   ·rw [e1];exact KP.at q3 (by show ¬ b3=L;omega)
   ·rw [e2];exact KP.at q4 (by show ¬ b4=L;omega)
   ·rw [e1,e2]
    exact ((yT.keeps Kz (fun x hx=>.inl (by omega))).keeps Kq (fun x hx=>.inl (by omega))).keeps KP (fun x hx=>.inl (by omega))
  have offN:∀ {x:Nat},x<W1.heap.size→¬ rowB na=some x:=fun hx h=>by have:=hT.nn _ h;omega
  have offS:∀ {x:Nat},x<W1.heap.size→¬ rowB sa=some x:=fun hx h=>by have:=hT.sn _ h;omega
  have sB:w8.heap.size≤wB.heap.size:=KB.size
  have sD:wB.heap.size≤wD.heap.size:=KD.size
  have c11a:wD.cell? ⟨b11,1,none⟩=some (.int .i64 ls[q].2.1):=by simp [World.cell?,d11]
  have c11b:wD.cell? ⟨b11,2,none⟩=some (.string ls[q].2.2):=by simp [World.cell?,d11]
  refine⟨_,_,_,cell0 d3,_,c11a,_,_,_,cell0 d4,_,c11b,?_,?_⟩
  ·refine (SH.start (fun _=>False) wD).newB fun b16 wE hb16 BE SE=>?_
   have KE:=Keeps.of_below (F:=fun _=>False) BE
   have f3:=KE.at d3 (by simp)
   have f4:=KE.at d4 (by simp)
   have fL:=KE.at dL (by simp)
   have f11:=KE.at d11 (by simp)
   have fT:=dT.grown BE
   have fK:Keeps F W1 wE:=dK.trans KE (fun x _ h=>h.elim)
   have sE:=BE.size
   refine⟨by simp [World.cell?,f11],cell0 f4,cell0 f3,?_,?_⟩
   ·refine fT.appN (by omega) (by omega) (SE.get 0 rfl) fun aN cN wN hN KN=>⟨_,_,_,rfl,?_⟩
    have n11:¬ rowB na=some b11:=fun h=>by have:=hT.rn.lt h;omega
    have m11:=KN.at f11 n11
    have m3:=KN.at f3 (offN l3)
    have m4:=KN.at f4 (offN l4)
    have mL:=KN.at fL (offN lL)
    have mK:Keeps F W1 wN:=fK.trans KN (fun x hx h=>absurd h (offN hx))
    have sN:=KN.size
    refine⟨by simp [World.cell?,m11],cell0 m4,(SH.start (fun _=>False) wN).newB fun b19 wO hb19 BO SO=>⟨cell0 ((Keeps.of_below (F:=fun _=>False) BO).at m4 (by simp)),?_⟩⟩
    have KO:=Keeps.of_below (F:=fun _=>False) BO
    have sO:=BO.size
    refine (hN.grown BO).appS (by omega) (by omega) (SO.get 0 rfl) fun aS cS wS hS KS=>⟨_,_,_,rfl,?_⟩
    refine fin wS aN cN aS cS ((mK.trans KO (fun x _ h=>h.elim)).trans KS (fun x hx h=>absurd h (offS hx))) (KS.at (KO.at mL (by simp)) (offS lL)) (KS.at (KO.at m3 (by simp)) (offS l3)) (KS.at (KO.at m4 (by simp)) (offS l4)) hS
   ·refine (SH.start (fun _=>False) wE).newB fun b22 wO hb22 BO SO=>?_
    have KO:=Keeps.of_below (F:=fun _=>False) BO
    have sO:=BO.size
    have o3:=KO.at f3 (by simp)
    have o4:=KO.at f4 (by simp)
    have oL:=KO.at fL (by simp)
    have o16:wO.heap[b16]?=some (.cells #[.int .i64 ls[q].2.1] ty.int64 (0,0)):=KO.at (SE.get 0 rfl) (by simp)
    have oK:Keeps F W1 wO:=fK.trans KO (fun x _ h=>h.elim)
    refine⟨cell0 o4,cell0 o3,(fT.grown BO).appN (by omega) (by omega) o16 fun aN cN wN hN KN=>⟨_,_,_,rfl,cell0 (KN.at o4 (offN l4)),?_⟩⟩
    have n22:¬ rowB na=some b22:=fun h=>by have:=hT.rn.lt h;omega
    have sN:=KN.size
    refine hN.appS (by omega) (by omega) (KN.at (SO.get 0 rfl) n22) fun aS cS wS hS KS=>⟨_,_,_,rfl,?_⟩
    exact fin wS aN cN aS cS ((oK.trans KN (fun x hx h=>absurd h (offN hx))).trans KS (fun x hx h=>absurd h (offS hx))) (KS.at (KN.at oL (offN lL)) (offS lL)) (KS.at (KN.at o3 (offN l3)) (offS l3)) (KS.at (KN.at o4 (offN l4)) (offS l4)) hS
  ·refine (SH.start (fun _=>False) wD).newB fun b27 wE hb27 BE SE=>?_
   have KE:=Keeps.of_below (F:=fun _=>False) BE
   have f3:=KE.at d3 (by simp)
   have f4:=KE.at d4 (by simp)
   have fL:=KE.at dL (by simp)
   have f11:=KE.at d11 (by simp)
   have fT:=dT.grown BE
   have fK:Keeps F W1 wE:=dK.trans KE (fun x _ h=>h.elim)
   have sE:=BE.size
   refine⟨cell0 f4,by simp [World.cell?,f11],cell0 f3,(SH.start (fun _=>False) wE).newB fun b28 wO hb28 BO SO=>?_⟩
   have KO:=Keeps.of_below (F:=fun _=>False) BO
   have sO:=BO.size
   have o3:=KO.at f3 (by simp)
   have o4:=KO.at f4 (by simp)
   have oL:=KO.at fL (by simp)
   have o27:wO.heap[b27]?=some (.cells #[.string ls[q].2.2] ty.string (0,0)):=KO.at (SE.get 0 rfl) (by simp)
   have oK:Keeps F W1 wO:=fK.trans KO (fun x _ h=>h.elim)
   refine⟨cell0 o4,cell0 o3,(fT.grown BO).appN (by omega) (by omega) (SO.get 0 rfl) fun aN cN wN hN KN=>⟨_,_,_,rfl,cell0 (KN.at o4 (offN l4)),?_⟩⟩
   have n27:¬ rowB na=some b27:=fun h=>by have:=hT.rn.lt h;omega
   have sN:=KN.size
   refine hN.appS (by omega) (by omega) (KN.at o27 n27) fun aS cS wS hS KS=>⟨_,_,_,rfl,?_⟩
   exact fin wS aN cN aS cS ((oK.trans KN (fun x hx h=>absurd h (offN hx))).trans KS (fun x hx h=>absurd h (offS hx))) (KS.at (KN.at oL (offN lL)) (offS lL)) (KS.at (KN.at o3 (offN l3)) (offS l3)) (KS.at (KN.at o4 (offN l4)) (offS l4)) hS)
  ⟨.refl _ _,hL1,none,0,none,0,K91.at (S9.get 1 rfl) (by simp),K91.at (S9.get 0 rfl) (by simp),Two.nil _ _⟩ hI
 refine hcall.mono ?_
 rintro _ w14 ⟨_,rfl,K14,hL14,na,nc,sa,sc,g3,g4,hT⟩
 rw [List.take_length] at g3 g4 hT
 refine⟨⟨_,rfl⟩,none,by rw [rr_eta hst hpe];exact hL14,rfl,?_⟩
 obtain⟨w15,hw15⟩:∃ w15,w15=w14.putObj L (.loop { rr with state:=.exhausted,pending:=none }):=⟨_,rfl⟩
 rw [← hw15]
 have K15:Keeps (fun k=>k=L) w14 w15:=by rw [hw15];exact keeps_putObj _ _ _
 have KF:=K14.trans K15 (fun x _ h=>.inr (.inr h))
 have g3':=K15.at g3 (show ¬ b3=L by omega)
 have g4':=K15.at g4 (show ¬ b4=L by omega)
 have hT':=hT.keeps K15 (fun x hx=>.inl (by omega))
 have hD15:w15.heap[w9.heap.size]?=some (.deferred (some [])):=KF.at hD1 (by show ¬ (w9.heap.size=b3∨w9.heap.size=b4∨w9.heap.size=L);omega)
 have B15:=low KF
 have hn4:(textsL ls).length≤9223372036854775807:=by have:=textsL_len ls;omega
 have hn5:(numsL ls).length≤4096:=by have:=numsL_len ls;omega
 have s15:=KF.size
 have fin2:∀ {wz:World} {b:List UInt8} {az:Option Addr} {cz:Nat},NewB w15 wz b az cz→wz.heap[w9.heap.size]?=some (.deferred (some []))∧NewB w (wz.putObj w9.heap.size (.deferred none)) b az cz:=by
  intro wz b az cz hN
  have KP:=keeps_putObj wz w9.heap.size (.deferred none)
  have hB:=below_trans B15 hN.bel
  refine⟨(Keeps.of_below (F:=fun _=>False) hN.bel).at hD15 (by simp),hN.row.keeps KP fun x hx he=>by have:=hN.new x hx;omega,fun k hk=>by have:=hN.new k hk;omega,hB.trans (KP.below hB.size fun k hk he=>by omega)⟩
 refine IFB_eq (fun h3=>⟨_,_,_,cell0 g4',?_⟩) (fun h3=>⟨_,_,_,cell0 g3',?_⟩)
 ·refine (dict_Best_ok hT'.rs.rd hn4).mono ?_
  rintro _ w30 ⟨_,rfl,hB,B30⟩
  rcases hB with ⟨hno,_⟩ | ⟨b0,b1,h0,h1,_,rfl⟩
  ·exact absurd (hg.enc 0 (by omega)) hno
  refine⟨_,_,rfl,_,_,_,cell0 ((Keeps.of_below (F:=fun _=>False) B30).at g4' (by simp)),?_⟩
  have hf:0≤(if b1.length<b0.length then (1:Int) else 0)∧(if b1.length<b0.length then (1:Int) else 0)≤1:=by split <;> omega
  refine (dict_Encode_ok _ (hT'.rs.rd.grown B30) hn4).mono ?_
  rintro _ w31 ⟨_,rfl,hE⟩
  rcases hE with ⟨hno,_⟩ | ⟨_,b,az,cz,hE,rfl,hN⟩
  ·exact absurd (hg.enc _ hf) hno
  obtain⟨q1,q2⟩:=fin2 (hN.before B30)
  refine⟨_,_,_,_,rfl,q1,b,az,cz,rfl,?_,q2⟩
  have:=OthIs.text (kind:=kind) (ls:=ls) h3 b0 b1 h0 h1
  split at hE
  ·rename_i hlt
   rw [if_pos hlt] at this
   rw [hE.one h1];exact this
  ·rename_i hlt
   rw [if_neg hlt] at this
   rw [hE.one h0];exact this
 ·refine (ints_Best_ok hT'.rn.rd hT'.rn.le hn5 hg.nums).mono ?_
  rintro _ w30 ⟨_,rfl,rfl,B30⟩
  refine⟨_,_,rfl,_,_,_,cell0 ((Keeps.of_below (F:=fun _=>False) B30).at g3' (by simp)),(ints_Encode_ok _ (hT'.rn.rd.grown B30) hT'.rn.le hg.nums).mono ?_⟩
  rintro _ w31 ⟨_,rfl,hE⟩
  obtain⟨az,cz,rfl,hN⟩:=IntsV.good (bestN_le _) hn5 hE
  obtain⟨q1,q2⟩:=fin2 (hN.before B30)
  exact⟨_,_,_,_,rfl,q1,_,az,cz,rfl,.num h3,q2⟩
end
theorem sealed_bytes(x:BitVec 32)(w:World)(b:Nat)(t:TypeId)(hb:w.heap[b]?=some (.cells #[.int .u8 (IntKind.u8.wrap (x.toNat:Int)),.int .u8 (IntKind.u8.wrap ((Int.fdiv (x.toNat:Int) (2 ^ (min 8 32))))),.int .u8 (IntKind.u8.wrap ((Int.fdiv (x.toNat:Int) (2 ^ (min 16 32))))),.int .u8 (IntKind.u8.wrap ((Int.fdiv (x.toNat:Int) (2 ^ (min 24 32)))))] t (0,0))) :
  Rd w (some ⟨b,0,none⟩) ((sum4 x).map byteV):=by
 have:=Rd.of_block0 hb
 rw [u8of_nat,u8of_shift,u8of_shift,u8of_shift] at this
 exact this
def headL(kind:Int)(ls:List Val):List UInt8:=[UInt8.ofNat kind.toNat]++digitsL ls.length++digitsL (nullsN ls)
def maskL(ls:List Val):List UInt8:=if 0<nullsN ls∧nullsN ls<ls.length then packL (bitsN ls) 1 else []
structure ChIs(kind:Int)(ls:List Val)(b:List UInt8):Prop where
 ex:∃ o,(nullsN ls<ls.length→OthIs kind ls o)∧(¬ nullsN ls<ls.length→o=[])∧b=(headL kind ls++maskL ls++o)++sum4 (crc (headL kind ls++maskL ls++o))
theorem ChIs.one{kind:Int}{ls:List Val}{b c:List UInt8}(h:ChIs kind ls b)(h':ChIs kind ls c):b=c:=by
 obtain⟨o,h1,h2,rfl⟩:=h.ex
 obtain⟨o',k1,k2,rfl⟩:=h'.ex
 have:o=o':=by
  by_cases hn:nullsN ls<ls.length
  ·exact (h1 hn).one (k1 hn)
  ·rw [h2 hn,k2 hn]
 rw [this]
def ChV(kind:Int)(ls:List Val)(w w':World)(r:Value):Prop :=
 (rightL kind ls=false∧r=.tuple #[.slice none 0 0,.int .i64 2]∧Below w.heap.size w w')∨(rightL kind ls=true∧∃ b a c,ChIs kind ls b∧r=.tuple #[.slice a b.length c,.int .i64 0]∧NewB w w' b a c)
theorem headL_len{kind:Int}{ls:List Val}(hg:Good1 kind ls):(headL kind ls).length≤21:=by
 have h1:=digitsL_len10 (n:=ls.length) (by have:=hg.len;omega)
 have h2:=digitsL_len10 (n:=nullsN ls) (by have:=hg.len;have:=nullsN_le ls;omega)
 simp only [headL,List.length_append,List.length_cons,List.length_nil]
 omega
theorem maskL_len{kind:Int}{ls:List Val}(hg:Good1 kind ls):(maskL ls).length≤200:=by
 have:=hg.len
 unfold maskL
 split
 ·rw [packL_len]
  unfold sizeN
  have:(bitsN ls).length=ls.length:=by simp [bitsN]
  rw [this]
  omega
 ·simp
theorem bits_lt(ls:List Val):∀ x∈bitsN ls,x<2 ^ 1:=by
 intro x hx
 obtain⟨v,_,rfl⟩:=List.mem_map.1 hx
 split <;> omega
section
variable {w:World}{a:Option Addr}{c:Nat}{ls:List Val}
theorem chunk_Encode_ok(kind:Int)(hl:Rd w a (valsL ls))(hn:ls.length≤9223372036854775807)(hv:∀ v∈ls,ValOk v) :
  Calls Tryz.prog f.chunk_Encode #[.int .i64 kind,.slice a ls.length c] w (Ret fun v w'=>ChV kind ls w w' v):=by
 apply R.chunk_Encode_calls
 unfold R.chunk_Encode
 refine (chunk_right_ok kind hl hn).mono ?_
 rintro _ w1 ⟨_,rfl,rfl,B1⟩
 refine⟨_,rfl,IFB_not (IFB_of (fun hr=>?_) (fun hr=>.inl ⟨hr,rfl,B1⟩))⟩
 have hg:Good1 kind ls:=⟨hr,hv⟩
 have hlen:=hg.len
 have hk:=hg.kind
 have hnl:=nullsN_le ls
 refine⟨fun s w2=>∃(i:Nat) (ba:Option Addr) (bc:Nat),s=[.slice ba (bitsN (ls.take i)).length bc,.int .i64 (nullsN (ls.take i):Int),.int .i64 (i:Int)]∧i≤ls.length∧NewU w1 w2 (bitsN (ls.take i)) ba bc,fun s _=>match s with
   | [_,_,.int _ i]=>ls.length-i.toNat
   | _=>0,⟨0,none,0,rfl,by omega,NewU.nil w1⟩,?_⟩
 rintro ba _ bc _ _ w2 ⟨i,_,_,hst,hi,h2⟩
 cases hst
 have C2:=below_trans B1 h2.bel
 refine IFB_dec (fun hlt=>⟨⟨by omega,hlt⟩,?_⟩) (fun hge=>?_)
 ·have hil:i<ls.length:=by omega
  obtain⟨p,rfl,c0,c1,c2⟩:=val_at (hl.grown C2) hil
  have hbl:(bitsN (ls.take i)).length≤1024:=by simp [bitsN];omega
  have hnl2:=nullsN_le (ls.take i)
  rw [List.length_take] at hnl2
  have mes:ls.length-((i+1:Nat):Int).toNat<ls.length-((i:Nat):Int).toNat:=by
   simp only [Int.toNat_natCast]
   omega
  refine⟨_,by rw [Int.toNat_natCast];exact c0,_,by rw [Int.toNat_natCast];exact c1,_,by rw [Int.toNat_natCast];exact c2,(SH.start (fun _=>False) w2).lit3 fun b13 w6 hb13 B6 S6=>⟨_,S6.cell 0 rfl rfl,?_⟩⟩
  rw [wrap_succ (by omega),wrap_succ (by omega)]
  refine IFB_eq (fun hz=>?_) (fun hz=>?_)
  ·refine S6.newB fun b15 w7 hb15 B7 S7=>append_u64 ((h2.grown B6).grown B7) (by omega) (x:=1) rfl (S7.get 0 rfl) fun a8 c8 w8 h8=>⟨_,_,_,rfl,⟨i+1,a8,c8,?_,by omega,?_⟩,mes⟩
   ·rw [nullsN_take hil,bitsN_take hil,if_pos hz]
   ·rw [bitsN_take hil,if_pos hz];exact h8
  ·refine S6.newB fun b15 w7 hb15 B7 S7=>append_u64 ((h2.grown B6).grown B7) (by omega) (x:=0) rfl (S7.get 0 rfl) fun a8 c8 w8 h8=>⟨_,_,_,rfl,⟨i+1,a8,c8,?_,by omega,?_⟩,mes⟩
   ·rw [nullsN_take hil,bitsN_take hil,if_neg hz];rfl
   ·rw [bitsN_take hil,if_neg hz];exact h8
 have hie:ls.take i=ls:=List.take_of_length_le (by omega)
 rw [hie] at h2 ⊢
 have hbl:(bitsN ls).length=ls.length:=by simp [bitsN]
 rw [wrap_u8_id (by omega) (by omega)]
 refine (SH.start (fun _=>False) w2).newB fun b21 w11 hb21 B11 S11=>?_
 have C11:=below_trans C2 B11
 have hN11:Rd w11 (some ⟨b21,0,none⟩) ([UInt8.ofNat kind.toNat].map byteV):=by
  have:=Rd.of_block0 (S11.get 0 rfl)
  have e:Value.int .u8 kind=byteV (UInt8.ofNat kind.toNat):=by
   have:=byteV_of (x:=kind.toNat) (by omega)
   rw [← this]
   congr 1
   omega
  simpa [e] using this
 rw [wrap_u64_id (by omega) (by omega)]
 refine (wire_Number_ok (c:=1) [UInt8.ofNat kind.toNat] hN11 ls.length (by omega) (by simp)).mono ?_
 rintro _ w12 ⟨_,rfl,a12,c12,rfl,h12⟩
 have d1:=digitsL_len10 (n:=ls.length) (by omega)
 rw [wrap_u64_id (by omega) (by omega)]
 refine⟨_,_,_,rfl,(wire_Number_ok _ h12.rd (nullsN ls) (by omega) (by simp;omega)).mono ?_⟩
 rintro _ w13 ⟨_,rfl,a13,c13,rfl,h13⟩
 have C12:=below_trans C11 h12.bel
 have h13':=h13.before C12
 have hhead:[UInt8.ofNat kind.toNat]++digitsL ls.length++digitsL (nullsN ls)=headL kind ls:=rfl
 rw [hhead] at h13' ⊢
 have hhl:=headL_len hg
 have hml:=maskL_len hg
 refine⟨_,_,_,rfl,fun s w17=>∃(b:List UInt8) (ab:Option Addr) (cb:Nat),s=[.slice ab b.length cb]∧b=headL kind ls++maskL ls∧NewB w w17 b ab cb,?_,?_⟩
 ·refine⟨fun s w14=>∃ t:Bool,s=[.bool t]∧w14=w13∧(t=true↔0<nullsN ls∧nullsN ls<ls.length),?_,?_⟩
  ·refine IFB_dec (fun h=>⟨_,rfl,rfl,by simp;omega⟩) (fun h=>⟨_,rfl,rfl,by simp;omega⟩)
  rintro _ w14 ⟨t,hst,rfl,ht⟩
  cases hst
  refine IFB_of (fun h=>?_) (fun h=>?_)
  ·have hcond:=ht.1 h
   have hrd:Rd w14 ba ((bitsN ls).map u64V):=((h2.row.rd.grown B11).grown h12.bel).grown h13.bel
   refine (pack_Pack_ok (wd:=1) hrd (by omega) (by omega) (bits_lt ls)).mono ?_
   rintro _ w15 ⟨_,rfl,a15,c15,rfl,h15⟩
   have hpl:(packL (bitsN ls) 1).length≤200:=by
    have:=maskL_len hg
    unfold maskL at this
    rwa [if_pos hcond] at this
   refine⟨_,_,_,_,rfl,append_bytes (h13'.grown h15.bel).row h15.rd (by omega) fun a16 c16 w16 R16 K16 N16=>⟨_,_,_,rfl,_,a16,c16,rfl,?_,h13'.appended h15.bel R16 K16 N16⟩⟩
   unfold maskL
   rw [if_pos hcond]
  ·have hcond:¬ (0<nullsN ls∧nullsN ls<ls.length):=fun hh=>by rw [ht.2 hh] at h;cases h
   refine⟨_,a13,c13,rfl,?_,h13'⟩
   unfold maskL
   rw [if_neg hcond,List.append_nil]
 rintro ab _ cb w17 ⟨b,_,_,hst,hb,h17⟩
 cases hst
 have hbl2:b.length≤221:=by rw [hb,List.length_append];omega
 refine⟨fun s w20=>∃(o b2:List UInt8) (ab:Option Addr) (cb:Nat),s=[.slice ab b2.length cb]∧b2=b++o∧o.length≤2000000∧(nullsN ls<ls.length→OthIs kind ls o)∧(¬ nullsN ls<ls.length→o=[])∧NewB w w20 b2 ab cb,?_,?_⟩
 ·refine IFB_dec (fun h=>?_) (fun h=>⟨[],b,ab,cb,rfl,by simp,by simp,fun hh=>absurd hh (by omega),fun _=>rfl,h17⟩)
  refine (chunk_encoded_ok hg (hl.grown h17.bel)).mono ?_
  rintro _ w18 ⟨_,rfl,o,a18,c18,rfl,hO,h18⟩
  have hol:=hO.len hg
  refine⟨_,_,_,rfl,append_bytes (h17.grown h18.bel).row h18.rd (by omega) fun a19 c19 w19 R19 K19 N19=>⟨_,_,_,rfl,o,_,a19,c19,rfl,rfl,hol,fun _=>hO,fun hh=>absurd (by omega) hh,h17.appended h18.bel R19 K19 N19⟩⟩
 rintro ab2 _ cb2 w20 ⟨o,b2,_,_,hst,hb2,hol,ho1,ho2,h20⟩
 cases hst
 have hb2l:b2.length≤2000221:=by rw [hb2,List.length_append];omega
 refine (SH.start (fun _=>False) w20).newB fun b41 w21 hb41 B21 S21=>?_
 have hS:=wire_Sum_ok (w:=w21) (a:=some ⟨b41,0,none⟩) (c:=1) [(ab2,cb2,b2)] (by
  have:=Rd.of_block0 (S21.get 0 rfl)
  simpa [partV1] using this) (by
  intro p hp
  rw [List.mem_singleton.1 hp]
  exact h20.rd.grown B21) (by simp) (by
  intro p hp
  rw [List.mem_singleton.1 hp]
  simp only
  omega)
 refine hS.mono ?_
 rintro _ w22 ⟨_,rfl,rfl,rfl⟩
 have ef:([(ab2,cb2,b2)]:List PartB).flatMap (·.2.2)=b2:=by simp
 rw [ef]
 refine⟨_,rfl,(SH.start (fun _=>False) w22).newB fun b44 w23 hb44 B23 S23=>?_⟩
 have hR:=sealed_bytes (crc b2) w23 b44 _ (S23.get 0 rfl)
 have h23:=(h20.grown B21).grown B23
 refine append_bytes (m:=sum4 (crc b2)) h23.row hR (by simp [sum4];omega) fun a24 c24 w24 R24 K24 N24=>⟨_,_,_,rfl,.inr ⟨hr,_,a24,c24,⟨o,ho1,ho2,?_⟩,rfl,h20.appended (below_trans B21 B23) R24 K24 N24⟩⟩
 rw [hb2,hb]
end
theorem valok_small{v:Val}(h1 : -10≤v.2.1)(h2:v.2.1≤10):ValOk v:=⟨by omega,by omega⟩
theorem ChV.open{kind:Int}{ls:List Val}{w w':World}{r:Value}(h:ChV kind ls w w' r):∃(bs:List UInt8) (a:Option Addr) (c:Nat) (e:Int),r=.tuple #[.slice a bs.length c,.int .i64 e]∧Rd w' a (bs.map byteV)∧Below w.heap.size w w'∧((rightL kind ls=true∧ChIs kind ls bs∧e=0)∨(rightL kind ls=false∧bs=[]∧e=2)):=by
 rcases h with ⟨h1,rfl,hb⟩ | ⟨h1,b,a,c,h2,rfl,h3⟩
 ·exact⟨[],none,0,2,rfl,Rd.nil _ _,hb,.inr ⟨h1,rfl,rfl⟩⟩
 ·exact⟨b,a,c,0,rfl,h3.rd,h3.bel,.inl ⟨h1,h2,rfl⟩⟩
theorem unzig_zig{n:Int}:unzig (zigN n)=n:=by unfold unzig zigN;split <;> split <;> omega
theorem enters_taker:enters Tryz.prog f.dict_taker_c1=true:=by kernel_rfl
theorem num_some{x:Nat × Nat}:numV (some x)=.tuple #[.int .u64 (x.1:Int),.int .i64 (x.2:Int),.int .i64 0]:=rfl
theorem tabB_take{many:Nat}{ts:List (List UInt8)}{xs:List Nat}{i:Nat}(hi:i<xs.length):(xs.take (i+1)).map (fun p=>ts.getD p [])=(xs.take i).map (fun p=>ts.getD p [])++[ts.getD xs[i] []]:=by
 rw [List.take_succ_eq_append_getElem hi,List.map_append]
 rfl
theorem drop_rd{w:World}{a:Option Addr}{c q:Nat}{l:List UInt8}(hl:Rd w a (l.map byteV))(hc:l.length≤c):Rd w (SLA a q c 1) ((l.drop q).map byteV):=by
 have h:=hl.sla q l.length c 1 hc
 rw [Nat.mul_one,Nat.mul_one,← List.map_drop] at h
 have e:((l.drop q).map byteV).take (l.length-q)=(l.drop q).map byteV:=List.take_of_length_le (by simp)
 rwa [e] at h
section
variable {w:World}{a:Option Addr}{c:Nat}{l:List UInt8}
theorem fromTable_ok(hl:Rd w a (l.map byteV))(hc:l.length≤c)(hs:l.length≤9223372036854775807){n:Nat}(hn:n≤4096) :
  Calls Tryz.prog f.dict_fromTable #[.slice a l.length c,.int .i64 (n:Int)] w (Ret fun v w'=>∃(ms:List (List UInt8)) (a':Option Addr) (c':Nat) (ok:Bool),v=.tuple #[.slice a' ms.length c',.bool ok]∧Rd w' a' (strs ms)∧Below w.heap.size w w' ∧
   ((ok=false∧tableL l n=none)∨(ok=true∧tableL l n=some ms))):=by
 apply R.dict_fromTable_calls
 unfold R.dict_fromTable
 have bad:∀ {w':World},Below w.heap.size w w'→tableL l n=none→∃(ms:List (List UInt8)) (a':Option Addr) (c':Nat) (ok:Bool),(Value.tuple #[.slice none 0 0,.bool false])=.tuple #[.slice a' ms.length c',.bool ok]∧Rd w' a' (strs ms)∧Below w.heap.size w w' ∧
   ((ok=false∧tableL l n=none)∨(ok=true∧tableL l n=some ms)):=fun hb ht=>⟨[],none,0,false,rfl,Rd.nil _ _,hb,.inl ⟨rfl,ht⟩⟩
 refine (wire_TakeNumber_ok hl hc hs 1).mono ?_
 rintro _ w ⟨_,rfl,rfl,rfl⟩
 cases hx:takeN l 1 with
 | none=>exact⟨_,_,_,rfl,IFB_ne (fun _=>bad (.refl _ _) (by simp [tableL,hx])) (fun h=>absurd h (by decide))⟩
 | some x =>
 have hxb:=takeN_bounds (n:=x.1) (k:=x.2) hx
 rw [num_some]
 rw [wrap_u64_id (n:=(n:Int)) (by omega) (by omega)]
 refine⟨_,_,_,rfl,IFB_ne (fun h=>absurd rfl h) (fun _=>IFB_dec (fun h=>bad (.refl _ _) ?_) (fun hmany=>?_))⟩
 ·simp only [tableL,hx,Option.bind_some]
  rw [if_pos (by omega)]
 have hm:¬ n<x.1:=by omega
 refine (dict_taker_ok (x.2:Int)).mono ?_
 rintro _ w2 ⟨_,rfl,b1,b2,rfl,S2⟩
 refine⟨_,_,_,rfl,?_⟩
 rw [enters_taker]
 refine (taker_c1_ok (n:=x.1) S2 hl hc hs (by omega)).mono ?_
 rintro _ w3 ⟨_,rfl,hM,B3⟩
 unfold ManyV at hM
 cases hy:takeMany l x.2 x.1 with
 | none =>
  rw [hy] at hM
  subst hM
  refine⟨_,_,_,_,_,rfl,IFB_true (bad B3 ?_)⟩
  simp only [tableL,hx,hy,Option.bind_some,Option.bind_none]
  rw [if_neg hm]
 | some y =>
 rw [hy] at hM
 obtain⟨ta,tc,rfl,hR3⟩:=hM
 have hylen:=takeMany_len hy
 have hyle:=takeMany_le hy (by omega)
 refine⟨_,_,_,_,_,rfl,IFB_false (IFB_dec (fun h=>bad B3 ?_) (fun hlt=>?_))⟩
 ·simp only [tableL,hx,hy,Option.bind_some]
  rw [if_neg hm,if_pos (by omega)]
 have hj:y.2<l.length:=by omega
 refine (SH.start (fun _=>False) w3).drawB fun w4 B4 _=>?_
 have C4:=below_trans B3 B4
 rw [wrap_i64 (n:=(y.2:Int)+1) (by omega) (by omega),show ((y.2:Int)+1).toNat=y.2+1 by omega]
 refine⟨⟨by omega,by omega,by omega⟩,⟨by omega,by omega⟩,?_⟩
 have hdr:=drop_rd (q:=y.2+1) (hl.grown C4) hc
 obtain⟨p,rfl,hcell⟩:=byte_at (hl.grown C4) hj
 refine⟨_,by rw [Int.toNat_natCast];exact hcell,?_⟩
 have hbt:=(l[y.2]).toNat_lt
 rw [wrap_i64 (n:=(l[y.2].toNat:Int)) (by omega) (by omega),← List.length_drop (i:=y.2+1) (l:=l)]
 refine (pack_Unpack_ok hdr (n:Int) (l[y.2].toNat:Int) (by rw [List.length_drop];omega)).mono ?_
 rintro _ w5 ⟨_,rfl,xs,xa,xc,e,rfl,hRx,B5,hxn,hcase⟩
 have C5:=below_trans C4 B5
 rw [Int.toNat_natCast,Int.toNat_natCast] at hcase
 have hg:l.getD y.2 0=l[y.2]:=getD_get hj
 refine⟨_,_,_,_,rfl,?_⟩
 have hxs4:xs.length≤4096:=by
  rcases hcase with ⟨_,_,rfl,_⟩ | ⟨_,rfl,_⟩
  ·rw [unpackL_len];exact hn
  ·simp
 refine⟨fun s w6=>∃(i:Nat) (oa:Option Addr) (oc:Nat),s=[.slice oa i oc,.int .i64 (i:Int)]∧i≤xs.length∧(∀ p∈xs.take i,p<x.1)∧Row w6 ty.string 1 oa i oc (strs ((xs.take i).map fun p=>y.1.getD p []))∧(∀ k,rowB oa=some k→w5.heap.size≤k)∧Below w5.heap.size w5 w6,fun s _=>match s with
   | [_,.int _ i]=>xs.length-i.toNat
   | _=>0,⟨0,none,0,rfl,by omega,by simp,Row.nil _ _ _,by simp [rowB],.refl _ _⟩,?_⟩
 rintro oa i oc _ w6 ⟨_,_,_,hst,hi,hall,R6,N6,B6⟩
 cases hst
 have C6:=below_trans C5 B6
 refine IFB_dec (fun hlt2=>⟨⟨by omega,hlt2⟩,?_⟩) (fun hge=>?_)
 ·have hix:i<xs.length:=by omega
  obtain⟨p2,rfl,hcx⟩:=num_at (hRx.grown B6) hix
  refine⟨_,by rw [Int.toNat_natCast];exact hcx,IFB_dec (fun hbig=>?_) (fun hsm=>?_)⟩
  ·rcases hcase with ⟨h1,h2,rfl,rfl⟩ | ⟨_,rfl,_⟩
   ·refine bad C6 ?_
    simp only [tableL,hx,hy,Option.bind_some,hg]
    rw [if_neg hm,if_neg (by omega),if_pos ⟨h1,h2⟩]
    unfold tabB
    rw [if_neg (fun h=>by have:=h _ (List.getElem_mem hix);omega)]
   ·simp at hix
  ·have hpx:xs[i]<x.1:=by omega
   have hpy:xs[i]<y.1.length:=by omega
   refine⟨⟨by omega,by omega⟩,?_⟩
   have hsl:xs[i]<(y.1.map sof).length:=by simpa using hpy
   obtain⟨p3,rfl,hct⟩:=str_at (ls:=y.1.map sof) (((hR3.grown B4).grown B5).grown B6) hsl
   refine⟨_,by rw [Int.toNat_natCast];exact hct,(SH.start (fun _=>False) w6).newB fun b7 w7 hb7 B7 S7=>?_⟩
   have hgy:y.1.getD xs[i] []=y.1[xs[i]]:=by simp [hpy]
   have hsrc:Rd w7 (some ⟨b7,0,none⟩) (strs [y.1.getD xs[i] []]):=by
    have:=Rd.of_block0 (S7.get 0 rfl)
    rw [hgy]
    simpa [strs] using this
   have el:i=((xs.take i).map fun p=>y.1.getD p []).length:=by simp;omega
   have R7:=R6.grown B7
   obtain⟨u,hu⟩:∃ u,u=(xs.take i).map fun p=>y.1.getD p []:=⟨_,rfl⟩
   rw [← hu] at R7 el
   have hstep:(xs.take (i+1)).map (fun p=>y.1.getD p [])=u++[y.1.getD xs[i] []]:=by rw [hu];exact tabB_take (many:=0) hix
   have happ:=@append_strs w7 oa oc u [y.1.getD xs[i] []] (by rw [← el];exact R7) (some ⟨b7,0,none⟩) 1 1 rfl hsrc (by rw [← el];simp;omega)
   rw [← el] at happ
   refine happ fun a8 c8 w8 R8 K8 N8=>⟨_,_,_,rfl,?_⟩
   have el8:(u++[y.1.getD xs[i] []]).length=i+1:=by rw [List.length_append,← el];rfl
   rw [el8] at R8 ⊢
   rw [wrap_succ (by omega)]
   have B67:Below w5.heap.size w5 w7:=B6.trans (B7.mono B6.size)
   refine⟨⟨i+1,a8,c8,rfl,by omega,?_,by rw [hstep];exact R8,fun k hk=>?_,B67.trans (K8.below B67.size fun k hk he=>by have:=N6 k he;omega)⟩,?_⟩
   ·intro q hq
    rw [List.take_succ_eq_append_getElem hix] at hq
    rcases List.mem_append.1 hq with h | h
    ·exact hall q h
    ·rw [List.mem_singleton.1 h];exact hpx
   ·rcases N8 k hk with h | h
    ·exact N6 k h
    ·exact Nat.le_trans B67.size h
   ·simp only [Int.toNat_natCast]
    omega
 ·have hie:xs.take i=xs:=List.take_of_length_le (by omega)
  have hil:i=xs.length:=by omega
  rw [hie] at hall R6
  have el:(xs.map fun p=>y.1.getD p []).length=i:=by simp [hil]
  refine⟨xs.map fun p=>y.1.getD p [],oa,oc,e==0,by rw [el],R6.rd,C6,?_⟩
  rcases hcase with ⟨h1,h2,rfl,rfl⟩ | ⟨hno,rfl,he⟩
  ·refine .inr ⟨rfl,?_⟩
   simp only [tableL,hx,hy,Option.bind_some,hg]
   rw [if_neg hm,if_neg (by omega),if_pos ⟨h1,h2⟩]
   unfold tabB
   rw [if_pos hall]
  ·refine .inl ⟨?_,?_⟩
   ·rw [he];split <;> rfl
   ·simp only [tableL,hx,hy,Option.bind_some,hg]
    rw [if_neg hm,if_neg (by omega),if_neg hno]
end
def decArg(n:Int):Prop:=0≤n∧n≤4096
def DecV(l:List UInt8)(n:Int)(w w':World)(v:Value):Prop :=
 ∃(ls:List ByteArray) (a:Option Addr) (c:Nat) (e:Int),v=.tuple #[.slice a ls.length c,.int .i64 e]∧Rd w' a (ls.map Value.string)∧Below w.heap.size w w'∧ls.length≤4096 ∧
  ((¬ decArg n∧ls=[]∧e=2)∨(decArg n∧DecIs l n.toNat ls∧e=0∧0<l.length)∨(decArg n∧(∀ ms,¬ (DecIs l n.toNat ms∧0<l.length))∧ls=[]∧e=70))
theorem DecV.bad{l:List UInt8}{n:Int}{w w':World}(hb:Below w.heap.size w w')(hn:decArg n)(h:∀ ms,¬ (DecIs l n.toNat ms∧0<l.length)):DecV l n w w' (.tuple #[.slice none 0 0,.int .i64 70]) :=
 ⟨[],none,0,70,rfl,Rd.nil _ _,hb,by simp,.inr (.inr ⟨hn,h,rfl,rfl⟩)⟩
theorem DecV.arg{l:List UInt8}{n:Int}{w w':World}(hb:Below w.heap.size w w')(hn:¬ decArg n):DecV l n w w' (.tuple #[.slice none 0 0,.int .i64 2]) :=
 ⟨[],none,0,2,rfl,Rd.nil _ _,hb,by simp,.inl ⟨hn,rfl,rfl⟩⟩
theorem DecIs.head{l:List UInt8}{n:Nat}{ls:List ByteArray}(h:DecIs l n ls):(l.getD 0 0).toNat≤1:=by
 have:=h.ok.2.1
 omega
section
variable {w:World}{a:Option Addr}{c:Nat}{l:List UInt8}
theorem bytes_Equal_ok{a2:Option Addr}{c2:Nat}{m:List UInt8}(hl:Rd w a (l.map byteV))(hm:Rd w a2 (m.map byteV)) :
  Calls Tryz.prog f.bytes_Equal #[.slice a l.length c,.slice a2 m.length c2] w (Ret fun v w'=>w'=w∧v=.bool (decide (l=m))):=by
 apply R.bytes_Equal_calls
 unfold R.bytes_Equal
 refine string_of_bytes tbytes rfl hl ⟨_,rfl,string_of_bytes tbytes rfl hm ⟨_,rfl,rfl,?_⟩⟩
 rw [bytesEq_iff]
 congr 1
 rw [decide_eq_decide]
 exact⟨fun h=>by have:=congrArg bl h;rwa [bl_sof,bl_sof] at this,fun h=>by rw [h]⟩
theorem head_at(hl:Rd w a (l.map byteV))(h0:0<l.length):∃ p,a=some p∧w.cell? p=some (.int .u8 ((l.getD 0 0).toNat:Int)):=by
 obtain⟨p,hp,hc⟩:=byte_at hl h0
 refine⟨p,hp,?_⟩
 rw [Nat.zero_mul,addr_add_zero] at hc
 rw [hc,getD_get h0]
theorem reads_enc{n:Nat}{ms:List (List UInt8)}(h0:0<l.length){bs:List UInt8}{e:Int}
  (hq:(encOk ((l.getD 0 0).toNat:Int) (ms.map sof)∧EncIs (ms.map sof) ((l.getD 0 0).toNat:Int) bs∧e=0)∨(¬ encOk ((l.getD 0 0).toNat:Int) (ms.map sof)∧bs=[]∧e=2)) (hlen:ms.length=n)
  (hms:ms=(readL l n).getD []):(bs=l→DecIs l n (ms.map sof))∧(bs≠l→∀ xs,¬ (DecIs l n xs∧0<l.length)):=by
 constructor
 ·rintro rfl
  rcases hq with ⟨h1,h2,_⟩ | ⟨_,h2,_⟩
  ·exact⟨by simpa using hlen,h1,h2⟩
  ·subst h2
   simp at h0
 ·rintro hne xs ⟨hx,_⟩
  have hr:=hx.reads
  rw [hr] at hms
  simp only [Option.getD_some] at hms
  have he:ms.map sof=xs:=by rw [hms,map_sof_bl]
  rw [he] at hq
  rcases hq with ⟨h1,h2,_⟩ | ⟨h1,_⟩
  ·exact hne (h2.one hx.enc)
  ·exact h1 hx.ok
theorem dict_Decode_ok(hl:Rd w a (l.map byteV))(hc:l.length≤c)(hs:l.length≤9223372036854775807)(n:Int) :
  Calls Tryz.prog f.dict_Decode #[.slice a l.length c,.int .i64 n] w (Ret fun v w'=>DecV l n w w' v):=by
 apply R.dict_Decode_calls
 unfold R.dict_Decode
 refine⟨fun s w1=>∃ b:Bool,s=[.bool b]∧w1=w∧(b=true↔¬ decArg n),?_,?_⟩
 ·refine IFB_dec (fun h=>⟨true,rfl,rfl,?_⟩) (fun h=>⟨_,rfl,rfl,?_⟩)
  ·unfold decArg;simp;omega
  ·unfold decArg;simp;omega
 rintro _ w1 ⟨b,hst,rfl,hb⟩
 cases hst
 refine IFB_of (fun h=>DecV.arg (.refl _ _) (hb.1 h)) (fun h=>?_)
 have harg:decArg n:=by
  rcases Classical.em (decArg n) with h1 | h1
  ·exact h1
  ·rw [hb.2 h1] at h;cases h
 obtain⟨n,rfl⟩:∃ m:Nat,n=(m:Int):=⟨n.toNat,by have:=harg.1;omega⟩
 have hn:n≤4096:=by have:=harg.2;omega
 refine IFB_eq (fun h=>DecV.bad (.refl _ _) harg fun ms hm=>by have:=hm.2;omega) (fun hne=>?_)
 have h0:0<l.length:=by omega
 obtain⟨p,rfl,hcell⟩:=head_at hl h0
 have hb0:=(l.getD 0 0).toNat_lt
 refine⟨⟨by omega,by omega⟩,_,hcell,IFB_dec (fun h=>DecV.bad (.refl _ _) harg fun ms hm=>by have:=hm.1.head;omega) (fun hle=>?_)⟩
 refine⟨fun s w5=>∃(ms:List (List UInt8)) (a':Option Addr) (c':Nat) (ok:Bool),s=[.slice a' ms.length c',.bool ok]∧Rd w5 a' (strs ms)∧Below w1.heap.size w1 w5∧((ok=false∧readL l n=none)∨(ok=true∧readL l n=some ms)),?_,?_⟩
 ·refine⟨⟨by omega,by omega⟩,_,hcell,IFB_eq (fun hz=>?_) (fun hz=>?_)⟩
  ·have hz':l.getD 0 0=0:=UInt8.toNat_inj.1 (by show _=0;omega)
   refine (dict_taker_ok (at_:=1)).mono ?_
   rintro _ w2 ⟨_,rfl,b1,b2,rfl,S2⟩
   refine⟨_,_,_,rfl,?_⟩
   rw [enters_taker,wrap_u64_id (by omega) (by omega)]
   refine (taker_c1_ok (at_:=1) (n:=n) S2 hl hc hs hn).mono ?_
   rintro _ w3 ⟨_,rfl,hM,B3⟩
   unfold ManyV at hM
   have hr:readL l n=(takeMany l 1 n).map (·.1):=by unfold readL;rw [if_pos hz']
   cases hy:takeMany l 1 n with
   | none =>
    rw [hy] at hM hr
    subst hM
    exact⟨_,_,_,_,_,rfl,[],none,0,false,rfl,Rd.nil _ _,B3,.inl ⟨rfl,hr⟩⟩
   | some y =>
    rw [hy] at hM hr
    obtain⟨ta,tc,rfl,hR3⟩:=hM
    exact⟨_,_,_,_,_,rfl,y.1,ta,tc,true,rfl,hR3,B3,.inr ⟨rfl,hr⟩⟩
  ·have hz':¬ l.getD 0 0=0:=fun h=>hz (by rw [h];rfl)
   refine (fromTable_ok hl hc hs hn).mono ?_
   rintro _ w3 ⟨_,rfl,ms,a',c',ok,rfl,hR3,B3,hcase⟩
   have hr:readL l n=tableL l n:=by unfold readL;rw [if_neg hz']
   rw [← hr] at hcase
   exact⟨_,_,_,_,rfl,ms,a',c',ok,rfl,hR3,B3,hcase⟩
 rintro a' _ c' _ w5 ⟨ms,_,_,ok,hst,hR5,B5,hcase⟩
 cases hst
 rcases hcase with ⟨rfl,hr⟩ | ⟨rfl,hr⟩
 ·refine IFB_true (DecV.bad B5 harg ?_)
  rintro xs ⟨hx,_⟩
  rw [Int.toNat_natCast,] at hx
  rw [hx.reads] at hr
  cases hr
 have hmn:=readL_len hr
 refine IFB_false ⟨⟨by omega,by omega⟩,?_⟩
 obtain⟨p',hp',hcell5⟩:=head_at (hl.grown B5) h0
 cases hp'
 refine⟨_,hcell5,?_⟩
 rw [wrap_i64 (by omega) (by omega)]
 have hE:=dict_Encode_ok (c:=c') ((l.getD 0 0).toNat:Int) (ls:=ms.map sof) hR5 (by rw [List.length_map];omega)
 rw [List.length_map] at hE
 refine hE.mono ?_
 rintro _ w6 ⟨_,rfl,h6⟩
 obtain⟨bs,a6,c6,e6,rfl,hR6,B6,q6⟩:=enc_open h6
 have C6:=below_trans B5 B6
 refine⟨_,_,_,_,rfl,(bytes_Equal_ok hR6 (hl.grown C6)).mono ?_⟩
 rintro _ w7 ⟨_,rfl,rfl,rfl⟩
 obtain⟨g1,g2⟩:=reads_enc h0 q6 hmn (by rw [hr];rfl)
 refine⟨_,rfl,IFB_not (IFB_dec (fun he=>?_) (fun he=>DecV.bad C6 harg (by rw [Int.toNat_natCast];exact g2 he)))⟩
 refine⟨ms.map sof,a',c',0,by rw [List.length_map],hR5.grown B6,C6,by rw [List.length_map];omega,.inr (.inl ⟨harg,by rw [Int.toNat_natCast];exact g1 he,rfl,h0⟩)⟩
end
structure NewI(w w':World)(xs:List Int)(a:Option Addr)(c:Nat):Prop where
 row:Row w' ty.int64 1 a xs.length c (xs.map i64V)
 new:∀ k,rowB a=some k→w.heap.size≤k
 bel:Below w.heap.size w w'
theorem NewI.nil(w:World):NewI w w [] none 0:=⟨Row.nil _ _ _,by simp [rowB],.refl _ _⟩
theorem NewI.grown{w w1 w2:World}{xs:List Int}{a:Option Addr}{c:Nat}(h:NewI w w1 xs a c)(hb:Below w1.heap.size w1 w2):NewI w w2 xs a c:=⟨h.row.grown hb,h.new,below_trans h.bel hb⟩
theorem tL64':slT Tryz.prog ty.L_int64=some (ty.int64,1,8,.int .i64 0):=by kernel_rfl
theorem append_i64{w w1:World}{a:Option Addr}{c:Nat}{xs:List Int}(h:NewI w w1 xs a c)(hl:xs.length+1≤1000000){x:Int}{b:Nat}{t:TypeId}(hb:w1.heap[b]?=some (.cells #[.int .i64 x] t (0,0))){f:Value→World→Prop}
  (hf:∀ a' c' w',NewI w w' (xs++[x]) a' c'→f (.slice a' (xs++[x]).length c') w'):OPR Tryz.prog (Builtin.append_ #[ty.L_int64,ty.L_int64] ty.L_int64 #[.slice a xs.length c,.slice (some ⟨b,0,none⟩) 1 1]) f w1:=by
 have hsrc:Rd w1 (some ⟨b,0,none⟩) ([x].map i64V):=by
  have:=Rd.of_block0 hb
  simpa [i64V] using this
 obtain⟨a5,c5,w2,hrun,hrow,hk5,hnw⟩:=append_row (ty:=ty.L_int64) (mc:=1) tL64' rfl (by omega) (by omega) h.row hsrc (m:=1) rfl (by simp [i64V];rfl) (by omega)
 unfold OPR
 rw [hrun]
 have e:xs.length+1=(xs++[x]).length:=by simp
 rw [e] at hrow ⊢
 refine hf a5 c5 w2 ⟨by rw [List.map_append];exact hrow,fun k hk=>?_,h.bel.trans (hk5.below h.bel.size fun k hk he=>by have:=h.new k he;omega)⟩
 rcases hnw k hk with h1 | h1
 ·exact h.new k h1
 ·exact Nat.le_trans h.bel.size h1
def restL(f:Nat)(r:List Int):List UInt8:=if f=0 then r.flatMap sigL else runsL r
structure IntIs(l:List UInt8)(n:Nat)(ls:List Int):Prop where
 len:ls.length=n
 num:∀ x∈ls,I64 x
 form:(l.getD 0 0).toNat≤3
 enc:l=intsL (l.getD 0 0).toNat ls
def LooseV(l:List UInt8)(n:Nat)(w w':World)(v:Value):Prop :=
 ∃(ms:List Int) (a:Option Addr) (c:Nat) (ok:Bool),v=.tuple #[.slice a ms.length c,.bool ok]∧NewI w w' ms a c∧(∀ x∈ms,I64 x)∧ms.length≤4096∧(ok=true→ms.length=n)∧∀ ls,IntIs l n ls→ok=true∧ms=ls
theorem LooseV.bad{l:List UInt8}{n:Nat}{w w':World}(hb:Below w.heap.size w w')(h:∀ ls,¬ IntIs l n ls):LooseV l n w w' (.tuple #[.slice none 0 0,.bool false]) :=
 ⟨[],none,0,false,rfl,⟨Row.nil _ _ _,by simp [rowB],hb⟩,by simp,by simp,(fun h=>by cases h),fun ls hls=>absurd hls (h ls)⟩
theorem takeN_drop{l r:List UInt8}{at_ m:Nat}(hm:m<18446744073709551616)(h:l.drop at_=digitsL m++r):takeN l (at_:Int)=some (m,at_+(digitsL m).length):=by
 unfold takeN
 rw [if_neg (by omega),Int.toNat_natCast,h,readN_digits m 0 0 r (by simpa using hm) (by omega) (by intro;rfl)]
 simp
theorem drop_more{l r d:List UInt8}{at_:Nat}(h:l.drop at_=d++r):l.drop (at_+d.length)=r:=by
 rw [← List.drop_drop,h,List.drop_left]
structure Step(l:List UInt8)(f at_:Nat)(ls:List Int)(k many at1 nx:Nat)(x:Int):Prop where
 num:f=1→takeN l (at_:Int)=some (many,at1)
 one:f=0→many=1∧at1=at_
 sgn:takeN l (at1:Int)=some (zigN x,nx)
 pos:0<many
 le:k+many≤ls.length
 take:ls.take (k+many)=ls.take k++List.replicate many x
 rest:l.drop nx=restL f (ls.drop (k+many))
 i64:I64 x
theorem step_of{l:List UInt8}{f at_:Nat}{ls:List Int}{k:Nat}(hf:f≤1)(hx:∀ x∈ls,I64 x)(hn:ls.length≤4096)(hr:l.drop at_=restL f (ls.drop k))(hk:k<ls.length):∃ many at1 nx x,Step l f at_ ls k many at1 nx x:=by
 have hd:ls.drop k=ls[k] :: ls.drop (k+1):=List.drop_eq_getElem_cons hk
 have hxk:=hx _ (List.getElem_mem hk)
 have hz:=zigN_lt hxk.1 hxk.2
 rcases (by omega:f=0∨f=1) with rfl | rfl
 ·have e:l.drop at_=sigL ls[k]++restL 0 (ls.drop (k+1)):=by rw [hr,hd];unfold restL;rw [if_pos rfl,if_pos rfl,List.flatMap_cons]
  refine⟨1,at_,at_+(sigL ls[k]).length,ls[k],fun h=>(by omega),fun _=>⟨rfl,rfl⟩,takeN_drop hz e,by omega,by omega,?_,drop_more e,hxk⟩
  rw [List.take_succ_eq_append_getElem hk]
  rfl
 ·obtain⟨t,ht⟩:∃ t,t=((ls.drop (k+1)).takeWhile (·==ls[k])).length:=⟨_,rfl⟩
  have htl:t≤(ls.drop (k+1)).length:=by rw [ht];exact (List.takeWhile_sublist _).length_le
  rw [List.length_drop] at htl
  have e0:runsL (ls.drop k)=digitsL (t+1)++(sigL ls[k]++runsL ((ls.drop (k+1)).drop t)):=by
   rw [hd]
   conv=>lhs;unfold runsL
   rw [ht]
  have e:l.drop at_=digitsL (t+1)++(sigL ls[k]++runsL ((ls.drop (k+1)).drop t)):=by
   rw [hr];unfold restL;rw [if_neg (by omega),e0]
  have e1:=drop_more e
  refine⟨t+1,at_+(digitsL (t+1)).length,at_+(digitsL (t+1)).length+(sigL ls[k]).length,ls[k],fun _=>takeN_drop (by omega) e,fun h=>(by omega),takeN_drop hz e1,by omega,by omega,?_,?_,hxk⟩
  ·rw [List.take_add,hd,List.take_succ_cons]
   congr 1
   rw [List.replicate_succ]
   congr 1
   have h1:(ls.drop (k+1)).take t=(ls.drop (k+1)).takeWhile (·==ls[k]):=by
    rw [ht]
    exact (List.prefix_iff_eq_take.1 (List.takeWhile_prefix _)).symm
   rw [h1,List.eq_replicate_iff]
   refine⟨ht.symm,fun y hy=>?_⟩
   have:=List.all_eq_true.1 List.all_takeWhile y hy
   simpa using this
  ·rw [drop_more e1]
   unfold restL
   rw [if_neg (by omega),List.drop_drop]
   congr 2
   omega
theorem restL_nil{f:Nat}{r:List Int}(h:restL f r=[]):r=[]:=by
 cases r with
 | nil=>rfl
 | cons x r =>
  exfalso
  unfold restL at h
  split at h
  ·have:=congrArg List.length h
   have hp:=List.length_pos_iff.2 (digitsL_pos (zigN x))
   simp only [List.flatMap_cons,List.length_append,List.length_nil,sigL] at this
   omega
  ·unfold runsL at h
   have:=congrArg List.length h
   have hp:=List.length_pos_iff.2 (digitsL_pos ((r.takeWhile (·==x)).length+1))
   simp only [List.length_append,List.length_nil] at this
   omega
theorem sgn_some{x:Nat × Nat}:sgnV (some x)=.tuple #[.int .i64 (unzig x.1),.int .i64 (x.2:Int),.int .i64 0]:=rfl
section
variable {w:World}{a:Option Addr}{c:Nat}{l:List UInt8}
def Tr(l:List UInt8)(f n:Nat)(out:List Int)(at_:Nat):Prop:=∀ ls,IntIs l n ls→∃ k,k≤ls.length∧out=ls.take k∧l.drop at_=restL f (ls.drop k)
theorem Tr.step{f n:Nat}{out:List Int}{at_:Nat}(h:Tr l f n out at_)(hf:f≤1)(hn:n≤4096)(hat:at_<l.length){ls:List Int}(hls:IntIs l n ls):∃ k many at1 nx x,out=ls.take k∧k≤ls.length∧Step l f at_ ls k many at1 nx x:=by
 obtain⟨k,hk,ho,hr⟩:=h ls hls
 have hkl:k<ls.length:=by
  rcases Nat.lt_or_ge k ls.length with h | h
  ·exact h
  ·exfalso
   have:ls.drop k=[]:=List.drop_of_length_le h
   rw [this] at hr
   have e:restL f []=[]:=by unfold restL;split <;> simp [runsL_nil]
   rw [e] at hr
   have:=congrArg List.length hr
   rw [List.length_drop,List.length_nil] at this
   omega
 obtain⟨many,at1,nx,x,hs⟩:=step_of hf hls.num (by have:=hls.len;omega) hr hkl
 exact⟨k,many,at1,nx,x,ho,hk,hs⟩
theorem ints_loose_ok(hl:Rd w a (l.map byteV))(hc:l.length≤c)(hs:l.length≤9223372036854775807)(h0:0<l.length){fm:Nat}(hfm:fm=(l.getD 0 0).toNat)(hf:fm≤1){n:Nat}(hn:n≤4096) :
  Calls Tryz.prog f.ints_loose #[.slice a l.length c,.int .i64 (n:Int)] w (Ret fun v w'=>LooseV l n w w' v):=by
 apply R.ints_loose_calls
 unfold R.ints_loose
 have tr0:Tr l fm n [] 1:=by
  intro ls hls
  refine⟨0,by omega,rfl,?_⟩
  have:=hls.enc
  rw [← hfm] at this
  rw [List.drop_zero]
  rcases (by omega:fm=0∨fm=1) with rfl | rfl
  ·rw [this];simp [intsL,restL]
  ·rw [this];simp [intsL,restL]
 refine⟨fun s w1=>∃(at_:Nat) (out:List Int) (oa:Option Addr) (oc:Nat),s=[.slice oa out.length oc,.int .i64 (at_:Int)]∧NewI w w1 out oa oc∧(∀ x∈out,I64 x)∧out.length≤n∧at_≤9223372036854775807∧Tr l fm n out at_,fun s _=>match s with
   | [_,.int _ i]=>l.length-i.toNat
   | _=>0,⟨1,[],none,0,rfl,NewI.nil w,by simp,by simp,by omega,tr0⟩,?_⟩
 rintro oa _ oc _ w1 ⟨at_,out,_,_,hst,h1,hI,hol,hat9,hT⟩
 cases hst
 refine IFB_dec (fun hlt=>?_) (fun hge=>?_)
 case refine_2 =>
  have eqn:((out.length:Int)==(n:Int))=true→out.length=n:=fun h=>by
   have:(out.length:Int)=n:=by simpa using h
   omega
  refine⟨out,oa,oc,_,rfl,h1,hI,by omega,eqn,fun ls hls=>?_⟩
  obtain⟨k,hk,ho,hr⟩:=hT ls hls
  have hd:l.drop at_=[]:=List.drop_of_length_le (by omega)
  rw [hd] at hr
  have hnil:=restL_nil hr.symm
  have hkl:ls.length≤k:=List.drop_eq_nil_iff.1 hnil
  have:ls.take k=ls:=List.take_of_length_le hkl
  rw [this] at ho
  subst ho
  exact⟨by have:=hls.len;simp [this],rfl⟩
 have hat:at_<l.length:=by omega
 obtain⟨p,rfl,hcell⟩:=head_at (hl.grown h1.bel) h0
 have hb0:=(l.getD 0 0).toNat_lt
 refine⟨fun s w3=>w3=w1∧∃(at1 many:Nat) (e:Int),s=[.int .i64 (at1:Int),.int .u64 (many:Int),.int .i64 e]∧at1≤9223372036854775807∧((e≠0∧fm=1∧takeN l (at_:Int)=none)∨(e=0∧at_≤at1∧many<18446744073709551616∧((fm=1∧takeN l (at_:Int)=some (many,at1))∨(fm=0∧many=1∧at1=at_)))),?_,?_⟩
 ·refine⟨⟨by omega,by omega⟩,_,hcell,IFB_eq (fun h1'=>?_) (fun hne=>?_)⟩
  ·refine (wire_TakeNumber_ok (hl.grown h1.bel) hc hs (at_:Int)).mono ?_
   rintro _ w2 ⟨_,rfl,rfl,rfl⟩
   cases hx:takeN l (at_:Int) with
   | none=>exact⟨_,_,_,rfl,rfl,0,0,20,rfl,by omega,.inl ⟨by decide,by omega,rfl⟩⟩
   | some x =>
    have hb:=takeN_bounds (n:=x.1) (k:=x.2) hx
    exact⟨_,_,_,rfl,rfl,x.2,x.1,0,rfl,by omega,.inr ⟨rfl,by omega,by omega,.inl ⟨by omega,rfl⟩⟩⟩
  ·exact⟨rfl,at_,1,0,rfl,by omega,.inr ⟨rfl,by omega,by omega,.inr ⟨by omega,rfl,rfl⟩⟩⟩
 rintro _ _ e w3 ⟨rfl,at1,many,_,hst,hat1,hcase⟩
 cases hst
 refine (wire_TakeSigned_ok (hl.grown h1.bel) hc hs (at1:Int)).mono ?_
 rintro _ w4 ⟨_,rfl,rfl,rfl⟩
 have key:∀ ls,IntIs l n ls→∃ k nx x,out=ls.take k∧e=0∧takeN l (at1:Int)=some (zigN x,nx)∧0<many∧k+many≤ls.length∧k≤ls.length∧ls.take (k+many)=ls.take k++List.replicate many x∧l.drop nx=restL fm (ls.drop (k+many)):=by
  intro ls hls
  obtain⟨k,m,a1,nx,x,ho,hkl,hs⟩:=hT.step hf hn hat hls
  rcases hcase with ⟨_,hf1,hno⟩ | ⟨he,_,_,⟨hf1,hso⟩ | ⟨hf0,hm1,ha1⟩⟩
  ·rw [hs.num hf1] at hno;cases hno
  ·have:=hs.num hf1
   rw [hso] at this
   obtain⟨rfl,rfl⟩:=Prod.mk.injEq .. ▸ Option.some.inj this
   exact⟨k,nx,x,ho,he,hs.sgn,hs.pos,hs.le,hkl,hs.take,hs.rest⟩
  ·obtain⟨q1,q2⟩:=hs.one hf0
   subst q1 q2 hm1 ha1
   exact⟨k,nx,x,ho,he,hs.sgn,hs.pos,hs.le,hkl,hs.take,hs.rest⟩
 cases hy:takeN l (at1:Int) with
 | none =>
  have hno:∀ ls,¬ IntIs l n ls:=fun ls hls=>by
   obtain⟨k,nx,x,_,_,h,_⟩:=key ls hls
   rw [hy] at h;cases h
  refine⟨_,_,_,rfl,IFB_ne (fun _=>LooseV.bad h1.bel hno) (fun _=>IFB_ne (fun _=>LooseV.bad h1.bel hno) (fun h=>absurd h (by decide)))⟩
 | some y =>
 rw [sgn_some]
 have hyb:=takeN_bounds (n:=y.1) (k:=y.2) hy
 have hyI:=unzig_range hyb.1
 have ew:IntKind.u64.wrap (IntKind.i64.wrap ((n:Int)-(out.length:Int)))=((n-out.length:Nat):Int):=by
  rw [wrap_i64 (by omega) (by omega),wrap_u64_id (by omega) (by omega)];omega
 rw [ew]
 refine⟨_,_,_,rfl,IFB_ne (fun hene=>LooseV.bad h1.bel fun ls hls=>?_) (fun he0=>IFB_ne (fun h=>absurd rfl h) (fun _=>IFB_eq (fun hm0=>LooseV.bad h1.bel fun ls hls=>?_) (fun hm0=>IFB_dec (fun hbig=>LooseV.bad h1.bel fun ls hls=>?_) (fun hsm=>?_))))⟩
 ·obtain⟨_,_,_,_,h,_⟩:=key ls hls
  exact hene h
 ·obtain⟨_,_,_,_,_,_,h,_⟩:=key ls hls
  omega
 ·obtain⟨k,_,_,ho,_,_,_,h,_⟩:=key ls hls
  have:=hls.len
  have e2:out.length=k:=by rw [ho,List.length_take];omega
  omega
 have hmany:many≤n-out.length:=by omega
 have hatnx:at_<y.2:=by
  rcases hcase with ⟨h,_⟩ | ⟨_,h,_⟩
  ·exact absurd he0 h
  ·omega
 refine⟨fun s w5=>∃(j:Nat) (o2:List Int) (oa:Option Addr) (oc:Nat),s=[.slice oa o2.length oc,.int .u64 (j:Int)]∧j≤many∧o2=out++List.replicate j (unzig y.1)∧NewI w w5 o2 oa oc,fun s _=>match s with
   | [_,.int _ i]=>many-i.toNat
   | _=>0,⟨0,out,oa,oc,rfl,by omega,by simp,h1⟩,?_⟩
 rintro oa2 _ oc2 _ w5 ⟨j,o2,_,_,hst,hj,ho2,h5⟩
 cases hst
 have ho2l:o2.length=out.length+j:=by rw [ho2];simp
 refine IFB_dec (fun hlt2=>?_) (fun hge2=>?_)
 ·refine (SH.start (fun _=>False) w5).newB fun b6 w6 hb6 B6 S6=>append_i64 (h5.grown B6) (by omega) (S6.get 0 rfl) fun a7 c7 w7 h7=>⟨_,_,_,rfl,?_⟩
  rw [show IntKind.u64.wrap ((j:Int)+1)=((j+1:Nat):Int) by rw [wrap_u64_id (by omega) (by omega)];omega]
  refine⟨⟨j+1,_,a7,c7,rfl,by omega,?_,h7⟩,?_⟩
  ·rw [ho2,List.replicate_succ',List.append_assoc]
  ·simp only [Int.toNat_natCast]
   omega
 ·have hjm:j=many:=by omega
  subst hjm
  refine⟨⟨y.2,o2,oa2,oc2,rfl,h5,?_,by omega,by omega,?_⟩,?_⟩
  ·intro x hx
   rw [ho2] at hx
   rcases List.mem_append.1 hx with h | h
   ·exact hI x h
   ·rw [(List.mem_replicate.1 h).2];exact hyI
  ·intro ls hls
   obtain⟨k,nx,x,g1,_,g3,g4,g5,g6,g7,g8⟩:=key ls hls
   rw [hy] at g3
   have g3':=Option.some.inj g3
   have ex:unzig y.1=x:=by rw [g3'];exact unzig_zig
   have enx:y.2=nx:=by rw [g3']
   refine⟨k+j,g5,?_,by rw [enx];exact g8⟩
   rw [ho2,g7,g1,ex]
  ·simp only [Int.toNat_natCast]
   omega
end
theorem append_i64K{w w1:World}{a:Option Addr}{c:Nat}{xs:List Int}(h:NewI w w1 xs a c)(hl:xs.length+1≤1000000){x:Int}{b:Nat}{t:TypeId}(hb:w1.heap[b]?=some (.cells #[.int .i64 x] t (0,0))){f:Value→World→Prop}
  (hf:∀ a' c' w',NewI w w' (xs++[x]) a' c'→Keeps (fun k=>rowB a=some k) w1 w'→(∀ k,rowB a'=some k→rowB a=some k∨w1.heap.size≤k)→f (.slice a' (xs++[x]).length c') w'):OPR Tryz.prog (Builtin.append_ #[ty.L_int64,ty.L_int64] ty.L_int64 #[.slice a xs.length c,.slice (some ⟨b,0,none⟩) 1 1]) f w1:=by
 have hsrc:Rd w1 (some ⟨b,0,none⟩) ([x].map i64V):=by
  have:=Rd.of_block0 hb
  simpa [i64V] using this
 obtain⟨a5,c5,w2,hrun,hrow,hk5,hnw⟩:=append_row (ty:=ty.L_int64) (mc:=1) tL64' rfl (by omega) (by omega) h.row hsrc (m:=1) rfl (by simp [i64V];rfl) (by omega)
 unfold OPR
 rw [hrun]
 have e:xs.length+1=(xs++[x]).length:=by simp
 rw [e] at hrow ⊢
 refine hf a5 c5 w2 ⟨by rw [List.map_append];exact hrow,fun k hk=>?_,h.bel.trans (hk5.below h.bel.size fun k hk he=>by have:=h.new k he;omega)⟩ hk5 hnw
 rcases hnw k hk with h1 | h1
 ·exact h.new k h1
 ·exact Nat.le_trans h.bel.size h1
theorem packed_reads{c0:UInt8}{first:Int}{s:List Nat}{l:List UInt8}(hl:l=c0 :: packedL first s)(hf:I64 first)(hx:∀ x∈s,x<18446744073709551616) :
  takeN l 1=some (zigN first,1+(sigL first).length)∧1+(sigL first).length<l.length∧(l.getD (1+(sigL first).length) 0).toNat=lenN (orL s)∧l.drop (1+(sigL first).length+1)=packL s (lenN (orL s)):=by
 have h64:=lenN_le64 hx
 have e:l.drop 1=digitsL (zigN first)++(UInt8.ofNat (lenN (orL s)) :: packL s (lenN (orL s))):=by rw [hl];rfl
 have e2:=drop_more e
 have hlen:l.length=1+(sigL first).length+1+(packL s (lenN (orL s))).length:=by rw [hl];simp [packedL];omega
 refine⟨takeN_drop (at_:=1) (zigN_lt hf.1 hf.2) e,by omega,?_,?_⟩
 ·have:(l.drop (1+(sigL first).length))[0]?=some (UInt8.ofNat (lenN (orL s))):=by
   have e3:l.drop (1+(sigL first).length)=UInt8.ofNat (lenN (orL s)) :: packL s (lenN (orL s)):=e2
   rw [e3];rfl
  rw [List.getElem?_drop,Nat.add_zero] at this
  rw [List.getD,this]
  exact ofNat_toNat8 (by omega)
 ·rw [← List.drop_drop]
  have e3:l.drop (1+(sigL first).length)=UInt8.ofNat (lenN (orL s)) :: packL s (lenN (orL s)):=e2
  rw [e3];rfl
theorem unOk_pack{s:List Nat}{m:Nat}(hm:s.length=m)(hn:m≤4096)(hx:∀ x∈s,x<18446744073709551616):unArg (m:Int) (lenN (orL s):Int)∧unOk (packL s (lenN (orL s))) m (lenN (orL s))∧unpackL (packL s (lenN (orL s))) m (lenN (orL s))=s:=by
 have h64:=lenN_le64 hx
 have hlt:=(orL_lt s _).1 (lenN_is (orL s)).1
 have hu:=unpack_pack hlt
 rw [hm] at hu
 exact⟨⟨by omega,by omega,by omega,by omega⟩,⟨by rw [packL_len,hm],by rw [hu]⟩,hu⟩
theorem wrap_back{x y:Int}(hx:I64 x)(hy:I64 y):IntKind.i64.wrap (x+IntKind.i64.wrap (y-x))=y:=by
 unfold I64 at hx hy
 rw [wrap_i64_def,wrap_i64_def]
 split <;> split <;> omega
theorem frame_back{x m:Int}(hx:I64 x)(hm:I64 m)(hle:m≤x):IntKind.i64.wrap (IntKind.u64.wrap (IntKind.u64.wrap m+((x-m).toNat:Int)))=x:=by
 unfold I64 at hx hm
 rw [wrap_i64_def,wrap_u64,wrap_u64]
 split <;> omega
theorem stepsN_get{ls:List Int}{i:Nat}(h:i+1<ls.length):(stepsN ls)[i]?=some (zigN (IntKind.i64.wrap (ls[i+1]-ls[i]))):=by
 have hr:i<ls.length-1:=by omega
 simp only [stepsN,List.getElem?_map,List.getElem?_range hr,Option.map_some]
 rw [getD_int h,getD_int (by omega)]
theorem frameN_get{ls:List Int}{i:Nat}(h:i<ls.length):(frameN ls)[i]?=some ((ls[i]-minL ls).toNat):=by simp [frameN,h]
theorem get_of{α:Type}{xs ys:List α}{i:Nat}{y:α}(h:xs=ys)(hy:ys[i]?=some y)(hi:i<xs.length):xs[i]=y:=by
 subst h
 rw [List.getElem?_eq_getElem hi] at hy
 exact Option.some.inj hy
def firstI(fm:Nat)(ls:List Int):Int:=if fm=2 then ls.headD 0 else minL ls
def packI(fm:Nat)(ls:List Int):List Nat:=if fm=2 then stepsN ls else frameN ls
theorem tight_key{l:List UInt8}{n fm:Nat}{ls:List Int}(h:IntIs l n ls)(hfm:fm=(l.getD 0 0).toNat)(hf:fm=2∨fm=3)(hn:0<n) :
  I64 (firstI fm ls)∧(∀ x∈packI fm ls,x<18446744073709551616)∧l=UInt8.ofNat fm :: packedL (firstI fm ls) (packI fm ls)∧(packI fm ls).length=(if fm=2 then n-1 else n):=by
 have hp:0<ls.length:=by have:=h.len;omega
 have hne:ls≠[]:=List.length_pos_iff.1 hp
 have he:=h.enc
 rw [← hfm] at he
 have hlen:=h.len
 rcases hf with rfl | rfl
 ·refine⟨?_,stepsN_lt,?_,?_⟩
  ·have:=minTo_I64 h.num hp 0
   simpa [minTo,firstI] using this
  ·rw [he];simp only [intsL];rw [if_neg hne];rfl
  ·simp [packI,stepsN,hlen]
 ·refine⟨minTo_I64 h.num hp _,frameN_lt h.num,?_,?_⟩
  ·rw [he];simp only [intsL];rw [if_neg hne];rfl
  ·simp [packI,frameN,hlen]
section
variable {w:World}{a:Option Addr}{c:Nat}{l:List UInt8}
theorem ints_zag_ok{u:Nat}(hu:u<18446744073709551616):Calls Tryz.prog f.ints_zag #[.int .u64 (u:Int)] w (Ret fun v w'=>w'=w∧v=.int .i64 (unzig u)):=by
 apply R.ints_zag_calls
 unfold R.ints_zag
 rw [unzig_prog hu]
 exact⟨rfl,rfl⟩
theorem ints_tight_ok(hl:Rd w a (l.map byteV))(hc:l.length≤c)(hs:l.length≤9223372036854775807)(h0:0<l.length){fm:Nat}(hfm:fm=(l.getD 0 0).toNat)(hf:fm=2∨fm=3){n:Nat}(hn:n≤4096) :
  Calls Tryz.prog f.ints_tight #[.slice a l.length c,.int .i64 (n:Int)] w (Ret fun v w'=>LooseV l n w w' v):=by
 apply R.ints_tight_calls
 unfold R.ints_tight
 refine IFB_eq (fun hz=>?_) (fun hnz=>?_)
 ·have hn0:n=0:=by omega
  subst hn0
  refine⟨[],none,0,_,rfl,NewI.nil w,by simp,by simp,fun _=>rfl,fun ls hls=>?_⟩
  have hls0:ls=[]:=List.eq_nil_of_length_eq_zero hls.len
  subst hls0
  have he:=hls.enc
  rw [← hfm] at he
  have h1:l.length=1:=by
   rw [he]
   rcases hf with rfl | rfl <;> simp [intsL]
  exact⟨by simp [h1],rfl⟩
 have hn0:0<n:=by omega
 refine (wire_TakeSigned_ok hl hc hs 1).mono ?_
 rintro _ w ⟨_,rfl,rfl,rfl⟩
 cases hy:takeN l 1 with
 | none =>
  refine⟨_,_,_,rfl,IFB_ne (fun _=>LooseV.bad (.refl _ _) fun ls hls=>?_) (fun h=>absurd h (by decide))⟩
  obtain⟨k1,k2,k3,_⟩:=tight_key hls hfm hf hn0
  have:=(packed_reads k3 k1 k2).1
  rw [hy] at this;cases this
 | some y =>
 rw [sgn_some]
 have hyb:=takeN_bounds (n:=y.1) (k:=y.2) hy
 have hyI:I64 (unzig y.1):=unzig_range hyb.1
 refine⟨_,_,_,rfl,IFB_ne (fun h=>absurd rfl h) (fun _=>IFB_dec (fun hbig=>LooseV.bad (.refl _ _) fun ls hls=>?_) (fun hlt=>?_))⟩
 ·obtain⟨k1,k2,k3,_⟩:=tight_key hls hfm hf hn0
  obtain⟨q1,q2,_⟩:=packed_reads k3 k1 k2
  rw [hy] at q1
  have:=Option.some.inj q1
  have:y.2=1+(sigL (firstI fm ls)).length:=by rw [this]
  omega
 have hj:y.2<l.length:=by omega
 refine make_row0 tL64' (c:=n) (by omega) (by omega) fun b2 w2 hb2 B2 R2=>⟨_,_,_,rfl,?_⟩
 have h2:NewI w w2 [] (some ⟨b2,0,none⟩) n:=⟨R2,fun k hk=>by cases hk;exact hb2,B2⟩
 obtain⟨p,rfl,hcell⟩:=head_at (hl.grown B2) h0
 have hb0:=(l.getD 0 0).toNat_lt
 obtain⟨m,hm⟩:∃ m,m=(if fm=2 then n-1 else n):=⟨_,rfl⟩
 obtain⟨o0,ho0⟩:∃ o:List Int,o=(if fm=2 then [unzig y.1] else []):=⟨_,rfl⟩
 have ho0l:o0.length+m=n:=by
  rw [ho0,hm]
  rcases hf with rfl | rfl
  ·simp;omega
  ·simp
 have ho0I:∀ x∈o0,I64 x:=by
  rw [ho0]
  split
  ·intro x hx;rw [List.mem_singleton.1 hx];exact hyI
  ·simp
 refine⟨fun s w5=>∃(oa:Option Addr) (oc:Nat),s=[.int .i64 (m:Int),.slice oa o0.length oc]∧NewI w w5 o0 oa oc,?_,?_⟩
 ·refine⟨⟨by omega,by omega⟩,_,hcell,IFB_eq (fun he=>?_) (fun he=>?_)⟩
  ·have h2':fm=2:=by omega
   refine (SH.start (fun _=>False) w2).newB fun b3 w3 hb3 B3 S3=>append_i64 (h2.grown B3) (by simp) (S3.get 0 rfl) fun a4 c4 w4 h4=>⟨_,_,_,rfl,a4,c4,?_,?_⟩
   ·rw [wrap_i64 (by omega) (by omega),hm,ho0,if_pos h2',if_pos h2']
    simp
    omega
   ·rw [ho0,if_pos h2'];exact h4
  ·have h2':¬ fm=2:=by omega
   refine⟨some ⟨b2,0,none⟩,n,?_,?_⟩
   ·rw [hm,ho0,if_neg h2',if_neg h2'];rfl
   ·rw [ho0,if_neg h2'];exact h2
 rintro _ oa _ oc w5 ⟨_,_,hst,h5⟩
 cases hst
 refine (SH.start (fun _=>False) w5).drawB fun w6 B6 _=>?_
 have C6:=below_trans h5.bel B6
 have h6:=h5.grown B6
 rw [wrap_i64 (n:=(y.2:Int)+1) (by omega) (by omega),show ((y.2:Int)+1).toNat=y.2+1 by omega]
 refine⟨⟨by omega,by omega,by omega⟩,⟨by omega,by omega⟩,?_⟩
 have hdr:=drop_rd (q:=y.2+1) (hl.grown C6) hc
 obtain⟨p',hp',hcellj⟩:=byte_at (hl.grown C6) hj
 cases hp'
 refine⟨_,by rw [Int.toNat_natCast];exact hcellj,?_⟩
 have hbt:=(l[y.2]).toNat_lt
 rw [wrap_i64 (n:=(l[y.2].toNat:Int)) (by omega) (by omega),← List.length_drop (i:=y.2+1) (l:=l)]
 have hmle:m≤4096:=by omega
 refine (pack_Unpack_ok hdr (m:Int) (l[y.2].toNat:Int) (by rw [List.length_drop];omega)).mono ?_
 rintro _ w7 ⟨_,rfl,xs,xa,xc,e,rfl,hRx,B7,hxn,hcase⟩
 rw [Int.toNat_natCast,Int.toNat_natCast] at hcase
 have h7:=h6.grown B7
 have hg:l.getD y.2 0=l[y.2]:=getD_get hj
 have hxm:xs.length≤m∧(e=0→xs.length=m)∧∀ x∈xs,x<18446744073709551616:=by
  rcases hcase with ⟨ha,_,rfl,rfl⟩ | ⟨_,rfl,he⟩
  ·refine⟨by rw [unpackL_len];omega,fun _=>unpackL_len _ _ _,fun x hx=>?_⟩
   have:=unpackL_lt _ _ _ x hx
   have h64:l[y.2].toNat≤64:=by have:=ha.2.2.2;omega
   exact Nat.lt_of_lt_of_le this (Nat.pow_le_pow_right (n:=2) (by omega) h64)
  ·refine⟨by simp,fun h=>?_,by simp⟩
   rw [h] at he
   split at he <;> cases he
 obtain⟨hxm1,hxm2,hx64⟩:=hxm
 have key:∀ ls,IntIs l n ls→e=0∧xs=packI fm ls∧unzig y.1=firstI fm ls:=by
  intro ls hls
  obtain⟨k1,k2,k3,k4⟩:=tight_key hls hfm hf hn0
  obtain⟨q1,q2,q3,q4⟩:=packed_reads k3 k1 k2
  rw [hy] at q1
  have hyy:=Option.some.inj q1
  have hy2:y.2=1+(sigL (firstI fm ls)).length:=by rw [hyy]
  have hy1:y.1=zigN (firstI fm ls):=by rw [hyy]
  rw [← hy2,hg] at q3
  rw [← hy2] at q4
  rw [← hm] at k4
  obtain⟨u1,u2,u3⟩:=unOk_pack k4 hmle k2
  rw [q3,q4] at hcase
  rcases hcase with ⟨_,_,hxs,he⟩ | ⟨hno,_⟩
  ·exact⟨he,by rw [hxs,u3],by rw [hy1];exact unzig_zig⟩
  ·exact absurd ⟨u1,u2⟩ hno
 refine⟨_,_,_,_,rfl,?_⟩
 refine⟨fun s w8=>∃(i:Nat) (fi:Int) (out:List Int) (oa:Option Addr) (oc:Nat),s=[.int .i64 fi,.slice oa out.length oc,.int .i64 (i:Int)]∧i≤xs.length∧I64 fi∧out.length=o0.length+i∧(∀ x∈out,I64 x)∧NewI w w8 out oa oc∧Rd w8 xa (xs.map u64V)∧(∀ k p,rowB oa=some k→xa=some p→p.block≠k) ∧
   (∀ ls,IntIs l n ls→out=ls.take (o0.length+i)∧fi=(if fm=2 then ls.getD i 0 else firstI fm ls)),fun s _=>match s with
   | [_,_,.int _ i]=>xs.length-i.toNat
   | _=>0,⟨0,unzig y.1,o0,oa,oc,rfl,by omega,hyI,rfl,ho0I,h7,hRx,fun k p hk hp=>(by have:=h6.row.lt hk;have:=hxn p hp;omega),fun ls hls=>?_⟩,?_⟩
 ·obtain⟨_,_,k3⟩:=key ls hls
  have hp:0<ls.length:=by have:=hls.len;omega
  have hhd:ls.headD 0=ls.getD 0 0:=by cases ls <;> rfl
  refine⟨?_,?_⟩
  ·rw [ho0]
   rcases hf with rfl | rfl
   ·simp only [if_pos,List.length_cons,List.length_nil]
    rw [k3]
    cases ls with
    | nil=>simp at hp
    | cons x r=>rfl
   ·simp
  ·rw [k3]
   rcases hf with rfl | rfl
   ·simp only [firstI,if_pos];exact hhd
   ·rfl
 rintro fi oa3 _ oc3 _ w8 ⟨i,_,out,_,_,hst,hi,hfi,hol,hoI,h8,hRx8,hfar,hT⟩
 cases hst
 refine IFB_dec (fun hlt2=>⟨⟨by omega,hlt2⟩,?_⟩) (fun hge=>?_)
 ·have hix:i<xs.length:=by omega
  have hu:=hx64 _ (List.getElem_mem hix)
  obtain⟨p2,hp2,hcx⟩:=num_at hRx8 hix
  have hp2lt:p2.block<w8.heap.size:=by
   have:=World.block_lt_of_cell? w8 _ hcx
   rwa [addr_add_block] at this
  subst hp2
  obtain⟨p3,hp3,hcell3⟩:=head_at (hl.grown h8.bel) h0
  cases hp3
  refine⟨_,by rw [Int.toNat_natCast];exact hcx,⟨by omega,by omega⟩,_,hcell3,?_⟩
  have mes:xs.length-((i+1:Nat):Int).toNat<xs.length-((i:Nat):Int).toNat:=by
   simp only [Int.toNat_natCast]
   omega
  rw [wrap_succ (by omega)]
  have next:∀ {v fi':Int} {wx:World} {b:Nat} {t:TypeId},Below w8.heap.size w8 wx→wx.heap[b]?=some (.cells #[.int .i64 v] t (0,0))→I64 v→I64 fi' →
    (∀ ls,IntIs l n ls→ls.take (o0.length+(i+1))=ls.take (o0.length+i)++[v]∧fi'=(if fm=2 then ls.getD (i+1) 0 else firstI fm ls)) →
    OPR Tryz.prog (Builtin.append_ #[ty.L_int64,ty.L_int64] ty.L_int64 #[.slice oa3 out.length oc3,.slice (some ⟨b,0,none⟩) 1 1]) (fun r w11=>∃(t77:Option Addr) (t77l t77c:Nat),r=.slice t77 t77l t77c ∧
     (∃(i_1:Nat) (fi:Int) (out:List Int) (oa:Option Addr) (oc:Nat),[Value.int .i64 fi',.slice t77 t77l t77c,.int .i64 ((i+1:Nat):Int)]=[.int .i64 fi,.slice oa out.length oc,.int .i64 (i_1:Int)]∧i_1≤xs.length∧I64 fi∧out.length=o0.length+i_1∧(∀ x∈out,I64 x)∧NewI w w11 out oa oc∧Rd w11 (some p2) (xs.map u64V)∧(∀ k p,rowB oa=some k→some p2=some p→p.block≠k) ∧
      (∀ ls,IntIs l n ls→out=ls.take (o0.length+i_1)∧fi=(if fm=2 then ls.getD i_1 0 else firstI fm ls)))∧xs.length-((i+1:Nat):Int).toNat<xs.length-((i:Nat):Int).toNat) wx:=by
   intro v fi' wx b t Bx hb hv hfi' hP
   refine append_i64K (h8.grown Bx) (by omega) hb fun a11 c11 w11 h11 K11 N11=>⟨_,_,_,rfl,⟨i+1,fi',_,a11,c11,rfl,by omega,hfi',by simp [hol];omega,?_,h11,?_,?_,fun ls hls=>?_⟩,mes⟩
   ·intro x hx
    rcases List.mem_append.1 hx with h | h
    ·exact hoI x h
    ·rw [List.mem_singleton.1 h];exact hv
   ·exact (hRx8.grown Bx).keeps K11 fun q hq hr=>hfar _ q hr hq rfl
   ·intro k q hk hq
    rcases N11 k hk with h | h
    ·exact hfar k q h hq
    ·have:=Bx.size
     cases hq
     omega
   ·obtain⟨t1,_⟩:=hT ls hls
    obtain⟨g1,g2⟩:=hP ls hls
    exact⟨by rw [g1,t1],g2⟩
  refine IFB_eq (fun he=>?_) (fun he=>?_)
  ·have h2':fm=2:=by omega
   have ho1:o0.length=1:=by rw [ho0,if_pos h2'];rfl
   refine (ints_zag_ok hu).mono ?_
   rintro _ w9 ⟨_,rfl,rfl,rfl⟩
   refine⟨_,rfl,(SH.start (fun _=>False) w9).newB fun b10 w10 hb10 B10 S10=>next B10 (S10.get 0 rfl) (wrap_I64 _) (wrap_I64 _) fun ls hls=>?_⟩
   obtain⟨_,k2,_⟩:=key ls hls
   obtain⟨_,t2⟩:=hT ls hls
   rw [if_pos h2'] at t2
   have hsl:(stepsN ls).length=ls.length-1:=by simp [stepsN]
   have hxs:xs=stepsN ls:=by rw [k2];simp [packI,h2']
   have hi1:i+1<ls.length:=by rw [hxs,hsl] at hix;omega
   have hxi:=get_of hxs (stepsN_get hi1) hix
   have hval:IntKind.i64.wrap (fi+unzig xs[i])=ls[i+1]:=by
    rw [hxi,unzig_zig,t2,getD_int (by omega)]
    exact wrap_back (hls.num _ (List.getElem_mem _)) (hls.num _ (List.getElem_mem _))
   rw [hval,ho1,if_pos h2',getD_int hi1,show 1+(i+1)=(i+1)+1 by omega,show 1+i=i+1 by omega]
   exact⟨List.take_succ_eq_append_getElem hi1,rfl⟩
  ·have h2':¬ fm=2:=by omega
   have h3':fm=3:=by omega
   have ho1:o0.length=0:=by rw [ho0,if_neg h2'];rfl
   refine (SH.start (fun _=>False) w8).newB fun b10 w10 hb10 B10 S10=>next B10 (S10.get 0 rfl) (wrap_I64 _) hfi fun ls hls=>?_
   obtain⟨_,k2,_⟩:=key ls hls
   obtain⟨_,t2⟩:=hT ls hls
   rw [if_neg h2'] at t2 ⊢
   have hxs:xs=frameN ls:=by rw [k2];simp [packI,h2']
   have hi1:i<ls.length:=by rw [hxs] at hix;simpa [frameN] using hix
   have hmem:=List.getElem_mem hi1
   have hfm':firstI fm ls=minL ls:=by simp [firstI,h2']
   have hxi:=get_of hxs (frameN_get hi1) hix
   have hval:IntKind.i64.wrap (IntKind.u64.wrap (IntKind.u64.wrap fi+(xs[i]:Int)))=ls[i]:=by
    rw [hxi,t2,hfm']
    exact frame_back (hls.num _ hmem) (minTo_I64 hls.num (by omega) _) (minL_le hmem)
   rw [hval,ho1,Nat.zero_add,Nat.zero_add]
   exact⟨List.take_succ_eq_append_getElem hi1,t2⟩
 ·have hie:i=xs.length:=by omega
  have eqn:(e==0)=true→out.length=n:=fun h=>by
   have he:e=0:=by simpa using h
   have:=hxm2 he
   omega
  refine⟨out,oa3,oc3,_,rfl,h8,hoI,by omega,eqn,fun ls hls=>?_⟩
  obtain⟨k1,_,_⟩:=key ls hls
  obtain⟨t1,_⟩:=hT ls hls
  have hxl:=hxm2 k1
  refine⟨by simp [k1],?_⟩
  rw [t1,List.take_of_length_le (by have:=hls.len;omega)]
end
def IDecV(l:List UInt8)(n:Int)(w w':World)(v:Value):Prop :=
 ∃(ls:List Int) (a:Option Addr) (c:Nat) (e:Int),v=.tuple #[.slice a ls.length c,.int .i64 e]∧Rd w' a (ls.map i64V)∧Below w.heap.size w w'∧ls.length≤4096∧(∀ x∈ls,I64 x) ∧
  ((¬ decArg n∧ls=[]∧e=2)∨(decArg n∧IntIs l n.toNat ls∧0<l.length∧(∀ ms,IntIs l n.toNat ms→ms=ls)∧e=0)∨(decArg n∧(∀ ms,¬ (IntIs l n.toNat ms∧0<l.length))∧ls=[]∧e=60))
theorem IDecV.bad{l:List UInt8}{n:Int}{w w':World}(hb:Below w.heap.size w w')(hn:decArg n)(h:∀ ms,¬ (IntIs l n.toNat ms∧0<l.length)):IDecV l n w w' (.tuple #[.slice none 0 0,.int .i64 60]) :=
 ⟨[],none,0,60,rfl,Rd.nil _ _,hb,by simp,by simp,.inr (.inr ⟨hn,h,rfl,rfl⟩)⟩
theorem IDecV.arg{l:List UInt8}{n:Int}{w w':World}(hb:Below w.heap.size w w')(hn:¬ decArg n):IDecV l n w w' (.tuple #[.slice none 0 0,.int .i64 2]) :=
 ⟨[],none,0,2,rfl,Rd.nil _ _,hb,by simp,by simp,.inl ⟨hn,rfl,rfl⟩⟩
theorem enters_loose:enters Tryz.prog f.ints_loose=true:=by kernel_rfl
theorem enters_tight:enters Tryz.prog f.ints_tight=true:=by kernel_rfl
section
variable {w:World}{a:Option Addr}{c:Nat}{l:List UInt8}
theorem ints_Decode_ok(hl:Rd w a (l.map byteV))(hc:l.length≤c)(hs:l.length≤9223372036854775807)(n:Int) :
  Calls Tryz.prog f.ints_Decode #[.slice a l.length c,.int .i64 n] w (Ret fun v w'=>IDecV l n w w' v):=by
 apply R.ints_Decode_calls
 unfold R.ints_Decode
 refine⟨fun s w1=>∃ b:Bool,s=[.bool b]∧w1=w∧(b=true↔¬ decArg n),?_,?_⟩
 ·refine IFB_dec (fun h=>⟨true,rfl,rfl,?_⟩) (fun h=>⟨_,rfl,rfl,?_⟩)
  ·unfold decArg;simp;omega
  ·unfold decArg;simp;omega
 rintro _ w1 ⟨b,hst,rfl,hb⟩
 cases hst
 refine IFB_of (fun h=>IDecV.arg (.refl _ _) (hb.1 h)) (fun h=>?_)
 have harg:decArg n:=by
  rcases Classical.em (decArg n) with h1 | h1
  ·exact h1
  ·rw [hb.2 h1] at h;cases h
 obtain⟨n,rfl⟩:∃ m:Nat,n=(m:Int):=⟨n.toNat,by have:=harg.1;omega⟩
 have hn:n≤4096:=by have:=harg.2;omega
 refine IFB_eq (fun h=>IDecV.bad (.refl _ _) harg fun ms hm=>by have:=hm.2;omega) (fun hne=>?_)
 have h0:0<l.length:=by omega
 obtain⟨p,rfl,hcell⟩:=head_at hl h0
 have hb0:=(l.getD 0 0).toNat_lt
 refine⟨⟨by omega,by omega⟩,_,hcell,IFB_dec (fun h=>IDecV.bad (.refl _ _) harg fun ms hm=>by have:=hm.1.form;omega) (fun hle=>?_)⟩
 obtain⟨fm,hfm⟩:∃ fm,fm=(l.getD 0 0).toNat:=⟨_,rfl⟩
 rw [← hfm] at hcell hle
 have hread:∀ fn,(fn=f.ints_loose∧fm≤1)∨(fn=f.ints_tight∧(fm=2∨fm=3))→enters Tryz.prog fn=true∧Calls Tryz.prog fn #[.slice (some p) l.length c,.int .i64 (n:Int)] w1 (Ret fun v w'=>LooseV l n w1 w' v):=by
  rintro fn (⟨rfl,h⟩ | ⟨rfl,h⟩)
  ·exact⟨enters_loose,ints_loose_ok hl hc hs h0 hfm h hn⟩
  ·exact⟨enters_tight,ints_tight_ok hl hc hs h0 hfm h hn⟩
 refine⟨fun s w2=>w2=w1∧∃ fn,s=[.func (.func fn) #[] #[]]∧((fn=f.ints_loose∧fm≤1)∨(fn=f.ints_tight∧(fm=2∨fm=3))),?_,?_⟩
 ·refine⟨⟨by omega,by omega⟩,_,hcell,IFB_dec (fun h=>⟨rfl,_,rfl,.inr ⟨rfl,by omega⟩⟩) (fun h=>⟨rfl,_,rfl,.inl ⟨rfl,by omega⟩⟩)⟩
 rintro _ _ _ w2 ⟨rfl,fn,hst,hfn⟩
 cases hst
 obtain⟨hent,hcall⟩:=hread _ hfn
 rw [hent]
 refine hcall.mono ?_
 rintro _ w3 ⟨_,rfl,ms,a3,c3,ok,rfl,h3,hI3,hl3,hok3,hall⟩
 refine⟨_,_,_,_,rfl,IFB_not (IFB_of (fun hk=>?_) (fun hk=>IDecV.bad h3.bel harg fun ls hls=>?_))⟩
 case refine_2 =>
  rw [Int.toNat_natCast] at hls
  have:=(hall ls hls.1).1
  rw [this] at hk;cases hk
 have hlen:=hok3 hk
 obtain⟨p',hp',hcell3⟩:=head_at (hl.grown h3.bel) h0
 cases hp'
 rw [← hfm] at hcell3
 refine⟨⟨by omega,by omega⟩,_,hcell3,?_⟩
 rw [wrap_i64 (by omega) (by omega)]
 refine (ints_Encode_ok (fm:Int) h3.row.rd h3.row.le hI3).mono ?_
 rintro _ w4 ⟨_,rfl,hE⟩
 obtain⟨a4,c4,rfl,h4⟩:=IntsV.good (by omega) hl3 hE
 have C4:=below_trans h3.bel h4.bel
 refine⟨_,_,_,_,rfl,(bytes_Equal_ok (l:=intsL fm ms) (c:=c4) h4.rd (hl.grown C4)).mono ?_⟩
 rintro _ w5 ⟨_,rfl,rfl,rfl⟩
 refine⟨_,rfl,IFB_not (IFB_dec (fun he=>?_) (fun he=>IDecV.bad C4 harg fun ls hls=>he ?_))⟩
 ·refine⟨ms,a3,c3,0,rfl,h3.row.rd.grown h4.bel,C4,hl3,hI3,.inr (.inl ⟨harg,?_,h0,?_,rfl⟩)⟩
  ·rw [Int.toNat_natCast]
   exact⟨hlen,hI3,by omega,by rw [← hfm];exact he.symm⟩
  ·intro ls hls
   rw [Int.toNat_natCast] at hls
   exact ((hall ls hls).2).symm
 ·rw [Int.toNat_natCast] at hls
  have h1:=(hall ls hls.1).2
  have h2:=hls.1.enc
  rw [← hfm] at h2
  rw [h1,← h2]
end
theorem tVals:slT Tryz.prog ty.L_api_Value=some (ty.api_Value,3,32,.agg #[.int .i64 0,.int .i64 0,.string ⟨#[]⟩]):=by kernel_rfl
structure NewV(w w':World)(vs:List Val)(a:Option Addr)(c:Nat):Prop where
 row:Row w' ty.api_Value 3 a vs.length c (valsL vs)
 new:∀ k,rowB a=some k→w.heap.size≤k
 bel:Below w.heap.size w w'
theorem NewV.nil(w:World):NewV w w [] none 0:=⟨Row.nil _ _ _,by simp [rowB],.refl _ _⟩
theorem NewV.grown{w w1 w2:World}{xs:List Val}{a:Option Addr}{c:Nat}(h:NewV w w1 xs a c)(hb:Below w1.heap.size w1 w2):NewV w w2 xs a c:=⟨h.row.grown hb,h.new,below_trans h.bel hb⟩
theorem vals_append(xs ys:List Val):valsL (xs++ys)=valsL xs++valsL ys:=by simp [valsL]
theorem append_val{w w1:World}{a:Option Addr}{c:Nat}{xs:List Val}(h:NewV w w1 xs a c)(hl:xs.length+1≤1000000){x:Val}{b:Nat}{t:TypeId}(hb:w1.heap[b]?=some (.cells #[.int .i64 x.1,.int .i64 x.2.1,.string x.2.2] t (0,0))){f:Value→World→Prop}
  (hf:∀ a' c' w',NewV w w' (xs++[x]) a' c'→f (.slice a' (xs++[x]).length c') w'):OPR Tryz.prog (Builtin.append_ #[ty.L_api_Value,ty.L_api_Value] ty.L_api_Value #[.slice a xs.length c,.slice (some ⟨b,0,none⟩) 1 1]) f w1:=by
 have hsrc:Rd w1 (some ⟨b,0,none⟩) (valsL [x]):=by
  have:=Rd.of_block0 hb
  simpa [valC] using this
 obtain⟨a5,c5,w2,hrun,hrow,hk5,hnw⟩:=append_row (ty:=ty.L_api_Value) (mc:=1) tVals rfl (by omega) (by omega) h.row hsrc (m:=1) rfl (by simp [valC];exact⟨rfl,rfl,rfl⟩) (by omega)
 unfold OPR
 rw [hrun]
 have e:xs.length+1=(xs++[x]).length:=by simp
 rw [e] at hrow ⊢
 refine hf a5 c5 w2 ⟨by rw [vals_append];exact hrow,fun k hk=>?_,h.bel.trans (hk5.below h.bel.size fun k hk he=>by have:=h.new k he;omega)⟩
 rcases hnw k hk with h1 | h1
 ·exact h.new k h1
 ·exact Nat.le_trans h.bel.size h1
/-! ### the values that are not null -/
theorem full_nums{kind:Int}{ls:List Val}(hg:Good1 kind ls)(h3:kind≠3):fullL ls=(numsL ls).map fun x=>(kind,x,E0):=by
 unfold numsL
 rw [List.map_map]
 conv=>lhs;rw [← List.map_id (fullL ls)]
 apply List.map_congr_left
 intro v hv
 obtain⟨hm,hne⟩:=List.mem_filter.1 hv
 have hok:=hg.all v hm
 simp only [okV,Bool.and_eq_true,Bool.or_eq_true,decide_eq_true_eq] at hok
 have hk1:v.1=kind:=hok.2.resolve_right (by simpa using hne)
 have hr:=hok.1
 have h33:¬ v.1=3:=by rw [hk1];exact h3
 have he:v.2.2=E0:=by
  unfold rightB at hr
  split at hr
  ·simp at hr;exact hr.2
  ·split at hr
   ·simpa using hr
   ·split at hr
    ·simp at hr;exact hr.2
    ·simp at hr
 show v=(kind,v.2.1,E0)
 rw [← hk1,← he]
theorem full_texts{kind:Int}{ls:List Val}(hg:Good1 kind ls)(h3:kind=3):fullL ls=(textsL ls).map fun s=>(kind,0,s):=by
 unfold textsL
 rw [List.map_map]
 conv=>lhs;rw [← List.map_id (fullL ls)]
 apply List.map_congr_left
 intro v hv
 obtain⟨hm,hne⟩:=List.mem_filter.1 hv
 have hok:=hg.all v hm
 simp only [okV,Bool.and_eq_true,Bool.or_eq_true,decide_eq_true_eq] at hok
 have hk1:v.1=kind:=hok.2.resolve_right (by simpa using hne)
 have hr:=hok.1
 have h33:v.1=3:=by rw [hk1];exact h3
 have he:v.2.1=0:=by
  unfold rightB at hr
  rw [if_neg (by omega),if_neg (by omega),if_neg (by omega),if_pos h33] at hr
  simp at hr
  exact hr.1
 show v=(kind,0,v.2.2)
 rw [← hk1,← he]
theorem oth_texts{ls:List Val}{o:List UInt8}(hg:Good1 3 ls)(h:OthIs 3 ls o):DecIs o (textsL ls).length (textsL ls)∧0<o.length:=by
 have key:∀(f:Int) (b:List UInt8),(0≤f∧f≤1)→EncIs (textsL ls) f b→DecIs b (textsL ls).length (textsL ls)∧0<b.length:=by
  intro f b hf hE
  have hh:((b.getD 0 0).toNat:Int)=f:=by
   cases hE with
   | plain=>rfl
   | table t wd ht hw=>rfl
  refine⟨⟨rfl,by rw [hh];exact hg.enc f hf,by rw [hh];exact hE⟩,?_⟩
  cases hE with
  | plain=>simp
  | table t wd ht hw=>simp
 cases h with
 | text h b0 b1 h0 h1 =>
  split
  ·exact key 1 b1 (by omega) h1
  ·exact key 0 b0 (by omega) h0
 | num h=>exact absurd rfl h
theorem intsL_head{f:Nat}(hf:f≤3)(l:List Int):((intsL f l).getD 0 0).toNat=f∧0<(intsL f l).length:=by
 rcases (by omega:f=0∨f=1∨f=2∨f=3) with rfl | rfl | rfl | rfl <;> exact⟨rfl,by simp [intsL]⟩
theorem oth_nums{kind:Int}{ls:List Val}{o:List UInt8}(hg:Good1 kind ls)(h3:kind≠3)(h:OthIs kind ls o):IntIs o (numsL ls).length (numsL ls)∧0<o.length:=by
 cases h with
 | text h b0 b1 h0 h1=>exact absurd h h3
 | num h =>
  obtain⟨e1,e2⟩:=intsL_head (bestN_le (numsL ls)) (numsL ls)
  exact⟨⟨rfl,hg.nums,by rw [e1];exact bestN_le _,by rw [e1]⟩,e2⟩
def DecdV(kind:Int)(l:List UInt8)(n:Nat)(w w':World)(v:Value):Prop :=
 ∃(vs:List Val) (a:Option Addr) (c:Nat) (ok:Bool),v=.tuple #[.slice a vs.length c,.bool ok]∧Rd w' a (valsL vs)∧Below w.heap.size w w'∧vs.length≤4096∧(∀ v∈vs,ValOk v) ∧
  ∀ ls,Good1 kind ls→(fullL ls).length=n→(0<n→OthIs kind ls l)→(n=0→l=[])→ok=true∧vs=fullL ls
section
variable {w:World}{a:Option Addr}{c:Nat}{l:List UInt8}
theorem chunk_decoded_ok(kind:Int)(hl:Rd w a (l.map byteV))(hc:l.length≤c)(hs:l.length≤9223372036854775807){n:Nat}(hn:n≤1024) :
  Calls Tryz.prog f.chunk_decoded #[.int .i64 kind,.slice a l.length c,.int .i64 (n:Int)] w (Ret fun v w'=>DecdV kind l n w w' v):=by
 apply R.chunk_decoded_calls
 unfold R.chunk_decoded
 refine IFB_eq (fun hz=>?_) (fun hnz=>IFB_eq (fun h3=>?_) (fun h3=>?_))
 ·have hn0:n=0:=by omega
  subst hn0
  refine⟨[],none,0,_,rfl,Rd.nil _ _,.refl _ _,by simp,by simp,fun ls hg hf _ h0=>?_⟩
  rw [h0 rfl]
  exact⟨rfl,(List.eq_nil_of_length_eq_zero hf).symm⟩
 ·subst h3
  have hn0:0<n:=by omega
  refine (dict_Decode_ok hl hc hs (n:Int)).mono ?_
  rintro _ w1 ⟨_,rfl,ss,a1,c1,e1,rfl,R1,B1,l1,q1⟩
  have harg:decArg (n:Int):=⟨by omega,by omega⟩
  rw [Int.toNat_natCast] at q1
  refine⟨_,_,_,_,rfl,?_⟩
  refine⟨fun s w2=>∃(i:Nat) (oa:Option Addr) (oc:Nat),s=[.slice oa ((ss.take i).map fun s=>((3:Int),(0:Int),s)).length oc,.int .i64 (i:Int)]∧i≤ss.length∧NewV w1 w2 ((ss.take i).map fun s=>((3:Int),(0:Int),s)) oa oc,fun s _=>match s with
    | [_,.int _ i]=>ss.length-i.toNat
    | _=>0,⟨0,none,0,rfl,by omega,NewV.nil w1⟩,?_⟩
  rintro oa _ oc _ w2 ⟨i,_,_,hst,hi,h2⟩
  cases hst
  refine IFB_dec (fun hlt=>⟨⟨by omega,hlt⟩,?_⟩) (fun hge=>?_)
  ·have hil:i<ss.length:=by omega
   obtain⟨p,rfl,hcell⟩:=str_at (R1.grown h2.bel) hil
   refine⟨_,by rw [Int.toNat_natCast];exact hcell,(SH.start (fun _=>False) w2).newB fun b3 w3 hb3 B3 S3=>append_val (x:=(3,0,ss[i])) (h2.grown B3) (by simp;omega) (S3.get 0 rfl) fun a4 c4 w4 h4=>⟨_,_,_,rfl,?_⟩⟩
   have e:(ss.take (i+1)).map (fun s=>((3:Int),(0:Int),s))=(ss.take i).map (fun s=>((3:Int),(0:Int),s))++[((3:Int),(0:Int),ss[i])]:=by
    rw [List.take_succ_eq_append_getElem hil,List.map_append];rfl
   rw [wrap_succ (by omega)]
   refine⟨⟨i+1,a4,c4,by rw [e],by omega,by rw [e];exact h4⟩,?_⟩
   simp only [Int.toNat_natCast]
   omega
  ·have hie:ss.take i=ss:=List.take_of_length_le (by omega)
   rw [hie] at h2 ⊢
   refine⟨_,oa,oc,_,rfl,h2.row.rd,below_trans B1 h2.bel,by simp;omega,?_,fun ls hg hf ho _=>?_⟩
   ·intro v hv
    obtain⟨s,_,rfl⟩:=List.mem_map.1 hv
    exact⟨by simp,by simp⟩
   ·obtain⟨d1,d2⟩:=oth_texts hg (ho hn0)
    have hft:=full_texts hg rfl
    have htl:(textsL ls).length=n:=by rw [← hf,hft,List.length_map]
    rw [htl] at d1
    rcases q1 with ⟨k1,_⟩ | ⟨_,k2,rfl,_⟩ | ⟨_,k2,_⟩
    ·exact absurd harg k1
    ·rw [hft,k2.one d1];exact⟨rfl,rfl⟩
    ·exact absurd ⟨d1,d2⟩ (k2 _)
 ·have hn0:0<n:=by omega
  refine (ints_Decode_ok hl hc hs (n:Int)).mono ?_
  rintro _ w1 ⟨_,rfl,ns,a1,c1,e1,rfl,R1,B1,l1,hI,q1⟩
  have harg:decArg (n:Int):=⟨by omega,by omega⟩
  rw [Int.toNat_natCast] at q1
  refine⟨_,_,_,_,rfl,?_⟩
  refine⟨fun s w2=>∃(i:Nat) (oa:Option Addr) (oc:Nat),s=[.slice oa ((ns.take i).map fun x=>((kind:Int),(x:Int),E0)).length oc,.int .i64 (i:Int)]∧i≤ns.length∧NewV w1 w2 ((ns.take i).map fun x=>((kind:Int),(x:Int),E0)) oa oc,fun s _=>match s with
    | [_,.int _ i]=>ns.length-i.toNat
    | _=>0,⟨0,none,0,rfl,by omega,NewV.nil w1⟩,?_⟩
  rintro oa _ oc _ w2 ⟨i,_,_,hst,hi,h2⟩
  cases hst
  refine IFB_dec (fun hlt=>⟨⟨by omega,hlt⟩,?_⟩) (fun hge=>?_)
  ·have hil:i<ns.length:=by omega
   obtain⟨p,rfl,hcell⟩:=int_at (R1.grown h2.bel) hil
   refine⟨_,by rw [Int.toNat_natCast];exact hcell,(SH.start (fun _=>False) w2).newB fun b3 w3 hb3 B3 S3=>append_val (x:=(kind,ns[i],E0)) (h2.grown B3) (by simp;omega) (S3.get 0 rfl) fun a4 c4 w4 h4=>⟨_,_,_,rfl,?_⟩⟩
   have e:(ns.take (i+1)).map (fun x=>((kind:Int),(x:Int),E0))=(ns.take i).map (fun x=>((kind:Int),(x:Int),E0))++[((kind:Int),(ns[i]:Int),E0)]:=by
    rw [List.take_succ_eq_append_getElem hil,List.map_append];rfl
   rw [wrap_succ (by omega)]
   refine⟨⟨i+1,a4,c4,by rw [e],by omega,by rw [e];exact h4⟩,?_⟩
   simp only [Int.toNat_natCast]
   omega
  ·have hie:ns.take i=ns:=List.take_of_length_le (by omega)
   rw [hie] at h2 ⊢
   refine⟨_,oa,oc,_,rfl,h2.row.rd,below_trans B1 h2.bel,by simp;omega,?_,fun ls hg hf ho _=>?_⟩
   ·intro v hv
    obtain⟨x,hx,rfl⟩:=List.mem_map.1 hv
    exact⟨(hI x hx).1,(hI x hx).2⟩
   ·obtain⟨d1,d2⟩:=oth_nums hg h3 (ho hn0)
    have hft:=full_nums hg h3
    have htl:(numsL ls).length=n:=by rw [← hf,hft,List.length_map]
    rw [htl] at d1
    rcases q1 with ⟨k1,_⟩ | ⟨_,_,_,k2,rfl⟩ | ⟨_,k2,_⟩
    ·exact absurd harg k1
    ·rw [hft,k2 _ d1];exact⟨rfl,rfl⟩
    ·exact absurd ⟨d1,d2⟩ (k2 _)
end
/-! ### spread -/
theorem vals_set(cur:List Val){i:Nat}(hi:i<cur.length)(v:Val) :
  (((⟨valsL cur⟩:Array Value).setIfInBounds (i*3) (.int .i64 v.1)).setIfInBounds (i*3+1) (.int .i64 v.2.1)).setIfInBounds (i*3+2) (.string v.2.2)=⟨valsL (cur.set i v)⟩:=by
 apply Array.ext'
 simp only [Array.toList_setIfInBounds]
 apply List.ext_getElem?
 intro j
 have hl:=vals_len cur
 have hl2:=vals_len (cur.set i v)
 rw [List.length_set] at hl2
 by_cases hj:j<cur.length*3
 ·have hq:j / 3<cur.length:=by omega
  have e:j=j / 3*3+j % 3:=by omega
  have g1:=vals_get cur (j / 3) (j % 3) hq (by omega)
  have g2:=vals_get (cur.set i v) (j / 3) (j % 3) (by rw [List.length_set];exact hq) (by omega)
  rw [← e] at g1 g2
  rw [g2]
  simp only [List.getElem?_set,List.length_set,hl]
  by_cases hji:j / 3=i
  ·subst hji
   simp only [List.getElem_set_self]
   rcases (by omega:j % 3=0∨j % 3=1∨j % 3=2) with h | h | h
   ·rw [h] at e ⊢
    rw [if_neg (by omega),if_neg (by omega),if_pos (by omega),if_pos (by omega)];rfl
   ·rw [h] at e ⊢
    rw [if_neg (by omega),if_pos (by omega),if_pos (by omega)];rfl
   ·rw [h] at e ⊢
    rw [if_pos (by omega),if_pos (by omega)];rfl
  ·rw [if_neg (by omega),if_neg (by omega),if_neg (by omega),g1]
   rw [List.getElem_set_ne (fun h=>hji h.symm)]
 ·rw [List.getElem?_eq_none (by simp only [List.length_set,hl];omega),List.getElem?_eq_none (by rw [hl2];omega)]
theorem vals_zero(n:Nat):madeCells (Value.agg #[.int .i64 0,.int .i64 0,.string ⟨#[]⟩]).cells (n*3)=⟨valsL (List.replicate n (0,0,E0))⟩:=by
 apply Array.ext'
 apply List.ext_getElem?
 intro j
 by_cases hj:j<n*3
 ·have g2:=vals_get (List.replicate n (0,0,E0)) (j / 3) (j % 3) (by rw [List.length_replicate];omega) (by omega)
  have e:j / 3*3+j % 3=j:=by omega
  rw [e] at g2
  rw [g2,List.getElem_replicate]
  have hc:(Value.agg #[.int .i64 0,.int .i64 0,.string ⟨#[]⟩]).cells=#[.int .i64 0,.int .i64 0,.string ⟨#[]⟩]:=rfl
  rw [hc]
  have hsz:(#[Value.int .i64 0,.int .i64 0,.string ⟨#[]⟩]:Array Value).size=3:=rfl
  rcases (by omega:j % 3=0∨j % 3=1∨j % 3=2) with h | h | h <;> simp [madeCells,hj,h,valC]
 ·rw [List.getElem?_eq_none (by rw [Array.length_toList,madeCells_size];omega),List.getElem?_eq_none (by rw [vals_len,List.length_replicate];omega)]
structure RdN(w w':World)(a:Option Addr)(xs:List Value):Prop where
 rd:Rd w' a xs
 new:∀ k,rowB a=some k→w.heap.size≤k
theorem RdN.nil(w w':World):RdN w w' none []:=⟨Rd.nil _ _,fun k hk=>by cases hk⟩
theorem RdN.grown{w w' w2:World}{a:Option Addr}{xs:List Value}(h:RdN w w' a xs)(B:Below w'.heap.size w' w2):RdN w w2 a xs:=⟨h.rd.grown B,h.new⟩
theorem RdN.before{w0 w w':World}{a:Option Addr}{xs:List Value}(h:RdN w w' a xs)(B:Below w0.heap.size w0 w):RdN w0 w' a xs:=⟨h.rd,fun k hk=>Nat.le_trans B.size (h.new k hk)⟩
def SprV(bits:List Nat)(vs:List Val)(w w':World)(v:Value):Prop :=
 ∃(os:List Val) (a:Option Addr) (c:Nat) (ok:Bool),v=.tuple #[.slice a os.length c,.bool ok]∧RdN w w' a (valsL os)∧Below w.heap.size w w'∧os.length≤4096∧(∀ v∈os,ValOk v) ∧
  ∀ ls,bits=bitsN ls→vs=fullL ls→(∀ v∈ls,v.1=0→v=(0,0,E0))→ok=true∧os=ls
theorem sto_at{w:World}{b:Nat}{cs:Array Value}{t:TypeId}(hb:w.heap[b]?=some (.cells cs t (0,0))){p:Addr}{i:Nat}(hp:p=⟨b,i,none⟩){v:Value}{k:World→Prop}(hi:i<cs.size)
  (hk:∀ w',Keeps (·=b) w w'→w'.heap[b]?=some (.cells (cs.setIfInBounds i v) t (0,0))→k w'):STO p v k w:=by
 subst hp
 exact sto_blk hb hi hk
section
variable {w:World}{a a2:Option Addr}{c c2:Nat}{bits:List Nat}{vs:List Val}
theorem chunk_spread_ok(hb:Rd w a (bits.map u64V))(hv:Rd w a2 (valsL vs))(hn:bits.length≤4096)(hvn:vs.length≤4096)(hok:∀ v∈vs,ValOk v) :
  Calls Tryz.prog f.chunk_spread #[.slice a bits.length c,.slice a2 vs.length c2] w (Ret fun v w'=>SprV bits vs w w' v):=by
 apply R.chunk_spread_calls
 unfold R.chunk_spread
 refine make_new tVals (l:=(bits.length:Int)) (c:=(bits.length:Int)) (by omega) (by omega) (by omega) (by omega) fun bo w1 hbo B1 hO1=>?_
 rw [Int.toNat_natCast,vals_zero] at hO1
 rw [Int.toNat_natCast]
 have low:∀ {w':World},Keeps (fun k=>k=bo) w1 w'→Below w.heap.size w w':=fun K=>B1.trans (K.below B1.size fun k hk h=>by omega)
 refine⟨_,_,_,rfl,fun s w2=>∃(at_ i:Nat) (cur:List Val),s=[.int .i64 (at_:Int),.int .i64 (i:Int)]∧i≤bits.length∧at_≤vs.length∧cur.length=bits.length∧(∀ v∈cur,ValOk v)∧Keeps (fun k=>k=bo) w1 w2∧w2.heap[bo]?=some (.cells ⟨valsL cur⟩ ty.api_Value (0,0)) ∧
   (∀ ls,bits=bitsN ls→vs=fullL ls→(∀ v∈ls,v.1=0→v=(0,0,E0))→at_=(fullL (ls.take i)).length∧cur=ls.take i++List.replicate (bits.length-i) (0,0,E0)),fun s _=>match s with
   | [_,.int _ i]=>bits.length-i.toNat
   | _=>0,⟨0,0,_,rfl,by omega,by omega,by simp,?_,.refl _ _,hO1,fun ls _ _ _=>⟨rfl,by simp⟩⟩,?_⟩
 ·intro v hv
  rw [(List.mem_replicate.1 hv).2]
  exact⟨by simp,by simp⟩
 rintro _ _ w2 ⟨at_,i,cur,hst,hi,hat,hcl,hcok,K2,hO2,hT⟩
 cases hst
 have B2:=low K2
 have blen:∀ {ls:List Val},bits=bitsN ls→ls.length=bits.length:=fun h=>by rw [h];simp [bitsN]
 refine IFB_dec (fun hlt=>⟨⟨by omega,hlt⟩,?_⟩) (fun hge=>?_)
 ·have hil:i<bits.length:=by omega
  have hic:i<cur.length:=by omega
  obtain⟨p,rfl,hcell⟩:=num_at (hb.grown B2) hil
  refine⟨_,by rw [Int.toNat_natCast];exact hcell,?_⟩
  have mes:bits.length-((i+1:Nat):Int).toNat<bits.length-((i:Nat):Int).toNat:=by
   simp only [Int.toNat_natCast]
   omega
  have bit:∀ {ls:List Val} (h:bits=bitsN ls) (hl:i<ls.length),bits[i]=if ls[i].1=0 then 1 else 0:=by
   intro ls h hl
   subst h
   simp [bitsN]
  rw [wrap_succ (k:=i) (by omega)]
  refine IFB_eq (fun h1=>?_) (fun h1=>IFB_eq (fun hend=>?_) (fun hne=>?_))
  ·refine⟨⟨at_,i+1,cur,rfl,by omega,hat,hcl,hcok,K2,hO2,fun ls g1 g2 g3=>?_⟩,mes⟩
   obtain⟨t1,t2⟩:=hT ls g1 g2 g3
   have hl:=blen g1
   have hl':i<ls.length:=by omega
   have hb1:=bit g1 hl'
   have hz:ls[i].1=0:=by
    by_cases hz:ls[i].1=0
    ·exact hz
    ·rw [if_neg hz] at hb1;omega
   refine⟨by rw [t1,fullL_take hl',if_pos hz,List.append_nil],?_⟩
   rw [t2,List.take_succ_eq_append_getElem hl',g3 _ (List.getElem_mem hl') hz,List.append_assoc]
   congr 1
   rw [show bits.length-i=(bits.length-(i+1))+1 by omega,List.replicate_succ]
   rfl
  ·refine⟨[],none,0,false,rfl,RdN.nil _ _,B2,by simp,by simp,fun ls g1 g2 g3=>?_⟩
   exfalso
   obtain⟨t1,t2⟩:=hT ls g1 g2 g3
   have hl:=blen g1
   have hl':i<ls.length:=by omega
   have hb1:=bit g1 hl'
   have hnz:¬ ls[i].1=0:=fun hz=>by rw [if_pos hz] at hb1;omega
   have hle:(fullL (ls.take (i+1))).length≤(fullL ls).length:=by
    unfold fullL
    exact ((List.take_sublist (i+1) ls).filter _).length_le
   rw [fullL_take hl',if_neg hnz,List.length_append,← t1,← g2] at hle
   simp at hle
   omega
  ·have hav:at_<vs.length:=by omega
   obtain⟨p2,hp2,c0,c1,c2⟩:=val_at (hv.grown B2) hav
   subst hp2
   refine⟨⟨by omega,by omega⟩,_,by rw [Int.toNat_natCast];exact c0,_,by rw [Int.toNat_natCast];exact c1,_,by rw [Int.toNat_natCast];exact c2,⟨by omega,by omega⟩,?_⟩
   rw [Int.toNat_natCast]
   have hsz:(⟨valsL cur⟩:Array Value).size=bits.length*3:=by
    show (valsL cur).length=_
    rw [vals_len,hcl]
   refine sto_at hO2 (p:=(⟨bo,0,none⟩:Addr).add (i*3)) (i:=i*3) (by rw [addr_add_blk];simp) (by omega) fun w3 K3 hO3=>?_
   refine sto_at hO3 (p:=((⟨bo,0,none⟩:Addr).add (i*3)).add 1) (i:=i*3+1) (by rw [addr_add_blk,addr_add_blk];simp) (by simp only [Array.size_setIfInBounds];omega) fun w4 K4 hO4=>?_
   refine sto_at hO4 (p:=((⟨bo,0,none⟩:Addr).add (i*3)).add 2) (i:=i*3+2) (by rw [addr_add_blk,addr_add_blk];simp) (by simp only [Array.size_setIfInBounds];omega) fun w5 K5 hO5=>?_
   rw [vals_set cur hic] at hO5
   rw [wrap_succ (by omega)]
   refine⟨⟨at_+1,i+1,cur.set i vs[at_],rfl,by omega,by omega,by rw [List.length_set];exact hcl,?_,((K2.trans K3 (fun _ _ h=>h)).trans K4 (fun _ _ h=>h)).trans K5 (fun _ _ h=>h),hO5,fun ls g1 g2 g3=>?_⟩,mes⟩
   ·intro v hv'
    rcases List.mem_or_eq_of_mem_set hv' with h | h
    ·exact hcok v h
    ·rw [h];exact hok _ (List.getElem_mem hav)
   ·obtain⟨t1,t2⟩:=hT ls g1 g2 g3
    have hl:=blen g1
    have hl':i<ls.length:=by omega
    have hb1:=bit g1 hl'
    have hnz:¬ ls[i].1=0:=fun hz=>by rw [if_pos hz] at hb1;omega
    have hft:=fullL_take hl'
    rw [if_neg hnz] at hft
    refine⟨by rw [t1,hft,List.length_append];rfl,?_⟩
    have hv2:vs[at_]=ls[i]:=by
     have hpre:fullL (ls.take (i+1)) <+: fullL ls:=by
      unfold fullL
      exact (List.take_prefix (i+1) ls).filter _
     rw [hft] at hpre
     obtain⟨r,hr⟩:=hpre
     have hv?:vs[at_]?=some ls[i]:=by
      rw [g2,← hr,List.append_assoc,t1]
      simp
     rw [List.getElem?_eq_getElem hav] at hv?
     exact Option.some.inj hv?
    rw [hv2,t2,List.take_succ_eq_append_getElem hl']
    have htl:(ls.take i).length=i:=by rw [List.length_take];omega
    rw [List.set_append_right _ _ (by omega),htl,Nat.sub_self,show bits.length-i=(bits.length-(i+1))+1 by omega,List.replicate_succ,List.set_cons_zero,List.append_assoc]
    rfl
 ·refine⟨cur,some ⟨bo,0,none⟩,bits.length,_,by rw [hcl],?_,B2,by omega,hcok,fun ls g1 g2 g3=>?_⟩
  ·exact⟨Rd.of_block0 hO2,fun k hk=>by cases hk;exact hbo⟩
  ·obtain⟨t1,t2⟩:=hT ls g1 g2 g3
   have hl:=blen g1
   have hie:ls.take i=ls:=List.take_of_length_le (by omega)
   rw [hie] at t1 t2
   refine⟨by rw [g2,t1];simp,?_⟩
   rw [t2,show bits.length-i=0 by omega]
   simp
end
end Go.Proofs.YtipgnehlihmdhaaGreatDoor
