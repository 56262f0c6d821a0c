/-
  Texts of this claim, laid one behind the other by a program of mine (install.py): S.Seg21.
-/
import Derived.Test.YtipgnehlihmdhaaGreatDoorM8
/-
  A file's rows: the document's way; the laws SegmentWords and SegmentOpens.
-/
namespace Go.Proofs.YtipgnehlihmdhaaGreatDoor
open Go.Dn Go.Proofs
open Go.RowKit (Below)
set_option maxRecDepth 100000
set_option linter.unusedVariables false
def Rd9V(l:List UInt8)(w w':World)(v:Value):Prop :=
 Below w.heap.size w w'∧((∃ cs ps ca cc bo,v=.tuple #[.slice ca cs.length cc,.slice (some ⟨bo,0,none⟩) ps.length ps.length,.int .i64 0]∧Rd w' ca (colsL cs)∧RowsAt w' (some ⟨bo,0,none⟩) ps∧SegOk cs (rws ps)∧SegIs cs (rws ps) l) ∨
  (v=.tuple #[.slice none 0 0,.slice none 0 0,.int .i64 91]∧¬ digOk l)∨(v=.tuple #[.slice none 0 0,.slice none 0 0,.int .i64 90]∧digOk l∧∀ cs' rows',SegOk cs' rows'→¬ SegIs cs' rows' l))
section
variable {w:World}
theorem ref09_Read_ok(s:ByteArray)(hs:s.size≤140737488355328):Calls Tryz.prog f.ref09_Read #[.string s] w (Ret fun v w'=>Rd9V (bl s) w w' v):=by
 apply R.ref09_Read_calls
 unfold R.ref09_Read
 have hbl:=bl_length s
 obtain⟨l,hl⟩:∃ l,l=bl s:=⟨_,rfl⟩
 rw [← hl] at hbl ⊢
 have hno:s.size<40→¬ digOk l:=fun h hd=>by have:=hd.1;omega
 refine IFB_dec (fun h=>⟨.refl _ _,.inr (.inl ⟨rfl,hno (by omega)⟩)⟩) (fun h40=>?_)
 have h40':40≤s.size:=by omega
 have eW:IntKind.i64.wrap ((s.size:Int)-32)=((s.size-32:Nat):Int):=by rw [wrap_i64 (by omega) (by omega)];omega
 rw [eW]
 simp only [Int.toNat_natCast]
 obtain⟨l1,hl1⟩:∃ l1,l1=l.take (s.size-32):=⟨_,rfl⟩
 have hl1l:l1.length=s.size-32:=by rw [hl1,List.length_take];omega
 have eX:s.extract 0 (s.size-32)=sof l1:=by rw [extract_eq,List.drop_zero,Nat.sub_zero,← hl,← hl1]
 rw [eX]
 refine⟨⟨by omega,by omega,by omega⟩,bytes_of_string tbytes (sof l1) w fun b0 c0 cells e0 w1 hb0 B1 hg1 hcs hsc htk=>?_⟩
 rw [size_sof] at hsc htk ⊢
 rw [bl_sof] at htk
 have hr1:Rd w1 (some ⟨b0,0,none⟩) (l1.map byteV):=by
  have:=(Rd.of_block0 hg1).take l1.length
  rw [htk] at this
  exact this
 refine⟨_,_,_,rfl,(ref03_Sum_ok l1 hr1 hsc (by omega)).mono ?_⟩
 rintro _ w2 ⟨_,rfl,rfl,B2⟩
 have S:=((ST.start w).grown B1).grown B2
 have hdl:(digP l1).length=32:=digP_len _
 obtain⟨dg,hdg⟩:∃ dg,dg=digP l1:=⟨_,rfl⟩
 rw [← hdg] at hdl ⊢
 have hdm:(dg.map byteV).length=32:=by rw [List.length_map];exact hdl
 have hdok:digOk l↔∀ j (hj:j<32),dg[j]'(by omega)=l[s.size-32+j]'(by omega):=by
  have h0:digOk l↔(40≤l.length∧l.drop (s.size-32)=dg):=by
   unfold digOk
   rw [hbl,← hl1,← hdg]
  rw [h0]
  constructor
  ·intro h j hj
   have:(l.drop (s.size-32))[j]?=dg[j]?:=by rw [h.2]
   rw [List.getElem?_drop,List.getElem?_eq_getElem (by omega),List.getElem?_eq_getElem (by omega)] at this
   exact (Option.some.inj this).symm
  ·intro h
   refine⟨by omega,List.ext_getElem (by rw [List.length_drop];omega) fun j g1 g2=>?_⟩
   rw [List.getElem_drop]
   exact (h j (by omega)).symm
 refine LIKEL_by dg hdl ⟨rfl,S.newB fun b6 w3 _ _ S=>BIF_len hdm (S.stoAll 0 rfl hdm (bytes_one _) fun w4 S=>?_)⟩
 refine⟨fun st wx=>∃ j:Nat,st=[.int .i64 (j:Int)]∧j≤32∧(∀ q (hq:q<32),q<j→dg[q]'(by omega)=l[s.size-32+q]'(by omega))∧ST w wx [It.cells b6 ⟨dg.map byteV⟩ 73],fun st _=>match st with
   | [.int _ j]=>32-j.toNat
   | _=>0,⟨0,rfl,by omega,fun q _ h=>by omega,S⟩,?_⟩
 clear S
 rintro _ w5 ⟨j,hst,hj,hall,S⟩
 cases hst
 refine IFB_dec (fun hlt=>?_) (fun hge=>?_)
 ·have hj32:j<32:=by omega
  refine S.draw fun w6 _ S=>?_
  have eI:IntKind.i64.wrap (((s.size-32:Nat):Int)+(j:Int))=((s.size-32+j:Nat):Int):=by rw [wrap_i64 (by omega) (by omega)];omega
  rw [eI]
  simp only [Int.toNat_natCast]
  have hcell:w6.cell? ((⟨b6,0,none⟩:Addr).add (j*1))=some (.int .u8 ((dg[j]'(by omega)).toNat:Int)):=by
   rw [addr_add_blk,Nat.zero_add,Nat.mul_one]
   refine S.cell 0 rfl ?_
   simp [show j<dg.length by omega,byteV]
  have hsg:sget s (s.size-32+j)=l[s.size-32+j]'(by omega):=by rw [sget_eq,← hl];simp [List.getD,show s.size-32+j<l.length by omega]
  rw [hsg]
  refine⟨⟨by omega,hlt⟩,⟨by omega,by omega⟩,_,hcell,IFB_ne (fun hne=>⟨S.bel,.inr (.inl ⟨rfl,fun hd=>hne ?_⟩)⟩) (fun he=>?_)⟩
  ·rw [hdok.1 hd j hj32]
  ·rw [wrap_succ (by omega)]
   refine⟨⟨j+1,rfl,by omega,fun q hq hqj=>?_,S⟩,by simp only [Int.toNat_natCast];omega⟩
   rcases Nat.lt_or_ge q j with h | h
   ·exact hall q hq h
   ·obtain rfl:q=j:=by omega
    exact UInt8.toNat_inj.1 (by omega)
 ·have hD:digOk l:=hdok.2 fun q hq=>hall q hq (by omega)
  refine (ref09_read_ok s (by rw [← hl]) h40' hs).mono ?_
  rintro _ w7 ⟨_,rfl,B7,hC⟩
  have S:=S.grown B7
  rw [← hl1] at hC
  have no:(∀ cs' rows' xs',¬ PreIs cs' rows' xs' l1)→∀ cs' rows',SegOk cs' rows'→¬ SegIs cs' rows' l:=fun h cs' rows' hs' hI=>by
   obtain⟨xs,hP,_⟩:=hI.pre hs'
   rw [hbl,← hl1] at hP
   exact h _ _ _ hP
  rcases hC with ⟨cs,cols,ps,ca,cc,bo,n,rfl,hcr,hrr,hpl,hn24,hR,hrows,hgood,hu⟩ | ⟨rfl,hno2⟩
  ·subst hpl
   have hcl:=right_len hR
   have hu':∀ cs' rows',SegOk cs' rows'→SegIs cs' rows' l→cs'=cs∧rows'=rws ps:=fun cs' rows' hs' hI=>by
    obtain⟨xs,hP,_⟩:=hI.pre hs'
    rw [hbl,← hl1] at hP
    obtain⟨h1,h2,h3⟩:=hu cs' rows' xs hP
    refine⟨h1.symm,?_⟩
    rw [hrows,h3,h2,rowsOf_cols fun r hr=>hs'.rowLen hr]
   refine⟨_,_,_,_,_,_,_,rfl,IFB_not (IFB_true ?_)⟩
   refine (ref09_Write_ok hcr (by omega) (fun c hc=>by have:=(right_col hR hc).2.2.2;omega) hrr (by omega) (by
    intro r hr v hv
    rw [hrows] at hr
    obtain⟨i,hi,rfl⟩:=List.mem_map.1 hr
    obtain⟨col,hcol,rfl⟩:=List.mem_map.1 hv
    obtain⟨hql,k,hg⟩:=hgood col hcol
    have hil:i<col.length:=by have:=List.mem_range.1 hi;omega
    have e:col.getD i Z0=col[i]:=by simp [List.getD,hil]
    rw [e]
    exact hg.ok _ (List.getElem_mem hil))).mono ?_
   rintro _ w8 ⟨_,rfl,hV,B8⟩
   have S:=S.grown B8
   rcases hV with ⟨hnok,rfl,hE⟩ | ⟨hok,b,rfl,hI⟩
   ·refine⟨_,_,rfl,IFB_ne (fun _=>⟨S.bel,.inr (.inr ⟨rfl,hD,fun cs' rows' hs' hI=>?_⟩)⟩) (fun h=>absurd h hE)⟩
    obtain⟨rfl,rfl⟩:=hu' cs' rows' hs' hI
    exact hnok hs'
   ·refine⟨_,_,rfl,IFB_ne (fun h=>absurd rfl h) (fun _=>?_)⟩
    rw [bytesEq_iff]
    refine IFB_not (IFB_dec (fun he=>?_) (fun he=>⟨S.bel,.inr (.inr ⟨rfl,hD,fun cs' rows' hs' hI'=>?_⟩)⟩))
    ·have hbl2:b=l:=by have:=congrArg bl he;rwa [bl_sof,← hl] at this
     subst hbl2
     exact⟨S.bel,.inl ⟨cs,ps,ca,cc,bo,rfl,hcr.grown B8,hrr.grown B8,hok,hI⟩⟩
    ·obtain⟨rfl,rfl⟩:=hu' cs' rows' hs' hI'
     exact he (by rw [hI.one hI',hl,sof_bl])
  ·exact⟨_,_,_,_,_,_,_,rfl,IFB_not (IFB_false ⟨S.bel,.inr (.inr ⟨rfl,hD,no hno2⟩)⟩)⟩
theorem SegmentOpens_core(T:Tabs w)(s:ByteArray)(hs:s.size≤140737488355328):Calls Tryz.prog f.law09_SegmentOpens #[.string s] w (Ret fun v w'=>v=.bool true∧Below w.heap.size w w'):=by
 apply R.law09_SegmentOpens_calls
 unfold R.law09_SegmentOpens
 refine (shown09_ok T).mono ?_
 rintro _ w1 ⟨_,rfl,rfl,B1⟩
 refine⟨_,rfl,(segment_Open_ok (T.grown B1) s hs).mono ?_⟩
 rintro _ w2 ⟨_,rfl,B2,hO⟩
 have C2:=below_trans B1 B2
 rcases hO with ⟨g,p,cs,cps,n,rfl,hg,hA,hok,hI,hu⟩ | ⟨rfl,hno⟩ | ⟨rfl,hd,hno⟩
 ·refine⟨_,_,rfl,(ref09_Read_ok s hs).mono ?_⟩
  rintro _ w3 ⟨_,rfl,B3,hR⟩
  have C3:=below_trans C2 B3
  rcases hR with ⟨cs2,ps,ca,cc,bo,rfl,hcr,hrr,hok2,hI2⟩ | ⟨_,hno⟩ | ⟨_,_,hno⟩
  ·obtain⟨rfl,h2,h3,h4⟩:=hu cs2 (rws ps) hok2 hI2
   refine⟨_,_,_,_,_,_,_,rfl,fun st wx=>st=[.bool false]∧wx=w3,IFB_ne (fun h=>absurd rfl h) (fun _=>⟨rfl,rfl⟩),?_⟩
   rintro _ wx ⟨hst,rfl⟩
   cases hst
   refine IFB_false (IFB_true ((told_ok ((Keeps.of_below (F:=fun _=>False) B3).cell hg (by simp)) (hA.grown B3) hcr hrr hok2 (by simpa [rws] using h3) h4).mono ?_))
   rintro _ w5 ⟨_,rfl,rfl,B5⟩
   exact⟨_,rfl,rfl,below_trans C3 B5⟩
  ·obtain⟨_,_,h⟩:=hI.pre hok
   exact absurd h hno
  ·exact absurd hI (hno _ _ hok)
 ·refine⟨_,_,rfl,(ref09_Read_ok s hs).mono ?_⟩
  rintro _ w3 ⟨_,rfl,B3,hR⟩
  have C3:=below_trans C2 B3
  rcases hR with ⟨cs2,ps,ca,cc,bo,rfl,_,_,hok2,hI2⟩ | ⟨rfl,_⟩ | ⟨rfl,hd,_⟩
  ·obtain⟨_,_,h⟩:=hI2.pre hok2
   exact absurd h hno
  ·refine⟨_,_,_,_,_,_,_,rfl,fun st wx=>st=[.bool true]∧wx=w3,IFB_ne (fun _=>⟨rfl,rfl⟩) (fun h=>absurd h (by decide)),?_⟩
   rintro _ wx ⟨hst,rfl⟩
   cases hst
   exact IFB_true (IFB_true (IFB_eq (fun _=>⟨rfl,C3⟩) (fun h=>absurd rfl h)))
  ·exact absurd hd hno
 ·refine⟨_,_,rfl,(ref09_Read_ok s hs).mono ?_⟩
  rintro _ w3 ⟨_,rfl,B3,hR⟩
  have C3:=below_trans C2 B3
  rcases hR with ⟨cs2,ps,ca,cc,bo,rfl,_,_,hok2,hI2⟩ | ⟨rfl,hno2⟩ | ⟨rfl,_,_⟩
  ·exact absurd hI2 (hno _ _ hok2)
  ·exact absurd hd hno2
  ·refine⟨_,_,_,_,_,_,_,rfl,fun st wx=>st=[.bool true]∧wx=w3,IFB_ne (fun _=>⟨rfl,rfl⟩) (fun h=>absurd h (by decide)),?_⟩
   rintro _ wx ⟨hst,rfl⟩
   cases hst
   exact IFB_true (IFB_true (IFB_eq (fun _=>⟨rfl,C3⟩) (fun h=>absurd rfl h)))
variable {a a2:Option Addr}{c c2:Nat}{cs:List Col}{ps:List RowP}
end
theorem SegmentOpens_ok{w:World}(T:Tabs w)(s:ByteArray)(hs:s.size≤reachBytes):Calls Tryz.prog f.law09_SegmentOpens #[.string s] w (Ret fun r w'=>r=.bool true∧Below w.heap.size w w') :=
 SegmentOpens_core T s (Nat.le_trans hs (by decide))
end Go.Proofs.YtipgnehlihmdhaaGreatDoor
