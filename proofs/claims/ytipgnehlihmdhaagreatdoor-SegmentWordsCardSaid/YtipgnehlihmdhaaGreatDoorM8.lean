/-
  Texts of this claim, laid one behind the other by a program of mine (install.py): S.Seg19, S.Seg20, S.Seg21.
-/
import Derived.Test.YtipgnehlihmdhaaGreatDoorM7
namespace Go.Proofs.YtipgnehlihmdhaaGreatDoor
set_option maxRecDepth 100000
open Go.Dn Go.Proofs
open Go.RowKit (Below)
set_option linter.unusedVariables false
section
variable {w:World}{a a2:Option Addr}{c c2:Nat}{cs:List Col}{ps:List RowP}
theorem ref09_zone_ok(l:List UInt8)(hl:Rd w a (l.map byteV))(n:Nat)(hn:n<9223372036854775807)(p:Val × Val)(h1:rightB p.1=true∧ValOk p.1)(h2:rightB p.2=true∧ValOk p.2)(hs:l.length+10000≤140737488355328) :
  Calls Tryz.prog f.ref09_zone #[.slice a l.length c,.agg (zC (n:Int) p)] w (Ret fun v w'=>∃ a' c',v=.slice a' (l++(digitsL n++layL p.1++layL p.2)).length c'∧NewB w w' (l++(digitsL n++layL p.1++layL p.2)) a' c'):=by
 apply R.ref09_zone_calls
 unfold R.ref09_zone
 have d1:=digitsL_len10 (n:=n) (by omega)
 have d2:=layL_len h1.1 h1.2
 have d3:=layL_len h2.1 h2.2
 refine (ST.start w).newB fun b9 w1 _ B1 S=>⟨_,S.cell 0 rfl rfl,?_⟩
 rw [wrap_u64_id (by omega) (by omega)]
 refine (ref_Number_ok l (hl.grown B1) n (by omega) (by omega)).mono ?_
 rintro _ w2 ⟨_,rfl,x2,y2,rfl,N2⟩
 have S:=stAddB S N2
 refine⟨_,_,_,rfl,_,S.cell 1 rfl rfl,_,S.cell 1 rfl rfl,_,S.cell 1 rfl rfl,(ref04_Lay_ok (l++digitsL n) (stRdB S 0 rfl) p.1 h1.2 (by rw [List.length_append];omega)).mono ?_⟩
 rintro _ w3 ⟨_,rfl,h3⟩
 obtain⟨x3,y3,rfl,N3⟩:=lay_good h1.1 h3
 have S:=stAddB S N3
 refine⟨_,_,_,_,rfl,_,S.cell 2 rfl rfl,_,S.cell 2 rfl rfl,_,S.cell 2 rfl rfl,(ref04_Lay_ok (l++digitsL n++layL p.1) (stRdB S 0 rfl) p.2 h2.2 (by simp only [List.length_append];omega)).mono ?_⟩
 rintro _ w4 ⟨_,rfl,h4⟩
 obtain⟨x4,y4,rfl,N4⟩:=lay_good h2.1 h4
 have S:=stAddB S N4
 have e:l++(digitsL n++layL p.1++layL p.2)=l++digitsL n++layL p.1++layL p.2:=by simp
 rw [e]
 exact⟨_,_,_,_,rfl,x4,y4,rfl,stNew S 0 rfl⟩
theorem low_cells(n:Nat):(#[Value.int .u8 (IntKind.u8.wrap (n:Int)),.int .u8 (IntKind.u8.wrap (Int.fdiv (n:Int) (2 ^ (min 8 64)))),.int .u8 (IntKind.u8.wrap (Int.fdiv (n:Int) (2 ^ (min 16 64)))),.int .u8 (IntKind.u8.wrap (Int.fdiv (n:Int) (2 ^ (min 24 64))))]:Array Value)=((lowB n).map byteV).toArray:=by
 have sh:∀ k,Int.fdiv (n:Int) (2 ^ k)=((n / 2 ^ k:Nat):Int):=fun k=>by
  rw [Int.fdiv_eq_ediv_of_nonneg _ (Int.pow_nonneg (by decide))]
  norm_cast
 have by_:∀ m:Nat,Value.int .u8 (IntKind.u8.wrap (m:Int))=byteV (UInt8.ofNat (m % 256)):=fun m=>by
  rw [wrap_u8,← byteV_of (x:=m % 256) (by omega)]
  congr 1
 rw [show min 8 64=8 from rfl,show min 16 64=16 from rfl,show min 24 64=24 from rfl,sh,sh,sh,by_,by_,by_,by_]
 rfl
set_option maxHeartbeats 1000000 in
theorem ref09_Write_ok(hl:Rd w a (colsL cs))(hn:cs.length≤9223372036854775807)(hq:∀ c∈cs,c.1.size≤9223372036854775807)(hr:RowsAt w a2 ps)(hm:ps.length≤9223372036854775807)(hv:∀ r∈rws ps,∀ v∈r,ValOk v) :
  Calls Tryz.prog f.ref09_Write #[.slice a cs.length c,.slice a2 ps.length c2] w (Ret fun v w'=>SegV cs (rws ps) v∧Below w.heap.size w w'):=by
 apply R.ref09_Write_calls
 unfold R.ref09_Write
 have bad:∀ {wx:World} (e:Int),Below w.heap.size w wx→(segE cs (rws ps)=e)→e≠0→SegV cs (rws ps) (.tuple #[.string ⟨#[]⟩,.int .i64 e])∧Below w.heap.size w wx:=by
  rintro wx e B rfl h0
  refine⟨.inl ⟨fun hs=>h0 ?_,rfl,h0⟩,B⟩
  have h1:¬ (1024<(rws ps).length∨∃ r∈rws ps,fitsB cs r=false):=by
   rintro (h | ⟨r,hr,h⟩)
   ·have:=hs.len;omega
   ·rw [hs.fits r hr] at h;cases h
  have h2:¬ rightCols cs=false:=by rw [hs.right];decide
  rw [segE,if_neg h2,if_neg h1]
 refine (ref05_Right_ok hl hn hq).mono ?_
 rintro _ w1 ⟨_,rfl,rfl,rfl⟩
 refine⟨_,rfl,IFB_not (IFB_of (fun hR=>?_) (fun hR=>bad 50 (.refl _ _) (by rw [segE,if_pos hR]) (by decide)))⟩
 have hRn:¬ rightCols cs=false:=by rw [hR];decide
 refine IFB_dec (fun h=>bad 51 (.refl _ _) ?_ (by decide)) (fun hlen=>?_)
 ·have:1024<(rws ps).length:=by simp only [rws,List.length_map];omega
  rw [segE,if_neg hRn,if_pos (.inl this)]
 have hlen':ps.length≤1024:=by omega
 refine⟨fun s w2=>∃ i:Nat,s=[.int .i64 (i:Int)]∧i≤ps.length∧Below w1.heap.size w1 w2∧∀ j (hj:j<ps.length),j<i→fitsB cs ps[j].2.2=true,fun s _=>match s with
   | [.int _ i]=>ps.length-i.toNat
   | _=>0,⟨0,rfl,by omega,.refl _ _,fun j hj h=>by omega⟩,?_⟩
 rintro _ w2 ⟨i,hst,hi,B2,hall⟩
 cases hst
 refine IFB_dec (fun hlt=>⟨⟨by omega,hlt⟩,?_⟩) (fun hge=>?_)
 ·have hil:i<ps.length:=by omega
  obtain⟨q,rfl,hq1,hrow⟩:=(hr.grown B2).at hil
  refine⟨_,_,_,by rw [Int.toNat_natCast];exact hq1,(ref05_Fits_ok (hl.grown B2) hn hq hrow).mono ?_⟩
  rw [hR,Bool.true_and]
  rintro _ w3 ⟨_,rfl,rfl,B3⟩
  have C3:=below_trans B2 B3
  refine⟨_,rfl,IFB_not (IFB_of (fun hf=>?_) (fun hf=>bad 51 C3 ?_ (by decide)))⟩
  ·rw [wrap_succ (by omega)]
   refine⟨⟨i+1,rfl,by omega,C3,fun j hj hji=>?_⟩,by simp only [Int.toNat_natCast];omega⟩
   rcases Nat.lt_or_ge j i with h | h
   ·exact hall j hj h
   ·obtain rfl:j=i:=by omega
    exact hf
  ·rw [segE,if_neg hRn,if_pos (.inr ⟨_,List.mem_map.2 ⟨ps[i],List.getElem_mem hil,rfl⟩,hf⟩)]
 have hok:SegOk cs (rws ps):=by
  refine⟨hR,by simp only [rws,List.length_map];omega,fun r hr=>?_,hv⟩
  obtain⟨p,hp,rfl⟩:=List.mem_map.1 hr
  obtain⟨j,hj,rfl⟩:=List.getElem_of_mem hp
  exact hall j hj (by omega)
 clear hall hge hi
 have hrl:∀ p∈ps,p.2.2.length=cs.length:=fun p hp=>hok.rowLen (List.mem_map.2 ⟨p,hp,rfl⟩)
 have hcl:=right_len hR
 have hsl:=schL_len hR
 have d1:=digitsL_len10 (n:=ps.length) (by omega)
 have S:=(ST.start w1).grown B2
 refine S.newB fun b11 w4 hb11 B4 S=>conv_lit und_B und_u8 (S.blk 0 rfl) fun w5 K5 hg5=>⟨_,_,_,rfl,?_⟩
 have S:=S.chg 0 rfl (K5.mono fun k _ h=>by subst h;rfl) (bufI (some ⟨b11,0,none⟩) 4 magicB) (.inr ⟨_,rfl,rfl,Rd.of_block0 hg5,rfl,(Array.getElem?_eq_some_iff.1 hg5).1⟩) (fun k hk=>.inl hk)
 refine (ref05_Lay_ok (l:=[]) (a:=none) (c:=0) (Rd.nil _ _) (by simp) (hl.grown S.bel) hn hq).mono ?_
 rintro _ w6 ⟨_,rfl,h6⟩
 rcases h6 with ⟨hR0,_⟩ | ⟨_,a6,c6,rfl,N6⟩
 ·exact absurd hR0 hRn
 rw [List.nil_append] at N6 ⊢
 have S:=stAddB S N6
 rw [wrap_u64_id (by omega) (by omega)]
 refine⟨_,_,_,_,rfl,(ref_Number_ok (schL cs) (stRdB S 0 rfl) ps.length (by omega) (by omega)).mono ?_⟩
 rintro _ w7 ⟨_,rfl,a7,c7,rfl,N7⟩
 have S:=stAddB S N7
 refine⟨_,_,_,rfl,?_⟩
 refine⟨fun s wx=>∃(xs:List (List UInt8)) (fa:Option Addr) (fc:Nat) (ba:Option Addr) (bc:Nat),xs.length≤cs.length∧ChsIs cs (rws ps) xs∧s=[.slice ba (magicB++xs.flatten).length bc,.slice fa (schL cs++digitsL ps.length++footsL (rws ps) xs).length fc,.int .i64 (xs.length:Int)] ∧
   ST w1 wx [bytesI fa fc (schL cs++digitsL ps.length++footsL (rws ps) xs),bufI ba bc (magicB++xs.flatten)],fun s _=>match s with
   | [_,_,.int _ i]=>cs.length-i.toNat
   | _=>0,⟨[],a7,c7,some ⟨b11,0,none⟩,4,by simp,.nil _ _,?_,?_⟩,?_⟩
 ·have e1:schL cs++digitsL ps.length++footsL (rws ps) ([]:List (List UInt8))=schL cs++digitsL ps.length:=by simp [footsL]
  have e2:magicB++([]:List (List UInt8)).flatten=magicB:=by simp
  rw [e1,e2]
  rfl
 ·have e1:schL cs++digitsL ps.length++footsL (rws ps) ([]:List (List UInt8))=schL cs++digitsL ps.length:=by simp [footsL]
  have e2:magicB++([]:List (List UInt8)).flatten=magicB:=by simp
  rw [e1,e2]
  exact S.sub ((List.sublist_cons_self _ _).cons_cons _)
 clear S N6 N7
 rintro _ _ _ _ _ _ _ w8 ⟨xs,fa,fc,ba,bc,hxc,hch,hst,S⟩
 cases hst
 have hfl:=hch.flat hok
 have hfo:=hch.foots hok
 refine IFB_dec (fun hlt=>?_) (fun hge=>?_)
 ·have hqn:xs.length<cs.length:=by omega
  have hg:=hok.good hqn
  obtain⟨⟨z1,z2⟩,z3,z4⟩:=hg.zone
  have hcol:(colOf (rws ps) xs.length).length=ps.length:=by rw [colOf_len];simp [rws]
  obtain⟨col,hcolE⟩:∃ col,col=colOf (rws ps) xs.length:=⟨_,rfl⟩
  refine (ref09_Column_ok (hr.grown S.bel) (by omega) (k:=xs.length) (fun q hq=>by rw [hrl q hq];exact hqn)).mono ?_
  rw [← hcolE] at hg z1 z2 z3 z4 hcol ⊢
  rintro _ w9 ⟨_,rfl,la,lc,rfl,P⟩
  have S:=S.join P
  obtain⟨p,rfl,c0,c1,c2⟩:=col_at (hl.grown S.bel) hqn
  refine⟨_,_,_,rfl,⟨by omega,hlt⟩,_,by rw [Int.toNat_natCast];exact c1,(ref08_Encode_ok (c:=lc) cs[xs.length].2.1 (stRdV S 0 rfl) (by omega) hg.ok).mono ?_⟩
  rintro _ w10 ⟨_,rfl,h10⟩
  rcases h10 with ⟨hno,_⟩ | ⟨_,x,xa,xc,hx,rfl,h10⟩
  ·rw [hg.right] at hno;cases hno
  have hxl:=hx.len hg
  have hx5:0<x.length:=by have:=(hx.read hg).2.1;omega
  have S:=stAddB S h10
  refine⟨_,_,_,_,rfl,(ref08_Zone_ok (c:=lc) (stRdV S 1 rfl)).mono ?_⟩
  rintro _ w11 ⟨_,rfl,hz,B11⟩
  have S:=S.grown B11
  obtain⟨zn,zp,ze,rfl,hz'⟩:=hz.open
  obtain⟨rfl,rfl⟩:zn=(nullsN col:Int)∧zp=zmm col:=by
   rcases hz' with ⟨_,h1,h2,_⟩ | ⟨h1,_⟩
   ·exact⟨h1,h2⟩
   ·exact absurd hg.zoneOk h1
  refine⟨_,_,_,_,_,_,_,_,rfl,S.newB fun b39 w12 _ _ S=>S.sto7 0 rfl fun w19 S=>?_⟩
  refine stAppF S 4 rfl (stRdB S 1 rfl) hx5 (by simp only [List.length_append,magicB,List.length_cons,List.length_nil];omega) fun a20 c20 w20 S=>⟨_,_,_,rfl,S.draw fun w21 _ S=>?_⟩
  refine⟨_,S.cell 0 rfl rfl,_,S.cell 0 rfl rfl,_,S.cell 0 rfl rfl,_,S.cell 0 rfl rfl,_,S.cell 0 rfl rfl,_,S.cell 0 rfl rfl,_,S.cell 0 rfl rfl,?_⟩
  rw [wrap_u64_id (n:=(x.length:Int)) (by omega) (by omega)]
  have hnn:=nullsN_le col
  have d2:=digitsL_len10 (n:=x.length) (by omega)
  have d4:=digitsL_len10 (n:=nullsN col) (by omega)
  refine (ref_Number_ok (schL cs++digitsL ps.length++footsL (rws ps) xs) (stRdB S 3 rfl) x.length (by omega) (by simp only [List.length_append];omega)).mono ?_
  rintro _ w22 ⟨_,rfl,a22,c22,rfl,N22⟩
  have S:=stAddB S N22
  refine⟨_,_,_,rfl,⟨S.cell 1 rfl rfl,S.cell 1 rfl rfl,S.cell 1 rfl rfl,S.cell 1 rfl rfl,S.cell 1 rfl rfl,S.cell 1 rfl rfl,S.cell 1 rfl rfl⟩,?_⟩
  refine (ref09_zone_ok (schL cs++digitsL ps.length++footsL (rws ps) xs++digitsL x.length) (stRdB S 0 rfl) (nullsN col) (by omega) (zmm col) ⟨z1,z2⟩ ⟨z3,z4⟩ (by simp only [List.length_append];omega)).mono ?_
  rintro _ w23 ⟨_,rfl,a23,c23,rfl,N23⟩
  have S:=stAddB S N23
  have ef:schL cs++digitsL ps.length++footsL (rws ps) xs++digitsL x.length++(digitsL (nullsN col)++layL (zmm col).1++layL (zmm col).2)=schL cs++digitsL ps.length++footsL (rws ps) (xs++[x]):=by
   rw [footsL_snoc,← hcolE]
   simp [footC]
  have eb:magicB++xs.flatten++x=magicB++(xs++[x]).flatten:=by simp
  have el:xs.length+1=(xs++[x]).length:=by simp
  rw [ef,eb] at S
  rw [wrap_succ (by omega),ef,eb,el]
  refine⟨_,_,_,rfl,⟨xs++[x],a23,c23,a20,c20,by rw [← el];omega,hch.snoc hqn (by rw [← hcolE];exact hx),rfl,?_⟩,by rw [← el];simp only [Int.toNat_natCast];omega⟩
  have S2:ST w1 w23 [bytesI a23 c23 (schL cs++digitsL ps.length++footsL (rws ps) (xs++[x])),bytesI a20 c20 (magicB++(xs++[x]).flatten)]:=S.sub ((((List.Sublist.refl _).cons _).cons _).cons _ |>.cons _ |>.cons _ |>.cons_cons _)
  exact stToBuf S2 1 rfl
 ·have hxl:xs.length=cs.length:=by omega
  have hfo2:=hch.footLen hok
  have hpl:=hch.preLen hok
  have efl:schL cs++digitsL ps.length++footsL (rws ps) xs=footL cs (rws ps) xs:=by
   unfold footL
   rw [show (rws ps).length=ps.length by simp [rws]]
  rw [efl] at S ⊢
  obtain⟨ft,hft⟩:∃ ft,ft=footL cs (rws ps) xs:=⟨_,rfl⟩
  have hft0:0<ft.length:=by
   rw [hft,← efl]
   have:0<(schL cs).length:=by
    unfold schL
    rw [List.length_append]
    have:=List.length_pos_iff.2 (digitsL_pos cs.length)
    omega
   simp only [List.length_append]
   omega
  rw [← hft] at S hfo2 ⊢
  obtain⟨bb,hbb⟩:∃ bb,bb=magicB++xs.flatten:=⟨_,rfl⟩
  rw [← hbb] at S ⊢
  have ebl:bb.length≤33000004:=by rw [hbb];simp only [List.length_append,magicB,List.length_cons,List.length_nil];omega
  refine stAppF S 1 rfl (stRdB S 0 rfl) hft0 (by omega) fun a24 c24 w24 S=>⟨_,_,_,rfl,?_⟩
  rw [low_cells]
  refine S.newB fun b55 w25 _ _ S=>?_
  have hrl2:Rd w25 (some ⟨b55,0,none⟩) ((lowB ft.length).map byteV):=S.rdc 0 rfl
  refine stAppK S 2 rfl (m:=lowB ft.length) (k:=4) rfl hrl2 (by simp only [List.length_append,lowB,List.length_cons,List.length_nil];omega) fun a26 c26 w26 S=>⟨_,_,_,rfl,?_⟩
  have epre:bb++ft++lowB ft.length=preL cs (rws ps) xs:=by rw [hbb,hft];rfl
  rw [epre] at S ⊢
  obtain⟨pre,hpre⟩:∃ pre,pre=preL cs (rws ps) xs:=⟨_,rfl⟩
  rw [← hpre] at S hpl ⊢
  have hcap:=(S.get 2 rfl:Row w26 _ _ _ _ _ _).le
  refine (ref03_Sum_ok pre (stRdB S 2 rfl) hcap (by omega)).mono ?_
  rintro _ w27 ⟨_,rfl,rfl,B27⟩
  have S:=S.grown B27
  have hdl:(digP pre).length=32:=digP_len _
  obtain⟨dg,hdg⟩:∃ dg,dg=digP pre:=⟨_,rfl⟩
  rw [← hdg] at hdl ⊢
  have hdm:(dg.map byteV).length=32:=by rw [List.length_map];exact hdl
  refine LIKEL_by dg hdl ⟨rfl,S.newB fun b60 w28 _ _ S=>BIF_len hdm (S.stoAll 0 rfl hdm (bytes_one _) fun w29 S=>?_)⟩
  have S2:ST w1 w29 [It.cells b60 ⟨dg.map byteV⟩ 73,bytesI a26 c26 pre]:=S.sub (((List.Sublist.refl _).cons _).cons _ |>.cons_cons _)
  refine⟨fun s wx=>∃(j:Nat) (xa:Option Addr) (xc:Nat),s=[.slice xa (pre++dg.take j).length xc,.int .i64 (j:Int)]∧j≤32∧ST w1 wx [It.cells b60 ⟨dg.map byteV⟩ 73,bytesI xa xc (pre++dg.take j)],fun s _=>match s with
   | [_,.int _ i]=>32-i.toNat
   | _=>0,⟨0,a26,c26,by simp,by omega,by simpa using S2⟩,?_⟩
  clear S S2
  rintro _ _ _ _ w30 ⟨j,xa,xc,hst,hj,S⟩
  cases hst
  refine IFB_dec (fun hlt2=>⟨⟨by omega,hlt2⟩,?_⟩) (fun hge2=>?_)
  ·have hjl:j<dg.length:=by omega
   have hcell:w30.cell? ((⟨b60,0,none⟩:Addr).add ((j:Int).toNat*1))=some (.int .u8 (dg[j].toNat:Int)):=by
    rw [Int.toNat_natCast,addr_add_blk,Nat.zero_add,Nat.mul_one]
    refine S.cell 0 rfl ?_
    simp [hjl,byteV]
   refine⟨_,hcell,S.newB fun b67 w32 _ _ S=>?_⟩
   have hsrc:Rd w32 (some ⟨b67,0,none⟩) ([dg[j]].map byteV):=S.rdc 0 rfl
   refine stAppK S 2 rfl (m:=[dg[j]]) (k:=1) rfl hsrc (by simp only [List.length_append,List.length_take,List.length_cons,List.length_nil];omega) fun a33 c33 w33 S=>⟨_,_,_,rfl,?_⟩
   have ej:pre++dg.take j++[dg[j]]=pre++dg.take (j+1):=by rw [List.take_succ_eq_append_getElem hjl,List.append_assoc]
   rw [ej] at S
   rw [wrap_succ (by omega),ej]
   exact⟨⟨j+1,a33,c33,rfl,by omega,S.drop 1⟩,by simp only [Int.toNat_natCast];omega⟩
  ·obtain rfl:j=32:=by omega
   rw [List.take_of_length_le (by omega)] at S ⊢
   refine string_of_bytes tbytes rfl (stRdB S 1 rfl) ⟨_,rfl,.inr ⟨hok,_,rfl,⟨xs,hxl,hch,?_⟩⟩,S.bel⟩
   rw [sealD,hdg,hpre]
end
theorem SegV.one{cs:List Col}{rows:List (List Val)}{v u:Value}(h:SegV cs rows v)(h':SegV cs rows u):v=u:=by
 rcases h with ⟨h1,rfl,_⟩ | ⟨h1,b,rfl,hI⟩ <;> rcases h' with ⟨h2,rfl,_⟩ | ⟨h2,b2,rfl,hI2⟩
 ·rfl
 ·exact absurd h2 h1
 ·exact absurd h1 h2
 ·rw [hI.one hI2]
section
variable {w:World}{a:Option Addr}{c:Nat}{b:List UInt8}
end
section
variable {w:World}
variable {a a2:Option Addr}{c c2:Nat}{cs:List Col}{ps:List RowP}
theorem SegV.open{rows:List (List Val)}{v:Value}(h:SegV cs rows v):∃(s:ByteArray) (e:Int),v=.tuple #[.string s,.int .i64 e]∧s.size≤40000000:=by
 rcases h with ⟨_,rfl,_⟩ | ⟨hok,b,rfl,hI⟩
 ·exact⟨_,_,rfl,by show 0≤_;omega⟩
 ·exact⟨_,_,rfl,by rw [size_sof];exact hI.len hok⟩
theorem SegmentWords_core(T:Tabs w)(hl:Rd w a (colsL cs))(hn:cs.length≤9223372036854775807)(hq:∀ c∈cs,c.1.size≤9223372036854775807)(hr:RowsAt w a2 ps)(hm:ps.length≤9223372036854775807)(hv:∀ r∈rws ps,∀ v∈r,ValOk v) :
  Calls Tryz.prog f.law09_SegmentWords #[.slice a cs.length c,.slice a2 ps.length c2] w (Ret fun v w'=>v=.bool true∧Below w.heap.size w w'):=by
 apply R.law09_SegmentWords_calls
 unfold R.law09_SegmentWords
 refine (shown09_ok T).mono ?_
 rintro _ w1 ⟨_,rfl,rfl,B1⟩
 refine⟨_,rfl,(segment_Write_ok (T.grown B1) (hl.grown B1) hn hq (hr.grown B1) hm hv).mono ?_⟩
 rintro _ w2 ⟨_,rfl,hV,B2⟩
 have C2:=below_trans B1 B2
 obtain⟨s,e,rfl,hss⟩:=hV.open
 refine⟨_,_,rfl,(ref09_Write_ok (hl.grown C2) hn hq (hr.grown C2) hm hv).mono ?_⟩
 rintro _ w3 ⟨_,rfl,hV3,B3⟩
 have C3:=below_trans C2 B3
 obtain rfl:=hV3.one hV
 refine⟨_,_,rfl,IFB_true ?_⟩
 rw [bytesEq_iff]
 refine IFB_dec (fun _=>IFB_eq (fun _=>(segment_Name_ok (T.grown C3) s (by omega)).mono ?_) (fun h=>absurd rfl h)) (fun h=>absurd rfl h)
 rintro _ w4 ⟨_,rfl,rfl,B4⟩
 refine⟨_,rfl,(ref09_Name_ok s (by omega)).mono ?_⟩
 rintro _ w5 ⟨_,rfl,rfl,B5⟩
 refine⟨_,rfl,?_,below_trans (below_trans C3 B4) B5⟩
 rw [bytesEq_iff]
 simp
end
theorem SegmentWords_ok{w:World}(T:Tabs w)(a:Option Addr)(cs:List Col)(c:Nat)(g:GL w colC colQ a cs c)(_y:c*Tryz.prog.bytesOf ty.api_Column≤reachBytes)(a2:Option Addr)(ps:List RowP)(c2:Nat)(g2:GL w rwC (RowQ w) a2 ps c2)(_y2:c2*Tryz.prog.bytesOf ty.api_Row≤reachBytes) :
  Calls Tryz.prog f.law09_SegmentWords #[.slice a cs.length c,.slice a2 ps.length c2] w (Ret fun r w'=>r=.bool true∧Below w.heap.size w w'):=by
 obtain⟨h1,h2,h3⟩:=cols_arg g
 obtain⟨h4,h5,h6,_⟩:=rows_arg g2
 exact SegmentWords_core T h1 h2 h3 h4 h5 h6
end Go.Proofs.YtipgnehlihmdhaaGreatDoor
