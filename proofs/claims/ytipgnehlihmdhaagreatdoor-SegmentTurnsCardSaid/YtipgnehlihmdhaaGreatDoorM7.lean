/-
  Texts of this claim, laid one behind the other by a program of mine (install.py): S.Seg8, S.Seg9, S.Seg10, S.Seg11, S.Seg12, S.SegEnv, S.Seg13, S.Seg14, S.Seg15, S.SegArg, S.Seg16, S.Seg17, S.Seg18.
-/
import Derived.Test.YtipgnehlihmdhaaGreatDoorM6
import Derived.Test.YtipgnehlihmdhaaGreatDoorM1
import Derived.Test.YtipgnehlihmdhaaGreatDoorRows
namespace Go.Proofs.YtipgnehlihmdhaaGreatDoor
set_option maxRecDepth 100000
open Go.Dn Go.Proofs
open Go.RowKit (Below)
set_option linter.unusedVariables false
def zonC(q:RowP):List Value:=(zC (nullsN q.2.2:Int) (zmm q.2.2)).toList
structure ColsAt(w:World)(p:Addr)(cs:List Col)(cps:List RowP)(n:Nat):Prop where
 cols:∃ a c,w.cell? p=some (.slice a cs.length c)∧Rd w a (colsL cs)
 vals:∃ a c,w.cell? (p.add 1)=some (.slice a cps.length c)∧RowsAt w a cps
 zones:∃ a c,w.cell? (p.add 2)=some (.slice a cps.length c)∧Rd w a (cps.flatMap zonC)
 many:w.cell? (p.add 3)=some (.int .i64 (n:Int))
 right:rightCols cs=true
 len:cps.length=cs.length
 small:n≤1024
 each:∀ q∈cps,q.2.2.length=n∧∃ k,Good1 k q.2.2
structure PreIs(cs:List Col)(rows:List (List Val))(xs:List (List UInt8))(b:List UInt8):Prop where
 ok:SegOk cs rows
 chs:ChsIs cs rows xs
 len:xs.length=cs.length
 eq:b=preL cs rows xs
theorem PreIs.split{cs:List Col}{rows:List (List Val)}{xs:List (List UInt8)}{b:List UInt8}(h:PreIs cs rows xs b):8≤b.length∧accN (b.drop (b.length-4)) 4=(footL cs rows xs).length∧(footL cs rows xs).length≤b.length-8 ∧
  ((b.take (b.length-4)).drop (b.length-4-(footL cs rows xs).length))=footL cs rows xs∧((b.take (b.length-4-(footL cs rows xs).length)).drop 4)=xs.flatten:=by
 have hf:=h.chs.footLen h.ok
 obtain⟨ft,hft⟩:∃ ft,ft=footL cs rows xs:=⟨_,rfl⟩
 have e:=h.eq
 unfold preL at e
 rw [← hft] at e hf ⊢
 have hm:magicB.length=4:=rfl
 have hlo:(lowB ft.length).length=4:=rfl
 have hl:b.length=4+xs.flatten.length+ft.length+4:=by rw [e];simp only [List.length_append,hm,hlo]
 have e1:b.length-4=(magicB++xs.flatten++ft).length:=by simp only [List.length_append,hm];omega
 have e2:b.length-4-ft.length=(magicB++xs.flatten).length:=by simp only [List.length_append,hm];omega
 refine⟨by omega,?_,by omega,?_,?_⟩
 ·rw [e1,e,List.drop_left]
  exact accN_low _ (by omega)
 ·rw [e2,e1,e,List.take_left,List.drop_left]
 ·rw [e2,e,List.append_assoc (magicB++xs.flatten),List.take_left,show 4=magicB.length from rfl,List.drop_left]
def ColV(b:List UInt8)(w w':World)(v:Value):Prop :=
 Below w.heap.size w w'∧((∃ p cs cps n,v=.tuple #[.pointer (some p),.bool true]∧ColsAt w' p cs cps n∧∀ cs' rows' xs',PreIs cs' rows' xs' b→cs=cs'∧n=rows'.length∧rws cps=(List.range cs'.length).map (colOf rows')) ∨
  (v=.tuple #[.pointer none,.bool false]∧∀ cs' rows' xs',¬ PreIs cs' rows' xs' b))
theorem tVV:slT Tryz.prog ty.L_L_api_Value=some (ty.L_api_Value,1,24,.slice none 0 0):=by kernel_rfl
theorem tZZ:slT Tryz.prog ty.L_api_Zone=some (ty.api_Zone,7,72,.agg #[.int .i64 0,.int .i64 0,.int .i64 0,.string ⟨#[]⟩,.int .i64 0,.int .i64 0,.string ⟨#[]⟩]):=by kernel_rfl
def topI(a:Option Addr)(c:Nat)(cps:List RowP):It:=It.row ty.L_api_Value 1 a cps.length c (cps.map rowV1)
def zonI(a:Option Addr)(c:Nat)(cps:List RowP):It:=It.row ty.api_Zone 7 a cps.length c (cps.flatMap zonC)
section
variable {w0 w:World}{H:List It}{a:Option Addr}{c:Nat}{cps:List RowP}
theorem stAppT(S:ST w0 w H)(n:Nat)(hn:H[n]?=some (topI a c cps)){x:RowP}{b:Nat}(hs:Rd w (some ⟨b,0,none⟩) [rowV1 x])(hl:cps.length+1≤1000000){f:Value→World→Prop}
  (hf:∀ a' c' w',ST w0 w' (H.set n (topI a' c' (cps++[x])))→f (.slice a' (cps++[x]).length c') w') :
  OPR Tryz.prog (Builtin.append_ #[ty.L_L_api_Value,ty.L_L_api_Value] ty.L_L_api_Value #[.slice a cps.length c,.slice (some ⟨b,0,none⟩) 1 1]) f w:=by
 refine S.app n hn tVV rfl (by omega) (by omega) hs (mm:=1) rfl (by simp [rowV1];rfl) (by omega) fun a' c' w' S'=>?_
 have e1:(cps++[x]).length=cps.length+1:=by simp
 have e2:cps.map rowV1++[rowV1 x]=(cps++[x]).map rowV1:=by simp
 rw [e2] at S'
 have:=hf a' c' w' (by unfold topI;rw [e1];exact S')
 rwa [e1] at this
theorem stAppZ(S:ST w0 w H)(n:Nat)(hn:H[n]?=some (zonI a c cps)){x:RowP}{b:Nat}(hs:Rd w (some ⟨b,0,none⟩) (zonC x))(hl:cps.length+1≤1000000){f:Value→World→Prop}
  (hf:∀ a' c' w',ST w0 w' (H.set n (zonI a' c' (cps++[x])))→f (.slice a' (cps++[x]).length c') w') :
  OPR Tryz.prog (Builtin.append_ #[ty.L_api_Zone,ty.L_api_Zone] ty.L_api_Zone #[.slice a cps.length c,.slice (some ⟨b,0,none⟩) 1 1]) f w:=by
 refine S.app n hn tZZ rfl (by omega) (by omega) hs (mm:=1) rfl (by simp [zonC,zC];exact⟨rfl,rfl,rfl,rfl,rfl,rfl,rfl⟩) (by omega) fun a' c' w' S'=>?_
 have e1:(cps++[x]).length=cps.length+1:=by simp
 have e2:cps.flatMap zonC++zonC x=(cps++[x]).flatMap zonC:=by simp
 rw [e2] at S'
 have:=hf a' c' w' (by unfold zonI;rw [e1];exact S')
 rwa [e1] at this
end
theorem takeSch_right{l:List UInt8}{at_:Int}{r:List Col × Nat}(h:takeSch l at_=some r):rightCols r.1=true:=by
 unfold takeSch at h
 split at h
 ·cases h
 ·split at h
  ·cases h
  ·split at h
   ·cases h
   ·split at h
    ·rename_i hR
     cases h
     exact hR
    ·cases h
theorem SchTV.open{o:Option (List Col × Nat)}{w0 w w':World}{v:Value}{H:List It}(S:ST w0 w H)(h:SchTV o w w' v)(hr:∀ r,o=some r→rightCols r.1=true):∃(cs:List Col) (ca:Option Addr) (cc at1:Nat) (e:Int),v=.tuple #[.slice ca cs.length cc,.int .i64 (at1:Int),.int .i64 e]∧ST w0 w' (colsI ca cc cs :: H) ∧
  cs.length≤16∧((e=0∧o=some (cs,at1)∧rightCols cs=true)∨(e≠0∧o=none)):=by
 cases o with
 | none =>
  obtain⟨rfl,B⟩:=h
  exact⟨[],none,0,0,52,rfl,(S.grown B).nil _ _,by simp,.inr ⟨by decide,rfl⟩⟩
 | some r =>
  obtain⟨ca,cc,rfl,S2⟩:=h
  have hR:=hr r rfl
  exact⟨r.1,ca,cc,r.2,0,rfl,S.join S2,(right_len hR).2,.inl ⟨rfl,rfl,hR⟩⟩
theorem PlV.open{o:Option (Nat × List Nat)}{w0 w w':World}{v:Value}{H:List It}(S:ST w0 w H)(h:PlV o w w' v):∃(r:Nat) (ns:List Nat) (na:Option Addr) (nc:Nat) (ok:Bool),v=.tuple #[.int .i64 (r:Int),.slice na ns.length nc,.bool ok]∧ST w0 w' (intsI na nc ns :: H) ∧
  ((ok=true∧o=some (r,ns))∨(ok=false∧o=none)):=by
 cases o with
 | none =>
  obtain⟨rfl,B⟩:=h
  exact⟨0,[],none,0,false,rfl,(S.grown B).nil _ _,.inr ⟨rfl,rfl⟩⟩
 | some r =>
  obtain⟨na,nc,rfl,S2⟩:=h
  exact⟨r.1,r.2,na,nc,true,rfl,S.join S2,.inl ⟨rfl,rfl⟩⟩
theorem nat_at{w:World}{a:Option Addr}{ns:List Nat}(h:Rd w a (ns.map fun n:Nat=>Value.int .i64 (n:Int))){i:Nat}(hi:i<ns.length):∃ p,a=some p∧w.cell? (p.add (i*1))=some (.int .i64 (ns[i]:Int)):=by
 obtain⟨p,hp,hc⟩:=h i (.int .i64 (ns[i]:Int)) (by simp [hi])
 exact⟨p,hp,by rw [Nat.mul_one];exact hc⟩
def rdI(q:RowP):It:=It.rd q.1 (valsL q.2.2)
theorem stAddRd{w0 w w':World}{H:List It}{a:Option Addr}{xs:List Value}(S:ST w0 w H)(B:Below w.heap.size w w')(h:RdN w w' a xs):ST w0 w' (It.rd a xs :: H):=by
 refine S.add B _ h.rd fun k hk=>h.new k ?_
 cases xs with
 | nil=>cases hk
 | cons x xs=>exact hk
theorem flatten_drop{xs:List (List UInt8)}{i:Nat}(hi:i<xs.length):(xs.drop i).flatten=xs[i]++(xs.drop (i+1)).flatten:=by
 rw [List.drop_eq_getElem_cons hi,List.flatten_cons]
section
variable {w:World}{a:Option Addr}{c:Nat}{b:List UInt8}
theorem read_slices(hl:Rd w a (b.map byteV))(hc:b.length≤c){n:Nat}(h8:8≤b.length)(hn:n≤b.length-8) :
  Rd w (SLA (SLA a 0 c 1) (b.length-4-n) c 1) (((b.take (b.length-4)).drop (b.length-4-n)).map byteV)∧Rd w (SLA (SLA a 0 c 1) 4 c 1) (((b.take (b.length-4-n)).drop 4).map byteV):=by
 have h1:=hl.sla 0 (b.length-4) c 1 (by omega)
 have h2:=h1.sla (b.length-4-n) (b.length-4) c 1 (by omega)
 have h3:=h1.sla 4 (b.length-4-n) c 1 (by omega)
 simp only [Nat.mul_one,List.drop_zero,Nat.sub_zero] at h2 h3
 constructor
 ·rw [← List.map_take,← List.map_drop,← List.map_take] at h2
  have e:((b.take (b.length-4)).drop (b.length-4-n)).take (b.length-4-(b.length-4-n))=(b.take (b.length-4)).drop (b.length-4-n):=List.take_of_length_le (by rw [List.length_drop,List.length_take];omega)
  rw [e] at h2
  exact h2
 ·rw [← List.map_take,← List.map_drop,← List.map_take] at h3
  have e:((b.take (b.length-4)).drop 4).take (b.length-4-n-4)=(b.take (b.length-4-n)).drop 4:=by
   rw [List.drop_take,List.drop_take,List.take_take]
   congr 1
   omega
  rw [e] at h3
  exact h3
theorem segment_read_ok(hl:Rd w a (b.map byteV))(hc:b.length≤c)(hs:b.length≤140737488355328)(h8:8≤b.length) :
  Calls Tryz.prog f.segment_read #[.slice a b.length c] w (Ret fun v w'=>ColV b w w' v):=by
 apply R.segment_read_calls
 unfold R.segment_read
 have eW:IntKind.i64.wrap ((b.length:Int)-4)=((b.length-4:Nat):Int):=by rw [wrap_i64 (by omega) (by omega)];omega
 rw [eW]
 simp only [Int.toNat_natCast,Nat.sub_zero]
 obtain⟨t,ht⟩:∃ t,t=b.drop (b.length-4):=⟨_,rfl⟩
 have htl:t.length=4:=by rw [ht,List.length_drop];omega
 have hrt:Rd w (SLA a (b.length-4) c 1) (t.map byteV):=by
  have h:=hl.sla (b.length-4) b.length c 1 hc
  simp only [Nat.mul_one] at h
  rw [← List.map_drop,← List.map_take] at h
  rw [ht]
  have e:(b.drop (b.length-4)).take (b.length-(b.length-4))=b.drop (b.length-4):=List.take_of_length_le (by rw [List.length_drop];omega)
  rwa [e] at h
 refine (ST.start w).newB fun b2 w1 _ _ S=>S.sto 0 rfl (cs':=#[.int .i64 0]) (by simp) rfl fun w2 S=>⟨⟨by omega,by omega,by omega⟩,?_⟩
 have hB:=Backward_ok (w:=w2) (a:=SLA a (b.length-4) c 1) (c:=c-(b.length-4)) (l:=t)
 rw [show b.length-(b.length-4)=t.length by omega]
 refine hB.mono ?_
 rintro _ w3 ⟨_,rfl,bq,rfl,P⟩
 have S:=S.join P
 refine⟨_,_,_,rfl,by kernel_rfl,fun rr hst hpe hy=>?_⟩
 have S:=S.range rr
 obtain⟨L,hL⟩:∃ L,L=w3.heap.size+1:=⟨_,rfl⟩
 obtain⟨d,hd⟩:∃ d,d=w3.heap.size:=⟨_,rfl⟩
 rw [← hL] at S hy ⊢
 rw [← hd] at S ⊢
 let J:Nat→World→Prop:=fun k wx=>ST w wx [It.obj L (.loop rr),It.obj d (.deferred (some [])),It.cells bq #[.slice (SLA a (b.length-4) c 1) t.length (c-(b.length-4))] ty.L_uint8,It.cells b2 #[.int .i64 (accN t k:Int)] ty.int]
 have hcall:=backward_c1_ok (w:=(w3.alloc (.deferred (some []))).alloc (.loop rr)) (a:=SLA a (b.length-4) c 1) (c:=c-(b.length-4)) (l:=t) (L:=L) (b:=bq) (by omega) J (fun k wx (hj:ST w wx _)=>⟨hrt.grown hj.bel,hj.cell 2 rfl rfl⟩) (by
  rintro k wx hk (S:ST w wx _)
  have h1:=accN_lt (l:=t) k (by omega)
  have h2:256 ^ k≤256 ^ 3:=Nat.pow_le_pow_right (by omega) (by omega)
  have h3:(256:Nat) ^ 3=16777216:=by decide
  refine hy _ _ _ wx (S.get 0 rfl) ?_
  refine S.begr 0 rfl fun w5 S=>⟨_,S.cell 3 rfl rfl,?_⟩
  rw [or_byte (by omega) ((t[t.length-1-k]'(by omega)).toNat_lt)]
  rw [← accN_succ hk]
  exact S.sto 3 rfl (cs':=#[.int .i64 (accN t (k+1):Int)]) (by simp) rfl fun w6 S=>S.endr0 0 hst hpe rfl fun w7 S=>⟨rfl,S⟩) S
 refine hcall.mono ?_
 rw [htl]
 rintro _ w7 ⟨_,rfl,S⟩
 obtain⟨n,hn⟩:∃ n,n=accN t 4:=⟨_,rfl⟩
 have S:ST w w7 [It.obj L (.loop rr),It.obj d (.deferred (some [])),It.cells bq #[.slice (SLA a (b.length-4) c 1) t.length (c-(b.length-4))] ty.L_uint8,It.cells b2 #[.int .i64 (n:Int)] ty.int]:=by rw [hn];exact S
 have hnlt:n<4294967296:=by rw [hn];exact accN_lt (l:=t) 4 (by omega)
 have hsp:∀ cs rows xs,PreIs cs rows xs b→n=(footL cs rows xs).length:=fun cs rows xs h=>by rw [hn,ht];exact h.split.2.1
 refine⟨⟨_,rfl⟩,S.endl0 0 hst hpe rfl fun w8 S=>⟨rfl,⟨by omega,by omega,by omega⟩,_,S.cell 3 rfl rfl,?_⟩⟩
 have eW2:IntKind.i64.wrap (((b.length-4:Nat):Int)-4)=((b.length-8:Nat):Int):=by rw [wrap_i64 (by omega) (by omega)];omega
 have bad:∀ {wx:World} {H:List It},ST w wx (It.obj d (.deferred (some [])) :: H)→(∀ cs' rows' xs',¬ PreIs cs' rows' xs' b)→wx.heap[d]?=some (.deferred (some []))∧ColV b w (wx.putObj d (.deferred none)) (.tuple #[.pointer none,.bool false]):=fun S h=>⟨S.get 0 rfl,(S.put 0 rfl _).bel,.inr ⟨rfl,h⟩⟩
 refine IFB_dec (fun h=>bad (S.drop 1) fun cs rows xs hP=>?_) (fun hle=>?_)
 ·have:=hP.split.2.2.1
  have:=hsp cs rows xs hP
  rw [eW2] at h
  omega
 rw [eW2] at hle
 have hnb:n≤b.length-8:=by omega
 refine S.draw fun w9 _ S=>⟨_,S.cell 3 rfl rfl,?_⟩
 have eW3:IntKind.i64.wrap (((b.length-4:Nat):Int)-(n:Int))=((b.length-4-n:Nat):Int):=by rw [wrap_i64 (by omega) (by omega)];omega
 rw [eW3]
 simp only [Int.toNat_natCast]
 refine⟨⟨by omega,by omega,by omega⟩,_,S.cell 3 rfl rfl,?_⟩
 rw [eW3]
 simp only [Int.toNat_natCast]
 refine⟨⟨by omega,by omega,by omega⟩,?_⟩
 obtain⟨hrf,hrb⟩:=read_slices hl hc h8 hnb
 obtain⟨ft,hft⟩:∃ ft,ft=(b.take (b.length-4)).drop (b.length-4-n):=⟨_,rfl⟩
 obtain⟨bd,hbd⟩:∃ bd,bd=(b.take (b.length-4-n)).drop 4:=⟨_,rfl⟩
 rw [← hft] at hrf
 rw [← hbd] at hrb
 obtain⟨fa,hfa⟩:∃ fa,fa=SLA (SLA a 0 c 1) (b.length-4-n) c 1:=⟨_,rfl⟩
 obtain⟨ba,hba⟩:∃ ba,ba=SLA (SLA a 0 c 1) 4 c 1:=⟨_,rfl⟩
 rw [← hfa] at hrf ⊢
 rw [← hba] at hrb ⊢
 have hftl:ft.length=b.length-4-(b.length-4-n):=by rw [hft,List.length_drop,List.length_take];omega
 have hbdl:bd.length=b.length-4-n-4:=by rw [hbd,List.length_drop,List.length_take];omega
 rw [← hftl,← hbdl]
 have hP1:∀ cs rows xs,PreIs cs rows xs b→ft=footL cs rows xs∧bd=xs.flatten:=fun cs rows xs hP=>by
  have e:=hsp cs rows xs hP
  have:=hP.split.2.2.2
  rw [← e] at this
  exact⟨by rw [hft];exact this.1,by rw [hbd];exact this.2⟩
 have hT:=schema_Take_ok (c:=c-(b.length-4-n)) (hrf.grown S.bel) (by omega) (by omega) 0
 refine hT.mono ?_
 rintro _ w10 ⟨_,rfl,hT⟩
 obtain⟨cs,ca,cc,at1,e,rfl,S,hcl,hcs⟩:=hT.open S (fun r h=>takeSch_right h)
 refine⟨_,_,_,_,_,rfl,(segment_places_ok (c:=c-(b.length-4-n)) (hrf.grown S.bel) (by omega) (by omega) (at1:Int) cs.length (by omega)).mono ?_⟩
 rintro _ w11 ⟨_,rfl,hPl⟩
 obtain⟨r,ns,na,nc,ok,rfl,S,hns⟩:=hPl.open S
 refine⟨_,_,_,_,_,rfl,IFB_ne (fun h=>bad (S.drop 3) fun cs' rows xs hP=>?_) (fun he=>IFB_not (IFB_of (fun hok=>?_) (fun hok=>bad (S.drop 3) fun cs' rows xs hP=>?_)))⟩
 ·have h2:=foot_sch (xs:=xs) hP.ok
  rw [← (hP1 cs' rows xs hP).1] at h2
  rcases hcs with ⟨h3,_⟩ | ⟨_,h3⟩
  ·exact h h3
  ·rw [h2] at h3;cases h3
 rotate_left
 ·have h2:=foot_sch (xs:=xs) hP.ok
  rw [← (hP1 cs' rows xs hP).1] at h2
  rcases hcs with ⟨_,h3,_⟩ | ⟨h3,_⟩
  ·rw [h2] at h3
   have h4:=Option.some.inj h3
   obtain rfl:cs'=cs:=congrArg Prod.fst h4
   obtain rfl:(schL cs').length=at1:=congrArg Prod.snd h4
   have h5:=foot_pl (lim:=1073741824) (by omega) hP.ok hP.chs hP.len
   rw [← (hP1 cs' rows xs hP).1] at h5
   rcases hns with ⟨h6,_⟩ | ⟨_,h6⟩
   ·rw [hok] at h6;cases h6
   ·rw [h5] at h6;cases h6
  ·exact h3 he
 have hcs':takeSch ft 0=some (cs,at1)∧rightCols cs=true:=by
  rcases hcs with ⟨_,h3⟩ | ⟨h3,_⟩
  ·exact h3
  ·exact absurd he h3
 have hns':takePl 1073741824 ft (at1:Int) cs.length=some (r,ns):=by
  rcases hns with ⟨_,h6⟩ | ⟨h6,_⟩
  ·exact h6
  ·rw [hok] at h6;cases h6
 obtain⟨hnl,hr24⟩:=takePl_len hns'
 simp only at hnl hr24
 have key:∀ cs' rows xs,PreIs cs' rows xs b→cs=cs'∧r=rows.length∧ns=xs.map List.length∧bd=xs.flatten:=fun cs' rows xs hP=>by
  have h2:=foot_sch (xs:=xs) hP.ok
  rw [← (hP1 cs' rows xs hP).1,hcs'.1] at h2
  have h4:=Option.some.inj h2
  obtain rfl:cs=cs':=congrArg Prod.fst h4
  obtain rfl:at1=(schL cs).length:=congrArg Prod.snd h4
  have h5:=foot_pl (lim:=1073741824) (by omega) hP.ok hP.chs hP.len
  rw [← (hP1 cs rows xs hP).1,hns'] at h5
  have h6:=Option.some.inj h5
  exact⟨rfl,congrArg Prod.fst h6,congrArg Prod.snd h6,(hP1 cs rows xs hP).2⟩
 refine S.newB fun b21 w12 _ _ S=>?_
 have S:=((S.nil ty.api_Zone 7).nil ty.L_api_Value 1).pull 2 rfl
 obtain⟨oL,hoL⟩:∃ oL,oL=Obj.loop { rr with state:=.exhausted,pending:=none }:=⟨_,rfl⟩
 let Hq:Option Addr→Nat→Option Addr→Nat→List RowP→List It:=fun va vc za zc cps=>It.cells b21 #[.slice ca cs.length cc,.slice va cps.length vc,.slice za cps.length zc,.int .i64 (r:Int)] ty.segment_columns :: topI va vc cps :: zonI za zc cps :: intsI na nc ns :: colsI ca cc cs ::
  It.obj L oL :: It.obj d (.deferred (some [])) :: It.cells bq #[.slice (SLA a (b.length-4) c 1) t.length (c-(b.length-4))] ty.L_uint8 :: It.cells b2 #[.int .i64 (n:Int)] ty.int :: cps.reverse.map rdI
 let Inv:List Value→World→Prop:=fun s wx=>∃(i:Nat) (rest:List UInt8) (ra:Option Addr) (rc:Nat) (cps:List RowP) (va:Option Addr) (vc:Nat) (za:Option Addr) (zc:Nat),s=[.slice ra rest.length rc,.int .i64 (i:Int)]∧i≤ns.length∧cps.length=i∧rest.length≤rc∧rest.length≤b.length∧Rd w ra (rest.map byteV) ∧
  (∀ q∈cps,q.2.2.length=r∧∃ k,Good1 k q.2.2)∧(∀ cs' rows xs,PreIs cs' rows xs b→rest=(xs.drop i).flatten∧rws cps=(List.range i).map (colOf rows))∧ST w wx (Hq va vc za zc cps)
 let Mu:List Value→World→Nat:=fun s _=>match s with
   | [_,.int _ i]=>ns.length-i.toNat
   | _=>0
 refine⟨Inv,Mu,⟨0,bd,ba,c-4,[],none,0,none,0,rfl,by omega,rfl,by omega,by omega,hrb,by simp,fun cs' rows xs hP=>⟨by rw [(key cs' rows xs hP).2.2.2];rfl,rfl⟩,by simp only [Hq];rw [hoL];exact S⟩,?_⟩
 rintro ra _ rc _ w13 ⟨i,rest,_,_,cps,va,vc,za,zc,hst,hi,hcpl,hrc,hrl,hR,hgood,hrel,S⟩
 cases hst
 refine IFB_dec (fun hlt=>⟨⟨by omega,hlt⟩,?_⟩) (fun hge=>?_)
 ·have hil:i<ns.length:=by omega
  have hN:Rd w13 na (ns.map fun n:Nat=>Value.int .i64 (n:Int)):=S.rd 3 rfl
  obtain⟨pn,hpn,hcn⟩:=nat_at hN hil
  rw [hpn]
  have hxi:∀ cs' rows xs,PreIs cs' rows xs b→∃ hx:i<xs.length,ns[i]=xs[i].length∧rest=xs[i]++(xs.drop (i+1)).flatten:=fun cs' rows xs hP=>by
   have h1:=(key cs' rows xs hP).2.2.1
   have hx:i<xs.length:=by rw [h1,List.length_map] at hil;exact hil
   refine⟨hx,?_,by rw [(hrel cs' rows xs hP).1,flatten_drop hx]⟩
   simp [h1]
  refine⟨_,by rw [Int.toNat_natCast];exact hcn,IFB_dec (fun h=>bad (S.pull 6 rfl) fun cs' rows xs hP=>?_) (fun hfit=>?_)⟩
  ·obtain⟨hx,h1,h2⟩:=hxi cs' rows xs hP
   have:=congrArg List.length h2
   rw [List.length_append] at this
   omega
  have hfit':ns[i]≤rest.length:=by omega
  simp only [Int.toNat_natCast]
  refine⟨⟨by omega,by omega,by omega⟩,?_⟩
  have hsl:Rd w (SLA ra 0 rc 1) ((rest.take ns[i]).map byteV):=by
   have h:=hR.sla 0 ns[i] rc 1 (by omega)
   simp only [Nat.mul_one,List.drop_zero,Nat.sub_zero] at h
   rw [← List.map_take] at h
   exact h
  have hsr:Rd w (SLA ra ns[i] rc 1) ((rest.drop ns[i]).map byteV):=by
   have h:=hR.sla ns[i] rest.length rc 1 hrc
   simp only [Nat.mul_one] at h
   rw [← List.map_drop,← List.map_take] at h
   have e:(rest.drop ns[i]).take (rest.length-ns[i])=rest.drop ns[i]:=List.take_of_length_le (by rw [List.length_drop];omega)
   rwa [e] at h
  have htl2:(rest.take ns[i]).length=ns[i]:=by rw [List.length_take];omega
  have hD:=chunk_Decode_ok (c:=rc) (hsl.grown S.bel) (by omega) (by omega)
  rw [htl2] at hD
  refine hD.mono ?_
  rintro _ w14 ⟨_,rfl,K,ls,la,lc,e,rfl,hRd,B14,hll,hcase⟩
  have S:=stAddRd S B14 hRd
  have hdec:∀ cs' rows xs,PreIs cs' rows xs b→e=0∧ls=colOf rows i:=fun cs' rows xs hP=>by
   obtain⟨hx,h1,h2⟩:=hxi cs' rows xs hP
   have hxc:i<cs'.length:=by have:=hP.len;omega
   have h3:rest.take ns[i]=xs[i]:=by rw [h1,h2,List.take_left]
   have h4:=hP.chs.each i hxc hx
   rw [← h3] at h4
   rcases hcase with ⟨_,_,he,hu⟩ | ⟨hno,_⟩
   ·exact⟨he,((hu _ _ (hP.ok.good hxc) h4).2).symm⟩
   ·exact absurd h4 (hno _ _ (hP.ok.good hxc))
  refine⟨_,_,_,_,_,rfl,IFB_ne (fun h=>bad (S.pull 7 rfl) fun cs' rows xs hP=>h (hdec cs' rows xs hP).1) (fun he=>IFB_ne (fun h=>bad (S.pull 7 rfl) fun cs' rows xs hP=>?_) (fun hlr=>?_))⟩
  ·apply h
   rw [(hdec cs' rows xs hP).2,colOf_len,(key cs' rows xs hP).2.1]
  obtain⟨hg,hC⟩:Good1 K ls∧True:=by
   rcases hcase with ⟨hg,_⟩ | ⟨_,_,_,h80⟩
   ·exact⟨hg,trivial⟩
   ·omega
  refine (chunk_Zone_ok (c:=lc) (S.ok (It.rd la (valsL ls)) (by simp))).mono ?_
  rintro _ w15 ⟨_,rfl,hzv,B15⟩
  rcases hzv with ⟨_,rfl⟩ | ⟨hno,_⟩
  case inr=>exact absurd hg.zoneOk hno
  have S:=S.grown B15
  obtain⟨q,hq⟩:∃ q:RowP,q=(la,lc,ls):=⟨_,rfl⟩
  refine⟨_,_,_,_,_,_,_,_,rfl,S.newB fun b40 w16 _ _ S=>S.sto7 0 rfl fun w23 S=>S.draw fun w24 _ S=>⟨⟨by omega,by omega,by omega⟩,_,_,_,S.cell 2 rfl rfl,_,_,_,S.cell 2 rfl rfl,_,S.cell 0 rfl rfl,_,S.cell 0 rfl rfl,_,S.cell 0 rfl rfl,_,S.cell 0 rfl rfl,_,S.cell 0 rfl rfl,_,S.cell 0 rfl rfl,_,S.cell 0 rfl rfl,?_⟩⟩
  have hcl1:cps.length+1≤1000000:=by omega
  have fin:∀(wx:World) (x0 x1 x2:It) (va':Option Addr) (vc':Nat) (za':Option Addr) (zc':Nat),ST w wx (x0 :: x1 :: x2 :: It.rd la (valsL ls) :: It.cells b21 #[.slice ca cs.length cc,.slice va cps.length vc,.slice za cps.length zc,.int .i64 (r:Int)] ty.segment_columns :: topI va' vc' (cps++[q]) :: zonI za' zc' (cps++[q]) :: intsI na nc ns :: colsI ca cc cs ::
     It.obj L oL :: It.obj d (.deferred (some [])) :: It.cells bq #[.slice (SLA a (b.length-4) c 1) t.length (c-(b.length-4))] ty.L_uint8 :: It.cells b2 #[.int .i64 (n:Int)] ty.int :: cps.reverse.map rdI) →
    STO ⟨b21,1,none⟩ (.slice va' (cps++[q]).length vc') (fun w29=>STO ⟨b21,2,none⟩ (.slice za' (cps++[q]).length zc') (fun w30=>Inv [.slice (SLA ra ns[i] rc 1) (rest.length-ns[i]) (rc-ns[i]),.int .i64 (IntKind.i64.wrap ((i:Int)+1))] w30 ∧
     Mu [.slice (SLA ra ns[i] rc 1) (rest.length-ns[i]) (rc-ns[i]),.int .i64 (IntKind.i64.wrap ((i:Int)+1))] w30<Mu [.slice ra rest.length rc,.int .i64 (i:Int)] w13) w29) wx:=by
   intro wx x0 x1 x2 va' vc' za' zc' S
   refine S.sto 4 rfl (cs':=#[.slice ca cs.length cc,.slice va' (cps++[q]).length vc',.slice za cps.length zc,.int .i64 (r:Int)]) (by simp) rfl fun w29 S=>S.sto 4 rfl (cs':=#[.slice ca cs.length cc,.slice va' (cps++[q]).length vc',.slice za' (cps++[q]).length zc',.int .i64 (r:Int)]) (by simp) rfl fun w30 S=>?_
   rw [wrap_succ (by omega)]
   have hdl:(rest.drop ns[i]).length=rest.length-ns[i]:=List.length_drop
   refine⟨⟨i+1,rest.drop ns[i],SLA ra ns[i] rc 1,rc-ns[i],cps++[q],va',vc',za',zc',by rw [hdl],by omega,by simp [hcpl],by omega,by omega,hsr,fun q' hq'=>?_,fun cs' rows xs hP=>?_,?_⟩,?_⟩
   ·rcases List.mem_append.1 hq' with h | h
    ·exact hgood q' h
    ·rw [List.mem_singleton.1 h,hq]
     exact⟨by show ls.length=r;omega,K,hg⟩
   ·obtain⟨hx,h1,h2⟩:=hxi cs' rows xs hP
    refine⟨by rw [h2,h1,List.drop_left],?_⟩
    rw [rws,List.map_append,List.range_succ,List.map_append]
    have:=(hrel cs' rows xs hP).2
    rw [rws] at this
    rw [this]
    simp [hq,(hdec cs' rows xs hP).2]
   ·have S3:=S.drop 3
    show ST w w30 (Hq va' vc' za' zc' (cps++[q]))
    have e:(cps++[q]).reverse.map rdI=It.rd la (valsL ls) :: cps.reverse.map rdI:=by
     rw [List.reverse_append,List.map_append,hq]
     rfl
    simp only [Hq]
    rw [e]
    exact S3.perm (List.perm_middle (l₁:=[It.cells b21 #[.slice ca cs.length cc,.slice va' (cps++[q]).length vc',.slice za' (cps++[q]).length zc',.int .i64 (r:Int)] ty.segment_columns,topI va' vc' (cps++[q]),zonI za' zc' (cps++[q]),intsI na nc ns,colsI ca cc cs,It.obj L oL,It.obj d (.deferred (some [])),It.cells bq #[.slice (SLA a (b.length-4) c 1) t.length (c-(b.length-4))] ty.L_uint8,It.cells b2 #[.int .i64 (n:Int)] ty.int])).symm
   ·show ns.length-((i+1:Nat):Int).toNat<ns.length-((i:Nat):Int).toNat
    simp only [Int.toNat_natCast]
    omega
  have hrv:rowV1 q=.slice la ls.length lc:=by rw [hq];rfl
  have hzc:zonC q=(zC (nullsN ls:Int) (zmm ls)).toList:=by rw [hq];rfl
  refine⟨S.newB fun b50 w25 _ _ S=>⟨⟨S.cell 1 rfl rfl,S.cell 1 rfl rfl,S.cell 1 rfl rfl,S.cell 1 rfl rfl,S.cell 1 rfl rfl,S.cell 1 rfl rfl,S.cell 1 rfl rfl⟩,S.cell 3 rfl rfl,S.cell 3 rfl rfl,?_,?_⟩,S.newB fun b61 w36 _ _ S=>⟨S.cell 3 rfl rfl,S.cell 3 rfl rfl,S.newB fun b62 w37 _ _ S=>⟨S.cell 4 rfl rfl,S.cell 4 rfl rfl,?_⟩⟩⟩
  ·have hs1:Rd w25 (some ⟨b50,0,none⟩) [rowV1 q]:=by rw [hrv];exact S.rdc 0 rfl
   refine stAppT S 4 rfl hs1 hcl1 fun va' vc' w26 S=>⟨_,_,_,rfl,⟨S.cell 1 rfl rfl,S.cell 1 rfl rfl,S.cell 1 rfl rfl,S.cell 1 rfl rfl,S.cell 1 rfl rfl,S.cell 1 rfl rfl,S.cell 1 rfl rfl⟩,S.cell 3 rfl rfl,S.newB fun b53 w27 _ _ S=>⟨S.cell 4 rfl rfl,?_⟩⟩
   have hs2:Rd w27 (some ⟨b53,0,none⟩) (zonC q):=by rw [hzc];exact S.rdc 0 rfl
   exact stAppZ S 6 rfl hs2 hcl1 fun za' zc' w28 S=>⟨_,_,_,rfl,fin w28 _ _ _ va' vc' za' zc' S⟩
  ·refine S.newB fun b56 w31 _ _ S=>⟨S.cell 4 rfl rfl,S.cell 4 rfl rfl,?_⟩
   have hs1:Rd w31 (some ⟨b50,0,none⟩) [rowV1 q]:=by rw [hrv];exact S.rdc 1 rfl
   refine stAppT S 5 rfl hs1 hcl1 fun va' vc' w32 S=>⟨_,_,_,rfl,S.cell 4 rfl rfl,?_⟩
   have hs2:Rd w32 (some ⟨b56,0,none⟩) (zonC q):=by rw [hzc];exact S.rdc 0 rfl
   exact stAppZ S 6 rfl hs2 hcl1 fun za' zc' w33 S=>⟨_,_,_,rfl,fin w33 _ _ _ va' vc' za' zc' S⟩
  ·have hs1:Rd w37 (some ⟨b62,0,none⟩) [rowV1 q]:=by rw [hrv];exact S.rdc 0 rfl
   refine stAppT S 5 rfl hs1 hcl1 fun va' vc' w38 S=>⟨_,_,_,rfl,S.cell 4 rfl rfl,?_⟩
   have hs2:Rd w38 (some ⟨b61,0,none⟩) (zonC q):=by rw [hzc];exact S.rdc 1 rfl
   exact stAppZ S 6 rfl hs2 hcl1 fun za' zc' w39 S=>⟨_,_,_,rfl,fin w39 _ _ _ va' vc' za' zc' S⟩
 ·have hie:i=ns.length:=by omega
  refine⟨S.get 6 rfl,?_⟩
  have S:=S.put 6 rfl (.deferred none)
  refine⟨S.bel,.inl ⟨⟨b21,0,none⟩,cs,cps,r,rfl,⟨⟨ca,cc,S.cell 0 rfl rfl,S.rd 4 rfl⟩,⟨va,vc,S.cell 0 rfl rfl,S.rd 1 rfl,fun q hq=>?_⟩,⟨za,zc,S.cell 0 rfl rfl,S.rd 2 rfl⟩,S.cell 0 rfl rfl,hcs'.2,by omega,hr24,hgood⟩,fun cs' rows xs hP=>?_⟩⟩
  ·have hm:rdI q∈cps.reverse.map rdI:=List.mem_map.2 ⟨q,List.mem_reverse.2 hq,rfl⟩
   exact S.ok (rdI q) (List.mem_of_mem_drop (i:=9) hm)
  ·obtain⟨h1,h2,h3,h4⟩:=key cs' rows xs hP
   refine⟨h1,h2,?_⟩
   rw [(hrel cs' rows xs hP).2,hie,hnl,h1]
end
def digOk(l:List UInt8):Prop:=40≤l.length∧l.drop (l.length-32)=digP (l.take (l.length-32))
theorem SegIs.pre{cs:List Col}{rows:List (List Val)}{l:List UInt8}(hs:SegOk cs rows)(h:SegIs cs rows l):∃ xs,PreIs cs rows xs (l.take (l.length-32))∧digOk l:=by
 obtain⟨xs,h1,h2,rfl⟩:=h.ex
 have h8:8≤(preL cs rows xs).length:=(PreIs.split ⟨hs,h2,h1,rfl⟩).1
 obtain⟨dg,hdg⟩:∃ dg,dg=digP (preL cs rows xs):=⟨_,rfl⟩
 have hdl:dg.length=32:=by rw [hdg];exact digP_len _
 have e:(sealD (preL cs rows xs)).length-32=(preL cs rows xs).length:=by
  unfold sealD
  rw [← hdg,List.length_append,hdl]
  omega
 have e2:(sealD (preL cs rows xs)).take ((sealD (preL cs rows xs)).length-32)=preL cs rows xs:=by
  rw [e]
  unfold sealD
  rw [← hdg,List.take_left]
 refine⟨xs,⟨hs,h2,h1,e2⟩,?_,?_⟩
 ·unfold sealD
  rw [← hdg,List.length_append,hdl]
  omega
 ·rw [e2,e]
  unfold sealD
  rw [← hdg,List.drop_left,hdg]
theorem rowsOf_cols{cs:List Col}{rows:List (List Val)}(h:∀ r∈rows,r.length=cs.length):rowsOf ((List.range cs.length).map (colOf rows)) rows.length=rows:=by
 refine List.ext_getElem (by simp [rowsOf]) fun i h1 h2=>?_
 simp only [rowsOf,List.getElem_map,List.getElem_range,rowAt,List.map_map]
 have hl:=h _ (List.getElem_mem h2)
 refine List.ext_getElem (by simp [hl]) fun j g1 g2=>?_
 simp [colOf,List.getD,h2,g2]
def OpenV(l:List UInt8)(w w':World)(v:Value):Prop :=
 Below w.heap.size w w'∧((∃ g p cs cps n,v=.tuple #[.pointer (some g),.int .i64 0]∧w'.cell? g=some (.pointer (some p))∧ColsAt w' p cs cps n∧SegOk cs (rowsOf (rws cps) n)∧SegIs cs (rowsOf (rws cps) n) l ∧
   ∀ cs' rows',SegOk cs' rows'→SegIs cs' rows' l→cs'=cs∧rows'=rowsOf (rws cps) n∧n=rows'.length∧rws cps=(List.range cs'.length).map (colOf rows')) ∨
  (v=.tuple #[.pointer none,.int .i64 91]∧¬ digOk l)∨(v=.tuple #[.pointer none,.int .i64 90]∧digOk l∧∀ cs' rows',SegOk cs' rows'→¬ SegIs cs' rows' l))
theorem ColsAt.grown{w w':World}{p:Addr}{cs:List Col}{cps:List RowP}{n:Nat}(h:ColsAt w p cs cps n)(B:Below w.heap.size w w'):ColsAt w' p cs cps n:=by
 have K:=Keeps.of_below (F:=fun _=>False) B
 obtain⟨a0,c0,h1,h2⟩:=h.cols
 obtain⟨a1,c1,h3,h4⟩:=h.vals
 obtain⟨a2,c2,h5,h6⟩:=h.zones
 exact⟨⟨a0,c0,K.cell h1 (by simp),h2.grown B⟩,⟨a1,c1,K.cell h3 (by simp),h4.grown B⟩,⟨a2,c2,K.cell h5 (by simp),h6.grown B⟩,K.cell h.many (by simp),h.right,h.len,h.small,h.each⟩
section
variable {w:World}
theorem segment_Open_ok(T:Tabs w)(s:ByteArray)(hs:s.size≤140737488355328):Calls Tryz.prog f.segment_Open #[.string s] w (Ret fun v w'=>OpenV (bl s) w w' v):=by
 apply R.segment_Open_calls
 unfold R.segment_Open
 have hbl:=bl_length s
 obtain⟨l,hl⟩:∃ l,l=bl s:=⟨_,rfl⟩
 rw [← hl] at hbl
 have hno:s.size<40→¬ digOk l:=fun h hd=>by have:=hd.1;omega
 rw [← hl]
 refine IFB_dec (fun h=>⟨.refl _ _,.inr (.inl ⟨rfl,hno (by omega)⟩)⟩) (fun h40=>?_)
 have h40':40≤l.length:=by omega
 refine bytes_of_string tbytes s w fun b0 c0 cells e0 w1 hb0 B1 hg1 hcs hsc htk=>?_
 have hr1:Rd w1 (some ⟨b0,0,none⟩) (l.map byteV):=by
  have:=(Rd.of_block0 hg1).take s.size
  rw [htk,← hl] at this
  exact this
 have eW:IntKind.i64.wrap ((s.size:Int)-32)=((l.length-32:Nat):Int):=by rw [wrap_i64 (by omega) (by omega)];omega
 refine⟨_,_,_,rfl,?_⟩
 rw [eW]
 simp only [Int.toNat_natCast,Nat.sub_zero]
 obtain⟨l1,hl1⟩:∃ l1,l1=l.take (l.length-32):=⟨_,rfl⟩
 have hl1l:l1.length=l.length-32:=by rw [hl1,List.length_take];omega
 obtain⟨a1,ha1⟩:∃ a1,a1=SLA (some ⟨b0,0,none⟩) 0 c0 1:=⟨_,rfl⟩
 have hr11:Rd w1 a1 (l1.map byteV):=by
  have h:=hr1.sla 0 (l.length-32) c0 1 (by omega)
  simp only [Nat.mul_one,List.drop_zero,Nat.sub_zero] at h
  rw [← List.map_take,← hl1,← ha1] at h
  exact h
 rw [← ha1,← hl1l]
 have S:=stAddRd (ST.start w) B1 (a:=some ⟨b0,0,none⟩) (xs:=l.map byteV) ⟨hr1,fun k hk=>by cases hk;exact Nat.le_of_eq hb0.symm⟩
 refine⟨⟨by omega,by omega,by omega⟩,S.newB fun b4 w2 _ B2 S=>?_⟩
 have hp2:Rd w2 (some ⟨b4,0,none⟩) ([(a1,c0,l1)].map partV1):=S.rdc 0 rfl
 have e2:flatB [(a1,c0,l1)]=l1:=by simp [flatB]
 refine (hash_Sum_ok (c:=1) (T.grown S.bel) [(a1,c0,l1)] hp2 (by
   intro p hp
   simp only [List.mem_cons,List.not_mem_nil,or_false] at hp
   subst hp
   exact hr11.grown B2) (by simp) (by rw [e2];omega)).mono ?_
 rw [e2]
 rintro _ w3 ⟨_,rfl,rfl,B3⟩
 have S:=S.grown B3
 have hdl:(digP l1).length=32:=digP_len _
 obtain⟨dg,hdg⟩:∃ dg,dg=digP l1:=⟨_,rfl⟩
 rw [← hdg] at hdl ⊢
 have hdm:(dg.map byteV).length=32:=by rw [List.length_map];exact hdl
 refine LIKEL_by dg hdl ⟨rfl,S.newB fun b7 w4 _ B4 S=>BIF_len hdm (S.stoAll 0 rfl hdm (bytes_one _) fun w5 S=>S.draw fun w6 _ S=>⟨⟨by omega,by omega,by omega⟩,⟨by omega,by omega,by omega⟩,?_⟩)⟩
 have hr6:Rd w6 (SLA (some ⟨b7,0,none⟩) 0 32 1) (dg.map byteV):=by
  have h:=(S.rdc 0 rfl).sla 0 32 32 1 (by omega)
  have e:(List.take ((32-0)*1) (List.drop (0*1) (dg.map byteV)))=dg.map byteV:=by
   rw [Nat.zero_mul,List.drop_zero]
   exact List.take_of_length_le (by rw [List.length_map];omega)
  have h':Rd w6 (SLA (some ⟨b7,0,none⟩) 0 32 1) (List.take ((32-0)*1) (List.drop (0*1) (dg.map byteV))):=h
  rwa [e] at h'
 refine string_of_bytes tbytes hdl.symm hr6 ⟨_,rfl,?_⟩
 have hext:s.extract l1.length s.size=sof (l.drop (l.length-32)):=by
  rw [extract_eq,← hl,hl1l]
  congr 1
  exact List.take_of_length_le (by rw [List.length_drop];omega)
 rw [hext,bytesEq_iff]
 have hdok:digOk l↔sof dg=sof (l.drop (l.length-32)):=by
  unfold digOk
  rw [← hl1,← hdg]
  constructor
  ·intro h;rw [h.2]
  ·intro h
   have:=congrArg bl h
   rw [bl_sof,bl_sof] at this
   exact⟨h40',this.symm⟩
 refine IFB_not (IFB_dec (fun hd=>⟨⟨by omega,by omega,by omega⟩,?_⟩) (fun hd=>⟨S.bel,.inr (.inl ⟨rfl,fun h=>hd (hdok.1 h)⟩)⟩))
 have hD:=hdok.2 hd
 have hr6l:Rd w6 (some ⟨b0,0,none⟩) (l.map byteV):=S.ok (It.rd (some ⟨b0,0,none⟩) (l.map byteV)) (List.mem_of_mem_drop (i:=2) (by simp))
 have hr6a:Rd w6 a1 (l1.map byteV):=by
  have h:=hr6l.sla 0 (l.length-32) c0 1 (by omega)
  simp only [Nat.mul_one,List.drop_zero,Nat.sub_zero] at h
  rw [← List.map_take,← hl1,← ha1] at h
  exact h
 refine (segment_read_ok hr6a (by omega) (by omega) (by omega)).mono ?_
 rintro _ w8 ⟨_,rfl,B8,hC⟩
 have S:=S.grown B8
 have no:(∀ cs' rows' xs',¬ PreIs cs' rows' xs' l1)→∀ cs' rows',SegOk cs' rows'→¬ SegIs cs' rows' l:=fun h cs' rows' hs' hI=>by
  obtain⟨xs,hP,_⟩:=hI.pre hs'
  rw [← hl1] at hP
  exact h _ _ _ hP
 rcases hC with ⟨p,cs,cps,n,rfl,hA,hu⟩ | ⟨rfl,hno2⟩
 ·have hu':∀ cs' rows',SegOk cs' rows'→SegIs cs' rows' l→cs'=cs∧rows'=rowsOf (rws cps) n∧n=rows'.length∧rws cps=(List.range cs'.length).map (colOf rows'):=fun cs' rows' hs' hI=>by
   obtain⟨xs,hP,_⟩:=hI.pre hs'
   rw [← hl1] at hP
   obtain⟨h1,h2,h3⟩:=hu cs' rows' xs hP
   refine⟨h1.symm,?_,h2,h3⟩
   rw [h3,h2,rowsOf_cols fun r hr=>hs'.rowLen hr]
  refine⟨_,_,rfl,IFB_not (IFB_true (S.draw fun w9 B9 S=>?_))⟩
  have hA9:=hA.grown B9
  obtain⟨ca,cc,hc1,hc2⟩:=hA9.cols
  obtain⟨va,vc,hv1,hv2⟩:=hA9.vals
  have hcl:=right_len hA.right
  have hsm:=hA.small
  refine⟨_,_,_,hc1,(all_ok hA9.many hv1 hv2 (by omega) (by have:=hA.len;omega) (fun q hq=>(hA.each q hq).1)).mono ?_⟩
  rintro _ w10 ⟨_,rfl,bo,ps,rfl,hpl,hrows,hR10,B10⟩
  have hA10:=hA9.grown B10
  have S:=S.grown B10
  have K10:=Keeps.of_below (F:=fun _=>False) B10
  refine⟨_,_,_,rfl,K10.cell hc1 (by simp),?_⟩
  have hW:=segment_Write_ok (c:=cc) (c2:=n) (T.grown S.bel) (hc2.grown B10) (by omega) (fun c hc=>by have:=(right_col hA.right hc).2.2.2;omega) hR10 (by omega) (by
   intro r hr v hv
   rw [hrows] at hr
   obtain⟨i,hi,rfl⟩:=List.mem_map.1 hr
   obtain⟨col,hcol,rfl⟩:=List.mem_map.1 hv
   obtain⟨q,hq,rfl⟩:=List.mem_map.1 hcol
   obtain⟨hql,k,hg⟩:=hA.each q hq
   have hil:i<q.2.2.length:=by have:=List.mem_range.1 hi;omega
   have e:q.2.2.getD i Z0=q.2.2[i]:=by simp [List.getD,hil]
   rw [e]
   exact hg.ok _ (List.getElem_mem hil))
  rw [hpl] at hW
  refine hW.mono ?_
  rintro _ w11 ⟨_,rfl,hV,B11⟩
  have S:=S.grown B11
  have hA11:=hA10.grown B11
  rw [hrows] at hV
  rcases hV with ⟨hnok,rfl,hE⟩ | ⟨hok,b,rfl,hI⟩
  ·refine⟨_,_,rfl,IFB_ne (fun _=>⟨S.bel,.inr (.inr ⟨rfl,hD,fun cs' rows' hs' hI=>?_⟩)⟩) (fun h=>absurd h hE)⟩
   obtain⟨rfl,rfl,_⟩:=hu' cs' rows' hs' hI
   exact hnok hs'
  ·refine⟨_,_,rfl,IFB_ne (fun h=>absurd rfl h) (fun _=>?_)⟩
   rw [bytesEq_iff]
   refine IFB_not (IFB_dec (fun he=>?_) (fun he=>⟨S.bel,.inr (.inr ⟨rfl,hD,fun cs' rows' hs' hI'=>?_⟩)⟩))
   ·have hbl2:b=l:=by have:=congrArg bl he;rwa [bl_sof,← hl] at this
    subst hbl2
    refine S.newB fun b20 w12 _ B12 S=>⟨S.bel,.inl ⟨⟨b20,0,none⟩,p,cs,cps,n,rfl,S.cell 0 rfl rfl,hA11.grown B12,hok,hI,hu'⟩⟩
   ·obtain⟨rfl,rfl,_⟩:=hu' cs' rows' hs' hI'
    exact he (by rw [hI.one hI',hl,sof_bl])
 ·exact⟨_,_,rfl,IFB_not (IFB_false ⟨S.bel,.inr (.inr ⟨rfl,hD,no hno2⟩)⟩)⟩
end
section
variable {w:World}{g p:Addr}{cs:List Col}{cps:List RowP}{n:Nat}
theorem in_ok(hg:w.cell? g=some (.pointer (some p))):Calls Tryz.prog f.segment_Segment_in #[.pointer (some g)] w (Ret fun v w'=>v=.pointer (some p)∧w'=w):=by
 apply R.segment_Segment_in_calls
 unfold R.segment_Segment_in
 exact IFB_false ⟨_,hg,rfl,rfl⟩
theorem column_ok(h:ColsAt w p cs cps n)(i:Int):Calls Tryz.prog f.segment_columns_column #[.pointer (some p),.int .i64 i] w (Ret fun v w'=>v=.int .i64 (if 0≤i∧i<cs.length then 0 else 2)∧w'=w):=by
 apply R.segment_columns_column_calls
 unfold R.segment_columns_column
 obtain⟨a,c,h1,_⟩:=h.cols
 refine IFB_false (IFB_dec (fun hi=>⟨?_,rfl⟩) (fun hi=>⟨_,_,_,h1,IFB_dec (fun hj=>⟨?_,rfl⟩) (fun hj=>⟨?_,rfl⟩)⟩))
 ·rw [if_neg (by omega)]
 ·rw [if_neg (by omega)]
 ·rw [if_pos (by omega)]
theorem Rows_ok(hg:w.cell? g=some (.pointer (some p)))(h:ColsAt w p cs cps n):Calls Tryz.prog f.segment_Segment_Rows #[.pointer (some g)] w (Ret fun v w'=>v=.int .i64 (n:Int)∧w'=w):=by
 apply R.segment_Segment_Rows_calls
 unfold R.segment_Segment_Rows
 refine (in_ok hg).mono ?_
 rintro _ w1 ⟨_,rfl,rfl,rfl⟩
 have h':Calls Tryz.prog f.segment_columns_Rows #[.pointer (some p)] w1 (Ret fun v w'=>v=.int .i64 (n:Int)∧w'=w1):=by
  apply R.segment_columns_Rows_calls
  unfold R.segment_columns_Rows
  exact IFB_false ⟨_,h.many,rfl,rfl⟩
 refine⟨_,rfl,h'.mono ?_⟩
 rintro _ w2 ⟨_,rfl,rfl,rfl⟩
 exact⟨_,rfl,rfl,rfl⟩
theorem zonC_len(q:RowP):(zonC q).length=7:=rfl
theorem zone_at{a:Option Addr}(h:Rd w a (cps.flatMap zonC)){i:Nat}(hi:i<cps.length):∃ q,a=some q∧∀ j v,j<7→(zonC cps[i])[j]?=some v→w.cell? ((q.add (i*7)).add j)=some v:=by
 obtain⟨q,hq,_⟩:=h (i*7+0) _ (by rw [flat_get zonC_len cps i 0 hi (by omega)];rfl)
 refine⟨q,hq,fun j v hj hv=>?_⟩
 obtain⟨q2,hq2,hc⟩:=h (i*7+j) v (by rw [flat_get zonC_len cps i j hi hj];exact hv)
 rw [hq] at hq2
 cases hq2
 rw [addr_add_add]
 exact hc
theorem Zone_ok(hg:w.cell? g=some (.pointer (some p)))(h:ColsAt w p cs cps n){i:Nat}(hi:i<cps.length):Calls Tryz.prog f.segment_Segment_Zone #[.pointer (some g),.int .i64 (i:Int)] w (Ret fun v w'=>v=zV (nullsN cps[i].2.2:Int) (zmm cps[i].2.2) 0∧Below w.heap.size w w'):=by
 apply R.segment_Segment_Zone_calls
 unfold R.segment_Segment_Zone
 refine (ST.start w).newB fun b3 w1 _ _ S=>?_
 have K:=Keeps.of_below (F:=fun _=>False) S.bel
 have hg1:=K.cell hg (by simp)
 have h1:=h.grown S.bel
 refine (in_ok hg1).mono ?_
 rintro _ w1 ⟨_,rfl,rfl,rfl⟩
 refine⟨_,rfl,(column_ok h1 (i:Int)).mono ?_⟩
 rintro _ w2 ⟨_,rfl,rfl,rfl⟩
 have hlen:=h.len
 rw [if_pos (by omega)]
 obtain⟨za,zc,hz1,hz2⟩:=h1.zones
 obtain⟨q,rfl,hq⟩:=zone_at hz2 hi
 have h0:=hq 0 _ (by omega) rfl
 rw [addr_add_zero] at h0
 refine⟨_,rfl,IFB_ne (fun h=>absurd rfl h) (fun _=>⟨_,hg1,_,_,_,hz1,⟨by omega,by omega⟩,_,by rw [Int.toNat_natCast];exact h0,_,by rw [Int.toNat_natCast];exact hq 1 _ (by omega) rfl,_,by rw [Int.toNat_natCast];exact hq 2 _ (by omega) rfl,_,by rw [Int.toNat_natCast];exact hq 3 _ (by omega) rfl,_,by rw [Int.toNat_natCast];exact hq 4 _ (by omega) rfl,_,by rw [Int.toNat_natCast];exact hq 5 _ (by omega) rfl,_,by rw [Int.toNat_natCast];exact hq 6 _ (by omega) rfl,
  S.sto7 0 rfl fun w10 S=>⟨_,S.cell 0 rfl rfl,_,S.cell 0 rfl rfl,_,S.cell 0 rfl rfl,_,S.cell 0 rfl rfl,_,S.cell 0 rfl rfl,_,S.cell 0 rfl rfl,_,S.cell 0 rfl rfl,rfl,S.bel⟩⟩)⟩
end
def showC:List Col:=[(⟨#[97]⟩,1,false)]
def showR:List (List Val):=[[(1,3,E0)],[(1,1,E0)]]
theorem show_ok:SegOk showC showR:=by
 refine⟨by decide,by decide,fun r hr=>?_,fun r hr v hv=>?_⟩
 ·simp only [showR,List.mem_cons,List.not_mem_nil,or_false] at hr
  rcases hr with rfl | rfl <;> decide
 ·simp only [showR,List.mem_cons,List.not_mem_nil,or_false] at hr
  rcases hr with rfl | rfl
  ·rw [List.mem_singleton.1 hv];exact valok_small (by decide) (by decide)
  ·rw [List.mem_singleton.1 hv];exact valok_small (by decide) (by decide)
theorem show_zone:zmm [((1,3,E0):Val),(1,1,E0)]=((1,1,E0),(1,3,E0)):=by decide
theorem SegIs.len{cs:List Col}{rows:List (List Val)}{b:List UInt8}(hs:SegOk cs rows)(h:SegIs cs rows b):b.length≤40000000:=by
 obtain⟨xs,h1,h2,rfl⟩:=h.ex
 have:=h2.preLen hs
 have hd:=digP_len (preL cs rows xs)
 unfold sealD
 rw [List.length_append,hd]
 omega
theorem OpenV.good{cs:List Col}{rows:List (List Val)}{l:List UInt8}{w w':World}{v:Value}(hs:SegOk cs rows)(hI:SegIs cs rows l)(h:OpenV l w w' v):∃ g p cps,v=.tuple #[.pointer (some g),.int .i64 0]∧w'.cell? g=some (.pointer (some p))∧ColsAt w' p cs cps rows.length∧rws cps=(List.range cs.length).map (colOf rows)∧Below w.heap.size w w':=by
 obtain⟨B,⟨g,p,cs2,cps,n,rfl,hg,hA,_,_,hu⟩ | ⟨_,hno⟩ | ⟨_,_,hno⟩⟩:=h
 ·obtain⟨rfl,rfl,h3,h4⟩:=hu cs rows hs hI
  refine⟨g,p,cps,rfl,hg,?_,h4,B⟩
  rw [← h3]
  exact hA
 ·obtain⟨_,_,hd⟩:=hI.pre hs
  exact absurd hd hno
 ·exact absurd hI (hno cs rows hs)
theorem shown09_ok{w:World}(T:Tabs w):Calls Tryz.prog f.law09_shown #[] w (Ret fun r w'=>r=.bool true∧Below w.heap.size w w'):=by
 apply R.law09_shown_calls
 unfold R.law09_shown
 refine (ST.start w).newB fun b1 w1 _ _ S=>S.newB fun b2 w2 _ _ S=>S.newB fun b3 w3 _ _ S=>S.newB fun b4 w4 _ _ S=>?_
 have hc:Rd w4 (some ⟨b1,0,none⟩) (colsL showC):=S.rdc 3 rfl
 have hr:RowsAt w4 (some ⟨b4,0,none⟩) [(some ⟨b2,0,none⟩,1,[(1,3,E0)]),(some ⟨b3,0,none⟩,1,[(1,1,E0)])]:=by
  refine⟨S.rdc 0 rfl,fun p hp=>?_⟩
  simp only [List.mem_cons,List.not_mem_nil,or_false] at hp
  rcases hp with rfl | rfl
  ·exact S.rdc 2 rfl
  ·exact S.rdc 1 rfl
 have hW:=segment_Write_ok (c:=1) (c2:=2) (T.grown S.bel) hc (by decide) (by
  intro c hc
  rw [List.mem_singleton.1 hc]
  decide) hr (by simp) show_ok.ok
 refine hW.mono ?_
 rintro _ w5 ⟨_,rfl,hV,B5⟩
 have S:=S.grown B5
 rcases hV with ⟨hno,_⟩ | ⟨_,b,rfl,hI⟩
 ·exact absurd show_ok hno
 have hbl:=hI.len show_ok
 refine⟨_,_,rfl,(segment_Open_ok (T.grown S.bel) (sof b) (by rw [size_sof];omega)).mono ?_⟩
 rintro _ w6 ⟨_,rfl,hO⟩
 rw [bl_sof] at hO
 obtain⟨g,p,cps,rfl,hg,hA,hcols,B6⟩:=hO.good show_ok hI
 have S:=S.grown B6
 have hcl:0<cps.length:=by rw [hA.len];decide
 have hc0:cps[0].2.2=[(1,3,E0),(1,1,E0)]:=by
  have h:(rws cps)[0]?=some [(1,3,E0),(1,1,E0)]:=by rw [hcols];rfl
  rw [rws,List.getElem?_map,List.getElem?_eq_getElem hcl] at h
  exact Option.some.inj h
 refine⟨_,_,rfl,(Zone_ok hg hA hcl).mono ?_⟩
 rintro _ w7 ⟨_,rfl,rfl,B7⟩
 rw [hc0,show_zone]
 have S:=S.grown B7
 refine⟨_,_,_,_,_,_,_,_,rfl,(ST.start w7).newB fun b20 w8 _ _ U=>U.sto7 0 rfl fun w15 U=>?_⟩
 have B15:=below_trans B7 U.bel
 have hg15:=(Keeps.of_below (F:=fun _=>False) B15).cell hg (by simp)
 have hA15:=hA.grown B15
 refine IFB_eq (fun _=>IFB_eq (fun _=>IFB_not (IFB_false (IFB_eq (fun _=>(Rows_ok hg15 hA15).mono ?_) (fun h=>absurd rfl h)))) (fun h=>absurd rfl h)) (fun h=>absurd rfl h)
 rintro _ w16 ⟨_,rfl,rfl,rfl⟩
 refine⟨_,rfl,IFB_eq (fun _=>⟨_,U.cell 0 rfl rfl,IFB_eq (fun _=>⟨_,U.cell 0 rfl rfl,rfl,below_trans S.bel U.bel⟩) (fun h=>absurd rfl h)⟩) (fun h=>absurd rfl h)⟩
theorem flat_rows{f:Int→Value}{m:Nat}:∀(zss:List (List Int)) (cs:List Value),cs.length=zss.length*m→(∀ i (hi:i<zss.length),(cs.drop (i*m)).take m=zss[i].map f)→cs=zss.flatten.map f
 | [],cs,hl,_=>by
  have:cs=[]:=List.eq_nil_of_length_eq_zero (by simpa using hl)
  rw [this];rfl
 | z :: zs,cs,hl,h=>by
  have h0:=h 0 (by simp)
  simp only [Nat.zero_mul,List.drop_zero,List.getElem_cons_zero] at h0
  have ih:=flat_rows (m:=m) zs (cs.drop m) (by rw [List.length_drop,hl,List.length_cons,Nat.add_mul];omega) (fun i hi=>by
   have:=h (i+1) (by simp;omega)
   rw [List.drop_drop]
   rw [show m+i*m=(i+1)*m by rw [Nat.add_mul];omega]
   exact this)
  rw [List.flatten_cons,List.map_append,← h0,← ih,List.take_append_drop]
theorem cells_of_tab2{H:Type}{enc:TypeId × Value→H}{P:Program}{w:World}{base:Nat}{sp:Nat→Bool}{held:Bool}{fuel:Nat}{t e e2:TypeId}{n m:Nat}{k:IntKind}{cs:List Value}{zss:List (List Int)}{p:List MemPlace}
  (ht:P.underlying t=some (.array n e)) (he:P.underlying e=some (.array m e2)) (he2:P.underlying e2=some (.int k)) (hc2:P.cellsOf e2=1) (hce:P.cellsOf e=m) (hct:P.cellsOf t=n*m)
  (h:DataW.trod enc P w base sp held fuel t cs=some (.agg (zss.map (Lib.tabData k)),p)):cs=zss.flatten.map fun z=>Value.int k z:=by
 cases fuel with
 | zero=>simp [DataW.trod] at h
 | succ fuel =>
  simp only [DataW.trod,ht,hce,hct] at h
  split at h
  ·rename_i hl
   obtain⟨xs,hm,hx⟩:=Option.map_eq_some_iff.1 h
   have hxs:xs.map (·.1)=zss.map (Lib.tabData (H:=H) k):=by
    have:=congrArg Prod.fst hx
    simpa using this
   have hxl:xs.length=n:=by simpa using Lib.mapM_length hm
   have hzl:zss.length=n:=by
    have:=congrArg List.length hxs
    simp at this
    omega
   refine flat_rows (m:=m) zss cs (by rw [hl,hzl]) fun i hi=>?_
   have hin:i<n:=by omega
   obtain⟨b,hb,hf⟩:=Lib.mapM_at hm i i (by simp [hin])
   have h2:(xs.map (·.1))[i]?=some b.1:=by simp [hb]
   rw [hxs,List.getElem?_map,List.getElem?_eq_getElem hi] at h2
   have h3:b.1=Lib.tabData k zss[i]:=(Option.some.inj h2).symm
   obtain⟨b1,b2⟩:=b
   simp only at h3
   subst h3
   exact Lib.cells_of_tab he he2 hc2 hce hf
  ·cases h
theorem vars_rd{P:Program}{W:World}{name:String}{g:Nat}{cs:List Value}(hg:P.globalNamed name=some g)(h:W.var? P name=some cs.toArray):Rd W (some ⟨g,0,none⟩) cs:=by
 intro j v hv
 refine⟨_,rfl,?_⟩
 rw [addr_add_blk,Nat.zero_add]
 have:=World.var?_cell hg h j
 rw [this]
 simpa using hv
theorem tab2_of{P:Program}{W:World}{name:String}{k:IntKind}{zss:List (List Int)}{g:Nat}{t e e2:TypeId}{n m:Nat}{rest:List (String × DataW Unit)}
  (hg:P.globalNamed name=some g) (hty:(P.globals[g]?).map (·.type)=some t) (ht:P.underlying t=some (.array n e)) (he:P.underlying e=some (.array m e2)) (he2:P.underlying e2=some (.int k)) (hc2:P.cellsOf e2=1) (hce:P.cellsOf e=m) (hct:P.cellsOf t=n*m)
  (h:laidMet P ((name,.agg (zss.map (Lib.tabData k))) :: rest) W):Rd W (some ⟨g,0,none⟩) (zss.flatten.map fun z=>Value.int k z):=by
 obtain⟨ps,⟨g',t',cs,fuel,p,q,hg',ht',hvar,hd,_,_⟩,_⟩:=h
 obtain rfl:=Option.some.inj (hg.symm.trans hg')
 obtain rfl:=Option.some.inj (hty.symm.trans ht')
 have e:=cells_of_tab2 ht he he2 hc2 hce hct hd
 refine vars_rd hg ?_
 rw [hvar,← e]
theorem tab1_of{P:Program}{W:World}{name:String}{k:IntKind}{zs:List Int}{g:Nat}{t e:TypeId}{n:Nat}{rest:List (String × DataW Unit)}
  (hg:P.globalNamed name=some g) (hty:(P.globals[g]?).map (·.type)=some t) (ht:P.underlying t=some (.array n e)) (he:P.underlying e=some (.int k)) (hce:P.cellsOf e=1) (hct:P.cellsOf t=n)
  (h:laidMet P ((name,Lib.tabData k zs) :: rest) W):Rd W (some ⟨g,0,none⟩) (zs.map fun z=>Value.int k z):=vars_rd hg (Lib.tabIs_of_head hg hty ht he hce hct h)
theorem tabs_of {W : World} {l : List (String × DataW Unit)} (h1 : (l.filter fun x => x.1 == "stackyard/hash.first") = [("stackyard/hash.first", Rows.laid_stackyard_hash_first)]) (h2 : (l.filter fun x => x.1 == "stackyard/hash.orders") = [("stackyard/hash.orders", Rows.laid_stackyard_hash_orders)])
  (h3 : (l.filter fun x => x.1 == "stackyard/hash.places") = [("stackyard/hash.places", Rows.laid_stackyard_hash_places)]) (h : laidMet Tryz.prog l W) : Tabs W := by
 have g1 := h.filter fun x => x.1 == "stackyard/hash.first"
 have g2 := h.filter fun x => x.1 == "stackyard/hash.orders"
 have g3 := h.filter fun x => x.1 == "stackyard/hash.places"
 rw [h1] at g1
 rw [h2] at g2
 rw [h3] at g3
 have e1:(Rows.laid_stackyard_hash_first:DataW Unit)=Lib.tabData .u32 (firstL.map fun x=>(x.toNat:Int)):=by rfl
 have e2:(Rows.laid_stackyard_hash_orders:DataW Unit)=.agg (((List.range 10).map ordRow).map (Lib.tabData .u8)):=by rfl
 have e3:(Rows.laid_stackyard_hash_places:DataW Unit)=.agg (((List.range 8).map fun i=>(hplacesL.drop (i*4)).take 4).map (Lib.tabData .u8)):=by rfl
 rw [e1] at g1
 rw [e2] at g2
 rw [e3] at g3
 have r1:=tab1_of (g:=0) (t:=119) (e:=108) (n:=8) (by kernel_rfl) (by kernel_rfl) (by kernel_rfl) (by kernel_rfl) (by kernel_rfl) (by kernel_rfl) g1
 have r2:=tab2_of (g:=1) (t:=202) (e:=201) (e2:=5) (n:=10) (m:=16) (by kernel_rfl) (by kernel_rfl) (by kernel_rfl) (by kernel_rfl) (by kernel_rfl) (by kernel_rfl) (by kernel_rfl) (by kernel_rfl) g2
 have r3:=tab2_of (g:=2) (t:=204) (e:=203) (e2:=5) (n:=8) (m:=4) (by kernel_rfl) (by kernel_rfl) (by kernel_rfl) (by kernel_rfl) (by kernel_rfl) (by kernel_rfl) (by kernel_rfl) (by kernel_rfl) g3
 have q2:((List.range 10).map ordRow).flatten=ordersL:=by decide
 have q3:((List.range 8).map fun i=>(hplacesL.drop (i*4)).take 4).flatten=hplacesL:=by decide
 rw [q2] at r2
 rw [q3] at r3
 exact⟨by rw [List.map_map] at r1;exact r1,r2,r3⟩
section
variable {w:World}{g p:Addr}{cs:List Col}{cps:List RowP}{n:Nat}
end
section
variable {w:World}{a a2:Option Addr}{c c2:Nat}
end
section
variable {w:World}{g p:Addr}{cs:List Col}{cps:List RowP}{n:Nat}{a a2:Option Addr}{c c2:Nat}{ps:List RowP}
end
def colQ(c:Col):Prop:=c.1.size≤maxLen
def rwC(p:RowP):List Value:=[rowV1 p]
structure RowQ(w:World)(p:RowP):Prop where
 len:p.2.2.length≤maxLen
 rd:Rd w p.1 (valsL p.2.2)
 ok:∀ v∈p.2.2,ValOk v
theorem cells_bool:Tryz.prog.cellsOf ty.bool=1:=by kernel_rfl
theorem und_col:fieldsT Tryz.prog ty.api_Column=some [(ty.string,0),(ty.int,1),(ty.bool,2)]:=by kernel_rfl
theorem und_str5:Tryz.prog.underlying ty.string=some .string:=by kernel_rfl
theorem und_bool5:Tryz.prog.underlying ty.bool=some .bool:=by kernel_rfl
theorem und_row:Tryz.prog.underlying ty.api_Row=some (.slice ty.api_Value):=by kernel_rfl
theorem cells_col:Tryz.prog.cellsOf ty.api_Column=3:=by kernel_rfl
theorem good_api_Column{w:World}:∀ m r,r.length=Tryz.prog.cellsOf ty.api_Column→Go.Dn.Good Tryz.prog w m ty.api_Column r→∃ x,r=colC x∧colQ x:=by
 intro m r hl h
 obtain⟨_,n,hf⟩:=h.fields und_col
 rw [cells_col] at hl
 match r,hl with
 | [v0,v1,v2],_ =>
  simp only [List.mem_cons,List.not_mem_nil,or_false,forall_eq_or_imp,forall_eq,cells_int,cells_bool,cells_str] at hf
  obtain⟨h0,h1,h2⟩:=hf
  obtain⟨x0,e0,q0⟩:=h0.str und_str5
  obtain⟨x1,e1,q1⟩:=h1.int und_int
  obtain⟨x2,e2⟩:=h2.bool und_bool5
  refine⟨(x0,x1,x2),?_,q0⟩
  simp only [List.drop_zero,List.take_succ_cons,List.take_zero,List.drop_succ_cons,List.cons.injEq,and_true] at e0 e1 e2
  rw [e0,e1,e2]
  rfl
theorem good_api_Row{w:World}:∀ m r,r.length=Tryz.prog.cellsOf ty.api_Row→Go.Dn.Good Tryz.prog w m ty.api_Row r→∃ x,r=rwC x∧RowQ w x:=by
 intro m r hl h
 obtain⟨a,c,xs,rfl,h1,h2,h3,h4,h5⟩:=h.list und_row _ _ good_api_Value
 exact⟨(a,c,xs),rfl,Nat.le_trans h1 h2,h4,fun v hv=>(h5 v hv).1⟩
theorem cols_arg{w:World}{a:Option Addr}{cs:List Col}{c:Nat}(g:GL w colC colQ a cs c):Rd w a (colsL cs)∧cs.length≤9223372036854775807∧∀ c∈cs,c.1.size≤9223372036854775807 :=
 ⟨g.2.2.2.1,Nat.le_trans (Nat.le_trans g.1 g.2.1) (by decide),fun v hv=>Nat.le_trans (g.2.2.2.2 v hv) (by decide)⟩
theorem rows_arg{w:World}{a:Option Addr}{ps:List RowP}{c:Nat}(g:GL w rwC (RowQ w) a ps c):RowsAt w a ps∧ps.length≤9223372036854775807∧(∀ r∈rws ps,∀ v∈r,ValOk v)∧∀ p∈ps,p.2.2.length≤9223372036854775807:=by
 refine⟨⟨?_,fun p hp=>(g.2.2.2.2 p hp).rd⟩,Nat.le_trans (Nat.le_trans g.1 g.2.1) (by decide),fun r hr=>?_,fun p hp=>Nat.le_trans (g.2.2.2.2 p hp).len (by decide)⟩
 ·have:=g.2.2.2.1
  rw [show ps.flatMap rwC=ps.map rowV1 from flat1 rowV1 ps] at this
  exact this
 ·obtain⟨p,hp,rfl⟩:=List.mem_map.1 hr
  exact (g.2.2.2.2 p hp).ok
section
variable {w:World}{a a2:Option Addr}{c c2:Nat}{cs:List Col}{ps:List RowP}
end
def nameS(s:ByteArray):ByteArray:=sof (hexP (digP (bl s)))
def aheadS(s:ByteArray):ByteArray:=sof ((bl s).take (s.size-32))
theorem nameS_of{s t:ByteArray}{ds dt:List UInt8}(h1:ds=digP (bl s))(h2:dt=digP (bl t))(h:ds=dt):nameS s=nameS t:=by
 unfold nameS
 rw [← h1,← h2,h]
theorem aheadS_size(s:ByteArray):(aheadS s).size≤s.size:=by
 unfold aheadS
 rw [size_sof,List.length_take]
 have:=bl_length s
 omega
section
variable {w:World}
theorem ref09_Name_ok(s:ByteArray)(hs:s.size≤140737488355328):Calls Tryz.prog f.ref09_Name #[.string s] w (Ret fun v w'=>v=.string (nameS s)∧Below w.heap.size w w'):=by
 apply R.ref09_Name_calls
 unfold R.ref09_Name
 have hbl:=bl_length s
 refine bytes_of_string tbytes s w fun b0 c0 cells e0 w1 hb0 B1 hg1 hcs hsc htk=>?_
 have hr1:Rd w1 (some ⟨b0,0,none⟩) ((bl s).map byteV):=by
  have:=(Rd.of_block0 hg1).take s.size
  rw [htk] at this
  exact this
 rw [← hbl]
 refine⟨_,_,_,rfl,(ref03_Sum_ok (bl s) hr1 (by omega) (by omega)).mono ?_⟩
 rintro _ w3 ⟨_,rfl,rfl,B3⟩
 have hdl:(digP (bl s)).length=32:=digP_len _
 obtain⟨nm,hnm⟩:∃ nm,nm=nameS s:=⟨_,rfl⟩
 unfold nameS at hnm
 obtain⟨dg,hdg⟩:∃ dg,dg=digP (bl s):=⟨_,rfl⟩
 rw [show nameS s=nm from hnm.symm]
 rw [← hdg] at hdl hnm ⊢
 refine LIKEL_by dg hdl ⟨rfl,(ref03_Hex_ok dg hdl w3).mono ?_⟩
 rintro _ w4 ⟨_,rfl,rfl,B4⟩
 exact⟨_,rfl,by rw [hnm],below_trans (below_trans B1 B3) B4⟩
theorem ref09_ahead_ok(s:ByteArray)(hs:s.size≤140737488355328):Calls Tryz.prog f.ref09_ahead #[.string s] w (Ret fun v w'=>v=.string (aheadS s)∧w'=w):=by
 apply R.ref09_ahead_calls
 unfold R.ref09_ahead
 rw [wrap_i64 (by omega) (by omega)]
 have e:(if (s.size:Int)-32 > 0 then (s.size:Int)-32 else 0)=((s.size-32:Nat):Int):=by split <;> omega
 rw [e,Int.toNat_natCast]
 refine⟨⟨by omega,by omega,by omega⟩,?_,rfl⟩
 rw [extract_eq,List.drop_zero,Nat.sub_zero]
 rfl
def strV(s:ByteArray):Value:=.string s
theorem tStrs:slT Tryz.prog ty.L_string=some (ty.string,1,16,.string ⟨#[]⟩):=by kernel_rfl
def strsI(a:Option Addr)(c:Nat)(ss:List ByteArray):It:=It.row ty.string 1 a ss.length c (ss.map strV)
theorem stAppS{w0:World}{H:List It}{a:Option Addr}{c m:Nat}{ss:List ByteArray}(S:ST w0 w H)(n:Nat)(hn:H[n]?=some (strsI a c ss))(hm:ss.length=m){x:ByteArray}{b:Nat}(hs:Rd w (some ⟨b,0,none⟩) [strV x])(hl:m+1≤1000000){f:Value→World→Prop}
  (hf:∀ a' c' w',ST w0 w' (H.set n (strsI a' c' (ss++[x])))→f (.slice a' (m+1) c') w') :
  OPR Tryz.prog (Builtin.append_ #[ty.L_string,ty.L_string] ty.L_string #[.slice a m c,.slice (some ⟨b,0,none⟩) 1 1]) f w:=by
 subst hm
 refine S.app n hn tStrs rfl (by omega) (by omega) hs (mm:=1) rfl (by simp [strV];rfl) (by omega) fun a' c' w' S'=>?_
 have e1:(ss++[x]).length=ss.length+1:=by simp
 have e2:ss.map strV++[strV x]=(ss++[x]).map strV:=by simp
 rw [e2] at S'
 exact hf a' c' w' (by unfold strsI;rw [e1];exact S')
theorem strV_at{a:Option Addr}{ss:List ByteArray}(h:Rd w a (ss.map strV)){i:Nat}(hi:i<ss.length):∃ p,a=some p∧w.cell? (p.add (i*1))=some (.string ss[i]):=by
 obtain⟨p,hp,hc⟩:=h i (strV ss[i]) (by simp [hi])
 exact⟨p,hp,by rw [Nat.mul_one];exact hc⟩
def Clash2(x y:ByteArray):Prop:=(x≠y∧nameS x=nameS y)∨(aheadS x≠aheadS y∧nameS (aheadS x)=nameS (aheadS y))
set_option maxHeartbeats 1000000 in
theorem Clash_ok{a:Option Addr}{c:Nat}(ss:List ByteArray)(hr:Rd w a (ss.map strV))(hn:ss.length≤1000)(hz:∀ s∈ss,s.size≤140737488355328) :
  Calls Tryz.prog f.ref09_Clash #[.slice a ss.length c] w (Ret fun v w'=>Below w.heap.size w w'∧∃ bb,v=.bool bb∧∀ i (hi:i<ss.length) k (hk:k<i),Clash2 ss[i] ss[k]→bb=true):=by
 apply R.ref09_Clash_calls
 unfold R.ref09_Clash
 refine⟨fun s w1=>∃(i:Nat) (na sa:Option Addr) (nc sc:Nat),s=[.slice na i nc,.slice sa i sc,.int .i64 (i:Int)]∧i≤ss.length∧ST w w1 [strsI na nc ((ss.take i).map nameS),strsI sa sc ((ss.take i).map fun x=>nameS (aheadS x))],fun s _=>match s with
   | [_,_,.int _ i]=>ss.length-i.toNat
   | _=>0,⟨0,none,none,0,0,rfl,by omega,((ST.start w).nil _ _).nil _ _⟩,?_⟩
 rintro na j nc sa i sc _ w1 ⟨i',na',sa',nc',sc',hst,hi,S⟩
 simp only [List.cons.injEq,Value.slice.injEq,Value.int.injEq,true_and,and_true] at hst
 obtain⟨⟨rfl,rfl,rfl⟩,⟨rfl,rfl,rfl⟩,rfl⟩:=hst
 have l1:((ss.take i).map nameS).length=i:=by simp;omega
 have l2:((ss.take i).map fun x=>nameS (aheadS x)).length=i:=by simp;omega
 refine IFB_dec (fun hlt=>⟨⟨by omega,hlt⟩,?_⟩) (fun hge=>?_)
 ·have hil:i<ss.length:=by omega
  have hzi:=hz _ (List.getElem_mem hil)
  have et:∀ {α:Type} (g:ByteArray→α),(ss.take i).map g++[g ss[i]]=(ss.take (i+1)).map g:=fun g=>by rw [List.take_succ_eq_append_getElem hil,List.map_append];rfl
  obtain⟨p,rfl,hp⟩:=strV_at (hr.grown S.bel) hil
  refine⟨_,by rw [Int.toNat_natCast];exact hp,(ref09_Name_ok _ hzi).mono ?_⟩
  rintro _ w2 ⟨_,rfl,rfl,B2⟩
  have S:=S.grown B2
  refine⟨_,rfl,S.newB fun b10 w3 _ _ S=>?_⟩
  refine stAppS S 1 rfl l1 (x:=nameS ss[i]) (S.rdc 0 rfl) (by omega) fun a4 c4 w4 S=>?_
  rw [et] at S
  refine⟨_,_,_,rfl,⟨by omega,hlt⟩,?_⟩
  obtain⟨p',hp',hpc⟩:=strV_at (hr.grown S.bel) hil
  cases hp'
  refine⟨_,by rw [Int.toNat_natCast];exact hpc,(ref09_ahead_ok _ hzi).mono ?_⟩
  rintro _ w5 ⟨_,rfl,rfl,rfl⟩
  have:=aheadS_size ss[i]
  refine⟨_,rfl,(ref09_Name_ok _ (by omega)).mono ?_⟩
  rintro _ w6 ⟨_,rfl,rfl,B6⟩
  have S:=S.grown B6
  refine⟨_,rfl,S.newB fun b19 w7 _ _ S=>?_⟩
  refine stAppS S 3 rfl l2 (x:=nameS (aheadS ss[i])) (S.rdc 0 rfl) (by omega) fun a8 c8 w8 S=>?_
  rw [et (fun x=>nameS (aheadS x))] at S
  refine⟨_,_,_,rfl,?_⟩
  rw [wrap_succ (by omega)]
  refine⟨⟨i+1,a4,a8,c4,c8,rfl,by omega,?_⟩,?_⟩
  ·have S2:ST w w8 [strsI a4 c4 ((ss.take (i+1)).map nameS),strsI a8 c8 ((ss.take (i+1)).map fun x=>nameS (aheadS x))]:=by
    refine S.sub ?_
    refine List.Sublist.trans (l₂:=[It.cells b10 #[.string (nameS ss[i])] ty.string,strsI a4 c4 ((ss.take (i+1)).map nameS),strsI a8 c8 ((ss.take (i+1)).map fun x=>nameS (aheadS x))]) ?_ (List.sublist_cons_self _ _)
    exact List.sublist_cons_self _ _
   exact S2
  ·show ss.length-((i+1:Nat):Int).toNat<ss.length-((i:Nat):Int).toNat
   simp only [Int.toNat_natCast]
   omega
 ·have hie:i=ss.length:=by omega
  subst hie
  rw [List.take_length] at S l1 l2
  clear hi hge
  refine⟨fun s w9=>∃ i:Nat,s=[.int .i64 (i:Int)]∧i≤ss.length∧Below w1.heap.size w1 w9∧∀ j (hj:j<ss.length) k (hk:k<j),j<i→¬ Clash2 ss[j] ss[k],fun s _=>match s with
   | [.int _ i]=>ss.length-i.toNat
   | _=>0,⟨0,rfl,by omega,.refl _ _,fun j hj k hk h=>by omega⟩,?_⟩
  rintro _ w9 ⟨i,hst,hi,B9,hno⟩
  cases hst
  refine IFB_dec (fun hlt=>?_) (fun hge=>⟨below_trans S.bel B9,_,rfl,fun j hj k hk h=>absurd h (hno j hj k hk (by omega))⟩)
  have hil:i<ss.length:=by omega
  refine⟨fun s w10=>∃ k:Nat,s=[.int .i64 (k:Int)]∧k≤i∧Below w1.heap.size w1 w10∧∀ q (hq:q<k) (hi:q<ss.length),¬ Clash2 ss[i] ss[q],fun s _=>match s with
   | [.int _ k]=>i-k.toNat
   | _=>0,⟨0,rfl,by omega,B9,fun q hq=>by omega⟩,?_⟩
  rintro _ w10 ⟨k,hst,hk,B10,hnk⟩
  cases hst
  refine IFB_dec (fun hlt2=>?_) (fun hge2=>?_)
  ·have hki:k<i:=by omega
   have hkl:k<ss.length:=by omega
   refine (ST.start w10).draw fun w11 B11 _=>⟨⟨by omega,hlt⟩,?_⟩
   have C11:=below_trans B10 B11
   have S11:=S.grown C11
   have hrw:=hr.grown S11.bel
   obtain⟨p,rfl,hp⟩:=strV_at hrw hil
   obtain⟨p',hp',hpk⟩:=strV_at hrw hkl
   cases hp'
   have hn1:Rd w11 na ((ss.map nameS).map strV):=S11.rd 0 rfl
   have hs1:Rd w11 sa ((ss.map fun x=>nameS (aheadS x)).map strV):=S11.rd 1 rfl
   obtain⟨pn,rfl,hni⟩:=strV_at hn1 (i:=i) (by simpa using hil)
   obtain⟨pn',hpn',hnk'⟩:=strV_at hn1 (i:=k) (by simpa using hkl)
   cases hpn'
   obtain⟨ps,rfl,hsi⟩:=strV_at hs1 (i:=i) (by simpa using hil)
   obtain⟨ps',hps',hsk⟩:=strV_at hs1 (i:=k) (by simpa using hkl)
   cases hps'
   rw [List.getElem_map] at hni hnk' hsi hsk
   obtain⟨n1,e1⟩:∃ n1,n1=nameS ss[i]:=⟨_,rfl⟩
   obtain⟨n2,e2⟩:∃ n2,n2=nameS ss[k]:=⟨_,rfl⟩
   obtain⟨m1,e3⟩:∃ m1,m1=nameS (aheadS ss[i]):=⟨_,rfl⟩
   obtain⟨m2,e4⟩:∃ m2,m2=nameS (aheadS ss[k]):=⟨_,rfl⟩
   rw [← e1] at hni
   rw [← e2] at hnk'
   rw [← e3] at hsi
   rw [← e4] at hsk
   have yes:∀ {wx:World},Below w1.heap.size w1 wx→Below w.heap.size w wx∧∃ bb,Value.bool true=.bool bb∧∀ i (hi:i<ss.length) k (hk:k<i),Clash2 ss[i] ss[k]→bb=true:=fun B=>⟨below_trans S.bel B,true,rfl,fun _ _ _ _ _=>rfl⟩
   have on:∀ {wx:World},Below w1.heap.size w1 wx→¬ Clash2 ss[i] ss[k]→(∃ k_1:Nat,[Value.int .i64 ((k+1:Nat):Int)]=[.int .i64 (k_1:Int)]∧k_1≤i∧Below w1.heap.size w1 wx∧∀ q (hq:q<k_1) (hi:q<ss.length),¬ Clash2 ss[i] ss[q])∧i-((k+1:Nat):Int).toNat<i-((k:Nat):Int).toNat:=fun B hc=>by
    refine⟨⟨k+1,rfl,by omega,B,fun q hq hi=>?_⟩,by simp only [Int.toNat_natCast];omega⟩
    rcases Nat.lt_or_ge q k with h | h
    ·exact hnk q h hi
    ·obtain rfl:q=k:=by omega
     exact hc
   have hzi:=hz _ (List.getElem_mem hil)
   have hzk:=hz _ (List.getElem_mem hkl)
   refine⟨⟨by omega,by omega⟩,_,by rw [Int.toNat_natCast];exact hp,_,by rw [Int.toNat_natCast];exact hpk,?_⟩
   rw [bytesEq_iff]
   refine IFB_not (IFB_dec (fun he=>?_) (fun hne=>⟨⟨by omega,by omega⟩,⟨by omega,by omega⟩,_,by rw [Int.toNat_natCast];exact hni,_,by rw [Int.toNat_natCast];exact hnk',?_⟩))
   ·refine⟨⟨by omega,by omega⟩,⟨by omega,by omega⟩,_,by rw [Int.toNat_natCast];exact hp,_,by rw [Int.toNat_natCast];exact hpk,(ref09_ahead_ok _ hzi).mono ?_⟩
    rintro _ w14 ⟨_,rfl,rfl,rfl⟩
    refine⟨_,rfl,by rw [Int.toNat_natCast];exact hpk,(ref09_ahead_ok _ hzk).mono ?_⟩
    rintro _ w15 ⟨_,rfl,rfl,rfl⟩
    refine⟨_,rfl,?_⟩
    rw [bytesEq_iff,wrap_succ (by omega)]
    refine IFB_not (IFB_dec (fun he2=>on C11 ?_) (fun hne2=>absurd (by rw [he]) hne2))
    rintro (⟨h,_⟩ | ⟨h,_⟩)
    ·exact h he
    ·exact h he2
   ·rw [bytesEq_iff]
    refine IFB_dec (fun _=>yes C11) (fun hnn=>⟨⟨by omega,by omega⟩,⟨by omega,by omega⟩,_,by rw [Int.toNat_natCast];exact hp,_,by rw [Int.toNat_natCast];exact hpk,(ref09_ahead_ok _ hzi).mono ?_⟩)
    rintro _ w14 ⟨_,rfl,rfl,rfl⟩
    refine⟨_,rfl,by rw [Int.toNat_natCast];exact hpk,(ref09_ahead_ok _ hzk).mono ?_⟩
    rintro _ w15 ⟨_,rfl,rfl,rfl⟩
    refine⟨_,rfl,?_⟩
    rw [bytesEq_iff,wrap_succ (by omega)]
    refine IFB_not (IFB_dec (fun he2=>on C11 ?_) (fun hne2=>⟨⟨by omega,by omega⟩,⟨by omega,by omega⟩,_,by rw [Int.toNat_natCast];exact hsi,_,by rw [Int.toNat_natCast];exact hsk,?_⟩))
    ·rintro (⟨_,h⟩ | ⟨h,_⟩)
     ·exact hnn (by rw [e1,e2,h])
     ·exact h he2
    ·rw [bytesEq_iff]
     refine IFB_dec (fun _=>yes C11) (fun hns=>on C11 ?_)
     rintro (⟨_,h⟩ | ⟨_,h⟩)
     ·exact hnn (by rw [e1,e2,h])
     ·exact hns (by rw [e3,e4,h])
  ·obtain rfl:k=i:=by omega
   rw [wrap_succ (by omega)]
   refine⟨⟨k+1,rfl,by omega,B10,fun j hj q hq hjk=>?_⟩,by simp only [Int.toNat_natCast];omega⟩
   rcases Nat.lt_or_ge j k with h | h
   ·exact hno j hj q hq h
   ·obtain rfl:j=k:=by omega
    exact hnk q hq (by omega)
end
section
variable {w:World}{a a2 a3:Option Addr}{c c2 c3:Nat}{cs:List Col}{ps qs:List RowP}
theorem digOk_two{b:List UInt8}{i:Nat}{d:UInt8}(h:digOk b)(h':digOk (b.set i d))(hne:b.set i d≠b):Clash2 (sof (b.set i d)) (sof b):=by
 right
 obtain⟨h1,h2⟩:=h
 obtain⟨_,h3⟩:=h'
 rw [List.length_set] at h3
 by_cases hi:b.length-32≤i
 ·exfalso
  apply hne
  have e:(b.set i d).take (b.length-32)=b.take (b.length-32):=List.take_set_of_le hi
  rw [e] at h3
  rw [← List.take_append_drop (b.length-32) (b.set i d),e,h3,← h2,List.take_append_drop]
 ·have hil:i<b.length-32:=by omega
  have e:(b.set i d).drop (b.length-32)=b.drop (b.length-32):=List.drop_set_of_lt hil
  rw [e,h2] at h3
  have e1:bl (aheadS (sof (b.set i d)))=(b.set i d).take (b.length-32):=by unfold aheadS;rw [bl_sof,bl_sof,size_sof,List.length_set]
  have e2:bl (aheadS (sof b))=b.take (b.length-32):=by unfold aheadS;rw [bl_sof,bl_sof,size_sof]
  refine⟨fun h=>hne ?_,nameS_of (by rw [e1]) (by rw [e2]) h3.symm⟩
  have:=congrArg bl h
  rw [e1,e2] at this
  rw [← List.take_append_drop (b.length-32) (b.set i d),this,e,List.take_append_drop]
theorem SegmentTurns_core(T:Tabs w)(hl:Rd w a (colsL cs))(hn:cs.length≤9223372036854775807)(hq:∀ c∈cs,c.1.size≤9223372036854775807)(hr:RowsAt w a2 ps)(hm:ps.length≤9223372036854775807)(hv:∀ r∈rws ps,∀ v∈r,ValOk v)(at_:Int)(cc:UInt8) :
  Calls Tryz.prog f.law09_SegmentTurns #[.slice a cs.length c,.slice a2 ps.length c2,.int .i64 at_,.int .u8 (cc.toNat:Int)] w (Ret fun v w'=>v=.bool true∧Below w.heap.size w w'):=by
 apply R.law09_SegmentTurns_calls
 unfold R.law09_SegmentTurns
 refine (shown09_ok T).mono ?_
 rintro _ w1 ⟨_,rfl,rfl,B1⟩
 refine⟨_,rfl,(segment_Write_ok (T.grown B1) (hl.grown B1) hn hq (hr.grown B1) hm hv).mono ?_⟩
 rintro _ w2 ⟨_,rfl,hV,B2⟩
 have C2:=below_trans B1 B2
 rcases hV with ⟨_,rfl,hE⟩ | ⟨hok,b,rfl,hI⟩
 ·exact⟨_,_,rfl,IFB_ne (fun _=>⟨rfl,C2⟩) (fun h=>absurd h hE)⟩
 have hbl:=hI.len hok
 obtain⟨_,_,hdig⟩:=hI.pre hok
 have hsz:=size_sof b
 refine⟨_,_,rfl,IFB_ne (fun h=>absurd rfl h) (fun _=>IFB_dec (fun _=>⟨rfl,C2⟩) (fun h0=>IFB_dec (fun _=>⟨rfl,C2⟩) (fun h1=>⟨by omega,IFB_eq (fun _=>⟨rfl,C2⟩) (fun hne=>?_)⟩)))⟩
 obtain⟨i,rfl⟩:∃ i:Nat,at_=(i:Int):=⟨at_.toNat,by omega⟩
 have hil:i<b.length:=by omega
 rw [Int.toNat_natCast,sget_eq,bl_sof] at hne
 have hbi:b.set i cc≠b:=by
  intro h
  apply hne
  have e:b[i]?=(b.set i cc)[i]?:=by rw [h]
  rw [List.getElem?_set_self hil] at e
  rw [List.getD,e,Option.getD_some]
 refine bytes_of_string tbytes (sof b) w2 fun b0 c0 cells e0 w3 hb0 B3 hg3 hcs hsc htk=>?_
 rw [size_sof] at hsc htk ⊢
 rw [bl_sof] at htk
 have hcl:cells.size=c0:=hcs
 refine⟨_,_,_,rfl,⟨by omega,by omega⟩,?_⟩
 simp only [PTR,addr_add_blk,Nat.zero_add,Nat.mul_one,Int.toNat_natCast]
 have hc3:w3.cell? ⟨b0,i,none⟩=some cells[i]:=by
  simp [World.cell?,hg3,Array.getElem?_eq_getElem (show i<cells.size by omega)]
 refine⟨by rw [hc3];rfl,?_,?_⟩
 ·have:¬ cells.size≤i:=by omega
  simp [World.frozen?,hg3]
  omega
 obtain⟨w4,hw4⟩:∃ w4,w4=w3.setCell ⟨b0,i,none⟩ (.int .u8 (cc.toNat:Int)):=⟨_,rfl⟩
 rw [← hw4]
 have hg4:w4.heap[b0]?=some (.cells (cells.setIfInBounds i (.int .u8 (cc.toNat:Int))) e0 (cells.size,cells.size+1)):=by rw [hw4];exact heap_setCell_at hg3 _
 have K4:Keeps (·=b0) w3 w4:=by rw [hw4];exact keeps_setCell w3 b0 i _
 have C4:Below w.heap.size w w4:=below_trans C2 (B3.trans (K4.below B3.size fun k hk he=>by omega))
 have hr4:Rd w4 (some ⟨b0,0,none⟩) ((b.set i cc).map byteV):=by
  have h:=(Rd.of_block0 hg4).take b.length
  rw [Array.toList_setIfInBounds,List.take_set,htk] at h
  rw [List.map_set]
  exact h
 have hsl:b.length=(b.set i cc).length:=by rw [List.length_set]
 refine string_of_bytes tbytes hsl hr4 ⟨_,rfl,(segment_Open_ok (T.grown C4) (sof (b.set i cc)) (by rw [size_sof];omega)).mono ?_⟩
 rintro _ w6 ⟨_,rfl,B6,hO⟩
 have C6:=below_trans C4 B6
 rw [bl_sof] at hO
 have fin:∀(g:Option Addr) (e:Int),(e=91∧g=none∨digOk (b.set i cc))→OPR Tryz.prog (convert ty.L_uint8 ty.string (.slice (some ⟨b0,0,none⟩) b.length c0)) (fun r_19 w7=>∃ t57_18:ByteArray,r_19=.string t57_18∧NEWB #[.string (sof b),.string t57_18] ty.string (fun b_20 w8=>Calls Tryz.prog f.ref09_Clash #[.slice (some ⟨b_20,0,none⟩) 2 2] w8 (fun e_1 w9=>∃ t59_21:Bool,e_1=.returned (.bool t59_21) ∧
   IFB true (IFB (e==91) (IFB (Option.isNone g) (True∧Below w.heap.size w w9) ((Value.bool t59_21:Value)=.bool true∧Below w.heap.size w w9)) ((Value.bool t59_21:Value)=.bool true∧Below w.heap.size w w9)) ((Value.bool false:Value)=.bool true∧Below w.heap.size w w9))) w7) w6:=by
  intro g e hge
  refine string_of_bytes tbytes hsl (hr4.grown B6) ⟨_,rfl,(ST.start w6).newB fun b20 w8 _ B8 S=>?_⟩
  have hrs:Rd w8 (some ⟨b20,0,none⟩) ([sof b,sof (b.set i cc)].map strV):=S.rdc 0 rfl
  refine (Clash_ok (c:=2) [sof b,sof (b.set i cc)] hrs (by simp) (by
   intro s hs
   simp only [List.mem_cons,List.not_mem_nil,or_false] at hs
   rcases hs with rfl | rfl
   ·rw [size_sof];omega
   ·rw [size_sof,← hsl];omega)).mono ?_
  rintro _ w9 ⟨_,rfl,B9,bb,rfl,hbb⟩
  have C9:=below_trans (below_trans C6 B8) B9
  refine⟨_,rfl,IFB_true ?_⟩
  rcases hge with ⟨rfl,rfl⟩ | hd
  ·exact IFB_eq (fun _=>⟨trivial,C9⟩) (fun h=>absurd rfl h)
  ·have:bb=true:=hbb 1 (by simp) 0 (by omega) (digOk_two hdig hd hbi)
   subst this
   exact IFB_eq (fun _=>IFB_of (fun _=>⟨trivial,C9⟩) (fun _=>⟨rfl,C9⟩)) (fun _=>⟨rfl,C9⟩)
 rcases hO with ⟨g,p,cs2,cps,n,rfl,_,_,hs2,hI2,_⟩ | ⟨rfl,_⟩ | ⟨rfl,hd,_⟩
 ·obtain⟨_,_,hd⟩:=hI2.pre hs2
  exact⟨_,_,rfl,fin _ _ (.inr hd)⟩
 ·exact⟨_,_,rfl,fin _ _ (.inl ⟨rfl,rfl⟩)⟩
 ·exact⟨_,_,rfl,fin _ _ (.inr hd)⟩
end
theorem SegmentTurns_ok{w:World}(T:Tabs w)(a:Option Addr)(cs:List Col)(c:Nat)(g:GL w colC colQ a cs c)(_y:c*Tryz.prog.bytesOf ty.api_Column≤reachBytes)(a2:Option Addr)(ps:List RowP)(c2:Nat)(g2:GL w rwC (RowQ w) a2 ps c2)(_y2:c2*Tryz.prog.bytesOf ty.api_Row≤reachBytes)
  (at_:Int) (_w:(Lit.int .i64 at_).wf=true) (cc:UInt8) :
  Calls Tryz.prog f.law09_SegmentTurns #[.slice a cs.length c,.slice a2 ps.length c2,.int .i64 at_,.int .u8 (cc.toNat:Int)] w (Ret fun r w'=>r=.bool true∧Below w.heap.size w w'):=by
 obtain⟨h1,h2,h3⟩:=cols_arg g
 obtain⟨h4,h5,h6,_⟩:=rows_arg g2
 exact SegmentTurns_core T h1 h2 h3 h4 h5 h6 at_ cc
end Go.Proofs.YtipgnehlihmdhaaGreatDoor
