/-
  Texts of this claim, laid one behind the other by a program of mine (install.py): S.Seg4, S.Seg5, S.Seg6, S.Seg7, S.Seg8, S.Seg9, S.Seg10, S.Seg11, S.Seg12, S.SegEnv, S.Seg13, S.Seg14, S.Seg15, S.SegArg, S.Seg16, S.Seg17, S.Seg18, S.Seg19, S.Seg20.
-/
import Derived.Test.YtipgnehlihmdhaaGreatDoorM7
import Derived.Test.YtipgnehlihmdhaaGreatDoorM6
import Derived.Test.YtipgnehlihmdhaaGreatDoorM1
import Derived.Test.YtipgnehlihmdhaaGreatDoorRows
namespace Go.Proofs.YtipgnehlihmdhaaGreatDoor
set_option maxRecDepth 100000
open Go.Dn Go.Proofs
open Go.RowKit (Below)
set_option linter.unusedVariables false
def rowI(p:RowP):It:=valsI p.1 p.2.1 p.2.2
def gridH(bo:Nat)(ps:List RowP):List It:=It.cells bo ⟨ps.map rowV1⟩ ty.api_Row :: ps.map rowI
theorem tRow:slT Tryz.prog ty.api_Row=some (ty.api_Value,3,32,.agg #[.int .i64 0,.int .i64 0,.string ⟨#[]⟩]):=by kernel_rfl
theorem tRows:slT Tryz.prog ty.L_api_Row=some (ty.api_Row,1,24,.slice none 0 0):=by kernel_rfl
section
variable {w0 w:World}{E:List It}{bo:Nat}{ps:List RowP}
theorem grid_cell(S:ST w0 w (E++gridH bo ps)){i:Nat}(hi:i<ps.length):w.cell? ((⟨bo,0,none⟩:Addr).add (i*1))=some (.slice ps[i].1 ps[i].2.2.length ps[i].2.1):=by
 rw [addr_add_blk,Nat.zero_add,Nat.mul_one]
 refine S.cell E.length (cs:=⟨ps.map rowV1⟩) (t:=ty.api_Row) ?_ ?_
 ·rw [List.getElem?_append_right (Nat.le_refl _),Nat.sub_self]
  rfl
 ·rw [← Array.getElem?_toList]
  show (ps.map rowV1)[i]?=_
  rw [List.getElem?_map,List.getElem?_eq_getElem hi]
  rfl
theorem grid_app(S:ST w0 w (E++gridH bo ps)){i:Nat}(hi:i<ps.length){x:Val}{b:Nat}(hs:Rd w (some ⟨b,0,none⟩) (valC x))(hl:ps[i].2.2.length+1≤1000000){f:Value→World→Prop}
  (hf:∀ a' c' w',(∀ k:World→Prop,(∀ w'',ST w0 w'' (E++gridH bo (ps.set i (a',c',ps[i].2.2++[x])))→k w'')→STO ((⟨bo,0,none⟩:Addr).add (i*1)) (.slice a' (ps[i].2.2++[x]).length c') k w')→f (.slice a' (ps[i].2.2++[x]).length c') w') :
  OPR Tryz.prog (Builtin.append_ #[ty.api_Row,ty.api_Row] ty.api_Row #[.slice ps[i].1 ps[i].2.2.length ps[i].2.1,.slice (some ⟨b,0,none⟩) 1 1]) f w:=by
 have hn:(E++gridH bo ps)[E.length+(i+1)]?=some (valsI ps[i].1 ps[i].2.1 ps[i].2.2):=by
  rw [List.getElem?_append_right (by omega),Nat.add_sub_cancel_left]
  show (ps.map rowI)[i]?=_
  rw [List.getElem?_map,List.getElem?_eq_getElem hi]
  rfl
 refine stAppV S (E.length+(i+1)) tRow hn hs hl fun a' c' w' S'=>hf a' c' w' fun k hk=>?_
 rw [addr_add_blk,Nat.zero_add,Nat.mul_one]
 have e1:(E++gridH bo ps).set (E.length+(i+1)) (valsI a' c' (ps[i].2.2++[x]))=E++(It.cells bo ⟨ps.map rowV1⟩ ty.api_Row :: (ps.set i (a',c',ps[i].2.2++[x])).map rowI):=by
  rw [List.set_append_right _ _ (by omega),Nat.add_sub_cancel_left]
  show E++(_ :: (ps.map rowI).set i _)=_
  rw [List.map_set]
  rfl
 rw [e1] at S'
 refine S'.sto E.length (cs:=⟨ps.map rowV1⟩) (cs':=⟨(ps.set i (a',c',ps[i].2.2++[x])).map rowV1⟩) (t:=ty.api_Row) ?_ (by show i<(ps.map rowV1).length;simpa using hi) ?_ fun w'' S''=>hk w'' ?_
 ·rw [List.getElem?_append_right (Nat.le_refl _),Nat.sub_self]
  rfl
 ·apply Array.ext'
  rw [Array.toList_setIfInBounds,List.map_set]
  rfl
 ·rw [List.set_append_right _ _ (Nat.le_refl _),Nat.sub_self] at S''
  exact S''
theorem grid_rows(S:ST w0 w (E++gridH bo ps)):RowsAt w (some ⟨bo,0,none⟩) ps:=by
 refine⟨?_,fun p hp=>?_⟩
 ·have hg:w.heap[bo]?=some (.cells ⟨ps.map rowV1⟩ ty.api_Row (0,0)):=S.ok (It.cells bo ⟨ps.map rowV1⟩ ty.api_Row) (by simp [gridH])
  exact Rd.of_block0 hg
 ·have:(rowI p).ok w:=S.ok _ (List.mem_append_right _ (List.mem_cons_of_mem _ (List.mem_map.2 ⟨p,hp,rfl⟩)))
  exact Row.rd this
theorem grid_made(S:ST w0 w E){w':World}(n:Nat)(hb:w.heap.size≤bo)(B:Below w.heap.size w w')(hg:w'.heap[bo]?=some (.cells (madeCells (Value.slice none 0 0).cells (n*1)) ty.api_Row (0,0))):ST w0 w' (gridH bo (List.replicate n (none,0,[]))++E):=by
 have e:madeCells (Value.slice none 0 0).cells (n*1)=⟨(List.replicate n ((none,0,[]):RowP)).map rowV1⟩:=by
  apply Array.ext'
  rw [madeCells_one _ rfl,Nat.mul_one,List.map_replicate]
  rfl
 rw [e] at hg
 have S1:∀ m,ST w0 w' ((List.replicate m ((none,0,[]):RowP)).map rowI++E):=by
  intro m
  induction m with
  | zero=>exact S.grown B
  | succ m ih=>rw [List.replicate_succ];exact ih.nil _ _
 have nn:∀ k,(It.cells bo ⟨(List.replicate n ((none,0,[]):RowP)).map rowV1⟩ ty.api_Row).blk=some k→∀ y∈(List.replicate n ((none,0,[]):RowP)).map rowI++E,y.blk≠some k:=by
  intro k hk y hy hyk
  have hk':bo=k:=Option.some.inj hk
  rcases List.mem_append.1 hy with h | h
  ·obtain⟨p,hp,rfl⟩:=List.mem_map.1 h
   rw [(List.mem_replicate.1 hp).2] at hyk
   cases hyk
  ·have:=y.lt w (S.ok y h) k hyk
   omega
 refine⟨(S1 n).bel,fun x hx=>?_,List.pairwise_cons.2 ⟨fun y hy k hk=>nn k hk y hy,(S1 n).nd⟩,fun x hx k hk=>?_⟩
 ·rcases List.mem_cons.1 hx with rfl | hx
  ·exact hg
  ·exact (S1 n).ok x hx
 ·rcases List.mem_cons.1 hx with rfl | hx
  ·have hk':bo=k:=Option.some.inj hk
   have:=S.bel.size
   omega
  ·exact (S1 n).own x hx k hk
end
def rowAt(cols:List (List Val))(r:Nat):List Val:=cols.map fun l=>l.getD r Z0
def rowsOf(cols:List (List Val))(n:Nat):List (List Val):=(List.range n).map (rowAt cols)
theorem rowAt_snoc(cps:List RowP){j:Nat}(hj:j<cps.length){r:Nat}(hr:r<cps[j].2.2.length):rowAt (rws (cps.take (j+1))) r=rowAt (rws (cps.take j)) r++[cps[j].2.2[r]]:=by
 unfold rowAt rws
 rw [List.take_succ_eq_append_getElem hj,List.map_append,List.map_append]
 simp only [List.map_cons,List.map_nil,List.getD,List.getElem?_eq_getElem hr,Option.getD_some]
theorem rows_ext{ps:List RowP}{n:Nat}{cols:List (List Val)}(hl:ps.length=n)(h:∀ r (hr:r<ps.length),ps[r].2.2=rowAt cols r):rws ps=rowsOf cols n:=by
 refine List.ext_getElem (by simp [rowsOf,hl]) fun r h1 h2=>?_
 simp only [rws,List.getElem_map,rowsOf,List.getElem_range]
 exact h r (by simpa using h1)
section
variable {w:World}{p:Addr}{n:Nat}{cps:List RowP}{va:Option Addr}{vc:Nat}
theorem all_ok(h3:w.cell? (p.add 3)=some (.int .i64 (n:Int)))(h1:w.cell? (p.add 1)=some (.slice va cps.length vc))(hv:RowsAt w va cps)(hn:n≤4096)(hc:cps.length≤1000)(hl:∀ q∈cps,q.2.2.length=n) :
  Calls Tryz.prog f.segment_columns_all #[.pointer (some p)] w (Ret fun v w'=>∃ bo ps,v=.slice (some ⟨bo,0,none⟩) n n∧ps.length=n∧rws ps=rowsOf (rws cps) n∧RowsAt w' (some ⟨bo,0,none⟩) ps∧Below w.heap.size w w'):=by
 apply R.segment_columns_all_calls
 unfold R.segment_columns_all
 refine⟨_,h3,make_new tRows (l:=(n:Int)) (c:=(n:Int)) (by omega) (by omega) (by omega) (by omega) fun bo w1 hbo B1 hO1=>?_⟩
 rw [Int.toNat_natCast] at hO1 ⊢
 have S:=grid_made (ST.start w) n hbo B1 hO1
 rw [List.append_nil] at S
 refine⟨_,_,_,rfl,fun s w2=>∃(i:Nat) (ps:List RowP),s=[.int .i64 (i:Int)]∧i≤n∧ps.length=n∧(∀ r (hr:r<ps.length),ps[r].2.2=if r<i then rowAt (rws cps) r else [])∧ST w w2 ([]++gridH bo ps),fun s _=>match s with
   | [.int _ i]=>n-i.toNat
   | _=>0,⟨0,_,rfl,by omega,by simp,fun r hr=>by simp,S⟩,?_⟩
 rintro _ w2 ⟨i,ps,hst,hi,hpl,hrow,S⟩
 cases hst
 refine IFB_dec (fun hlt=>?_) (fun hge=>⟨bo,ps,rfl,hpl,rows_ext hpl fun r hr=>by rw [hrow r hr,if_pos (by omega)],grid_rows S,S.bel⟩)
 have hin:i<n:=by omega
 have K:=Keeps.of_below (F:=fun _=>False) S.bel
 refine⟨_,_,_,K.cell h1 (by simp),?_⟩
 refine⟨fun s w3=>∃(j:Nat) (ps:List RowP),s=[.int .i64 (j:Int)]∧j≤cps.length∧ps.length=n∧(∀ r (hr:r<ps.length),ps[r].2.2=if r<i then rowAt (rws cps) r else if r=i then rowAt (rws (cps.take j)) r else [])∧ST w w3 ([]++gridH bo ps),fun s _=>match s with
   | [.int _ j]=>cps.length-j.toNat
   | _=>0,⟨0,ps,rfl,by omega,hpl,fun r hr=>by rw [hrow r hr];simp [rowAt],S⟩,?_⟩
 clear hrow S hpl ps K
 rintro _ w3 ⟨j,ps,hst,hj,hpl,hrow,S⟩
 cases hst
 refine IFB_dec (fun hlt=>⟨⟨by omega,hlt⟩,?_⟩) (fun hge=>?_)
 ·have hjl:j<cps.length:=by omega
  have hlen:=hl _ (List.getElem_mem hjl)
  obtain⟨q,hq,hcell,hval⟩:=(hv.grown S.bel).at hjl
  rw [hq]
  refine⟨_,_,_,by rw [Int.toNat_natCast];exact hcell,S.draw fun w4 B4 S=>?_⟩
  have hip:i<ps.length:=by omega
  obtain⟨q2,hq2,d0,d1,d2⟩:=val_at (hval.grown B4) (i:=i) (by omega)
  have hgc:=grid_cell S hip
  refine⟨⟨by omega,by omega⟩,⟨by omega,by omega⟩,?_⟩
  rw [hq2]
  refine⟨_,_,_,by rw [Int.toNat_natCast];exact hgc,_,by rw [Int.toNat_natCast];exact d0,_,by rw [Int.toNat_natCast];exact d1,_,by rw [Int.toNat_natCast];exact d2,S.newB fun b20 w5 _ _ S=>?_⟩
  have S':ST w w5 ([It.cells b20 (valC (cps[j].2.2[i]'(by omega))).toArray ty.api_Value]++gridH bo ps):=S
  have hgc5:=grid_cell S' hip
  have hri:ps[i].2.2=rowAt (rws (cps.take j)) i:=by rw [hrow i hip];simp
  have hrl:ps[i].2.2.length=j:=by rw [hri];simp [rowAt,rws];omega
  refine⟨by rw [Int.toNat_natCast];exact hgc5,?_⟩
  have hsrc:Rd w5 (some ⟨b20,0,none⟩) (valC (cps[j].2.2[i]'(by omega))):=S'.rdc 0 rfl
  refine grid_app S' hip hsrc (by omega) fun a6 c6 w6 hk=>⟨_,_,_,rfl,⟨by omega,by omega⟩,?_⟩
  rw [Int.toNat_natCast]
  unfold PTR
  simp only
  refine hk _ fun w7 S=>?_
  rw [wrap_succ (by omega)]
  refine⟨⟨j+1,ps.set i (a6,c6,ps[i].2.2++[cps[j].2.2[i]'(by omega)]),rfl,by omega,by rw [List.length_set];exact hpl,fun r hr=>?_,S.drop 1⟩,?_⟩
  ·rw [List.length_set] at hr
   rw [List.getElem_set]
   by_cases hri2:i=r
   ·subst hri2
    simp only [if_true,Nat.lt_irrefl,if_false]
    rw [rowAt_snoc cps hjl (by omega),hri]
   ·rw [if_neg hri2,hrow r hr]
    by_cases h5:r<i
    ·rw [if_pos h5,if_pos h5]
    ·rw [if_neg h5,if_neg h5,if_neg (fun h=>hri2 h.symm),if_neg (fun h=>hri2 h.symm)]
  ·show cps.length-((j+1:Nat):Int).toNat<cps.length-((j:Nat):Int).toNat
   simp only [Int.toNat_natCast]
   omega
 ·rw [wrap_succ (by omega)]
  refine⟨⟨i+1,ps,rfl,by omega,hpl,fun r hr=>?_,S⟩,?_⟩
  ·rw [hrow r hr,List.take_of_length_le (by omega)]
   by_cases h5:r<i
   ·rw [if_pos h5,if_pos (by omega)]
   ·by_cases h6:r=i
    ·rw [if_neg h5,if_pos h6,if_pos (by omega)]
    ·rw [if_neg h5,if_neg h6,if_neg (by omega)]
  ·show n-((i+1:Nat):Int).toNat<n-((i:Nat):Int).toNat
   simp only [Int.toNat_natCast]
   omega
end
def takeFoots(lim:Nat)(l:List UInt8)(at_:Nat):Nat→Option (List Nat × Nat)
 | 0=>some ([],at_)
 | k+1=>match takeN l (at_:Int) with
  | none=>none
  | some x=>match takeN l (x.2:Int) with
   | none=>none
   | some y=>match takeV l (y.2:Int) with
    | none=>none
    | some u=>match takeV l (u.2:Int) with
     | none=>none
     | some v=>if lim<x.1 then none else (takeFoots lim l v.2 k).map fun r=>(x.1 :: r.1,r.2)
def takePl(lim:Nat)(l:List UInt8)(at_:Int)(n:Nat):Option (Nat × List Nat) :=
 match takeN l at_ with
 | none=>none
 | some x=>if 1024<x.1 then none else (takeFoots lim l x.2 n).map fun r=>(x.1,r.1)
def intsI(a:Option Addr)(c:Nat)(ns:List Nat):It:=It.row ty.int 1 a ns.length c (ns.map fun n:Nat=>Value.int .i64 (n:Int))
theorem tInts:slT Tryz.prog ty.L_int=some (ty.int,1,8,.int .i64 0):=by kernel_rfl
theorem stAppN{w0 w:World}{H:List It}{a:Option Addr}{c:Nat}{ns:List Nat}(S:ST w0 w H)(n:Nat)(hn:H[n]?=some (intsI a c ns)){x:Nat}{b:Nat}(hs:Rd w (some ⟨b,0,none⟩) [Value.int .i64 (x:Int)])(hl:ns.length+1≤1000000){f:Value→World→Prop}
  (hf:∀ a' c' w',ST w0 w' (H.set n (intsI a' c' (ns++[x])))→f (.slice a' (ns++[x]).length c') w') :
  OPR Tryz.prog (Builtin.append_ #[ty.L_int,ty.L_int] ty.L_int #[.slice a ns.length c,.slice (some ⟨b,0,none⟩) 1 1]) f w:=by
 refine S.app n hn tInts rfl (by omega) (by omega) hs (mm:=1) rfl (by simp;rfl) (by omega) fun a' c' w' S'=>?_
 have e1:(ns++[x]).length=ns.length+1:=by simp
 have e2:(ns.map fun n:Nat=>Value.int .i64 (n:Int))++[Value.int .i64 (x:Int)]=(ns++[x]).map fun n:Nat=>Value.int .i64 (n:Int):=by simp
 rw [e2] at S'
 have:=hf a' c' w' (by unfold intsI;rw [e1];exact S')
 rwa [e1] at this
theorem num_open{l:List UInt8}{at_:Int}(o:Option (Nat × Nat))(h:takeN l at_=o):∃(n k:Nat) (e:Int),numV o=.tuple #[.int .u64 (n:Int),.int .i64 (k:Int),.int .i64 e]∧k≤l.length∧n<18446744073709551616∧((e=0∧o=some (n,k))∨(e≠0∧o=none)):=by
 cases o with
 | none=>exact⟨0,0,20,rfl,by omega,by omega,.inr ⟨by decide,rfl⟩⟩
 | some x =>
  have:=takeN_bounds (n:=x.1) (k:=x.2) h
  exact⟨x.1,x.2,0,rfl,by omega,by omega,.inl ⟨rfl,rfl⟩⟩
theorem takeV_le{l:List UInt8}{at_:Int}{v:Val}{k:Nat}(h:takeV l at_=some (v,k)):k≤l.length:=by
 unfold takeV at h
 split at h
 ·cases h
 ·rename_i hb
  simp only at h
  split at h
  ·cases h;omega
  ·split at h
   ·obtain⟨x,hx,he⟩:=Option.map_eq_some_iff.1 h
    have:=takeN_bounds (n:=x.1) (k:=x.2) hx
    cases he
    omega
   ·split at h
    ·split at h
     ·rename_i h2;cases h;omega
     ·cases h
    ·split at h
     ·obtain⟨x,hx,he⟩:=Option.map_eq_some_iff.1 h
      have:=takeT_le (s:=x.1) (k:=x.2) hx
      cases he
      omega
     ·cases h
theorem val_open{l:List UInt8}{at_:Int}(o:Option (Val × Nat))(h:takeV l at_=o):∃(v:Val) (k:Nat) (e:Int),takenV o=.tuple #[.agg #[.int .i64 v.1,.int .i64 v.2.1,.string v.2.2],.int .i64 (k:Int),.int .i64 e]∧k≤l.length∧((e=0∧o=some (v,k))∨(e≠0∧o=none)):=by
 cases o with
 | none=>exact⟨Z0,0,20,rfl,by omega,.inr ⟨by decide,rfl⟩⟩
 | some x=>exact⟨x.1,x.2,0,rfl,takeV_le (v:=x.1) (k:=x.2) h,.inl ⟨rfl,rfl⟩⟩
def PlV(o:Option (Nat × List Nat))(w w':World)(v:Value):Prop :=
 match o with
 | none=>v=.tuple #[.int .i64 0,.slice none 0 0,.bool false]∧Below w.heap.size w w'
 | some r=>∃ a c,v=.tuple #[.int .i64 (r.1:Int),.slice a r.2.length c,.bool true]∧ST w w' [intsI a c r.2]
theorem PlV.bad{o:Option (Nat × List Nat)}{w w':World}(h:o=none)(B:Below w.heap.size w w'):PlV o w w' (.tuple #[.int .i64 0,.slice none 0 0,.bool false]):=by
 subst h
 exact⟨rfl,B⟩
section
variable {w:World}{a:Option Addr}{c:Nat}{l:List UInt8}
theorem segment_places_ok(hl:Rd w a (l.map byteV))(hc:l.length≤c)(hs:l.length≤140737488355328)(at_:Int)(n:Nat)(hn:n≤1000) :
  Calls Tryz.prog f.segment_places #[.slice a l.length c,.int .i64 at_,.int .i64 (n:Int)] w (Ret fun v w'=>PlV (takePl 1073741824 l at_ n) w w' v):=by
 apply R.segment_places_calls
 unfold R.segment_places
 refine (wire_TakeNumber_ok hl hc (by omega) at_ ).mono ?_
 rintro _ w1 ⟨_,rfl,rfl,rfl⟩
 obtain⟨r0,at0,e0,hv0,hk0,hr0,hx0⟩:=num_open _ (rfl:takeN l at_=takeN l at_)
 rw [hv0]
 have hbad:takeN l at_=none→takePl 1073741824 l at_ n=none:=fun h=>by simp [takePl,h]
 refine⟨_,_,_,rfl,IFB_ne (fun h=>.bad ?_ (.refl _ _)) (fun he0=>?_)⟩
 ·rcases hx0 with ⟨h2,_⟩ | ⟨_,h2⟩
  ·exact absurd h2 h
  ·exact hbad h2
 have hx0':takeN l at_=some (r0,at0):=by
  rcases hx0 with ⟨_,h2⟩ | ⟨h2,_⟩
  ·exact h2
  ·exact absurd he0 h2
 refine IFB_dec (fun h=>.bad ?_ (.refl _ _)) (fun h24=>?_)
 ·have:1024<r0:=by omega
  simp [takePl,hx0',this]
 have hT:takePl 1073741824 l at_ n=(takeFoots 1073741824 l at0 n).map fun r=>(r0,r.1):=by
  have:¬ 1024<r0:=by omega
  simp [takePl,hx0',this]
 rw [hT]
 refine⟨fun s w2=>∃(i at1:Nat) (ns:List Nat) (na:Option Addr) (nc:Nat),s=[.int .i64 (at1:Int),.slice na ns.length nc,.int .i64 (i:Int)]∧i≤n∧ns.length=i∧at1≤l.length ∧
   takeFoots 1073741824 l at0 n=((takeFoots 1073741824 l at1 (n-i)).map fun r=>(ns++r.1,r.2))∧ST w1 w2 [intsI na nc ns],fun s _=>match s with
  | [_,_,.int _ i]=>n-i.toNat
  | _=>0,⟨0,at0,[],none,0,rfl,by omega,rfl,by omega,by simp,(ST.start w1).nil _ _⟩,?_⟩
 rintro _ na _ nc _ w2 ⟨i,at1,ns,_,_,hst,hi,hni,hat,hrel,S⟩
 cases hst
 refine IFB_dec (fun hlt=>?_) (fun hge=>?_)
 ·obtain⟨m,hm⟩:∃ m,n-i=m+1:=⟨n-i-1,by omega⟩
  rw [hm] at hrel
  have hl2:=hl.grown S.bel
  refine (wire_TakeNumber_ok hl2 hc (by omega) (at1:Int) ).mono ?_
  rintro _ w2 ⟨_,rfl,rfl,rfl⟩
  obtain⟨x1,x2,e1,hv1,hk1,hr1,hx1⟩:=num_open _ (rfl:takeN l (at1:Int)=takeN l (at1:Int))
  rw [hv1]
  refine⟨_,_,_,rfl,(wire_TakeNumber_ok hl2 hc (by omega) (x2:Int) ).mono ?_⟩
  rintro _ w2 ⟨_,rfl,rfl,rfl⟩
  obtain⟨y1,y2,e2,hv2,hk2,hr2,hx2⟩:=num_open _ (rfl:takeN l (x2:Int)=takeN l (x2:Int))
  rw [hv2]
  refine⟨_,_,_,rfl,(value_Take_ok hl2 hc hs (y2:Int)).mono ?_⟩
  rintro _ w5 ⟨_,rfl,rfl,B5⟩
  have S:=S.grown B5
  obtain⟨u1,u2,e3,hv3,hk3,hx3⟩:=val_open _ (rfl:takeV l (y2:Int)=takeV l (y2:Int))
  rw [hv3]
  refine⟨_,_,_,_,_,rfl,S.lit3 fun b26 w9 _ S=>(value_Take_ok (hl.grown S.bel) hc hs (u2:Int)).mono ?_⟩
  rintro _ w10 ⟨_,rfl,rfl,B10⟩
  have S:=S.grown B10
  obtain⟨v1,v2,e4,hv4,hk4,hx4⟩:=val_open _ (rfl:takeV l (u2:Int)=takeV l (u2:Int))
  rw [hv4]
  refine⟨_,_,_,_,_,rfl,S.lit3 fun b33 w14 _ S=>?_⟩
  have fail:takeFoots 1073741824 l at1 (m+1)=none→((takeFoots 1073741824 l at0 n).map fun r=>(r0,r.1))=none:=fun h=>by rw [hrel,h];rfl
  refine IFB_ne (fun h=>.bad (fail ?_) S.bel) (fun h1=>?_)
  ·rcases hx1 with ⟨h2,_⟩ | ⟨_,h2⟩
   ·exact absurd h2 h
   ·simp [takeFoots,h2]
  have g1:takeN l (at1:Int)=some (x1,x2):=by
   rcases hx1 with ⟨_,h2⟩ | ⟨h2,_⟩
   ·exact h2
   ·exact absurd h1 h2
  refine IFB_ne (fun h=>.bad (fail ?_) S.bel) (fun h1=>?_)
  ·rcases hx2 with ⟨h2,_⟩ | ⟨_,h2⟩
   ·exact absurd h2 h
   ·simp [takeFoots,g1,h2]
  have g2:takeN l (x2:Int)=some (y1,y2):=by
   rcases hx2 with ⟨_,h2⟩ | ⟨h2,_⟩
   ·exact h2
   ·exact absurd h1 h2
  refine IFB_ne (fun h=>.bad (fail ?_) S.bel) (fun h1=>?_)
  ·rcases hx3 with ⟨h2,_⟩ | ⟨_,h2⟩
   ·exact absurd h2 h
   ·simp [takeFoots,g1,g2,h2]
  have g3:takeV l (y2:Int)=some (u1,u2):=by
   rcases hx3 with ⟨_,h2⟩ | ⟨h2,_⟩
   ·exact h2
   ·exact absurd h1 h2
  refine IFB_ne (fun h=>.bad (fail ?_) S.bel) (fun h1=>?_)
  ·rcases hx4 with ⟨h2,_⟩ | ⟨_,h2⟩
   ·exact absurd h2 h
   ·simp [takeFoots,g1,g2,g3,h2]
  have g4:takeV l (u2:Int)=some (v1,v2):=by
   rcases hx4 with ⟨_,h2⟩ | ⟨h2,_⟩
   ·exact h2
   ·exact absurd h1 h2
  refine IFB_dec (fun h=>.bad (fail ?_) S.bel) (fun hlim=>?_)
  ·have:1073741824<x1:=by omega
   simp [takeFoots,g1,g2,g3,g4,this]
  rw [wrap_i64 (n:=(x1:Int)) (by omega) (by omega)]
  refine S.newB fun b34 w15 _ _ S=>?_
  have hsrc:Rd w15 (some ⟨b34,0,none⟩) [Value.int .i64 (x1:Int)]:=S.rdc 0 rfl
  refine stAppN S 3 rfl hsrc (by omega) fun a16 c16 w16 S=>⟨_,_,_,rfl,?_⟩
  rw [wrap_succ (by omega)]
  refine⟨⟨i+1,v2,ns++[x1],a16,c16,rfl,by omega,by simp [hni],by omega,?_,S.drop 3⟩,?_⟩
  ·rw [hrel,show n-(i+1)=m by omega]
   have:¬ 1073741824<x1:=by omega
   simp only [takeFoots,g1,g2,g3,g4,this,if_false,Option.map_map]
   congr 1
   funext r
   simp
  ·show n-((i+1:Nat):Int).toNat<n-(i:Int).toNat
   omega
 ·have:n-i=0:=by omega
  rw [this] at hrel
  simp only [takeFoots,Option.map_some,List.append_nil] at hrel
  rw [hrel,wrap_i64 (n:=(r0:Int)) (by omega) (by omega)]
  exact⟨na,nc,rfl,S⟩
theorem ref09_sizes_ok(hl:Rd w a (l.map byteV))(hc:l.length≤c)(hs:l.length≤140737488355328)(at_:Int)(hat0:at_≤9223372036854775807)(n:Nat)(hn:n≤1000) :
  Calls Tryz.prog f.ref09_sizes #[.slice a l.length c,.int .i64 at_,.int .i64 (n:Int)] w (Ret fun v w'=>PlV (takePl 100000000 l at_ n) w w' v):=by
 apply R.ref09_sizes_calls
 unfold R.ref09_sizes
 refine (ref_TakeNumber_ok hl (by omega) at_ hat0).mono ?_
 rintro _ w1 ⟨_,rfl,rfl,rfl⟩
 obtain⟨r0,at0,e0,hv0,hk0,hr0,hx0⟩:=num_open _ (rfl:takeN l at_=takeN l at_)
 rw [hv0]
 have hbad:takeN l at_=none→takePl 100000000 l at_ n=none:=fun h=>by simp [takePl,h]
 refine⟨_,_,_,rfl,IFB_ne (fun h=>.bad ?_ (.refl _ _)) (fun he0=>?_)⟩
 ·rcases hx0 with ⟨h2,_⟩ | ⟨_,h2⟩
  ·exact absurd h2 h
  ·exact hbad h2
 have hx0':takeN l at_=some (r0,at0):=by
  rcases hx0 with ⟨_,h2⟩ | ⟨h2,_⟩
  ·exact h2
  ·exact absurd he0 h2
 refine IFB_dec (fun h=>.bad ?_ (.refl _ _)) (fun h24=>?_)
 ·have:1024<r0:=by omega
  simp [takePl,hx0',this]
 have hT:takePl 100000000 l at_ n=(takeFoots 100000000 l at0 n).map fun r=>(r0,r.1):=by
  have:¬ 1024<r0:=by omega
  simp [takePl,hx0',this]
 rw [hT]
 refine⟨fun s w2=>∃(i at1:Nat) (ns:List Nat) (na:Option Addr) (nc:Nat),s=[.int .i64 (at1:Int),.slice na ns.length nc,.int .i64 (i:Int)]∧i≤n∧ns.length=i∧at1≤l.length ∧
   takeFoots 100000000 l at0 n=((takeFoots 100000000 l at1 (n-i)).map fun r=>(ns++r.1,r.2))∧ST w1 w2 [intsI na nc ns],fun s _=>match s with
  | [_,_,.int _ i]=>n-i.toNat
  | _=>0,⟨0,at0,[],none,0,rfl,by omega,rfl,by omega,by simp,(ST.start w1).nil _ _⟩,?_⟩
 rintro _ na _ nc _ w2 ⟨i,at1,ns,_,_,hst,hi,hni,hat,hrel,S⟩
 cases hst
 refine IFB_dec (fun hlt=>?_) (fun hge=>?_)
 ·obtain⟨m,hm⟩:∃ m,n-i=m+1:=⟨n-i-1,by omega⟩
  rw [hm] at hrel
  have hl2:=hl.grown S.bel
  refine (ref_TakeNumber_ok hl2 (by omega) (at1:Int) (by omega)).mono ?_
  rintro _ w2 ⟨_,rfl,rfl,rfl⟩
  obtain⟨x1,x2,e1,hv1,hk1,hr1,hx1⟩:=num_open _ (rfl:takeN l (at1:Int)=takeN l (at1:Int))
  rw [hv1]
  refine⟨_,_,_,rfl,(ref_TakeNumber_ok hl2 (by omega) (x2:Int) (by omega)).mono ?_⟩
  rintro _ w2 ⟨_,rfl,rfl,rfl⟩
  obtain⟨y1,y2,e2,hv2,hk2,hr2,hx2⟩:=num_open _ (rfl:takeN l (x2:Int)=takeN l (x2:Int))
  rw [hv2]
  refine⟨_,_,_,rfl,(ref04_Take_ok hl2 hc hs (y2:Int)).mono ?_⟩
  rintro _ w5 ⟨_,rfl,rfl,B5⟩
  have S:=S.grown B5
  obtain⟨u1,u2,e3,hv3,hk3,hx3⟩:=val_open _ (rfl:takeV l (y2:Int)=takeV l (y2:Int))
  rw [hv3]
  refine⟨_,_,_,_,_,rfl,S.lit3 fun b26 w9 _ S=>(ref04_Take_ok (hl.grown S.bel) hc hs (u2:Int)).mono ?_⟩
  rintro _ w10 ⟨_,rfl,rfl,B10⟩
  have S:=S.grown B10
  obtain⟨v1,v2,e4,hv4,hk4,hx4⟩:=val_open _ (rfl:takeV l (u2:Int)=takeV l (u2:Int))
  rw [hv4]
  refine⟨_,_,_,_,_,rfl,S.lit3 fun b33 w14 _ S=>?_⟩
  have fail:takeFoots 100000000 l at1 (m+1)=none→((takeFoots 100000000 l at0 n).map fun r=>(r0,r.1))=none:=fun h=>by rw [hrel,h];rfl
  refine IFB_ne (fun h=>.bad (fail ?_) S.bel) (fun h1=>?_)
  ·rcases hx1 with ⟨h2,_⟩ | ⟨_,h2⟩
   ·exact absurd h2 h
   ·simp [takeFoots,h2]
  have g1:takeN l (at1:Int)=some (x1,x2):=by
   rcases hx1 with ⟨_,h2⟩ | ⟨h2,_⟩
   ·exact h2
   ·exact absurd h1 h2
  refine IFB_ne (fun h=>.bad (fail ?_) S.bel) (fun h1=>?_)
  ·rcases hx2 with ⟨h2,_⟩ | ⟨_,h2⟩
   ·exact absurd h2 h
   ·simp [takeFoots,g1,h2]
  have g2:takeN l (x2:Int)=some (y1,y2):=by
   rcases hx2 with ⟨_,h2⟩ | ⟨h2,_⟩
   ·exact h2
   ·exact absurd h1 h2
  refine IFB_ne (fun h=>.bad (fail ?_) S.bel) (fun h1=>?_)
  ·rcases hx3 with ⟨h2,_⟩ | ⟨_,h2⟩
   ·exact absurd h2 h
   ·simp [takeFoots,g1,g2,h2]
  have g3:takeV l (y2:Int)=some (u1,u2):=by
   rcases hx3 with ⟨_,h2⟩ | ⟨h2,_⟩
   ·exact h2
   ·exact absurd h1 h2
  refine IFB_ne (fun h=>.bad (fail ?_) S.bel) (fun h1=>?_)
  ·rcases hx4 with ⟨h2,_⟩ | ⟨_,h2⟩
   ·exact absurd h2 h
   ·simp [takeFoots,g1,g2,g3,h2]
  have g4:takeV l (u2:Int)=some (v1,v2):=by
   rcases hx4 with ⟨_,h2⟩ | ⟨h2,_⟩
   ·exact h2
   ·exact absurd h1 h2
  refine IFB_dec (fun h=>.bad (fail ?_) S.bel) (fun hlim=>?_)
  ·have:100000000<x1:=by omega
   simp [takeFoots,g1,g2,g3,g4,this]
  rw [wrap_i64 (n:=(x1:Int)) (by omega) (by omega)]
  refine S.newB fun b34 w15 _ _ S=>?_
  have hsrc:Rd w15 (some ⟨b34,0,none⟩) [Value.int .i64 (x1:Int)]:=S.rdc 0 rfl
  refine stAppN S 3 rfl hsrc (by omega) fun a16 c16 w16 S=>⟨_,_,_,rfl,?_⟩
  rw [wrap_succ (by omega)]
  refine⟨⟨i+1,v2,ns++[x1],a16,c16,rfl,by omega,by simp [hni],by omega,?_,S.drop 3⟩,?_⟩
  ·rw [hrel,show n-(i+1)=m by omega]
   have:¬ 100000000<x1:=by omega
   simp only [takeFoots,g1,g2,g3,g4,this,if_false,Option.map_map]
   congr 1
   funext r
   simp
  ·show n-((i+1:Nat):Int).toNat<n-(i:Int).toNat
   omega
 ·have:n-i=0:=by omega
  rw [this] at hrel
  simp only [takeFoots,Option.map_some,List.append_nil] at hrel
  rw [hrel,wrap_i64 (n:=(r0:Int)) (by omega) (by omega)]
  exact⟨na,nc,rfl,S⟩
end
theorem drop_cons_iff{l:List UInt8}{at_:Nat}{c:UInt8}{r:List UInt8}(h:l.drop at_=c :: r):at_<l.length∧l.getD at_ 0=c∧l.drop (at_+1)=r:=by
 have hlt:at_<l.length:=by
  rcases Nat.lt_or_ge at_ l.length with h1 | h1
  ·exact h1
  ·rw [List.drop_eq_nil_of_le h1] at h;cases h
 have h2:=List.drop_eq_getElem_cons hlt
 rw [h2] at h
 injection h with h3 h4
 exact⟨hlt,by simp [List.getD,hlt,h3],h4⟩
theorem takeT_drop{l r:List UInt8}{at_ most:Nat}{s:ByteArray}(hs:s.size≤most)(hm:most≤1048576)(h:l.drop at_=textL s++r):takeT l (at_:Int) most=some (bl s,at_+(textL s).length):=by
 unfold textL at h
 rw [List.append_assoc] at h
 have h1:=takeN_drop (m:=s.size) (by omega) h
 have h2:=drop_more h
 have hbl:=bl_length s
 have hlen:=congrArg List.length h2
 rw [List.length_drop,List.length_append,hbl] at hlen
 unfold takeT
 rw [h1]
 have hno:¬ (1048576<s.size∨most<s.size∨l.length-(at_+(digitsL s.size).length)<s.size):=by omega
 simp only [if_neg hno,Option.some.injEq,Prod.mk.injEq]
 refine⟨?_,?_⟩
 ·rw [h2,← hbl,List.take_left]
 ·simp only [textL,List.length_append,hbl]
  omega
theorem takeV_drop{l r:List UInt8}{at_:Nat}{v:Val}(hr:rightB v=true)(hv:ValOk v)(h:l.drop at_=layL v++r):takeV l (at_:Int)=some (v,at_+(layL v).length):=by
 have eI:((at_:Int)+1)=((at_+1:Nat):Int):=by omega
 obtain⟨k,n,s⟩:=v
 rcases right_kind hr with hk | hk | ⟨hk,hn⟩ | ⟨hk,hs⟩
 ·simp only at hk
  subst hk
  simp [rightB] at hr
  obtain⟨rfl,rfl⟩:=hr
  simp only [layL] at h ⊢
  obtain⟨h1,h2,h3⟩:=drop_cons_iff (c:=0) (r:=r) (by simpa using h)
  unfold takeV
  rw [if_neg (by omega),Int.toNat_natCast,h2]
  simp
 ·simp only at hk
  subst hk
  simp [rightB] at hr
  subst hr
  simp only [layL,if_true] at h ⊢
  obtain⟨h1,h2,h3⟩:=drop_cons_iff (c:=1) (r:=digitsL (zigN n)++r) (by simpa using h)
  have h4:=takeN_drop (zigN_lt hv.lo hv.hi) h3
  unfold takeV
  rw [if_neg (by omega),Int.toNat_natCast,h2,eI,h4]
  simp only [List.length_cons,Option.map_some]
  have:=unzig_zig (n:=n)
  simp [this]
  omega
 ·simp only at hk hn
  subst hk
  simp [rightB] at hr
  obtain⟨_,rfl⟩:=hr
  simp only [layL] at h ⊢
  obtain⟨h1,h2,h3⟩:=drop_cons_iff (c:=2) (r:=UInt8.ofNat n.toNat :: r) (by simpa using h)
  obtain⟨h4,h5,h6⟩:=drop_cons_iff h3
  have e5:(l.getD (at_+1) 0).toNat=n.toNat:=by rw [h5];rcases hn with rfl | rfl <;> rfl
  unfold takeV
  rw [if_neg (by omega),Int.toNat_natCast,h2]
  simp only
  have h7:(at_:Int)+1<(l.length:Int)∧(l.getD (at_+1) 0).toNat≤1:=⟨by omega,by omega⟩
  rw [if_neg (by decide),if_neg (by decide),if_pos (by decide),if_pos h7,e5]
  rcases hn with rfl | rfl <;> rfl
 ·simp only at hk hs
  subst hk
  simp [rightB] at hr
  obtain⟨rfl,_⟩:=hr
  simp only [layL] at h ⊢
  obtain⟨h1,h2,h3⟩:=drop_cons_iff (c:=3) (r:=textL s++r) (by simpa using h)
  have h4:=takeT_drop (most:=1024) hs (by omega) h3
  unfold takeV
  rw [if_neg (by omega),Int.toNat_natCast,h2,eI,h4]
  simp [sof_bl]
  omega
theorem takeCols_drop:∀(cs:List Col) {l r:List UInt8} {at_:Nat},(∀ c∈cs,c.1.size≤24∧1≤c.2.1∧c.2.1≤3)→l.drop at_=cs.flatMap colB++r→takeCols l at_ cs.length=some (cs,at_+(cs.flatMap colB).length)
 | [],l,r,at_,_,_=>rfl
 | c :: cs,l,r,at_,hq,h=>by
  obtain⟨hs,hk1,hk2⟩:=hq c (by simp)
  rw [List.flatMap_cons,List.append_assoc] at h
  have h0:l.drop at_=textL c.1++([UInt8.ofNat c.2.1.toNat,flagB c.2.2]++(cs.flatMap colB++r)):=by rw [h];simp [colB]
  have h1:=takeT_drop (most:=24) hs (by omega) h0
  have h2:=drop_more h0
  obtain⟨g1,g2,g3⟩:=drop_cons_iff (c:=UInt8.ofNat c.2.1.toNat) (r:=flagB c.2.2 :: (cs.flatMap colB++r)) (by simpa using h2)
  obtain⟨g4,g5,g6⟩:=drop_cons_iff g3
  have hf:(flagB c.2.2).toNat≤1:=by unfold flagB;split <;> decide
  have hkk:((UInt8.ofNat c.2.1.toNat).toNat:Int)=c.2.1:=by
   have:c.2.1=1∨c.2.1=2∨c.2.1=3:=by omega
   rcases this with h | h | h <;> rw [h] <;> rfl
  have hfl:((flagB c.2.2).toNat==1)=c.2.2:=by unfold flagB;cases c.2.2 <;> rfl
  have ih:=takeCols_drop cs (l:=l) (r:=r) (at_:=at_+(textL c.1).length+2) (fun c hc=>hq c (by simp [hc])) (by rw [← g6])
  show takeCols l at_ (cs.length+1)=_
  unfold takeCols
  rw [h1]
  simp only
  have hno:¬ (l.length-(at_+(textL c.1).length)<2∨1<(l.getD (at_+(textL c.1).length+1) 0).toNat):=by rw [g5];omega
  rw [if_neg hno,ih,g2,g5]
  simp only [Option.map_some,Option.some.injEq,Prod.mk.injEq,sof_bl,hkk,hfl,true_and]
  simp only [List.flatMap_cons,colB,List.length_append,List.length_cons,List.length_nil]
  omega
theorem takeSch_drop{cs:List Col}(hR:rightCols cs=true){l r:List UInt8}{at_:Nat}(h:l.drop at_=schL cs++r):takeSch l (at_:Int)=some (cs,at_+(schL cs).length):=by
 have hl:=right_len hR
 unfold schL at h
 rw [List.append_assoc] at h
 have h1:=takeN_drop (m:=cs.length) (by omega) h
 have h2:=takeCols_drop cs (fun c hc=>by obtain⟨_,a,b,c⟩:=right_col hR hc;exact⟨c,a,b⟩) (drop_more h)
 unfold takeSch
 rw [h1]
 simp only
 rw [if_neg (by omega),h2]
 simp only [hR,if_true,schL,List.length_append]
 congr 2
 omega
theorem takeFoots_drop(lim:Nat):∀(ps:List (List UInt8 × List Val)) {l r:List UInt8} {at_:Nat},(∀ p∈ps,p.1.length≤lim∧p.1.length≤2000300∧∃ k,Good1 k p.2)→l.drop at_=(ps.map fun p=>footC p.1 p.2).flatten++r →
  takeFoots lim l at_ ps.length=some (ps.map (·.1.length),at_+((ps.map fun p=>footC p.1 p.2).flatten).length)
 | [],l,r,at_,_,_=>rfl
 | p :: ps,l,r,at_,hq,h=>by
  obtain⟨hlim,hx,k,hg⟩:=hq p (by simp)
  have hz:=hg.zone
  rw [List.map_cons,List.flatten_cons,List.append_assoc] at h
  rw [footC] at h
  simp only [List.append_assoc] at h
  have hnl:nullsN p.2<18446744073709551616:=by have:=nullsN_le p.2;have:=hg.len;omega
  have h1:=takeN_drop (m:=p.1.length) (by omega) h
  have d1:=drop_more h
  have h2:=takeN_drop hnl d1
  have d2:=drop_more d1
  have h3:=takeV_drop hz.1.1 hz.1.2 d2
  have d3:=drop_more d2
  have h4:=takeV_drop hz.2.1 hz.2.2 d3
  have d4:=drop_more d3
  have ih:=takeFoots_drop lim ps (fun p hp=>hq p (by simp [hp])) d4
  show takeFoots lim l at_ (ps.length+1)=_
  unfold takeFoots
  rw [h1]
  simp only
  rw [h2]
  simp only
  rw [h3]
  simp only
  rw [h4]
  simp only
  rw [if_neg (by omega),ih]
  simp only [Option.map_some,List.map_cons,List.flatten_cons,List.length_append,footC,Option.some.injEq,Prod.mk.injEq,true_and]
  omega
theorem takeFoots_len(lim:Nat){l:List UInt8}:∀(n at_:Nat) {r:List Nat × Nat},takeFoots lim l at_ n=some r→r.1.length=n
 | 0,at_,r,h=>by simp [takeFoots] at h;rw [← h];rfl
 | n+1,at_,r,h=>by
  unfold takeFoots at h
  split at h
  ·cases h
  ·split at h
   ·cases h
   ·split at h
    ·cases h
    ·split at h
     ·cases h
     ·split at h
      ·cases h
      ·obtain⟨x,hx,he⟩:=Option.map_eq_some_iff.1 h
       rw [← he]
       simp [takeFoots_len lim n _ hx]
theorem takePl_len{lim:Nat}{l:List UInt8}{at_:Int}{n:Nat}{r:Nat × List Nat}(h:takePl lim l at_ n=some r):r.2.length=n∧r.1≤1024:=by
 unfold takePl at h
 split at h
 ·cases h
 ·split at h
  ·cases h
  ·obtain⟨x,hx,he⟩:=Option.map_eq_some_iff.1 h
   rw [← he]
   exact⟨takeFoots_len lim n _ hx,by simp only;omega⟩
section
variable {cs:List Col}{rows:List (List Val)}{xs:List (List UInt8)}
theorem foot_sch(hs:SegOk cs rows):takeSch (footL cs rows xs) 0=some (cs,(schL cs).length):=by
 have:=takeSch_drop hs.right (l:=footL cs rows xs) (at_:=0) (r:=digitsL rows.length++footsL rows xs) (by simp [footL])
 simpa using this
theorem foot_pl{lim:Nat}(hlim:2000300≤lim)(hs:SegOk cs rows)(hx:ChsIs cs rows xs)(hl:xs.length=cs.length):takePl lim (footL cs rows xs) ((schL cs).length:Int) cs.length=some (rows.length,xs.map List.length):=by
 have d0:(footL cs rows xs).drop (schL cs).length=digitsL rows.length++(footsL rows xs++[]):=by
  rw [footL,List.append_assoc,List.drop_left]
  simp
 have h1:=takeN_drop (m:=rows.length) (by have:=hs.len;omega) d0
 have d1:=drop_more d0
 obtain⟨ps,hps⟩:∃ ps,ps=xs.mapIdx fun i x=>(x,colOf rows i):=⟨_,rfl⟩
 have e1:footsL rows xs=(ps.map fun p=>footC p.1 p.2).flatten:=by
  rw [hps,footsL]
  congr 1
  refine List.ext_getElem (by simp) fun i h1 h2=>?_
  simp
 have e2:ps.length=cs.length:=by rw [hps,List.length_mapIdx,hl]
 have e3:ps.map (·.1.length)=xs.map List.length:=by
  rw [hps]
  refine List.ext_getElem (by simp) fun i h1 h2=>?_
  simp
 rw [e1] at d1
 have h2:=takeFoots_drop lim ps (l:=footL cs rows xs) (r:=[]) (fun p hp=>by
  rw [hps] at hp
  obtain⟨i,hi,rfl⟩:=List.mem_mapIdx.1 hp
  have:=hx.lens hs _ (List.getElem_mem hi)
  exact⟨by simp only;omega,this,_,hs.good (by omega:i<cs.length)⟩) d1
 rw [e2,e3] at h2
 unfold takePl
 rw [h1]
 simp only
 rw [if_neg (by have:=hs.len;omega),h2]
 rfl
end
section
variable {w:World}{a:Option Addr}{c:Nat}{l:List UInt8}
theorem Backward_ok:Calls Tryz.prog f.slices_Backward_byte_byte #[.slice a l.length c] w (Ret fun v w'=>∃ b1,v=.func (.func f.slices_Backward_byte_byte__c1) #[] #[.pointer (some ⟨b1,0,none⟩)]∧ST w w' [It.cells b1 #[.slice a l.length c] ty.L_uint8]):=by
 apply R.slices_Backward_byte_byte_calls
 unfold R.slices_Backward_byte_byte
 exact (ST.start w).newB fun b1 w1 _ _ S1=>⟨b1,rfl,S1⟩
theorem backward_c1_ok{L b:Nat}(hn:l.length≤1000000)(J:Nat→World→Prop)(hrd:∀ k w,J k w→Rd w a (l.map byteV)∧w.cell? ⟨b,0,none⟩=some (.slice a l.length c))
  (hstep:∀ k w (hk:k<l.length),J k w→YLD Tryz.prog L #[.int .i64 ((l.length-1-k:Nat):Int),.int .u8 ((l[l.length-1-k]'(by omega)).toNat:Int)] (fun y w'=>y=true∧J (k+1) w') w) (h0:J 0 w) :
  Calls Tryz.prog f.slices_Backward_byte_byte__c1 #[.func (.yield L) #[] #[],.pointer (some ⟨b,0,none⟩)] w (Ret fun _ w'=>J l.length w'):=by
 apply R.slices_Backward_byte_byte__c1_calls
 unfold R.slices_Backward_byte_byte__c1
 refine⟨_,_,_,(hrd _ _ h0).2,fun s w1=>∃ k:Nat,k≤l.length∧s=[.int .i64 ((l.length:Int)-1-(k:Int))]∧J k w1,fun s _=>match s with
   | [.int _ i]=>(i+1).toNat
   | _=>0,⟨0,by omega,by rw [wrap_i64 (by omega) (by omega)];simp,h0⟩,?_⟩
 rintro _ w1 ⟨k,hk,hst,hj⟩
 cases hst
 refine IFB_dec (fun hlt=>?_) (fun hge=>?_)
 ·have hkl:k<l.length:=by omega
  obtain⟨r1,r2⟩:=hrd _ _ hj
  have e:(l.length:Int)-1-(k:Int)=((l.length-1-k:Nat):Int):=by omega
  have hi:l.length-1-k<l.length:=by omega
  obtain⟨p,hp,hc⟩:=byte_at r1 hi
  rw [e]
  refine⟨_,_,_,r2,⟨by omega,by omega⟩,?_⟩
  rw [hp]
  refine⟨_,by rw [Int.toNat_natCast];exact hc,?_⟩
  refine (hstep k w1 hkl hj).mono ?_
  rintro y w2 ⟨rfl,h⟩
  rw [wrap_i64 (by omega) (by omega)]
  refine IFB_false ⟨⟨k+1,by omega,by rw [← e];congr 2;omega,h⟩,?_⟩
  show (((l.length-1-k:Nat):Int)-1+1).toNat<(((l.length-1-k:Nat):Int)+1).toNat
  omega
 ·have:k=l.length:=by omega
  subst this
  exact hj
end
theorem or_byte{n x:Nat}(hn:n<1099511627776)(hx:x<256):IntKind.i64.wrap (((BitVec.ofInt 64 (IntKind.i64.wrap ((n:Int)*2 ^ (min 8 64))) ||| BitVec.ofInt 64 (IntKind.i64.wrap (x:Int))).toNat:Int))=((n*256+x:Nat):Int):=by
 have e1:(n:Int)*2 ^ (min 8 64)=((n*256:Nat):Int):=by
  rw [show min 8 64=8 from rfl]
  omega
 rw [e1,wrap_i64 (n:=((n*256:Nat):Int)) (by omega) (by omega),wrap_i64 (n:=(x:Int)) (by omega) (by omega),BitVec.toNat_or,BitVec.ofInt_natCast,BitVec.ofInt_natCast,BitVec.toNat_ofNat,BitVec.toNat_ofNat,Nat.mod_eq_of_lt (by omega),Nat.mod_eq_of_lt (by omega)]
 have e2:n*256 ||| x=n*256+x:=by
  have:=Nat.two_pow_add_eq_or_of_lt (i:=8) (b:=x) hx n
  rw [show 2 ^ 8*n=n*256 by omega] at this
  exact this.symm
 rw [e2,wrap_i64 (by omega) (by omega)]
def accN(l:List UInt8)(k:Nat):Nat:=(l.reverse.take k).foldl (fun n c=>n*256+c.toNat) 0
theorem accN_succ{l:List UInt8}{k:Nat}(hk:k<l.length):accN l (k+1)=accN l k*256+(l[l.length-1-k]'(by omega)).toNat:=by
 unfold accN
 rw [List.take_succ_eq_append_getElem (by simpa using hk),List.foldl_append]
 simp only [List.foldl_cons,List.foldl_nil]
 congr 2
 rw [List.getElem_reverse]
theorem accN_lt{l:List UInt8}:∀ k,k≤l.length→accN l k<256 ^ k
 | 0,_=>by simp [accN]
 | k+1,h=>by
  have ih:=accN_lt (l:=l) k (by omega)
  rw [accN_succ (by omega),Nat.pow_succ]
  have:=(l[l.length-1-k]'(by omega)).toNat_lt
  omega
theorem accN_low(n:Nat)(hn:n<4294967296):accN (lowB n) 4=n:=by
 have h:∀ m,m<256→(UInt8.ofNat m).toNat=m:=fun m hm=>by simp;omega
 simp only [accN,lowB,List.reverse_cons,List.reverse_nil,List.nil_append,List.cons_append,List.take_succ_cons,List.take_zero,List.foldl_cons,List.foldl_nil]
 rw [h _ (by omega),h _ (by omega),h _ (by omega),h _ (by omega)]
 omega
def zonC(q:RowP):List Value:=(zC (nullsN q.2.2:Int) (zmm q.2.2)).toList
structure ColsAt(w:World)(p:Addr)(cs:List Col)(cps:List RowP)(n:Nat):Prop where
 cols:∃ a c,w.cell? p=some (.slice a cs.length c)∧Rd w a (colsL cs)
 vals:∃ a c,w.cell? (p.add 1)=some (.slice a cps.length c)∧RowsAt w a cps
 zones:∃ a c,w.cell? (p.add 2)=some (.slice a cps.length c)∧Rd w a (cps.flatMap zonC)
 many:w.cell? (p.add 3)=some (.int .i64 (n:Int))
 right:rightCols cs=true
 len:cps.length=cs.length
 small:n≤1024
 each:∀ q∈cps,q.2.2.length=n∧∃ k,Good1 k q.2.2
structure PreIs(cs:List Col)(rows:List (List Val))(xs:List (List UInt8))(b:List UInt8):Prop where
 ok:SegOk cs rows
 chs:ChsIs cs rows xs
 len:xs.length=cs.length
 eq:b=preL cs rows xs
theorem PreIs.split{cs:List Col}{rows:List (List Val)}{xs:List (List UInt8)}{b:List UInt8}(h:PreIs cs rows xs b):8≤b.length∧accN (b.drop (b.length-4)) 4=(footL cs rows xs).length∧(footL cs rows xs).length≤b.length-8 ∧
  ((b.take (b.length-4)).drop (b.length-4-(footL cs rows xs).length))=footL cs rows xs∧((b.take (b.length-4-(footL cs rows xs).length)).drop 4)=xs.flatten:=by
 have hf:=h.chs.footLen h.ok
 obtain⟨ft,hft⟩:∃ ft,ft=footL cs rows xs:=⟨_,rfl⟩
 have e:=h.eq
 unfold preL at e
 rw [← hft] at e hf ⊢
 have hm:magicB.length=4:=rfl
 have hlo:(lowB ft.length).length=4:=rfl
 have hl:b.length=4+xs.flatten.length+ft.length+4:=by rw [e];simp only [List.length_append,hm,hlo]
 have e1:b.length-4=(magicB++xs.flatten++ft).length:=by simp only [List.length_append,hm];omega
 have e2:b.length-4-ft.length=(magicB++xs.flatten).length:=by simp only [List.length_append,hm];omega
 refine⟨by omega,?_,by omega,?_,?_⟩
 ·rw [e1,e,List.drop_left]
  exact accN_low _ (by omega)
 ·rw [e2,e1,e,List.take_left,List.drop_left]
 ·rw [e2,e,List.append_assoc (magicB++xs.flatten),List.take_left,show 4=magicB.length from rfl,List.drop_left]
def ColV(b:List UInt8)(w w':World)(v:Value):Prop :=
 Below w.heap.size w w'∧((∃ p cs cps n,v=.tuple #[.pointer (some p),.bool true]∧ColsAt w' p cs cps n∧∀ cs' rows' xs',PreIs cs' rows' xs' b→cs=cs'∧n=rows'.length∧rws cps=(List.range cs'.length).map (colOf rows')) ∨
  (v=.tuple #[.pointer none,.bool false]∧∀ cs' rows' xs',¬ PreIs cs' rows' xs' b))
theorem tVV:slT Tryz.prog ty.L_L_api_Value=some (ty.L_api_Value,1,24,.slice none 0 0):=by kernel_rfl
theorem tZZ:slT Tryz.prog ty.L_api_Zone=some (ty.api_Zone,7,72,.agg #[.int .i64 0,.int .i64 0,.int .i64 0,.string ⟨#[]⟩,.int .i64 0,.int .i64 0,.string ⟨#[]⟩]):=by kernel_rfl
def topI(a:Option Addr)(c:Nat)(cps:List RowP):It:=It.row ty.L_api_Value 1 a cps.length c (cps.map rowV1)
def zonI(a:Option Addr)(c:Nat)(cps:List RowP):It:=It.row ty.api_Zone 7 a cps.length c (cps.flatMap zonC)
section
variable {w0 w:World}{H:List It}{a:Option Addr}{c:Nat}{cps:List RowP}
theorem stAppT(S:ST w0 w H)(n:Nat)(hn:H[n]?=some (topI a c cps)){x:RowP}{b:Nat}(hs:Rd w (some ⟨b,0,none⟩) [rowV1 x])(hl:cps.length+1≤1000000){f:Value→World→Prop}
  (hf:∀ a' c' w',ST w0 w' (H.set n (topI a' c' (cps++[x])))→f (.slice a' (cps++[x]).length c') w') :
  OPR Tryz.prog (Builtin.append_ #[ty.L_L_api_Value,ty.L_L_api_Value] ty.L_L_api_Value #[.slice a cps.length c,.slice (some ⟨b,0,none⟩) 1 1]) f w:=by
 refine S.app n hn tVV rfl (by omega) (by omega) hs (mm:=1) rfl (by simp [rowV1];rfl) (by omega) fun a' c' w' S'=>?_
 have e1:(cps++[x]).length=cps.length+1:=by simp
 have e2:cps.map rowV1++[rowV1 x]=(cps++[x]).map rowV1:=by simp
 rw [e2] at S'
 have:=hf a' c' w' (by unfold topI;rw [e1];exact S')
 rwa [e1] at this
theorem stAppZ(S:ST w0 w H)(n:Nat)(hn:H[n]?=some (zonI a c cps)){x:RowP}{b:Nat}(hs:Rd w (some ⟨b,0,none⟩) (zonC x))(hl:cps.length+1≤1000000){f:Value→World→Prop}
  (hf:∀ a' c' w',ST w0 w' (H.set n (zonI a' c' (cps++[x])))→f (.slice a' (cps++[x]).length c') w') :
  OPR Tryz.prog (Builtin.append_ #[ty.L_api_Zone,ty.L_api_Zone] ty.L_api_Zone #[.slice a cps.length c,.slice (some ⟨b,0,none⟩) 1 1]) f w:=by
 refine S.app n hn tZZ rfl (by omega) (by omega) hs (mm:=1) rfl (by simp [zonC,zC];exact⟨rfl,rfl,rfl,rfl,rfl,rfl,rfl⟩) (by omega) fun a' c' w' S'=>?_
 have e1:(cps++[x]).length=cps.length+1:=by simp
 have e2:cps.flatMap zonC++zonC x=(cps++[x]).flatMap zonC:=by simp
 rw [e2] at S'
 have:=hf a' c' w' (by unfold zonI;rw [e1];exact S')
 rwa [e1] at this
end
theorem takeSch_right{l:List UInt8}{at_:Int}{r:List Col × Nat}(h:takeSch l at_=some r):rightCols r.1=true:=by
 unfold takeSch at h
 split at h
 ·cases h
 ·split at h
  ·cases h
  ·split at h
   ·cases h
   ·split at h
    ·rename_i hR
     cases h
     exact hR
    ·cases h
theorem SchTV.open{o:Option (List Col × Nat)}{w0 w w':World}{v:Value}{H:List It}(S:ST w0 w H)(h:SchTV o w w' v)(hr:∀ r,o=some r→rightCols r.1=true):∃(cs:List Col) (ca:Option Addr) (cc at1:Nat) (e:Int),v=.tuple #[.slice ca cs.length cc,.int .i64 (at1:Int),.int .i64 e]∧ST w0 w' (colsI ca cc cs :: H) ∧
  cs.length≤16∧((e=0∧o=some (cs,at1)∧rightCols cs=true)∨(e≠0∧o=none)):=by
 cases o with
 | none =>
  obtain⟨rfl,B⟩:=h
  exact⟨[],none,0,0,52,rfl,(S.grown B).nil _ _,by simp,.inr ⟨by decide,rfl⟩⟩
 | some r =>
  obtain⟨ca,cc,rfl,S2⟩:=h
  have hR:=hr r rfl
  exact⟨r.1,ca,cc,r.2,0,rfl,S.join S2,(right_len hR).2,.inl ⟨rfl,rfl,hR⟩⟩
theorem PlV.open{o:Option (Nat × List Nat)}{w0 w w':World}{v:Value}{H:List It}(S:ST w0 w H)(h:PlV o w w' v):∃(r:Nat) (ns:List Nat) (na:Option Addr) (nc:Nat) (ok:Bool),v=.tuple #[.int .i64 (r:Int),.slice na ns.length nc,.bool ok]∧ST w0 w' (intsI na nc ns :: H) ∧
  ((ok=true∧o=some (r,ns))∨(ok=false∧o=none)):=by
 cases o with
 | none =>
  obtain⟨rfl,B⟩:=h
  exact⟨0,[],none,0,false,rfl,(S.grown B).nil _ _,.inr ⟨rfl,rfl⟩⟩
 | some r =>
  obtain⟨na,nc,rfl,S2⟩:=h
  exact⟨r.1,r.2,na,nc,true,rfl,S.join S2,.inl ⟨rfl,rfl⟩⟩
theorem nat_at{w:World}{a:Option Addr}{ns:List Nat}(h:Rd w a (ns.map fun n:Nat=>Value.int .i64 (n:Int))){i:Nat}(hi:i<ns.length):∃ p,a=some p∧w.cell? (p.add (i*1))=some (.int .i64 (ns[i]:Int)):=by
 obtain⟨p,hp,hc⟩:=h i (.int .i64 (ns[i]:Int)) (by simp [hi])
 exact⟨p,hp,by rw [Nat.mul_one];exact hc⟩
def rdI(q:RowP):It:=It.rd q.1 (valsL q.2.2)
theorem stAddRd{w0 w w':World}{H:List It}{a:Option Addr}{xs:List Value}(S:ST w0 w H)(B:Below w.heap.size w w')(h:RdN w w' a xs):ST w0 w' (It.rd a xs :: H):=by
 refine S.add B _ h.rd fun k hk=>h.new k ?_
 cases xs with
 | nil=>cases hk
 | cons x xs=>exact hk
theorem flatten_drop{xs:List (List UInt8)}{i:Nat}(hi:i<xs.length):(xs.drop i).flatten=xs[i]++(xs.drop (i+1)).flatten:=by
 rw [List.drop_eq_getElem_cons hi,List.flatten_cons]
section
variable {w:World}{a:Option Addr}{c:Nat}{b:List UInt8}
theorem read_slices(hl:Rd w a (b.map byteV))(hc:b.length≤c){n:Nat}(h8:8≤b.length)(hn:n≤b.length-8) :
  Rd w (SLA (SLA a 0 c 1) (b.length-4-n) c 1) (((b.take (b.length-4)).drop (b.length-4-n)).map byteV)∧Rd w (SLA (SLA a 0 c 1) 4 c 1) (((b.take (b.length-4-n)).drop 4).map byteV):=by
 have h1:=hl.sla 0 (b.length-4) c 1 (by omega)
 have h2:=h1.sla (b.length-4-n) (b.length-4) c 1 (by omega)
 have h3:=h1.sla 4 (b.length-4-n) c 1 (by omega)
 simp only [Nat.mul_one,List.drop_zero,Nat.sub_zero] at h2 h3
 constructor
 ·rw [← List.map_take,← List.map_drop,← List.map_take] at h2
  have e:((b.take (b.length-4)).drop (b.length-4-n)).take (b.length-4-(b.length-4-n))=(b.take (b.length-4)).drop (b.length-4-n):=List.take_of_length_le (by rw [List.length_drop,List.length_take];omega)
  rw [e] at h2
  exact h2
 ·rw [← List.map_take,← List.map_drop,← List.map_take] at h3
  have e:((b.take (b.length-4)).drop 4).take (b.length-4-n-4)=(b.take (b.length-4-n)).drop 4:=by
   rw [List.drop_take,List.drop_take,List.take_take]
   congr 1
   omega
  rw [e] at h3
  exact h3
theorem segment_read_ok(hl:Rd w a (b.map byteV))(hc:b.length≤c)(hs:b.length≤140737488355328)(h8:8≤b.length) :
  Calls Tryz.prog f.segment_read #[.slice a b.length c] w (Ret fun v w'=>ColV b w w' v):=by
 apply R.segment_read_calls
 unfold R.segment_read
 have eW:IntKind.i64.wrap ((b.length:Int)-4)=((b.length-4:Nat):Int):=by rw [wrap_i64 (by omega) (by omega)];omega
 rw [eW]
 simp only [Int.toNat_natCast,Nat.sub_zero]
 obtain⟨t,ht⟩:∃ t,t=b.drop (b.length-4):=⟨_,rfl⟩
 have htl:t.length=4:=by rw [ht,List.length_drop];omega
 have hrt:Rd w (SLA a (b.length-4) c 1) (t.map byteV):=by
  have h:=hl.sla (b.length-4) b.length c 1 hc
  simp only [Nat.mul_one] at h
  rw [← List.map_drop,← List.map_take] at h
  rw [ht]
  have e:(b.drop (b.length-4)).take (b.length-(b.length-4))=b.drop (b.length-4):=List.take_of_length_le (by rw [List.length_drop];omega)
  rwa [e] at h
 refine (ST.start w).newB fun b2 w1 _ _ S=>S.sto 0 rfl (cs':=#[.int .i64 0]) (by simp) rfl fun w2 S=>⟨⟨by omega,by omega,by omega⟩,?_⟩
 have hB:=Backward_ok (w:=w2) (a:=SLA a (b.length-4) c 1) (c:=c-(b.length-4)) (l:=t)
 rw [show b.length-(b.length-4)=t.length by omega]
 refine hB.mono ?_
 rintro _ w3 ⟨_,rfl,bq,rfl,P⟩
 have S:=S.join P
 refine⟨_,_,_,rfl,by kernel_rfl,fun rr hst hpe hy=>?_⟩
 have S:=S.range rr
 obtain⟨L,hL⟩:∃ L,L=w3.heap.size+1:=⟨_,rfl⟩
 obtain⟨d,hd⟩:∃ d,d=w3.heap.size:=⟨_,rfl⟩
 rw [← hL] at S hy ⊢
 rw [← hd] at S ⊢
 let J:Nat→World→Prop:=fun k wx=>ST w wx [It.obj L (.loop rr),It.obj d (.deferred (some [])),It.cells bq #[.slice (SLA a (b.length-4) c 1) t.length (c-(b.length-4))] ty.L_uint8,It.cells b2 #[.int .i64 (accN t k:Int)] ty.int]
 have hcall:=backward_c1_ok (w:=(w3.alloc (.deferred (some []))).alloc (.loop rr)) (a:=SLA a (b.length-4) c 1) (c:=c-(b.length-4)) (l:=t) (L:=L) (b:=bq) (by omega) J (fun k wx (hj:ST w wx _)=>⟨hrt.grown hj.bel,hj.cell 2 rfl rfl⟩) (by
  rintro k wx hk (S:ST w wx _)
  have h1:=accN_lt (l:=t) k (by omega)
  have h2:256 ^ k≤256 ^ 3:=Nat.pow_le_pow_right (by omega) (by omega)
  have h3:(256:Nat) ^ 3=16777216:=by decide
  refine hy _ _ _ wx (S.get 0 rfl) ?_
  refine S.begr 0 rfl fun w5 S=>⟨_,S.cell 3 rfl rfl,?_⟩
  rw [or_byte (by omega) ((t[t.length-1-k]'(by omega)).toNat_lt)]
  rw [← accN_succ hk]
  exact S.sto 3 rfl (cs':=#[.int .i64 (accN t (k+1):Int)]) (by simp) rfl fun w6 S=>S.endr0 0 hst hpe rfl fun w7 S=>⟨rfl,S⟩) S
 refine hcall.mono ?_
 rw [htl]
 rintro _ w7 ⟨_,rfl,S⟩
 obtain⟨n,hn⟩:∃ n,n=accN t 4:=⟨_,rfl⟩
 have S:ST w w7 [It.obj L (.loop rr),It.obj d (.deferred (some [])),It.cells bq #[.slice (SLA a (b.length-4) c 1) t.length (c-(b.length-4))] ty.L_uint8,It.cells b2 #[.int .i64 (n:Int)] ty.int]:=by rw [hn];exact S
 have hnlt:n<4294967296:=by rw [hn];exact accN_lt (l:=t) 4 (by omega)
 have hsp:∀ cs rows xs,PreIs cs rows xs b→n=(footL cs rows xs).length:=fun cs rows xs h=>by rw [hn,ht];exact h.split.2.1
 refine⟨⟨_,rfl⟩,S.endl0 0 hst hpe rfl fun w8 S=>⟨rfl,⟨by omega,by omega,by omega⟩,_,S.cell 3 rfl rfl,?_⟩⟩
 have eW2:IntKind.i64.wrap (((b.length-4:Nat):Int)-4)=((b.length-8:Nat):Int):=by rw [wrap_i64 (by omega) (by omega)];omega
 have bad:∀ {wx:World} {H:List It},ST w wx (It.obj d (.deferred (some [])) :: H)→(∀ cs' rows' xs',¬ PreIs cs' rows' xs' b)→wx.heap[d]?=some (.deferred (some []))∧ColV b w (wx.putObj d (.deferred none)) (.tuple #[.pointer none,.bool false]):=fun S h=>⟨S.get 0 rfl,(S.put 0 rfl _).bel,.inr ⟨rfl,h⟩⟩
 refine IFB_dec (fun h=>bad (S.drop 1) fun cs rows xs hP=>?_) (fun hle=>?_)
 ·have:=hP.split.2.2.1
  have:=hsp cs rows xs hP
  rw [eW2] at h
  omega
 rw [eW2] at hle
 have hnb:n≤b.length-8:=by omega
 refine S.draw fun w9 _ S=>⟨_,S.cell 3 rfl rfl,?_⟩
 have eW3:IntKind.i64.wrap (((b.length-4:Nat):Int)-(n:Int))=((b.length-4-n:Nat):Int):=by rw [wrap_i64 (by omega) (by omega)];omega
 rw [eW3]
 simp only [Int.toNat_natCast]
 refine⟨⟨by omega,by omega,by omega⟩,_,S.cell 3 rfl rfl,?_⟩
 rw [eW3]
 simp only [Int.toNat_natCast]
 refine⟨⟨by omega,by omega,by omega⟩,?_⟩
 obtain⟨hrf,hrb⟩:=read_slices hl hc h8 hnb
 obtain⟨ft,hft⟩:∃ ft,ft=(b.take (b.length-4)).drop (b.length-4-n):=⟨_,rfl⟩
 obtain⟨bd,hbd⟩:∃ bd,bd=(b.take (b.length-4-n)).drop 4:=⟨_,rfl⟩
 rw [← hft] at hrf
 rw [← hbd] at hrb
 obtain⟨fa,hfa⟩:∃ fa,fa=SLA (SLA a 0 c 1) (b.length-4-n) c 1:=⟨_,rfl⟩
 obtain⟨ba,hba⟩:∃ ba,ba=SLA (SLA a 0 c 1) 4 c 1:=⟨_,rfl⟩
 rw [← hfa] at hrf ⊢
 rw [← hba] at hrb ⊢
 have hftl:ft.length=b.length-4-(b.length-4-n):=by rw [hft,List.length_drop,List.length_take];omega
 have hbdl:bd.length=b.length-4-n-4:=by rw [hbd,List.length_drop,List.length_take];omega
 rw [← hftl,← hbdl]
 have hP1:∀ cs rows xs,PreIs cs rows xs b→ft=footL cs rows xs∧bd=xs.flatten:=fun cs rows xs hP=>by
  have e:=hsp cs rows xs hP
  have:=hP.split.2.2.2
  rw [← e] at this
  exact⟨by rw [hft];exact this.1,by rw [hbd];exact this.2⟩
 have hT:=schema_Take_ok (c:=c-(b.length-4-n)) (hrf.grown S.bel) (by omega) (by omega) 0
 refine hT.mono ?_
 rintro _ w10 ⟨_,rfl,hT⟩
 obtain⟨cs,ca,cc,at1,e,rfl,S,hcl,hcs⟩:=hT.open S (fun r h=>takeSch_right h)
 refine⟨_,_,_,_,_,rfl,(segment_places_ok (c:=c-(b.length-4-n)) (hrf.grown S.bel) (by omega) (by omega) (at1:Int) cs.length (by omega)).mono ?_⟩
 rintro _ w11 ⟨_,rfl,hPl⟩
 obtain⟨r,ns,na,nc,ok,rfl,S,hns⟩:=hPl.open S
 refine⟨_,_,_,_,_,rfl,IFB_ne (fun h=>bad (S.drop 3) fun cs' rows xs hP=>?_) (fun he=>IFB_not (IFB_of (fun hok=>?_) (fun hok=>bad (S.drop 3) fun cs' rows xs hP=>?_)))⟩
 ·have h2:=foot_sch (xs:=xs) hP.ok
  rw [← (hP1 cs' rows xs hP).1] at h2
  rcases hcs with ⟨h3,_⟩ | ⟨_,h3⟩
  ·exact h h3
  ·rw [h2] at h3;cases h3
 rotate_left
 ·have h2:=foot_sch (xs:=xs) hP.ok
  rw [← (hP1 cs' rows xs hP).1] at h2
  rcases hcs with ⟨_,h3,_⟩ | ⟨h3,_⟩
  ·rw [h2] at h3
   have h4:=Option.some.inj h3
   obtain rfl:cs'=cs:=congrArg Prod.fst h4
   obtain rfl:(schL cs').length=at1:=congrArg Prod.snd h4
   have h5:=foot_pl (lim:=1073741824) (by omega) hP.ok hP.chs hP.len
   rw [← (hP1 cs' rows xs hP).1] at h5
   rcases hns with ⟨h6,_⟩ | ⟨_,h6⟩
   ·rw [hok] at h6;cases h6
   ·rw [h5] at h6;cases h6
  ·exact h3 he
 have hcs':takeSch ft 0=some (cs,at1)∧rightCols cs=true:=by
  rcases hcs with ⟨_,h3⟩ | ⟨h3,_⟩
  ·exact h3
  ·exact absurd he h3
 have hns':takePl 1073741824 ft (at1:Int) cs.length=some (r,ns):=by
  rcases hns with ⟨_,h6⟩ | ⟨h6,_⟩
  ·exact h6
  ·rw [hok] at h6;cases h6
 obtain⟨hnl,hr24⟩:=takePl_len hns'
 simp only at hnl hr24
 have key:∀ cs' rows xs,PreIs cs' rows xs b→cs=cs'∧r=rows.length∧ns=xs.map List.length∧bd=xs.flatten:=fun cs' rows xs hP=>by
  have h2:=foot_sch (xs:=xs) hP.ok
  rw [← (hP1 cs' rows xs hP).1,hcs'.1] at h2
  have h4:=Option.some.inj h2
  obtain rfl:cs=cs':=congrArg Prod.fst h4
  obtain rfl:at1=(schL cs).length:=congrArg Prod.snd h4
  have h5:=foot_pl (lim:=1073741824) (by omega) hP.ok hP.chs hP.len
  rw [← (hP1 cs rows xs hP).1,hns'] at h5
  have h6:=Option.some.inj h5
  exact⟨rfl,congrArg Prod.fst h6,congrArg Prod.snd h6,(hP1 cs rows xs hP).2⟩
 refine S.newB fun b21 w12 _ _ S=>?_
 have S:=((S.nil ty.api_Zone 7).nil ty.L_api_Value 1).pull 2 rfl
 obtain⟨oL,hoL⟩:∃ oL,oL=Obj.loop { rr with state:=.exhausted,pending:=none }:=⟨_,rfl⟩
 let Hq:Option Addr→Nat→Option Addr→Nat→List RowP→List It:=fun va vc za zc cps=>It.cells b21 #[.slice ca cs.length cc,.slice va cps.length vc,.slice za cps.length zc,.int .i64 (r:Int)] ty.segment_columns :: topI va vc cps :: zonI za zc cps :: intsI na nc ns :: colsI ca cc cs ::
  It.obj L oL :: It.obj d (.deferred (some [])) :: It.cells bq #[.slice (SLA a (b.length-4) c 1) t.length (c-(b.length-4))] ty.L_uint8 :: It.cells b2 #[.int .i64 (n:Int)] ty.int :: cps.reverse.map rdI
 let Inv:List Value→World→Prop:=fun s wx=>∃(i:Nat) (rest:List UInt8) (ra:Option Addr) (rc:Nat) (cps:List RowP) (va:Option Addr) (vc:Nat) (za:Option Addr) (zc:Nat),s=[.slice ra rest.length rc,.int .i64 (i:Int)]∧i≤ns.length∧cps.length=i∧rest.length≤rc∧rest.length≤b.length∧Rd w ra (rest.map byteV) ∧
  (∀ q∈cps,q.2.2.length=r∧∃ k,Good1 k q.2.2)∧(∀ cs' rows xs,PreIs cs' rows xs b→rest=(xs.drop i).flatten∧rws cps=(List.range i).map (colOf rows))∧ST w wx (Hq va vc za zc cps)
 let Mu:List Value→World→Nat:=fun s _=>match s with
   | [_,.int _ i]=>ns.length-i.toNat
   | _=>0
 refine⟨Inv,Mu,⟨0,bd,ba,c-4,[],none,0,none,0,rfl,by omega,rfl,by omega,by omega,hrb,by simp,fun cs' rows xs hP=>⟨by rw [(key cs' rows xs hP).2.2.2];rfl,rfl⟩,by simp only [Hq];rw [hoL];exact S⟩,?_⟩
 rintro ra _ rc _ w13 ⟨i,rest,_,_,cps,va,vc,za,zc,hst,hi,hcpl,hrc,hrl,hR,hgood,hrel,S⟩
 cases hst
 refine IFB_dec (fun hlt=>⟨⟨by omega,hlt⟩,?_⟩) (fun hge=>?_)
 ·have hil:i<ns.length:=by omega
  have hN:Rd w13 na (ns.map fun n:Nat=>Value.int .i64 (n:Int)):=S.rd 3 rfl
  obtain⟨pn,hpn,hcn⟩:=nat_at hN hil
  rw [hpn]
  have hxi:∀ cs' rows xs,PreIs cs' rows xs b→∃ hx:i<xs.length,ns[i]=xs[i].length∧rest=xs[i]++(xs.drop (i+1)).flatten:=fun cs' rows xs hP=>by
   have h1:=(key cs' rows xs hP).2.2.1
   have hx:i<xs.length:=by rw [h1,List.length_map] at hil;exact hil
   refine⟨hx,?_,by rw [(hrel cs' rows xs hP).1,flatten_drop hx]⟩
   simp [h1]
  refine⟨_,by rw [Int.toNat_natCast];exact hcn,IFB_dec (fun h=>bad (S.pull 6 rfl) fun cs' rows xs hP=>?_) (fun hfit=>?_)⟩
  ·obtain⟨hx,h1,h2⟩:=hxi cs' rows xs hP
   have:=congrArg List.length h2
   rw [List.length_append] at this
   omega
  have hfit':ns[i]≤rest.length:=by omega
  simp only [Int.toNat_natCast]
  refine⟨⟨by omega,by omega,by omega⟩,?_⟩
  have hsl:Rd w (SLA ra 0 rc 1) ((rest.take ns[i]).map byteV):=by
   have h:=hR.sla 0 ns[i] rc 1 (by omega)
   simp only [Nat.mul_one,List.drop_zero,Nat.sub_zero] at h
   rw [← List.map_take] at h
   exact h
  have hsr:Rd w (SLA ra ns[i] rc 1) ((rest.drop ns[i]).map byteV):=by
   have h:=hR.sla ns[i] rest.length rc 1 hrc
   simp only [Nat.mul_one] at h
   rw [← List.map_drop,← List.map_take] at h
   have e:(rest.drop ns[i]).take (rest.length-ns[i])=rest.drop ns[i]:=List.take_of_length_le (by rw [List.length_drop];omega)
   rwa [e] at h
  have htl2:(rest.take ns[i]).length=ns[i]:=by rw [List.length_take];omega
  have hD:=chunk_Decode_ok (c:=rc) (hsl.grown S.bel) (by omega) (by omega)
  rw [htl2] at hD
  refine hD.mono ?_
  rintro _ w14 ⟨_,rfl,K,ls,la,lc,e,rfl,hRd,B14,hll,hcase⟩
  have S:=stAddRd S B14 hRd
  have hdec:∀ cs' rows xs,PreIs cs' rows xs b→e=0∧ls=colOf rows i:=fun cs' rows xs hP=>by
   obtain⟨hx,h1,h2⟩:=hxi cs' rows xs hP
   have hxc:i<cs'.length:=by have:=hP.len;omega
   have h3:rest.take ns[i]=xs[i]:=by rw [h1,h2,List.take_left]
   have h4:=hP.chs.each i hxc hx
   rw [← h3] at h4
   rcases hcase with ⟨_,_,he,hu⟩ | ⟨hno,_⟩
   ·exact⟨he,((hu _ _ (hP.ok.good hxc) h4).2).symm⟩
   ·exact absurd h4 (hno _ _ (hP.ok.good hxc))
  refine⟨_,_,_,_,_,rfl,IFB_ne (fun h=>bad (S.pull 7 rfl) fun cs' rows xs hP=>h (hdec cs' rows xs hP).1) (fun he=>IFB_ne (fun h=>bad (S.pull 7 rfl) fun cs' rows xs hP=>?_) (fun hlr=>?_))⟩
  ·apply h
   rw [(hdec cs' rows xs hP).2,colOf_len,(key cs' rows xs hP).2.1]
  obtain⟨hg,hC⟩:Good1 K ls∧True:=by
   rcases hcase with ⟨hg,_⟩ | ⟨_,_,_,h80⟩
   ·exact⟨hg,trivial⟩
   ·omega
  refine (chunk_Zone_ok (c:=lc) (S.ok (It.rd la (valsL ls)) (by simp))).mono ?_
  rintro _ w15 ⟨_,rfl,hzv,B15⟩
  rcases hzv with ⟨_,rfl⟩ | ⟨hno,_⟩
  case inr=>exact absurd hg.zoneOk hno
  have S:=S.grown B15
  obtain⟨q,hq⟩:∃ q:RowP,q=(la,lc,ls):=⟨_,rfl⟩
  refine⟨_,_,_,_,_,_,_,_,rfl,S.newB fun b40 w16 _ _ S=>S.sto7 0 rfl fun w23 S=>S.draw fun w24 _ S=>⟨⟨by omega,by omega,by omega⟩,_,_,_,S.cell 2 rfl rfl,_,_,_,S.cell 2 rfl rfl,_,S.cell 0 rfl rfl,_,S.cell 0 rfl rfl,_,S.cell 0 rfl rfl,_,S.cell 0 rfl rfl,_,S.cell 0 rfl rfl,_,S.cell 0 rfl rfl,_,S.cell 0 rfl rfl,?_⟩⟩
  have hcl1:cps.length+1≤1000000:=by omega
  have fin:∀(wx:World) (x0 x1 x2:It) (va':Option Addr) (vc':Nat) (za':Option Addr) (zc':Nat),ST w wx (x0 :: x1 :: x2 :: It.rd la (valsL ls) :: It.cells b21 #[.slice ca cs.length cc,.slice va cps.length vc,.slice za cps.length zc,.int .i64 (r:Int)] ty.segment_columns :: topI va' vc' (cps++[q]) :: zonI za' zc' (cps++[q]) :: intsI na nc ns :: colsI ca cc cs ::
     It.obj L oL :: It.obj d (.deferred (some [])) :: It.cells bq #[.slice (SLA a (b.length-4) c 1) t.length (c-(b.length-4))] ty.L_uint8 :: It.cells b2 #[.int .i64 (n:Int)] ty.int :: cps.reverse.map rdI) →
    STO ⟨b21,1,none⟩ (.slice va' (cps++[q]).length vc') (fun w29=>STO ⟨b21,2,none⟩ (.slice za' (cps++[q]).length zc') (fun w30=>Inv [.slice (SLA ra ns[i] rc 1) (rest.length-ns[i]) (rc-ns[i]),.int .i64 (IntKind.i64.wrap ((i:Int)+1))] w30 ∧
     Mu [.slice (SLA ra ns[i] rc 1) (rest.length-ns[i]) (rc-ns[i]),.int .i64 (IntKind.i64.wrap ((i:Int)+1))] w30<Mu [.slice ra rest.length rc,.int .i64 (i:Int)] w13) w29) wx:=by
   intro wx x0 x1 x2 va' vc' za' zc' S
   refine S.sto 4 rfl (cs':=#[.slice ca cs.length cc,.slice va' (cps++[q]).length vc',.slice za cps.length zc,.int .i64 (r:Int)]) (by simp) rfl fun w29 S=>S.sto 4 rfl (cs':=#[.slice ca cs.length cc,.slice va' (cps++[q]).length vc',.slice za' (cps++[q]).length zc',.int .i64 (r:Int)]) (by simp) rfl fun w30 S=>?_
   rw [wrap_succ (by omega)]
   have hdl:(rest.drop ns[i]).length=rest.length-ns[i]:=List.length_drop
   refine⟨⟨i+1,rest.drop ns[i],SLA ra ns[i] rc 1,rc-ns[i],cps++[q],va',vc',za',zc',by rw [hdl],by omega,by simp [hcpl],by omega,by omega,hsr,fun q' hq'=>?_,fun cs' rows xs hP=>?_,?_⟩,?_⟩
   ·rcases List.mem_append.1 hq' with h | h
    ·exact hgood q' h
    ·rw [List.mem_singleton.1 h,hq]
     exact⟨by show ls.length=r;omega,K,hg⟩
   ·obtain⟨hx,h1,h2⟩:=hxi cs' rows xs hP
    refine⟨by rw [h2,h1,List.drop_left],?_⟩
    rw [rws,List.map_append,List.range_succ,List.map_append]
    have:=(hrel cs' rows xs hP).2
    rw [rws] at this
    rw [this]
    simp [hq,(hdec cs' rows xs hP).2]
   ·have S3:=S.drop 3
    show ST w w30 (Hq va' vc' za' zc' (cps++[q]))
    have e:(cps++[q]).reverse.map rdI=It.rd la (valsL ls) :: cps.reverse.map rdI:=by
     rw [List.reverse_append,List.map_append,hq]
     rfl
    simp only [Hq]
    rw [e]
    exact S3.perm (List.perm_middle (l₁:=[It.cells b21 #[.slice ca cs.length cc,.slice va' (cps++[q]).length vc',.slice za' (cps++[q]).length zc',.int .i64 (r:Int)] ty.segment_columns,topI va' vc' (cps++[q]),zonI za' zc' (cps++[q]),intsI na nc ns,colsI ca cc cs,It.obj L oL,It.obj d (.deferred (some [])),It.cells bq #[.slice (SLA a (b.length-4) c 1) t.length (c-(b.length-4))] ty.L_uint8,It.cells b2 #[.int .i64 (n:Int)] ty.int])).symm
   ·show ns.length-((i+1:Nat):Int).toNat<ns.length-((i:Nat):Int).toNat
    simp only [Int.toNat_natCast]
    omega
  have hrv:rowV1 q=.slice la ls.length lc:=by rw [hq];rfl
  have hzc:zonC q=(zC (nullsN ls:Int) (zmm ls)).toList:=by rw [hq];rfl
  refine⟨S.newB fun b50 w25 _ _ S=>⟨⟨S.cell 1 rfl rfl,S.cell 1 rfl rfl,S.cell 1 rfl rfl,S.cell 1 rfl rfl,S.cell 1 rfl rfl,S.cell 1 rfl rfl,S.cell 1 rfl rfl⟩,S.cell 3 rfl rfl,S.cell 3 rfl rfl,?_,?_⟩,S.newB fun b61 w36 _ _ S=>⟨S.cell 3 rfl rfl,S.cell 3 rfl rfl,S.newB fun b62 w37 _ _ S=>⟨S.cell 4 rfl rfl,S.cell 4 rfl rfl,?_⟩⟩⟩
  ·have hs1:Rd w25 (some ⟨b50,0,none⟩) [rowV1 q]:=by rw [hrv];exact S.rdc 0 rfl
   refine stAppT S 4 rfl hs1 hcl1 fun va' vc' w26 S=>⟨_,_,_,rfl,⟨S.cell 1 rfl rfl,S.cell 1 rfl rfl,S.cell 1 rfl rfl,S.cell 1 rfl rfl,S.cell 1 rfl rfl,S.cell 1 rfl rfl,S.cell 1 rfl rfl⟩,S.cell 3 rfl rfl,S.newB fun b53 w27 _ _ S=>⟨S.cell 4 rfl rfl,?_⟩⟩
   have hs2:Rd w27 (some ⟨b53,0,none⟩) (zonC q):=by rw [hzc];exact S.rdc 0 rfl
   exact stAppZ S 6 rfl hs2 hcl1 fun za' zc' w28 S=>⟨_,_,_,rfl,fin w28 _ _ _ va' vc' za' zc' S⟩
  ·refine S.newB fun b56 w31 _ _ S=>⟨S.cell 4 rfl rfl,S.cell 4 rfl rfl,?_⟩
   have hs1:Rd w31 (some ⟨b50,0,none⟩) [rowV1 q]:=by rw [hrv];exact S.rdc 1 rfl
   refine stAppT S 5 rfl hs1 hcl1 fun va' vc' w32 S=>⟨_,_,_,rfl,S.cell 4 rfl rfl,?_⟩
   have hs2:Rd w32 (some ⟨b56,0,none⟩) (zonC q):=by rw [hzc];exact S.rdc 0 rfl
   exact stAppZ S 6 rfl hs2 hcl1 fun za' zc' w33 S=>⟨_,_,_,rfl,fin w33 _ _ _ va' vc' za' zc' S⟩
  ·have hs1:Rd w37 (some ⟨b62,0,none⟩) [rowV1 q]:=by rw [hrv];exact S.rdc 0 rfl
   refine stAppT S 5 rfl hs1 hcl1 fun va' vc' w38 S=>⟨_,_,_,rfl,S.cell 4 rfl rfl,?_⟩
   have hs2:Rd w38 (some ⟨b61,0,none⟩) (zonC q):=by rw [hzc];exact S.rdc 1 rfl
   exact stAppZ S 6 rfl hs2 hcl1 fun za' zc' w39 S=>⟨_,_,_,rfl,fin w39 _ _ _ va' vc' za' zc' S⟩
 ·have hie:i=ns.length:=by omega
  refine⟨S.get 6 rfl,?_⟩
  have S:=S.put 6 rfl (.deferred none)
  refine⟨S.bel,.inl ⟨⟨b21,0,none⟩,cs,cps,r,rfl,⟨⟨ca,cc,S.cell 0 rfl rfl,S.rd 4 rfl⟩,⟨va,vc,S.cell 0 rfl rfl,S.rd 1 rfl,fun q hq=>?_⟩,⟨za,zc,S.cell 0 rfl rfl,S.rd 2 rfl⟩,S.cell 0 rfl rfl,hcs'.2,by omega,hr24,hgood⟩,fun cs' rows xs hP=>?_⟩⟩
  ·have hm:rdI q∈cps.reverse.map rdI:=List.mem_map.2 ⟨q,List.mem_reverse.2 hq,rfl⟩
   exact S.ok (rdI q) (List.mem_of_mem_drop (i:=9) hm)
  ·obtain⟨h1,h2,h3,h4⟩:=key cs' rows xs hP
   refine⟨h1,h2,?_⟩
   rw [(hrel cs' rows xs hP).2,hie,hnl,h1]
end
def digOk(l:List UInt8):Prop:=40≤l.length∧l.drop (l.length-32)=digP (l.take (l.length-32))
theorem SegIs.pre{cs:List Col}{rows:List (List Val)}{l:List UInt8}(hs:SegOk cs rows)(h:SegIs cs rows l):∃ xs,PreIs cs rows xs (l.take (l.length-32))∧digOk l:=by
 obtain⟨xs,h1,h2,rfl⟩:=h.ex
 have h8:8≤(preL cs rows xs).length:=(PreIs.split ⟨hs,h2,h1,rfl⟩).1
 obtain⟨dg,hdg⟩:∃ dg,dg=digP (preL cs rows xs):=⟨_,rfl⟩
 have hdl:dg.length=32:=by rw [hdg];exact digP_len _
 have e:(sealD (preL cs rows xs)).length-32=(preL cs rows xs).length:=by
  unfold sealD
  rw [← hdg,List.length_append,hdl]
  omega
 have e2:(sealD (preL cs rows xs)).take ((sealD (preL cs rows xs)).length-32)=preL cs rows xs:=by
  rw [e]
  unfold sealD
  rw [← hdg,List.take_left]
 refine⟨xs,⟨hs,h2,h1,e2⟩,?_,?_⟩
 ·unfold sealD
  rw [← hdg,List.length_append,hdl]
  omega
 ·rw [e2,e]
  unfold sealD
  rw [← hdg,List.drop_left,hdg]
theorem rowsOf_cols{cs:List Col}{rows:List (List Val)}(h:∀ r∈rows,r.length=cs.length):rowsOf ((List.range cs.length).map (colOf rows)) rows.length=rows:=by
 refine List.ext_getElem (by simp [rowsOf]) fun i h1 h2=>?_
 simp only [rowsOf,List.getElem_map,List.getElem_range,rowAt,List.map_map]
 have hl:=h _ (List.getElem_mem h2)
 refine List.ext_getElem (by simp [hl]) fun j g1 g2=>?_
 simp [colOf,List.getD,h2,g2]
def OpenV(l:List UInt8)(w w':World)(v:Value):Prop :=
 Below w.heap.size w w'∧((∃ g p cs cps n,v=.tuple #[.pointer (some g),.int .i64 0]∧w'.cell? g=some (.pointer (some p))∧ColsAt w' p cs cps n∧SegOk cs (rowsOf (rws cps) n)∧SegIs cs (rowsOf (rws cps) n) l ∧
   ∀ cs' rows',SegOk cs' rows'→SegIs cs' rows' l→cs'=cs∧rows'=rowsOf (rws cps) n∧n=rows'.length∧rws cps=(List.range cs'.length).map (colOf rows')) ∨
  (v=.tuple #[.pointer none,.int .i64 91]∧¬ digOk l)∨(v=.tuple #[.pointer none,.int .i64 90]∧digOk l∧∀ cs' rows',SegOk cs' rows'→¬ SegIs cs' rows' l))
theorem ColsAt.grown{w w':World}{p:Addr}{cs:List Col}{cps:List RowP}{n:Nat}(h:ColsAt w p cs cps n)(B:Below w.heap.size w w'):ColsAt w' p cs cps n:=by
 have K:=Keeps.of_below (F:=fun _=>False) B
 obtain⟨a0,c0,h1,h2⟩:=h.cols
 obtain⟨a1,c1,h3,h4⟩:=h.vals
 obtain⟨a2,c2,h5,h6⟩:=h.zones
 exact⟨⟨a0,c0,K.cell h1 (by simp),h2.grown B⟩,⟨a1,c1,K.cell h3 (by simp),h4.grown B⟩,⟨a2,c2,K.cell h5 (by simp),h6.grown B⟩,K.cell h.many (by simp),h.right,h.len,h.small,h.each⟩
section
variable {w:World}
theorem segment_Open_ok(T:Tabs w)(s:ByteArray)(hs:s.size≤140737488355328):Calls Tryz.prog f.segment_Open #[.string s] w (Ret fun v w'=>OpenV (bl s) w w' v):=by
 apply R.segment_Open_calls
 unfold R.segment_Open
 have hbl:=bl_length s
 obtain⟨l,hl⟩:∃ l,l=bl s:=⟨_,rfl⟩
 rw [← hl] at hbl
 have hno:s.size<40→¬ digOk l:=fun h hd=>by have:=hd.1;omega
 rw [← hl]
 refine IFB_dec (fun h=>⟨.refl _ _,.inr (.inl ⟨rfl,hno (by omega)⟩)⟩) (fun h40=>?_)
 have h40':40≤l.length:=by omega
 refine bytes_of_string tbytes s w fun b0 c0 cells e0 w1 hb0 B1 hg1 hcs hsc htk=>?_
 have hr1:Rd w1 (some ⟨b0,0,none⟩) (l.map byteV):=by
  have:=(Rd.of_block0 hg1).take s.size
  rw [htk,← hl] at this
  exact this
 have eW:IntKind.i64.wrap ((s.size:Int)-32)=((l.length-32:Nat):Int):=by rw [wrap_i64 (by omega) (by omega)];omega
 refine⟨_,_,_,rfl,?_⟩
 rw [eW]
 simp only [Int.toNat_natCast,Nat.sub_zero]
 obtain⟨l1,hl1⟩:∃ l1,l1=l.take (l.length-32):=⟨_,rfl⟩
 have hl1l:l1.length=l.length-32:=by rw [hl1,List.length_take];omega
 obtain⟨a1,ha1⟩:∃ a1,a1=SLA (some ⟨b0,0,none⟩) 0 c0 1:=⟨_,rfl⟩
 have hr11:Rd w1 a1 (l1.map byteV):=by
  have h:=hr1.sla 0 (l.length-32) c0 1 (by omega)
  simp only [Nat.mul_one,List.drop_zero,Nat.sub_zero] at h
  rw [← List.map_take,← hl1,← ha1] at h
  exact h
 rw [← ha1,← hl1l]
 have S:=stAddRd (ST.start w) B1 (a:=some ⟨b0,0,none⟩) (xs:=l.map byteV) ⟨hr1,fun k hk=>by cases hk;exact Nat.le_of_eq hb0.symm⟩
 refine⟨⟨by omega,by omega,by omega⟩,S.newB fun b4 w2 _ B2 S=>?_⟩
 have hp2:Rd w2 (some ⟨b4,0,none⟩) ([(a1,c0,l1)].map partV1):=S.rdc 0 rfl
 have e2:flatB [(a1,c0,l1)]=l1:=by simp [flatB]
 refine (hash_Sum_ok (c:=1) (T.grown S.bel) [(a1,c0,l1)] hp2 (by
   intro p hp
   simp only [List.mem_cons,List.not_mem_nil,or_false] at hp
   subst hp
   exact hr11.grown B2) (by simp) (by rw [e2];omega)).mono ?_
 rw [e2]
 rintro _ w3 ⟨_,rfl,rfl,B3⟩
 have S:=S.grown B3
 have hdl:(digP l1).length=32:=digP_len _
 obtain⟨dg,hdg⟩:∃ dg,dg=digP l1:=⟨_,rfl⟩
 rw [← hdg] at hdl ⊢
 have hdm:(dg.map byteV).length=32:=by rw [List.length_map];exact hdl
 refine LIKEL_by dg hdl ⟨rfl,S.newB fun b7 w4 _ B4 S=>BIF_len hdm (S.stoAll 0 rfl hdm (bytes_one _) fun w5 S=>S.draw fun w6 _ S=>⟨⟨by omega,by omega,by omega⟩,⟨by omega,by omega,by omega⟩,?_⟩)⟩
 have hr6:Rd w6 (SLA (some ⟨b7,0,none⟩) 0 32 1) (dg.map byteV):=by
  have h:=(S.rdc 0 rfl).sla 0 32 32 1 (by omega)
  have e:(List.take ((32-0)*1) (List.drop (0*1) (dg.map byteV)))=dg.map byteV:=by
   rw [Nat.zero_mul,List.drop_zero]
   exact List.take_of_length_le (by rw [List.length_map];omega)
  have h':Rd w6 (SLA (some ⟨b7,0,none⟩) 0 32 1) (List.take ((32-0)*1) (List.drop (0*1) (dg.map byteV))):=h
  rwa [e] at h'
 refine string_of_bytes tbytes hdl.symm hr6 ⟨_,rfl,?_⟩
 have hext:s.extract l1.length s.size=sof (l.drop (l.length-32)):=by
  rw [extract_eq,← hl,hl1l]
  congr 1
  exact List.take_of_length_le (by rw [List.length_drop];omega)
 rw [hext,bytesEq_iff]
 have hdok:digOk l↔sof dg=sof (l.drop (l.length-32)):=by
  unfold digOk
  rw [← hl1,← hdg]
  constructor
  ·intro h;rw [h.2]
  ·intro h
   have:=congrArg bl h
   rw [bl_sof,bl_sof] at this
   exact⟨h40',this.symm⟩
 refine IFB_not (IFB_dec (fun hd=>⟨⟨by omega,by omega,by omega⟩,?_⟩) (fun hd=>⟨S.bel,.inr (.inl ⟨rfl,fun h=>hd (hdok.1 h)⟩)⟩))
 have hD:=hdok.2 hd
 have hr6l:Rd w6 (some ⟨b0,0,none⟩) (l.map byteV):=S.ok (It.rd (some ⟨b0,0,none⟩) (l.map byteV)) (List.mem_of_mem_drop (i:=2) (by simp))
 have hr6a:Rd w6 a1 (l1.map byteV):=by
  have h:=hr6l.sla 0 (l.length-32) c0 1 (by omega)
  simp only [Nat.mul_one,List.drop_zero,Nat.sub_zero] at h
  rw [← List.map_take,← hl1,← ha1] at h
  exact h
 refine (segment_read_ok hr6a (by omega) (by omega) (by omega)).mono ?_
 rintro _ w8 ⟨_,rfl,B8,hC⟩
 have S:=S.grown B8
 have no:(∀ cs' rows' xs',¬ PreIs cs' rows' xs' l1)→∀ cs' rows',SegOk cs' rows'→¬ SegIs cs' rows' l:=fun h cs' rows' hs' hI=>by
  obtain⟨xs,hP,_⟩:=hI.pre hs'
  rw [← hl1] at hP
  exact h _ _ _ hP
 rcases hC with ⟨p,cs,cps,n,rfl,hA,hu⟩ | ⟨rfl,hno2⟩
 ·have hu':∀ cs' rows',SegOk cs' rows'→SegIs cs' rows' l→cs'=cs∧rows'=rowsOf (rws cps) n∧n=rows'.length∧rws cps=(List.range cs'.length).map (colOf rows'):=fun cs' rows' hs' hI=>by
   obtain⟨xs,hP,_⟩:=hI.pre hs'
   rw [← hl1] at hP
   obtain⟨h1,h2,h3⟩:=hu cs' rows' xs hP
   refine⟨h1.symm,?_,h2,h3⟩
   rw [h3,h2,rowsOf_cols fun r hr=>hs'.rowLen hr]
  refine⟨_,_,rfl,IFB_not (IFB_true (S.draw fun w9 B9 S=>?_))⟩
  have hA9:=hA.grown B9
  obtain⟨ca,cc,hc1,hc2⟩:=hA9.cols
  obtain⟨va,vc,hv1,hv2⟩:=hA9.vals
  have hcl:=right_len hA.right
  have hsm:=hA.small
  refine⟨_,_,_,hc1,(all_ok hA9.many hv1 hv2 (by omega) (by have:=hA.len;omega) (fun q hq=>(hA.each q hq).1)).mono ?_⟩
  rintro _ w10 ⟨_,rfl,bo,ps,rfl,hpl,hrows,hR10,B10⟩
  have hA10:=hA9.grown B10
  have S:=S.grown B10
  have K10:=Keeps.of_below (F:=fun _=>False) B10
  refine⟨_,_,_,rfl,K10.cell hc1 (by simp),?_⟩
  have hW:=segment_Write_ok (c:=cc) (c2:=n) (T.grown S.bel) (hc2.grown B10) (by omega) (fun c hc=>by have:=(right_col hA.right hc).2.2.2;omega) hR10 (by omega) (by
   intro r hr v hv
   rw [hrows] at hr
   obtain⟨i,hi,rfl⟩:=List.mem_map.1 hr
   obtain⟨col,hcol,rfl⟩:=List.mem_map.1 hv
   obtain⟨q,hq,rfl⟩:=List.mem_map.1 hcol
   obtain⟨hql,k,hg⟩:=hA.each q hq
   have hil:i<q.2.2.length:=by have:=List.mem_range.1 hi;omega
   have e:q.2.2.getD i Z0=q.2.2[i]:=by simp [List.getD,hil]
   rw [e]
   exact hg.ok _ (List.getElem_mem hil))
  rw [hpl] at hW
  refine hW.mono ?_
  rintro _ w11 ⟨_,rfl,hV,B11⟩
  have S:=S.grown B11
  have hA11:=hA10.grown B11
  rw [hrows] at hV
  rcases hV with ⟨hnok,rfl,hE⟩ | ⟨hok,b,rfl,hI⟩
  ·refine⟨_,_,rfl,IFB_ne (fun _=>⟨S.bel,.inr (.inr ⟨rfl,hD,fun cs' rows' hs' hI=>?_⟩)⟩) (fun h=>absurd h hE)⟩
   obtain⟨rfl,rfl,_⟩:=hu' cs' rows' hs' hI
   exact hnok hs'
  ·refine⟨_,_,rfl,IFB_ne (fun h=>absurd rfl h) (fun _=>?_)⟩
   rw [bytesEq_iff]
   refine IFB_not (IFB_dec (fun he=>?_) (fun he=>⟨S.bel,.inr (.inr ⟨rfl,hD,fun cs' rows' hs' hI'=>?_⟩)⟩))
   ·have hbl2:b=l:=by have:=congrArg bl he;rwa [bl_sof,← hl] at this
    subst hbl2
    refine S.newB fun b20 w12 _ B12 S=>⟨S.bel,.inl ⟨⟨b20,0,none⟩,p,cs,cps,n,rfl,S.cell 0 rfl rfl,hA11.grown B12,hok,hI,hu'⟩⟩
   ·obtain⟨rfl,rfl,_⟩:=hu' cs' rows' hs' hI'
    exact he (by rw [hI.one hI',hl,sof_bl])
 ·exact⟨_,_,rfl,IFB_not (IFB_false ⟨S.bel,.inr (.inr ⟨rfl,hD,no hno2⟩)⟩)⟩
end
section
variable {w:World}{g p:Addr}{cs:List Col}{cps:List RowP}{n:Nat}
theorem in_ok(hg:w.cell? g=some (.pointer (some p))):Calls Tryz.prog f.segment_Segment_in #[.pointer (some g)] w (Ret fun v w'=>v=.pointer (some p)∧w'=w):=by
 apply R.segment_Segment_in_calls
 unfold R.segment_Segment_in
 exact IFB_false ⟨_,hg,rfl,rfl⟩
theorem column_ok(h:ColsAt w p cs cps n)(i:Int):Calls Tryz.prog f.segment_columns_column #[.pointer (some p),.int .i64 i] w (Ret fun v w'=>v=.int .i64 (if 0≤i∧i<cs.length then 0 else 2)∧w'=w):=by
 apply R.segment_columns_column_calls
 unfold R.segment_columns_column
 obtain⟨a,c,h1,_⟩:=h.cols
 refine IFB_false (IFB_dec (fun hi=>⟨?_,rfl⟩) (fun hi=>⟨_,_,_,h1,IFB_dec (fun hj=>⟨?_,rfl⟩) (fun hj=>⟨?_,rfl⟩)⟩))
 ·rw [if_neg (by omega)]
 ·rw [if_neg (by omega)]
 ·rw [if_pos (by omega)]
theorem Rows_ok(hg:w.cell? g=some (.pointer (some p)))(h:ColsAt w p cs cps n):Calls Tryz.prog f.segment_Segment_Rows #[.pointer (some g)] w (Ret fun v w'=>v=.int .i64 (n:Int)∧w'=w):=by
 apply R.segment_Segment_Rows_calls
 unfold R.segment_Segment_Rows
 refine (in_ok hg).mono ?_
 rintro _ w1 ⟨_,rfl,rfl,rfl⟩
 have h':Calls Tryz.prog f.segment_columns_Rows #[.pointer (some p)] w1 (Ret fun v w'=>v=.int .i64 (n:Int)∧w'=w1):=by
  apply R.segment_columns_Rows_calls
  unfold R.segment_columns_Rows
  exact IFB_false ⟨_,h.many,rfl,rfl⟩
 refine⟨_,rfl,h'.mono ?_⟩
 rintro _ w2 ⟨_,rfl,rfl,rfl⟩
 exact⟨_,rfl,rfl,rfl⟩
theorem zonC_len(q:RowP):(zonC q).length=7:=rfl
theorem zone_at{a:Option Addr}(h:Rd w a (cps.flatMap zonC)){i:Nat}(hi:i<cps.length):∃ q,a=some q∧∀ j v,j<7→(zonC cps[i])[j]?=some v→w.cell? ((q.add (i*7)).add j)=some v:=by
 obtain⟨q,hq,_⟩:=h (i*7+0) _ (by rw [flat_get zonC_len cps i 0 hi (by omega)];rfl)
 refine⟨q,hq,fun j v hj hv=>?_⟩
 obtain⟨q2,hq2,hc⟩:=h (i*7+j) v (by rw [flat_get zonC_len cps i j hi hj];exact hv)
 rw [hq] at hq2
 cases hq2
 rw [addr_add_add]
 exact hc
theorem Zone_ok(hg:w.cell? g=some (.pointer (some p)))(h:ColsAt w p cs cps n){i:Nat}(hi:i<cps.length):Calls Tryz.prog f.segment_Segment_Zone #[.pointer (some g),.int .i64 (i:Int)] w (Ret fun v w'=>v=zV (nullsN cps[i].2.2:Int) (zmm cps[i].2.2) 0∧Below w.heap.size w w'):=by
 apply R.segment_Segment_Zone_calls
 unfold R.segment_Segment_Zone
 refine (ST.start w).newB fun b3 w1 _ _ S=>?_
 have K:=Keeps.of_below (F:=fun _=>False) S.bel
 have hg1:=K.cell hg (by simp)
 have h1:=h.grown S.bel
 refine (in_ok hg1).mono ?_
 rintro _ w1 ⟨_,rfl,rfl,rfl⟩
 refine⟨_,rfl,(column_ok h1 (i:Int)).mono ?_⟩
 rintro _ w2 ⟨_,rfl,rfl,rfl⟩
 have hlen:=h.len
 rw [if_pos (by omega)]
 obtain⟨za,zc,hz1,hz2⟩:=h1.zones
 obtain⟨q,rfl,hq⟩:=zone_at hz2 hi
 have h0:=hq 0 _ (by omega) rfl
 rw [addr_add_zero] at h0
 refine⟨_,rfl,IFB_ne (fun h=>absurd rfl h) (fun _=>⟨_,hg1,_,_,_,hz1,⟨by omega,by omega⟩,_,by rw [Int.toNat_natCast];exact h0,_,by rw [Int.toNat_natCast];exact hq 1 _ (by omega) rfl,_,by rw [Int.toNat_natCast];exact hq 2 _ (by omega) rfl,_,by rw [Int.toNat_natCast];exact hq 3 _ (by omega) rfl,_,by rw [Int.toNat_natCast];exact hq 4 _ (by omega) rfl,_,by rw [Int.toNat_natCast];exact hq 5 _ (by omega) rfl,_,by rw [Int.toNat_natCast];exact hq 6 _ (by omega) rfl,
  S.sto7 0 rfl fun w10 S=>⟨_,S.cell 0 rfl rfl,_,S.cell 0 rfl rfl,_,S.cell 0 rfl rfl,_,S.cell 0 rfl rfl,_,S.cell 0 rfl rfl,_,S.cell 0 rfl rfl,_,S.cell 0 rfl rfl,rfl,S.bel⟩⟩)⟩
end
def showC:List Col:=[(⟨#[97]⟩,1,false)]
def showR:List (List Val):=[[(1,3,E0)],[(1,1,E0)]]
theorem show_ok:SegOk showC showR:=by
 refine⟨by decide,by decide,fun r hr=>?_,fun r hr v hv=>?_⟩
 ·simp only [showR,List.mem_cons,List.not_mem_nil,or_false] at hr
  rcases hr with rfl | rfl <;> decide
 ·simp only [showR,List.mem_cons,List.not_mem_nil,or_false] at hr
  rcases hr with rfl | rfl
  ·rw [List.mem_singleton.1 hv];exact valok_small (by decide) (by decide)
  ·rw [List.mem_singleton.1 hv];exact valok_small (by decide) (by decide)
theorem show_zone:zmm [((1,3,E0):Val),(1,1,E0)]=((1,1,E0),(1,3,E0)):=by decide
theorem SegIs.len{cs:List Col}{rows:List (List Val)}{b:List UInt8}(hs:SegOk cs rows)(h:SegIs cs rows b):b.length≤40000000:=by
 obtain⟨xs,h1,h2,rfl⟩:=h.ex
 have:=h2.preLen hs
 have hd:=digP_len (preL cs rows xs)
 unfold sealD
 rw [List.length_append,hd]
 omega
theorem OpenV.good{cs:List Col}{rows:List (List Val)}{l:List UInt8}{w w':World}{v:Value}(hs:SegOk cs rows)(hI:SegIs cs rows l)(h:OpenV l w w' v):∃ g p cps,v=.tuple #[.pointer (some g),.int .i64 0]∧w'.cell? g=some (.pointer (some p))∧ColsAt w' p cs cps rows.length∧rws cps=(List.range cs.length).map (colOf rows)∧Below w.heap.size w w':=by
 obtain⟨B,⟨g,p,cs2,cps,n,rfl,hg,hA,_,_,hu⟩ | ⟨_,hno⟩ | ⟨_,_,hno⟩⟩:=h
 ·obtain⟨rfl,rfl,h3,h4⟩:=hu cs rows hs hI
  refine⟨g,p,cps,rfl,hg,?_,h4,B⟩
  rw [← h3]
  exact hA
 ·obtain⟨_,_,hd⟩:=hI.pre hs
  exact absurd hd hno
 ·exact absurd hI (hno cs rows hs)
theorem shown09_ok{w:World}(T:Tabs w):Calls Tryz.prog f.law09_shown #[] w (Ret fun r w'=>r=.bool true∧Below w.heap.size w w'):=by
 apply R.law09_shown_calls
 unfold R.law09_shown
 refine (ST.start w).newB fun b1 w1 _ _ S=>S.newB fun b2 w2 _ _ S=>S.newB fun b3 w3 _ _ S=>S.newB fun b4 w4 _ _ S=>?_
 have hc:Rd w4 (some ⟨b1,0,none⟩) (colsL showC):=S.rdc 3 rfl
 have hr:RowsAt w4 (some ⟨b4,0,none⟩) [(some ⟨b2,0,none⟩,1,[(1,3,E0)]),(some ⟨b3,0,none⟩,1,[(1,1,E0)])]:=by
  refine⟨S.rdc 0 rfl,fun p hp=>?_⟩
  simp only [List.mem_cons,List.not_mem_nil,or_false] at hp
  rcases hp with rfl | rfl
  ·exact S.rdc 2 rfl
  ·exact S.rdc 1 rfl
 have hW:=segment_Write_ok (c:=1) (c2:=2) (T.grown S.bel) hc (by decide) (by
  intro c hc
  rw [List.mem_singleton.1 hc]
  decide) hr (by simp) show_ok.ok
 refine hW.mono ?_
 rintro _ w5 ⟨_,rfl,hV,B5⟩
 have S:=S.grown B5
 rcases hV with ⟨hno,_⟩ | ⟨_,b,rfl,hI⟩
 ·exact absurd show_ok hno
 have hbl:=hI.len show_ok
 refine⟨_,_,rfl,(segment_Open_ok (T.grown S.bel) (sof b) (by rw [size_sof];omega)).mono ?_⟩
 rintro _ w6 ⟨_,rfl,hO⟩
 rw [bl_sof] at hO
 obtain⟨g,p,cps,rfl,hg,hA,hcols,B6⟩:=hO.good show_ok hI
 have S:=S.grown B6
 have hcl:0<cps.length:=by rw [hA.len];decide
 have hc0:cps[0].2.2=[(1,3,E0),(1,1,E0)]:=by
  have h:(rws cps)[0]?=some [(1,3,E0),(1,1,E0)]:=by rw [hcols];rfl
  rw [rws,List.getElem?_map,List.getElem?_eq_getElem hcl] at h
  exact Option.some.inj h
 refine⟨_,_,rfl,(Zone_ok hg hA hcl).mono ?_⟩
 rintro _ w7 ⟨_,rfl,rfl,B7⟩
 rw [hc0,show_zone]
 have S:=S.grown B7
 refine⟨_,_,_,_,_,_,_,_,rfl,(ST.start w7).newB fun b20 w8 _ _ U=>U.sto7 0 rfl fun w15 U=>?_⟩
 have B15:=below_trans B7 U.bel
 have hg15:=(Keeps.of_below (F:=fun _=>False) B15).cell hg (by simp)
 have hA15:=hA.grown B15
 refine IFB_eq (fun _=>IFB_eq (fun _=>IFB_not (IFB_false (IFB_eq (fun _=>(Rows_ok hg15 hA15).mono ?_) (fun h=>absurd rfl h)))) (fun h=>absurd rfl h)) (fun h=>absurd rfl h)
 rintro _ w16 ⟨_,rfl,rfl,rfl⟩
 refine⟨_,rfl,IFB_eq (fun _=>⟨_,U.cell 0 rfl rfl,IFB_eq (fun _=>⟨_,U.cell 0 rfl rfl,rfl,below_trans S.bel U.bel⟩) (fun h=>absurd rfl h)⟩) (fun h=>absurd rfl h)⟩
theorem flat_rows{f:Int→Value}{m:Nat}:∀(zss:List (List Int)) (cs:List Value),cs.length=zss.length*m→(∀ i (hi:i<zss.length),(cs.drop (i*m)).take m=zss[i].map f)→cs=zss.flatten.map f
 | [],cs,hl,_=>by
  have:cs=[]:=List.eq_nil_of_length_eq_zero (by simpa using hl)
  rw [this];rfl
 | z :: zs,cs,hl,h=>by
  have h0:=h 0 (by simp)
  simp only [Nat.zero_mul,List.drop_zero,List.getElem_cons_zero] at h0
  have ih:=flat_rows (m:=m) zs (cs.drop m) (by rw [List.length_drop,hl,List.length_cons,Nat.add_mul];omega) (fun i hi=>by
   have:=h (i+1) (by simp;omega)
   rw [List.drop_drop]
   rw [show m+i*m=(i+1)*m by rw [Nat.add_mul];omega]
   exact this)
  rw [List.flatten_cons,List.map_append,← h0,← ih,List.take_append_drop]
theorem cells_of_tab2{H:Type}{enc:TypeId × Value→H}{P:Program}{w:World}{base:Nat}{sp:Nat→Bool}{held:Bool}{fuel:Nat}{t e e2:TypeId}{n m:Nat}{k:IntKind}{cs:List Value}{zss:List (List Int)}{p:List MemPlace}
  (ht:P.underlying t=some (.array n e)) (he:P.underlying e=some (.array m e2)) (he2:P.underlying e2=some (.int k)) (hc2:P.cellsOf e2=1) (hce:P.cellsOf e=m) (hct:P.cellsOf t=n*m)
  (h:DataW.trod enc P w base sp held fuel t cs=some (.agg (zss.map (Lib.tabData k)),p)):cs=zss.flatten.map fun z=>Value.int k z:=by
 cases fuel with
 | zero=>simp [DataW.trod] at h
 | succ fuel =>
  simp only [DataW.trod,ht,hce,hct] at h
  split at h
  ·rename_i hl
   obtain⟨xs,hm,hx⟩:=Option.map_eq_some_iff.1 h
   have hxs:xs.map (·.1)=zss.map (Lib.tabData (H:=H) k):=by
    have:=congrArg Prod.fst hx
    simpa using this
   have hxl:xs.length=n:=by simpa using Lib.mapM_length hm
   have hzl:zss.length=n:=by
    have:=congrArg List.length hxs
    simp at this
    omega
   refine flat_rows (m:=m) zss cs (by rw [hl,hzl]) fun i hi=>?_
   have hin:i<n:=by omega
   obtain⟨b,hb,hf⟩:=Lib.mapM_at hm i i (by simp [hin])
   have h2:(xs.map (·.1))[i]?=some b.1:=by simp [hb]
   rw [hxs,List.getElem?_map,List.getElem?_eq_getElem hi] at h2
   have h3:b.1=Lib.tabData k zss[i]:=(Option.some.inj h2).symm
   obtain⟨b1,b2⟩:=b
   simp only at h3
   subst h3
   exact Lib.cells_of_tab he he2 hc2 hce hf
  ·cases h
theorem vars_rd{P:Program}{W:World}{name:String}{g:Nat}{cs:List Value}(hg:P.globalNamed name=some g)(h:W.var? P name=some cs.toArray):Rd W (some ⟨g,0,none⟩) cs:=by
 intro j v hv
 refine⟨_,rfl,?_⟩
 rw [addr_add_blk,Nat.zero_add]
 have:=World.var?_cell hg h j
 rw [this]
 simpa using hv
theorem tab2_of{P:Program}{W:World}{name:String}{k:IntKind}{zss:List (List Int)}{g:Nat}{t e e2:TypeId}{n m:Nat}{rest:List (String × DataW Unit)}
  (hg:P.globalNamed name=some g) (hty:(P.globals[g]?).map (·.type)=some t) (ht:P.underlying t=some (.array n e)) (he:P.underlying e=some (.array m e2)) (he2:P.underlying e2=some (.int k)) (hc2:P.cellsOf e2=1) (hce:P.cellsOf e=m) (hct:P.cellsOf t=n*m)
  (h:laidMet P ((name,.agg (zss.map (Lib.tabData k))) :: rest) W):Rd W (some ⟨g,0,none⟩) (zss.flatten.map fun z=>Value.int k z):=by
 obtain⟨ps,⟨g',t',cs,fuel,p,q,hg',ht',hvar,hd,_,_⟩,_⟩:=h
 obtain rfl:=Option.some.inj (hg.symm.trans hg')
 obtain rfl:=Option.some.inj (hty.symm.trans ht')
 have e:=cells_of_tab2 ht he he2 hc2 hce hct hd
 refine vars_rd hg ?_
 rw [hvar,← e]
theorem tab1_of{P:Program}{W:World}{name:String}{k:IntKind}{zs:List Int}{g:Nat}{t e:TypeId}{n:Nat}{rest:List (String × DataW Unit)}
  (hg:P.globalNamed name=some g) (hty:(P.globals[g]?).map (·.type)=some t) (ht:P.underlying t=some (.array n e)) (he:P.underlying e=some (.int k)) (hce:P.cellsOf e=1) (hct:P.cellsOf t=n)
  (h:laidMet P ((name,Lib.tabData k zs) :: rest) W):Rd W (some ⟨g,0,none⟩) (zs.map fun z=>Value.int k z):=vars_rd hg (Lib.tabIs_of_head hg hty ht he hce hct h)
theorem tabs_of {W : World} {l : List (String × DataW Unit)} (h1 : (l.filter fun x => x.1 == "stackyard/hash.first") = [("stackyard/hash.first", Rows.laid_stackyard_hash_first)]) (h2 : (l.filter fun x => x.1 == "stackyard/hash.orders") = [("stackyard/hash.orders", Rows.laid_stackyard_hash_orders)])
  (h3 : (l.filter fun x => x.1 == "stackyard/hash.places") = [("stackyard/hash.places", Rows.laid_stackyard_hash_places)]) (h : laidMet Tryz.prog l W) : Tabs W := by
 have g1 := h.filter fun x => x.1 == "stackyard/hash.first"
 have g2 := h.filter fun x => x.1 == "stackyard/hash.orders"
 have g3 := h.filter fun x => x.1 == "stackyard/hash.places"
 rw [h1] at g1
 rw [h2] at g2
 rw [h3] at g3
 have e1:(Rows.laid_stackyard_hash_first:DataW Unit)=Lib.tabData .u32 (firstL.map fun x=>(x.toNat:Int)):=by rfl
 have e2:(Rows.laid_stackyard_hash_orders:DataW Unit)=.agg (((List.range 10).map ordRow).map (Lib.tabData .u8)):=by rfl
 have e3:(Rows.laid_stackyard_hash_places:DataW Unit)=.agg (((List.range 8).map fun i=>(hplacesL.drop (i*4)).take 4).map (Lib.tabData .u8)):=by rfl
 rw [e1] at g1
 rw [e2] at g2
 rw [e3] at g3
 have r1:=tab1_of (g:=0) (t:=119) (e:=108) (n:=8) (by kernel_rfl) (by kernel_rfl) (by kernel_rfl) (by kernel_rfl) (by kernel_rfl) (by kernel_rfl) g1
 have r2:=tab2_of (g:=1) (t:=202) (e:=201) (e2:=5) (n:=10) (m:=16) (by kernel_rfl) (by kernel_rfl) (by kernel_rfl) (by kernel_rfl) (by kernel_rfl) (by kernel_rfl) (by kernel_rfl) (by kernel_rfl) g2
 have r3:=tab2_of (g:=2) (t:=204) (e:=203) (e2:=5) (n:=8) (m:=4) (by kernel_rfl) (by kernel_rfl) (by kernel_rfl) (by kernel_rfl) (by kernel_rfl) (by kernel_rfl) (by kernel_rfl) (by kernel_rfl) g3
 have q2:((List.range 10).map ordRow).flatten=ordersL:=by decide
 have q3:((List.range 8).map fun i=>(hplacesL.drop (i*4)).take 4).flatten=hplacesL:=by decide
 rw [q2] at r2
 rw [q3] at r3
 exact⟨by rw [List.map_map] at r1;exact r1,r2,r3⟩
section
variable {w:World}{g p:Addr}{cs:List Col}{cps:List RowP}{n:Nat}
theorem rd_none{α:Type}{f:α→List Value}{k:Nat}(hf:∀ x,(f x).length=k+1){xs:List α}(h:Rd w none (xs.flatMap f)):xs=[]:=by
 cases xs with
 | nil=>rfl
 | cons x xs =>
  have hx:=hf x
  cases hfx:f x with
  | nil=>rw [hfx] at hx;simp at hx
  | cons v vs =>
   obtain⟨p,hp,_⟩:=h 0 v (by simp [hfx])
   cases hp
theorem row_empty{b:Nat}{t:TypeId}{sz:Nat}(h:w.heap[b]?=some (.cells #[] t (0,0))):Row w t sz (some ⟨b,0,none⟩) 0 0 [] :=
 ⟨by simp,.inr ⟨b,#[],rfl,h,by omega,by omega,by simp,by simp⟩⟩
theorem vals_one(vs:List Val):∀ u∈valsL vs,u.oneCell'=true:=by
 intro u hu
 obtain⟨v,_,hv⟩:=List.mem_flatMap.1 hu
 simp only [valC,List.mem_cons,List.not_mem_nil,or_false] at hv
 rcases hv with rfl | rfl | rfl <;> rfl
theorem cols_one(vs:List Col):∀ u∈colsL vs,u.oneCell'=true:=by
 intro u hu
 obtain⟨v,_,hv⟩:=List.mem_flatMap.1 hu
 simp only [colC,List.mem_cons,List.not_mem_nil,or_false] at hv
 rcases hv with rfl | rfl | rfl <;> rfl
theorem CloneV_ok{a:Option Addr}{c:Nat}{vs:List Val}(h:Rd w a (valsL vs))(hl:vs.length≤100000):Calls Tryz.prog f.slices_Clone_api_Value_api_Value #[.slice a vs.length c] w (Ret fun v w'=>∃ a' c',v=.slice a' vs.length c'∧ST w w' [valsI a' c' vs]):=by
 apply R.slices_Clone_api_Value_api_Value_calls
 unfold R.slices_Clone_api_Value_api_Value
 cases a with
 | none =>
  have:=rd_none (k:=2) (fun _=>rfl) h
  subst this
  exact IFB_true ⟨none,0,rfl,(ST.start w).nil _ _⟩
 | some q =>
  refine IFB_false ((ST.start w).newB fun b2 w1 _ B1 S=>?_)
  have S:=S.chg 0 rfl (.refl _ _) (It.row ty.api_Value 3 (some ⟨b2,0,none⟩) 0 0 []) (row_empty (S.blk 0 rfl)) (fun k hk=>.inl hk)
  refine S.app 0 rfl tVals rfl (by omega) (by omega) (h.grown B1) (mm:=vs.length) (vals_len vs) (vals_one vs) (by omega) fun a' c' w' S=>⟨_,_,_,rfl,a',c',by rw [Nat.zero_add],?_⟩
  simp only [Nat.zero_add,List.nil_append] at S
  exact S
theorem CloneC_ok{a:Option Addr}{c:Nat}{vs:List Col}(h:Rd w a (colsL vs))(hl:vs.length≤100000):Calls Tryz.prog f.slices_Clone_api_Column_api_Column #[.slice a vs.length c] w (Ret fun v w'=>∃ a' c',v=.slice a' vs.length c'∧ST w w' [colsI a' c' vs]):=by
 apply R.slices_Clone_api_Column_api_Column_calls
 unfold R.slices_Clone_api_Column_api_Column
 cases a with
 | none =>
  have:=rd_none (k:=2) (fun _=>rfl) h
  subst this
  exact IFB_true ⟨none,0,rfl,(ST.start w).nil _ _⟩
 | some q =>
  refine IFB_false ((ST.start w).newB fun b2 w1 _ B1 S=>?_)
  have S:=S.chg 0 rfl (.refl _ _) (It.row ty.api_Column 3 (some ⟨b2,0,none⟩) 0 0 []) (row_empty (S.blk 0 rfl)) (fun k hk=>.inl hk)
  refine S.app 0 rfl tCols rfl (by omega) (by omega) (h.grown B1) (mm:=vs.length) (cols_len vs) (cols_one vs) (by omega) fun a' c' w' S=>⟨_,_,_,rfl,a',c',by rw [Nat.zero_add],?_⟩
  simp only [Nat.zero_add,List.nil_append] at S
  exact S
theorem Cols_ok(hg:w.cell? g=some (.pointer (some p)))(h:ColsAt w p cs cps n):Calls Tryz.prog f.segment_Segment_Cols #[.pointer (some g)] w (Ret fun v w'=>∃ a' c',v=.slice a' cs.length c'∧ST w w' [colsI a' c' cs]):=by
 apply R.segment_Segment_Cols_calls
 unfold R.segment_Segment_Cols
 obtain⟨a,c,h1,h2⟩:=h.cols
 have:=(right_len h.right).2
 refine IFB_false ⟨_,hg,_,_,_,h1,(CloneC_ok h2 (by omega)).mono ?_⟩
 rintro _ w1 ⟨_,rfl,a',c',rfl,S⟩
 exact⟨_,_,_,rfl,a',c',rfl,S⟩
theorem Column_ok(hg:w.cell? g=some (.pointer (some p)))(h:ColsAt w p cs cps n){i:Nat}(hi:i<cps.length):Calls Tryz.prog f.segment_Segment_Column #[.pointer (some g),.int .i64 (i:Int)] w (Ret fun v w'=>∃ a' c',v=.tuple #[.slice a' cps[i].2.2.length c',.int .i64 0]∧ST w w' [valsI a' c' cps[i].2.2]):=by
 apply R.segment_Segment_Column_calls
 unfold R.segment_Segment_Column
 refine (in_ok hg).mono ?_
 rintro _ w1 ⟨_,rfl,rfl,rfl⟩
 refine⟨_,rfl,(column_ok h (i:Int)).mono ?_⟩
 rintro _ w2 ⟨_,rfl,rfl,rfl⟩
 have hlen:=h.len
 rw [if_pos (by omega)]
 obtain⟨va,vc,hv1,hv2⟩:=h.vals
 obtain⟨q,rfl,hq,hr⟩:=hv2.at hi
 have hql:=(h.each _ (List.getElem_mem hi)).1
 have hsm:=h.small
 refine⟨_,rfl,IFB_ne (fun h=>absurd rfl h) (fun _=>⟨_,hg,_,_,_,hv1,⟨by omega,by omega⟩,_,_,_,by rw [Int.toNat_natCast];exact hq,(CloneV_ok hr (by omega)).mono ?_⟩)⟩
 rintro _ w3 ⟨_,rfl,a',c',rfl,S⟩
 exact⟨_,_,_,rfl,a',c',rfl,S⟩
end
theorem col_beq(u v:Col):((u.1==v.1) && ((u.2.1==v.2.1) && ((u.2.2==v.2.2) && true)))=decide (u=v):=by
 obtain⟨a,b,s⟩:=u
 obtain⟨c,d,t⟩:=v
 rw [Bool.eq_iff_iff]
 simp [beq_str]
section
variable {w:World}{a a2:Option Addr}{c c2:Nat}
theorem ref05_Same_ok{ls ms:List Col}(hl:Rd w a (colsL ls))(hm:Rd w a2 (colsL ms))(hn:ls.length≤9223372036854775807) :
  Calls Tryz.prog f.ref05_Same #[.slice a ls.length c,.slice a2 ms.length c2] w (Ret fun v w'=>Below w.heap.size w w'∧v=.bool (decide (ls=ms))):=by
 apply R.ref05_Same_calls
 unfold R.ref05_Same
 refine IFB_ne (fun h=>⟨.refl _ _,?_⟩) (fun hlen=>?_)
 ·congr 1
  rw [eq_comm,decide_eq_false_iff_not]
  rintro rfl
  exact h rfl
 have hlen':ls.length=ms.length:=by omega
 refine⟨fun s w1=>∃ i:Nat,i≤ls.length∧s=[.int .i64 (i:Int)]∧Below w.heap.size w w1∧ls.take i=ms.take i,fun s _=>match s with
   | [.int _ i]=>ls.length-i.toNat
   | _=>0,⟨0,by omega,rfl,.refl _ _,rfl⟩,?_⟩
 rintro _ w1 ⟨i,hi,hs,B1,hT⟩
 cases hs
 refine IFB_dec (fun hlt=>?_) (fun hge=>⟨B1,?_⟩)
 ·have h1:i<ls.length:=by omega
  have h2:i<ms.length:=by omega
  refine (SH.start (fun _=>False) w1).drawB fun w2 B2 _=>⟨⟨by omega,hlt⟩,?_⟩
  have C2:=below_trans B1 B2
  obtain⟨p1,rfl,c0,c1,c2⟩:=col_at (hl.grown C2) h1
  obtain⟨p2,rfl,d0,d1,d2⟩:=col_at (hm.grown C2) h2
  refine⟨⟨by omega,by omega⟩,_,by rw [Int.toNat_natCast];exact c0,_,by rw [Int.toNat_natCast];exact c1,_,by rw [Int.toNat_natCast];exact c2,_,by rw [Int.toNat_natCast];exact d0,_,by rw [Int.toNat_natCast];exact d1,_,by rw [Int.toNat_natCast];exact d2,?_⟩
  rw [col_beq]
  refine IFB_not (IFB_dec (fun he=>?_) (fun he=>⟨C2,?_⟩))
  ·rw [wrap_succ (by omega)]
   refine⟨⟨i+1,by omega,rfl,C2,?_⟩,?_⟩
   ·rw [List.take_succ_eq_append_getElem h1,List.take_succ_eq_append_getElem h2,hT,he]
   ·simp only [Int.toNat_natCast]
    omega
  ·congr 1
   rw [eq_comm,decide_eq_false_iff_not]
   rintro rfl
   exact he rfl
 ·congr 1
  rw [eq_comm,decide_eq_true_eq]
  rw [List.take_of_length_le (by omega),List.take_of_length_le (by omega)] at hT
  exact hT
end
theorem stRowSto{w0 w:World}{H:List It}(S:ST w0 w H)(n:Nat){e:TypeId}{sz:Nat}{g m c:Nat}{xs:List Value}(hn:H[n]?=some (It.row e sz (some ⟨g,0,none⟩) m c xs)){j:Nat}(hj:j<m*sz){v:Value}{k:World→Prop}
  (hk:∀ w',ST w0 w' (H.set n (It.row e sz (some ⟨g,0,none⟩) m c (xs.set j v)))→k w'):STO ⟨g,j,none⟩ v k w :=
 (S.rw n hn).sto hj fun w' hr K=>hk w' (S.chg n hn (K.mono fun k _ h=>by subst h;rfl) _ hr (fun k hk=>.inl hk))
theorem row_ptr{w:World}{e:TypeId}{sz:Nat}{a:Option Addr}{n c:Nat}{xs:List Value}(h:Row w e sz a n c xs)(hx:0<xs.length):∃ g,a=some ⟨g,0,none⟩:=by
 rcases h.2 with ⟨_,h0,_⟩ | ⟨g,_,rfl,_⟩
 ·have:=h.1
  rw [h0,Nat.zero_mul] at this
  omega
 ·exact⟨g,rfl⟩
section
variable {w:World}{g p:Addr}{cs:List Col}{cps:List RowP}{n:Nat}{a a2:Option Addr}{c c2:Nat}{ps:List RowP}
theorem ColsAt.zoneOk(h:ColsAt w p cs cps n){i:Nat}(hi:i<cps.length):zoneOk cps[i].2.2:=by
 obtain⟨_,k,hg⟩:=h.each _ (List.getElem_mem hi)
 exact hg.zoneOk
theorem zone_refl(n:Int)(p:Val × Val):((n==n) && (((p.1.1==p.1.1) && ((p.1.2.1==p.1.2.1) && ((p.1.2.2==p.1.2.2) && true))) && (((p.2.1==p.2.1) && ((p.2.2.1==p.2.2.1) && ((p.2.2.2==p.2.2.2) && true))) && true)))=true:=by
 simp [beq_str]
theorem Column_out(hg:w.cell? g=some (.pointer (some p)))(h:ColsAt w p cs cps n):Calls Tryz.prog f.segment_Segment_Column #[.pointer (some g),.int .i64 (cs.length:Int)] w (Ret fun v w'=>v=.tuple #[.slice none 0 0,.int .i64 2]∧w'=w):=by
 apply R.segment_Segment_Column_calls
 unfold R.segment_Segment_Column
 refine (in_ok hg).mono ?_
 rintro _ w1 ⟨_,rfl,rfl,rfl⟩
 refine⟨_,rfl,(column_ok h (cs.length:Int)).mono ?_⟩
 rintro _ w2 ⟨_,rfl,rfl,rfl⟩
 rw [if_neg (by omega)]
 exact⟨_,rfl,IFB_ne (fun _=>⟨rfl,rfl⟩) (fun h=>absurd h (by decide))⟩
theorem Zone_out(hg:w.cell? g=some (.pointer (some p)))(h:ColsAt w p cs cps n):Calls Tryz.prog f.segment_Segment_Zone #[.pointer (some g),.int .i64 (-1)] w (Ret fun v w'=>v=zV 0 (Z0,Z0) 2∧Below w.heap.size w w'):=by
 apply R.segment_Segment_Zone_calls
 unfold R.segment_Segment_Zone
 refine (ST.start w).newB fun b3 w1 _ _ S=>?_
 have hg1:=(Keeps.of_below (F:=fun _=>False) S.bel).cell hg (by simp)
 have h1:=h.grown S.bel
 refine (in_ok hg1).mono ?_
 rintro _ w1 ⟨_,rfl,rfl,rfl⟩
 refine⟨_,rfl,(column_ok h1 (-1)).mono ?_⟩
 rintro _ w2 ⟨_,rfl,rfl,rfl⟩
 rw [if_neg (by omega)]
 refine⟨_,rfl,IFB_ne (fun _=>S.sto7 0 rfl fun w10 S=>⟨_,S.cell 0 rfl rfl,_,S.cell 0 rfl rfl,_,S.cell 0 rfl rfl,_,S.cell 0 rfl rfl,_,S.cell 0 rfl rfl,_,S.cell 0 rfl rfl,_,S.cell 0 rfl rfl,rfl,S.bel⟩) (fun h=>absurd h (by decide))⟩
theorem told_ok(hg:w.cell? g=some (.pointer (some p)))(h:ColsAt w p cs cps n)(hc:Rd w a (colsL cs))(hr:RowsAt w a2 ps)(hs:SegOk cs (rws ps))(hn:n=ps.length)(hcols:rws cps=(List.range cs.length).map (colOf (rws ps))) :
  Calls Tryz.prog f.law09_told #[.pointer (some g),.slice a cs.length c,.slice a2 ps.length c2] w (Ret fun v w'=>v=.bool true∧Below w.heap.size w w'):=by
 apply R.law09_told_calls
 unfold R.law09_told
 have hlen:=h.len
 have hcl:=right_len h.right
 have hpl:ps.length≤1024:=by have:=hs.len;simpa [rws] using this
 have hci:∀ i (hi:i<cps.length),cps[i].2.2=colOf (rws ps) i:=fun i hi=>by
  have e:(rws cps)[i]?=((List.range cs.length).map (colOf (rws ps)))[i]?:=by rw [hcols]
  rw [List.getElem?_map,List.getElem?_eq_getElem hi,List.getElem?_map,List.getElem?_range (by omega)] at e
  exact Option.some.inj e
 refine IFB_false ((Cols_ok hg h).mono ?_)
 rintro _ w1 ⟨_,rfl,a1,c1,rfl,S⟩
 refine⟨_,_,_,rfl,(ref05_Same_ok (stRdC S 0 rfl) (hc.grown S.bel) (by omega)).mono ?_⟩
 rintro _ w2 ⟨_,rfl,B2,rfl⟩
 have S:=S.grown B2
 have K2:=Keeps.of_below (F:=fun _=>False) S.bel
 refine⟨_,rfl,IFB_not (IFB_dec (fun _=>(Rows_ok (K2.cell hg (by simp)) (h.grown S.bel)).mono ?_) (fun h=>absurd rfl h))⟩
 rintro _ w3 ⟨_,rfl,rfl,rfl⟩
 refine⟨_,rfl,IFB_ne (fun h=>absurd (by rw [hn]) h) (fun _=>?_)⟩
 refine⟨fun s w4=>∃ i:Nat,i≤cs.length∧s=[.int .i64 (i:Int)]∧Below w.heap.size w w4,fun s _=>match s with
   | [.int _ i]=>cs.length-i.toNat
   | _=>0,⟨0,by omega,rfl,S.bel⟩,?_⟩
 clear S K2 B2
 rintro _ w4 ⟨i,hi,hst,B⟩
 cases hst
 have hg4:=(Keeps.of_below (F:=fun _=>False) B).cell hg (by simp)
 have h4:=h.grown B
 refine IFB_dec (fun hlt=>?_) (fun hge=>?_)
 ·have hil:i<cps.length:=by omega
  have hic:=hci i hil
  have hcz:=colOf_len (rws ps) i
  have hrl:(rws ps).length=ps.length:=by simp [rws]
  obtain⟨col,hcol⟩:∃ col,col=colOf (rws ps) i:=⟨_,rfl⟩
  have hzok:zoneOk col:=by rw [hcol,← hic];exact h.zoneOk hil
  refine (ref09_Column_ok (hr.grown B) (by omega) (k:=i) (fun q hq=>by
   have:=hs.rowLen (List.mem_map.2 ⟨q,hq,rfl⟩)
   omega)).mono ?_
  rw [← hcol] at hic hcz ⊢
  rintro _ w5 ⟨_,rfl,aw,cw,rfl,S⟩
  have B5:=below_trans B S.bel
  refine⟨_,_,_,rfl,(Column_ok ((Keeps.of_below (F:=fun _=>False) B5).cell hg (by simp)) (h.grown B5) hil).mono ?_⟩
  rw [hic]
  rintro _ w6 ⟨_,rfl,al,cl,rfl,P⟩
  have S:=S.join P
  have B6:=below_trans B5 P.bel
  refine⟨_,_,_,_,rfl,(Zone_ok ((Keeps.of_below (F:=fun _=>False) B6).cell hg (by simp)) (h.grown B6) hil).mono ?_⟩
  rw [hic]
  rintro _ w7 ⟨_,rfl,rfl,B7⟩
  have S:=S.grown B7
  refine⟨_,_,_,_,_,_,_,_,rfl,S.newB fun b26 w8 _ _ S=>S.sto7 0 rfl fun w15 S=>?_⟩
  refine (ref08_Zone_ok (stRdV S 2 rfl)).mono ?_
  rintro _ w16 ⟨_,rfl,hz,B16⟩
  have S:=S.grown B16
  have hz':=hz.open
  obtain⟨zn,zp,ze,rfl,hz'⟩:=hz'
  have hzz:zn=(nullsN col:Int)∧zp=zmm col:=by
   rcases hz' with ⟨_,h1,h2,_⟩ | ⟨h1,_⟩
   ·exact⟨h1,h2⟩
   ·exact absurd hzok h1
  obtain⟨rfl,rfl⟩:=hzz
  refine⟨_,_,_,_,_,_,_,_,rfl,S.newB fun b36 w17 _ _ S=>S.sto7 0 rfl fun w24 S=>IFB_ne (fun h=>absurd rfl h) (fun _=>IFB_ne (fun h=>absurd rfl h) (fun _=>⟨_,S.cell 1 rfl rfl,_,S.cell 1 rfl rfl,_,S.cell 1 rfl rfl,_,S.cell 1 rfl rfl,_,S.cell 1 rfl rfl,_,S.cell 1 rfl rfl,_,S.cell 1 rfl rfl,_,S.cell 0 rfl rfl,_,S.cell 0 rfl rfl,_,S.cell 0 rfl rfl,_,S.cell 0 rfl rfl,_,S.cell 0 rfl rfl,_,S.cell 0 rfl rfl,_,S.cell 0 rfl rfl,?_⟩))⟩
  rw [zone_refl]
  refine IFB_false ((ref08_Same_ok (stRdV S 2 rfl) (stRdV S 3 rfl) (by omega)).mono ?_)
  rintro _ w25 ⟨_,rfl,B25,rfl⟩
  have S:=S.grown B25
  refine⟨_,rfl,IFB_not (IFB_dec (fun _=>?_) (fun h=>absurd rfl h))⟩
  have S:=S.drop 2
  refine⟨fun s w26=>∃(j:Nat) (xs:List Value),j≤col.length∧s=[.int .i64 (j:Int)]∧xs.length=col.length*3∧ST w4 w26 [It.row ty.api_Value 3 al col.length cl xs,valsI aw cw col],fun s _=>match s with
   | [.int _ i]=>col.length-i.toNat
   | _=>0,⟨0,_,by omega,rfl,vals_len col,S⟩,?_⟩
  clear S
  rintro _ w26 ⟨j,xs,hj,hst,hxl,S⟩
  cases hst
  refine IFB_dec (fun hlt2=>⟨⟨by omega,hlt2⟩,?_⟩) (fun hge2=>?_)
  ·have hjl:j<col.length:=by omega
   obtain⟨gb,rfl⟩:=row_ptr (S.rw 0 rfl) (by omega)
   simp only [PTR,addr_add_blk,Nat.zero_add,Int.toNat_natCast]
   refine stRowSto S 0 rfl (by omega) fun w27 S=>stRowSto S 0 rfl (by omega) fun w28 S=>stRowSto S 0 rfl (by omega) fun w29 S=>?_
   rw [wrap_succ (by omega)]
   refine⟨⟨j+1,_,by omega,rfl,by simp only [List.length_set];exact hxl,S⟩,?_⟩
   show col.length-((j+1:Nat):Int).toNat<col.length-((j:Nat):Int).toNat
   simp only [Int.toNat_natCast]
   omega
  ·have B26:=below_trans B S.bel
   refine (Column_ok ((Keeps.of_below (F:=fun _=>False) B26).cell hg (by simp)) (h.grown B26) hil).mono ?_
   rw [hic]
   rintro _ w30 ⟨_,rfl,al2,cl2,rfl,P⟩
   have S:=S.join P
   refine⟨_,_,_,_,rfl,(ref08_Same_ok (stRdV S 0 rfl) (stRdV S 2 rfl) (by omega)).mono ?_⟩
   rintro _ w31 ⟨_,rfl,B31,rfl⟩
   have S:=S.grown B31
   refine⟨_,rfl,IFB_not (IFB_dec (fun _=>?_) (fun h=>absurd rfl h))⟩
   rw [wrap_succ (by omega)]
   refine⟨⟨i+1,by omega,rfl,below_trans B S.bel⟩,?_⟩
   show cs.length-((i+1:Nat):Int).toNat<cs.length-((i:Nat):Int).toNat
   simp only [Int.toNat_natCast]
   omega
 ·refine (Column_out hg4 h4).mono ?_
  rintro _ w32 ⟨_,rfl,rfl,rfl⟩
  refine⟨_,_,_,_,rfl,(Zone_out hg4 h4).mono ?_⟩
  rintro _ w33 ⟨_,rfl,rfl,B33⟩
  have B33:=below_trans B B33
  refine⟨_,_,_,_,_,_,_,_,rfl,(ST.start w33).newB fun b73 w34 _ _ S=>S.sto7 0 rfl fun w41 S=>IFB_eq (fun _=>⟨rfl,below_trans B33 S.bel⟩) (fun h=>absurd rfl h)⟩
end
section
variable {w:World}{a a2:Option Addr}{c c2:Nat}{cs:List Col}{ps:List RowP}
end
section
variable {w:World}
end
section
variable {w:World}{a a2 a3:Option Addr}{c c2 c3:Nat}{cs:List Col}{ps qs:List RowP}
end
section
variable {w:World}{a a2:Option Addr}{c c2:Nat}{cs:List Col}{ps:List RowP}
theorem ref09_zone_ok(l:List UInt8)(hl:Rd w a (l.map byteV))(n:Nat)(hn:n<9223372036854775807)(p:Val × Val)(h1:rightB p.1=true∧ValOk p.1)(h2:rightB p.2=true∧ValOk p.2)(hs:l.length+10000≤140737488355328) :
  Calls Tryz.prog f.ref09_zone #[.slice a l.length c,.agg (zC (n:Int) p)] w (Ret fun v w'=>∃ a' c',v=.slice a' (l++(digitsL n++layL p.1++layL p.2)).length c'∧NewB w w' (l++(digitsL n++layL p.1++layL p.2)) a' c'):=by
 apply R.ref09_zone_calls
 unfold R.ref09_zone
 have d1:=digitsL_len10 (n:=n) (by omega)
 have d2:=layL_len h1.1 h1.2
 have d3:=layL_len h2.1 h2.2
 refine (ST.start w).newB fun b9 w1 _ B1 S=>⟨_,S.cell 0 rfl rfl,?_⟩
 rw [wrap_u64_id (by omega) (by omega)]
 refine (ref_Number_ok l (hl.grown B1) n (by omega) (by omega)).mono ?_
 rintro _ w2 ⟨_,rfl,x2,y2,rfl,N2⟩
 have S:=stAddB S N2
 refine⟨_,_,_,rfl,_,S.cell 1 rfl rfl,_,S.cell 1 rfl rfl,_,S.cell 1 rfl rfl,(ref04_Lay_ok (l++digitsL n) (stRdB S 0 rfl) p.1 h1.2 (by rw [List.length_append];omega)).mono ?_⟩
 rintro _ w3 ⟨_,rfl,h3⟩
 obtain⟨x3,y3,rfl,N3⟩:=lay_good h1.1 h3
 have S:=stAddB S N3
 refine⟨_,_,_,_,rfl,_,S.cell 2 rfl rfl,_,S.cell 2 rfl rfl,_,S.cell 2 rfl rfl,(ref04_Lay_ok (l++digitsL n++layL p.1) (stRdB S 0 rfl) p.2 h2.2 (by simp only [List.length_append];omega)).mono ?_⟩
 rintro _ w4 ⟨_,rfl,h4⟩
 obtain⟨x4,y4,rfl,N4⟩:=lay_good h2.1 h4
 have S:=stAddB S N4
 have e:l++(digitsL n++layL p.1++layL p.2)=l++digitsL n++layL p.1++layL p.2:=by simp
 rw [e]
 exact⟨_,_,_,_,rfl,x4,y4,rfl,stNew S 0 rfl⟩
theorem low_cells(n:Nat):(#[Value.int .u8 (IntKind.u8.wrap (n:Int)),.int .u8 (IntKind.u8.wrap (Int.fdiv (n:Int) (2 ^ (min 8 64)))),.int .u8 (IntKind.u8.wrap (Int.fdiv (n:Int) (2 ^ (min 16 64)))),.int .u8 (IntKind.u8.wrap (Int.fdiv (n:Int) (2 ^ (min 24 64))))]:Array Value)=((lowB n).map byteV).toArray:=by
 have sh:∀ k,Int.fdiv (n:Int) (2 ^ k)=((n / 2 ^ k:Nat):Int):=fun k=>by
  rw [Int.fdiv_eq_ediv_of_nonneg _ (Int.pow_nonneg (by decide))]
  norm_cast
 have by_:∀ m:Nat,Value.int .u8 (IntKind.u8.wrap (m:Int))=byteV (UInt8.ofNat (m % 256)):=fun m=>by
  rw [wrap_u8,← byteV_of (x:=m % 256) (by omega)]
  congr 1
 rw [show min 8 64=8 from rfl,show min 16 64=16 from rfl,show min 24 64=24 from rfl,sh,sh,sh,by_,by_,by_,by_]
 rfl
set_option maxHeartbeats 1000000 in
theorem ref09_Write_ok(hl:Rd w a (colsL cs))(hn:cs.length≤9223372036854775807)(hq:∀ c∈cs,c.1.size≤9223372036854775807)(hr:RowsAt w a2 ps)(hm:ps.length≤9223372036854775807)(hv:∀ r∈rws ps,∀ v∈r,ValOk v) :
  Calls Tryz.prog f.ref09_Write #[.slice a cs.length c,.slice a2 ps.length c2] w (Ret fun v w'=>SegV cs (rws ps) v∧Below w.heap.size w w'):=by
 apply R.ref09_Write_calls
 unfold R.ref09_Write
 have bad:∀ {wx:World} (e:Int),Below w.heap.size w wx→(segE cs (rws ps)=e)→e≠0→SegV cs (rws ps) (.tuple #[.string ⟨#[]⟩,.int .i64 e])∧Below w.heap.size w wx:=by
  rintro wx e B rfl h0
  refine⟨.inl ⟨fun hs=>h0 ?_,rfl,h0⟩,B⟩
  have h1:¬ (1024<(rws ps).length∨∃ r∈rws ps,fitsB cs r=false):=by
   rintro (h | ⟨r,hr,h⟩)
   ·have:=hs.len;omega
   ·rw [hs.fits r hr] at h;cases h
  have h2:¬ rightCols cs=false:=by rw [hs.right];decide
  rw [segE,if_neg h2,if_neg h1]
 refine (ref05_Right_ok hl hn hq).mono ?_
 rintro _ w1 ⟨_,rfl,rfl,rfl⟩
 refine⟨_,rfl,IFB_not (IFB_of (fun hR=>?_) (fun hR=>bad 50 (.refl _ _) (by rw [segE,if_pos hR]) (by decide)))⟩
 have hRn:¬ rightCols cs=false:=by rw [hR];decide
 refine IFB_dec (fun h=>bad 51 (.refl _ _) ?_ (by decide)) (fun hlen=>?_)
 ·have:1024<(rws ps).length:=by simp only [rws,List.length_map];omega
  rw [segE,if_neg hRn,if_pos (.inl this)]
 have hlen':ps.length≤1024:=by omega
 refine⟨fun s w2=>∃ i:Nat,s=[.int .i64 (i:Int)]∧i≤ps.length∧Below w1.heap.size w1 w2∧∀ j (hj:j<ps.length),j<i→fitsB cs ps[j].2.2=true,fun s _=>match s with
   | [.int _ i]=>ps.length-i.toNat
   | _=>0,⟨0,rfl,by omega,.refl _ _,fun j hj h=>by omega⟩,?_⟩
 rintro _ w2 ⟨i,hst,hi,B2,hall⟩
 cases hst
 refine IFB_dec (fun hlt=>⟨⟨by omega,hlt⟩,?_⟩) (fun hge=>?_)
 ·have hil:i<ps.length:=by omega
  obtain⟨q,rfl,hq1,hrow⟩:=(hr.grown B2).at hil
  refine⟨_,_,_,by rw [Int.toNat_natCast];exact hq1,(ref05_Fits_ok (hl.grown B2) hn hq hrow).mono ?_⟩
  rw [hR,Bool.true_and]
  rintro _ w3 ⟨_,rfl,rfl,B3⟩
  have C3:=below_trans B2 B3
  refine⟨_,rfl,IFB_not (IFB_of (fun hf=>?_) (fun hf=>bad 51 C3 ?_ (by decide)))⟩
  ·rw [wrap_succ (by omega)]
   refine⟨⟨i+1,rfl,by omega,C3,fun j hj hji=>?_⟩,by simp only [Int.toNat_natCast];omega⟩
   rcases Nat.lt_or_ge j i with h | h
   ·exact hall j hj h
   ·obtain rfl:j=i:=by omega
    exact hf
  ·rw [segE,if_neg hRn,if_pos (.inr ⟨_,List.mem_map.2 ⟨ps[i],List.getElem_mem hil,rfl⟩,hf⟩)]
 have hok:SegOk cs (rws ps):=by
  refine⟨hR,by simp only [rws,List.length_map];omega,fun r hr=>?_,hv⟩
  obtain⟨p,hp,rfl⟩:=List.mem_map.1 hr
  obtain⟨j,hj,rfl⟩:=List.getElem_of_mem hp
  exact hall j hj (by omega)
 clear hall hge hi
 have hrl:∀ p∈ps,p.2.2.length=cs.length:=fun p hp=>hok.rowLen (List.mem_map.2 ⟨p,hp,rfl⟩)
 have hcl:=right_len hR
 have hsl:=schL_len hR
 have d1:=digitsL_len10 (n:=ps.length) (by omega)
 have S:=(ST.start w1).grown B2
 refine S.newB fun b11 w4 hb11 B4 S=>conv_lit und_B und_u8 (S.blk 0 rfl) fun w5 K5 hg5=>⟨_,_,_,rfl,?_⟩
 have S:=S.chg 0 rfl (K5.mono fun k _ h=>by subst h;rfl) (bufI (some ⟨b11,0,none⟩) 4 magicB) (.inr ⟨_,rfl,rfl,Rd.of_block0 hg5,rfl,(Array.getElem?_eq_some_iff.1 hg5).1⟩) (fun k hk=>.inl hk)
 refine (ref05_Lay_ok (l:=[]) (a:=none) (c:=0) (Rd.nil _ _) (by simp) (hl.grown S.bel) hn hq).mono ?_
 rintro _ w6 ⟨_,rfl,h6⟩
 rcases h6 with ⟨hR0,_⟩ | ⟨_,a6,c6,rfl,N6⟩
 ·exact absurd hR0 hRn
 rw [List.nil_append] at N6 ⊢
 have S:=stAddB S N6
 rw [wrap_u64_id (by omega) (by omega)]
 refine⟨_,_,_,_,rfl,(ref_Number_ok (schL cs) (stRdB S 0 rfl) ps.length (by omega) (by omega)).mono ?_⟩
 rintro _ w7 ⟨_,rfl,a7,c7,rfl,N7⟩
 have S:=stAddB S N7
 refine⟨_,_,_,rfl,?_⟩
 refine⟨fun s wx=>∃(xs:List (List UInt8)) (fa:Option Addr) (fc:Nat) (ba:Option Addr) (bc:Nat),xs.length≤cs.length∧ChsIs cs (rws ps) xs∧s=[.slice ba (magicB++xs.flatten).length bc,.slice fa (schL cs++digitsL ps.length++footsL (rws ps) xs).length fc,.int .i64 (xs.length:Int)] ∧
   ST w1 wx [bytesI fa fc (schL cs++digitsL ps.length++footsL (rws ps) xs),bufI ba bc (magicB++xs.flatten)],fun s _=>match s with
   | [_,_,.int _ i]=>cs.length-i.toNat
   | _=>0,⟨[],a7,c7,some ⟨b11,0,none⟩,4,by simp,.nil _ _,?_,?_⟩,?_⟩
 ·have e1:schL cs++digitsL ps.length++footsL (rws ps) ([]:List (List UInt8))=schL cs++digitsL ps.length:=by simp [footsL]
  have e2:magicB++([]:List (List UInt8)).flatten=magicB:=by simp
  rw [e1,e2]
  rfl
 ·have e1:schL cs++digitsL ps.length++footsL (rws ps) ([]:List (List UInt8))=schL cs++digitsL ps.length:=by simp [footsL]
  have e2:magicB++([]:List (List UInt8)).flatten=magicB:=by simp
  rw [e1,e2]
  exact S.sub ((List.sublist_cons_self _ _).cons_cons _)
 clear S N6 N7
 rintro _ _ _ _ _ _ _ w8 ⟨xs,fa,fc,ba,bc,hxc,hch,hst,S⟩
 cases hst
 have hfl:=hch.flat hok
 have hfo:=hch.foots hok
 refine IFB_dec (fun hlt=>?_) (fun hge=>?_)
 ·have hqn:xs.length<cs.length:=by omega
  have hg:=hok.good hqn
  obtain⟨⟨z1,z2⟩,z3,z4⟩:=hg.zone
  have hcol:(colOf (rws ps) xs.length).length=ps.length:=by rw [colOf_len];simp [rws]
  obtain⟨col,hcolE⟩:∃ col,col=colOf (rws ps) xs.length:=⟨_,rfl⟩
  refine (ref09_Column_ok (hr.grown S.bel) (by omega) (k:=xs.length) (fun q hq=>by rw [hrl q hq];exact hqn)).mono ?_
  rw [← hcolE] at hg z1 z2 z3 z4 hcol ⊢
  rintro _ w9 ⟨_,rfl,la,lc,rfl,P⟩
  have S:=S.join P
  obtain⟨p,rfl,c0,c1,c2⟩:=col_at (hl.grown S.bel) hqn
  refine⟨_,_,_,rfl,⟨by omega,hlt⟩,_,by rw [Int.toNat_natCast];exact c1,(ref08_Encode_ok (c:=lc) cs[xs.length].2.1 (stRdV S 0 rfl) (by omega) hg.ok).mono ?_⟩
  rintro _ w10 ⟨_,rfl,h10⟩
  rcases h10 with ⟨hno,_⟩ | ⟨_,x,xa,xc,hx,rfl,h10⟩
  ·rw [hg.right] at hno;cases hno
  have hxl:=hx.len hg
  have hx5:0<x.length:=by have:=(hx.read hg).2.1;omega
  have S:=stAddB S h10
  refine⟨_,_,_,_,rfl,(ref08_Zone_ok (c:=lc) (stRdV S 1 rfl)).mono ?_⟩
  rintro _ w11 ⟨_,rfl,hz,B11⟩
  have S:=S.grown B11
  obtain⟨zn,zp,ze,rfl,hz'⟩:=hz.open
  obtain⟨rfl,rfl⟩:zn=(nullsN col:Int)∧zp=zmm col:=by
   rcases hz' with ⟨_,h1,h2,_⟩ | ⟨h1,_⟩
   ·exact⟨h1,h2⟩
   ·exact absurd hg.zoneOk h1
  refine⟨_,_,_,_,_,_,_,_,rfl,S.newB fun b39 w12 _ _ S=>S.sto7 0 rfl fun w19 S=>?_⟩
  refine stAppF S 4 rfl (stRdB S 1 rfl) hx5 (by simp only [List.length_append,magicB,List.length_cons,List.length_nil];omega) fun a20 c20 w20 S=>⟨_,_,_,rfl,S.draw fun w21 _ S=>?_⟩
  refine⟨_,S.cell 0 rfl rfl,_,S.cell 0 rfl rfl,_,S.cell 0 rfl rfl,_,S.cell 0 rfl rfl,_,S.cell 0 rfl rfl,_,S.cell 0 rfl rfl,_,S.cell 0 rfl rfl,?_⟩
  rw [wrap_u64_id (n:=(x.length:Int)) (by omega) (by omega)]
  have hnn:=nullsN_le col
  have d2:=digitsL_len10 (n:=x.length) (by omega)
  have d4:=digitsL_len10 (n:=nullsN col) (by omega)
  refine (ref_Number_ok (schL cs++digitsL ps.length++footsL (rws ps) xs) (stRdB S 3 rfl) x.length (by omega) (by simp only [List.length_append];omega)).mono ?_
  rintro _ w22 ⟨_,rfl,a22,c22,rfl,N22⟩
  have S:=stAddB S N22
  refine⟨_,_,_,rfl,⟨S.cell 1 rfl rfl,S.cell 1 rfl rfl,S.cell 1 rfl rfl,S.cell 1 rfl rfl,S.cell 1 rfl rfl,S.cell 1 rfl rfl,S.cell 1 rfl rfl⟩,?_⟩
  refine (ref09_zone_ok (schL cs++digitsL ps.length++footsL (rws ps) xs++digitsL x.length) (stRdB S 0 rfl) (nullsN col) (by omega) (zmm col) ⟨z1,z2⟩ ⟨z3,z4⟩ (by simp only [List.length_append];omega)).mono ?_
  rintro _ w23 ⟨_,rfl,a23,c23,rfl,N23⟩
  have S:=stAddB S N23
  have ef:schL cs++digitsL ps.length++footsL (rws ps) xs++digitsL x.length++(digitsL (nullsN col)++layL (zmm col).1++layL (zmm col).2)=schL cs++digitsL ps.length++footsL (rws ps) (xs++[x]):=by
   rw [footsL_snoc,← hcolE]
   simp [footC]
  have eb:magicB++xs.flatten++x=magicB++(xs++[x]).flatten:=by simp
  have el:xs.length+1=(xs++[x]).length:=by simp
  rw [ef,eb] at S
  rw [wrap_succ (by omega),ef,eb,el]
  refine⟨_,_,_,rfl,⟨xs++[x],a23,c23,a20,c20,by rw [← el];omega,hch.snoc hqn (by rw [← hcolE];exact hx),rfl,?_⟩,by rw [← el];simp only [Int.toNat_natCast];omega⟩
  have S2:ST w1 w23 [bytesI a23 c23 (schL cs++digitsL ps.length++footsL (rws ps) (xs++[x])),bytesI a20 c20 (magicB++(xs++[x]).flatten)]:=S.sub ((((List.Sublist.refl _).cons _).cons _).cons _ |>.cons _ |>.cons _ |>.cons_cons _)
  exact stToBuf S2 1 rfl
 ·have hxl:xs.length=cs.length:=by omega
  have hfo2:=hch.footLen hok
  have hpl:=hch.preLen hok
  have efl:schL cs++digitsL ps.length++footsL (rws ps) xs=footL cs (rws ps) xs:=by
   unfold footL
   rw [show (rws ps).length=ps.length by simp [rws]]
  rw [efl] at S ⊢
  obtain⟨ft,hft⟩:∃ ft,ft=footL cs (rws ps) xs:=⟨_,rfl⟩
  have hft0:0<ft.length:=by
   rw [hft,← efl]
   have:0<(schL cs).length:=by
    unfold schL
    rw [List.length_append]
    have:=List.length_pos_iff.2 (digitsL_pos cs.length)
    omega
   simp only [List.length_append]
   omega
  rw [← hft] at S hfo2 ⊢
  obtain⟨bb,hbb⟩:∃ bb,bb=magicB++xs.flatten:=⟨_,rfl⟩
  rw [← hbb] at S ⊢
  have ebl:bb.length≤33000004:=by rw [hbb];simp only [List.length_append,magicB,List.length_cons,List.length_nil];omega
  refine stAppF S 1 rfl (stRdB S 0 rfl) hft0 (by omega) fun a24 c24 w24 S=>⟨_,_,_,rfl,?_⟩
  rw [low_cells]
  refine S.newB fun b55 w25 _ _ S=>?_
  have hrl2:Rd w25 (some ⟨b55,0,none⟩) ((lowB ft.length).map byteV):=S.rdc 0 rfl
  refine stAppK S 2 rfl (m:=lowB ft.length) (k:=4) rfl hrl2 (by simp only [List.length_append,lowB,List.length_cons,List.length_nil];omega) fun a26 c26 w26 S=>⟨_,_,_,rfl,?_⟩
  have epre:bb++ft++lowB ft.length=preL cs (rws ps) xs:=by rw [hbb,hft];rfl
  rw [epre] at S ⊢
  obtain⟨pre,hpre⟩:∃ pre,pre=preL cs (rws ps) xs:=⟨_,rfl⟩
  rw [← hpre] at S hpl ⊢
  have hcap:=(S.get 2 rfl:Row w26 _ _ _ _ _ _).le
  refine (ref03_Sum_ok pre (stRdB S 2 rfl) hcap (by omega)).mono ?_
  rintro _ w27 ⟨_,rfl,rfl,B27⟩
  have S:=S.grown B27
  have hdl:(digP pre).length=32:=digP_len _
  obtain⟨dg,hdg⟩:∃ dg,dg=digP pre:=⟨_,rfl⟩
  rw [← hdg] at hdl ⊢
  have hdm:(dg.map byteV).length=32:=by rw [List.length_map];exact hdl
  refine LIKEL_by dg hdl ⟨rfl,S.newB fun b60 w28 _ _ S=>BIF_len hdm (S.stoAll 0 rfl hdm (bytes_one _) fun w29 S=>?_)⟩
  have S2:ST w1 w29 [It.cells b60 ⟨dg.map byteV⟩ 73,bytesI a26 c26 pre]:=S.sub (((List.Sublist.refl _).cons _).cons _ |>.cons_cons _)
  refine⟨fun s wx=>∃(j:Nat) (xa:Option Addr) (xc:Nat),s=[.slice xa (pre++dg.take j).length xc,.int .i64 (j:Int)]∧j≤32∧ST w1 wx [It.cells b60 ⟨dg.map byteV⟩ 73,bytesI xa xc (pre++dg.take j)],fun s _=>match s with
   | [_,.int _ i]=>32-i.toNat
   | _=>0,⟨0,a26,c26,by simp,by omega,by simpa using S2⟩,?_⟩
  clear S S2
  rintro _ _ _ _ w30 ⟨j,xa,xc,hst,hj,S⟩
  cases hst
  refine IFB_dec (fun hlt2=>⟨⟨by omega,hlt2⟩,?_⟩) (fun hge2=>?_)
  ·have hjl:j<dg.length:=by omega
   have hcell:w30.cell? ((⟨b60,0,none⟩:Addr).add ((j:Int).toNat*1))=some (.int .u8 (dg[j].toNat:Int)):=by
    rw [Int.toNat_natCast,addr_add_blk,Nat.zero_add,Nat.mul_one]
    refine S.cell 0 rfl ?_
    simp [hjl,byteV]
   refine⟨_,hcell,S.newB fun b67 w32 _ _ S=>?_⟩
   have hsrc:Rd w32 (some ⟨b67,0,none⟩) ([dg[j]].map byteV):=S.rdc 0 rfl
   refine stAppK S 2 rfl (m:=[dg[j]]) (k:=1) rfl hsrc (by simp only [List.length_append,List.length_take,List.length_cons,List.length_nil];omega) fun a33 c33 w33 S=>⟨_,_,_,rfl,?_⟩
   have ej:pre++dg.take j++[dg[j]]=pre++dg.take (j+1):=by rw [List.take_succ_eq_append_getElem hjl,List.append_assoc]
   rw [ej] at S
   rw [wrap_succ (by omega),ej]
   exact⟨⟨j+1,a33,c33,rfl,by omega,S.drop 1⟩,by simp only [Int.toNat_natCast];omega⟩
  ·obtain rfl:j=32:=by omega
   rw [List.take_of_length_le (by omega)] at S ⊢
   refine string_of_bytes tbytes rfl (stRdB S 1 rfl) ⟨_,rfl,.inr ⟨hok,_,rfl,⟨xs,hxl,hch,?_⟩⟩,S.bel⟩
   rw [sealD,hdg,hpre]
end
theorem takeCols_le{l:List UInt8}:∀(n at_:Nat) {r:List Col × Nat},takeCols l at_ n=some r→at_≤l.length→r.2≤l.length
 | 0,at_,r,h,h0=>by simp only [takeCols,Option.some.injEq] at h;subst h;exact h0
 | n+1,at_,r,h,h0=>by
  unfold takeCols at h
  cases hx:takeT l (at_:Int) 24 with
  | none=>rw [hx] at h;cases h
  | some x =>
   rw [hx] at h
   simp only at h
   split at h
   ·cases h
   ·rename_i hno
    obtain⟨y,hy,rfl⟩:=Option.map_eq_some_iff.1 h
    have:=takeCols_le n (x.2+2) hy (by omega)
    exact this
theorem takeSch_le{l:List UInt8}{at_:Int}{r:List Col × Nat}(h:takeSch l at_=some r):r.2≤l.length:=by
 unfold takeSch at h
 split at h
 ·cases h
 ·rename_i x hx
  obtain⟨_,_,_,hb,_⟩:=takeN_bounds hx
  split at h
  ·cases h
  ·split at h
   ·cases h
   ·rename_i y hy
    split at h
    ·cases h
     exact takeCols_le _ _ hy hb
    ·cases h
theorem rowAt_add(cols:List (List Val))(l:List Val)(q:Nat):rowAt (cols++[l]) q=rowAt cols q++[l.getD q Z0]:=by simp [rowAt]
def RdV(b:List UInt8)(w w':World)(v:Value):Prop :=
 Below w.heap.size w w'∧((∃ cs cols ps ca cc bo n,v=.tuple #[.slice ca cs.length cc,.slice (some ⟨bo,0,none⟩) n n,.bool true]∧Rd w' ca (colsL cs)∧RowsAt w' (some ⟨bo,0,none⟩) ps∧ps.length=n∧n≤1024∧rightCols cs=true∧rws ps=rowsOf cols n ∧
   (∀ col∈cols,col.length=n∧∃ k,Good1 k col)∧∀ cs' rows' xs',PreIs cs' rows' xs' b→cs=cs'∧n=rows'.length∧cols=(List.range cs'.length).map (colOf rows')) ∨
  (v=.tuple #[.slice none 0 0,.slice none 0 0,.bool false]∧∀ cs' rows' xs',¬ PreIs cs' rows' xs' b))
theorem flat_take{xs:List (List UInt8)}{i:Nat}(hi:i<xs.length):(xs.take (i+1)).flatten=(xs.take i).flatten++xs[i]:=by
 rw [List.take_succ_eq_append_getElem hi,List.flatten_append]
 simp
section
variable {w:World}{a:Option Addr}{c:Nat}{b:List UInt8}
set_option maxHeartbeats 1000000 in
theorem ref09_read_ok(s:ByteArray)(hb:b=(bl s).take (s.size-32))(h40:40≤s.size)(hs:s.size≤140737488355328) :
  Calls Tryz.prog f.ref09_read #[.string s] w (Ret fun v w'=>RdV b w w' v):=by
 apply R.ref09_read_calls
 unfold R.ref09_read
 have hsl:=bl_length s
 have hbl:b.length=s.size-32:=by rw [hb,List.length_take];omega
 have eW:IntKind.i64.wrap ((s.size:Int)-32)=(b.length:Int):=by rw [wrap_i64 (by omega) (by omega)];omega
 rw [eW,Int.toNat_natCast]
 have eX:s.extract 0 b.length=sof b:=by rw [extract_eq,List.drop_zero,Nat.sub_zero,hbl,← hb]
 rw [eX]
 refine⟨⟨by omega,by omega,by omega⟩,bytes_of_string tbytes (sof b) w fun b0 c0 cells e0 w1 hb0 B1 hg1 hcs hsc htk=>?_⟩
 rw [size_sof] at hsc htk ⊢
 rw [bl_sof] at htk
 have hr1:Rd w1 (some ⟨b0,0,none⟩) (b.map byteV):=by
  have:=(Rd.of_block0 hg1).take b.length
  rw [htk] at this
  exact this
 refine⟨_,_,_,rfl,?_⟩
 obtain⟨t,ht⟩:∃ t,t=b.drop (b.length-4):=⟨_,rfl⟩
 have htl:t.length=4:=by rw [ht,List.length_drop];omega
 refine⟨fun st w2=>∃ k:Nat,st=[.int .i64 (accN t k:Int),.int .i64 ((k+1:Nat):Int)]∧k≤4∧w1=w2,fun st _=>match st with
   | [_,.int _ i]=>5-i.toNat
   | _=>0,⟨0,by simp [accN],by omega,rfl⟩,?_⟩
 rintro _ _ w2 ⟨k,hst,hk,rfl⟩
 cases hst
 refine IFB_dec (fun hlt=>?_) (fun hge=>?_)
 ·have hk4:k<t.length:=by omega
  have h1:=accN_lt (l:=t) k (by omega)
  have h2:256 ^ k≤256 ^ 3:=Nat.pow_le_pow_right (by omega) (by omega)
  have h3:(256:Nat) ^ 3=16777216:=by decide
  have hbi:b.length-(k+1)<b.length:=by omega
  have eI:IntKind.i64.wrap ((b.length:Int)-((k+1:Nat):Int))=((b.length-(k+1):Nat):Int):=by rw [wrap_i64 (by omega) (by omega)];omega
  rw [eI,Int.toNat_natCast]
  obtain⟨p,hp,hcell⟩:=byte_at hr1 hbi
  cases hp
  refine⟨⟨by omega,by omega⟩,_,hcell,?_⟩
  have ht1:t[t.length-1-k]'(by omega)=b[b.length-(k+1)]:=by
   simp only [ht,List.getElem_drop,List.length_drop]
   congr 1
   omega
  have hlt2:=(b[b.length-(k+1)]).toNat_lt
  have ea:IntKind.i64.wrap (IntKind.i64.wrap (256*(accN t k:Int))+IntKind.i64.wrap ((b[b.length-(k+1)]).toNat:Int))=(accN t (k+1):Int):=by
   rw [accN_succ hk4,ht1,wrap_i64 (n:=256*(accN t k:Int)) (by omega) (by omega),wrap_i64 (n:=((b[b.length-(k+1)]).toNat:Int)) (by omega) (by omega),wrap_i64 (by omega) (by omega)]
   omega
  have eb:IntKind.i64.wrap (((k+1:Nat):Int)+1)=((k+1+1:Nat):Int):=wrap_succ (by omega)
  rw [ea,eb]
  exact⟨⟨k+1,rfl,by omega,rfl⟩,by simp only [Int.toNat_natCast];omega⟩
 obtain rfl:k=4:=by omega
 obtain⟨n,hn⟩:∃ n,n=accN t 4:=⟨_,rfl⟩
 have hnlt:n<4294967296:=by rw [hn];exact accN_lt (l:=t) 4 (by omega)
 have hsp:∀ cs rows xs,PreIs cs rows xs b→n=(footL cs rows xs).length:=fun cs rows xs h=>by rw [hn,ht];exact h.split.2.1
 rw [← hn]
 have eW1:IntKind.i64.wrap ((b.length:Int)-4)=((b.length-4:Nat):Int):=by rw [wrap_i64 (by omega) (by omega)];omega
 rw [eW1]
 simp only [Int.toNat_natCast,Nat.sub_zero]
 refine⟨⟨by omega,by omega,by omega⟩,?_⟩
 have eW2:IntKind.i64.wrap (((b.length-4:Nat):Int)-4)=((b.length-8:Nat):Int):=by rw [wrap_i64 (by omega) (by omega)];omega
 have S:=ST.start w1
 have bad:∀ {wx:World},Below w.heap.size w wx→(∀ cs' rows' xs',¬ PreIs cs' rows' xs' b)→RdV b w wx (.tuple #[.slice none 0 0,.slice none 0 0,.bool false]):=fun B h=>⟨B,.inr ⟨rfl,h⟩⟩
 refine IFB_dec (fun h=>bad (below_trans B1 S.bel) fun cs rows xs hP=>?_) (fun hle=>?_)
 ·have:=hP.split.2.2.1
  have:=hsp cs rows xs hP
  rw [eW2] at h
  omega
 rw [eW2] at hle
 have hnb:n≤b.length-8:=by omega
 have eW3:IntKind.i64.wrap (((b.length-4:Nat):Int)-(n:Int))=((b.length-4-n:Nat):Int):=by rw [wrap_i64 (by omega) (by omega)];omega
 simp only [eW3,Int.toNat_natCast]
 refine⟨⟨by omega,by omega,by omega⟩,?_⟩
 obtain⟨hrf,_⟩:=read_slices (c:=c0) hr1 hsc (by omega) hnb
 obtain⟨ft,hft⟩:∃ ft,ft=(b.take (b.length-4)).drop (b.length-4-n):=⟨_,rfl⟩
 obtain⟨bd,hbd⟩:∃ bd,bd=(b.take (b.length-4-n)).drop 4:=⟨_,rfl⟩
 rw [← hft] at hrf
 obtain⟨fa,hfa⟩:∃ fa,fa=SLA (SLA (some ⟨b0,0,none⟩) 0 c0 1) (b.length-4-n) c0 1:=⟨_,rfl⟩
 rw [← hfa] at hrf ⊢
 have hftl:ft.length=b.length-4-(b.length-4-n):=by rw [hft,List.length_drop,List.length_take];omega
 have hbdl:bd.length=b.length-4-n-4:=by rw [hbd,List.length_drop,List.length_take];omega
 rw [← hftl]
 have hP1:∀ cs rows xs,PreIs cs rows xs b→ft=footL cs rows xs∧bd=xs.flatten:=fun cs rows xs hP=>by
  have e:=hsp cs rows xs hP
  have:=hP.split.2.2.2
  rw [← e] at this
  exact⟨by rw [hft];exact this.1,by rw [hbd];exact this.2⟩
 have hT:=ref05_Take_ok (c:=c0-(b.length-4-n)) hrf (by omega) (by omega) 0 (by omega)
 refine hT.mono ?_
 rintro _ w10 ⟨_,rfl,hT⟩
 obtain⟨cs,ca,cc,at1,e,rfl,S,hcl,hcs⟩:=hT.open S (fun r h=>takeSch_right h)
 refine⟨_,_,_,_,_,rfl,IFB_ne (fun h=>bad (below_trans B1 S.bel) fun cs' rows xs hP=>?_) (fun he=>?_)⟩
 ·have h2:=foot_sch (xs:=xs) hP.ok
  rw [← (hP1 cs' rows xs hP).1] at h2
  rcases hcs with ⟨h3,_⟩ | ⟨_,h3⟩
  ·exact h h3
  ·rw [h2] at h3;cases h3
 have hcs':takeSch ft 0=some (cs,at1)∧rightCols cs=true:=by
  rcases hcs with ⟨_,h3⟩ | ⟨h3,_⟩
  ·exact h3
  ·exact absurd he h3
 have hat1:at1≤ft.length:=takeSch_le hcs'.1
 refine (ref09_sizes_ok (c:=c0-(b.length-4-n)) (hrf.grown S.bel) (by omega) (by omega) (at1:Int) (by omega) cs.length (by omega)).mono ?_
 rintro _ w11 ⟨_,rfl,hPl⟩
 obtain⟨r,ns,na,nc,ok,rfl,S,hns⟩:=hPl.open S
 refine⟨_,_,_,_,_,rfl,IFB_not (IFB_of (fun hok=>?_) (fun hok=>bad (below_trans B1 S.bel) fun cs' rows xs hP=>?_))⟩
 rotate_left
 ·have h2:=foot_sch (xs:=xs) hP.ok
  rw [← (hP1 cs' rows xs hP).1,hcs'.1] at h2
  have h4:=Option.some.inj h2
  obtain rfl:cs=cs':=congrArg Prod.fst h4
  obtain rfl:at1=(schL cs).length:=congrArg Prod.snd h4
  have h5:=foot_pl (lim:=100000000) (by omega) hP.ok hP.chs hP.len
  rw [← (hP1 cs rows xs hP).1] at h5
  rcases hns with ⟨h6,_⟩ | ⟨_,h6⟩
  ·rw [hok] at h6;cases h6
  ·rw [h5] at h6;cases h6
 have hns':takePl 100000000 ft (at1:Int) cs.length=some (r,ns):=by
  rcases hns with ⟨_,h6⟩ | ⟨h6,_⟩
  ·exact h6
  ·rw [hok] at h6;cases h6
 obtain⟨hnl,hr24⟩:=takePl_len hns'
 simp only at hnl hr24
 have key:∀ cs' rows xs,PreIs cs' rows xs b→cs=cs'∧r=rows.length∧ns=xs.map List.length∧bd=xs.flatten:=fun cs' rows xs hP=>by
  have h2:=foot_sch (xs:=xs) hP.ok
  rw [← (hP1 cs' rows xs hP).1,hcs'.1] at h2
  have h4:=Option.some.inj h2
  obtain rfl:cs=cs':=congrArg Prod.fst h4
  obtain rfl:at1=(schL cs).length:=congrArg Prod.snd h4
  have h5:=foot_pl (lim:=100000000) (by omega) hP.ok hP.chs hP.len
  rw [← (hP1 cs rows xs hP).1,hns'] at h5
  have h6:=Option.some.inj h5
  exact⟨rfl,congrArg Prod.fst h6,congrArg Prod.snd h6,(hP1 cs rows xs hP).2⟩
 refine make_new tRows (l:=(r:Int)) (c:=(r:Int)) (by omega) (by omega) (by omega) (by omega) fun bo w12 hbo B12 hO12=>?_
 rw [Int.toNat_natCast] at hO12 ⊢
 have S:=grid_made S r hbo B12 hO12
 have S:ST w1 w12 ([intsI na nc ns,colsI ca cc cs]++gridH bo (List.replicate r (none,0,[]))):=S.perm List.perm_append_comm
 let Inv:List Value→World→Prop:=fun st wx=>∃(i from_:Nat) (cols:List (List Val)) (ps:List RowP),st=[.int .i64 (from_:Int),.int .i64 (i:Int)]∧i≤cs.length∧cols.length=i∧4≤from_∧from_≤b.length-4-n∧ps.length=r ∧
  (∀ col∈cols,col.length=r∧∃ k,Good1 k col)∧(∀ q (hq:q<ps.length),ps[q].2.2=rowAt cols q)∧(∀ cs' rows xs,PreIs cs' rows xs b→from_=4+(xs.take i).flatten.length∧cols=(List.range i).map (colOf rows)) ∧
  ST w1 wx ([intsI na nc ns,colsI ca cc cs]++gridH bo ps)
 let Mu:List Value→World→Nat:=fun st _=>match st with
   | [_,.int _ i]=>cs.length-i.toNat
   | _=>0
 refine⟨_,_,_,rfl,Inv,Mu,⟨0,4,[],_,rfl,by omega,rfl,by omega,by omega,List.length_replicate,by simp,fun q hq=>by simp [rowAt],fun cs' rows xs hP=>⟨by simp,by simp⟩,S⟩,?_⟩
 clear S
 rintro _ _ w13 ⟨i,from_,cols,ps,hst,hi,hcoll,hf4,hfle,hpl,hgood,hrow,hrel,S⟩
 cases hst
 refine IFB_dec (fun hlt=>⟨⟨by omega,by omega⟩,?_⟩) (fun hge=>?_)
 ·have hil:i<ns.length:=by omega
  have hN:Rd w13 na (ns.map fun n:Nat=>Value.int .i64 (n:Int)):=S.rd 0 rfl
  obtain⟨pn,rfl,hcn⟩:=nat_at hN hil
  have hxi:∀ cs' rows xs,PreIs cs' rows xs b→∃ hx:i<xs.length,ns[i]=xs[i].length∧bd.drop (from_-4)=xs[i]++(xs.drop (i+1)).flatten:=fun cs' rows xs hP=>by
   obtain⟨_,_,h1,h2⟩:=key cs' rows xs hP
   have hx:i<xs.length:=by rw [h1,List.length_map] at hil;exact hil
   refine⟨hx,by simp [h1],?_⟩
   have h3:=(hrel cs' rows xs hP).1
   rw [h2,← flatten_drop hx]
   have h4:xs.flatten=(xs.take i).flatten++(xs.drop i).flatten:=by rw [← List.flatten_append,List.take_append_drop]
   rw [h4,h3,Nat.add_sub_cancel_left,List.drop_left]
  have eF:IntKind.i64.wrap (((b.length-4-n:Nat):Int)-(from_:Int))=((b.length-4-n-from_:Nat):Int):=by rw [wrap_i64 (by omega) (by omega)];omega
  rw [eF]
  refine⟨_,by rw [Int.toNat_natCast];exact hcn,IFB_dec (fun h=>bad (below_trans B1 S.bel) fun cs' rows xs hP=>?_) (fun hfit=>?_)⟩
  ·obtain⟨hx,h1,h2⟩:=hxi cs' rows xs hP
   have:=congrArg List.length h2
   rw [List.length_append,List.length_drop] at this
   omega
  have hfit':from_+ns[i]≤b.length-4-n:=by omega
  have eG:IntKind.i64.wrap ((from_:Int)+(ns[i]:Int))=((from_+ns[i]:Nat):Int):=by rw [wrap_i64 (by omega) (by omega)];omega
  refine⟨⟨by omega,by omega⟩,_,by rw [Int.toNat_natCast];exact hcn,?_⟩
  rw [eG]
  simp only [Int.toNat_natCast]
  refine⟨⟨by omega,by omega,by omega⟩,?_⟩
  obtain⟨ch,hch⟩:∃ ch,ch=(bd.drop (from_-4)).take ns[i]:=⟨_,rfl⟩
  have hchl:ch.length=from_+ns[i]-from_:=by rw [hch,List.length_take,List.length_drop];omega
  have hsl2:Rd w1 (SLA (SLA (some ⟨b0,0,none⟩) 0 c0 1) from_ c0 1) (ch.map byteV):=by
   have h0:=hr1.sla 0 (b.length-4) c0 1 (by omega)
   have h:=h0.sla from_ (from_+ns[i]) c0 1 (by omega)
   simp only [Nat.mul_one,List.drop_zero,Nat.sub_zero] at h
   rw [← List.map_take,← List.map_drop,← List.map_take] at h
   have e:((b.take (b.length-4)).drop from_).take (from_+ns[i]-from_)=ch:=by
    rw [hch,hbd,List.drop_drop,show 4+(from_-4)=from_ by omega,Nat.add_sub_cancel_left,List.drop_take,List.drop_take,List.take_take,List.take_take]
    congr 1
    omega
   rwa [e] at h
  rw [← hchl]
  refine (ref08_Decode_ok (c:=c0-from_) (hsl2.grown S.bel) (by omega) (by omega)).mono ?_
  rintro _ w14 ⟨_,rfl,K,ls,la,lc,e14,rfl,hRd,B14,hll,hcase⟩
  have S:=stAddRd S B14 hRd
  have hdec:∀ cs' rows xs,PreIs cs' rows xs b→e14=0∧ls=colOf rows i:=fun cs' rows xs hP=>by
   obtain⟨hx,h1,h2⟩:=hxi cs' rows xs hP
   have hxc:i<cs'.length:=by have:=hP.len;omega
   have h3:ch=xs[i]:=by rw [hch,h1,h2,List.take_left]
   have h4:=hP.chs.each i hxc hx
   rw [← h3] at h4
   rcases hcase with ⟨_,_,he,hu⟩ | ⟨hno,_⟩
   ·exact⟨he,((hu _ _ (hP.ok.good hxc) h4).2).symm⟩
   ·exact absurd h4 (hno _ _ (hP.ok.good hxc))
  refine⟨_,_,_,_,_,rfl,IFB_ne (fun h=>bad (below_trans B1 S.bel) fun cs' rows xs hP=>h (hdec cs' rows xs hP).1) (fun he=>IFB_ne (fun h=>bad (below_trans B1 S.bel) fun cs' rows xs hP=>?_) (fun hlr=>?_))⟩
  ·have:=(hdec cs' rows xs hP).2
   have h5:=(key cs' rows xs hP).2.1
   rw [this,colOf_len] at h
   omega
  have hg:Good1 K ls:=by
   rcases hcase with ⟨h,_⟩ | ⟨_,_,_,h⟩
   ·exact h
   ·rw [h] at he;exact absurd he (by decide)
  have hlr':ls.length=r:=by omega
  refine⟨fun st wx=>∃(j:Nat) (qs:List RowP),st=[.int .i64 (j:Int)]∧j≤r∧qs.length=r∧(∀ q (hq:q<qs.length),qs[q].2.2=if q<j then rowAt (cols++[ls]) q else rowAt cols q)∧ST w1 wx ([It.rd la (valsL ls),intsI (some pn) nc ns,colsI ca cc cs]++gridH bo qs),fun st _=>match st with
   | [.int _ j]=>r-j.toNat
   | _=>0,⟨0,ps,rfl,by omega,hpl,fun q hq=>by rw [hrow q hq];simp,S⟩,?_⟩
  clear S
  rintro _ w15 ⟨j,qs,hst,hj,hql,hqrow,S⟩
  cases hst
  refine IFB_dec (fun hlt2=>?_) (fun hge2=>?_)
  ·have hjr:j<r:=by omega
   have hjq:j<qs.length:=by omega
   refine S.draw fun w16 _ S=>⟨⟨by omega,by omega⟩,⟨by omega,by omega⟩,?_⟩
   have hgc:=grid_cell S hjq
   have hval:Rd w16 la (valsL ls):=S.ok (It.rd la (valsL ls)) (by simp)
   obtain⟨q2,rfl,d0,d1,d2⟩:=val_at hval (i:=j) (by omega)
   refine⟨_,_,_,by rw [Int.toNat_natCast];exact hgc,_,by rw [Int.toNat_natCast];exact d0,_,by rw [Int.toNat_natCast];exact d1,_,by rw [Int.toNat_natCast];exact d2,S.newB fun b20 w17 _ _ S=>?_⟩
   have hjls:j<ls.length:=by omega
   have S':ST w1 w17 ([It.cells b20 (valC ls[j]).toArray ty.api_Value,It.rd (some q2) (valsL ls),intsI (some pn) nc ns,colsI ca cc cs]++gridH bo qs):=S
   have hgc5:=grid_cell S' hjq
   have hri:qs[j].2.2=rowAt cols j:=by rw [hqrow j hjq];simp
   have hrl:qs[j].2.2.length=i:=by rw [hri];simp [rowAt,hcoll]
   refine⟨by rw [Int.toNat_natCast];exact hgc5,?_⟩
   have hsrc:Rd w17 (some ⟨b20,0,none⟩) (valC ls[j]):=S'.rdc 0 rfl
   refine grid_app S' hjq hsrc (by omega) fun a6 c6 w6 hk=>⟨_,_,_,rfl,⟨by omega,by omega⟩,?_⟩
   rw [Int.toNat_natCast]
   unfold PTR
   simp only
   refine hk _ fun w7 S=>?_
   rw [wrap_succ (by omega)]
   refine⟨⟨j+1,qs.set j (a6,c6,qs[j].2.2++[ls[j]]),rfl,by omega,by rw [List.length_set];exact hql,fun q hq=>?_,S.drop 1⟩,by simp only [Int.toNat_natCast];omega⟩
   rw [List.length_set] at hq
   rw [List.getElem_set]
   by_cases hqj:j=q
   ·subst hqj
    simp only [if_true,Nat.lt_succ_self]
    rw [hri,rowAt_add]
    simp [List.getD,hjls]
   ·rw [if_neg hqj,hqrow q hq]
    by_cases h5:q<j
    ·rw [if_pos h5,if_pos (by omega)]
    ·rw [if_neg h5,if_neg (by omega)]
  ·have hN:Rd w15 (some pn) (ns.map fun n:Nat=>Value.int .i64 (n:Int)):=S.rd 1 rfl
   obtain⟨pn',hpn',hcn2⟩:=nat_at hN hil
   cases hpn'
   refine⟨⟨by omega,by omega⟩,_,hcn2,?_⟩
   rw [eG,wrap_succ (by omega)]
   refine⟨⟨i+1,from_+ns[i],cols++[ls],qs,rfl,by omega,by simp [hcoll],by omega,by omega,hql,fun col hcol=>?_,fun q hq=>by rw [hqrow q hq,if_pos (by omega)],fun cs' rows xs hP=>?_,S.drop 1⟩,by show cs.length-((i+1:Nat):Int).toNat<cs.length-((i:Nat):Int).toNat;omega⟩
   ·rcases List.mem_append.1 hcol with h | h
    ·exact hgood col h
    ·rw [List.mem_singleton.1 h]
     exact⟨hlr',K,hg⟩
   ·obtain⟨hx,h1,h2⟩:=hxi cs' rows xs hP
    obtain⟨h3,h4⟩:=hrel cs' rows xs hP
    refine⟨?_,?_⟩
    ·rw [flat_take hx,List.length_append,h3,h1]
     omega
    ·rw [List.range_succ,List.map_append,h4,(hdec cs' rows xs hP).2]
     rfl
 ·have hie:i=cs.length:=by omega
  refine⟨below_trans B1 S.bel,.inl ⟨cs,cols,ps,ca,cc,bo,r,rfl,stRdC S 1 rfl,grid_rows S,hpl,hr24,hcs'.2,rows_ext hpl hrow,hgood,fun cs' rows xs hP=>?_⟩⟩
  obtain⟨h1,h2,h3,h4⟩:=key cs' rows xs hP
  exact⟨h1,h2,by rw [(hrel cs' rows xs hP).2,hie,h1]⟩
end
end Go.Proofs.YtipgnehlihmdhaaGreatDoor
