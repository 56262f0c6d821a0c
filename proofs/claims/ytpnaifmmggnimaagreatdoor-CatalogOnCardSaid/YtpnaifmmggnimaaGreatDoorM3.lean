/- Texts of this claim, laid one behind the other by a program of mine. -/
import Derived.Test.YtpnaifmmggnimaaGreatDoorM2
import Derived.Below
import Derived.Laws.MakeOwn
import Derived.Laws.BytesString
import Derived.Laws.NewBlocks
import Derived.Laws.OwnMore
import Derived.Laws.StructEq
import Derived.Laws.Strings2
import Derived.Laws.BytesArg
import Derived.Test.YtpnaifmmggnimaaGreatDoorRead
import Derived.Test.YtpnaifmmggnimaaGreatDoorM1
import Derived.Laws.CopyRow
import Derived.Laws.IdiomCopy
namespace Go.Dn
open _root_.List renaming getElem?_eq_some_iff -> Aic, getElem?_set_ne -> Aif, getElem?_set_self -> Aie, mem_of_getElem? -> Aib
open _root_.Nat renaming lt_of_lt_of_le -> Aid
set_option linter.unusedVariables false
set_option maxRecDepth 100000
open Go.RowKit (Below)
/-! ## What stays -/
structure Ak(F:Nat->Prop)(w w':World):Prop where
 os:w'.os=w.os
 tape:w'.tape=w.tape
 output:w'.output=w.output
 size:w.heap.size<=w'.heap.size
 block:∀ k,k<w.heap.size->¬ F k->w'.heap[k]?=w.heap[k]?
theorem Ak.refl(F:Nat->Prop)(w:World):Ak F w w:=⟨rfl,rfl,rfl,Nat.le_refl _,λ _ _ _=>rfl⟩
theorem Ak.trans{F G:Nat->Prop}{a b c:World}(h:Ak F a b)(h':Ak G b c)(hs:∀ k,k<a.heap.size->G k->F k):Ak F a c :=
 ⟨h'.os.trans h.os,h'.tape.trans h.tape,h'.output.trans h.output,Nat.le_trans h.size h'.size,
  λ k hk hn=>(h'.block k (Aid hk h.size) λ hg=>hn (hs k hk hg)).trans (h.block k hk hn)⟩
theorem Ak.mono{F G:Nat->Prop}{a b:World}(h:Ak F a b)(hs:∀ k,k<a.heap.size->F k->G k):Ak G a b :=
 ⟨h.os,h.tape,h.output,h.size,λ k hk hn=>h.block k hk λ hf=>hn (hs k hk hf)⟩
theorem Ak.AB{F:Nat->Prop}{a b:World}(h:Below a.heap.size a b):Ak F a b:=⟨h.os,h.tape,h.output,h.size,λ k hk _=>h.block k hk⟩
theorem Ak.below{F:Nat->Prop}{a b:World}{B:Nat}(h:Ak F a b)(hB:B<=a.heap.size)(hs:∀ k,k<B->¬ F k):Below B a b :=
 ⟨h.os,h.tape,h.output,h.size,λ k hk=>h.block k (Aid hk hB) (hs k hk)⟩
theorem Ak.alloc{F:Nat->Prop}{a w:World}(h:Ak F a w)(o:Obj):Ak F a (w.alloc o) :=
 ⟨h.os,h.tape,h.output,Nat.le_trans h.size Osi,λ k hk hn=>(Below.heap_alloc w o k (Aid hk h.size)).trans (h.block k hk hn)⟩
theorem Ak.drew{F:Nat->Prop}{a w:World}(h:Ak F a w):Ak F a w.drew:=⟨h.os,h.tape,h.output,h.size,h.block⟩
theorem Ak.setCell{F:Nat->Prop}{a w:World}(h:Ak F a w){p:Addr}(hp:F p.block\/a.heap.size<=p.block)(v:Value):Ak F a (w.setCell p v) :=
 ⟨h.os,h.tape,h.output,by simpa using h.size,λ k hk hn=>by
  rw [Below.heap_setCell w p v k (by rintro rfl;rcases hp with hp | hp;exact hn hp;omega)];exact h.block k hk hn⟩
theorem Ak.cell{F:Nat->Prop}{a b:World}(h:Ak F a b){p:Addr}{v:Value}(hc:a.cell? p=some v)(hn:¬ F p.block):b.cell? p=some v :=
 (World.cell?_of_block (w:=a) (h.block p.block (World.block_lt_of_cell? a p hc) hn)).trans hc
theorem Ak.at{F:Nat->Prop}{a b:World}(h:Ak F a b){k:Nat}{o:Obj}(hc:a.heap[k]?=some o)(hn:¬ F k):b.heap[k]?=some o :=
 (h.block k (Array.getElem?_eq_some_iff.1 hc).1 hn).trans hc
/-! ## Known blocks -/
abbrev Xm:=Nat × Array Value × TypeId
structure SH(F:Nat->Prop)(w0 w:World)(H:List Xm):Prop where
 keeps:Ak F w0 w
 mem:∀ x∈H,w.heap[x.1]?=some (.cells x.2.1 x.2.2 (0,0))
 nodup:(H.map (·.1)).Nodup
 own:∀ x∈H,F x.1\/w0.heap.size<=x.1
section
variable {F:Nat->Prop}{w0 w:World}{H:List Xm}
theorem SH.lt(S:SH F w0 w H){x:Xm}(hx:x∈H):x.1<w.heap.size:=(Array.getElem?_eq_some_iff.1 (S.mem x hx)).1
theorem SH.start(F:Nat->Prop)(w:World):SH F w w []:=⟨.refl F w,Osi,Osi,Osi⟩
theorem SH.alloc(S:SH F w0 w H)(cs:Array Value)(t:TypeId):SH F w0 (w.alloc (.cells cs t)) ((w.heap.size,cs,t) :: H) where
 keeps:=S.keeps.alloc _
 mem:=by
  intro x hx;rcases List.mem_cons.1 hx with rfl | hx
  ·exact heap_alloc_new w _
  ·rw [Below.heap_alloc w _ x.1 (S.lt hx)];exact S.mem x hx
 nodup:=by
  simp only [List.map_cons,List.nodup_cons];refine⟨λ hm=>?_,S.nodup⟩;obtain⟨x,hx,he⟩:=List.mem_map.1 hm;have:=S.lt hx;omega
 own:=by
  intro x hx;rcases List.mem_cons.1 hx with rfl | hx
  ·exact .inr S.keeps.size
  ·exact S.own x hx
theorem SH.drew(S:SH F w0 w H):SH F w0 w.drew H:=⟨S.keeps.drew,S.mem,S.nodup,S.own⟩
theorem SH.draw(S:SH F w0 w H){k:World->Prop}(hk:∀ w',SH F w0 w' H->k w'):PF k w:=hk _ S.drew
theorem SH.get(S:SH F w0 w H)(n:Nat){b:Nat}{cs:Array Value}{t:TypeId}(hn:H[n]?=some (b,cs,t)):w.heap[b]?=some (.cells cs t (0,0)) :=
 S.mem _ (Aib hn)
theorem SH.cell(S:SH F w0 w H)(n:Nat){b:Nat}{cs:Array Value}{t:TypeId}(hn:H[n]?=some (b,cs,t)){i:Nat}{v:Value}(hv:cs[i]?=some v):w.cell? ⟨b,i,none⟩=some v:=by
 have:=S.get n hn;simp [World.cell?,this,hv]
theorem SH.free(S:SH F w0 w H)(n:Nat){b:Nat}{cs:Array Value}{t:TypeId}(hn:H[n]?=some (b,cs,t))(i:Nat):w.frozen? ⟨b,i,none⟩=false:=by
 have:=S.get n hn;simp [World.frozen?,this]
theorem Yy{α:Type}{l:List α}(h:l.Nodup){i j:Nat}{x y:α}(hi:l[i]?=some x)(hj:l[j]?=some y)(aQ:i≠j):x≠y:=by
 obtain⟨h1,rfl⟩:=Aic.1 hi;obtain⟨h2,rfl⟩:=Aic.1 hj;intro he;rcases Nat.lt_or_gt_of_ne aQ with aB | aB
 ·exact (List.pairwise_iff_getElem.1 h) i j h1 h2 aB he
 ·exact (List.pairwise_iff_getElem.1 h) j i h2 h1 aB he.symm
theorem SH.setAt(S:SH F w0 w H)(n:Nat){b:Nat}{cs:Array Value}{t:TypeId}(hn:H[n]?=some (b,cs,t)){w':World}{aC:Array Value}(hk:Ak (·=b) w w')
  (hb:w'.heap[b]?=some (.cells aC t (0,0))):SH F w0 w' (H.set n (b,aC,t)) where
 keeps:=S.keeps.trans hk λ k aB he=>by
  subst he;rcases S.own _ (Aib hn) with h | h
  ·exact h
  ·exact absurd aB (Nat.not_lt.2 h)
 mem:=by
  intro x hx;obtain⟨i,hi⟩:=List.mem_iff_getElem?.1 hx;by_cases cG:n=i
  ·subst cG;have aB:=(Aic.1 hn).1;rw [Aie aB] at hi;cases hi;exact hb
  ·rw [Aif cG] at hi;have aQ:x.1≠b:=by
    refine Yy S.nodup (i:=i) (j:=n) ?_ ?_ (Ne.symm cG)
    ·simp [hi]
    ·simp [hn]
   exact hk.at (S.mem x (Aib hi)) aQ
 nodup:=by
  have:(H.set n (b,aC,t)).map (·.1)=H.map (·.1):=by
   apply List.ext_getElem?;intro i;simp only [List.getElem?_map];by_cases cG:n=i
   ·subst cG;have aB:=(Aic.1 hn).1;rw [Aie aB,hn];rfl
   ·rw [Aif cG]
  rw [this];exact S.nodup
 own:=by
  intro x hx;obtain⟨i,hi⟩:=List.mem_iff_getElem?.1 hx;by_cases cG:n=i
  ·subst cG;have aB:=(Aic.1 hn).1;rw [Aie aB] at hi;cases hi;exact S.own (b,cs,t) (Aib hn)
  ·rw [Aif cG] at hi;exact S.own x (Aib hi)
theorem EX(w:World)(b i:Nat)(v:Value):Ak (·=b) w (w.setCell ⟨b,i,none⟩ v):=Ak.setCell (F:=(·=b)) (Ak.refl _ w) (p:=⟨b,i,none⟩) (.inl rfl) v
theorem Fa{w:World}{b i:Nat}{cs:Array Value}{t:TypeId}{f:Nat × Nat}(h:w.heap[b]?=some (.cells cs t f))(v:Value) :
  (w.setCell ⟨b,i,none⟩ v).heap[b]?=some (.cells (cs.setIfInBounds i v) t f):=by
 simp [World.setCell,Array.getElem?_modify,h]
theorem SH.BD(S:SH F w0 w H)(n:Nat){b:Nat}{cs:Array Value}{t:TypeId}(hn:H[n]?=some (b,cs,t)){i:Nat}{v:Value}{k:World->Prop}(hi:i<cs.size)
  (hk:∀ w',SH F w0 w' (H.set n (b,cs.setIfInBounds i v,t))->k w'):DG ⟨b,i,none⟩ v k w:=by
 refine⟨?_,S.free n hn i,hk _ (S.setAt n hn (EX w b i v) (Fa (S.get n hn) v))⟩;rw [S.cell n hn (Array.getElem?_eq_getElem hi)];rfl
theorem SH.grown(S:SH F w0 w H){w':World}(h:Below w.heap.size w w'):SH F w0 w' H where
 keeps:=S.keeps.trans (Ak.AB (F:=λ _=>False) h) Osi
 mem:=λ x hx=>(h.block x.1 (S.lt hx)).trans (S.mem x hx)
 nodup:=S.nodup
 own:=S.own
theorem SH.kept(S:SH F w0 w H){G:Nat->Prop}{w':World}(h:Ak G w w')(hd:∀ x∈H,¬ G x.1)(hF:∀ k,k<w0.heap.size->G k->F k):SH F w0 w' H where
 keeps:=S.keeps.trans h hF
 mem:=λ x hx=>h.at (S.mem x hx) (hd x hx)
 nodup:=S.nodup
 own:=S.own
theorem SH.drop(S:SH F w0 w H)(n:Nat):SH F w0 w (H.drop n) :=
 ⟨S.keeps,λ x hx=>S.mem x (List.mem_of_mem_drop hx),by rw [List.map_drop];exact S.nodup.sublist (List.drop_sublist _ _),λ x hx=>S.own x (List.mem_of_mem_drop hx)⟩
end
end Go.Dn
namespace Go.Dn
open _root_.Array renaming getElem?_modify -> Aig, length_toList -> Aim, toList_append -> Aik
open _root_.List renaming eq_nil_of_length_eq_zero -> Aii, getElem?_drop -> Aih, take_left -> Ail
open _root_.Nat renaming add_mul -> Aij
set_option linter.unusedVariables false
set_option maxRecDepth 100000
open Go.RowKit (Below)
theorem BJ(p:Addr)(x y:Nat):(p.add x).add y=p.add (x+y):=by
 unfold Addr.add;by_cases hx:x=0
 ·subst hx;simp
 ·by_cases hy:y=0
  ·subst hy;simp
  ·simp [hx,hy,Nat.add_assoc]
theorem CS(p:Addr):p.add 0=p:=by simp [Addr.add]
theorem Ax(b i j:Nat):(⟨b,i,none⟩:Addr).add j=⟨b,i+j,none⟩:=by
 unfold Addr.add;by_cases hj:j=0
 ·subst hj;simp
 ·simp [hj]
theorem Dv(p:Addr)(x:Nat):(p.add x).block=p.block:=by
 unfold Addr.add;split <;> rfl
def Rd(w:World)(a:Option Addr)(vs:List Value):Prop:=∀ j v,vs[j]?=some v->∃ p,a=some p/\w.cell? (p.add j)=some v
theorem Rd.nil(w:World)(a:Option Addr):Rd w a []:=by intro j v h;simp at h
theorem Rd.keeps{F:Nat->Prop}{w w':World}{a:Option Addr}{vs:List Value}(h:Rd w a vs)(hk:Ak F w w')(hn:∀ p,a=some p->¬ F p.block):Rd w' a vs:=by
 intro j v hv;obtain⟨p,hp,hc⟩:=h j v hv;exact⟨p,hp,hk.cell hc (by rw [Dv];exact hn p hp)⟩
theorem Rd.grown{w w':World}{a:Option Addr}{vs:List Value}(h:Rd w a vs)(hk:Below w.heap.size w w'):Rd w' a vs :=
 h.keeps (F:=λ _=>False) (Ak.AB hk) Osi
theorem Rd.take{w:World}{a:Option Addr}{vs:List Value}(h:Rd w a vs)(n:Nat):Rd w a (vs.take n):=by
 intro j v hv;rw [List.getElem?_take] at hv;split at hv
 ·exact h j v hv
 ·cases hv
theorem Rd.drop{w:World}{p:Addr}{vs:List Value}(h:Rd w (some p) vs)(n:Nat):Rd w (some (p.add n)) (vs.drop n):=by
 intro j v hv;rw [Aih] at hv;obtain⟨q,hq,hc⟩:=h _ v hv;cases hq;exact⟨_,rfl,by rw [BJ];exact hc⟩
theorem Rd.NQ{w:World}{a:Option Addr}{vs:List Value}(h:Rd w a vs)(l hh m sz:Nat)(h2:hh<=m):Rd w (Ch a l m sz) ((vs.drop (l*sz)).take ((hh-l)*sz)):=by
 unfold Ch;split
 ·have:hh-l=0:=Omg;rw [this];simp [Rd]
 ·cases a with
  | none =>
   intro j v hv;rw [List.getElem?_take] at hv;split at hv
   ·rw [Aih] at hv;obtain⟨p,hp,_⟩:=h _ v hv;cases hp
   ·cases hv
  | some p=>exact (h.drop (l*sz)).take _
theorem Rd.Aec{w:World}{b:Nat}{cs:Array Value}{t:TypeId}{f:Nat × Nat}(h:w.heap[b]?=some (.cells cs t f))(i:Nat):Rd w (some ⟨b,i,none⟩) (cs.toList.drop i):=by
 intro j v hv;refine⟨_,rfl,?_⟩;rw [Ax];rw [Aih] at hv;simp [World.cell?,h];simpa using hv
theorem Rd.Al{w:World}{b:Nat}{cs:Array Value}{t:TypeId}{f:Nat × Nat}(h:w.heap[b]?=some (.cells cs t f)):Rd w (some ⟨b,0,none⟩) cs.toList:=by
 have:=Rd.Aec h 0;simpa using this
def AF(a:Option Addr):Option Nat:=a.map (·.block)
def Row(w:World)(e:TypeId)(sz:Nat)(a:Option Addr)(n c:Nat)(xs:List Value):Prop :=
 xs.length=n*sz/\((a=none/\n=0/\c=0) \/
  ∃ g cur,a=some ⟨g,0,none⟩/\w.heap[g]?=some (.cells cur e (0,0))/\n<=c/\c<=9223372036854775807/\cur.size=c*sz/\cur.toList.take (n*sz)=xs)
theorem Row.nil(w:World)(e:TypeId)(sz:Nat):Row w e sz none 0 0 []:=⟨Osi,.inl ⟨rfl,rfl,rfl⟩⟩
theorem Row.rd{w:World}{e:TypeId}{sz:Nat}{a:Option Addr}{n c:Nat}{xs:List Value}(h:Row w e sz a n c xs):Rd w a xs:=by
 rcases h with ⟨hl,⟨rfl,rfl,rfl⟩ | ⟨g,cur,rfl,hg,_,_,_,rfl⟩⟩
 ·have:xs=[]:=Aii (by simpa using hl);subst this;exact Rd.nil _ _
 ·exact (Rd.Al hg).take _
theorem Row.le{w:World}{e:TypeId}{sz:Nat}{a:Option Addr}{n c:Nat}{xs:List Value}(h:Row w e sz a n c xs):n<=c:=by
 rcases h with ⟨_,⟨_,rfl,rfl⟩ | ⟨_,_,_,_,h,_⟩⟩
 ·exact Nat.le_refl _
 ·exact h
theorem Row.lt{w:World}{e:TypeId}{sz:Nat}{a:Option Addr}{n c:Nat}{xs:List Value}(h:Row w e sz a n c xs){k:Nat}(hk:AF a=some k):k<w.heap.size:=by
 rcases h with ⟨_,⟨rfl,_⟩ | ⟨g,cur,rfl,hg,_⟩⟩
 ·cases hk
 ·cases hk;exact (Array.getElem?_eq_some_iff.1 hg).1
theorem Row.keeps{F:Nat->Prop}{w w':World}{e:TypeId}{sz:Nat}{a:Option Addr}{n c:Nat}{xs:List Value}(h:Row w e sz a n c xs)(hk:Ak F w w')(hn:∀ k,AF a=some k->¬ F k):Row w' e sz a n c xs:=by
 refine⟨h.1,?_⟩;rcases h.2 with h | ⟨g,cur,rfl,hg,r⟩
 ·exact .inl h
 ·exact .inr ⟨g,cur,rfl,hk.at hg (hn g rfl),r⟩
theorem Row.grown{w w':World}{e:TypeId}{sz:Nat}{a:Option Addr}{n c:Nat}{xs:List Value}(h:Row w e sz a n c xs)(hk:Below w.heap.size w w'):Row w' e sz a n c xs :=
 h.keeps (F:=λ _=>False) (Ak.AB hk) Osi
def Me(P:Program)(t:TypeId):Option (TypeId × Nat × Nat × Value) :=
 match P.underlying t with
 | some (.slice e) =>
  (match P.info? e with
  | some i=>(match i.zero with
   | some z=>some (e,i.size,i.bytes,z)
   | none=>none)
  | none=>none)
 | _=>none
theorem Pm{P:Program}{t e:TypeId}{sz by_:Nat}{z:Value}(h:Me P t=some (e,sz,by_,z)):P.underlying t=some (.slice e)/\∃ i,P.info? e=some i/\i.zero=some z/\i.size=sz/\i.bytes=by_:=by
 unfold Me at h;split at h
 ·rename_i e' hu;split at h
  ·rename_i i hi;split at h
   ·rename_i z' hz;simp only [Option.some.injEq,Prod.mk.injEq] at h;obtain⟨rfl,rfl,rfl,rfl⟩:=h;exact⟨hu,i,hi,hz,rfl,rfl⟩
   ·cases h
  ·cases h
 ·cases h
theorem GP(w:World)(g:Nat)(cs:Array Value):Ak (·=g) w (w.setRow g cs) :=
 ⟨rfl,rfl,rfl,by simp [World.setRow],λ k _ hn=>by simp only [World.setRow,Aig];rw [if_neg (λ h=>hn h.symm)]⟩
theorem Kr{w:World}{g:Nat}{cur cs:Array Value}{t:TypeId}{f:Nat × Nat}(h:w.heap[g]?=some (.cells cur t f)):(w.setRow g cs).heap[g]?=some (.cells cs t f):=by
 simp [World.setRow,Aig,h]
theorem BV{P:Program}{t ty e:TypeId}{sz bytes:Nat}{z:Value}(hT:Me P t=some (e,sz,bytes,z))(hz:z.cells.size=sz)(ao:0<sz)(bZ:0<bytes)
  {w:World} {a:Option Addr} {n c:Nat} {xs:List Value} (hr:Row w e sz a n c xs) {b:Option Addr} {m mc:Nat} {news:List Value} (hs:Rd w b news) (hl:news.length=m*sz)
  (h1:∀ u∈news,u.oneCell'=true) (df:(n+m)*bytes<=140737488355328) :
  ∃ a' c' w',(Builtin.append_ #[t,t] ty #[.slice a n c,.slice b m mc]).run P w=.ok (.slice a' (n+m) c') w'/\Row w' e sz a' (n+m) c' (xs++news) /\
   Ak (λ k=>AF a=some k) w w'/\(∀ k,AF a'=some k->AF a=some k\/w.heap.size<=k):=by
 obtain⟨hu,i,hi,hiz,rfl,rfl⟩:=Pm hT;have cB:n+m<=140737488355328:=Nat.le_trans (Nat.le_mul_of_pos_right _ bZ) df;have hlen:(xs++news).length=(n+m)*i.size:=by rw [List.length_append,hr.1,hl,Aij]
 have grown:∀(old:Nat),old<n+m->Row (w.drew.alloc (.cells (xs.toArray++news.toArray++Builtin.zeroCells z.cells (grownCap w (n+m) old e-(n+m))) e)) e i.size
   (some ⟨w.heap.size,0,none⟩) (n+m) (grownCap w (n+m) old e) (xs++news):=by
  intro old ho;have aJ:=grownCap_ge w (n+m) old e;have j':grownCap w (n+m) old e<=maxLen:=grownCap_le_maxLen w (n+m) old e (by unfold maxLen;omega);refine⟨hlen,.inr ⟨w.heap.size,_,rfl,heap_alloc_new w.drew _,aJ,by unfold maxLen at j';omega,?_,?_⟩⟩
  ·simp only [Array.size_append,List.size_toArray,size_zeroCells,hz,hr.1,hl,<- Aij];congr 1;omega
  ·simp only [Aik,List.append_assoc];rw [<- List.append_assoc,<- hlen];exact Ail
 have de:∀(cs:Array Value) (row:Nat->Prop),Ak row w (w.drew.alloc (.cells cs e)):=λ cs row=>(Ak.refl row w).drew.alloc _;have src:0<m->∃ p,b=some p/\∀ j u,news[j]?=some u->w.cell? (p.add j)=some u:=by
  intro hm;have h0:0<news.length:=by rw [hl];exact Nat.mul_pos hm ao
  obtain⟨p,hp,_⟩:=hs 0 news[0] (List.getElem?_eq_getElem h0);refine⟨p,hp,λ j u hu=>?_⟩;obtain⟨q,hq,hc⟩:=hs j u hu;rw [hp] at hq;cases hq;exact hc
 have mI:m=0->news=[]:=λ hm=>Aii (by rw [hl,hm];simp);rcases hr.2 with ⟨rfl,rfl,rfl⟩ | ⟨g,cur,rfl,hg,pH,j',aj,htake⟩
 ·have hx:xs=[]:=Aii (by simpa using hr.1);subst hx;by_cases hm:m=0
  ·have hn:=mI hm;subst hm hn;refine⟨none,0,w,?_,by simpa using Row.nil w e i.size,.refl _ _,by simp [AF]⟩;cases b <;> simp [Builtin.append_,run_underlying hu,sizeOf,typeInfo,hi,Builtin.lenOf,Builtin.firstCells,loadCells,loadCellsFrom]
  ·obtain⟨p,rfl,hp⟩:=src Omg;have aG:=run_append_nil (P:=P) w t ty e i z hu hi hiz p m mc news hl hp Omg Omg (by simp only [Nat.zero_add] at df;omega);have aI:=grown 0 Omg;simp only [Nat.zero_add] at aI aG ⊢;refine⟨_,_,_,aG,?_,de _ _,λ k hk=>.inr ?_⟩
   ·simpa using aI
   ·simp [AF] at hk;omega
 ·by_cases eR:n+m<=c
  ·by_cases hm:m=0
   ·have hn:=mI hm;subst hm hn;refine⟨some ⟨g,0,none⟩,c,w,?_,by simpa using hr,.refl _ _,λ k hk=>.inl hk⟩;cases b <;> simp [Builtin.append_,run_underlying hu,sizeOf,typeInfo,hi,Builtin.lenOf,Builtin.firstCells,loadCells,loadCellsFrom,pH,storeCells]
   ·obtain⟨p,rfl,hp⟩:=src Omg;have cf:n*i.size+news.length<=cur.size:=by rw [hl,aj,<- Aij];exact Nat.mul_le_mul_right _ eR
    have aG:=run_append_room (P:=P) w t ty e i hu hi g n c cur hg p m mc news hl hp h1 eR cf;have dE:(List.take (n*i.size) cur.toList)=xs:=htake;refine⟨_,_,_,aG,⟨hlen,.inr ⟨g,_,rfl,Kr hg,eR,j',?_,?_⟩⟩,(GP w g _).mono (λ k _ h=>by subst h;rfl),λ k hk=>.inl hk⟩
    ·simp only [List.size_toArray,List.length_append,List.length_take,List.length_drop,Aim];omega
    ·rw [dE];rw [<- hlen];exact Ail
  ·obtain⟨p,rfl,hp⟩:=src Omg;have hold:∀ j v,xs[j]?=some v->w.cell? ((⟨g,0,none⟩:Addr).add j)=some v:=by
    intro j v hv;obtain⟨q,hq,hc⟩:=hr.rd j v hv;cases hq;exact hc
   have aG:=run_append_grow (P:=P) w t ty e i z hu hi hiz ⟨g,0,none⟩ n c xs hr.1 hold p m mc news hl hp Omg Omg (growslice_fits Omg df);refine⟨_,_,_,aG,grown c Omg,de _ _,λ k hk=>.inr ?_⟩;simp [AF] at hk;omega
def bl(s:ByteArray):List UInt8:=s.data.toList
def Bu(l:List UInt8):ByteArray:=⟨l.toArray⟩
def Ag(c:UInt8):Value:=.int .u8 (c.toNat:Int)
theorem Bn(l:List UInt8):bl (Bu l)=l:=by simp [bl,Bu]
theorem DP(s:ByteArray):Bu (bl s)=s:=by cases s;simp [bl,Bu]
theorem AW(s:ByteArray):(bl s).length=s.size:=Aim
theorem AP(l:List UInt8):(Bu l).size=l.length:=by simp [Bu,ByteArray.size]
theorem PM{s t:ByteArray}(h:bl s=bl t):s=t:=by rw [<- DP s,<- DP t,h]
theorem extract_eq(s:ByteArray)(a b:Nat):s.extract a b=Bu (((bl s).drop a).take (b-a)):=by
 have h:=ByteArray.extract_mk (bl s) a b;have e:(ByteArray.mk (bl s).toArray)=s:=DP s;rw [e] at h;exact h
theorem AU(a b:ByteArray):A1 a b=decide (a=b):=by
 unfold A1;rw [ByteArray.toList_eq,ByteArray.toList_eq];have:(a=b)↔a.data.toList=b.data.toList:=⟨λ h=>by rw [h],λ h=>PM h⟩;rw [Bool.eq_iff_iff];simp [this]
theorem WA(a b:ByteArray):(a==b)=decide (a=b):=by
 rw [beq_toListBytes];exact AU a b
theorem LQ(s:ByteArray)(i:Nat):Az s i=(bl s).getD i 0:=rfl
theorem Vm(c:UInt8):(Ag c).oneCell'=true:=rfl
def Tc(P:Program)(st bt:TypeId):Bool :=
 match P.underlying st,P.underlying bt with
 | some .string,some (.slice e)=>(match P.underlying e with
  | some (.int .u8)=>true
  | _=>false)
 | _,_=>false
theorem Td{P:Program}{st bt:TypeId}(h:Tc P st bt=true):P.underlying st=some .string/\∃ e,P.underlying bt=some (.slice e)/\P.underlying e=some (.int .u8):=by
 unfold Tc at h;split at h
 ·rename_i e hs hb;split at h
  ·rename_i he;exact⟨hs,e,hb,he⟩
  ·cases h
 ·cases h
theorem Oz(F:Nat->Prop)(w:World)(p:Addr)(n:Nat)(hp:F p.block):Ak F w (w.freeze p n):=by
 unfold World.freeze;split
 ·exact .refl _ _
 ·refine⟨rfl,rfl,rfl,Osi,λ k _ hn=>?_⟩;simp only [Aig];rw [if_neg (λ h=>hn (by rw [<- h];exact hp))]
theorem BT{P:Program}{st bt:TypeId}(hT:Tc P st bt=true)(s:ByteArray)(w:World){f:Value->World->Prop}
  (hf:∀(b c:Nat) (cs:Array Value) (e:TypeId) (w':World),b=w.heap.size->Below w.heap.size w w'->w'.heap[b]?=some (.cells cs e (cs.size,cs.size+1))->cs.size=c->s.size<=c ->
   cs.toList.take s.size=(bl s).map Ag->f (.slice (some ⟨b,0,none⟩) s.size c) w'):De P (convert st bt (.string s)) f w:=by
 obtain⟨hs,e,hb,he⟩:=Td hT;let cap:=grownCap w s.size 0 e;let cs:Array Value:=(s.data.map λ b=>Value.int .u8 b.toNat)++Array.replicate (cap-s.size) (.int .u8 0);have aJ:s.size<=cap:=grownCap_ge w s.size 0 e;have ao:cs.size=cap:=by
  have:s.data.size=s.size:=rfl;simp [cs,this];omega
 let w1:World:=w.drew.alloc (.cells cs e);have zD:w1.heap[w.heap.size]?=some (.cells cs e (0,0)):=heap_alloc_new w.drew _;have gW:w1.shape? w.heap.size=some (e,cs.size):=by simp [World.shape?,zD]
 have aG:(convert st bt (.string s)).run P w=.ok (.slice (some ⟨w.heap.size,0,none⟩) s.size cap) (w1.freeze ⟨w.heap.size,cs.size,none⟩ 1):=by
  have hq:(Question.appendCap s.size 0 e).forced=false:=rfl;have ax:(newRow e cs).run P w.drew=.ok ⟨w.heap.size,0,none⟩ w1:=rfl;have eH:(choose (.appendCap s.size 0 e)).run P w=.ok cap w.drew:=by
   rw [run_choose];simp [hq,cap,grownCap]
  have jo:(markStringish ⟨w.heap.size,0,none⟩).run P w1=.ok () (w1.freeze ⟨w.heap.size,cs.size,none⟩ 1):=by
   simp [markStringish,gW]
  simp only [convert,Sem.run_bind,run_underlying hs,run_underlying hb,run_underlying he,Result.andThen_ok,Conv.stringToBytes,eH,Sem.run_pure];simp only [cs] at ax;rw [ax];simp only [Result.andThen_ok,jo]
 unfold De;rw [aG];have qd:(w1.freeze ⟨w.heap.size,cs.size,none⟩ 1).heap[w.heap.size]?=some (.cells cs e (cs.size,cs.size+1)):=by
  unfold World.freeze;simp [Aig,zD]
 refine hf _ _ cs e _ rfl ?_ qd ao aJ ?_
 ·have h1:Ak (λ k=>k=w.heap.size) w w1:=(Ak.refl _ w).drew.alloc _;have h2:=Oz (λ k=>k=w.heap.size) w1 ⟨w.heap.size,cs.size,none⟩ 1 rfl;exact (h1.trans h2 (λ _ _ h=>h)).below (Nat.le_refl _) (λ k hk he=>Omg)
 ·have hl:s.size=((s.data.map λ b=>Value.int .u8 b.toNat)).toList.length:=by rw [Aim,Array.size_map];rfl
  simp only [cs,Aik];rw [hl,Ail];simp [bl,Ag]
theorem Aan(l:List UInt8):(l.map λ c=>((c.toNat:Nat):Int)).foldl (λ r n=>r.push (UInt8.ofNat n.toNat)) ByteArray.empty=Bu l:=by
 rw [foldl_push_bytes];apply PM;rw [Bn];show (ByteArray.empty.data++_).toList=l;have h0:ByteArray.empty.data.toList=[]:=rfl;rw [Aik,h0,List.nil_append,List.map_map,List.toList_toArray];have:((λ n:Int=>UInt8.ofNat n.toNat) ∘ λ c:UInt8=>((c.toNat:Nat):Int))=id:=by
  funext c;simp
 rw [this,List.map_id]
theorem Aw{P:Program}{st bt:TypeId}(hT:Tc P st bt=true){w:World}{a:Option Addr}{l:List UInt8}{n c:Nat}(hn:n=l.length)(hr:Rd w a (l.map Ag)){f:Value->World->Prop}
  (hf:f (.string (Bu l)) w):De P (convert bt st (.slice a n c)) f w:=by
 obtain⟨hs,e,hb,he⟩:=Td hT;unfold De;rw [run_convert_bytes_string w bt st e a n c hb he hs];cases a with
 | none =>
  have hl:l=[]:=by
   cases l with
   | nil=>rfl
   | cons x r =>
    obtain⟨p,hp,_⟩:=hr 0 (Ag x) Osi;cases hp
  subst hl;have:Bu []=ByteArray.empty:=rfl;rw [this] at hf;simpa [Conv.bytesToString] using hf
 | some p =>
  have hld:(loadCells p n).run P w=.ok ((l.map λ c=>((c.toNat:Nat):Int)).map (Value.int .u8)).toArray w:=by
   have:=run_loadCells_list (P:=P) w p (l.map Ag) (λ j v hv=>by
    obtain⟨q,hq,hc⟩:=hr j v hv;cases hq;exact hc)
   rw [List.length_map,<- hn] at this;rw [this];congr 1;simp [Ag,Function.comp_def]
  rw [run_bytesToString w p n c _ hld,Aan];exact hf
end Go.Dn
namespace Go.Dn
open Go.RowKit (Below)
theorem SH.below{w0 w:World}{H:List Xm}(S:SH (λ _=>False) w0 w H):Below w0.heap.size w0 w:=S.keeps.below (Nat.le_refl _) Osi
end Go.Dn
namespace Go.Dn
open _root_.Array renaming ext' -> Ah4
open _root_.List renaming append_assoc -> Air, length_append -> Aiq, length_cons -> Ais, replicate -> Aio, set_set -> Aip
open _root_.Nat renaming le_refl -> Ain
open Go.RowKit (Below)
section
variable {F:Nat->Prop}{w0 w:World}{H:List Xm}
theorem SH.An(S:SH F w0 w H){cs:Array Value}{t:TypeId}{k:Nat->World->Prop}(hk:∀ b w',w.heap.size<=b->Below w.heap.size w w'->SH F w0 w' ((b,cs,t) :: H)->k b w'):Du cs t k w :=
 hk _ _ (Ain _) ((Below.refl _ w).alloc (Ain _) _) (S.alloc cs t)
theorem SH.EL(S:SH F w0 w H){k:World->Prop}(hk:∀ w',Below w.heap.size w w'->SH F w0 w' H->k w'):PF k w:=hk _ ((Below.refl _ w).drew) S.drew
theorem SH.Y8(S:SH F w0 w H)(n:Nat){b:Nat}{cs:Array Value}{t:TypeId}(hn:H[n]?=some (b,cs,t)){i:Nat}{v:Value}{k:World->Prop}(hi:i<cs.size)
  (hk:∀ w',Ak (·=b) w w'->SH F w0 w' (H.set n (b,cs.setIfInBounds i v,t))->k w'):DG ⟨b,i,none⟩ v k w:=by
 refine⟨?_,S.free n hn i,hk _ (EX w b i v) (S.setAt n hn (EX w b i v) (Fa (S.get n hn) v))⟩;rw [S.cell n hn (Array.getElem?_eq_getElem hi)];rfl
theorem SH.Af2(S:SH F w0 w H)(n:Nat){b:Nat}{x0 x1 x2 v0 v1 v2:Value}{t:TypeId}(hn:H[n]?=some (b,#[x0,x1,x2],t)){k:World->Prop}
  (hk:∀ w',Ak (·=b) w w'->SH F w0 w' (H.set n (b,#[v0,v1,v2],t))->k w'):DG ⟨b,0,none⟩ v0 (λ w=>DG ⟨b,1,none⟩ v1 (λ w=>DG ⟨b,2,none⟩ v2 k w) w) w:=by
 have aB:=(List.getElem?_eq_some_iff.1 hn).1;refine S.Y8 n hn Osi λ w1 K1 S1=>S1.Y8 n (List.getElem?_set_self aB) Osi λ w2 K2 S2=>S2.Y8 n (cs:=#[v0,v1,x2]) (t:=t) ?_ Osi λ w3 K3 S3=>hk w3 ((K1.trans K2 (λ _ _ h=>h)).trans K3 (λ _ _ h=>h)) ?_
 ·rw [Aip,List.getElem?_set_self aB];rfl
 ·have e:((H.set n (b,#[x0,x1,x2].setIfInBounds 0 v0,t)).set n (b,(#[x0,x1,x2].setIfInBounds 0 v0).setIfInBounds 1 v1,t)).set n (b,#[v0,v1,x2].setIfInBounds 2 v2,t)=H.set n (b,#[v0,v1,v2],t):=by
   rw [Aip,Aip];rfl
  rw [<- e];exact S3
theorem SH.ne(S:SH F w0 w H)(i j:Nat){x y:Xm}(hi:H[i]?=some x)(hj:H[j]?=some y)(aQ:i≠j):x.1≠y.1 :=
 Yy S.nodup (by simp [hi]) (by simp [hj]) aQ
end
theorem KL(z:Array Value)(n:Nat):(madeCells z n).size=n:=by simp [madeCells]
theorem D5(z:Value)(h:z.cells=#[z])(n:Nat):(madeCells z.cells n).toList=Aio n z:=by
 rw [h];apply List.ext_getElem
 ·simp [madeCells]
 ·intro i h1 h2;simp [madeCells,Nat.mod_one]
theorem DS{P:Program}{t e:TypeId}{sz bytes:Nat}{z:Value}(hT:Me P t=some (e,sz,bytes,z)){w:World}{l c:Int}(h0:0<=l)(hlc:l<=c)(hb:(bytes:Int)*c<=281474976710656)(hc:c<=9223372036854775807)
  {f:Value->World->Prop} {kl kc:IntKind} (hf:∀ b w',w.heap.size<=b->Below w.heap.size w w'->w'.heap[b]?=some (.cells (madeCells z.cells (c.toNat*sz)) e (0,0))->f (.slice (some ⟨b,0,none⟩) l.toNat c.toNat) w') :
  De P (Instr.makeSlice t (.int kl l) (.int kc c)) f w:=by
 obtain⟨hu,i,hi,hiz,rfl,rfl⟩:=Pm hT;unfold De;rw [run_make w t e i z hu hi hiz kl kc l c h0 hlc hb hc];exact hf _ _ (Ain _) ((Below.refl _ w).alloc (Ain _) _) (heap_alloc_new w _)
theorem G7{P:Program}{t e:TypeId}{sz bytes:Nat}{z:Value}(hT:Me P t=some (e,sz,bytes,z)){w:World}{c:Nat}(hb:bytes*c<=281474976710656)(hc:c<=9223372036854775807)
  {f:Value->World->Prop} {kl kc:IntKind} (hf:∀ b w',w.heap.size<=b->Below w.heap.size w w'->Row w' e sz (some ⟨b,0,none⟩) 0 c []->f (.slice (some ⟨b,0,none⟩) 0 c) w') :
  De P (Instr.makeSlice t (.int kl 0) (.int kc (c:Int))) f w:=by
 refine DS hT (l:=0) (c:=(c:Int)) Omg Omg ?_ Omg λ b w' h1 h2 h3=>?_
 ·rw [<- Int.natCast_mul];omega
 ·rw [Int.toNat_natCast] at h3 ⊢;exact hf b w' h1 h2 ⟨Osi,.inr ⟨b,_,rfl,h3,Omg,hc,by rw [KL],Osi⟩⟩
theorem EH{w:World}{b:Nat}{cs:Array Value}{t:TypeId}(hb:w.heap[b]?=some (.cells cs t (0,0))){i:Nat}{v:Value}{k:World->Prop}(hi:i<cs.size)
  (hk:∀ w',Ak (·=b) w w'->w'.heap[b]?=some (.cells (cs.setIfInBounds i v) t (0,0))->k w'):DG ⟨b,i,none⟩ v k w:=by
 refine⟨?_,?_,hk _ (EX w b i v) (Fa hb v)⟩
 ·simp [World.cell?,hb,hi]
 ·simp [World.frozen?,hb]
section
variable {F:Nat->Prop}{w0 w:World}{H:List Xm}
theorem SH.Ic(S:SH F w0 w H){z0 z1 z2 v0 v1 v2:Value}{t:TypeId}{k:Nat->World->Prop}(hk:∀ b w',w.heap.size<=b->Below w.heap.size w w'->SH F w0 w' ((b,#[v0,v1,v2],t) :: H)->k b w') :
  Du #[z0,z1,z2] t (λ b w=>DG ⟨b,0,none⟩ v0 (λ w=>DG ⟨b,1,none⟩ v1 (λ w=>DG ⟨b,2,none⟩ v2 (λ w=>k b w) w) w) w) w:=by
 refine S.An λ b w1 hb B1 S1=>S1.Af2 0 rfl λ w2 K2 S2=>hk b w2 hb (B1.trans (K2.below B1.size λ k hk he=>Omg)) S2
end
theorem I8{P:Program}{w:World}(s:ByteArray):(Builtin.firstCells 1 s.size (.string s)).run P w=.ok ((bl s).map Ag).toArray w:=by
 simp only [Builtin.firstCells,Sem.run_pure];congr 1;apply Ah4;have:s.extract 0 s.size=s:=by rw [extract_eq];apply PM;rw [Bn,List.drop_zero,Nat.sub_zero,List.take_of_length_le (by rw [AW];omega)]
 rw [this];simp [bl,Ag]
theorem UG{P:Program}{t u ty e:TypeId}{bytes:Nat}{z:Value}(hT:Me P t=some (e,1,bytes,z))(iz:P.underlying u=some .string)(hz:z.cells.size=1)(bZ:0<bytes)
  {w:World} {a:Option Addr} {n c:Nat} {xs:List Value} (hr:Row w e 1 a n c xs) (s:ByteArray) (df:(n+s.size)*bytes<=140737488355328) :
  ∃ a' c' w',(Builtin.append_ #[t,u] ty #[.slice a n c,.string s]).run P w=.ok (.slice a' (n+s.size) c') w'/\Row w' e 1 a' (n+s.size) c' (xs++(bl s).map Ag) /\
   Ak (λ k=>AF a=some k) w w'/\(∀ k,AF a'=some k->AF a=some k\/w.heap.size<=k):=by
 obtain⟨hu,i,hi,hiz,dW,rfl⟩:=Pm hT;have cB:n+s.size<=140737488355328:=Nat.le_trans (Nat.le_mul_of_pos_right _ bZ) df;have hl:((bl s).map Ag).length=s.size:=by rw [List.length_map,AW]
 have hlen:(xs++(bl s).map Ag).length=(n+s.size)*1:=by rw [Aiq,hr.1,hl];omega
 have h1:∀ u∈(bl s).map Ag,u.oneCell'=true:=by
  intro u hu;obtain⟨c,_,rfl⟩:=List.mem_map.1 hu;exact Vm c
 have grown:∀(old:Nat),old<n+s.size->Row (w.drew.alloc (.cells (xs.toArray++((bl s).map Ag).toArray++Builtin.zeroCells z.cells (grownCap w (n+s.size) old e-(n+s.size))) e)) e 1
   (some ⟨w.heap.size,0,none⟩) (n+s.size) (grownCap w (n+s.size) old e) (xs++(bl s).map Ag):=by
  intro old ho;have aJ:=grownCap_ge w (n+s.size) old e;have j':grownCap w (n+s.size) old e<=maxLen:=grownCap_le_maxLen w (n+s.size) old e (by unfold maxLen;omega);refine⟨hlen,.inr ⟨w.heap.size,_,rfl,heap_alloc_new w.drew _,aJ,by unfold maxLen at j';omega,?_,?_⟩⟩
  ·simp only [Array.size_append,List.size_toArray,size_zeroCells,hz,hr.1,hl];omega
  ·simp only [Array.toList_append,Air];rw [<- Air,<- hlen];exact List.take_left
 have de:∀(cs:Array Value) (row:Nat->Prop),Ak row w (w.drew.alloc (.cells cs e)):=λ cs row=>(Ak.refl row w).drew.alloc _;have grow:∀(old:Nat) (oW:Value),(∀ w',w'.heap=w.heap->(Builtin.firstCells 1 n oW).run P w'=.ok xs.toArray w')->old<n+s.size->(∃ b0,oW=.slice b0 n old) ->
   (Builtin.append_ #[t,u] ty #[oW,.string s]).run P w=.ok (.slice (some ⟨w.heap.size,0,none⟩) (n+s.size) (grownCap w (n+s.size) old e))
    (w.drew.alloc (.cells (xs.toArray++((bl s).map Ag).toArray++Builtin.zeroCells z.cells (grownCap w (n+s.size) old e-(n+s.size))) e)):=by
  rintro old _ hf ho ⟨b0,rfl⟩;have hn:¬ (n+s.size<=old):=Omg;have uW:¬ (9223372036854775807<((n:Int)+(s.size:Int))):=Omg;have uU:¬ (281474976710656<Builtin.nextslicecap (n+s.size) old*i.bytes):=by have:=growslice_fits (old:=old) (need:=n+s.size) ho df;omega
  have hf':=hf w.drew rfl;simp [Builtin.append_,run_underlying hu,run_underlying iz,sizeOf,typeInfo,zeroValue,hi,hiz,dW,Builtin.lenOf,hn,uW,uU,Question.forced,hf',I8,newRow,grownCap];congr 2;apply Ah4;simp [Air]
 rcases hr.2 with ⟨rfl,rfl,rfl⟩ | ⟨g,cur,rfl,hg,pH,j',aj,htake⟩
 ·have hx:xs=[]:=List.eq_nil_of_length_eq_zero (by simpa using hr.1);subst hx;by_cases hm:s.size=0
  ·have hn:(bl s).map Ag=[]:=List.eq_nil_of_length_eq_zero (by rw [hl,hm]);refine⟨none,0,w,?_,by rw [hm,hn];exact Row.nil w e 1,.refl _ _,by simp [AF]⟩;have:=I8 (P:=P) (w:=w) s;rw [hm] at this;simp [Builtin.append_,run_underlying hu,run_underlying iz,sizeOf,typeInfo,hi,dW,Builtin.lenOf,hm,this]
  ·exact⟨_,_,_,grow 0 (.slice none 0 0) (λ w' _=>by simp [Builtin.firstCells]) Omg ⟨_,rfl⟩,grown 0 Omg,de _ _,λ k hk=>.inr (by simp [AF] at hk;omega)⟩
 ·by_cases eR:n+s.size<=c
  ·have cf:n+((bl s).map Ag).length<=cur.size:=by rw [hl,aj];omega
   have aA:=run_storeCells_at P g n e ((bl s).map Ag) 0 cur w hg (by simpa using cf) h1;simp only [Nat.add_zero] at aA;refine⟨some ⟨g,0,none⟩,c,_,?_,⟨hlen,.inr ⟨g,_,rfl,Kr hg,eR,j',?_,?_⟩⟩,(GP w g (cur.toList.take n++(bl s).map Ag++cur.toList.drop (n+((bl s).map Ag).length)).toArray).mono (λ k _ h=>by subst h;rfl),λ k hk=>.inl hk⟩
   ·simp [Builtin.append_,run_underlying hu,run_underlying iz,sizeOf,typeInfo,hi,dW,Builtin.lenOf,eR,I8,Addr.add_lit];rw [aA];simp
   ·simp only [List.size_toArray,Aiq,List.length_take,List.length_drop,Array.length_toList];omega
   ·have dE:cur.toList.take n=xs:=by rw [<- htake];simp
    rw [dE,<- hlen];exact List.take_left
  ·have hold:∀ w',w'.heap=w.heap->(Builtin.firstCells 1 n (.slice (some ⟨g,0,none⟩) n c)).run P w'=.ok xs.toArray w':=by
    intro w' lP;refine run_firstCells_some (P:=P) w' 1 n ⟨g,0,none⟩ n c xs hr.1 λ j v hv=>?_;obtain⟨q,hq,hc⟩:=hr.rd j v hv;cases hq;have:w'.cell? ((⟨g,0,none⟩:Addr).add j)=w.cell? ((⟨g,0,none⟩:Addr).add j):=by unfold World.cell?;rw [lP]
    rw [this];exact hc
   exact⟨_,_,_,grow c _ hold Omg ⟨_,rfl⟩,grown c Omg,de _ _,λ k hk=>.inr (by simp [AF] at hk;omega)⟩
theorem Oa{P:Program}{t u ty e:TypeId}{sz bytes:Nat}{z:Value}(hT:Me P t=some (e,sz,bytes,z))(iz:P.underlying u=some (.int .i64))(hz:z.cells.size=sz)(ao:0<sz)(bZ:0<bytes)
  {w:World} {m:Nat} (hm:0<m) (df:m*bytes<=140737488355328) :
  ∃ c' w',(Builtin.append_ #[t,u] ty #[.slice none 0 0,.int .i64 (m:Int)]).run P w=.ok (.slice (some ⟨w.heap.size,0,none⟩) m c') w'/\Row w' e sz (some ⟨w.heap.size,0,none⟩) 0 c' []/\m<=c'/\Below w.heap.size w w':=by
 obtain⟨hu,i,hi,hiz,rfl,rfl⟩:=Pm hT;have cB:m<=140737488355328:=Nat.le_trans (Nat.le_mul_of_pos_right _ bZ) df;have aJ:=grownCap_ge w m 0 e;have j':grownCap w m 0 e<=maxLen:=grownCap_le_maxLen w m 0 e (by unfold maxLen;omega);have hw:IntKind.i64.wrap (m:Int)=m:=by rw [IntKind.wrap_i64];omega
 have h1:¬ ((m:Int)<0):=Omg;have h2:¬ (281474976710656<(m:Int)*(i.bytes:Int)):=by rw [<- Int.natCast_mul];omega
 have h3:¬ (m*i.size=0):=by have:=Nat.mul_pos hm ao;omega
 have h4:¬ (m<=0):=Omg;have h5:¬ (9223372036854775807<(m:Int)):=Omg;have h6:¬ (281474976710656<Builtin.nextslicecap m 0*i.bytes):=by rw [nextslicecap_zero hm];omega
 have h7:¬ (m=0):=Omg;have h8:¬ (i.size=0):=Omg;refine⟨grownCap w m 0 e,w.drew.alloc (.cells (Builtin.zeroCells z.cells m++Builtin.zeroCells z.cells (grownCap w m 0 e-m)) e),?_,?_,aJ,((Below.refl _ w).drew).alloc (Ain _) _⟩
 ·simp [Builtin.append_,run_underlying hu,run_underlying iz,sizeOf,typeInfo,zeroValue,hi,hiz,asInt,asIntOf,hw,h1,h2,h5,h6,h7,Question.forced,Builtin.firstCells,newRow,grownCap];intro h;exact absurd h h3
 ·refine⟨Osi,.inr ⟨w.heap.size,_,rfl,heap_alloc_new w.drew _,Omg,by unfold maxLen at j';omega,?_,Osi⟩⟩;rw [Array.size_append,size_zeroCells,size_zeroCells,hz,<- Nat.add_mul];congr 1;omega
theorem IZ(kd:IntKind):∀(us:List Int) {n:Nat} {f:List Value->Prop},us.length=n->f (us.map (.int kd))->Fh (Aio n (.int kd 0)) f
 | [],_,_,hn,h=>by subst hn;exact h
 | u :: us,_,_,hn,h=>by subst hn;exact⟨u,IZ kd us rfl h⟩
theorem SR(kd:IntKind):∀(us:List Int) {n:Nat} {a:Addr} {i:Nat} {k:List Value->Prop} {w:World},us.length=n->(∀ j u,us[j]?=some u->w.cell? (a.add (i+j))=some (.int kd u)) ->
  k (us.map (.int kd))->CR (Aio n (.int kd 0)) a i k w
 | [],_,_,_,_,_,hn,_,h=>by subst hn;exact h
 | u :: us,_,a,i,k,w,hn,hc,h=>by
  subst hn;exact⟨u,hc 0 u rfl,SR kd us rfl (λ j x hj=>by have:=hc (j+1) x (by simpa using hj);rwa [show i+(j+1)=i+1+j by omega] at this) h⟩
theorem NW(kd:IntKind)(us:List Int){n:Nat}{a:Addr}{k:List Value->Prop}{w:World}(hn:us.length=n)(hr:Rd w (some a) (us.map (.int kd)))(h:k (us.map (.int kd))) :
  CR (Aio n (.int kd 0)) a 0 k w :=
 SR kd us hn (λ j u hj=>by
  obtain⟨p,hp,hc⟩:=hr j (.int kd u) (by simp [hj]);cases hp;simpa using hc) h
def QT:Array Value->Nat->List Value->Array Value
 | cs,_,[]=>cs
 | cs,i,v :: vs=>QT (cs.setIfInBounds i v) (i+1) vs
theorem My:∀(vs:List Value) (cs:Array Value) (i:Nat),i+vs.length<=cs.size->(QT cs i vs).toList=cs.toList.take i++vs++cs.toList.drop (i+vs.length)
 | [],cs,i,_=>by simp [QT]
 | v :: vs,cs,i,h=>by
  simp only [Ais] at h;rw [QT,My vs _ _ (by simp;omega)];apply List.ext_getElem?;intro j;simp only [Array.toList_setIfInBounds,Ais,List.getElem?_append,Aiq,List.length_take,List.length_set,Array.length_toList,List.getElem?_take,List.getElem?_drop]
  grind
theorem Ul(vs:List Value)(cs:Array Value)(h:vs.length=cs.size):QT cs 0 vs=⟨vs⟩:=by
 apply Ah4;rw [My vs cs 0 Omg];simp [h]
theorem MI:∀(vs:List Value) {w:World} {b:Nat} {cs:Array Value} {t:TypeId} {i:Nat} {k:World->Prop},w.heap[b]?=some (.cells cs t (0,0))->i+vs.length<=cs.size->(∀ v∈vs,v.oneCell'=true) ->
  (∀ w',Ak (·=b) w w'->w'.heap[b]?=some (.cells (QT cs i vs) t (0,0))->k w')->CL vs ⟨b,0,none⟩ i k w
 | [],w,_,_,_,_,_,hb,_,_,hk=>hk w (.refl _ w) hb
 | v :: vs,w,b,cs,t,i,k,hb,hi,h1,hk=>by
  simp only [Ais] at hi;unfold CL;rw [h1 v Osi,Ax,Nat.zero_add];exact EH hb Omg λ w1 K1 cK=>MI vs cK (by simp;omega) (λ x hx=>h1 x (by simp [hx])) λ w2 K2 cW=>hk w2 (K1.trans K2 (λ _ _ h=>h)) cW
theorem SH.Eb{F:Nat->Prop}{w0 w:World}{H:List Xm}(S:SH F w0 w H)(n:Nat){b:Nat}{cs:Array Value}{t:TypeId}(hn:H[n]?=some (b,cs,t)){vs:List Value}(hl:vs.length=cs.size)(h1:∀ v∈vs,v.oneCell'=true)
  {k:World->Prop} (hk:∀ w',Ak (·=b) w w'->SH F w0 w' (H.set n (b,⟨vs⟩,t))->k w'):CL vs ⟨b,0,none⟩ 0 k w :=
 MI vs (S.get n hn) Omg h1 λ w' K hb=>hk w' K (S.setAt n hn K (by rw [Ul vs cs hl] at hb;exact hb))
theorem TI(kd:IntKind)(us:List Int):∀ v∈us.map (Value.int kd),v.oneCell'=true:=by
 intro v hv;obtain⟨u,_,rfl⟩:=List.mem_map.1 hv;rfl
end Go.Dn
namespace Go.Proofs.YtpnaifmmggnimaaGreatDoor
open R
open _root_.BitVec renaming ofInt -> AhZ
open _root_.Int renaming toNat_natCast -> Ait
open _root_.Nat renaming min_eq_left -> Aiu
set_option maxRecDepth 100000
open Go.Dn Go.Proofs
set_option linter.unusedVariables false
abbrev Wd:=BitVec 32
def wI(x:Wd):Int:=(x.toNat:Int)
def Aaq(x:Wd)(r:Nat):Wd:=(x >>> r) ||| (x <<< (32-r))
theorem Abi(x:Wd)(k:Nat):AhZ 32 (IntKind.u32.wrap ((x.toNat:Int)*2 ^ k))=x <<< k:=by
 rw [Cn];apply BitVec.eq_of_toNat_eq;rw [BitVec.toNat_ofInt,BitVec.toNat_shiftLeft,Nat.shiftLeft_eq];have:((x.toNat:Int)*2 ^ k)=((x.toNat*2 ^ k:Nat):Int):=Osi;rw [this];omega
theorem Af1(x:Wd)(k:Nat):AhZ 32 (Int.fdiv (x.toNat:Int) (2 ^ k))=x >>> k:=by
 rw [I7,Bk]
theorem Mj(x y:Wd):IntKind.u32.wrap ((x.toNat:Int)+(y.toNat:Int))=((x+y).toNat:Int):=by
 rw [wrap_u32,BitVec.toNat_add];omega
theorem ME(x y:Wd):IntKind.u32.wrap (((AhZ 32 (x.toNat:Int) ^^^ AhZ 32 (y.toNat:Int)).toNat:Int))=((x ^^^ y).toNat:Int):=by
 rw [Bk,Bk,Bp]
theorem Aen(x:Wd)(r:Nat)(hr:r=16\/r=12\/r=8\/r=7)(w:World) :
  Cw 264 #[.int .u32 (x.toNat:Int),.int .i64 (IntKind.i64.wrap (0-(r:Int)))] w λ v w'=>v=.int .u32 ((Aaq x r).toNat:Int)/\w'=w:=by
 have e1:IntKind.u64.wrap (((AhZ 64 (IntKind.u64.wrap (IntKind.i64.wrap (0-(r:Int)))) &&& AhZ 64 31).toNat:Int))=((32-r:Nat):Int):=by
  rcases hr with rfl | rfl | rfl | rfl <;> rfl
 have e2:IntKind.u64.wrap (32-((32-r:Nat):Int))=(r:Int):=by
  rcases hr with rfl | rfl | rfl | rfl <;> rfl
 have aB:r<32:=Omg;apply Gv
 delta V Wu Wv;try dsimp only [Ps]
 rw [e1,e2];refine⟨Omg,Omg,?_,rfl⟩;rw [Ait,Ait,Aiu Omg,Aiu Omg,Abi,Af1,Bp,BitVec.or_comm];rfl
theorem SG(x:Wd)(r:Nat)(hr:r<32)(w:World) :
  Cw 200 #[.int .u32 (x.toNat:Int),.int .i64 (r:Int)] w λ v w'=>v=.int .u32 ((Aaq x r).toNat:Int)/\Go.RowKit.Below w.heap.size w w':=by
 apply Qw
 delta D V W Wv;try dsimp only [Ps]
 refine (SH.start (λ _=>False) w).EL λ w1 B1 _=>?_;have e2:IntKind.i64.wrap (32-(r:Int))=((32-r:Nat):Int):=by rw [wrap_i64 Omg Omg];omega
 rw [e2];refine⟨Omg,Omg,?_,B1⟩;rw [Ait,Ait,Aiu Omg,Aiu Omg,Abi,Af1,Bp];rfl
def JJ(a b c d x:Wd)(r s:Nat):Wd × Wd × Wd × Wd :=
 let a:=a+(b+x);let d:=Aaq (d ^^^ a) r;let c:=c+d;let b:=Aaq (b ^^^ c) s
 (a,b,c,d)
theorem Aa1(a b c d x:Wd)(r s:Nat)(hr:r=16\/r=12\/r=8\/r=7)(hs:s=16\/s=12\/s=8\/s=7)(w:World) :
  Calls Tryz.prog 237 #[.int .u32 (a.toNat:Int),.int .u32 (b.toNat:Int),.int .u32 (c.toNat:Int),.int .u32 (d.toNat:Int),.int .u32 (x.toNat:Int),.int .i64 (r:Int),.int .i64 (s:Int)] w
   (SV λ v w'=>v=.tuple #[.int .u32 ((JJ a b c d x r s).1.toNat:Int),.int .u32 ((JJ a b c d x r s).2.1.toNat:Int),.int .u32 ((JJ a b c d x r s).2.2.1.toNat:Int),.int .u32 ((JJ a b c d x r s).2.2.2.toNat:Int)]/\w'=w):=by
 apply RJ
 delta Cv H I V W Wv;try dsimp only [Ps]
 rw [Mj,Mj,ME];refine (Aen _ r hr w).mono ?_;rintro _ w ⟨_,rfl,rfl,rfl⟩;refine⟨_,rfl,?_⟩;rw [Mj,ME];refine (Aen _ s hs w).mono ?_;rintro _ w ⟨_,rfl,rfl,rfl⟩;exact⟨_,rfl,rfl,rfl⟩
end Go.Proofs.YtpnaifmmggnimaaGreatDoor
namespace Go.Proofs.YtpnaifmmggnimaaGreatDoor
open R
open _root_.Int renaming toNat_natCast -> Ait
open _root_.List renaming replicate -> Aio
open _root_.Nat renaming mul_one -> Aiw, zero_add -> Aiv
set_option maxRecDepth 100000
open Go.Dn Go.Proofs
open Go.RowKit (Below)
set_option linter.unusedVariables false
def wV(x:Wd):Value:=.int .u32 (x.toNat:Int)
theorem WX(v:List Wd):v.map wV=(v.map wI).map (.int .u32):=by simp [wV,wI]
theorem NV(v:List Wd){n:Nat}{f:List Value->Prop}(hn:v.length=n)(h:f (v.map wV)):Fh (Aio n (.int .u32 0)) f :=
 IZ .u32 (v.map wI) (by simpa using hn) (by rw [<- WX];exact h)
theorem CY(v:List Wd){n:Nat}{a:Addr}{k:List Value->Prop}{w:World}(hn:v.length=n)(hr:Rd w (some a) (v.map wV))(h:k (v.map wV)):CR (Aio n (.int .u32 0)) a 0 k w :=
 NW .u32 (v.map wI) (by simpa using hn) (by rw [<- WX];exact hr) (by rw [<- WX];exact h)
theorem Ir(v:List Wd):∀ x∈v.map wV,x.oneCell'=true:=by
 rw [WX];exact TI _ _
theorem Dg{vs:List Value}{n:Nat}{X:Prop}(h:vs.length=n)(hx:X):bif (Nat.beq (List.length vs) n && true) then X else False:=by
 subst h;rw [Nat.beq_refl];exact hx
section
variable {F:Nat->Prop}{w0 w:World}{H:List Xm}
theorem _root_.Go.Dn.SH.wd(S:SH F w0 w H)(n:Nat){b:Nat}{v:List Wd}{t:TypeId}(hn:H[n]?=some (b,⟨v.map wV⟩,t)){j x:Nat}(hj:j<v.length)(hx:x=j):w.cell? ((⟨b,0,none⟩:Addr).add (x*1))=some (.int .u32 ((v.getD j 0).toNat:Int)):=by
 subst hx;rw [Ax,Aiv,Aiw];refine S.cell n hn ?_;simp [hj,wV]
theorem _root_.Go.Dn.SH.by8(S:SH F w0 w H)(n:Nat){b:Nat}{v:List Int}{t:TypeId}(hn:H[n]?=some (b,⟨v.map (.int .u8)⟩,t)){j x:Nat}(hj:j<v.length)(hx:x=j):w.cell? ((⟨b,0,none⟩:Addr).add (x*1))=some (.int .u8 (v.getD j 0)):=by
 subst hx;rw [Ax,Aiv,Aiw];refine S.cell n hn ?_;simp [hj]
theorem _root_.Go.Dn.SH.E8(S:SH F w0 w H)(n:Nat){b:Nat}{v:List Wd}{t:TypeId}(hn:H[n]?=some (b,⟨v.map wV⟩,t)){j x:Nat}(hj:j<v.length)(hx:x=j){y:Wd}{k:World->Prop}
  (hk:∀ w',SH F w0 w' (H.set n (b,⟨(v.set j y).map wV⟩,t))->k w'):DG ((⟨b,0,none⟩:Addr).add (x*1)) (.int .u32 (y.toNat:Int)) k w:=by
 subst hx;rw [Ax,Aiv,Aiw];refine S.BD n hn (by simpa using hj) λ w' S'=>hk w' ?_;have e:(⟨v.map wV⟩:Array Value).setIfInBounds x (.int .u32 (y.toNat:Int))=⟨(v.set x y).map wV⟩:=by
  apply Array.ext';simp [wV,List.map_set]
 rw [e] at S';exact S'
theorem _root_.Go.Dn.SH.AhM(S:SH F w0 w H){z0 z1 z2 z3 v0 v1 v2 v3:Value}{t:TypeId}{k:Nat->World->Prop}(hk:∀ b w',SH F w0 w' ((b,#[v0,v1,v2,v3],t) :: H)->k b w') :
  Du #[z0,z1,z2,z3] t (λ b w=>DG ⟨b,0,none⟩ v0 (λ w=>DG ⟨b,1,none⟩ v1 (λ w=>DG ⟨b,2,none⟩ v2 (λ w=>DG ⟨b,3,none⟩ v3 (λ w=>k b w) w) w) w) w) w :=
 S.An λ b w1 _ _ S1=>S1.BD 0 rfl Osi λ w2 S2=>S2.BD 0 rfl Osi λ w3 S3=>S3.BD 0 rfl Osi λ w4 S4=>S4.BD 0 rfl Osi λ w5 S5=>hk b w5 S5
end
def BX:List Wd:=[0x6a09e667,0xbb67ae85,0x3c6ef372,0xa54ff53a,0x510e527f,0x9b05688c,0x1f83d9ab,0x5be0cd19]
def Sx:List Int:=[0,1,2,3,4,5,6,7,8,9,10,11,12,13,14,15,
 14,10,4,8,9,15,13,6,1,12,0,2,11,7,5,3,
 11,8,12,0,5,2,15,13,10,14,3,6,7,1,9,4,
 7,9,3,1,13,12,11,14,2,6,5,10,4,0,15,8,
 9,0,5,7,2,4,10,15,14,1,11,12,6,8,3,13,
 2,12,6,10,0,11,8,3,4,13,7,5,15,14,1,9,
 12,5,1,15,14,13,4,10,0,7,6,3,9,2,8,11,
 13,11,7,14,12,1,3,9,5,0,15,4,8,6,2,10,
 6,15,14,9,11,3,0,8,12,2,13,7,1,4,10,5,
 10,2,8,4,7,6,1,5,15,11,9,14,3,12,13,0]
def Hj:List Int:=[0,4,8,12,1,5,9,13,2,6,10,14,3,7,11,15,0,5,10,15,1,6,11,12,2,7,8,13,3,4,9,14]
def JM(i j:Nat):Nat:=(Hj.getD (i*4+j) 0).toNat
def KQ(r:Nat):List Int:=(Sx.drop (r*16)).take 16
def ord(r j:Nat):Nat:=((KQ r).getD j 0).toNat
theorem Gx:∀ i,i<8->∀ j,j<4->JM i j<16:=Ode
theorem W0:∀ r,r<10->∀ j,j<16->ord r j<16:=Ode
theorem Aee:∀ r,r<10->∀ j,j<16->(KQ r).getD j 0=(ord r j:Int):=Ode
theorem Agu:∀ i,i<8->(Hj.drop (i*4)).take 4=[(JM i 0:Int),(JM i 1:Int),(JM i 2:Int),(JM i 3:Int)]:=Ode
theorem Jm:∀ r,r<10->(KQ r).length=16:=Ode
def V6(m:List Wd)(r i:Nat)(v:List Wd):List Wd :=
 let h1:=JJ (v.getD (JM i 0) 0) (v.getD (JM i 1) 0) (v.getD (JM i 2) 0) (v.getD (JM i 3) 0) (m.getD (ord r (2*i)) 0) 16 12;let h2:=JJ h1.1 h1.2.1 h1.2.2.1 h1.2.2.2 (m.getD (ord r (2*i+1)) 0) 8 7
 (((v.set (JM i 0) h2.1).set (JM i 1) h2.2.1).set (JM i 2) h2.2.2.1).set (JM i 3) h2.2.2.2
def Jf(m:List Wd)(r:Nat)(v:List Wd):Nat->List Wd
 | 0=>v
 | i+1=>V6 m r i (Jf m r v i)
def Dp(m v:List Wd):Nat->List Wd
 | 0=>v
 | r+1=>Jf m r (Dp m v r) 8
theorem Hm(m:List Wd)(r:Nat)(v:List Wd):∀ i,(Jf m r v i).length=v.length
 | 0=>rfl
 | i+1=>by simp [Jf,V6,Hm m r v i]
theorem Jo(m v:List Wd):∀ r,(Dp m v r).length=v.length
 | 0=>rfl
 | r+1=>by simp [Dp,Hm,Jo m v r]
structure Hb(w:World):Prop where
 first:Rd w (some ⟨0,0,none⟩) (BX.map wV)
 orders:Rd w (some ⟨1,0,none⟩) (Sx.map (.int .u8))
 places:Rd w (some ⟨2,0,none⟩) (Hj.map (.int .u8))
theorem Hb.grown{w w':World}(h:Hb w)(B:Below w.heap.size w w'):Hb w':=⟨h.first.grown B,h.orders.grown B,h.places.grown B⟩
theorem L5{x:Int}{n:Nat}(h:[Value.int .i64 x]=[.int .i64 (n:Int)]):x=(n:Int):=by simpa using h
theorem AcE{w:World}(T:Hb w)(v m:List Wd)(hv:v.length=16)(hm:m.length=16) :
  Cw 196 #[.agg ⟨v.map wV⟩,.agg ⟨m.map wV⟩] w λ r w'=>r=.agg ⟨(Dp m v 10).map wV⟩/\Below w.heap.size w w':=by
 apply OB
 delta A Ab B ZF D F I Lv Ly N Qi Am V W X;try dsimp only [Ps]
 refine (SH.start (λ _=>False) w).An λ b3 w1 _ _ S=>S.An λ b4 w2 _ _ S=>S.An λ b5 w3 _ _ S=>?_;refine NW .u8 Sx rfl (T.orders.grown S.below) ?_;refine⟨λ st w'=>∃ r:Nat,st=[.int .i64 (r:Int)]/\r<=10/\SH (λ _=>False) w w' [(b5,⟨Aio 16 (.int .u32 0)⟩,224),(b4,⟨m.map wV⟩,224),(b3,⟨(Dp m v r).map wV⟩,224)],
  λ st _=>match st with | [.int _ t]=>(10-t).toNat | _=>0,⟨0,rfl,Omg,S⟩,?_⟩
 rintro t w4 ⟨r,aA,hr,S⟩;cases L5 aA;have hlen:=(Jo m v r).trans hv;refine Aa (λ aB=>⟨⟨Omg,aB⟩,?_⟩) (λ aJ=>?_)
 ·have dC:r<10:=Omg;refine IZ .u8 (KQ r) (Jm r dC) ⟨by rw [Ait];simp [KQ,List.map_take,List.map_drop],?_⟩;refine S.An λ dv w6 _ _ S=>Dg (by simp [Jm r dC]) (S.Eb 0 rfl (by simp [Jm r dC]) (TI _ _) λ w7 _ S=>?_);refine NW .u8 Hj rfl (T.places.grown S.below) ?_;refine⟨λ st w'=>∃ i:Nat,st=[.int .i64 (i:Int)]/\i<=8/\SH (λ _=>False) w w' [(dv,⟨(KQ r).map (.int .u8)⟩,296),(b5,⟨Aio 16 (.int .u32 0)⟩,224),(b4,⟨m.map wV⟩,224),(b3,⟨(Jf m r (Dp m v r) i).map wV⟩,224)],
   λ st _=>match st with | [.int _ t]=>(8-t).toNat | _=>0,⟨0,rfl,Omg,S⟩,?_⟩
  rintro t w8 ⟨i,aA,hi,S⟩;cases L5 aA;have yn:=(Hm m r (Dp m v r) i).trans hlen;refine Aa (λ av=>⟨⟨Omg,av⟩,?_⟩) (λ bz=>?_)
  ·have kQ:i<8:=Omg;refine⟨_,_,_,_,by rw [Ait,<- List.map_drop,<- List.map_take,Agu i kQ];rfl,?_⟩;have e2:IntKind.i64.wrap (2*(i:Int))=((2*i:Nat):Int):=by rw [wrap_i64 Omg Omg];omega
   have e3:IntKind.i64.wrap (((2*i:Nat):Int)+1)=((2*i+1:Nat):Int):=Ae Omg;have p0:=Gx i kQ 0 Omg;have p1:=Gx i kQ 1 Omg;have p2:=Gx i kQ 2 Omg;have p3:=Gx i kQ 3 Omg;have o0:=W0 r dC (2*i) Omg;have o1:=W0 r dC (2*i+1) Omg;have aI:=Jm r dC;rw [e2,e3];refine S.AhM λ kI al S=>S.draw λ au S=>?_;refine⟨⟨Omg,Omg⟩,_,S.cell 0 rfl rfl,⟨Omg,Omg⟩,_,S.wd 4 rfl Omg (Ait _),_,S.cell 0 rfl rfl,⟨Omg,Omg⟩,_,S.wd 4 rfl Omg (Ait _),
    _,S.cell 0 rfl rfl,⟨Omg,Omg⟩,_,S.wd 4 rfl Omg (Ait _),_,S.cell 0 rfl rfl,⟨Omg,Omg⟩,_,S.wd 4 rfl Omg (Ait _),
    _,(S.by8 1 rfl Omg (Ait _)).trans (by rw [Aee r dC _ Omg]),⟨Omg,Omg⟩,_,S.wd 3 rfl Omg (Ait _),?_⟩
   refine (Aa1 _ _ _ _ _ 16 12 Osi Osi au).mono ?_;rintro _ ah ⟨_,rfl,rfl,rfl⟩;refine⟨_,_,_,_,rfl,S.draw λ cd S=>?_⟩;refine⟨⟨Omg,Omg⟩,_,S.cell 0 rfl rfl,_,S.cell 0 rfl rfl,_,S.cell 0 rfl rfl,_,S.cell 0 rfl rfl,
    _,(S.by8 1 rfl Omg (Ait _)).trans (by rw [Aee r dC _ Omg]),⟨Omg,Omg⟩,_,S.wd 3 rfl Omg (Ait _),?_⟩
   refine (Aa1 _ _ _ _ _ 8 7 Osi Osi cd).mono ?_;rintro _ cF ⟨_,rfl,rfl,rfl⟩;refine⟨_,_,_,_,rfl,S.cell 0 rfl rfl,S.cell 0 rfl rfl,S.cell 0 rfl rfl,S.cell 0 rfl rfl,⟨Omg,Omg⟩,S.E8 4 rfl Omg (Ait _) λ fG S=>?_⟩;refine⟨S.cell 0 rfl rfl,S.cell 0 rfl rfl,S.cell 0 rfl rfl,⟨Omg,Omg⟩,S.E8 4 rfl (by simp;omega) (Ait _) λ gb S=>?_⟩;refine⟨S.cell 0 rfl rfl,S.cell 0 rfl rfl,⟨Omg,Omg⟩,S.E8 4 rfl (by simp;omega) (Ait _) λ eT S=>?_⟩;refine⟨S.cell 0 rfl rfl,⟨Omg,Omg⟩,S.E8 4 rfl (by simp;omega) (Ait _) λ gG S=>?_⟩;rw [Ae Omg];exact⟨⟨i+1,rfl,Omg,S.drop 1⟩,by show (8-((i+1:Nat):Int)).toNat<(8-(i:Int)).toNat;omega⟩
  ·have kQ:i=8:=Omg;subst kQ;rw [Ae Omg];exact⟨⟨r+1,rfl,Omg,S.drop 1⟩,by show (10-((r+1:Nat):Int)).toNat<(10-(r:Int)).toNat;omega⟩
 ·have dC:r=10:=Omg;have bA:((Dp m v r).map wV).length=16:=by rw [List.length_map];exact hlen
  refine CY (Dp m v r) hlen (Rd.Al (S.get 2 rfl)) ?_;refine Dg bA (S.Eb 0 rfl bA (Ir _) λ w5 _ S=>?_);exact CY (Dp m v r) hlen (Rd.Al (S.get 0 rfl)) ⟨by rw [dC],S.below⟩
end Go.Proofs.YtpnaifmmggnimaaGreatDoor
namespace Go.Dn
set_option linter.unusedVariables false
set_option maxRecDepth 100000
open Go.RowKit (Below)
theorem SH.copy{F:Nat->Prop}{w0 w:World}{H:List Xm}(S:SH F w0 w H)(n:Nat){b:Nat}{cs:Array Value}{t:TypeId}(hn:H[n]?=some (b,cs,t)){P:Program}{dT sT ty elem:TypeId}(hu:P.underlying dT=some (.slice elem))
  (hs:(P.info? elem).map (·.size)=some 1) {a:Option Addr} {xs:List Value} {fF oY dLen me:Nat} (hx:xs.length=fF) (hd:dLen<=cs.size) (hr:Rd w a xs) (h1:∀ v∈xs,v.oneCell'=true) {f:Value->World->Prop}
  (hf:∀ w',Ak (·=b) w w'->SH F w0 w' (H.set n (b,⟨xs.take dLen++cs.toList.drop (min fF dLen)⟩,t))->f (.int .i64 ((min fF dLen:Nat):Int)) w') :
  De P (Builtin.copy_ #[dT,sT] ty #[.slice (some ⟨b,0,none⟩) dLen me,.slice a fF oY]) f w:=by
 have hg:=S.get n hn;cases a with
 | none =>
  have oO:xs=[]:=by
   cases xs with
   | nil=>rfl
   | cons x r =>
    obtain⟨p,hp,_⟩:=hr 0 x rfl;cases hp
  subst oO;have hs0:fF=0:=hx.symm;subst hs0;unfold De;rw [run_copy_none w dT sT ty elem (some ⟨b,0,none⟩) none dLen me 0 oY hu hs Osi];have:=hf w (.refl _ w) (S.setAt n hn (.refl _ w) (by simpa using hg));simpa [goInt] using this
 | some p =>
  have hl:(xs.take dLen).length=Nat.min fF dLen:=by rw [List.length_take,hx];exact Nat.min_comm _ _
  have hc:=run_copy_row P w dT sT ty elem b 0 dLen me p fF oY cs t (xs.take dLen) hu hs hg hl (λ j v hj=>by
   rw [List.getElem?_take] at hj;split at hj
   ·obtain⟨q,hq,hc⟩:=hr j v hj;cases hq;exact hc
   ·cases hj) (by rw [hl,Nat.zero_add];exact Nat.le_trans (Nat.min_le_right _ _) hd) (λ v hv=>h1 v (List.mem_of_mem_take hv))
  unfold De;rw [hc];have cy:(xs.take dLen).length=min fF dLen:=hl;have e:(cs.toList.take 0++xs.take dLen++cs.toList.drop (0+(xs.take dLen).length)).toArray=⟨xs.take dLen++cs.toList.drop (min fF dLen)⟩:=by
   rw [cy];simp
  rw [e];have:=hf _ (GP w b _) (S.setAt n hn (GP w b _) (Kr hg));simpa only [goInt,cy] using this
end Go.Dn
namespace Go.Proofs.YtpnaifmmggnimaaGreatDoor
open R
open _root_.Go.Proofs.Tryz renaming prog -> Aix
open _root_.BitVec renaming ofInt -> AhZ, ofInt_natCast -> AiC, ofNat -> AiG, toNat_ofNat -> AiB, toNat_or -> AiO
open _root_.Int renaming fdiv -> AiJ, tmod_eq_emod_of_nonneg -> AiN, toNat_natCast -> Ait
open _root_.List renaming drop_eq_nil_of_le -> AiS, getD_eq_getElem?_getD -> AiW, length_append -> Aiq, length_cons -> Ais, length_drop -> AiT, length_map -> AiH, length_set -> Aiy, map_append -> AiK, map_drop -> AiU, map_take -> AiV, replicate -> Aio, set_comm -> AiX
open _root_.Nat renaming add_sub_cancel_left -> AiM, le_trans -> AiI, mod_eq_of_lt -> AiA, mod_lt -> AiR, mul_comm -> AiF, mul_le_mul_right -> AiD, mul_one -> Aiw, or_comm -> AiQ, pow_le_pow_right -> AiL, pow_succ -> AiE, two_pow_add_eq_or_of_lt -> AiP, zero_add -> Aiv
open _root_.Prod.mk renaming injEq -> Ah3
open _root_.UInt8 renaming ofNat -> Aiz
set_option maxRecDepth 100000
open Go.Dn Go.Proofs
open Go.RowKit (Below)
set_option linter.unusedVariables false
def uI(c:UInt8):Int:=(c.toNat:Int)
theorem LL(l:List UInt8):l.map Ag=(l.map uI).map (.int .u8):=by simp [Ag,uI,Function.comp_def]
theorem Ha(l:List UInt8){n:Nat}{a:Addr}{k:List Value->Prop}{w:World}(hn:l.length=n)(hr:Rd w (some a) (l.map Ag))(h:k (l.map Ag)):CR (Aio n (.int .u8 0)) a 0 k w :=
 NW .u8 (l.map uI) (by simpa using hn) (by rw [<- LL];exact hr) (by rw [<- LL];exact h)
section
variable {F:Nat->Prop}{w0 w:World}{H:List Xm}
theorem _root_.Go.Dn.SH.wd'(S:SH F w0 w H)(n:Nat){b:Nat}{v:List Wd}{t:TypeId}(hn:H[n]?=some (b,⟨v.map wV⟩,t)){j:Nat}(hj:j<v.length):w.cell? ⟨b,j,none⟩=some (.int .u32 ((v.getD j 0).toNat:Int)):=by
 have:=S.wd n hn hj rfl;rwa [Ax,Aiv,Aiw] at this
theorem _root_.Go.Dn.SH.LA(S:SH F w0 w H)(n:Nat){b:Nat}{v:List Wd}{t:TypeId}(hn:H[n]?=some (b,⟨v.map wV⟩,t)){j:Nat}(hj:j<v.length){y:Wd}{k:World->Prop}
  (hk:∀ w',SH F w0 w' (H.set n (b,⟨(v.set j y).map wV⟩,t))->k w'):DG ⟨b,j,none⟩ (.int .u32 (y.toNat:Int)) k w:=by
 have:=S.E8 n hn hj rfl hk;rwa [Ax,Aiv,Aiw] at this
end
def byW(c:UInt8):Wd:=AiG 32 c.toNat
def mO(CA:List UInt8):Nat->List Wd
 | 0=>Aio 16 0
 | i+1=>(mO CA i).set (i / 4) ((mO CA i).getD (i / 4) 0 ||| (byW (CA.getD i 0) <<< (8*(i % 4))))
theorem Aaa(CA:List UInt8):∀ i,(mO CA i).length=16
 | 0=>by simp [mO]
 | i+1=>by simp [mO,Aaa CA i]
def vF(h:List Wd):Nat->List Wd
 | 0=>h++Aio 8 0
 | i+1=>(vF h i).set (8+i) (BX.getD i 0)
theorem AeM(h:List Wd)(hh:h.length=8):∀ i,(vF h i).length=16
 | 0=>by simp [vF,hh]
 | i+1=>by simp [vF,AeM h hh i]
def vN(v:List Wd)(n:Nat)(last:Bool):List Wd :=
 let v:=v.set 12 (v.getD 12 0 ^^^ AiG 32 n);let v:=v.set 13 (v.getD 13 0 ^^^ AiG 32 (n / 4294967296))
 if last then v.set 14 (4294967295 ^^^ v.getD 14 0) else v
theorem AeN(v:List Wd)(n:Nat)(last:Bool):(vN v n last).length=v.length:=by
 unfold vN;cases last <;> simp
def hF(h v:List Wd):Nat->List Wd
 | 0=>h
 | i+1=>(hF h v i).set i ((hF h v i).getD i 0 ^^^ (v.getD i 0 ^^^ v.getD (i+8) 0))
theorem WM(h v:List Wd):∀ i,(hF h v i).length=h.length
 | 0=>rfl
 | i+1=>by simp [hF,WM h v i]
def TU(h:List Wd)(CA:List UInt8)(n:Nat)(last:Bool):List Wd:=hF h (Dp (mO CA 64) (vN (vF h 8) n last) 10) 8
theorem Abt(i:Nat)(h:i<64):IntKind.i64.wrap (Int.tdiv (i:Int) 4)=((i / 4:Nat):Int):=by
 rw [Int.tdiv_eq_ediv_of_nonneg Omg,wrap_i64 Omg Omg];omega
theorem Abu(i:Nat)(h:i<64):IntKind.i64.wrap (8*Int.tmod (i:Int) 4)=((8*(i % 4):Nat):Int):=by
 rw [AiN Omg,wrap_i64 Omg Omg];omega
theorem Aa2(c:UInt8):IntKind.u32.wrap (c.toNat:Int)=((byW c).toNat:Int):=by
 have:=c.toNat_lt;rw [Ry Omg Omg,byW,AiB];omega
theorem Afy{w:World}(T:Hb w)(h:List Wd)(hh:h.length=8)(CA:List UInt8)(hb:CA.length=64)(n:Nat)(hn:n<18446744073709551616)(last:Bool) :
  Cw 155 #[.agg ⟨h.map wV⟩,.agg ⟨CA.map Ag⟩,.int .u64 (n:Int),.bool last] w λ r w'=>r=.agg ⟨(TU h CA n last).map wV⟩/\Below w.heap.size w w':=by
 apply JU
 delta A Ab B D F I Lv Qi Ri S Am V W Wv X Y Z;try dsimp only [Ps]
 refine (SH.start (λ _=>False) w).An λ b5 w1 _ _ S=>S.An λ b6 w2 _ _ S=>S.An λ b7 w3 _ _ S=>S.An λ b8 w4 _ _ S=>S.An λ b9 w5 _ _ S=>?_;refine Ha CA hb (Rd.Al (S.get 3 rfl)) ?_;refine⟨λ st w'=>∃ i:Nat,st=[.int .i64 (i:Int)]/\i<=64/\SH (λ _=>False) w w' [(b9,⟨(mO CA i).map wV⟩,224),(b8,⟨Aio 16 (.int .u32 0)⟩,224),(b7,⟨Aio 8 (.int .u32 0)⟩,216),(b6,⟨CA.map Ag⟩,217),(b5,⟨h.map wV⟩,216)],
  λ st _=>match st with | [.int _ t]=>(64-t).toNat | _=>0,⟨0,rfl,Omg,S⟩,?_⟩
 rintro t w6 ⟨i,aA,hi,S⟩;cases L5 aA;have m7:=Aaa CA i;refine Aa (λ aB=>⟨⟨Omg,aB⟩,?_⟩) (λ aJ=>?_)
 ·have di:i<64:=Omg;have e1:=Abt i di;have e2:=Abu i di;refine⟨uI (CA.getD i 0),?_,S.draw λ w7 S=>?_⟩
  ·rw [Ait,Aiw];simp [hb,di,Ag,uI]
  ·rw [e1,e2];refine⟨⟨Omg,Omg⟩,Omg,_,S.wd 0 rfl Omg (Ait _),⟨Omg,Omg⟩,?_⟩;have e3:IntKind.u32.wrap (((AhZ 32 (((mO CA i).getD (i / 4) 0).toNat:Int) ||| AhZ 32 (IntKind.u32.wrap ((IntKind.u32.wrap (uI (CA.getD i 0)))*2 ^ (min ((((8*(i % 4):Nat):Int)).toNat) 32)))).toNat:Int))
     = (((mO CA i).getD (i / 4) 0 ||| (byW (CA.getD i 0) <<< (8*(i % 4)))).toNat:Int):=by
    rw [Ait,Nat.min_eq_left Omg,uI,Aa2,Abi,Bk,Bp]
   rw [e3];refine S.E8 0 rfl Omg (Ait _) λ w8 S=>?_;rw [Ae Omg];exact⟨⟨i+1,rfl,Omg,S⟩,by show (64-((i+1:Nat):Int)).toNat<(64-(i:Int)).toNat;omega⟩
 ·have di:i=64:=Omg;refine S.draw λ w9 S=>⟨⟨Omg,Omg,Omg⟩,⟨Omg,Omg,Omg⟩,?_⟩;have hz:(Aio 8 (Value.int .u32 0))=(Aio 8 (0:Wd)).map wV:=rfl;refine S.copy 1 rfl (P:=Aix) (elem:=184) (by kernel_rfl) (by kernel_rfl) (a:=some ⟨b5,0,none⟩) (xs:=h.map wV) (by simpa using hh) Osi (Rd.Al (S.get 4 rfl)) (Ir h) λ bX _ S=>?_;have ev:(⟨(h.map wV).take 16++(Aio 16 (Value.int .u32 0)).drop (min 8 16)⟩:Array Value)=⟨(vF h 0).map wV⟩:=by
   rw [List.take_of_length_le (by simp [hh])];simp [vF,wV]
  replace S:=ev ▸ S
  refine⟨_,rfl,CY BX rfl (T.first.grown S.below) ?_⟩;refine⟨λ st w'=>∃ j:Nat,st=[.int .i64 (j:Int)]/\j<=8/\SH (λ _=>False) w w' [(b9,⟨(mO CA i).map wV⟩,224),(b8,⟨(vF h j).map wV⟩,224),(b7,⟨Aio 8 (.int .u32 0)⟩,216),(b6,⟨CA.map Ag⟩,217),(b5,⟨h.map wV⟩,216)],
   λ st _=>match st with | [.int _ t]=>(8-t).toNat | _=>0,⟨0,rfl,Omg,S⟩,?_⟩
  rintro t aZ ⟨j,aA,hj,S⟩;cases L5 aA;have iY:=AeM h hh j;refine Aa (λ aB=>⟨⟨Omg,aB⟩,?_⟩) (λ aJ=>?_)
  ·have nj:j<8:=Omg;have e8:IntKind.i64.wrap (8+(j:Int))=((8+j:Nat):Int):=by rw [wrap_i64 Omg Omg];omega
   rw [e8];refine⟨((BX.getD j 0).toNat:Int),?_,⟨Omg,Omg⟩,S.E8 1 rfl Omg (Ait _) λ bL S=>?_⟩
   ·rw [Ait,Aiw];have:j<BX.length:=by simpa [BX] using nj
    simp [this,wV]
   ·rw [Ae Omg];exact⟨⟨j+1,rfl,Omg,S⟩,by show (8-((j+1:Nat):Int)).toNat<(8-(j:Int)).toNat;omega⟩
  ·have nj:j=8:=Omg;have uG:∀ x:Wd,IntKind.u32.wrap (((AhZ 32 (x.toNat:Int) ^^^ AhZ 32 (IntKind.u32.wrap (n:Int))).toNat:Int))=((x ^^^ AiG 32 n).toNat:Int):=by
    intro x;rw [Cn,Bk,Bp,AiC]
   have uH:∀ x:Wd,IntKind.u32.wrap (((AhZ 32 (x.toNat:Int) ^^^ AhZ 32 (IntKind.u32.wrap (AiJ (n:Int) (2 ^ (min 32 64))))).toNat:Int))=((x ^^^ AiG 32 (n / 4294967296)).toNat:Int):=by
    intro x;have:AiJ (n:Int) (2 ^ (min 32 64))=((n / 4294967296:Nat):Int):=by
     rw [show (2:Int) ^ (min 32 64)=4294967296 by rfl,Int.fdiv_eq_ediv_of_nonneg _ Omg];omega
    rw [this,Cn,Bk,Bp,AiC]
   have uJ:∀ x:Wd,IntKind.u32.wrap (((AhZ 32 4294967295 ^^^ AhZ 32 (x.toNat:Int)).toNat:Int))=((4294967295 ^^^ x).toNat:Int):=by
    intro x;rw [Bk,Bp];rfl
   refine⟨_,S.wd' 1 rfl Omg,?_⟩;rw [uG];refine S.LA 1 rfl Omg λ al S=>⟨_,S.wd' 1 rfl (by simp;omega),?_⟩;rw [uH];refine S.LA 1 rfl (by simp;omega) λ au S=>?_;refine⟨λ _ w'=>SH (λ _=>False) w w' [(b9,⟨(mO CA i).map wV⟩,224),(b8,⟨(vN (vF h j) n last).map wV⟩,224),(b7,⟨Aio 8 (.int .u32 0)⟩,216),(b6,⟨CA.map Ag⟩,217),(b5,⟨h.map wV⟩,216)],?_,?_⟩
   ·refine Aq (λ hl=>?_) (λ hl=>?_)
    ·subst hl;refine⟨_,S.wd' 1 rfl (by simp;omega),?_⟩;rw [uJ];exact S.LA 1 rfl (by simp;omega) λ ah S=>S
    ·subst hl;exact S
   ·intro cd S;have oM:(vN (vF h j) n last).length=16:=by rw [AeN];exact iY
    refine CY (vN (vF h j) n last) oM (Rd.Al (S.get 1 rfl)) (CY (mO CA i) m7 (Rd.Al (S.get 0 rfl)) ?_);refine (AcE (T.grown S.below) _ _ oM m7).mono ?_;rintro _ cF ⟨_,rfl,rfl,ob⟩;have bE:(Dp (mO CA i) (vN (vF h j) n last) 10).length=16:=by rw [Jo];exact oM
    generalize hV:Dp (mO CA i) (vN (vF h j) n last) 10=V at bE ⊢;refine NV V bE ⟨rfl,Dg (by simpa using bE) ?_⟩;refine (S.grown ob).Eb 1 rfl (by simp [oM,bE]) (Ir _) λ fG _ S=>?_;refine⟨λ st w'=>∃ q:Nat,st=[.int .i64 (q:Int)]/\q<=8/\SH (λ _=>False) w w' [(b9,⟨(mO CA i).map wV⟩,224),(b8,⟨V.map wV⟩,224),(b7,⟨Aio 8 (.int .u32 0)⟩,216),(b6,⟨CA.map Ag⟩,217),(b5,⟨(hF h V q).map wV⟩,216)],
     λ st _=>match st with | [.int _ t]=>(8-t).toNat | _=>0,⟨0,rfl,Omg,S⟩,?_⟩
    rintro t gb ⟨q,aA,hq,S⟩;cases L5 aA;have lA:=(WM h V q).trans hh;refine Aa (λ aB=>S.draw λ gG S=>?_) (λ aJ=>?_)
    ·have e8:IntKind.i64.wrap ((q:Int)+8)=((q+8:Nat):Int):=by rw [wrap_i64 Omg Omg];omega
     rw [e8];refine⟨⟨Omg,aB⟩,⟨Omg,Omg⟩,⟨Omg,Omg⟩,_,S.wd 4 rfl Omg (Ait _),_,S.wd 1 rfl Omg (Ait _),_,S.wd 1 rfl Omg (Ait _),⟨Omg,aB⟩,?_⟩;rw [ME,ME];refine S.E8 4 rfl Omg (Ait _) λ gd S=>?_;rw [Ae Omg];exact⟨⟨q+1,rfl,Omg,S⟩,by show (8-((q+1:Nat):Int)).toNat<(8-(q:Int)).toNat;omega⟩
    ·have fq:q=8:=Omg;have bA:((hF h V q).map wV).length=8:=by rw [AiH];exact lA
     refine CY (hF h V q) lA (Rd.Al (S.get 4 rfl)) (Dg bA (S.Eb 2 rfl bA (Ir _) λ eT _ S=>?_));refine CY (hF h V q) lA (Rd.Al (S.get 2 rfl)) ⟨?_,S.below⟩;unfold TU;rw [<- nj,<- di,hV];rw [show (hF h V q)=hF h V j by rw [fq,nj]]
theorem Ca:Tc Aix 9 77=true:=by kernel_rfl
theorem tB:Me Aix 77=some (5,1,1,.int .u8 0):=by kernel_rfl
theorem zB:(Value.int .u8 0).cells.size=1:=rfl
theorem FR(l:List UInt8):∀ u∈l.map Ag,u.oneCell'=true:=by
 intro u hu;obtain⟨c,_,rfl⟩:=List.mem_map.1 hu;exact Vm c
structure Bj(w w':World)(l:List UInt8)(a:Option Addr)(c:Nat):Prop where
 row:Row w' 5 1 a l.length c (l.map Ag)
 new:∀ k,AF a=some k->w.heap.size<=k
 Ar:Below w.heap.size w w'
theorem Ac{a b c:World}(h:Below a.heap.size a b)(h':Below b.heap.size b c):Below a.heap.size a c:=h.trans (h'.mono h.size)
theorem Bj.rd{w w':World}{l:List UInt8}{a:Option Addr}{c:Nat}(h:Bj w w' l a c):Rd w' a (l.map Ag):=h.row.rd
theorem Bj.grown{w w' w2:World}{l:List UInt8}{a:Option Addr}{c:Nat}(h:Bj w w' l a c)(hb:Below w'.heap.size w' w2):Bj w w2 l a c:=⟨h.row.grown hb,h.new,Ac h.Ar hb⟩
theorem Bj.before{w0 w w':World}{l:List UInt8}{a:Option Addr}{c:Nat}(hb:Below w0.heap.size w0 w)(h:Bj w w' l a c):Bj w0 w' l a c:=⟨h.row,λ k hk=>AiI hb.size (h.new k hk),Ac hb h.Ar⟩
theorem CH{w:World}{a:Option Addr}{c:Nat}{l:List UInt8}(hr:Row w 5 1 a l.length c (l.map Ag))(hl:l.length+1<=140737488355328){x:UInt8}{v:Value}(hv:v=Ag x){b:Nat}{t:TypeId}
  (hb:w.heap[b]?=some (.cells #[v] t (0,0))) {f:Value->World->Prop}
  (hf:∀ a' c' w',Row w' 5 1 a' (l++[x]).length c' ((l++[x]).map Ag)->Ak (λ k=>AF a=some k) w w'->(∀ k,AF a'=some k->AF a=some k\/w.heap.size<=k)->f (.slice a' (l++[x]).length c') w') :
  De Aix (Builtin.append_ #[77,77] 77 #[.slice a l.length c,.slice (some ⟨b,0,none⟩) 1 1]) f w:=by
 subst hv;have aY:Rd w (some ⟨b,0,none⟩) ([x].map Ag):=by
  have:=Rd.Al hb;simpa using this
 obtain⟨a',c',w',aG,aI,hk,ax⟩:=BV (ty:=77) (mc:=1) tB zB Omg Omg hr aY (m:=1) rfl (FR _) Omg;unfold De;rw [aG];have hlen:(l++[x]).length=l.length+1:=Osi;rw [<- AiK,<- hlen] at aI;rw [<- hlen];exact hf a' c' w' aI hk ax
theorem A0{w:World}{a:Option Addr}{c:Nat}{l:List UInt8}(hr:Row w 5 1 a l.length c (l.map Ag)){m:List UInt8}{b:Option Addr}{mc:Nat}(hb:Rd w b (m.map Ag))(hl:l.length+m.length<=140737488355328){f:Value->World->Prop}
  (hf:∀ a' c' w',Row w' 5 1 a' (l++m).length c' ((l++m).map Ag)->Ak (λ k=>AF a=some k) w w'->(∀ k,AF a'=some k->AF a=some k\/w.heap.size<=k)->f (.slice a' (l++m).length c') w') :
  De Aix (Builtin.append_ #[77,77] 77 #[.slice a l.length c,.slice b m.length mc]) f w:=by
 obtain⟨a',c',w',aG,aI,hk,ax⟩:=BV (ty:=77) (mc:=mc) tB zB Omg Omg hr hb (m:=m.length) Osi (FR _) Omg;unfold De;rw [aG];have hlen:(l++m).length=l.length+m.length:=Osi;rw [<- AiK,<- hlen] at aI;rw [<- hlen];exact hf a' c' w' aI hk ax
theorem XH{w:World}{a:Option Addr}{c:Nat}{l:List UInt8}(hr:Row w 5 1 a l.length c (l.map Ag))(s:ByteArray)(hl:l.length+s.size<=140737488355328){f:Value->World->Prop}
  (hf:∀ a' c' w',Row w' 5 1 a' (l++bl s).length c' ((l++bl s).map Ag)->Ak (λ k=>AF a=some k) w w'->(∀ k,AF a'=some k->AF a=some k\/w.heap.size<=k)->f (.slice a' (l++bl s).length c') w') :
  De Aix (Builtin.append_ #[77,9] 77 #[.slice a l.length c,.string s]) f w:=by
 obtain⟨a',c',w',aG,aI,hk,ax⟩:=UG (ty:=77) tB (show Aix.underlying 9=some .string by kernel_rfl) zB Omg hr s Omg;unfold De;rw [aG];have hlen:(l++bl s).length=l.length+s.size:=by rw [Aiq,AW]
 rw [<- AiK,<- hlen] at aI;rw [<- hlen];exact hf a' c' w' aI hk ax
/-! ### digits -/
def Af(n:Nat):List UInt8:=if h:n<128 then [Aiz n] else Aiz (n % 128+128) :: Af (n / 128)
termination_by n
decreasing_by omega
theorem HU(n:Nat):Af n≠[]:=by unfold Af;split <;> simp
theorem Q5:∀(k n:Nat),n<128 ^ (k+1)->(Af n).length<=k+1
 | 0,n,h=>by unfold Af;rw [dif_pos (by simpa using h)];simp
 | k+1,n,h=>by
  unfold Af;split
  ·simp
  ·have:=Q5 k (n / 128) (by rw [AiE] at h;exact Nat.div_lt_of_lt_mul (by rw [AiF];exact h));simp only [Ais];omega
theorem Ah{n:Nat}(h:n<18446744073709551616):(Af n).length<=10:=Q5 9 n (Nat.lt_trans h Ode)
theorem Agf{n:Nat}(h:n<18446744073709551616):(AhZ 64 (n:Int) &&& AhZ 64 127).toNat=n % 128:=by
 rw [BitVec.toNat_and,AiC,AiB,AiA Omg];have:=Nat.and_two_pow_sub_one_eq_mod n 7;exact this
theorem AhN{n:Nat}(h:n<18446744073709551616):IntKind.u8.wrap (IntKind.u64.wrap (((AhZ 64 (n:Int) &&& AhZ 64 127).toNat:Int)))=((n % 128:Nat):Int):=by
 rw [Agf h,Aj Omg Omg,AG Omg Omg]
theorem Ahk{x:Nat}(h:x<128):IntKind.u8.wrap (((AhZ 8 (x:Int) ||| AhZ 8 128).toNat:Int))=((x+128:Nat):Int):=by
 have e:(AhZ 8 (x:Int) ||| AhZ 8 128).toNat=x+128:=by
  rw [AiO,AiC,AiB,AiA Omg];have:=AiP (i:=7) (b:=x) Omg 1;rw [AiQ];have h2:(AhZ 8 128).toNat=128:=Ode;rw [h2];have h3:2 ^ 7*1 ||| x=2 ^ 7*1+x:=this.symm;have h4:(128:Nat) ||| x=128+x:=h3;rw [h4];omega
 rw [e,AG Omg Omg]
theorem AhT(n:Nat):AiJ (n:Int) (2 ^ (min 7 64))=((n / 128:Nat):Int):=by
 rw [Int.fdiv_eq_ediv_of_nonneg _ Ode]
 norm_cast
theorem Ck{x:Nat}(h:x<256):Value.int .u8 (x:Int)=Ag (Aiz x):=by
 unfold Ag;congr 1;simp;omega
theorem LB(w:World)(n:Nat)(hn:n<18446744073709551616):Cw 97 #[.int .u64 (n:Int)] w λ v w'=>∃ a c,v=.slice a (Af n).length c/\Bj w w' (Af n) a c:=by
 apply Pv
 delta B F J Ks N O Qus S U Wb Wu;try dsimp only [Ps]
 refine⟨λ s w1=>∃(m:Nat) (a:Option Addr) (c:Nat) (l:List UInt8),s=[.int .u64 (m:Int),.slice a l.length c]/\m<18446744073709551616/\l++Af m=Af n/\Bj w w1 l a c,
  λ s _=>match s with
   | [.int _ i,_]=>i.toNat
   | _=>0,⟨n,none,0,[],rfl,hn,rfl,Row.nil _ _ _,by simp [AF],.refl _ _⟩,?_⟩
 rintro _ a _ c w1 ⟨m,_,_,l,hs,hm,hl,h1⟩;cases hs;have hlen:l.length+1<=140737488355328:=by
  have:=Ah hn;rw [<- hl] at this;simp at this;omega
 rw [AhT,AhN hm];refine Ap (λ h0=>?_) (λ h0=>?_)
 ·have fg:m<128:=Omg;refine (SH.start (λ _=>False) w1).An λ b5 w2 gB B2 S2=>?_;refine CH (h1.grown B2).row hlen (x:=Aiz m) (by rw [AiA fg];exact Ck Omg) (S2.get 0 rfl) λ a' c' w3 R3 K3 N3=>⟨_,_,_,rfl,?_⟩;have e:l++[Aiz m]=Af n:=by rw [<- hl];conv=>rhs;unfold Af;rw [dif_pos fg]
  rw [e] at R3;rw [e];refine⟨a',c',rfl,R3,λ k hk=>?_,(h1.grown B2).Ar.trans (K3.below (h1.grown B2).Ar.size λ k hk he=>by have:=h1.new k he;omega)⟩;rcases N3 k hk with h | h
  ·exact h1.new k h
  ·exact AiI (h1.grown B2).Ar.size h
 ·have fg:¬ m<128:=Omg;rw [Ahk (AiR _ Omg)];refine (SH.start (λ _=>False) w1).An λ b5 w2 gB B2 S2=>?_;refine CH (h1.grown B2).row hlen (x:=Aiz (m % 128+128)) (Ck Omg) (S2.get 0 rfl) λ a' c' w3 R3 K3 N3=>⟨_,_,_,rfl,?_⟩;refine⟨⟨m / 128,a',c',_,rfl,Omg,?_,R3,λ k hk=>?_,(h1.grown B2).Ar.trans (K3.below (h1.grown B2).Ar.size λ k hk he=>by have:=h1.new k he;omega)⟩,?_⟩
  ·rw [<- hl]
   conv=>rhs;rhs;unfold Af;rw [dif_neg fg]
   simp
  ·rcases N3 k hk with h | h
   ·exact h1.new k h
   ·exact AiI (h1.grown B2).Ar.size h
  ·simp only [Ait];omega
/-! ### Concat -/
abbrev DH:=Option Addr × Nat × List UInt8
def BZ(p:DH):Value:=.slice p.1 p.2.2.length p.2.1
def BR(ps:List DH):List UInt8:=ps.flatMap (·.2.2)
theorem I9(ps:List DH)(k:Nat)(hk:k<ps.length):BR (ps.take (k+1))=BR (ps.take k)++ps[k].2.2:=by
 unfold BR;rw [List.take_succ_eq_append_getElem hk,List.flatMap_append];simp
theorem Ya(ps:List DH)(k:Nat):(BR (ps.take k)).length<=(BR ps).length:=by
 have:BR ps=BR (ps.take k)++BR (ps.drop k):=by
  unfold BR;rw [<- List.flatMap_append,List.take_append_drop]
 rw [this,Aiq];omega
theorem Sg(w:World)(n:Nat)(hn:n<=140737488355328):Calls Aix 132 #[.slice none 0 0,.int .i64 (n:Int)] w
  (SV λ v w'=>∃ a c,v=.slice a 0 c/\n<=c/\Row w' 5 1 a 0 c []/\(∀ k,AF a=some k->w.heap.size<=k)/\Below w.heap.size w w'):=by
 apply GS
 delta F I Rs S W Y;try dsimp only [Ps]
 have e0:IntKind.i64.wrap (((0:Nat):Int)-((0:Nat):Int))=0:=by rw [wrap_i64 Omg Omg];omega
 have e1:IntKind.i64.wrap ((n:Int)-0)=(n:Int):=by rw [wrap_i64 Omg Omg];omega
 refine Aa (λ h=>Omg) (λ _=>?_);rw [e0,e1];refine Aa (λ hp=>⟨⟨Omg,Omg,Omg⟩,?_⟩) (λ hp=>?_)
 ·obtain⟨c',w',aG,aI,hc,hb⟩:=Oa (u:=3) (ty:=77) tB (show Aix.underlying 3=some (.int .i64) by kernel_rfl) zB Omg Omg (w:=w) (m:=n) Omg Omg;have hs:Ch none 0 0 1=none:=rfl;unfold De;rw [hs];simp only [Nat.sub_zero,aG];refine⟨_,_,_,rfl,⟨Omg,Omg,Omg⟩,some ⟨w.heap.size,0,none⟩,c',?_,hc,aI,λ k hk=>by simp [AF] at hk;omega,hb⟩;have:Ch (some (⟨w.heap.size,0,none⟩:Addr)) 0 c' 1=some ⟨w.heap.size,0,none⟩:=by
   unfold Ch;split
   ·rfl
   ·simp [CS]
  rw [this]
 ·have:n=0:=Omg;subst this;exact⟨none,0,rfl,Nat.le_refl _,Row.nil _ _ _,by simp [AF],.refl _ _⟩
theorem Bl{w:World}{a:Option Addr}{c:Nat}(ps:List DH)(hp:Rd w a (ps.map BZ))(hb:∀ p∈ps,Rd w p.1 (p.2.2.map Ag))(hn:ps.length<9223372036854775807)(hl:(BR ps).length<=140737488355328) :
  Cw 96 #[.slice a ps.length c] w λ v w'=>∃ a c,v=.slice a (BR ps).length c/\Bj w w' (BR ps) a c:=by
 apply Gl
 delta Ad Cs F I Ks Ls O MH Eg S W X;try dsimp only [Ps]
 refine⟨λ s w1=>∃ k:Nat,s=[.int .i64 ((BR (ps.take k)).length:Int),.int .i64 k]/\k<=ps.length/\w1=w,
  λ s _=>match s with
   | [_,.int _ i]=>ps.length-i.toNat
   | _=>0,⟨0,rfl,Nat.zero_le _,rfl⟩,?_⟩
 rintro _ _ w1 ⟨k,hs,hk,rfl⟩;cases hs;refine Aa (λ aB=>⟨⟨Omg,aB⟩,?_⟩) (λ aJ=>?_)
 ·have aO:k<ps.length:=Omg;obtain⟨p,rfl,hc⟩:=hp k (BZ ps[k]) (by simp [aO]);have h1:=Ya ps (k+1);rw [I9 ps k aO,Aiq] at h1;refine⟨_,_,_,by rw [Ait,Aiw];exact hc,?_⟩;have e:IntKind.i64.wrap (((BR (ps.take k)).length:Int)+(ps[k].2.2.length:Int))=((BR (ps.take (k+1))).length:Int):=by
   rw [I9 ps k aO,Aiq,wrap_i64 Omg Omg];omega
  rw [e];refine Aa (λ h=>Omg) (λ _=>?_);rw [Ae Omg];refine⟨⟨k+1,rfl,Omg,rfl⟩,?_⟩;simp only [Ait];omega
 ·have ji:k=ps.length:=Omg;subst ji;rw [List.take_length];refine (Sg w1 _ hl).mono ?_;rintro _ w2 ⟨_,rfl,a2,c2,rfl,cI,R2,N2,B2⟩;refine⟨_,_,_,rfl,?_⟩;refine⟨λ s w3=>∃(k:Nat) (a3:Option Addr) (c3:Nat),s=[.slice a3 (BR (ps.take k)).length c3,.int .i64 k]/\k<=ps.length/\Bj w1 w3 (BR (ps.take k)) a3 c3,
   λ s _=>match s with
    | [_,.int _ i]=>ps.length-i.toNat
    | _=>0,⟨0,a2,c2,rfl,Nat.zero_le _,R2,N2,B2⟩,?_⟩
  rintro a3 _ c3 _ w3 ⟨k,_,_,hs,hk,h3⟩;cases hs;refine Aa (λ aB=>⟨⟨Omg,aB⟩,?_⟩) (λ aJ=>?_)
  ·have aO:k<ps.length:=Omg;obtain⟨p,rfl,hc⟩:=(hp.grown h3.Ar) k (BZ ps[k]) (by simp [aO]);have h1:=Ya ps (k+1);rw [I9 ps k aO,Aiq] at h1;refine⟨_,_,_,by rw [Ait,Aiw];exact hc,?_⟩;refine A0 h3.row ((hb _ (List.getElem_mem aO)).grown h3.Ar) Omg λ a' c' w4 R4 K4 N4=>⟨_,_,_,rfl,?_⟩;rw [<- I9 ps k aO] at R4 ⊢;rw [Ae Omg];refine⟨⟨k+1,a',c',rfl,Omg,R4,λ j hj=>?_,h3.Ar.trans (K4.below h3.Ar.size λ j hj he=>by have:=h3.new j he;omega)⟩,?_⟩
   ·rcases N4 j hj with h | h
    ·exact h3.new j h
    ·exact AiI h3.Ar.size h
   ·simp only [Ait];omega
  ·have ji:k=ps.length:=Omg;subst ji;rw [List.take_length] at h3 ⊢;exact⟨a3,c3,rfl,h3⟩
theorem Tt(a b:DH):BR [a,b]=a.2.2++b.2.2:=by simp [BR]
theorem Vx(a b c:DH):BR [a,b,c]=a.2.2++(b.2.2++c.2.2):=by simp [BR]
theorem AE{w:World}{a:Option Addr}{c:Nat}(l:List UInt8)(hl:Rd w a (l.map Ag))(n:Nat)(hn:n<18446744073709551616)(hs:l.length+10<=140737488355328) :
  Cw 48 #[.slice a l.length c,.int .u64 (n:Int)] w λ v w'=>∃ a c,v=.slice a (l++Af n).length c/\Bj w w' (l++Af n) a c:=by
 apply Pt
 delta Cs J N S U;try dsimp only [Ps]
 refine (LB w n hn).mono ?_;rintro _ w1 ⟨_,rfl,a1,c1,rfl,h1⟩;refine⟨_,_,_,rfl,(SH.start (λ _=>False) w1).An λ b5 w2 gB B2 S2=>?_⟩;have hd:=Ah hn;have h2:=h1.grown B2;refine (Bl [(a,c,l),(a1,c1,Af n)] (by have:=Rd.Al (S2.get 0 rfl);simpa [BZ] using this) (by
  intro p hp;simp only [List.mem_cons,List.not_mem_nil,or_false] at hp;rcases hp with rfl | rfl
  ·exact hl.grown h2.Ar
  ·exact h2.rd) Osi (by rw [Tt];simp;omega)).mono ?_
 rintro _ w3 ⟨_,rfl,a3,c3,rfl,h3⟩;rw [Tt] at h3 ⊢;exact⟨_,_,_,rfl,a3,c3,rfl,h3.before h2.Ar⟩
def Bm(s:ByteArray):List UInt8:=Af s.size++bl s
theorem FC{w:World}{a:Option Addr}{c:Nat}(l:List UInt8)(hl:Rd w a (l.map Ag))(s:ByteArray)(hz:s.size<=1048576)(hs:l.length+10+s.size<=140737488355328) :
  Cw 56 #[.slice a l.length c,.string s] w λ v w'=>∃ a c,v=.tuple #[.slice a (l++Bm s).length c,.int .i64 0]/\Bj w w' (l++Bm s) a c:=by
 apply Sm
 delta Cs F H I J N O Rs S T U Wu;try dsimp only [Ps]
 refine Aa (λ h=>Omg) (λ _=>?_);rw [Aj Omg Omg];refine (LB w s.size Omg).mono ?_;rintro _ w1 ⟨_,rfl,a1,c1,rfl,h1⟩;have hd:=Ah (n:=s.size) Omg;refine⟨_,_,_,rfl,BT Ca s w1 λ b c2 cs e w2 hb B2 hh aj iy cZ=>⟨_,_,_,rfl,(SH.start (λ _=>False) w2).An λ b7 w3 qP B3 S3=>?_⟩⟩;have cm:Rd w2 (some ⟨b,0,none⟩) ((bl s).map Ag):=by rw [<- cZ];exact (Rd.Al hh).take _
 have h3:=(h1.grown B2).grown B3;have an:=AW s;refine (Bl [(a,c,l),(a1,c1,Af s.size),(some ⟨b,0,none⟩,c2,bl s)] (by have:=Rd.Al (S3.get 0 rfl);simpa [BZ,an] using this) (by
  intro p hp;simp only [List.mem_cons,List.not_mem_nil,or_false] at hp;rcases hp with rfl | rfl | rfl
  ·exact hl.grown h3.Ar
  ·exact h3.rd
  ·exact cm.grown B3) Osi (by rw [Vx];simp;omega)).mono ?_
 rintro _ w4 ⟨_,rfl,a3,c3,rfl,h4⟩;rw [Vx] at h4 ⊢;exact⟨_,_,_,rfl,a3,c3,rfl,h4.before h3.Ar⟩
def Cj(i acc:Nat):List UInt8->Option (Nat × Nat)
 | []=>none
 | c :: r=>if 9<i\/(i=9/\c.toNat≠1) then none else if c.toNat<128 then (if c.toNat=0/\0<i then none else some (acc+c.toNat*128 ^ i,i+1)) else Cj (i+1) (acc+(c.toNat % 128)*128 ^ i) r
def takeN(l:List UInt8)(at_:Int):Option (Nat × Nat):=if at_<0 then none else (Cj 0 0 (l.drop at_.toNat)).map λ x=>(x.1,at_.toNat+x.2)
def KM(o:Option (Nat × Nat)):Value :=
 match o with
 | some x=>.tuple #[.int .u64 (x.1:Int),.int .i64 (x.2:Int),.int .i64 0]
 | none=>.tuple #[.int .u64 0,.int .i64 0,.int .i64 20]
theorem Jr:∀(l:List UInt8) (i acc n k:Nat),acc<128 ^ i->Cj i acc l=some (n,k)->n<18446744073709551616/\i<k/\k<=i+l.length/\k<=10/\(0<i->128 ^ i<=n)
 | [],_,_,_,_,_,h=>by simp [Cj] at h
 | c :: r,i,acc,n,k,ha,h=>by
  unfold Cj at h;split at h
  ·cases h
  ·rename_i hi;split at h
   ·rename_i hc;split at h
    ·cases h
    ·rename_i hz;simp only [Option.some.injEq,Ah3] at h;obtain⟨rfl,rfl⟩:=h;refine⟨?_,Omg,Osi,Omg,λ h0=>?_⟩
     ·by_cases h9:i=9
      ·subst h9;have:c.toNat=1:=Omg;rw [this];have:(128:Nat) ^ 9=9223372036854775808:=Ode;omega
      ·have hp:(128:Nat) ^ i<=128 ^ 8:=AiL Omg Omg;have:(128:Nat) ^ 8=72057594037927936:=Ode;have h3:c.toNat*128 ^ i<=127*128 ^ i:=AiD _ Omg;omega
     ·have h1:1<=c.toNat:=Omg;have:1*128 ^ i<=c.toNat*128 ^ i:=AiD _ h1;omega
   ·rename_i hc;have kQ:i<=8:=Omg;have hpow:(128:Nat) ^ (i+1)=128 ^ i*128:=AiE ..;have h3:(c.toNat % 128)*128 ^ i<=127*128 ^ i:=AiD _ Omg;obtain⟨h1,h2,h4,h5,h6⟩:=Jr r (i+1) _ n k Omg h;refine⟨h1,Omg,by simp;omega,h5,λ _=>?_⟩;have:=h6 Omg;omega
theorem Aal(i:Nat):(128:Nat) ^ i=2 ^ (7*i):=by rw [Nat.pow_mul]
theorem Abb{acc c i:Nat}(ha:acc<128 ^ i)(hc:c<128)(hi:i<=9)(h9:i=9->c<=1) :
  acc+c*128 ^ i<18446744073709551616/\(AhZ 64 (acc:Int) ||| AhZ 64 ((c*128 ^ i:Nat):Int)).toNat=acc+c*128 ^ i:=by
 have hb:acc+c*128 ^ i<18446744073709551616:=by
  by_cases h:i=9
  ·subst h;have:=h9 rfl;have e:(128:Nat) ^ 9=9223372036854775808:=Ode;have:c*128 ^ 9<=1*128 ^ 9:=AiD _ this;omega
  ·have hp:(128:Nat) ^ i<=128 ^ 8:=AiL Omg Omg;have:(128:Nat) ^ 8=72057594037927936:=Ode;have h3:c*128 ^ i<=127*128 ^ i:=AiD _ Omg;omega
 refine⟨hb,?_⟩;rw [AiO,AiC,AiC,AiB,AiB,AiA Omg,AiA Omg,Aal,AiQ];rw [Aal] at ha;have:=AiP (i:=7*i) (b:=acc) ha c;rw [AiF c,<- this];omega
theorem Agp{x:Nat}(h:x<256):IntKind.u8.wrap (((AhZ 8 (x:Int) &&& AhZ 8 127).toNat:Int))=((x % 128:Nat):Int):=by
 have:(AhZ 8 (x:Int) &&& AhZ 8 127).toNat=x % 128:=by
  rw [BitVec.toNat_and,AiC,AiB,AiA Omg];exact Nat.and_two_pow_sub_one_eq_mod x 7
 rw [this,AG Omg Omg]
theorem Ui{c i:Nat}(hc:c<128)(hi:i<=9):IntKind.u64.wrap ((c:Int)*2 ^ (min (IntKind.i64.wrap (7*(i:Int))).toNat 64))=((c*128 ^ i % 18446744073709551616:Nat):Int):=by
 have e:min (IntKind.i64.wrap (7*(i:Int))).toNat 64=7*i:=by rw [wrap_i64 Omg Omg];omega
 rw [e,wrap_u64,Aal];have:((2:Int) ^ (7*i))=((2 ^ (7*i):Nat):Int):=by norm_cast
 rw [this,<- Int.natCast_mul];omega
section
variable {w:World}{a:Option Addr}{c:Nat}{l:List UInt8}
theorem byte_at(hl:Rd w a (l.map Ag)){i:Nat}(hi:i<l.length):∃ p,a=some p/\w.cell? (p.add (i*1))=some (.int .u8 (l[i].toNat:Int)):=by
 obtain⟨p,hp,hc⟩:=hl i (Ag l[i]) (by simp [hi]);exact⟨p,hp,by rw [Aiw];exact hc⟩
theorem Vs{i:Nat}(hi:i<l.length):l.drop i=l[i] :: l.drop (i+1):=List.drop_eq_getElem_cons hi
theorem AL(hl:Rd w a (l.map Ag))(hc:l.length<=c)(hs:l.length<=9223372036854775807)(at_:Int):Cw 106 #[.slice a l.length c,.int .i64 at_] w λ v w'=>v=KM (takeN l at_)/\w'=w:=by
 apply J1
 delta Ad F H I Ly Qui U W Wb Wu X Y Z;try dsimp only [Ps]
 refine Aa (λ h=>⟨by simp [takeN,h,KM],rfl⟩) (λ h0=>Aa (λ h=>⟨?_,rfl⟩) (λ h1=>?_))
 ·have:l.drop at_.toNat=[]:=AiS Omg;simp [takeN,h0,this,Cj,KM]
 obtain⟨at_,rfl⟩:∃ k:Nat,at_=k:=⟨at_.toNat,Omg⟩;rw [Ait];have cV:at_<=l.length:=Omg;have ht:takeN l (at_:Int)=(Cj 0 0 (l.drop at_)).map λ x=>(x.1,at_+x.2):=by unfold takeN;rw [if_neg h0];rfl
 refine⟨⟨Omg,Omg,Omg⟩,?_⟩;refine⟨λ s w1=>w1=w/\∃ i acc:Nat,s=[.int .u64 (acc:Int),.int .i64 (i:Int)]/\i<=10/\at_+i<=l.length/\acc<128 ^ i/\Cj 0 0 (l.drop at_)=Cj i acc (l.drop (at_+i)),
  λ s _=>match s with
   | [_,.int _ i]=>10-i.toNat
   | _=>0,⟨rfl,0,0,rfl,Omg,Omg,Osi,rfl⟩,?_⟩
 rintro _ _ w1 ⟨rfl,i,acc,bR,hi,hle,nC,bO⟩;cases bR;have none_:Cj i acc (l.drop (at_+i))=none->(Value.tuple #[.int .u64 0,.int .i64 0,.int .i64 20]=KM (takeN l (at_:Int))/\w1=w1):=by
  intro hn;rw [ht,bO,hn];exact⟨rfl,rfl⟩
 refine Aa (λ aB=>⟨⟨Omg,aB⟩,?_⟩) (λ aJ=>?_)
 ·have aD:at_+i<l.length:=Omg;have cm:=(hl.NQ at_ l.length c 1 hc);obtain⟨p,hp,aE⟩:=cm i (Ag l[at_+i]) (by
   rw [List.getElem?_take_of_lt Omg,List.getElem?_drop,Aiw];simp [aD])
  rw [hp];refine⟨_,by rw [Ait,Aiw];exact aE,?_⟩;have hd:=Vs aD;generalize iq:l[at_+i]=cc at hd;have ln:=cc.toNat_lt;refine⟨λ _ w2=>w2=w1/\¬ (9<i\/(i=9/\cc.toNat≠1)),?_,?_⟩
  ·refine Aa (λ h=>none_ (by rw [hd];unfold Cj;rw [if_pos (.inl Omg)])) (λ h9=>Ap (λ h=>Ai (λ h2=>none_ (by rw [hd];unfold Cj;rw [if_pos (.inr ⟨Omg,Omg⟩)])) (λ h2=>⟨rfl,Omg⟩)) (λ h=>⟨rfl,Omg⟩))
  rintro w2 ⟨rfl,aP⟩;have qf:i<=9:=Omg;have hm:cc.toNat % 128<128:=AiR _ Omg;have h9:i=9->cc.toNat % 128<=1:=Omg;obtain⟨hb,hor⟩:=Abb nC hm qf h9;have e1:IntKind.u64.wrap (IntKind.u8.wrap (((AhZ 8 (cc.toNat:Int) &&& AhZ 8 127).toNat:Int)))=((cc.toNat % 128:Nat):Int):=by rw [Agp ln,Aj Omg Omg]
  rw [e1,Ui hm qf,AiA (by omega:cc.toNat % 128*128 ^ i<18446744073709551616),hor,Aj Omg Omg];refine⟨by rw [wrap_i64 Omg Omg];omega,?_⟩;have fin:cc.toNat<128->¬ (cc.toNat=0/\0<i)->(Value.tuple #[.int .u64 ((acc+cc.toNat % 128*128 ^ i:Nat):Int),.int .i64 (IntKind.i64.wrap (IntKind.i64.wrap ((at_:Int)+(i:Int))+1)),.int .i64 0]=KM (takeN l (at_:Int))/\w2=w2):=by
   intro aB hz;refine⟨?_,rfl⟩;rw [ht,bO,hd];unfold Cj;rw [if_neg aP,if_pos aB,if_neg hz,AiA aB,wrap_i64 (n:=(at_:Int)+(i:Int)) Omg Omg,wrap_i64 Omg Omg];simp only [Option.map_some,KM];congr 5
  refine Aa (λ aB=>Ap (λ hz=>Aa (λ h=>none_ (by rw [hd];unfold Cj;rw [if_neg aP,if_pos Omg,if_pos ⟨Omg,Omg⟩])) (λ h=>fin Omg Omg)) (λ hz=>fin Omg Omg)) (λ aJ=>?_);rw [Ae Omg];refine⟨⟨rfl,i+1,_,rfl,Omg,Omg,?_,?_⟩,?_⟩
  ·rw [AiE];have h3:(cc.toNat % 128)*128 ^ i<=127*128 ^ i:=AiD _ Omg;omega
  ·rw [bO,hd]
   conv=>lhs;unfold Cj
   rw [if_neg aP,if_neg Omg];rfl
  ·simp only [Ait];omega
 ·refine none_ ?_;rw [AiS Omg];rfl
theorem AJ(hl:Rd w a (l.map Ag))(hs:l.length<=9223372036854775807)(at_:Int)(cV:at_<=9223372036854775807):Cw 84 #[.slice a l.length c,.int .i64 at_] w λ v w'=>v=KM (takeN l at_)/\w'=w:=by
 apply Js
 delta Ad F H I Ly Qui U W Wu X Z;try dsimp only [Ps]
 refine Aa (λ h=>⟨by simp [takeN,h,KM],rfl⟩) (λ h0=>?_);obtain⟨at_,rfl⟩:∃ k:Nat,at_=k:=⟨at_.toNat,Omg⟩;have ht:takeN l (at_:Int)=(Cj 0 0 (l.drop at_)).map λ x=>(x.1,at_+x.2):=by unfold takeN;rw [if_neg h0];rfl
 refine⟨λ s w1=>w1=w/\∃ i acc:Nat,s=[.int .u64 (acc:Int),.int .i64 (i:Int)]/\i<=10/\acc<128 ^ i/\Cj 0 0 (l.drop at_)=Cj i acc (l.drop (at_+i)),
  λ s _=>match s with
   | [_,.int _ i]=>10-i.toNat
   | _=>0,⟨rfl,0,0,rfl,Omg,Osi,rfl⟩,?_⟩
 rintro _ _ w1 ⟨rfl,i,acc,bR,hi,nC,bO⟩;cases bR;have none_:Cj i acc (l.drop (at_+i))=none->(Value.tuple #[.int .u64 0,.int .i64 0,.int .i64 20]=KM (takeN l (at_:Int))/\w1=w1):=by
  intro hn;rw [ht,bO,hn];exact⟨rfl,rfl⟩
 have nil_:l.length<=at_+i->Cj i acc (l.drop (at_+i))=none:=by
  intro h;rw [AiS h];rfl
 refine Aa (λ hi10=>Aa (λ yZ=>?_) (λ h=>none_ (nil_ Omg))) (λ h=>none_ ?_)
 ·have ew:IntKind.i64.wrap ((l.length:Int)-(at_:Int))=(l.length:Int)-(at_:Int):=wrap_i64 Omg Omg;rw [ew];refine Aa (λ hil'=>?_) (λ h=>none_ (nil_ Omg));have aD:at_+i<l.length:=Omg;have ei:IntKind.i64.wrap ((at_:Int)+(i:Int))=((at_+i:Nat):Int):=by rw [wrap_i64 Omg Omg];omega
  rw [ei];refine⟨⟨Omg,Omg⟩,?_⟩;obtain⟨p,rfl,aE⟩:=byte_at hl aD;refine⟨_,by rw [Ait];exact aE,?_⟩;have hd:=Vs aD;generalize iq:l[at_+i]=cc at hd;have ln:=cc.toNat_lt;have qf:i<=9:=Omg;refine⟨λ _ w2=>w2=w1/\¬ (i=9/\1<cc.toNat),?_,?_⟩
  ·refine Ap (λ h=>Aa (λ h2=>none_ (by rw [hd];unfold Cj;rw [if_pos (.inr ⟨Omg,Omg⟩)])) (λ h2=>⟨rfl,Omg⟩)) (λ h=>⟨rfl,Omg⟩)
  rintro w2 ⟨rfl,gU⟩;have hm:cc.toNat % 128<128:=AiR _ Omg;have h9:i=9->cc.toNat % 128<=1:=Omg;obtain⟨hb,_⟩:=Abb nC hm qf h9;have e1:IntKind.u64.wrap (Int.tmod (cc.toNat:Int) 128)=((cc.toNat % 128:Nat):Int):=by
   rw [AiN Omg,Aj Omg Omg];omega
  rw [e1,Ui hm qf,AiA (by omega:cc.toNat % 128*128 ^ i<18446744073709551616)];have e2:IntKind.u64.wrap ((acc:Int)+((cc.toNat % 128*128 ^ i:Nat):Int))=((acc+cc.toNat % 128*128 ^ i:Nat):Int):=by
   rw [Aj Omg Omg];omega
  rw [e2];refine⟨by rw [wrap_i64 Omg Omg];omega,?_⟩;have ri:i=9->cc.toNat=0->Cj i acc (l.drop (at_+i))=none:=by
   intro h h0;rw [hd];unfold Cj;rw [if_pos (.inr ⟨h,Omg⟩)]
  have fin:cc.toNat<128->¬ (cc.toNat=0/\0<i)->(Value.tuple #[.int .u64 ((acc+cc.toNat % 128*128 ^ i:Nat):Int),.int .i64 (IntKind.i64.wrap (((at_+i:Nat):Int)+1)),.int .i64 0]=KM (takeN l (at_:Int))/\w2=w2):=by
   intro aB hz;refine⟨?_,rfl⟩;rw [ht,bO,hd];unfold Cj;rw [if_neg Omg,if_pos aB,if_neg hz,AiA aB,wrap_i64 Omg Omg];simp only [Option.map_some,KM];congr 5
  refine Aa (λ aB=>Ap (λ hz=>Aa (λ h=>none_ ?_) (λ h=>fin Omg Omg)) (λ hz=>fin Omg Omg)) (λ aJ=>?_)
  ·by_cases vo:i=9
   ·exact ri vo Omg
   ·rw [hd];unfold Cj;rw [if_neg Omg,if_pos Omg,if_pos ⟨Omg,Omg⟩]
  rw [Ae Omg];refine⟨⟨rfl,i+1,_,rfl,Omg,?_,?_⟩,?_⟩
  ·rw [AiE];have h3:(cc.toNat % 128)*128 ^ i<=127*128 ^ i:=AiD _ Omg;omega
  ·rw [bO,hd]
   conv=>lhs;unfold Cj
   rw [if_neg Omg,if_neg Omg];rfl
  ·simp only [Ait];omega
 ·have mi:i=10:=Omg;subst mi;cases hh:l.drop (at_+10) with
  | nil=>rfl
  | cons c r=>unfold Cj;rw [if_pos (.inl Omg)]
end
theorem AA{l:List UInt8}{at_:Int}{n k:Nat}(h:takeN l at_=some (n,k)):n<18446744073709551616/\0<=at_/\at_.toNat<k/\k<=l.length/\k<=at_.toNat+10:=by
 unfold takeN at h;split at h
 ·cases h
 ·obtain⟨⟨x1,x2⟩,hx,he⟩:=Option.map_eq_some_iff.1 h;simp only [Ah3] at he;obtain⟨rfl,rfl⟩:=he;obtain⟨h1,h2,h3,h4,_⟩:=Jr _ 0 0 _ _ Osi hx;rw [AiT] at h3;refine⟨h1,Omg,Omg,Omg,Omg⟩
def BG(l:List UInt8)(at_:Int)(most:Nat):Option (List UInt8 × Nat) :=
 match takeN l at_ with
 | some x=>if 1048576<x.1\/most<x.1\/l.length-x.2<x.1 then none else some ((l.drop x.2).take x.1,x.2+x.1)
 | none=>none
def AeI(o:Option (List UInt8 × Nat)):Value :=
 match o with
 | some x=>.tuple #[.string (Bu x.1),.int .i64 (x.2:Int),.int .i64 0]
 | none=>.tuple #[.string ⟨#[]⟩,.int .i64 0,.int .i64 20]
section
variable {w:World}{a:Option Addr}{c:Nat}{l:List UInt8}
theorem Ef(hl:Rd w a (l.map Ag))(hc:l.length<=c)(hs:l.length<=9223372036854775807)(at_:Int)(most:Nat):Cw 114 #[.slice a l.length c,.int .i64 at_,.int .i64 (most:Int)] w λ v w'=>v=AeI (BG l at_ most)/\w'=w:=by
 apply Mg
 delta Bz F H I Rt S T W Y;try dsimp only [Ps]
 refine (AL hl hc hs at_).mono ?_;rintro _ w ⟨_,rfl,rfl,rfl⟩;cases ho:takeN l at_ with
 | none=>exact⟨_,_,_,rfl,CG ⟨by simp only [BG,ho];rfl,rfl⟩⟩
 | some x =>
  obtain⟨n,k⟩:=x;obtain⟨h1,h2,h3,h4,h5⟩:=AA ho;have no:(1048576<n\/most<n\/l.length-k<n)->(Value.tuple #[.string ⟨#[]⟩,.int .i64 0,.int .i64 20]=AeI (BG l at_ most)/\w=w):=by
   intro h;refine⟨?_,rfl⟩;simp only [BG,ho];rw [if_pos h];rfl
  refine⟨_,_,_,rfl,AN (Aa (λ h=>no (.inl Omg)) (λ fB=>?_))⟩;rw [wrap_i64 (n:=(n:Int)) Omg Omg,wrap_i64 (n:=(l.length:Int)-(k:Int)) Omg Omg];refine Aa (λ h=>no (.inr (.inl Omg))) (λ iA=>Aa (λ h=>no (.inr (.inr Omg))) (λ wQ=>?_));have e:IntKind.i64.wrap ((k:Int)+(n:Int))=((k+n:Nat):Int):=by rw [wrap_i64 Omg Omg];omega
  rw [e];refine⟨⟨Omg,Omg,Omg⟩,?_⟩;rw [Ait,Ait,AiM];have bF:=hl.NQ k (k+n) c 1 Omg;rw [Aiw,Aiw,AiM,<- AiU,<- AiV] at bF;have hlen:((l.drop k).take n).length=n:=by rw [List.length_take,AiT];omega
  refine Aw Ca hlen.symm bF ⟨_,rfl,?_,rfl⟩;simp only [BG,ho];rw [if_neg Omg];rfl
theorem DU(hl:Rd w a (l.map Ag))(hc:l.length<=c)(hs:l.length<=9223372036854775807)(at_:Int)(cV:at_<=9223372036854775807)(most:Nat):Cw 88 #[.slice a l.length c,.int .i64 at_,.int .i64 (most:Int)] w λ v w'=>v=AeI (BG l at_ most)/\w'=w:=by
 apply KZ
 delta Bz F H I Rt S T W Y;try dsimp only [Ps]
 refine (AJ hl hs at_ cV).mono ?_;rintro _ w ⟨_,rfl,rfl,rfl⟩;cases ho:takeN l at_ with
 | none=>exact⟨_,_,_,rfl,CG ⟨by simp only [BG,ho];rfl,rfl⟩⟩
 | some x =>
  obtain⟨n,k⟩:=x;obtain⟨h1,h2,h3,h4,h5⟩:=AA ho;have no:(1048576<n\/most<n\/l.length-k<n)->(Value.tuple #[.string ⟨#[]⟩,.int .i64 0,.int .i64 20]=AeI (BG l at_ most)/\w=w):=by
   intro h;refine⟨?_,rfl⟩;simp only [BG,ho];rw [if_pos h];rfl
  refine⟨_,_,_,rfl,AN (Aa (λ h=>no (.inl Omg)) (λ fB=>?_))⟩;rw [wrap_i64 (n:=(n:Int)) Omg Omg,wrap_i64 (n:=(l.length:Int)-(k:Int)) Omg Omg];refine Aa (λ h=>no (.inr (.inl Omg))) (λ iA=>Aa (λ h=>no (.inr (.inr Omg))) (λ wQ=>?_));have e:IntKind.i64.wrap ((k:Int)+(n:Int))=((k+n:Nat):Int):=by rw [wrap_i64 Omg Omg];omega
  rw [e];refine⟨⟨Omg,Omg,Omg⟩,?_⟩;rw [Ait,Ait,AiM];have bF:=hl.NQ k (k+n) c 1 Omg;rw [Aiw,Aiw,AiM,<- AiU,<- AiV] at bF;have hlen:((l.drop k).take n).length=n:=by rw [List.length_take,AiT];omega
  refine Aw Ca hlen.symm bF ⟨_,rfl,?_,rfl⟩;simp only [BG,ho];rw [if_neg Omg];rfl
end
theorem Bj.Bs{w w1 w2 w3:World}{l m:List UInt8}{a a':Option Addr}{c c':Nat}(h:Bj w w1 l a c)(hb:Below w1.heap.size w1 w2)(R:Row w3 5 1 a' m.length c' (m.map Ag))(K:Ak (λ k=>AF a=some k) w2 w3)(N:∀ k,AF a'=some k->AF a=some k\/w2.heap.size<=k):Bj w w3 m a' c':=by
 have h2:=h.grown hb;refine⟨R,λ k hk=>?_,h2.Ar.trans (K.below h2.Ar.size λ k hk he=>by have:=h2.new k he;omega)⟩;rcases N k hk with hh | hh
 ·exact h2.new k hh
 ·exact AiI h2.Ar.size hh
section
variable {w:World}{a:Option Addr}{c:Nat}
theorem Bf(l:List UInt8)(hl:Rd w a (l.map Ag))(n:Nat)(hn:n<18446744073709551616)(hs:l.length+10<=140737488355328) :
  Cw 51 #[.slice a l.length c,.int .u64 (n:Int)] w λ v w'=>∃ a c,v=.slice a (l++Af n).length c/\Bj w w' (l++Af n) a c:=by
 apply Na
 delta B F I J Ks N Qus Rs S U W Wb Wu;try dsimp only [Ps]
 have e:IntKind.i64.wrap ((l.length:Int)+10)=((l.length+10:Nat):Int):=by rw [wrap_i64 Omg Omg];omega
 rw [e];refine G7 tB Omg Omg λ b w1 hb B1 R1=>⟨_,_,_,rfl,?_⟩;refine A0 (l:=[]) R1 (hl.grown B1) (by simp;omega) λ a2 c2 w2 R2 K2 N2=>⟨_,_,_,rfl,?_⟩;have h1:Bj w w1 [] (some ⟨b,0,none⟩) (l.length+10):=⟨R1,λ k hk=>by simp [AF] at hk;omega,B1⟩;have h2:Bj w w2 l a2 c2:=h1.Bs (.refl _ _) R2 K2 N2;refine⟨λ s w3=>∃(m:Nat) (a:Option Addr) (c:Nat) (l':List UInt8),s=[.int .u64 (m:Int),.slice a l'.length c]/\m<18446744073709551616/\l'++Af m=l++Af n/\Bj w w3 l' a c,
  λ s _=>match s with
   | [.int _ i,_]=>i.toNat
   | _=>0,⟨n,a2,c2,l,rfl,hn,rfl,h2⟩,?_⟩
 rintro _ a3 _ c3 w3 ⟨m,_,_,l',bR,hm,cy,h3⟩;cases bR;have hlen:l'.length+1<=140737488355328:=by
  have h4:=Ah hn;have h5:=congrArg List.length cy;have h6:=HU m;have h7:0<(Af m).length:=List.length_pos_iff.2 h6;simp only [Aiq] at h5;omega
 refine Aa (λ h=>?_) (λ h=>?_)
 ·have e1:IntKind.u8.wrap (IntKind.u8.wrap (Int.tmod (m:Int) 128)+128)=((m % 128+128:Nat):Int):=by
   rw [AiN Omg,AG (n:=(m:Int) % 128) Omg Omg,AG Omg Omg];omega
  have e2:IntKind.u64.wrap (Int.tdiv (m:Int) 128)=((m / 128:Nat):Int):=by rw [Int.tdiv_eq_ediv_of_nonneg Omg,Aj Omg Omg];omega
  rw [e1,e2];refine (SH.start (λ _=>False) w3).An λ tg w6 nI B6 S6=>?_;refine CH (h3.grown B6).row hlen (x:=Aiz (m % 128+128)) (Ck Omg) (S6.get 0 rfl) λ a7 c7 w7 R7 K7 N7=>⟨_,_,_,rfl,⟨m / 128,a7,c7,_,rfl,Omg,?_,h3.Bs B6 R7 K7 N7⟩,?_⟩
  ·rw [<- cy]
   conv=>rhs;rhs;unfold Af;rw [dif_neg Omg]
   simp
  ·simp only [Ait];omega
 ·have fg:m<128:=Omg;rw [AG (n:=(m:Int)) Omg Omg];refine (SH.start (λ _=>False) w3).An λ tg w6 nI B6 S6=>?_;refine CH (h3.grown B6).row hlen (x:=Aiz m) (Ck Omg) (S6.get 0 rfl) λ a7 c7 w7 R7 K7 N7=>⟨_,_,_,rfl,?_⟩;have e:l'++[Aiz m]=l++Af n:=by rw [<- cy];conv=>rhs;rhs;unfold Af;rw [dif_pos fg]
  have h7:=h3.Bs B6 R7 K7 N7;rw [e] at h7 ⊢;exact⟨a7,c7,rfl,h7⟩
theorem Gg(l:List UInt8)(hl:Rd w a (l.map Ag))(s:ByteArray)(hz:s.size<=1048576)(hs:l.length+10+s.size<=140737488355328) :
  Cw 57 #[.slice a l.length c,.string s] w λ v w'=>∃ a c,v=.tuple #[.slice a (l++Bm s).length c,.int .i64 0]/\Bj w w' (l++Bm s) a c:=by
 apply Qv
 delta Cs F H I O Rs S T U Wu;try dsimp only [Ps]
 refine Aa (λ h=>Omg) (λ _=>?_);rw [Aj Omg Omg];refine (Bf l hl s.size Omg Omg).mono ?_;rintro _ w1 ⟨_,rfl,a1,c1,rfl,h1⟩;have hd:=Ah (n:=s.size) Omg;refine⟨_,_,_,rfl,XH h1.row s (by simp only [Aiq];omega) λ a2 c2 w2 R2 K2 N2=>⟨_,_,_,rfl,?_⟩⟩;have h2:=h1.Bs (.refl _ _) R2 K2 N2;have e:l++Af s.size++bl s=l++Bm s:=by rw [Bm,List.append_assoc]
 rw [e] at h2 ⊢;exact⟨a2,c2,rfl,h2⟩
end
theorem EC{n:Nat}(h:n<256):(Aiz n).toNat=n:=by simp;omega
theorem Ia{n:Nat}(h:n<128):Af n=[Aiz n]:=by unfold Af;rw [dif_pos h]
theorem Q4{n:Nat}(h:¬ n<128):Af n=Aiz (n % 128+128) :: Af (n / 128):=by conv=>lhs;unfold Af;rw [dif_neg h]
theorem OQ(n:Nat):∀(i acc:Nat) (r:List UInt8),n*128 ^ i<18446744073709551616->i<=9->(n=0->i=0)->Cj i acc (Af n++r)=some (acc+n*128 ^ i,i+(Af n).length):=by
 induction n using Nat.strongRecOn with
 | _ n ih =>
  intro i acc r hn hi h0;by_cases h:n<128
  ·rw [Ia h];simp only [List.singleton_append,Cj];rw [EC Omg];have e9:i=9->n=1:=by
    intro h9;subst h9;have:(128:Nat) ^ 9=9223372036854775808:=Ode;rw [this] at hn;have:n≠0:=λ h=>by have:=h0 h;omega
    omega
   rw [if_neg Omg,if_pos h,if_neg Omg];rfl
  ·rw [Q4 h];simp only [List.cons_append,Cj];rw [EC Omg];have h8:i<=8:=by
    by_cases h9:i=9
    ·subst h9;have:(128:Nat) ^ 9=9223372036854775808:=Ode;rw [this] at hn;omega
    ·omega
   have ep:(128:Nat) ^ (i+1)=128*128 ^ i:=by rw [AiE,AiF]
   have key:n / 128*128 ^ (i+1)+n % 128*128 ^ i=n*128 ^ i:=by
    rw [ep,<- Nat.mul_assoc,<- Nat.add_mul];congr 1;omega
   rw [if_neg Omg,if_neg Omg,ih (n / 128) Omg (i+1) _ r Omg Omg Omg];simp only [Ais];have:(n % 128+128) % 128=n % 128:=Omg;rw [this];congr 2
   ·omega
   ·omega
theorem TZ:∀(l:List UInt8) (i acc n k:Nat),Cj i acc l=some (n,k)->∃ m,n=acc+m*128 ^ i/\k=i+(Af m).length/\l=Af m++l.drop (Af m).length/\(0<i->m≠0)
 | [],_,_,_,_,h=>by simp [Cj] at h
 | c :: r,i,acc,n,k,h=>by
  have hc:=c.toNat_lt;unfold Cj at h;split at h
  ·cases h
  ·split at h
   ·rename_i aB;split at h
    ·cases h
    ·rename_i hz;simp only [Option.some.injEq,Ah3] at h;obtain⟨rfl,rfl⟩:=h;refine⟨c.toNat,rfl,?_,?_,λ hi hh=>hz ⟨hh,hi⟩⟩
     ·rw [Ia aB];rfl
     ·rw [Ia aB];simp
   ·rename_i aJ;obtain⟨m,e1,e2,e3,e4⟩:=TZ r (i+1) _ n k h;have hm:=e4 Omg;have hb:¬ (c.toNat % 128+128*m)<128:=Omg;have ed:Af (c.toNat % 128+128*m)=c :: Af m:=by
     rw [Q4 hb];have h1:(c.toNat % 128+128*m) % 128+128=c.toNat:=Omg;have h2:(c.toNat % 128+128*m) / 128=m:=Omg;rw [h1,h2];simp
    refine⟨c.toNat % 128+128*m,?_,?_,?_,λ _=>Omg⟩
    ·rw [e1,AiE,Nat.add_mul,Nat.add_assoc];congr 2;rw [AiF (128 ^ i) 128,<- Nat.mul_assoc,AiF m 128]
    ·rw [e2,ed];simp only [Ais];omega
    ·rw [ed];simp only [Ais,List.drop_succ_cons,List.cons_append];rw [<- e3]
def Wh(n:Nat):List UInt8:=Aio n 0
def Mk(l:List UInt8)(p:Nat):List UInt8:=(l.drop p).take 64++Wh (64-min (l.length-p) 64)
theorem PN(l:List UInt8)(p:Nat):(Mk l p).length=64:=by
 simp [Mk,Wh];omega
def DI(l:List UInt8)(p:Nat):Nat:=p+min (l.length-p) 64
def F4(l:List UInt8):Nat->List Wd
 | 0=>BX.set 0 (BX.getD 0 0 ^^^ 16842784)
 | k+1=>TU (F4 l k) (Mk l (64*k)) (DI l (64*k)) (DI l (64*k)==l.length)
theorem Acr(h:List Wd)(CA:List UInt8)(n:Nat)(last:Bool):(TU h CA n last).length=h.length:=by
 unfold TU;rw [WM]
theorem IU(l:List UInt8):∀ k,(F4 l k).length=8
 | 0=>by simp [F4,BX]
 | k+1=>by rw [F4,Acr,IU l k]
def Aea(l:List UInt8):Nat:=max 1 ((l.length+63) / 64)
def AhO(h:List Wd)(i:Nat):UInt8:=Aiz ((h.getD (i / 4) 0) >>> (8*(i % 4))).toNat
def Qo(h:List Wd):Nat->List UInt8
 | 0=>Wh 32
 | i+1=>(Qo h i).set i (AhO h i)
theorem OL(h:List Wd):∀ i,(Qo h i).length=32
 | 0=>by simp [Qo,Wh]
 | i+1=>by simp [Qo,OL h i]
def H9(l:List UInt8):List UInt8:=Qo (F4 l (Aea l)) 32
theorem WB(v:List UInt8):∀ x∈v.map Ag,x.oneCell'=true:=by
 rw [LL];exact TI _ _
section
variable {F:Nat->Prop}{w0 w:World}{H:List Xm}
theorem _root_.Go.Dn.SH.AfY(S:SH F w0 w H)(n:Nat){b:Nat}{v:List UInt8}{t:TypeId}(hn:H[n]?=some (b,⟨v.map Ag⟩,t)){j x:Nat}(hj:j<v.length)(hx:x=j){y:UInt8}{k:World->Prop}
  (hk:∀ w',SH F w0 w' (H.set n (b,⟨(v.set j y).map Ag⟩,t))->k w'):DG ((⟨b,0,none⟩:Addr).add (x*1)) (.int .u8 (y.toNat:Int)) k w:=by
 subst hx;rw [Ax,Aiv,Aiw];refine S.BD n hn (by simpa using hj) λ w' S'=>hk w' ?_;have e:(⟨v.map Ag⟩:Array Value).setIfInBounds x (.int .u8 (y.toNat:Int))=⟨(v.set x y).map Ag⟩:=by
  apply Array.ext';simp [Ag,List.map_set]
 rw [e] at S';exact S'
end
theorem VN(x:Wd)(k:Nat)(hk:k<=32):IntKind.u8.wrap (AiJ (x.toNat:Int) (2 ^ (min k 32)))=((Aiz (x >>> k).toNat).toNat:Int):=by
 rw [Nat.min_eq_left hk,I7,wrap_u8];simp
theorem Kp{w:World}(T:Hb w){a:Option Addr}{c:Nat}(ps:List DH)(hp:Rd w a (ps.map BZ))(hb:∀ p∈ps,Rd w p.1 (p.2.2.map Ag))(hn:ps.length<9223372036854775807)(hl:(BR ps).length<=140737488355328) :
  Cw 115 #[.slice a ps.length c] w λ v w'=>v=.agg ⟨(H9 (BR ps)).map Ag⟩/\Below w.heap.size w w':=by
 apply TC
 delta A B Cs D F G I Lv Qi Ri S Am U V W Wb Wu Wv X Y Z;try dsimp only [Ps]
 refine (SH.start (λ _=>False) w).An λ b2 w1 _ B1 S=>?_;refine (Bl ps (hp.grown B1) (λ p h=>(hb p h).grown B1) hn hl).mono ?_;rintro _ w2 ⟨_,rfl,a2,c2,rfl,N2⟩;generalize BR ps=l at *;have S2:=S.grown N2.Ar;have T2:=T.grown S2.below;refine⟨_,_,_,rfl,CY BX rfl T2.first ?_⟩;refine (SH.start (λ _=>False) w2).An λ b6 w3 _ _ S=>Dg rfl (S.Eb 0 rfl (vs:=BX.map wV) rfl (Ir _) λ w4 _ S=>?_);refine⟨_,S.wd' 0 rfl (by simp [BX]),?_⟩;have e0:∀ x:Wd,IntKind.u32.wrap (((AhZ 32 (x.toNat:Int) ^^^ AhZ 32 16842784).toNat:Int))=((x ^^^ 16842784).toNat:Int):=by
  intro x;rw [Bk,Bp];rfl
 rw [e0];refine S.LA 0 rfl (by simp [BX]) λ w5 S=>?_;refine⟨λ st w'=>∃ k:Nat,st=[.int .i64 ((64*k:Nat):Int)]/\(k<=1\/64*(k-1)<l.length)/\SH (λ _=>False) w2 w' [(b6,⟨(F4 l k).map wV⟩,216)],
  λ st _=>match st with | [.int _ t]=>((l.length:Int)+64-t).toNat | _=>0,⟨0,rfl,.inl Omg,S⟩,?_⟩
 rintro t w6 ⟨k,aA,hk,S⟩;cases L5 aA;have bF:=IU l k;refine⟨λ _ w'=>(k=0\/64*k<l.length)/\SH (λ _=>False) w2 w' [(b6,⟨(F4 l k).map wV⟩,216)],?_,?_⟩
 ·refine Ap (λ h=>⟨.inl Omg,S⟩) (λ h0=>Aa (λ h=>⟨.inr Omg,S⟩) (λ h=>?_));have sW:Aea l=k:=by
   unfold Aea;omega
  have S6:=S2.grown S.below;refine S.An λ b18 al _ j8 S=>?_;refine⟨λ st w'=>∃ i:Nat,st=[.int .i64 (i:Int)]/\i<=32/\SH (λ _=>False) w2 w' [(b18,⟨(Qo (F4 l k) i).map Ag⟩,142),(b6,⟨(F4 l k).map wV⟩,216)],
   λ st _=>match st with | [.int _ t]=>(32-t).toNat | _=>0,⟨0,rfl,Omg,S⟩,?_⟩
  rintro t au ⟨i,aA,hi,S⟩;cases L5 aA;have cC:=OL (F4 l k) i;refine Aa (λ aB=>?_) (λ aJ=>?_)
  ·have dh:i<32:=Omg;rw [Abt i Omg,Abu i Omg];refine⟨⟨Omg,Omg⟩,_,S.wd 1 rfl Omg (Ait _),Omg,⟨Omg,aB⟩,?_⟩;rw [Ait,VN _ _ Omg];refine S.AfY 0 rfl Omg (Ait _) λ cd S=>?_;rw [Ae Omg];exact⟨⟨i+1,rfl,Omg,S⟩,by show (32-((i+1:Nat):Int)).toNat<(32-(i:Int)).toNat;omega⟩
  ·have dh:i=32:=Omg;have bA:((Qo (F4 l k) i).map Ag).length=32:=by rw [AiH];exact cC
   refine Ha (Qo (F4 l k) i) cC (Rd.Al (S.get 0 rfl)) (Dg bA ?_);refine (S2.grown S.below).Eb 0 rfl bA (WB _) λ ah _ S'=>?_;refine Ha (Qo (F4 l k) i) cC (Rd.Al (S'.get 0 rfl)) ⟨?_,S'.below⟩;unfold H9;rw [sW,dh]
 ·rintro w7 ⟨ay,S⟩;have iQ:64*k<=l.length:=Omg;refine S.An λ ij w8 _ _ S=>S.draw λ w9 S=>⟨⟨Omg,Omg,Omg⟩,⟨Omg,Omg,by have:=N2.row.le;omega⟩,?_⟩;have cm:Rd w9 (Ch a2 (64*k) c2 1) ((l.drop (64*k)).map Ag):=by
   have:=(N2.rd.grown S.below).NQ (64*k) l.length c2 1 N2.row.le;rw [List.take_of_length_le Osi,Aiw,<- AiU] at this;exact this
  rw [Ait];refine S.copy 0 rfl (P:=Aix) (elem:=5) (by kernel_rfl) (by kernel_rfl) (a:=Ch a2 (64*k) c2 1) (xs:=(l.drop (64*k)).map Ag) Osi Osi cm (WB _) λ bX _ S=>?_;have eb:(⟨((l.drop (64*k)).map Ag).take 64++(Aio 64 (Value.int .u8 0)).drop (min (l.length-64*k) 64)⟩:Array Value)=⟨(Mk l (64*k)).map Ag⟩:=by
   rw [List.drop_replicate];simp only [Mk,Wh,AiK,List.map_replicate,AiV];rfl
  replace S:=eb ▸ S
  have ee:IntKind.i64.wrap (((64*k:Nat):Int)+((min (l.length-64*k) (64-0):Nat):Int))=((DI l (64*k):Nat):Int):=by
   unfold DI;rw [wrap_i64 Omg Omg];omega
  have eu:IntKind.u64.wrap ((DI l (64*k):Nat):Int)=((DI l (64*k):Nat):Int):=by
   have:DI l (64*k)<=l.length:=by unfold DI;omega
   rw [Aj Omg Omg]
  have uM:(((DI l (64*k):Nat):Int)==((l.length:Nat):Int))=(DI l (64*k)==l.length):=by
   rw [Bool.eq_iff_iff];simp;omega
  refine⟨_,rfl,CY (F4 l k) bF (Rd.Al (S.get 1 rfl)) (Ha (Mk l (64*k)) (PN _ _) (Rd.Al (S.get 0 rfl)) ?_)⟩;rw [ee,eu,uM];refine (Afy (T2.grown S.below) (F4 l k) bF (Mk l (64*k)) (PN _ _) (DI l (64*k)) (by unfold DI;omega) _).mono ?_;rintro _ aZ ⟨_,rfl,rfl,cH⟩;have br:=IU l (k+1);rw [F4] at br;refine NV _ br ⟨rfl,Dg (by rw [AiH];exact br) ?_⟩;refine (S.grown cH).Eb 1 rfl (by simp only [AiH,br,List.size_toArray,bF]) (Ir _) λ bL _ S=>?_;have e64:IntKind.i64.wrap (((64*k:Nat):Int)+64)=((64*(k+1):Nat):Int):=by rw [wrap_i64 Omg Omg];omega
  rw [e64];exact⟨⟨k+1,rfl,Omg,S.drop 1⟩,by show ((l.length:Int)+64-((64*(k+1):Nat):Int)).toNat<((l.length:Int)+64-((64*k:Nat):Int)).toNat;omega⟩
def Agb(v:List Wd)(a b:Nat)(x:Wd):List Wd:=v.set a (v.getD a 0+v.getD b 0+x)
def AfE(v:List Wd)(d a r:Nat):List Wd:=v.set d (Aaq (v.getD d 0 ^^^ v.getD a 0) r)
def Aga(v:List Wd)(c d:Nat):List Wd:=v.set c (v.getD c 0+v.getD d 0)
def RO(v:List Wd)(a b c d:Nat)(x:Wd)(r s:Nat):List Wd:=AfE (Aga (AfE (Agb v a b x) d a r) c d) b c s
def Afw(v:List Wd)(a b c d:Nat)(x y:Wd):List Wd:=RO (RO v a b c d x 16 12) a b c d y 8 7
theorem Yu(v:List Wd)(a b c d:Nat)(x:Wd)(r s:Nat):(RO v a b c d x r s).length=v.length:=by simp [RO,Agb,AfE,Aga]
def Ad0(p:ByteArray)(j q:Nat):Prop:=IntKind.i64.wrap (IntKind.u8.wrap (((Az p j).toNat:Int)-97))=(q:Int)
set_option maxHeartbeats 1000000 in
theorem Ad9(v:List Wd)(hv:v.length=16)(p:ByteArray)(hp:p.size=4)(q0 q1 q2 q3:Nat)(h0:Ad0 p 0 q0)(h1:Ad0 p 1 q1)(h2:Ad0 p 2 q2)(h3:Ad0 p 3 q3)(l0:q0<16)(l1:q1<16)(l2:q2<16)(l3:q3<16)(x y:Wd)(w:World) :
  Cw 161 #[.agg ⟨v.map wV⟩,.string p,.int .u32 (x.toNat:Int),.int .u32 (y.toNat:Int)] w λ r w'=>r=.agg ⟨(Afw v q0 q1 q2 q3 x y).map wV⟩/\Below w.heap.size w w':=by
 unfold Ad0 at h0 h1 h2 h3;apply OV
 delta A Cv D I Lv Am V W Wb Wv X;try dsimp only [Ps]
 rw [h0,h1,h2,h3];refine (SH.start (λ _=>False) w).An λ b5 w1 _ _ S=>S.An λ b6 w2 _ _ S=>⟨⟨Omg,Omg⟩,⟨Omg,Omg⟩,⟨Omg,Omg⟩,⟨Omg,Omg⟩,?_⟩;refine S.draw λ _ S=>⟨⟨Omg,Omg⟩,⟨Omg,Omg⟩,_,S.wd 1 rfl Omg (Ait _),_,S.wd 1 rfl Omg (Ait _),⟨Omg,Omg⟩,?_⟩;rw [Mj,Mj];refine S.E8 1 rfl Omg (Ait _) λ _ S=>S.draw λ _ S=>⟨⟨Omg,Omg⟩,⟨Omg,Omg⟩,_,S.wd 1 rfl (by simp only [Aiy];omega) (Ait _),_,S.wd 1 rfl (by simp only [Aiy];omega) (Ait _),?_⟩;rw [ME];refine (SG _ 16 Omg _).mono ?_;rintro _ _ ⟨_,rfl,rfl,B⟩
 replace S:=S.grown B
 refine⟨_,rfl,⟨Omg,Omg⟩,S.E8 1 rfl (by simp only [Aiy];omega) (Ait _) λ _ S=>S.draw λ _ S=>⟨⟨Omg,Omg⟩,⟨Omg,Omg⟩,_,S.wd 1 rfl (by simp only [Aiy];omega) (Ait _),_,S.wd 1 rfl (by simp only [Aiy];omega) (Ait _),⟨Omg,Omg⟩,?_⟩⟩;rw [Mj];refine S.E8 1 rfl (by simp only [Aiy];omega) (Ait _) λ _ S=>S.draw λ _ S=>⟨⟨Omg,Omg⟩,⟨Omg,Omg⟩,_,S.wd 1 rfl (by simp only [Aiy];omega) (Ait _),_,S.wd 1 rfl (by simp only [Aiy];omega) (Ait _),?_⟩;rw [ME];refine (SG _ 12 Omg _).mono ?_;rintro _ _ ⟨_,rfl,rfl,B⟩
 replace S:=S.grown B
 refine⟨_,rfl,⟨Omg,Omg⟩,S.E8 1 rfl (by simp only [Aiy];omega) (Ait _) λ _ S=>?_⟩;have hm:=(Yu v q0 q1 q2 q3 x 16 12).trans hv;change SH (λ _=>False) w _ [(b6,⟨Aio 16 (.int .u32 0)⟩,224),(b5,⟨(RO v q0 q1 q2 q3 x 16 12).map wV⟩,224)] at S;generalize hM:RO v q0 q1 q2 q3 x 16 12=M at *;refine S.draw λ _ S=>⟨⟨Omg,Omg⟩,⟨Omg,Omg⟩,_,S.wd 1 rfl Omg (Ait _),_,S.wd 1 rfl Omg (Ait _),⟨Omg,Omg⟩,?_⟩;rw [Mj,Mj];refine S.E8 1 rfl Omg (Ait _) λ _ S=>S.draw λ _ S=>⟨⟨Omg,Omg⟩,⟨Omg,Omg⟩,_,S.wd 1 rfl (by simp only [Aiy];omega) (Ait _),_,S.wd 1 rfl (by simp only [Aiy];omega) (Ait _),?_⟩;rw [ME];refine (SG _ 8 Omg _).mono ?_;rintro _ _ ⟨_,rfl,rfl,B⟩
 replace S:=S.grown B
 refine⟨_,rfl,⟨Omg,Omg⟩,S.E8 1 rfl (by simp only [Aiy];omega) (Ait _) λ _ S=>S.draw λ _ S=>⟨⟨Omg,Omg⟩,⟨Omg,Omg⟩,_,S.wd 1 rfl (by simp only [Aiy];omega) (Ait _),_,S.wd 1 rfl (by simp only [Aiy];omega) (Ait _),⟨Omg,Omg⟩,?_⟩⟩;rw [Mj];refine S.E8 1 rfl (by simp only [Aiy];omega) (Ait _) λ _ S=>S.draw λ _ S=>⟨⟨Omg,Omg⟩,⟨Omg,Omg⟩,_,S.wd 1 rfl (by simp only [Aiy];omega) (Ait _),_,S.wd 1 rfl (by simp only [Aiy];omega) (Ait _),?_⟩;rw [ME];refine (SG _ 7 Omg _).mono ?_;rintro _ _ ⟨_,rfl,rfl,B⟩
 replace S:=S.grown B
 refine⟨_,rfl,⟨Omg,Omg⟩,S.E8 1 rfl (by simp only [Aiy];omega) (Ait _) λ _ S=>?_⟩;change SH (λ _=>False) w _ [(b6,⟨Aio 16 (.int .u32 0)⟩,224),(b5,⟨(RO M q0 q1 q2 q3 y 8 7).map wV⟩,224)] at S;have pG:=(Yu M q0 q1 q2 q3 y 8 7).trans hm;have bA:((RO M q0 q1 q2 q3 y 8 7).map wV).length=16:=by rw [AiH];exact pG
 refine CY (RO M q0 q1 q2 q3 y 8 7) pG (Rd.Al (S.get 1 rfl)) (Dg bA (S.Eb 0 rfl bA (Ir _) λ fN _ S=>?_));exact CY (RO M q0 q1 q2 q3 y 8 7) pG (Rd.Al (S.get 0 rfl)) ⟨by rw [Afw,hM],S.below⟩
def Ags:List ByteArray:=[⟨#[97,98,99,100,101,102,103,104,105,106,107,108,109,110,111,112]⟩,⟨#[111,107,101,105,106,112,110,103,98,109,97,99,108,104,102,100]⟩,⟨#[108,105,109,97,102,99,112,110,107,111,100,103,104,98,106,101]⟩,⟨#[104,106,100,98,110,109,108,111,99,103,102,107,101,97,112,105]⟩,⟨#[106,97,102,104,99,101,107,112,111,98,108,109,103,105,100,110]⟩,⟨#[99,109,103,107,97,108,105,100,101,110,104,102,112,111,98,106]⟩,⟨#[109,102,98,112,111,110,101,107,97,104,103,100,106,99,105,108]⟩,⟨#[110,108,104,111,109,98,100,106,102,97,112,101,105,103,99,107]⟩,⟨#[103,112,111,106,108,100,97,105,109,99,110,104,98,101,107,102]⟩,⟨#[107,99,105,101,104,103,98,102,112,108,106,111,100,109,110,97]⟩]
def Agt:List ByteArray:=[⟨#[97,101,105,109]⟩,⟨#[98,102,106,110]⟩,⟨#[99,103,107,111]⟩,⟨#[100,104,108,112]⟩,⟨#[97,102,107,112]⟩,⟨#[98,103,108,109]⟩,⟨#[99,104,105,110]⟩,⟨#[100,101,106,111]⟩]
def AfA(r:Nat):ByteArray:=Ags.getD r ⟨#[]⟩
def Aej(i:Nat):ByteArray:=Agt.getD i ⟨#[]⟩
theorem Acv:∀ r,r<10->(AfA r).size=16:=Ode
theorem Acy:∀ i,i<8->(Aej i).size=4:=Ode
theorem YC:∀ r,r<10->∀ j,j<16->IntKind.u8.wrap (((Az (AfA r) j).toNat:Int)-97)=(ord r j:Int):=Ode
theorem OP:∀ i,i<8->∀ j,j<4->IntKind.i64.wrap (IntKind.u8.wrap (((Az (Aej i) j).toNat:Int)-97))=(JM i j:Int):=Ode
theorem Agv:∀ i,i<8->JM i 0≠JM i 1/\JM i 0≠JM i 2/\JM i 0≠JM i 3/\JM i 1≠JM i 2/\JM i 1≠JM i 3/\JM i 2≠JM i 3:=Ode
theorem Adf(r:Nat)(hr:r<10)(w:World):Cw 160 #[.int .i64 (r:Int)] w λ v w'=>v=.string (AfA r)/\Below w.heap.size w w':=by
 apply OS
 delta A Lt N T X;try dsimp only [Ps]
 refine (SH.start (λ _=>False) w).An λ b2 w1 _ B S=>⟨⟨Omg,Omg⟩,AfA r,?_,rfl,B⟩;rw [Ait,Aiw,Ax,Aiv];refine S.cell 0 rfl ?_;have:r=0\/r=1\/r=2\/r=3\/r=4\/r=5\/r=6\/r=7\/r=8\/r=9:=Omg;rcases this with rfl | rfl | rfl | rfl | rfl | rfl | rfl | rfl | rfl | rfl <;> rfl
theorem AbM(i:Nat)(hi:i<8)(w:World):Cw 162 #[.int .i64 (i:Int)] w λ v w'=>v=.string (Aej i)/\Below w.heap.size w w':=by
 apply Nc
 delta A Lt N T X;try dsimp only [Ps]
 refine (SH.start (λ _=>False) w).An λ b2 w1 _ B S=>⟨⟨Omg,Omg⟩,Aej i,?_,rfl,B⟩;rw [Ait,Aiw,Ax,Aiv];refine S.cell 0 rfl ?_;have:i=0\/i=1\/i=2\/i=3\/i=4\/i=5\/i=6\/i=7:=Omg;rcases this with rfl | rfl | rfl | rfl | rfl | rfl | rfl | rfl <;> rfl
theorem CU(v:List Wd){a:Nat}(h:a<v.length)(x:Wd):(v.set a x).getD a 0=x:=by simp [h]
theorem getD_set_ne(v:List Wd){a b:Nat}(h:a≠b)(x:Wd):(v.set a x).getD b 0=v.getD b 0:=by
 rw [AiW,List.getElem?_set_ne h,<- AiW]
theorem Aa9(v:List Wd)(a b c d:Nat)(x:Wd)(r s:Nat)(ha:a<v.length)(hc:c<v.length)(hd:d<v.length)(fM:a≠b)(qI:a≠c)(qJ:a≠d)(p6:b≠c)(gr:b≠d)(p7:c≠d) :
  RO v a b c d x r s=(((v.set a (JJ (v.getD a 0) (v.getD b 0) (v.getD c 0) (v.getD d 0) x r s).1).set b (JJ (v.getD a 0) (v.getD b 0) (v.getD c 0) (v.getD d 0) x r s).2.1).set c
   (JJ (v.getD a 0) (v.getD b 0) (v.getD c 0) (v.getD d 0) x r s).2.2.1).set d (JJ (v.getD a 0) (v.getD b 0) (v.getD c 0) (v.getD d 0) x r s).2.2.2:=by
 simp only [RO,Agb,AfE,Aga,JJ];rw [BitVec.add_assoc];generalize v.getD a 0+(v.getD b 0+x)=A;rw [getD_set_ne v qJ,CU v ha];generalize Aaq (v.getD d 0 ^^^ A) r=D;rw [getD_set_ne _ (Ne.symm p7),getD_set_ne _ qI,CU _ (by simpa using hd)];generalize v.getD c 0+D=C;rw [getD_set_ne _ (Ne.symm p6),getD_set_ne _ (Ne.symm gr),getD_set_ne _ fM,CU _ (by simpa using hc)];generalize Aaq (v.getD b 0 ^^^ C) s=B;rw [AiX _ _ (Ne.symm p7),AiX _ _ (Ne.symm gr),AiX _ _ (Ne.symm p6)]
theorem AcL(v:List Wd)(a b c d:Nat)(A B C D A2 B2 C2 D2:Wd) :
  ((((((((v.set a A).set b B).set c C).set d D).set a A2).set b B2).set c C2).set d D2)=(((v.set a A2).set b B2).set c C2).set d D2:=by
 apply List.ext_getElem?;intro j;simp only [List.getElem?_set,Aiy]
 grind
theorem Ad8(m:List Wd)(r i:Nat)(v:List Wd)(hv:v.length=16)(hi:i<8) :
  Afw v (JM i 0) (JM i 1) (JM i 2) (JM i 3) (m.getD (ord r (2*i)) 0) (m.getD (ord r (2*i+1)) 0)=V6 m r i v:=by
 obtain⟨fM,qI,qJ,p6,gr,p7⟩:=Agv i hi;have p0:=Gx i hi 0 Omg;have p1:=Gx i hi 1 Omg;have p2:=Gx i hi 2 Omg;have p3:=Gx i hi 3 Omg;simp only [Afw,V6];generalize JM i 0=a at *;generalize JM i 1=b at *;generalize JM i 2=c at *;generalize JM i 3=d at *;rw [Aa9 v a b c d _ 16 12 Omg Omg Omg fM qI qJ p6 gr p7];generalize JJ (v.getD a 0) (v.getD b 0) (v.getD c 0) (v.getD d 0) (m.getD (ord r (2*i)) 0) 16 12=h1;rw [Aa9 _ a b c d _ 8 7 (by simp;omega) (by simp;omega) (by simp;omega) fM qI qJ p6 gr p7];have ea:((((v.set a h1.1).set b h1.2.1).set c h1.2.2.1).set d h1.2.2.2).getD a 0=h1.1:=by
  rw [getD_set_ne _ (Ne.symm qJ),getD_set_ne _ (Ne.symm qI),getD_set_ne _ (Ne.symm fM),CU _ Omg]
 have eb:((((v.set a h1.1).set b h1.2.1).set c h1.2.2.1).set d h1.2.2.2).getD b 0=h1.2.1:=by
  rw [getD_set_ne _ (Ne.symm gr),getD_set_ne _ (Ne.symm p6),CU _ (by simp;omega)]
 have ec:((((v.set a h1.1).set b h1.2.1).set c h1.2.2.1).set d h1.2.2.2).getD c 0=h1.2.2.1:=by
  rw [getD_set_ne _ (Ne.symm p7),CU _ (by simp;omega)]
 have ed:((((v.set a h1.1).set b h1.2.1).set c h1.2.2.1).set d h1.2.2.2).getD d 0=h1.2.2.2:=by
  rw [CU _ (by simp;omega)]
 rw [ea,eb,ec,ed,AcL]
def mA(CA:List UInt8):Nat->List Wd
 | 0=>Aio 16 0
 | i+1=>(mA CA i).set (i / 4) ((mA CA i).getD (i / 4) 0+(byW (CA.getD i 0) <<< (8*(i % 4))))
theorem Ad2(CA:List UInt8):∀ i,(mA CA i).length=16
 | 0=>by simp [mA]
 | i+1=>by simp [mA,Ad2 CA i]
theorem AaQ(c:UInt8)(s:Nat)(hs:s<=24):(byW c <<< s).toNat=2 ^ s*c.toNat:=by
 have h1:=c.toNat_lt;have h2:2 ^ s<=2 ^ 24:=AiL Omg hs;have h3:c.toNat*2 ^ s<=255*2 ^ 24:=Nat.mul_le_mul Omg h2;rw [BitVec.toNat_shiftLeft,Nat.shiftLeft_eq,byW,AiB,AiA (by omega:c.toNat<2 ^ 32),AiA Omg,AiF]
theorem Agr(x:Wd)(c:UInt8)(s:Nat)(hs:s<=24)(hx:x.toNat<2 ^ s):x ||| (byW c <<< s)=x+(byW c <<< s)/\(x ||| (byW c <<< s)).toNat<2 ^ (s+8):=by
 have h1:=c.toNat_lt;have e:=AiP hx c.toNat;have aB:2 ^ s*c.toNat+x.toNat<2 ^ (s+8):=by
  have:2 ^ s*c.toNat<=2 ^ s*255:=Nat.mul_le_mul_left _ Omg;rw [Nat.pow_add];omega
 have yP:2 ^ (s+8)<=2 ^ 32:=AiL Omg Omg;have ho:(x ||| (byW c <<< s)).toNat=2 ^ s*c.toNat+x.toNat:=by
  rw [AiO,AaQ c s hs,e,AiQ]
 refine⟨BitVec.eq_of_toNat_eq ?_,by rw [ho];exact aB⟩;rw [ho,BitVec.toNat_add,AaQ c s hs,AiA Omg,Nat.add_comm]
theorem Ad3(CA:List UInt8):∀ i,i<=64->mA CA i=mO CA i/\(i<64->((mO CA i).getD (i / 4) 0).toNat<2 ^ (8*(i % 4)))/\∀ k,i / 4<k->k<16->(mO CA i).getD k 0=0
 | 0,_=>by
  refine⟨rfl,λ _=>by simp [mO],λ k _ hk=>?_⟩;rw [mO,AiW,List.getElem?_replicate];split <;> rfl
 | i+1,h=>by
  obtain⟨h1,h2,h3⟩:=Ad3 CA i Omg;have hl:=Aaa CA i;obtain⟨e1,e2⟩:=Agr ((mO CA i).getD (i / 4) 0) (CA.getD i 0) (8*(i % 4)) Omg (h2 Omg);refine⟨by rw [mA,mO,h1,e1],λ aB=>?_,λ k hk ay=>?_⟩
  ·rw [mO];by_cases hq:(i+1) % 4=0
   ·rw [getD_set_ne _ Omg,h3 _ Omg Omg,hq];simp
   ·rw [show (i+1) / 4=i / 4 by omega,CU _ Omg,show 8*((i+1) % 4)=8*(i % 4)+8 by omega];exact e2
  ·rw [mO,getD_set_ne _ Omg];exact h3 k Omg ay
theorem Ahf(CA:List UInt8):mA CA 64=mO CA 64:=(Ad3 CA 64 (Nat.le_refl _)).1
def vR(h:List Wd):Nat->List Wd
 | 0=>Aio 16 0
 | i+1=>((vR h i).set i (h.getD i 0)).set (8+i) (BX.getD i 0)
theorem AeO(h:List Wd):∀ i,(vR h i).length=16
 | 0=>by simp [vR]
 | i+1=>by simp [vR,AeO h i]
theorem Ahs(h:List Wd)(hh:h.length=8):vR h 8=vF h 8:=by
 obtain⟨a,b,c,d,e,f,g,k,rfl⟩:∃ a b c d e f g k,h=[a,b,c,d,e,f,g,k]:=by
  match h,hh with
  | [a,b,c,d,e,f,g,k],_=>exact⟨a,b,c,d,e,f,g,k,rfl⟩
 rfl
end Go.Proofs.YtpnaifmmggnimaaGreatDoor
