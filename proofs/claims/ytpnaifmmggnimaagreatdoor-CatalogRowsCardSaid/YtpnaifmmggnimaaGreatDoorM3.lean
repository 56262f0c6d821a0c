/-
  Texts of this claim, laid one behind the other by a program of mine (install.py): Dn.Mem, Dn.Laws, Dn.Str, Dn.Laws2, Dn.Laws3, Dn.Laws4, Dn.Arr, G.Hash1, G.Hash2, Dn.Arr2, G.Hash3, G.Wire, G.Wire2, G.Hash4, G.Hash5, G.Hash6, G.Hash7.
-/
import Derived.Test.YtpnaifmmggnimaaGreatDoorM2
import Derived.Below
import Derived.Laws.MakeOwn
import Derived.Laws.BytesString
import Derived.Laws.NewBlocks
import Derived.Laws.OwnMore
import Derived.Laws.StructEq
import Derived.Laws.Strings2
import Derived.Laws.BytesArg
import Derived.Test.YtpnaifmmggnimaaGreatDoorRead
import Derived.Test.YtpnaifmmggnimaaGreatDoorM1
import Derived.Laws.CopyRow
import Derived.Laws.IdiomCopy
namespace Go.Dn
open _root_.List renaming getElem?_eq_some_iff -> AkN, getElem?_set_ne -> AkQ, getElem?_set_self -> AkP, mem_of_getElem? -> AkM
open _root_.Nat renaming lt_of_lt_of_le -> AkO
set_option linter.unusedVariables false
set_option maxRecDepth 100000
open Go.RowKit (Below)
/-! ## What stays -/
structure Ai(F:Nat->Prop)(w w':World):Prop where
 os:w'.os=w.os
 tape:w'.tape=w.tape
 output:w'.output=w.output
 size:w.heap.size<=w'.heap.size
 block:∀ k,k<w.heap.size->¬ F k->w'.heap[k]?=w.heap[k]?
theorem Ai.refl(F:Nat->Prop)(w:World):Ai F w w:=⟨rfl,rfl,rfl,Nat.le_refl _,λ _ _ _=>rfl⟩
theorem Ai.trans{F G:Nat->Prop}{a b c:World}(h:Ai F a b)(h':Ai G b c)(hs:∀ k,k<a.heap.size->G k->F k):Ai F a c :=
 ⟨h'.os.trans h.os,h'.tape.trans h.tape,h'.output.trans h.output,Nat.le_trans h.size h'.size,
  λ k hk hn=>(h'.block k (AkO hk h.size) λ hg=>hn (hs k hk hg)).trans (h.block k hk hn)⟩
theorem Ai.mono{F G:Nat->Prop}{a b:World}(h:Ai F a b)(hs:∀ k,k<a.heap.size->F k->G k):Ai G a b :=
 ⟨h.os,h.tape,h.output,h.size,λ k hk hn=>h.block k hk λ hf=>hn (hs k hk hf)⟩
theorem Ai.AA{F:Nat->Prop}{a b:World}(h:Below a.heap.size a b):Ai F a b:=⟨h.os,h.tape,h.output,h.size,λ k hk _=>h.block k hk⟩
theorem Ai.below{F:Nat->Prop}{a b:World}{B:Nat}(h:Ai F a b)(hB:B<=a.heap.size)(hs:∀ k,k<B->¬ F k):Below B a b :=
 ⟨h.os,h.tape,h.output,h.size,λ k hk=>h.block k (AkO hk hB) (hs k hk)⟩
theorem Ai.alloc{F:Nat->Prop}{a w:World}(h:Ai F a w)(o:Obj):Ai F a (w.alloc o) :=
 ⟨h.os,h.tape,h.output,Nat.le_trans h.size (by simp),λ k hk hn=>(Below.heap_alloc w o k (AkO hk h.size)).trans (h.block k hk hn)⟩
theorem Ai.drew{F:Nat->Prop}{a w:World}(h:Ai F a w):Ai F a w.drew:=⟨h.os,h.tape,h.output,h.size,h.block⟩
theorem Ai.setCell{F:Nat->Prop}{a w:World}(h:Ai F a w){p:Addr}(hp:F p.block\/a.heap.size<=p.block)(v:Value):Ai F a (w.setCell p v) :=
 ⟨h.os,h.tape,h.output,by simpa using h.size,λ k hk hn=>by
  rw [Below.heap_setCell w p v k (by rintro rfl;rcases hp with hp | hp;exact hn hp;omega)];exact h.block k hk hn⟩
theorem Ai.cell{F:Nat->Prop}{a b:World}(h:Ai F a b){p:Addr}{v:Value}(hc:a.cell? p=some v)(hn:¬ F p.block):b.cell? p=some v :=
 (World.cell?_of_block (w:=a) (h.block p.block (World.block_lt_of_cell? a p hc) hn)).trans hc
theorem Ai.at{F:Nat->Prop}{a b:World}(h:Ai F a b){k:Nat}{o:Obj}(hc:a.heap[k]?=some o)(hn:¬ F k):b.heap[k]?=some o :=
 (h.block k (Array.getElem?_eq_some_iff.1 hc).1 hn).trans hc
/-! ## Known blocks -/
abbrev Y9:=Nat × Array Value × TypeId
structure SH(F:Nat->Prop)(w0 w:World)(H:List Y9):Prop where
 keeps:Ai F w0 w
 mem:∀ x∈H,w.heap[x.1]?=some (.cells x.2.1 x.2.2 (0,0))
 nodup:(H.map (·.1)).Nodup
 own:∀ x∈H,F x.1\/w0.heap.size<=x.1
section
variable {F:Nat->Prop}{w0 w:World}{H:List Y9}
theorem SH.lt(S:SH F w0 w H){x:Y9}(hx:x∈H):x.1<w.heap.size:=(Array.getElem?_eq_some_iff.1 (S.mem x hx)).1
theorem SH.start(F:Nat->Prop)(w:World):SH F w w []:=⟨.refl F w,by simp,by simp,by simp⟩
theorem SH.alloc(S:SH F w0 w H)(cs:Array Value)(t:TypeId):SH F w0 (w.alloc (.cells cs t)) ((w.heap.size,cs,t) :: H) where
 keeps:=S.keeps.alloc _
 mem:=by
  intro x hx;rcases List.mem_cons.1 hx with rfl | hx
  ·exact heap_alloc_new w _
  ·rw [Below.heap_alloc w _ x.1 (S.lt hx)];exact S.mem x hx
 nodup:=by
  simp only [List.map_cons,List.nodup_cons];refine⟨λ hm=>?_,S.nodup⟩;obtain⟨x,hx,he⟩:=List.mem_map.1 hm;have:=S.lt hx;omega
 own:=by
  intro x hx;rcases List.mem_cons.1 hx with rfl | hx
  ·exact .inr S.keeps.size
  ·exact S.own x hx
theorem SH.drew(S:SH F w0 w H):SH F w0 w.drew H:=⟨S.keeps.drew,S.mem,S.nodup,S.own⟩
theorem SH.draw(S:SH F w0 w H){k:World->Prop}(hk:∀ w',SH F w0 w' H->k w'):RR k w:=hk _ S.drew
theorem SH.get(S:SH F w0 w H)(n:Nat){b:Nat}{cs:Array Value}{t:TypeId}(hn:H[n]?=some (b,cs,t)):w.heap[b]?=some (.cells cs t (0,0)) :=
 S.mem _ (AkM hn)
theorem SH.cell(S:SH F w0 w H)(n:Nat){b:Nat}{cs:Array Value}{t:TypeId}(hn:H[n]?=some (b,cs,t)){i:Nat}{v:Value}(hv:cs[i]?=some v):w.cell? ⟨b,i,none⟩=some v:=by
 have:=S.get n hn;simp [World.cell?,this,hv]
theorem SH.free(S:SH F w0 w H)(n:Nat){b:Nat}{cs:Array Value}{t:TypeId}(hn:H[n]?=some (b,cs,t))(i:Nat):w.frozen? ⟨b,i,none⟩=false:=by
 have:=S.get n hn;simp [World.frozen?,this]
theorem ZN{α:Type}{l:List α}(h:l.Nodup){i j:Nat}{x y:α}(hi:l[i]?=some x)(hj:l[j]?=some y)(aQ:i≠j):x≠y:=by
 obtain⟨h1,rfl⟩:=AkN.1 hi;obtain⟨h2,rfl⟩:=AkN.1 hj;intro he;rcases Nat.lt_or_gt_of_ne aQ with aB | aB
 ·exact (List.pairwise_iff_getElem.1 h) i j h1 h2 aB he
 ·exact (List.pairwise_iff_getElem.1 h) j i h2 h1 aB he.symm
theorem SH.setAt(S:SH F w0 w H)(n:Nat){b:Nat}{cs:Array Value}{t:TypeId}(hn:H[n]?=some (b,cs,t)){w':World}{aC:Array Value}(hk:Ai (·=b) w w')
  (hb:w'.heap[b]?=some (.cells aC t (0,0))):SH F w0 w' (H.set n (b,aC,t)) where
 keeps:=S.keeps.trans hk λ k aB he=>by
  subst he;rcases S.own _ (AkM hn) with h | h
  ·exact h
  ·exact absurd aB (Nat.not_lt.2 h)
 mem:=by
  intro x hx;obtain⟨i,hi⟩:=List.mem_iff_getElem?.1 hx;by_cases cD:n=i
  ·subst cD;have aB:=(AkN.1 hn).1;rw [AkP aB] at hi;cases hi;exact hb
  ·rw [AkQ cD] at hi;have aQ:x.1≠b:=by
    refine ZN S.nodup (i:=i) (j:=n) ?_ ?_ (Ne.symm cD)
    ·simp [hi]
    ·simp [hn]
   exact hk.at (S.mem x (AkM hi)) aQ
 nodup:=by
  have:(H.set n (b,aC,t)).map (·.1)=H.map (·.1):=by
   apply List.ext_getElem?;intro i;simp only [List.getElem?_map];by_cases cD:n=i
   ·subst cD;have aB:=(AkN.1 hn).1;rw [AkP aB,hn];rfl
   ·rw [AkQ cD]
  rw [this];exact S.nodup
 own:=by
  intro x hx;obtain⟨i,hi⟩:=List.mem_iff_getElem?.1 hx;by_cases cD:n=i
  ·subst cD;have aB:=(AkN.1 hn).1;rw [AkP aB] at hi;cases hi;exact S.own (b,cs,t) (AkM hn)
  ·rw [AkQ cD] at hi;exact S.own x (AkM hi)
theorem Fm(w:World)(b i:Nat)(v:Value):Ai (·=b) w (w.setCell ⟨b,i,none⟩ v):=Ai.setCell (F:=(·=b)) (Ai.refl _ w) (p:=⟨b,i,none⟩) (.inl rfl) v
theorem Fu{w:World}{b i:Nat}{cs:Array Value}{t:TypeId}{f:Nat × Nat}(h:w.heap[b]?=some (.cells cs t f))(v:Value) :
  (w.setCell ⟨b,i,none⟩ v).heap[b]?=some (.cells (cs.setIfInBounds i v) t f):=by
 simp [World.setCell,Array.getElem?_modify,h]
theorem SH.BR(S:SH F w0 w H)(n:Nat){b:Nat}{cs:Array Value}{t:TypeId}(hn:H[n]?=some (b,cs,t)){i:Nat}{v:Value}{k:World->Prop}(hi:i<cs.size)
  (hk:∀ w',SH F w0 w' (H.set n (b,cs.setIfInBounds i v,t))->k w'):DV ⟨b,i,none⟩ v k w:=by
 refine⟨?_,S.free n hn i,hk _ (S.setAt n hn (Fm w b i v) (Fu (S.get n hn) v))⟩;rw [S.cell n hn (Array.getElem?_eq_getElem hi)];rfl
theorem SH.grown(S:SH F w0 w H){w':World}(h:Below w.heap.size w w'):SH F w0 w' H where
 keeps:=S.keeps.trans (Ai.AA (F:=λ _=>False) h) (by simp)
 mem:=λ x hx=>(h.block x.1 (S.lt hx)).trans (S.mem x hx)
 nodup:=S.nodup
 own:=S.own
theorem SH.kept(S:SH F w0 w H){G:Nat->Prop}{w':World}(h:Ai G w w')(hd:∀ x∈H,¬ G x.1)(hF:∀ k,k<w0.heap.size->G k->F k):SH F w0 w' H where
 keeps:=S.keeps.trans h hF
 mem:=λ x hx=>h.at (S.mem x hx) (hd x hx)
 nodup:=S.nodup
 own:=S.own
theorem SH.drop(S:SH F w0 w H)(n:Nat):SH F w0 w (H.drop n) :=
 ⟨S.keeps,λ x hx=>S.mem x (List.mem_of_mem_drop hx),by rw [List.map_drop];exact S.nodup.sublist (List.drop_sublist _ _),λ x hx=>S.own x (List.mem_of_mem_drop hx)⟩
end
end Go.Dn
namespace Go.Dn
open _root_.Array renaming getElem?_modify -> AkR, length_toList -> AkX, toList_append -> AkV
open _root_.List renaming eq_nil_of_length_eq_zero -> AkT, getElem?_drop -> AkS, take_left -> AkW
open _root_.Nat renaming add_mul -> AkU
set_option linter.unusedVariables false
set_option maxRecDepth 100000
open Go.RowKit (Below)
theorem BK(p:Addr)(x y:Nat):(p.add x).add y=p.add (x+y):=by
 unfold Addr.add;by_cases hx:x=0
 ·subst hx;simp
 ·by_cases hy:y=0
  ·subst hy;simp
  ·simp [hx,hy,Nat.add_assoc]
theorem Db(p:Addr):p.add 0=p:=by simp [Addr.add]
theorem Ax(b i j:Nat):(⟨b,i,none⟩:Addr).add j=⟨b,i+j,none⟩:=by
 unfold Addr.add;by_cases hj:j=0
 ·subst hj;simp
 ·simp [hj]
theorem DI(p:Addr)(x:Nat):(p.add x).block=p.block:=by
 unfold Addr.add;split <;> rfl
def Rd(w:World)(a:Option Addr)(vs:List Value):Prop:=∀ j v,vs[j]?=some v->∃ p,a=some p/\w.cell? (p.add j)=some v
theorem Rd.nil(w:World)(a:Option Addr):Rd w a []:=by intro j v h;simp at h
theorem Rd.keeps{F:Nat->Prop}{w w':World}{a:Option Addr}{vs:List Value}(h:Rd w a vs)(hk:Ai F w w')(hn:∀ p,a=some p->¬ F p.block):Rd w' a vs:=by
 intro j v hv;obtain⟨p,hp,hc⟩:=h j v hv;exact⟨p,hp,hk.cell hc (by rw [DI];exact hn p hp)⟩
theorem Rd.grown{w w':World}{a:Option Addr}{vs:List Value}(h:Rd w a vs)(hk:Below w.heap.size w w'):Rd w' a vs :=
 h.keeps (F:=λ _=>False) (Ai.AA hk) (by simp)
theorem Rd.take{w:World}{a:Option Addr}{vs:List Value}(h:Rd w a vs)(n:Nat):Rd w a (vs.take n):=by
 intro j v hv;rw [List.getElem?_take] at hv;split at hv
 ·exact h j v hv
 ·cases hv
theorem Rd.drop{w:World}{p:Addr}{vs:List Value}(h:Rd w (some p) vs)(n:Nat):Rd w (some (p.add n)) (vs.drop n):=by
 intro j v hv;rw [AkS] at hv;obtain⟨q,hq,hc⟩:=h _ v hv;cases hq;exact⟨_,rfl,by rw [BK];exact hc⟩
theorem Rd.OV{w:World}{a:Option Addr}{vs:List Value}(h:Rd w a vs)(l hh m sz:Nat)(h2:hh<=m):Rd w (Ck a l m sz) ((vs.drop (l*sz)).take ((hh-l)*sz)):=by
 unfold Ck;split
 ·have:hh-l=0:=by omega
  rw [this];simp [Rd]
 ·cases a with
  | none =>
   intro j v hv;rw [List.getElem?_take] at hv;split at hv
   ·rw [AkS] at hv;obtain⟨p,hp,_⟩:=h _ v hv;cases hp
   ·cases hv
  | some p=>exact (h.drop (l*sz)).take _
theorem Rd.Agt{w:World}{b:Nat}{cs:Array Value}{t:TypeId}{f:Nat × Nat}(h:w.heap[b]?=some (.cells cs t f))(i:Nat):Rd w (some ⟨b,i,none⟩) (cs.toList.drop i):=by
 intro j v hv;refine⟨_,rfl,?_⟩;rw [Ax];rw [AkS] at hv;simp [World.cell?,h];simpa using hv
theorem Rd.Ak{w:World}{b:Nat}{cs:Array Value}{t:TypeId}{f:Nat × Nat}(h:w.heap[b]?=some (.cells cs t f)):Rd w (some ⟨b,0,none⟩) cs.toList:=by
 have:=Rd.Agt h 0;simpa using this
def AD(a:Option Addr):Option Nat:=a.map (·.block)
def Row(w:World)(e:TypeId)(sz:Nat)(a:Option Addr)(n c:Nat)(xs:List Value):Prop :=
 xs.length=n*sz/\((a=none/\n=0/\c=0) \/
  ∃ g cur,a=some ⟨g,0,none⟩/\w.heap[g]?=some (.cells cur e (0,0))/\n<=c/\c<=9223372036854775807/\cur.size=c*sz/\cur.toList.take (n*sz)=xs)
theorem Row.nil(w:World)(e:TypeId)(sz:Nat):Row w e sz none 0 0 []:=⟨by simp,.inl ⟨rfl,rfl,rfl⟩⟩
theorem Row.rd{w:World}{e:TypeId}{sz:Nat}{a:Option Addr}{n c:Nat}{xs:List Value}(h:Row w e sz a n c xs):Rd w a xs:=by
 rcases h with ⟨hl,⟨rfl,rfl,rfl⟩ | ⟨g,cur,rfl,hg,_,_,_,rfl⟩⟩
 ·have:xs=[]:=AkT (by simpa using hl);subst this;exact Rd.nil _ _
 ·exact (Rd.Ak hg).take _
theorem Row.le{w:World}{e:TypeId}{sz:Nat}{a:Option Addr}{n c:Nat}{xs:List Value}(h:Row w e sz a n c xs):n<=c:=by
 rcases h with ⟨_,⟨_,rfl,rfl⟩ | ⟨_,_,_,_,h,_⟩⟩
 ·exact Nat.le_refl _
 ·exact h
theorem Row.lt{w:World}{e:TypeId}{sz:Nat}{a:Option Addr}{n c:Nat}{xs:List Value}(h:Row w e sz a n c xs){k:Nat}(hk:AD a=some k):k<w.heap.size:=by
 rcases h with ⟨_,⟨rfl,_⟩ | ⟨g,cur,rfl,hg,_⟩⟩
 ·cases hk
 ·cases hk;exact (Array.getElem?_eq_some_iff.1 hg).1
theorem Row.keeps{F:Nat->Prop}{w w':World}{e:TypeId}{sz:Nat}{a:Option Addr}{n c:Nat}{xs:List Value}(h:Row w e sz a n c xs)(hk:Ai F w w')(hn:∀ k,AD a=some k->¬ F k):Row w' e sz a n c xs:=by
 refine⟨h.1,?_⟩;rcases h.2 with h | ⟨g,cur,rfl,hg,r⟩
 ·exact .inl h
 ·exact .inr ⟨g,cur,rfl,hk.at hg (hn g rfl),r⟩
theorem Row.grown{w w':World}{e:TypeId}{sz:Nat}{a:Option Addr}{n c:Nat}{xs:List Value}(h:Row w e sz a n c xs)(hk:Below w.heap.size w w'):Row w' e sz a n c xs :=
 h.keeps (F:=λ _=>False) (Ai.AA hk) (by simp)
def MN(P:Program)(t:TypeId):Option (TypeId × Nat × Nat × Value) :=
 match P.underlying t with
 | some (.slice e) =>
  (match P.info? e with
  | some i=>(match i.zero with
   | some z=>some (e,i.size,i.bytes,z)
   | none=>none)
  | none=>none)
 | _=>none
theorem Pv{P:Program}{t e:TypeId}{sz by_:Nat}{z:Value}(h:MN P t=some (e,sz,by_,z)):P.underlying t=some (.slice e)/\∃ i,P.info? e=some i/\i.zero=some z/\i.size=sz/\i.bytes=by_:=by
 unfold MN at h;split at h
 ·rename_i e' hu;split at h
  ·rename_i i hi;split at h
   ·rename_i z' hz;simp only [Option.some.injEq,Prod.mk.injEq] at h;obtain⟨rfl,rfl,rfl,rfl⟩:=h;exact⟨hu,i,hi,hz,rfl,rfl⟩
   ·cases h
  ·cases h
 ·cases h
theorem Hd(w:World)(g:Nat)(cs:Array Value):Ai (·=g) w (w.setRow g cs) :=
 ⟨rfl,rfl,rfl,by simp [World.setRow],λ k _ hn=>by simp only [World.setRow,AkR];rw [if_neg (λ h=>hn h.symm)]⟩
theorem Mb{w:World}{g:Nat}{cur cs:Array Value}{t:TypeId}{f:Nat × Nat}(h:w.heap[g]?=some (.cells cur t f)):(w.setRow g cs).heap[g]?=some (.cells cs t f):=by
 simp [World.setRow,AkR,h]
theorem BX{P:Program}{t ty e:TypeId}{sz bytes:Nat}{z:Value}(hT:MN P t=some (e,sz,bytes,z))(hz:z.cells.size=sz)(aw:0<sz)(bh:0<bytes)
  {w:World} {a:Option Addr} {n c:Nat} {xs:List Value} (hr:Row w e sz a n c xs) {b:Option Addr} {m mc:Nat} {news:List Value} (hs:Rd w b news) (hl:news.length=m*sz)
  (h1:∀ u∈news,u.oneCell'=true) (dX:(n+m)*bytes<=140737488355328) :
  ∃ a' c' w',(Builtin.append_ #[t,t] ty #[.slice a n c,.slice b m mc]).run P w=.ok (.slice a' (n+m) c') w'/\Row w' e sz a' (n+m) c' (xs++news) /\
   Ai (λ k=>AD a=some k) w w'/\(∀ k,AD a'=some k->AD a=some k\/w.heap.size<=k):=by
 obtain⟨hu,i,hi,hiz,rfl,rfl⟩:=Pv hT;have cC:n+m<=140737488355328:=Nat.le_trans (Nat.le_mul_of_pos_right _ bh) dX;have hlen:(xs++news).length=(n+m)*i.size:=by rw [List.length_append,hr.1,hl,AkU]
 have grown:∀(old:Nat),old<n+m->Row (w.drew.alloc (.cells (xs.toArray++news.toArray++Builtin.zeroCells z.cells (grownCap w (n+m) old e-(n+m))) e)) e i.size
   (some ⟨w.heap.size,0,none⟩) (n+m) (grownCap w (n+m) old e) (xs++news):=by
  intro old ho;have aJ:=grownCap_ge w (n+m) old e;have iz:grownCap w (n+m) old e<=maxLen:=grownCap_le_maxLen w (n+m) old e (by unfold maxLen;omega);refine⟨hlen,.inr ⟨w.heap.size,_,rfl,heap_alloc_new w.drew _,aJ,by unfold maxLen at iz;omega,?_,?_⟩⟩
  ·simp only [Array.size_append,List.size_toArray,size_zeroCells,hz,hr.1,hl,<- AkU];congr 1;omega
  ·simp only [AkV,List.append_assoc];rw [<- List.append_assoc,<- hlen];exact AkW
 have db:∀(cs:Array Value) (row:Nat->Prop),Ai row w (w.drew.alloc (.cells cs e)):=λ cs row=>(Ai.refl row w).drew.alloc _;have src:0<m->∃ p,b=some p/\∀ j u,news[j]?=some u->w.cell? (p.add j)=some u:=by
  intro hm;have h0:0<news.length:=by rw [hl];exact Nat.mul_pos hm aw
  obtain⟨p,hp,_⟩:=hs 0 news[0] (List.getElem?_eq_getElem h0);refine⟨p,hp,λ j u hu=>?_⟩;obtain⟨q,hq,hc⟩:=hs j u hu;rw [hp] at hq;cases hq;exact hc
 have lF:m=0->news=[]:=λ hm=>AkT (by rw [hl,hm];simp);rcases hr.2 with ⟨rfl,rfl,rfl⟩ | ⟨g,cur,rfl,hg,rB,iz,al,htake⟩
 ·have hx:xs=[]:=AkT (by simpa using hr.1);subst hx;by_cases hm:m=0
  ·have hn:=lF hm;subst hm hn;refine⟨none,0,w,?_,by simpa using Row.nil w e i.size,.refl _ _,by simp [AD]⟩;cases b <;> simp [Builtin.append_,run_underlying hu,sizeOf,typeInfo,hi,Builtin.lenOf,Builtin.firstCells,loadCells,loadCellsFrom]
  ·obtain⟨p,rfl,hp⟩:=src (by omega);have aH:=run_append_nil (P:=P) w t ty e i z hu hi hiz p m mc news hl hp (by omega) (by omega) (by simp only [Nat.zero_add] at dX;omega);have aI:=grown 0 (by omega);simp only [Nat.zero_add] at aI aH ⊢;refine⟨_,_,_,aH,?_,db _ _,λ k hk=>.inr ?_⟩
   ·simpa using aI
   ·simp [AD] at hk;omega
 ·by_cases eC:n+m<=c
  ·by_cases hm:m=0
   ·have hn:=lF hm;subst hm hn;refine⟨some ⟨g,0,none⟩,c,w,?_,by simpa using hr,.refl _ _,λ k hk=>.inl hk⟩;cases b <;> simp [Builtin.append_,run_underlying hu,sizeOf,typeInfo,hi,Builtin.lenOf,Builtin.firstCells,loadCells,loadCellsFrom,rB,storeCells]
   ·obtain⟨p,rfl,hp⟩:=src (by omega);have cY:n*i.size+news.length<=cur.size:=by rw [hl,al,<- AkU];exact Nat.mul_le_mul_right _ eC
    have aH:=run_append_room (P:=P) w t ty e i hu hi g n c cur hg p m mc news hl hp h1 eC cY;have ct:(List.take (n*i.size) cur.toList)=xs:=htake;refine⟨_,_,_,aH,⟨hlen,.inr ⟨g,_,rfl,Mb hg,eC,iz,?_,?_⟩⟩,(Hd w g _).mono (λ k _ h=>by subst h;rfl),λ k hk=>.inl hk⟩
    ·simp only [List.size_toArray,List.length_append,List.length_take,List.length_drop,AkX];omega
    ·rw [ct];rw [<- hlen];exact AkW
  ·obtain⟨p,rfl,hp⟩:=src (by omega);have hold:∀ j v,xs[j]?=some v->w.cell? ((⟨g,0,none⟩:Addr).add j)=some v:=by
    intro j v hv;obtain⟨q,hq,hc⟩:=hr.rd j v hv;cases hq;exact hc
   have aH:=run_append_grow (P:=P) w t ty e i z hu hi hiz ⟨g,0,none⟩ n c xs hr.1 hold p m mc news hl hp (by omega) (by omega) (growslice_fits (by omega) dX);refine⟨_,_,_,aH,grown c (by omega),db _ _,λ k hk=>.inr ?_⟩;simp [AD] at hk;omega
def bl(s:ByteArray):List UInt8:=s.data.toList
def BC(l:List UInt8):ByteArray:=⟨l.toArray⟩
def Ag(c:UInt8):Value:=.int .u8 (c.toNat:Int)
theorem BP(l:List UInt8):bl (BC l)=l:=by simp [bl,BC]
theorem EI(s:ByteArray):BC (bl s)=s:=by cases s;simp [bl,BC]
theorem A9(s:ByteArray):(bl s).length=s.size:=AkX
theorem AY(l:List UInt8):(BC l).size=l.length:=by simp [BC,ByteArray.size]
theorem Rn{s t:ByteArray}(h:bl s=bl t):s=t:=by rw [<- EI s,<- EI t,h]
theorem extract_eq(s:ByteArray)(a b:Nat):s.extract a b=BC (((bl s).drop a).take (b-a)):=by
 have h:=ByteArray.extract_mk (bl s) a b;have e:(ByteArray.mk (bl s).toArray)=s:=EI s;rw [e] at h;exact h
theorem AZ(a b:ByteArray):Bh a b=decide (a=b):=by
 unfold Bh;rw [ByteArray.toList_eq,ByteArray.toList_eq];have:(a=b)↔a.data.toList=b.data.toList:=⟨λ h=>by rw [h],λ h=>Rn h⟩;rw [Bool.eq_iff_iff];simp [this]
theorem Ads(a b:ByteArray):(a==b)=decide (a=b):=by
 rw [beq_toListBytes];exact AZ a b
theorem Mv(s:ByteArray)(i:Nat):Ay s i=(bl s).getD i 0:=rfl
theorem Xb(c:UInt8):(Ag c).oneCell'=true:=rfl
def UT(P:Program)(st bt:TypeId):Bool :=
 match P.underlying st,P.underlying bt with
 | some .string,some (.slice e)=>(match P.underlying e with
  | some (.int .u8)=>true
  | _=>false)
 | _,_=>false
theorem Vj{P:Program}{st bt:TypeId}(h:UT P st bt=true):P.underlying st=some .string/\∃ e,P.underlying bt=some (.slice e)/\P.underlying e=some (.int .u8):=by
 unfold UT at h;split at h
 ·rename_i e hs hb;split at h
  ·rename_i he;exact⟨hs,e,hb,he⟩
  ·cases h
 ·cases h
theorem Pg(F:Nat->Prop)(w:World)(p:Addr)(n:Nat)(hp:F p.block):Ai F w (w.freeze p n):=by
 unfold World.freeze;split
 ·exact .refl _ _
 ·refine⟨rfl,rfl,rfl,by simp,λ k _ hn=>?_⟩;simp only [AkR];rw [if_neg (λ h=>hn (by rw [<- h];exact hp))]
theorem CF{P:Program}{st bt:TypeId}(hT:UT P st bt=true)(s:ByteArray)(w:World){f:Value->World->Prop}
  (hf:∀(b c:Nat) (cs:Array Value) (e:TypeId) (w':World),b=w.heap.size->Below w.heap.size w w'->w'.heap[b]?=some (.cells cs e (cs.size,cs.size+1))->cs.size=c->s.size<=c ->
   cs.toList.take s.size=(bl s).map Ag->f (.slice (some ⟨b,0,none⟩) s.size c) w'):DE P (convert st bt (.string s)) f w:=by
 obtain⟨hs,e,hb,he⟩:=Vj hT;let cap:=grownCap w s.size 0 e;let cs:Array Value:=(s.data.map λ b=>Value.int .u8 b.toNat)++Array.replicate (cap-s.size) (.int .u8 0);have aJ:s.size<=cap:=grownCap_ge w s.size 0 e;have aw:cs.size=cap:=by
  have:s.data.size=s.size:=rfl;simp [cs,this];omega
 let w1:World:=w.drew.alloc (.cells cs e);have xX:w1.heap[w.heap.size]?=some (.cells cs e (0,0)):=heap_alloc_new w.drew _;have fo:w1.shape? w.heap.size=some (e,cs.size):=by simp [World.shape?,xX]
 have aH:(convert st bt (.string s)).run P w=.ok (.slice (some ⟨w.heap.size,0,none⟩) s.size cap) (w1.freeze ⟨w.heap.size,cs.size,none⟩ 1):=by
  have hq:(Question.appendCap s.size 0 e).forced=false:=rfl;have bE:(newRow e cs).run P w.drew=.ok ⟨w.heap.size,0,none⟩ w1:=rfl;have du:(choose (.appendCap s.size 0 e)).run P w=.ok cap w.drew:=by
   rw [run_choose];simp [hq,cap,grownCap]
  have jg:(markStringish ⟨w.heap.size,0,none⟩).run P w1=.ok () (w1.freeze ⟨w.heap.size,cs.size,none⟩ 1):=by
   simp [markStringish,fo]
  simp only [convert,Sem.run_bind,run_underlying hs,run_underlying hb,run_underlying he,Result.andThen_ok,Conv.stringToBytes,du,Sem.run_pure];simp only [cs] at bE;rw [bE];simp only [Result.andThen_ok,jg]
 unfold DE;rw [aH];have pZ:(w1.freeze ⟨w.heap.size,cs.size,none⟩ 1).heap[w.heap.size]?=some (.cells cs e (cs.size,cs.size+1)):=by
  unfold World.freeze;simp [AkR,xX]
 refine hf _ _ cs e _ rfl ?_ pZ aw aJ ?_
 ·have h1:Ai (λ k=>k=w.heap.size) w w1:=(Ai.refl _ w).drew.alloc _;have h2:=Pg (λ k=>k=w.heap.size) w1 ⟨w.heap.size,cs.size,none⟩ 1 rfl;exact (h1.trans h2 (λ _ _ h=>h)).below (Nat.le_refl _) (λ k hk he=>by omega)
 ·have hl:s.size=((s.data.map λ b=>Value.int .u8 b.toNat)).toList.length:=by rw [AkX,Array.size_map];rfl
  simp only [cs,AkV];rw [hl,AkW];simp [bl,Ag]
theorem Ab2(l:List UInt8):(l.map λ c=>((c.toNat:Nat):Int)).foldl (λ r n=>r.push (UInt8.ofNat n.toNat)) ByteArray.empty=BC l:=by
 rw [foldl_push_bytes];apply Rn;rw [BP];show (ByteArray.empty.data++_).toList=l;have h0:ByteArray.empty.data.toList=[]:=rfl;rw [AkV,h0,List.nil_append,List.map_map,List.toList_toArray];have:((λ n:Int=>UInt8.ofNat n.toNat) ∘ λ c:UInt8=>((c.toNat:Nat):Int))=id:=by
  funext c;simp
 rw [this,List.map_id]
theorem Aw{P:Program}{st bt:TypeId}(hT:UT P st bt=true){w:World}{a:Option Addr}{l:List UInt8}{n c:Nat}(hn:n=l.length)(hr:Rd w a (l.map Ag)){f:Value->World->Prop}
  (hf:f (.string (BC l)) w):DE P (convert bt st (.slice a n c)) f w:=by
 obtain⟨hs,e,hb,he⟩:=Vj hT;unfold DE;rw [run_convert_bytes_string w bt st e a n c hb he hs];cases a with
 | none =>
  have hl:l=[]:=by
   cases l with
   | nil=>rfl
   | cons x r =>
    obtain⟨p,hp,_⟩:=hr 0 (Ag x) (by simp);cases hp
  subst hl;have:BC []=ByteArray.empty:=rfl;rw [this] at hf;simpa [Conv.bytesToString] using hf
 | some p =>
  have yh:(loadCells p n).run P w=.ok ((l.map λ c=>((c.toNat:Nat):Int)).map (Value.int .u8)).toArray w:=by
   have:=run_loadCells_list (P:=P) w p (l.map Ag) (λ j v hv=>by
    obtain⟨q,hq,hc⟩:=hr j v hv;cases hq;exact hc)
   rw [List.length_map,<- hn] at this;rw [this];congr 1;simp [Ag,Function.comp_def]
  rw [run_bytesToString w p n c _ yh,Ab2];exact hf
end Go.Dn
namespace Go.Dn
open Go.RowKit (Below)
theorem SH.below{w0 w:World}{H:List Y9}(S:SH (λ _=>False) w0 w H):Below w0.heap.size w0 w:=S.keeps.below (Nat.le_refl _) (by simp)
end Go.Dn
namespace Go.Dn
open _root_.Array renaming ext' -> AkF
open _root_.List renaming append_assoc -> Ak2, length_append -> Ak1, length_cons -> Ak3, replicate -> AkZ, set_set -> Ak0
open _root_.Nat renaming le_refl -> AkY
open Go.RowKit (Below)
section
variable {F:Nat->Prop}{w0 w:World}{H:List Y9}
theorem SH.An(S:SH F w0 w H){cs:Array Value}{t:TypeId}{k:Nat->World->Prop}(hk:∀ b w',w.heap.size<=b->Below w.heap.size w w'->SH F w0 w' ((b,cs,t) :: H)->k b w'):DT cs t k w :=
 hk _ _ (AkY _) ((Below.refl _ w).alloc (AkY _) _) (S.alloc cs t)
theorem SH.E9(S:SH F w0 w H){k:World->Prop}(hk:∀ w',Below w.heap.size w w'->SH F w0 w' H->k w'):RR k w:=hk _ ((Below.refl _ w).drew) S.drew
theorem SH.ZR(S:SH F w0 w H)(n:Nat){b:Nat}{cs:Array Value}{t:TypeId}(hn:H[n]?=some (b,cs,t)){i:Nat}{v:Value}{k:World->Prop}(hi:i<cs.size)
  (hk:∀ w',Ai (·=b) w w'->SH F w0 w' (H.set n (b,cs.setIfInBounds i v,t))->k w'):DV ⟨b,i,none⟩ v k w:=by
 refine⟨?_,S.free n hn i,hk _ (Fm w b i v) (S.setAt n hn (Fm w b i v) (Fu (S.get n hn) v))⟩;rw [S.cell n hn (Array.getElem?_eq_getElem hi)];rfl
theorem SH.AiB(S:SH F w0 w H)(n:Nat){b:Nat}{x0 x1 x2 v0 v1 v2:Value}{t:TypeId}(hn:H[n]?=some (b,#[x0,x1,x2],t)){k:World->Prop}
  (hk:∀ w',Ai (·=b) w w'->SH F w0 w' (H.set n (b,#[v0,v1,v2],t))->k w'):DV ⟨b,0,none⟩ v0 (λ w=>DV ⟨b,1,none⟩ v1 (λ w=>DV ⟨b,2,none⟩ v2 k w) w) w:=by
 have aB:=(List.getElem?_eq_some_iff.1 hn).1;refine S.ZR n hn (by simp) λ w1 K1 S1=>S1.ZR n (List.getElem?_set_self aB) (by simp) λ w2 K2 S2=>S2.ZR n (cs:=#[v0,v1,x2]) (t:=t) ?_ (by simp) λ w3 K3 S3=>hk w3 ((K1.trans K2 (λ _ _ h=>h)).trans K3 (λ _ _ h=>h)) ?_
 ·rw [Ak0,List.getElem?_set_self aB];rfl
 ·have e:((H.set n (b,#[x0,x1,x2].setIfInBounds 0 v0,t)).set n (b,(#[x0,x1,x2].setIfInBounds 0 v0).setIfInBounds 1 v1,t)).set n (b,#[v0,v1,x2].setIfInBounds 2 v2,t)=H.set n (b,#[v0,v1,v2],t):=by
   rw [Ak0,Ak0];rfl
  rw [<- e];exact S3
theorem SH.ne(S:SH F w0 w H)(i j:Nat){x y:Y9}(hi:H[i]?=some x)(hj:H[j]?=some y)(aQ:i≠j):x.1≠y.1 :=
 ZN S.nodup (by simp [hi]) (by simp [hj]) aQ
end
theorem Mc(z:Array Value)(n:Nat):(madeCells z n).size=n:=by simp [madeCells]
theorem Ej(z:Value)(h:z.cells=#[z])(n:Nat):(madeCells z.cells n).toList=AkZ n z:=by
 rw [h];apply List.ext_getElem
 ·simp [madeCells]
 ·intro i h1 h2;simp [madeCells,Nat.mod_one]
theorem Ea{P:Program}{t e:TypeId}{sz bytes:Nat}{z:Value}(hT:MN P t=some (e,sz,bytes,z)){w:World}{l c:Int}(h0:0<=l)(hlc:l<=c)(hb:(bytes:Int)*c<=281474976710656)(hc:c<=9223372036854775807)
  {f:Value->World->Prop} {kl kc:IntKind} (hf:∀ b w',w.heap.size<=b->Below w.heap.size w w'->w'.heap[b]?=some (.cells (madeCells z.cells (c.toNat*sz)) e (0,0))->f (.slice (some ⟨b,0,none⟩) l.toNat c.toNat) w') :
  DE P (Instr.makeSlice t (.int kl l) (.int kc c)) f w:=by
 obtain⟨hu,i,hi,hiz,rfl,rfl⟩:=Pv hT;unfold DE;rw [run_make w t e i z hu hi hiz kl kc l c h0 hlc hb hc];exact hf _ _ (AkY _) ((Below.refl _ w).alloc (AkY _) _) (heap_alloc_new w _)
theorem Hx{P:Program}{t e:TypeId}{sz bytes:Nat}{z:Value}(hT:MN P t=some (e,sz,bytes,z)){w:World}{c:Nat}(hb:bytes*c<=281474976710656)(hc:c<=9223372036854775807)
  {f:Value->World->Prop} {kl kc:IntKind} (hf:∀ b w',w.heap.size<=b->Below w.heap.size w w'->Row w' e sz (some ⟨b,0,none⟩) 0 c []->f (.slice (some ⟨b,0,none⟩) 0 c) w') :
  DE P (Instr.makeSlice t (.int kl 0) (.int kc (c:Int))) f w:=by
 refine Ea hT (l:=0) (c:=(c:Int)) (by omega) (by omega) ?_ (by omega) λ b w' h1 h2 h3=>?_
 ·rw [<- Int.natCast_mul];omega
 ·rw [Int.toNat_natCast] at h3 ⊢;exact hf b w' h1 h2 ⟨by simp,.inr ⟨b,_,rfl,h3,by omega,hc,by rw [Mc],by simp⟩⟩
theorem EO{w:World}{b:Nat}{cs:Array Value}{t:TypeId}(hb:w.heap[b]?=some (.cells cs t (0,0))){i:Nat}{v:Value}{k:World->Prop}(hi:i<cs.size)
  (hk:∀ w',Ai (·=b) w w'->w'.heap[b]?=some (.cells (cs.setIfInBounds i v) t (0,0))->k w'):DV ⟨b,i,none⟩ v k w:=by
 refine⟨?_,?_,hk _ (Fm w b i v) (Fu hb v)⟩
 ·simp [World.cell?,hb,hi]
 ·simp [World.frozen?,hb]
section
variable {F:Nat->Prop}{w0 w:World}{H:List Y9}
theorem SH.Iz(S:SH F w0 w H){z0 z1 z2 v0 v1 v2:Value}{t:TypeId}{k:Nat->World->Prop}(hk:∀ b w',w.heap.size<=b->Below w.heap.size w w'->SH F w0 w' ((b,#[v0,v1,v2],t) :: H)->k b w') :
  DT #[z0,z1,z2] t (λ b w=>DV ⟨b,0,none⟩ v0 (λ w=>DV ⟨b,1,none⟩ v1 (λ w=>DV ⟨b,2,none⟩ v2 (λ w=>k b w) w) w) w) w:=by
 refine S.An λ b w1 hb B1 S1=>S1.AiB 0 rfl λ w2 K2 S2=>hk b w2 hb (B1.trans (K2.below B1.size λ k hk he=>by omega)) S2
end
theorem JP{P:Program}{w:World}(s:ByteArray):(Builtin.firstCells 1 s.size (.string s)).run P w=.ok ((bl s).map Ag).toArray w:=by
 simp only [Builtin.firstCells,Sem.run_pure];congr 1;apply AkF;have:s.extract 0 s.size=s:=by rw [extract_eq];apply Rn;rw [BP,List.drop_zero,Nat.sub_zero,List.take_of_length_le (by rw [A9];omega)]
 rw [this];simp [bl,Ag]
theorem VZ{P:Program}{t u ty e:TypeId}{bytes:Nat}{z:Value}(hT:MN P t=some (e,1,bytes,z))(iN:P.underlying u=some .string)(hz:z.cells.size=1)(bh:0<bytes)
  {w:World} {a:Option Addr} {n c:Nat} {xs:List Value} (hr:Row w e 1 a n c xs) (s:ByteArray) (dX:(n+s.size)*bytes<=140737488355328) :
  ∃ a' c' w',(Builtin.append_ #[t,u] ty #[.slice a n c,.string s]).run P w=.ok (.slice a' (n+s.size) c') w'/\Row w' e 1 a' (n+s.size) c' (xs++(bl s).map Ag) /\
   Ai (λ k=>AD a=some k) w w'/\(∀ k,AD a'=some k->AD a=some k\/w.heap.size<=k):=by
 obtain⟨hu,i,hi,hiz,dS,rfl⟩:=Pv hT;have cC:n+s.size<=140737488355328:=Nat.le_trans (Nat.le_mul_of_pos_right _ bh) dX;have hl:((bl s).map Ag).length=s.size:=by rw [List.length_map,A9]
 have hlen:(xs++(bl s).map Ag).length=(n+s.size)*1:=by rw [Ak1,hr.1,hl];omega
 have h1:∀ u∈(bl s).map Ag,u.oneCell'=true:=by
  intro u hu;obtain⟨c,_,rfl⟩:=List.mem_map.1 hu;exact Xb c
 have grown:∀(old:Nat),old<n+s.size->Row (w.drew.alloc (.cells (xs.toArray++((bl s).map Ag).toArray++Builtin.zeroCells z.cells (grownCap w (n+s.size) old e-(n+s.size))) e)) e 1
   (some ⟨w.heap.size,0,none⟩) (n+s.size) (grownCap w (n+s.size) old e) (xs++(bl s).map Ag):=by
  intro old ho;have aJ:=grownCap_ge w (n+s.size) old e;have iz:grownCap w (n+s.size) old e<=maxLen:=grownCap_le_maxLen w (n+s.size) old e (by unfold maxLen;omega);refine⟨hlen,.inr ⟨w.heap.size,_,rfl,heap_alloc_new w.drew _,aJ,by unfold maxLen at iz;omega,?_,?_⟩⟩
  ·simp only [Array.size_append,List.size_toArray,size_zeroCells,hz,hr.1,hl];omega
  ·simp only [Array.toList_append,Ak2];rw [<- Ak2,<- hlen];exact List.take_left
 have db:∀(cs:Array Value) (row:Nat->Prop),Ai row w (w.drew.alloc (.cells cs e)):=λ cs row=>(Ai.refl row w).drew.alloc _;have grow:∀(old:Nat) (m5:Value),(∀ w',w'.heap=w.heap->(Builtin.firstCells 1 n m5).run P w'=.ok xs.toArray w')->old<n+s.size->(∃ b0,m5=.slice b0 n old) ->
   (Builtin.append_ #[t,u] ty #[m5,.string s]).run P w=.ok (.slice (some ⟨w.heap.size,0,none⟩) (n+s.size) (grownCap w (n+s.size) old e))
    (w.drew.alloc (.cells (xs.toArray++((bl s).map Ag).toArray++Builtin.zeroCells z.cells (grownCap w (n+s.size) old e-(n+s.size))) e)):=by
  rintro old _ hf ho ⟨b0,rfl⟩;have hn:¬ (n+s.size<=old):=by omega
  have wZ:¬ (9223372036854775807<((n:Int)+(s.size:Int))):=by omega
  have sR:¬ (281474976710656<Builtin.nextslicecap (n+s.size) old*i.bytes):=by have:=growslice_fits (old:=old) (need:=n+s.size) ho dX;omega
  have zZ:=hf w.drew rfl;simp [Builtin.append_,run_underlying hu,run_underlying iN,sizeOf,typeInfo,zeroValue,hi,hiz,dS,Builtin.lenOf,hn,wZ,sR,Question.forced,zZ,JP,newRow,grownCap];congr 2;apply AkF;simp [Ak2]
 rcases hr.2 with ⟨rfl,rfl,rfl⟩ | ⟨g,cur,rfl,hg,rB,iz,al,htake⟩
 ·have hx:xs=[]:=List.eq_nil_of_length_eq_zero (by simpa using hr.1);subst hx;by_cases hm:s.size=0
  ·have hn:(bl s).map Ag=[]:=List.eq_nil_of_length_eq_zero (by rw [hl,hm]);refine⟨none,0,w,?_,by rw [hm,hn];exact Row.nil w e 1,.refl _ _,by simp [AD]⟩;have:=JP (P:=P) (w:=w) s;rw [hm] at this;simp [Builtin.append_,run_underlying hu,run_underlying iN,sizeOf,typeInfo,hi,dS,Builtin.lenOf,hm,this]
  ·exact⟨_,_,_,grow 0 (.slice none 0 0) (λ w' _=>by simp [Builtin.firstCells]) (by omega) ⟨_,rfl⟩,grown 0 (by omega),db _ _,λ k hk=>.inr (by simp [AD] at hk;omega)⟩
 ·by_cases eC:n+s.size<=c
  ·have cY:n+((bl s).map Ag).length<=cur.size:=by rw [hl,al];omega
   have aA:=run_storeCells_at P g n e ((bl s).map Ag) 0 cur w hg (by simpa using cY) h1;simp only [Nat.add_zero] at aA;refine⟨some ⟨g,0,none⟩,c,_,?_,⟨hlen,.inr ⟨g,_,rfl,Mb hg,eC,iz,?_,?_⟩⟩,(Hd w g (cur.toList.take n++(bl s).map Ag++cur.toList.drop (n+((bl s).map Ag).length)).toArray).mono (λ k _ h=>by subst h;rfl),λ k hk=>.inl hk⟩
   ·simp [Builtin.append_,run_underlying hu,run_underlying iN,sizeOf,typeInfo,hi,dS,Builtin.lenOf,eC,JP,Addr.add_lit];rw [aA];simp
   ·simp only [List.size_toArray,Ak1,List.length_take,List.length_drop,Array.length_toList];omega
   ·have ct:cur.toList.take n=xs:=by rw [<- htake];simp
    rw [ct,<- hlen];exact List.take_left
  ·have hold:∀ w',w'.heap=w.heap->(Builtin.firstCells 1 n (.slice (some ⟨g,0,none⟩) n c)).run P w'=.ok xs.toArray w':=by
    intro w' kt;refine run_firstCells_some (P:=P) w' 1 n ⟨g,0,none⟩ n c xs hr.1 λ j v hv=>?_;obtain⟨q,hq,hc⟩:=hr.rd j v hv;cases hq;have:w'.cell? ((⟨g,0,none⟩:Addr).add j)=w.cell? ((⟨g,0,none⟩:Addr).add j):=by unfold World.cell?;rw [kt]
    rw [this];exact hc
   exact⟨_,_,_,grow c _ hold (by omega) ⟨_,rfl⟩,grown c (by omega),db _ _,λ k hk=>.inr (by simp [AD] at hk;omega)⟩
theorem Qo{P:Program}{t u ty e:TypeId}{sz bytes:Nat}{z:Value}(hT:MN P t=some (e,sz,bytes,z))(iN:P.underlying u=some (.int .i64))(hz:z.cells.size=sz)(aw:0<sz)(bh:0<bytes)
  {w:World} {m:Nat} (hm:0<m) (dX:m*bytes<=140737488355328) :
  ∃ c' w',(Builtin.append_ #[t,u] ty #[.slice none 0 0,.int .i64 (m:Int)]).run P w=.ok (.slice (some ⟨w.heap.size,0,none⟩) m c') w'/\Row w' e sz (some ⟨w.heap.size,0,none⟩) 0 c' []/\m<=c'/\Below w.heap.size w w':=by
 obtain⟨hu,i,hi,hiz,rfl,rfl⟩:=Pv hT;have cC:m<=140737488355328:=Nat.le_trans (Nat.le_mul_of_pos_right _ bh) dX;have aJ:=grownCap_ge w m 0 e;have iz:grownCap w m 0 e<=maxLen:=grownCap_le_maxLen w m 0 e (by unfold maxLen;omega);have hw:IntKind.i64.wrap (m:Int)=m:=by rw [IntKind.wrap_i64];omega
 have h1:¬ ((m:Int)<0):=by omega
 have h2:¬ (281474976710656<(m:Int)*(i.bytes:Int)):=by rw [<- Int.natCast_mul];omega
 have h3:¬ (m*i.size=0):=by have:=Nat.mul_pos hm aw;omega
 have h4:¬ (m<=0):=by omega
 have h5:¬ (9223372036854775807<(m:Int)):=by omega
 have h6:¬ (281474976710656<Builtin.nextslicecap m 0*i.bytes):=by rw [nextslicecap_zero hm];omega
 have h7:¬ (m=0):=by omega
 have h8:¬ (i.size=0):=by omega
 refine⟨grownCap w m 0 e,w.drew.alloc (.cells (Builtin.zeroCells z.cells m++Builtin.zeroCells z.cells (grownCap w m 0 e-m)) e),?_,?_,aJ,((Below.refl _ w).drew).alloc (AkY _) _⟩
 ·simp [Builtin.append_,run_underlying hu,run_underlying iN,sizeOf,typeInfo,zeroValue,hi,hiz,asInt,asIntOf,hw,h1,h2,h5,h6,h7,Question.forced,Builtin.firstCells,newRow,grownCap];intro h;exact absurd h h3
 ·refine⟨by simp,.inr ⟨w.heap.size,_,rfl,heap_alloc_new w.drew _,by omega,by unfold maxLen at iz;omega,?_,by simp⟩⟩;rw [Array.size_append,size_zeroCells,size_zeroCells,hz,<- Nat.add_mul];congr 1;omega
theorem JA(kd:IntKind):∀(us:List Int) {n:Nat} {f:List Value->Prop},us.length=n->f (us.map (.int kd))->FD (AkZ n (.int kd 0)) f
 | [],_,_,hn,h=>by subst hn;exact h
 | u :: us,_,_,hn,h=>by subst hn;exact⟨u,JA kd us rfl h⟩
theorem Ut(kd:IntKind):∀(us:List Int) {n:Nat} {a:Addr} {i:Nat} {k:List Value->Prop} {w:World},us.length=n->(∀ j u,us[j]?=some u->w.cell? (a.add (i+j))=some (.int kd u)) ->
  k (us.map (.int kd))->C8 (AkZ n (.int kd 0)) a i k w
 | [],_,_,_,_,_,hn,_,h=>by subst hn;exact h
 | u :: us,_,a,i,k,w,hn,hc,h=>by
  subst hn;exact⟨u,hc 0 u rfl,Ut kd us rfl (λ j x hj=>by have:=hc (j+1) x (by simpa using hj);rwa [show i+(j+1)=i+1+j by omega] at this) h⟩
theorem PY(kd:IntKind)(us:List Int){n:Nat}{a:Addr}{k:List Value->Prop}{w:World}(hn:us.length=n)(hr:Rd w (some a) (us.map (.int kd)))(h:k (us.map (.int kd))) :
  C8 (AkZ n (.int kd 0)) a 0 k w :=
 Ut kd us hn (λ j u hj=>by
  obtain⟨p,hp,hc⟩:=hr j (.int kd u) (by simp [hj]);cases hp;simpa using hc) h
def QI:Array Value->Nat->List Value->Array Value
 | cs,_,[]=>cs
 | cs,i,v :: vs=>QI (cs.setIfInBounds i v) (i+1) vs
theorem Nh:∀(vs:List Value) (cs:Array Value) (i:Nat),i+vs.length<=cs.size->(QI cs i vs).toList=cs.toList.take i++vs++cs.toList.drop (i+vs.length)
 | [],cs,i,_=>by simp [QI]
 | v :: vs,cs,i,h=>by
  simp only [Ak3] at h;rw [QI,Nh vs _ _ (by simp;omega)];apply List.ext_getElem?;intro j;simp only [Array.toList_setIfInBounds,Ak3,List.getElem?_append,Ak1,List.length_take,List.length_set,Array.length_toList,List.getElem?_take,List.getElem?_drop]
  grind
theorem T9(vs:List Value)(cs:Array Value)(h:vs.length=cs.size):QI cs 0 vs=⟨vs⟩:=by
 apply AkF;rw [Nh vs cs 0 (by omega)];simp [h]
theorem Oo:∀(vs:List Value) {w:World} {b:Nat} {cs:Array Value} {t:TypeId} {i:Nat} {k:World->Prop},w.heap[b]?=some (.cells cs t (0,0))->i+vs.length<=cs.size->(∀ v∈vs,v.oneCell'=true) ->
  (∀ w',Ai (·=b) w w'->w'.heap[b]?=some (.cells (QI cs i vs) t (0,0))->k w')->CU vs ⟨b,0,none⟩ i k w
 | [],w,_,_,_,_,_,hb,_,_,hk=>hk w (.refl _ w) hb
 | v :: vs,w,b,cs,t,i,k,hb,hi,h1,hk=>by
  simp only [Ak3] at hi;unfold CU;rw [h1 v (by simp),Ax,Nat.zero_add];exact EO hb (by omega) λ w1 K1 cJ=>Oo vs cJ (by simp;omega) (λ x hx=>h1 x (by simp [hx])) λ w2 K2 dC=>hk w2 (K1.trans K2 (λ _ _ h=>h)) dC
theorem SH.En{F:Nat->Prop}{w0 w:World}{H:List Y9}(S:SH F w0 w H)(n:Nat){b:Nat}{cs:Array Value}{t:TypeId}(hn:H[n]?=some (b,cs,t)){vs:List Value}(hl:vs.length=cs.size)(h1:∀ v∈vs,v.oneCell'=true)
  {k:World->Prop} (hk:∀ w',Ai (·=b) w w'->SH F w0 w' (H.set n (b,⟨vs⟩,t))->k w'):CU vs ⟨b,0,none⟩ 0 k w :=
 Oo vs (S.get n hn) (by omega) h1 λ w' K hb=>hk w' K (S.setAt n hn K (by rw [T9 vs cs hl] at hb;exact hb))
theorem Vs(kd:IntKind)(us:List Int):∀ v∈us.map (Value.int kd),v.oneCell'=true:=by
 intro v hv;obtain⟨u,_,rfl⟩:=List.mem_map.1 hv;rfl
end Go.Dn
namespace Go.Proofs.YtpnaifmmggnimaaGreatDoor
open _root_.BitVec renaming ofInt -> AkA
open _root_.Int renaming toNat_natCast -> Ak4
open _root_.Nat renaming min_eq_left -> Ak5
set_option maxRecDepth 100000
open Go.Dn Go.Proofs
set_option linter.unusedVariables false
abbrev Wd:=BitVec 32
def wI(x:Wd):Int:=(x.toNat:Int)
def Acb(x:Wd)(r:Nat):Wd:=(x >>> r) ||| (x <<< (32-r))
theorem AdB(x:Wd)(k:Nat):AkA 32 (IntKind.u32.wrap ((x.toNat:Int)*2 ^ k))=x <<< k:=by
 rw [Cw];apply BitVec.eq_of_toNat_eq;rw [BitVec.toNat_ofInt,BitVec.toNat_shiftLeft,Nat.shiftLeft_eq];have:((x.toNat:Int)*2 ^ k)=((x.toNat*2 ^ k:Nat):Int):=by simp
 rw [this];omega
theorem AiC(x:Wd)(k:Nat):AkA 32 (Int.fdiv (x.toNat:Int) (2 ^ k))=x >>> k:=by
 rw [J0,Bo]
theorem Nn(x y:Wd):IntKind.u32.wrap ((x.toNat:Int)+(y.toNat:Int))=((x+y).toNat:Int):=by
 rw [wrap_u32,BitVec.toNat_add];omega
theorem Np(x y:Wd):IntKind.u32.wrap (((AkA 32 (x.toNat:Int) ^^^ AkA 32 (y.toNat:Int)).toNat:Int))=((x ^^^ y).toNat:Int):=by
 rw [Bo,Bo,Bq]
theorem AfZ(x:Wd)(r:Nat)(hr:r=16\/r=12\/r=8\/r=7)(w:World) :
  Calls Tryz.prog f.JJ #[.int .u32 (x.toNat:Int),.int .i64 (IntKind.i64.wrap (0-(r:Int)))] w (AG λ v w'=>v=.int .u32 ((Acb x r).toNat:Int)/\w'=w):=by
 have e1:IntKind.u64.wrap (((AkA 64 (IntKind.u64.wrap (IntKind.i64.wrap (0-(r:Int)))) &&& AkA 64 31).toNat:Int))=((32-r:Nat):Int):=by
  rcases hr with rfl | rfl | rfl | rfl <;> rfl
 have e2:IntKind.u64.wrap (32-((32-r:Nat):Int))=(r:Int):=by
  rcases hr with rfl | rfl | rfl | rfl <;> rfl
 have aB:r<32:=by omega
 apply R.G6
 delta R.V R.Wu R.Wv;try dsimp only [R.Ps]
 rw [e1,e2];refine⟨by omega,by omega,?_,rfl⟩;rw [Ak4,Ak4,Ak5 (by omega),Ak5 (by omega),AdB,AiC,Bq,BitVec.or_comm];rfl
theorem TQ(x:Wd)(r:Nat)(hr:r<32)(w:World) :
  Calls Tryz.prog f.AcD #[.int .u32 (x.toNat:Int),.int .i64 (r:Int)] w (AG λ v w'=>v=.int .u32 ((Acb x r).toNat:Int)/\Go.RowKit.Below w.heap.size w w'):=by
 apply R.Rx
 delta R.D R.V R.W R.Wv;try dsimp only [R.Ps]
 refine (SH.start (λ _=>False) w).E9 λ w1 B1 _=>?_;have e2:IntKind.i64.wrap (32-(r:Int))=((32-r:Nat):Int):=by rw [wrap_i64 (by omega) (by omega)];omega
 rw [e2];refine⟨by omega,by omega,?_,B1⟩;rw [Ak4,Ak4,Ak5 (by omega),Ak5 (by omega),AdB,AiC,Bq];rfl
def Ka(a b c d x:Wd)(r s:Nat):Wd × Wd × Wd × Wd :=
 let a:=a+(b+x);let d:=Acb (d ^^^ a) r;let c:=c+d;let b:=Acb (b ^^^ c) s
 (a,b,c,d)
theorem Adh(a b c d x:Wd)(r s:Nat)(hr:r=16\/r=12\/r=8\/r=7)(hs:s=16\/s=12\/s=8\/s=7)(w:World) :
  Calls Tryz.prog f.Aem #[.int .u32 (a.toNat:Int),.int .u32 (b.toNat:Int),.int .u32 (c.toNat:Int),.int .u32 (d.toNat:Int),.int .u32 (x.toNat:Int),.int .i64 (r:Int),.int .i64 (s:Int)] w
   (AG λ v w'=>v=.tuple #[.int .u32 ((Ka a b c d x r s).1.toNat:Int),.int .u32 ((Ka a b c d x r s).2.1.toNat:Int),.int .u32 ((Ka a b c d x r s).2.2.1.toNat:Int),.int .u32 ((Ka a b c d x r s).2.2.2.toNat:Int)]/\w'=w):=by
 apply R.To
 delta R.Cv R.H R.I R.V R.W R.Wv;try dsimp only [R.Ps]
 rw [Nn,Nn,Np];refine (AfZ _ r hr w).mono ?_;rintro _ w ⟨_,rfl,rfl,rfl⟩;refine⟨_,rfl,?_⟩;rw [Nn,Np];refine (AfZ _ s hs w).mono ?_;rintro _ w ⟨_,rfl,rfl,rfl⟩;exact⟨_,rfl,rfl,rfl⟩
end Go.Proofs.YtpnaifmmggnimaaGreatDoor
namespace Go.Proofs.YtpnaifmmggnimaaGreatDoor
open _root_.Int renaming toNat_natCast -> Ak4
open _root_.List renaming replicate -> AkZ
open _root_.Nat renaming mul_one -> Ak7, zero_add -> Ak6
set_option maxRecDepth 100000
open Go.Dn Go.Proofs
open Go.RowKit (Below)
set_option linter.unusedVariables false
def wV(x:Wd):Value:=.int .u32 (x.toNat:Int)
theorem Y8(v:List Wd):v.map wV=(v.map wI).map (.int .u32):=by simp [wV,wI]
theorem O1(v:List Wd){n:Nat}{f:List Value->Prop}(hn:v.length=n)(h:f (v.map wV)):FD (AkZ n (.int .u32 0)) f :=
 JA .u32 (v.map wI) (by simpa using hn) (by rw [<- Y8];exact h)
theorem Dd(v:List Wd){n:Nat}{a:Addr}{k:List Value->Prop}{w:World}(hn:v.length=n)(hr:Rd w (some a) (v.map wV))(h:k (v.map wV)):C8 (AkZ n (.int .u32 0)) a 0 k w :=
 PY .u32 (v.map wI) (by simpa using hn) (by rw [<- Y8];exact hr) (by rw [<- Y8];exact h)
theorem IE(v:List Wd):∀ x∈v.map wV,x.oneCell'=true:=by
 rw [Y8];exact Vs _ _
theorem Ds{vs:List Value}{n:Nat}{X:Prop}(h:vs.length=n)(hx:X):bif (Nat.beq (List.length vs) n && true) then X else False:=by
 subst h;rw [Nat.beq_refl];exact hx
section
variable {F:Nat->Prop}{w0 w:World}{H:List Y9}
theorem _root_.Go.Dn.SH.wd(S:SH F w0 w H)(n:Nat){b:Nat}{v:List Wd}{t:TypeId}(hn:H[n]?=some (b,⟨v.map wV⟩,t)){j x:Nat}(hj:j<v.length)(hx:x=j):w.cell? ((⟨b,0,none⟩:Addr).add (x*1))=some (.int .u32 ((v.getD j 0).toNat:Int)):=by
 subst hx;rw [Ax,Ak6,Ak7];refine S.cell n hn ?_;simp [hj,wV]
theorem _root_.Go.Dn.SH.by8(S:SH F w0 w H)(n:Nat){b:Nat}{v:List Int}{t:TypeId}(hn:H[n]?=some (b,⟨v.map (.int .u8)⟩,t)){j x:Nat}(hj:j<v.length)(hx:x=j):w.cell? ((⟨b,0,none⟩:Addr).add (x*1))=some (.int .u8 (v.getD j 0)):=by
 subst hx;rw [Ax,Ak6,Ak7];refine S.cell n hn ?_;simp [hj]
theorem _root_.Go.Dn.SH.Fk(S:SH F w0 w H)(n:Nat){b:Nat}{v:List Wd}{t:TypeId}(hn:H[n]?=some (b,⟨v.map wV⟩,t)){j x:Nat}(hj:j<v.length)(hx:x=j){y:Wd}{k:World->Prop}
  (hk:∀ w',SH F w0 w' (H.set n (b,⟨(v.set j y).map wV⟩,t))->k w'):DV ((⟨b,0,none⟩:Addr).add (x*1)) (.int .u32 (y.toNat:Int)) k w:=by
 subst hx;rw [Ax,Ak6,Ak7];refine S.BR n hn (by simpa using hj) λ w' S'=>hk w' ?_;have e:(⟨v.map wV⟩:Array Value).setIfInBounds x (.int .u32 (y.toNat:Int))=⟨(v.set x y).map wV⟩:=by
  apply Array.ext';simp [wV,List.map_set]
 rw [e] at S';exact S'
theorem _root_.Go.Dn.SH.Aku(S:SH F w0 w H){z0 z1 z2 z3 v0 v1 v2 v3:Value}{t:TypeId}{k:Nat->World->Prop}(hk:∀ b w',SH F w0 w' ((b,#[v0,v1,v2,v3],t) :: H)->k b w') :
  DT #[z0,z1,z2,z3] t (λ b w=>DV ⟨b,0,none⟩ v0 (λ w=>DV ⟨b,1,none⟩ v1 (λ w=>DV ⟨b,2,none⟩ v2 (λ w=>DV ⟨b,3,none⟩ v3 (λ w=>k b w) w) w) w) w) w :=
 S.An λ b w1 _ _ S1=>S1.BR 0 rfl (by simp) λ w2 S2=>S2.BR 0 rfl (by simp) λ w3 S3=>S3.BR 0 rfl (by simp) λ w4 S4=>S4.BR 0 rfl (by simp) λ w5 S5=>hk b w5 S5
end
def Ca:List Wd:=[0x6a09e667,0xbb67ae85,0x3c6ef372,0xa54ff53a,0x510e527f,0x9b05688c,0x1f83d9ab,0x5be0cd19]
def T4:List Int:=[0,1,2,3,4,5,6,7,8,9,10,11,12,13,14,15,
 14,10,4,8,9,15,13,6,1,12,0,2,11,7,5,3,
 11,8,12,0,5,2,15,13,10,14,3,6,7,1,9,4,
 7,9,3,1,13,12,11,14,2,6,5,10,4,0,15,8,
 9,0,5,7,2,4,10,15,14,1,11,12,6,8,3,13,
 2,12,6,10,0,11,8,3,4,13,7,5,15,14,1,9,
 12,5,1,15,14,13,4,10,0,7,6,3,9,2,8,11,
 13,11,7,14,12,1,3,9,5,0,15,4,8,6,2,10,
 6,15,14,9,11,3,0,8,12,2,13,7,1,4,10,5,
 10,2,8,4,7,6,1,5,15,11,9,14,3,12,13,0]
def HP:List Int:=[0,4,8,12,1,5,9,13,2,6,10,14,3,7,11,15,0,5,10,15,1,6,11,12,2,7,8,13,3,4,9,14]
def Kh(i j:Nat):Nat:=(HP.getD (i*4+j) 0).toNat
def LJ(r:Nat):List Int:=(T4.drop (r*16)).take 16
def ord(r j:Nat):Nat:=((LJ r).getD j 0).toNat
theorem GU:∀ i,i<8->∀ j,j<4->Kh i j<16:=by decide
theorem YB:∀ r,r<10->∀ j,j<16->ord r j<16:=by decide
theorem Agg:∀ r,r<10->∀ j,j<16->(LJ r).getD j 0=(ord r j:Int):=by decide
theorem AiE:∀ i,i<8->(HP.drop (i*4)).take 4=[(Kh i 0:Int),(Kh i 1:Int),(Kh i 2:Int),(Kh i 3:Int)]:=by decide
theorem JV:∀ r,r<10->(LJ r).length=16:=by decide
def Xd(m:List Wd)(r i:Nat)(v:List Wd):List Wd :=
 let h1:=Ka (v.getD (Kh i 0) 0) (v.getD (Kh i 1) 0) (v.getD (Kh i 2) 0) (v.getD (Kh i 3) 0) (m.getD (ord r (2*i)) 0) 16 12;let h2:=Ka h1.1 h1.2.1 h1.2.2.1 h1.2.2.2 (m.getD (ord r (2*i+1)) 0) 8 7
 (((v.set (Kh i 0) h2.1).set (Kh i 1) h2.2.1).set (Kh i 2) h2.2.2.1).set (Kh i 3) h2.2.2.2
def Jv(m:List Wd)(r:Nat)(v:List Wd):Nat->List Wd
 | 0=>v
 | i+1=>Xd m r i (Jv m r v i)
def DF(m v:List Wd):Nat->List Wd
 | 0=>v
 | r+1=>Jv m r (DF m v r) 8
theorem Hy(m:List Wd)(r:Nat)(v:List Wd):∀ i,(Jv m r v i).length=v.length
 | 0=>rfl
 | i+1=>by simp [Jv,Xd,Hy m r v i]
theorem JS(m v:List Wd):∀ r,(DF m v r).length=v.length
 | 0=>rfl
 | r+1=>by simp [DF,Hy,JS m v r]
structure I8(w:World):Prop where
 first:Rd w (some ⟨0,0,none⟩) (Ca.map wV)
 orders:Rd w (some ⟨1,0,none⟩) (T4.map (.int .u8))
 places:Rd w (some ⟨2,0,none⟩) (HP.map (.int .u8))
theorem I8.grown{w w':World}(h:I8 w)(B:Below w.heap.size w w'):I8 w':=⟨h.first.grown B,h.orders.grown B,h.places.grown B⟩
theorem MO{x:Int}{n:Nat}(h:[Value.int .i64 x]=[.int .i64 (n:Int)]):x=(n:Int):=by simpa using h
theorem AeJ{w:World}(T:I8 w)(v m:List Wd)(hv:v.length=16)(hm:m.length=16) :
  Calls Tryz.prog f.AaF #[.agg ⟨v.map wV⟩,.agg ⟨m.map wV⟩] w (AG λ r w'=>r=.agg ⟨(DF m v 10).map wV⟩/\Below w.heap.size w w'):=by
 apply R.Pd
 delta R.A R.Ab R.B R.Ab1 R.D R.F R.I R.Lv R.Ly R.N R.Qi R.Am R.V R.W R.X;try dsimp only [R.Ps]
 refine (SH.start (λ _=>False) w).An λ b3 w1 _ _ S=>S.An λ b4 w2 _ _ S=>S.An λ b5 w3 _ _ S=>?_;refine PY .u8 T4 rfl (T.orders.grown S.below) ?_;refine⟨λ st w'=>∃ r:Nat,st=[.int .i64 (r:Int)]/\r<=10/\SH (λ _=>False) w w' [(b5,⟨AkZ 16 (.int .u32 0)⟩,224),(b4,⟨m.map wV⟩,224),(b3,⟨(DF m v r).map wV⟩,224)],
  λ st _=>match st with | [.int _ t]=>(10-t).toNat | _=>0,⟨0,rfl,by omega,S⟩,?_⟩
 rintro t w4 ⟨r,aA,hr,S⟩;cases MO aA;have hlen:=(JS m v r).trans hv;refine Aa (λ aB=>⟨⟨by omega,aB⟩,?_⟩) (λ aJ=>?_)
 ·have cu:r<10:=by omega
  refine JA .u8 (LJ r) (JV r cu) ⟨by rw [Ak4];simp [LJ,List.map_take,List.map_drop],?_⟩;refine S.An λ df w6 _ _ S=>Ds (by simp [JV r cu]) (S.En 0 rfl (by simp [JV r cu]) (Vs _ _) λ w7 _ S=>?_);refine PY .u8 HP rfl (T.places.grown S.below) ?_;refine⟨λ st w'=>∃ i:Nat,st=[.int .i64 (i:Int)]/\i<=8/\SH (λ _=>False) w w' [(df,⟨(LJ r).map (.int .u8)⟩,296),(b5,⟨AkZ 16 (.int .u32 0)⟩,224),(b4,⟨m.map wV⟩,224),(b3,⟨(Jv m r (DF m v r) i).map wV⟩,224)],
   λ st _=>match st with | [.int _ t]=>(8-t).toNat | _=>0,⟨0,rfl,by omega,S⟩,?_⟩
  rintro t w8 ⟨i,aA,hi,S⟩;cases MO aA;have yZ:=(Hy m r (DF m v r) i).trans hlen;refine Aa (λ ao=>⟨⟨by omega,ao⟩,?_⟩) (λ cB=>?_)
  ·have jy:i<8:=by omega
   refine⟨_,_,_,_,by rw [Ak4,<- List.map_drop,<- List.map_take,AiE i jy];rfl,?_⟩;have e2:IntKind.i64.wrap (2*(i:Int))=((2*i:Nat):Int):=by rw [wrap_i64 (by omega) (by omega)];omega
   have e3:IntKind.i64.wrap (((2*i:Nat):Int)+1)=((2*i+1:Nat):Int):=Ae (by omega);have p0:=GU i jy 0 (by omega);have p1:=GU i jy 1 (by omega);have p2:=GU i jy 2 (by omega);have p3:=GU i jy 3 (by omega);have o0:=YB r cu (2*i) (by omega);have o1:=YB r cu (2*i+1) (by omega);have aI:=JV r cu;rw [e2,e3];refine S.Aku λ jr aj S=>S.draw λ an S=>?_;refine⟨⟨by omega,by omega⟩,_,S.cell 0 rfl rfl,⟨by omega,by omega⟩,_,S.wd 4 rfl (by omega) (Ak4 _),_,S.cell 0 rfl rfl,⟨by omega,by omega⟩,_,S.wd 4 rfl (by omega) (Ak4 _),
    _,S.cell 0 rfl rfl,⟨by omega,by omega⟩,_,S.wd 4 rfl (by omega) (Ak4 _),_,S.cell 0 rfl rfl,⟨by omega,by omega⟩,_,S.wd 4 rfl (by omega) (Ak4 _),
    _,(S.by8 1 rfl (by omega) (Ak4 _)).trans (by rw [Agg r cu _ (by omega)]),⟨by omega,by omega⟩,_,S.wd 3 rfl (by omega) (Ak4 _),?_⟩
   refine (Adh _ _ _ _ _ 16 12 (by simp) (by simp) an).mono ?_;rintro _ ah ⟨_,rfl,rfl,rfl⟩;refine⟨_,_,_,_,rfl,S.draw λ cf S=>?_⟩;refine⟨⟨by omega,by omega⟩,_,S.cell 0 rfl rfl,_,S.cell 0 rfl rfl,_,S.cell 0 rfl rfl,_,S.cell 0 rfl rfl,
    _,(S.by8 1 rfl (by omega) (Ak4 _)).trans (by rw [Agg r cu _ (by omega)]),⟨by omega,by omega⟩,_,S.wd 3 rfl (by omega) (Ak4 _),?_⟩
   refine (Adh _ _ _ _ _ 8 7 (by simp) (by simp) cf).mono ?_;rintro _ cP ⟨_,rfl,rfl,rfl⟩;refine⟨_,_,_,_,rfl,S.cell 0 rfl rfl,S.cell 0 rfl rfl,S.cell 0 rfl rfl,S.cell 0 rfl rfl,⟨by omega,by omega⟩,S.Fk 4 rfl (by omega) (Ak4 _) λ eK S=>?_⟩;refine⟨S.cell 0 rfl rfl,S.cell 0 rfl rfl,S.cell 0 rfl rfl,⟨by omega,by omega⟩,S.Fk 4 rfl (by simp;omega) (Ak4 _) λ ff S=>?_⟩;refine⟨S.cell 0 rfl rfl,S.cell 0 rfl rfl,⟨by omega,by omega⟩,S.Fk 4 rfl (by simp;omega) (Ak4 _) λ eo S=>?_⟩;refine⟨S.cell 0 rfl rfl,⟨by omega,by omega⟩,S.Fk 4 rfl (by simp;omega) (Ak4 _) λ gp S=>?_⟩;rw [Ae (by omega)];exact⟨⟨i+1,rfl,by omega,S.drop 1⟩,by show (8-((i+1:Nat):Int)).toNat<(8-(i:Int)).toNat;omega⟩
  ·have jy:i=8:=by omega
   subst jy;rw [Ae (by omega)];exact⟨⟨r+1,rfl,by omega,S.drop 1⟩,by show (10-((r+1:Nat):Int)).toNat<(10-(r:Int)).toNat;omega⟩
 ·have cu:r=10:=by omega
  have ay:((DF m v r).map wV).length=16:=by rw [List.length_map];exact hlen
  refine Dd (DF m v r) hlen (Rd.Ak (S.get 2 rfl)) ?_;refine Ds ay (S.En 0 rfl ay (IE _) λ w5 _ S=>?_);exact Dd (DF m v r) hlen (Rd.Ak (S.get 0 rfl)) ⟨by rw [cu],S.below⟩
end Go.Proofs.YtpnaifmmggnimaaGreatDoor
namespace Go.Dn
set_option linter.unusedVariables false
set_option maxRecDepth 100000
open Go.RowKit (Below)
theorem SH.copy{F:Nat->Prop}{w0 w:World}{H:List Y9}(S:SH F w0 w H)(n:Nat){b:Nat}{cs:Array Value}{t:TypeId}(hn:H[n]?=some (b,cs,t)){P:Program}{dT sT ty elem:TypeId}(hu:P.underlying dT=some (.slice elem))
  (hs:(P.info? elem).map (·.size)=some 1) {a:Option Addr} {xs:List Value} {eJ nJ dLen mU:Nat} (hx:xs.length=eJ) (hd:dLen<=cs.size) (hr:Rd w a xs) (h1:∀ v∈xs,v.oneCell'=true) {f:Value->World->Prop}
  (hf:∀ w',Ai (·=b) w w'->SH F w0 w' (H.set n (b,⟨xs.take dLen++cs.toList.drop (min eJ dLen)⟩,t))->f (.int .i64 ((min eJ dLen:Nat):Int)) w') :
  DE P (Builtin.copy_ #[dT,sT] ty #[.slice (some ⟨b,0,none⟩) dLen mU,.slice a eJ nJ]) f w:=by
 have hg:=S.get n hn;cases a with
 | none =>
  have nS:xs=[]:=by
   cases xs with
   | nil=>rfl
   | cons x r =>
    obtain⟨p,hp,_⟩:=hr 0 x rfl;cases hp
  subst nS;have wQ:eJ=0:=hx.symm;subst wQ;unfold DE;rw [run_copy_none w dT sT ty elem (some ⟨b,0,none⟩) none dLen mU 0 nJ hu hs (by simp)];have:=hf w (.refl _ w) (S.setAt n hn (.refl _ w) (by simpa using hg));simpa [goInt] using this
 | some p =>
  have hl:(xs.take dLen).length=Nat.min eJ dLen:=by rw [List.length_take,hx];exact Nat.min_comm _ _
  have hc:=run_copy_row P w dT sT ty elem b 0 dLen mU p eJ nJ cs t (xs.take dLen) hu hs hg hl (λ j v hj=>by
   rw [List.getElem?_take] at hj;split at hj
   ·obtain⟨q,hq,hc⟩:=hr j v hj;cases hq;exact hc
   ·cases hj) (by rw [hl,Nat.zero_add];exact Nat.le_trans (Nat.min_le_right _ _) hd) (λ v hv=>h1 v (List.mem_of_mem_take hv))
  unfold DE;rw [hc];have cp:(xs.take dLen).length=min eJ dLen:=hl;have e:(cs.toList.take 0++xs.take dLen++cs.toList.drop (0+(xs.take dLen).length)).toArray=⟨xs.take dLen++cs.toList.drop (min eJ dLen)⟩:=by
   rw [cp];simp
  rw [e];have:=hf _ (Hd w b _) (S.setAt n hn (Hd w b _) (Mb hg));simpa only [goInt,cp] using this
end Go.Dn
namespace Go.Proofs.YtpnaifmmggnimaaGreatDoor
open _root_.BitVec renaming ofInt -> AkA, ofInt_natCast -> Alc, ofNat -> Alg, toNat_ofNat -> Alb, toNat_or -> Alo
open _root_.Int renaming fdiv -> Alj, tmod_eq_emod_of_nonneg -> Aln, toNat_natCast -> Ak4
open _root_.List renaming drop_eq_nil_of_le -> Als, getD_eq_getElem?_getD -> Alx, length_append -> Ak1, length_cons -> Ak3, length_drop -> Alu, length_map -> Alh, length_set -> Ak8, map_append -> Alk, map_drop -> Alv, map_take -> Alw, replicate -> AkZ, set_comm -> Aly
open _root_.Nat renaming add_sub_cancel_left -> Alm, le_trans -> Ali, mod_eq_of_lt -> Ala, mod_lt -> Alr, mul_comm -> Alf, mul_le_mul_right -> Ald, mul_one -> Ak7, or_comm -> Alq, pow_le_pow_right -> All, pow_succ -> Ale, two_pow_add_eq_or_of_lt -> Alp, zero_add -> Ak6
open _root_.Prod.mk renaming injEq -> AkE
open _root_.UInt8 renaming ofNat -> Ak9
set_option maxRecDepth 100000
open Go.Dn Go.Proofs
open Go.RowKit (Below)
set_option linter.unusedVariables false
def uI(c:UInt8):Int:=(c.toNat:Int)
theorem MB(l:List UInt8):l.map Ag=(l.map uI).map (.int .u8):=by simp [Ag,uI,Function.comp_def]
theorem HA(l:List UInt8){n:Nat}{a:Addr}{k:List Value->Prop}{w:World}(hn:l.length=n)(hr:Rd w (some a) (l.map Ag))(h:k (l.map Ag)):C8 (AkZ n (.int .u8 0)) a 0 k w :=
 PY .u8 (l.map uI) (by simpa using hn) (by rw [<- MB];exact hr) (by rw [<- MB];exact h)
section
variable {F:Nat->Prop}{w0 w:World}{H:List Y9}
theorem _root_.Go.Dn.SH.wd'(S:SH F w0 w H)(n:Nat){b:Nat}{v:List Wd}{t:TypeId}(hn:H[n]?=some (b,⟨v.map wV⟩,t)){j:Nat}(hj:j<v.length):w.cell? ⟨b,j,none⟩=some (.int .u32 ((v.getD j 0).toNat:Int)):=by
 have:=S.wd n hn hj rfl;rwa [Ax,Ak6,Ak7] at this
theorem _root_.Go.Dn.SH.Mi(S:SH F w0 w H)(n:Nat){b:Nat}{v:List Wd}{t:TypeId}(hn:H[n]?=some (b,⟨v.map wV⟩,t)){j:Nat}(hj:j<v.length){y:Wd}{k:World->Prop}
  (hk:∀ w',SH F w0 w' (H.set n (b,⟨(v.set j y).map wV⟩,t))->k w'):DV ⟨b,j,none⟩ (.int .u32 (y.toNat:Int)) k w:=by
 have:=S.Fk n hn hj rfl hk;rwa [Ax,Ak6,Ak7] at this
end
def byW(c:UInt8):Wd:=Alg 32 c.toNat
def mO(CJ:List UInt8):Nat->List Wd
 | 0=>AkZ 16 0
 | i+1=>(mO CJ i).set (i / 4) ((mO CJ i).getD (i / 4) 0 ||| (byW (CJ.getD i 0) <<< (8*(i % 4))))
theorem Ab9(CJ:List UInt8):∀ i,(mO CJ i).length=16
 | 0=>by simp [mO]
 | i+1=>by simp [mO,Ab9 CJ i]
def vF(h:List Wd):Nat->List Wd
 | 0=>h++AkZ 8 0
 | i+1=>(vF h i).set (8+i) (Ca.getD i 0)
theorem AfN(h:List Wd)(hh:h.length=8):∀ i,(vF h i).length=16
 | 0=>by simp [vF,hh]
 | i+1=>by simp [vF,AfN h hh i]
def vN(v:List Wd)(n:Nat)(last:Bool):List Wd :=
 let v:=v.set 12 (v.getD 12 0 ^^^ Alg 32 n);let v:=v.set 13 (v.getD 13 0 ^^^ Alg 32 (n / 4294967296))
 if last then v.set 14 (4294967295 ^^^ v.getD 14 0) else v
theorem Agp(v:List Wd)(n:Nat)(last:Bool):(vN v n last).length=v.length:=by
 unfold vN;cases last <;> simp
def hF(h v:List Wd):Nat->List Wd
 | 0=>h
 | i+1=>(hF h v i).set i ((hF h v i).getD i 0 ^^^ (v.getD i 0 ^^^ v.getD (i+8) 0))
theorem Ya(h v:List Wd):∀ i,(hF h v i).length=h.length
 | 0=>rfl
 | i+1=>by simp [hF,Ya h v i]
def Ua(h:List Wd)(CJ:List UInt8)(n:Nat)(last:Bool):List Wd:=hF h (DF (mO CJ 64) (vN (vF h 8) n last) 10) 8
theorem AdQ(i:Nat)(h:i<64):IntKind.i64.wrap (Int.tdiv (i:Int) 4)=((i / 4:Nat):Int):=by
 rw [Int.tdiv_eq_ediv_of_nonneg (by omega),wrap_i64 (by omega) (by omega)];omega
theorem AdR(i:Nat)(h:i<64):IntKind.i64.wrap (8*Int.tmod (i:Int) 4)=((8*(i % 4):Nat):Int):=by
 rw [Aln (by omega),wrap_i64 (by omega) (by omega)];omega
theorem Adu(c:UInt8):IntKind.u32.wrap (c.toNat:Int)=((byW c).toNat:Int):=by
 have:=c.toNat_lt;rw [Si (by omega) (by omega),byW,Alb];omega
theorem Ain{w:World}(T:I8 w)(h:List Wd)(hh:h.length=8)(CJ:List UInt8)(hb:CJ.length=64)(n:Nat)(hn:n<18446744073709551616)(last:Bool) :
  Calls Tryz.prog f.TG #[.agg ⟨h.map wV⟩,.agg ⟨CJ.map Ag⟩,.int .u64 (n:Int),.bool last] w (AG λ r w'=>r=.agg ⟨(Ua h CJ n last).map wV⟩/\Below w.heap.size w w'):=by
 apply R.KA
 delta R.A R.Ab R.B R.D R.F R.I R.Lv R.Qi R.Ri R.S R.Am R.V R.W R.Wv R.X R.Y R.Z;try dsimp only [R.Ps]
 refine (SH.start (λ _=>False) w).An λ b5 w1 _ _ S=>S.An λ b6 w2 _ _ S=>S.An λ b7 w3 _ _ S=>S.An λ b8 w4 _ _ S=>S.An λ b9 w5 _ _ S=>?_;refine HA CJ hb (Rd.Ak (S.get 3 rfl)) ?_;refine⟨λ st w'=>∃ i:Nat,st=[.int .i64 (i:Int)]/\i<=64/\SH (λ _=>False) w w' [(b9,⟨(mO CJ i).map wV⟩,224),(b8,⟨AkZ 16 (.int .u32 0)⟩,224),(b7,⟨AkZ 8 (.int .u32 0)⟩,216),(b6,⟨CJ.map Ag⟩,217),(b5,⟨h.map wV⟩,216)],
  λ st _=>match st with | [.int _ t]=>(64-t).toNat | _=>0,⟨0,rfl,by omega,S⟩,?_⟩
 rintro t w6 ⟨i,aA,hi,S⟩;cases MO aA;have lK:=Ab9 CJ i;refine Aa (λ aB=>⟨⟨by omega,aB⟩,?_⟩) (λ aJ=>?_)
 ·have dW:i<64:=by omega
  have e1:=AdQ i dW;have e2:=AdR i dW;refine⟨uI (CJ.getD i 0),?_,S.draw λ w7 S=>?_⟩
  ·rw [Ak4,Ak7];simp [hb,dW,Ag,uI]
  ·rw [e1,e2];refine⟨⟨by omega,by omega⟩,by omega,_,S.wd 0 rfl (by omega) (Ak4 _),⟨by omega,by omega⟩,?_⟩;have e3:IntKind.u32.wrap (((AkA 32 (((mO CJ i).getD (i / 4) 0).toNat:Int) ||| AkA 32 (IntKind.u32.wrap ((IntKind.u32.wrap (uI (CJ.getD i 0)))*2 ^ (min ((((8*(i % 4):Nat):Int)).toNat) 32)))).toNat:Int))
     = (((mO CJ i).getD (i / 4) 0 ||| (byW (CJ.getD i 0) <<< (8*(i % 4)))).toNat:Int):=by
    rw [Ak4,Nat.min_eq_left (by omega),uI,Adu,AdB,Bo,Bq]
   rw [e3];refine S.Fk 0 rfl (by omega) (Ak4 _) λ w8 S=>?_;rw [Ae (by omega)];exact⟨⟨i+1,rfl,by omega,S⟩,by show (64-((i+1:Nat):Int)).toNat<(64-(i:Int)).toNat;omega⟩
 ·have dW:i=64:=by omega
  refine S.draw λ w9 S=>⟨⟨by omega,by omega,by omega⟩,⟨by omega,by omega,by omega⟩,?_⟩;have hz:(AkZ 8 (Value.int .u32 0))=(AkZ 8 (0:Wd)).map wV:=rfl;refine S.copy 1 rfl (P:=Tryz.prog) (elem:=184) (by kernel_rfl) (by kernel_rfl) (a:=some ⟨b5,0,none⟩) (xs:=h.map wV) (by simpa using hh) (by simp) (Rd.Ak (S.get 4 rfl)) (IE h) λ bZ _ S=>?_;have ev:(⟨(h.map wV).take 16++(AkZ 16 (Value.int .u32 0)).drop (min 8 16)⟩:Array Value)=⟨(vF h 0).map wV⟩:=by
   rw [List.take_of_length_le (by simp [hh])];simp [vF,wV]
  replace S:=ev ▸ S
  refine⟨_,rfl,Dd Ca rfl (T.first.grown S.below) ?_⟩;refine⟨λ st w'=>∃ j:Nat,st=[.int .i64 (j:Int)]/\j<=8/\SH (λ _=>False) w w' [(b9,⟨(mO CJ i).map wV⟩,224),(b8,⟨(vF h j).map wV⟩,224),(b7,⟨AkZ 8 (.int .u32 0)⟩,216),(b6,⟨CJ.map Ag⟩,217),(b5,⟨h.map wV⟩,216)],
   λ st _=>match st with | [.int _ t]=>(8-t).toNat | _=>0,⟨0,rfl,by omega,S⟩,?_⟩
  rintro t aX ⟨j,aA,hj,S⟩;cases MO aA;have gr:=AfN h hh j;refine Aa (λ aB=>⟨⟨by omega,aB⟩,?_⟩) (λ aJ=>?_)
  ·have mZ:j<8:=by omega
   have e8:IntKind.i64.wrap (8+(j:Int))=((8+j:Nat):Int):=by rw [wrap_i64 (by omega) (by omega)];omega
   rw [e8];refine⟨((Ca.getD j 0).toNat:Int),?_,⟨by omega,by omega⟩,S.Fk 1 rfl (by omega) (Ak4 _) λ bJ S=>?_⟩
   ·rw [Ak4,Ak7];have:j<Ca.length:=by simpa [Ca] using mZ
    simp [this,wV]
   ·rw [Ae (by omega)];exact⟨⟨j+1,rfl,by omega,S⟩,by show (8-((j+1:Nat):Int)).toNat<(8-(j:Int)).toNat;omega⟩
  ·have mZ:j=8:=by omega
   have vo:∀ x:Wd,IntKind.u32.wrap (((AkA 32 (x.toNat:Int) ^^^ AkA 32 (IntKind.u32.wrap (n:Int))).toNat:Int))=((x ^^^ Alg 32 n).toNat:Int):=by
    intro x;rw [Cw,Bo,Bq,Alc]
   have sC:∀ x:Wd,IntKind.u32.wrap (((AkA 32 (x.toNat:Int) ^^^ AkA 32 (IntKind.u32.wrap (Alj (n:Int) (2 ^ (min 32 64))))).toNat:Int))=((x ^^^ Alg 32 (n / 4294967296)).toNat:Int):=by
    intro x;have:Alj (n:Int) (2 ^ (min 32 64))=((n / 4294967296:Nat):Int):=by
     rw [show (2:Int) ^ (min 32 64)=4294967296 by rfl,Int.fdiv_eq_ediv_of_nonneg _ (by omega)];omega
    rw [this,Cw,Bo,Bq,Alc]
   have vM:∀ x:Wd,IntKind.u32.wrap (((AkA 32 4294967295 ^^^ AkA 32 (x.toNat:Int)).toNat:Int))=((4294967295 ^^^ x).toNat:Int):=by
    intro x;rw [Bo,Bq];rfl
   refine⟨_,S.wd' 1 rfl (by omega),?_⟩;rw [vo];refine S.Mi 1 rfl (by omega) λ aj S=>⟨_,S.wd' 1 rfl (by simp;omega),?_⟩;rw [sC];refine S.Mi 1 rfl (by simp;omega) λ an S=>?_;refine⟨λ _ w'=>SH (λ _=>False) w w' [(b9,⟨(mO CJ i).map wV⟩,224),(b8,⟨(vN (vF h j) n last).map wV⟩,224),(b7,⟨AkZ 8 (.int .u32 0)⟩,216),(b6,⟨CJ.map Ag⟩,217),(b5,⟨h.map wV⟩,216)],?_,?_⟩
   ·refine Ap (λ hl=>?_) (λ hl=>?_)
    ·subst hl;refine⟨_,S.wd' 1 rfl (by simp;omega),?_⟩;rw [vM];exact S.Mi 1 rfl (by simp;omega) λ ah S=>S
    ·subst hl;exact S
   ·intro cf S;have mB:(vN (vF h j) n last).length=16:=by rw [Agp];exact gr
    refine Dd (vN (vF h j) n last) mB (Rd.Ak (S.get 1 rfl)) (Dd (mO CJ i) lK (Rd.Ak (S.get 0 rfl)) ?_);refine (AeJ (T.grown S.below) _ _ mB lK).mono ?_;rintro _ cP ⟨_,rfl,rfl,oV⟩;have bS:(DF (mO CJ i) (vN (vF h j) n last) 10).length=16:=by rw [JS];exact mB
    generalize hV:DF (mO CJ i) (vN (vF h j) n last) 10=V at bS ⊢;refine O1 V bS ⟨rfl,Ds (by simpa using bS) ?_⟩;refine (S.grown oV).En 1 rfl (by simp [mB,bS]) (IE _) λ eK _ S=>?_;refine⟨λ st w'=>∃ q:Nat,st=[.int .i64 (q:Int)]/\q<=8/\SH (λ _=>False) w w' [(b9,⟨(mO CJ i).map wV⟩,224),(b8,⟨V.map wV⟩,224),(b7,⟨AkZ 8 (.int .u32 0)⟩,216),(b6,⟨CJ.map Ag⟩,217),(b5,⟨(hF h V q).map wV⟩,216)],
     λ st _=>match st with | [.int _ t]=>(8-t).toNat | _=>0,⟨0,rfl,by omega,S⟩,?_⟩
    rintro t ff ⟨q,aA,hq,S⟩;cases MO aA;have kJ:=(Ya h V q).trans hh;refine Aa (λ aB=>S.draw λ gp S=>?_) (λ aJ=>?_)
    ·have e8:IntKind.i64.wrap ((q:Int)+8)=((q+8:Nat):Int):=by rw [wrap_i64 (by omega) (by omega)];omega
     rw [e8];refine⟨⟨by omega,aB⟩,⟨by omega,by omega⟩,⟨by omega,by omega⟩,_,S.wd 4 rfl (by omega) (Ak4 _),_,S.wd 1 rfl (by omega) (Ak4 _),_,S.wd 1 rfl (by omega) (Ak4 _),⟨by omega,aB⟩,?_⟩;rw [Np,Np];refine S.Fk 4 rfl (by omega) (Ak4 _) λ iM S=>?_;rw [Ae (by omega)];exact⟨⟨q+1,rfl,by omega,S⟩,by show (8-((q+1:Nat):Int)).toNat<(8-(q:Int)).toNat;omega⟩
    ·have fR:q=8:=by omega
     have ay:((hF h V q).map wV).length=8:=by rw [Alh];exact kJ
     refine Dd (hF h V q) kJ (Rd.Ak (S.get 4 rfl)) (Ds ay (S.En 2 rfl ay (IE _) λ eo _ S=>?_));refine Dd (hF h V q) kJ (Rd.Ak (S.get 2 rfl)) ⟨?_,S.below⟩;unfold Ua;rw [<- mZ,<- dW,hV];rw [show (hF h V q)=hF h V j by rw [fR,mZ]]
theorem CB:UT Tryz.prog ty.string ty.AH=true:=by kernel_rfl
theorem tB:MN Tryz.prog ty.AH=some (ty.uint8,1,1,.int .u8 0):=by kernel_rfl
theorem zB:(Value.int .u8 0).cells.size=1:=rfl
theorem Ge(l:List UInt8):∀ u∈l.map Ag,u.oneCell'=true:=by
 intro u hu;obtain⟨c,_,rfl⟩:=List.mem_map.1 hu;exact Xb c
structure Bn(w w':World)(l:List UInt8)(a:Option Addr)(c:Nat):Prop where
 row:Row w' ty.uint8 1 a l.length c (l.map Ag)
 new:∀ k,AD a=some k->w.heap.size<=k
 Ar:Below w.heap.size w w'
theorem Ac{a b c:World}(h:Below a.heap.size a b)(h':Below b.heap.size b c):Below a.heap.size a c:=h.trans (h'.mono h.size)
theorem Bn.rd{w w':World}{l:List UInt8}{a:Option Addr}{c:Nat}(h:Bn w w' l a c):Rd w' a (l.map Ag):=h.row.rd
theorem Bn.grown{w w' w2:World}{l:List UInt8}{a:Option Addr}{c:Nat}(h:Bn w w' l a c)(hb:Below w'.heap.size w' w2):Bn w w2 l a c:=⟨h.row.grown hb,h.new,Ac h.Ar hb⟩
theorem Bn.before{w0 w w':World}{l:List UInt8}{a:Option Addr}{c:Nat}(hb:Below w0.heap.size w0 w)(h:Bn w w' l a c):Bn w0 w' l a c:=⟨h.row,λ k hk=>Ali hb.size (h.new k hk),Ac hb h.Ar⟩
theorem CN{w:World}{a:Option Addr}{c:Nat}{l:List UInt8}(hr:Row w ty.uint8 1 a l.length c (l.map Ag))(hl:l.length+1<=140737488355328){x:UInt8}{v:Value}(hv:v=Ag x){b:Nat}{t:TypeId}
  (hb:w.heap[b]?=some (.cells #[v] t (0,0))) {f:Value->World->Prop}
  (hf:∀ a' c' w',Row w' ty.uint8 1 a' (l++[x]).length c' ((l++[x]).map Ag)->Ai (λ k=>AD a=some k) w w'->(∀ k,AD a'=some k->AD a=some k\/w.heap.size<=k)->f (.slice a' (l++[x]).length c') w') :
  DE Tryz.prog (Builtin.append_ #[ty.AH,ty.AH] ty.AH #[.slice a l.length c,.slice (some ⟨b,0,none⟩) 1 1]) f w:=by
 subst hv;have aW:Rd w (some ⟨b,0,none⟩) ([x].map Ag):=by
  have:=Rd.Ak hb;simpa using this
 obtain⟨a',c',w',aH,aI,hk,bE⟩:=BX (ty:=ty.AH) (mc:=1) tB zB (by omega) (by omega) hr aW (m:=1) rfl (Ge _) (by omega);unfold DE;rw [aH];have hlen:(l++[x]).length=l.length+1:=by simp
 rw [<- Alk,<- hlen] at aI;rw [<- hlen];exact hf a' c' w' aI hk bE
theorem A8{w:World}{a:Option Addr}{c:Nat}{l:List UInt8}(hr:Row w ty.uint8 1 a l.length c (l.map Ag)){m:List UInt8}{b:Option Addr}{mc:Nat}(hb:Rd w b (m.map Ag))(hl:l.length+m.length<=140737488355328){f:Value->World->Prop}
  (hf:∀ a' c' w',Row w' ty.uint8 1 a' (l++m).length c' ((l++m).map Ag)->Ai (λ k=>AD a=some k) w w'->(∀ k,AD a'=some k->AD a=some k\/w.heap.size<=k)->f (.slice a' (l++m).length c') w') :
  DE Tryz.prog (Builtin.append_ #[ty.AH,ty.AH] ty.AH #[.slice a l.length c,.slice b m.length mc]) f w:=by
 obtain⟨a',c',w',aH,aI,hk,bE⟩:=BX (ty:=ty.AH) (mc:=mc) tB zB (by omega) (by omega) hr hb (m:=m.length) (by simp) (Ge _) (by omega);unfold DE;rw [aH];have hlen:(l++m).length=l.length+m.length:=by simp
 rw [<- Alk,<- hlen] at aI;rw [<- hlen];exact hf a' c' w' aI hk bE
theorem Aby{w:World}{a:Option Addr}{c:Nat}{l:List UInt8}(hr:Row w ty.uint8 1 a l.length c (l.map Ag))(s:ByteArray)(hl:l.length+s.size<=140737488355328){f:Value->World->Prop}
  (hf:∀ a' c' w',Row w' ty.uint8 1 a' (l++bl s).length c' ((l++bl s).map Ag)->Ai (λ k=>AD a=some k) w w'->(∀ k,AD a'=some k->AD a=some k\/w.heap.size<=k)->f (.slice a' (l++bl s).length c') w') :
  DE Tryz.prog (Builtin.append_ #[ty.AH,ty.string] ty.AH #[.slice a l.length c,.string s]) f w:=by
 obtain⟨a',c',w',aH,aI,hk,bE⟩:=VZ (ty:=ty.AH) tB (show Tryz.prog.underlying ty.string=some .string by kernel_rfl) zB (by omega) hr s (by omega);unfold DE;rw [aH];have hlen:(l++bl s).length=l.length+s.size:=by rw [Ak1,A9]
 rw [<- Alk,<- hlen] at aI;rw [<- hlen];exact hf a' c' w' aI hk bE
/-! ### digits -/
def Af(n:Nat):List UInt8:=if h:n<128 then [Ak9 n] else Ak9 (n % 128+128) :: Af (n / 128)
termination_by n
decreasing_by omega
theorem Io(n:Nat):Af n≠[]:=by unfold Af;split <;> simp
theorem Sg:∀(k n:Nat),n<128 ^ (k+1)->(Af n).length<=k+1
 | 0,n,h=>by unfold Af;rw [dif_pos (by simpa using h)];simp
 | k+1,n,h=>by
  unfold Af;split
  ·simp
  ·have:=Sg k (n / 128) (by rw [Ale] at h;exact Nat.div_lt_of_lt_mul (by rw [Alf];exact h));simp only [Ak3];omega
theorem Al{n:Nat}(h:n<18446744073709551616):(Af n).length<=10:=Sg 9 n (Nat.lt_trans h (by decide))
theorem Ajf{n:Nat}(h:n<18446744073709551616):(AkA 64 (n:Int) &&& AkA 64 127).toNat=n % 128:=by
 rw [BitVec.toNat_and,Alc,Alb,Ala (by omega)];have:=Nat.and_two_pow_sub_one_eq_mod n 7;exact this
theorem Aj9{n:Nat}(h:n<18446744073709551616):IntKind.u8.wrap (IntKind.u64.wrap (((AkA 64 (n:Int) &&& AkA 64 127).toNat:Int)))=((n % 128:Nat):Int):=by
 rw [Ajf h,Aj (by omega) (by omega),AE (by omega) (by omega)]
theorem AjF{x:Nat}(h:x<128):IntKind.u8.wrap (((AkA 8 (x:Int) ||| AkA 8 128).toNat:Int))=((x+128:Nat):Int):=by
 have e:(AkA 8 (x:Int) ||| AkA 8 128).toNat=x+128:=by
  rw [Alo,Alc,Alb,Ala (by omega)];have:=Alp (i:=7) (b:=x) (by omega) 1;rw [Alq];have h2:(AkA 8 128).toNat=128:=by decide
  rw [h2];have h3:2 ^ 7*1 ||| x=2 ^ 7*1+x:=this.symm;have h4:(128:Nat) ||| x=128+x:=h3;rw [h4];omega
 rw [e,AE (by omega) (by omega)]
theorem Akx(n:Nat):Alj (n:Int) (2 ^ (min 7 64))=((n / 128:Nat):Int):=by
 rw [Int.fdiv_eq_ediv_of_nonneg _ (by decide)]
 norm_cast
theorem CA{x:Nat}(h:x<256):Value.int .u8 (x:Int)=Ag (Ak9 x):=by
 unfold Ag;congr 1;simp;omega
theorem KV(w:World)(n:Nat)(hn:n<18446744073709551616):Calls Tryz.prog f.Aat #[.int .u64 (n:Int)] w (AG λ v w'=>∃ a c,v=.slice a (Af n).length c/\Bn w w' (Af n) a c):=by
 apply R.Pz
 delta R.B R.F R.J R.Ks R.N R.O R.Qus R.S R.U R.Wb R.Wu;try dsimp only [R.Ps]
 refine⟨λ s w1=>∃(m:Nat) (a:Option Addr) (c:Nat) (l:List UInt8),s=[.int .u64 (m:Int),.slice a l.length c]/\m<18446744073709551616/\l++Af m=Af n/\Bn w w1 l a c,
  λ s _=>match s with
   | [.int _ i,_]=>i.toNat
   | _=>0,⟨n,none,0,[],rfl,hn,rfl,Row.nil _ _ _,by simp [AD],.refl _ _⟩,?_⟩
 rintro _ a _ c w1 ⟨m,_,_,l,hs,hm,hl,h1⟩;cases hs;have hlen:l.length+1<=140737488355328:=by
  have:=Al hn;rw [<- hl] at this;simp at this;omega
 rw [Akx,Aj9 hm];refine Ao (λ h0=>?_) (λ h0=>?_)
 ·have fM:m<128:=by omega
  refine (SH.start (λ _=>False) w1).An λ b5 w2 fX B2 S2=>?_;refine CN (h1.grown B2).row hlen (x:=Ak9 m) (by rw [Ala fM];exact CA (by omega)) (S2.get 0 rfl) λ a' c' w3 R3 K3 N3=>⟨_,_,_,rfl,?_⟩;have e:l++[Ak9 m]=Af n:=by rw [<- hl];conv=>rhs;unfold Af;rw [dif_pos fM]
  rw [e] at R3;rw [e];refine⟨a',c',rfl,R3,λ k hk=>?_,(h1.grown B2).Ar.trans (K3.below (h1.grown B2).Ar.size λ k hk he=>by have:=h1.new k he;omega)⟩;rcases N3 k hk with h | h
  ·exact h1.new k h
  ·exact Ali (h1.grown B2).Ar.size h
 ·have fM:¬ m<128:=by omega
  rw [AjF (Alr _ (by omega))];refine (SH.start (λ _=>False) w1).An λ b5 w2 fX B2 S2=>?_;refine CN (h1.grown B2).row hlen (x:=Ak9 (m % 128+128)) (CA (by omega)) (S2.get 0 rfl) λ a' c' w3 R3 K3 N3=>⟨_,_,_,rfl,?_⟩;refine⟨⟨m / 128,a',c',_,rfl,by omega,?_,R3,λ k hk=>?_,(h1.grown B2).Ar.trans (K3.below (h1.grown B2).Ar.size λ k hk he=>by have:=h1.new k he;omega)⟩,?_⟩
  ·rw [<- hl]
   conv=>rhs;rhs;unfold Af;rw [dif_neg fM]
   simp
  ·rcases N3 k hk with h | h
   ·exact h1.new k h
   ·exact Ali (h1.grown B2).Ar.size h
  ·simp only [Ak4];omega
/-! ### Concat -/
abbrev DY:=Option Addr × Nat × List UInt8
def BZ(p:DY):Value:=.slice p.1 p.2.2.length p.2.1
def BV(ps:List DY):List UInt8:=ps.flatMap (·.2.2)
theorem Jy(ps:List DY)(k:Nat)(hk:k<ps.length):BV (ps.take (k+1))=BV (ps.take k)++ps[k].2.2:=by
 unfold BV;rw [List.take_succ_eq_append_getElem hk,List.flatMap_append];simp
theorem Aak(ps:List DY)(k:Nat):(BV (ps.take k)).length<=(BV ps).length:=by
 have:BV ps=BV (ps.take k)++BV (ps.drop k):=by
  unfold BV;rw [<- List.flatMap_append,List.take_append_drop]
 rw [this,Ak1];omega
theorem TE(w:World)(n:Nat)(hn:n<=140737488355328):Calls Tryz.prog f.KI #[.slice none 0 0,.int .i64 (n:Int)] w
  (AG λ v w'=>∃ a c,v=.slice a 0 c/\n<=c/\Row w' ty.uint8 1 a 0 c []/\(∀ k,AD a=some k->w.heap.size<=k)/\Below w.heap.size w w'):=by
 apply R.Hk
 delta R.F R.I R.Rs R.S R.W R.Y;try dsimp only [R.Ps]
 have e0:IntKind.i64.wrap (((0:Nat):Int)-((0:Nat):Int))=0:=by rw [wrap_i64 (by omega) (by omega)];omega
 have e1:IntKind.i64.wrap ((n:Int)-0)=(n:Int):=by rw [wrap_i64 (by omega) (by omega)];omega
 refine Aa (λ h=>by omega) (λ _=>?_);rw [e0,e1];refine Aa (λ hp=>⟨⟨by omega,by omega,by omega⟩,?_⟩) (λ hp=>?_)
 ·obtain⟨c',w',aH,aI,hc,hb⟩:=Qo (u:=ty.int) (ty:=ty.AH) tB (show Tryz.prog.underlying ty.int=some (.int .i64) by kernel_rfl) zB (by omega) (by omega) (w:=w) (m:=n) (by omega) (by omega);have hs:Ck none 0 0 1=none:=rfl;unfold DE;rw [hs];simp only [Nat.sub_zero,aH];refine⟨_,_,_,rfl,⟨by omega,by omega,by omega⟩,some ⟨w.heap.size,0,none⟩,c',?_,hc,aI,λ k hk=>by simp [AD] at hk;omega,hb⟩;have:Ck (some (⟨w.heap.size,0,none⟩:Addr)) 0 c' 1=some ⟨w.heap.size,0,none⟩:=by
   unfold Ck;split
   ·rfl
   ·simp [Db]
  rw [this]
 ·have:n=0:=by omega
  subst this;exact⟨none,0,rfl,Nat.le_refl _,Row.nil _ _ _,by simp [AD],.refl _ _⟩
theorem Bp{w:World}{a:Option Addr}{c:Nat}(ps:List DY)(hp:Rd w a (ps.map BZ))(hb:∀ p∈ps,Rd w p.1 (p.2.2.map Ag))(hn:ps.length<9223372036854775807)(hl:(BV ps).length<=140737488355328) :
  Calls Tryz.prog f.Jc #[.slice a ps.length c] w (AG λ v w'=>∃ a c,v=.slice a (BV ps).length c/\Bn w w' (BV ps) a c):=by
 apply R.Gv
 delta R.Ad R.Cs R.F R.I R.Ks R.Ls R.O R.MJ R.ER R.S R.W R.X;try dsimp only [R.Ps]
 refine⟨λ s w1=>∃ k:Nat,s=[.int .i64 ((BV (ps.take k)).length:Int),.int .i64 k]/\k<=ps.length/\w1=w,
  λ s _=>match s with
   | [_,.int _ i]=>ps.length-i.toNat
   | _=>0,⟨0,rfl,Nat.zero_le _,rfl⟩,?_⟩
 rintro _ _ w1 ⟨k,hs,hk,rfl⟩;cases hs;refine Aa (λ aB=>⟨⟨by omega,aB⟩,?_⟩) (λ aJ=>?_)
 ·have aO:k<ps.length:=by omega
  obtain⟨p,rfl,hc⟩:=hp k (BZ ps[k]) (by simp [aO]);have h1:=Aak ps (k+1);rw [Jy ps k aO,Ak1] at h1;refine⟨_,_,_,by rw [Ak4,Ak7];exact hc,?_⟩;have e:IntKind.i64.wrap (((BV (ps.take k)).length:Int)+(ps[k].2.2.length:Int))=((BV (ps.take (k+1))).length:Int):=by
   rw [Jy ps k aO,Ak1,wrap_i64 (by omega) (by omega)];omega
  rw [e];refine Aa (λ h=>by omega) (λ _=>?_);rw [Ae (by omega)];refine⟨⟨k+1,rfl,by omega,rfl⟩,?_⟩;simp only [Ak4];omega
 ·have jh:k=ps.length:=by omega
  subst jh;rw [List.take_length];refine (TE w1 _ hl).mono ?_;rintro _ w2 ⟨_,rfl,a2,c2,rfl,cG,R2,N2,B2⟩;refine⟨_,_,_,rfl,?_⟩;refine⟨λ s w3=>∃(k:Nat) (a3:Option Addr) (c3:Nat),s=[.slice a3 (BV (ps.take k)).length c3,.int .i64 k]/\k<=ps.length/\Bn w1 w3 (BV (ps.take k)) a3 c3,
   λ s _=>match s with
    | [_,.int _ i]=>ps.length-i.toNat
    | _=>0,⟨0,a2,c2,rfl,Nat.zero_le _,R2,N2,B2⟩,?_⟩
  rintro a3 _ c3 _ w3 ⟨k,_,_,hs,hk,h3⟩;cases hs;refine Aa (λ aB=>⟨⟨by omega,aB⟩,?_⟩) (λ aJ=>?_)
  ·have aO:k<ps.length:=by omega
   obtain⟨p,rfl,hc⟩:=(hp.grown h3.Ar) k (BZ ps[k]) (by simp [aO]);have h1:=Aak ps (k+1);rw [Jy ps k aO,Ak1] at h1;refine⟨_,_,_,by rw [Ak4,Ak7];exact hc,?_⟩;refine A8 h3.row ((hb _ (List.getElem_mem aO)).grown h3.Ar) (by omega) λ a' c' w4 R4 K4 N4=>⟨_,_,_,rfl,?_⟩;rw [<- Jy ps k aO] at R4 ⊢;rw [Ae (by omega)];refine⟨⟨k+1,a',c',rfl,by omega,R4,λ j hj=>?_,h3.Ar.trans (K4.below h3.Ar.size λ j hj he=>by have:=h3.new j he;omega)⟩,?_⟩
   ·rcases N4 j hj with h | h
    ·exact h3.new j h
    ·exact Ali h3.Ar.size h
   ·simp only [Ak4];omega
  ·have jh:k=ps.length:=by omega
   subst jh;rw [List.take_length] at h3 ⊢;exact⟨a3,c3,rfl,h3⟩
theorem Vp(a b:DY):BV [a,b]=a.2.2++b.2.2:=by simp [BV]
theorem Xl(a b c:DY):BV [a,b,c]=a.2.2++(b.2.2++c.2.2):=by simp [BV]
theorem Bf{w:World}{a:Option Addr}{c:Nat}(l:List UInt8)(hl:Rd w a (l.map Ag))(n:Nat)(hn:n<18446744073709551616)(hs:l.length+10<=140737488355328) :
  Calls Tryz.prog f.Sf #[.slice a l.length c,.int .u64 (n:Int)] w (AG λ v w'=>∃ a c,v=.slice a (l++Af n).length c/\Bn w w' (l++Af n) a c):=by
 apply R.Qw
 delta R.Cs R.J R.N R.S R.U;try dsimp only [R.Ps]
 refine (KV w n hn).mono ?_;rintro _ w1 ⟨_,rfl,a1,c1,rfl,h1⟩;refine⟨_,_,_,rfl,(SH.start (λ _=>False) w1).An λ b5 w2 fX B2 S2=>?_⟩;have hd:=Al hn;have h2:=h1.grown B2;refine (Bp [(a,c,l),(a1,c1,Af n)] (by have:=Rd.Ak (S2.get 0 rfl);simpa [BZ] using this) (by
  intro p hp;simp only [List.mem_cons,List.not_mem_nil,or_false] at hp;rcases hp with rfl | rfl
  ·exact hl.grown h2.Ar
  ·exact h2.rd) (by simp) (by rw [Vp];simp;omega)).mono ?_
 rintro _ w3 ⟨_,rfl,a3,c3,rfl,h3⟩;rw [Vp] at h3 ⊢;exact⟨_,_,_,rfl,a3,c3,rfl,h3.before h2.Ar⟩
def Bu(s:ByteArray):List UInt8:=Af s.size++bl s
theorem Hg{w:World}{a:Option Addr}{c:Nat}(l:List UInt8)(hl:Rd w a (l.map Ag))(s:ByteArray)(hz:s.size<=1048576)(hs:l.length+10+s.size<=140737488355328) :
  Calls Tryz.prog f.Aes #[.slice a l.length c,.string s] w (AG λ v w'=>∃ a c,v=.tuple #[.slice a (l++Bu s).length c,.int .i64 0]/\Bn w w' (l++Bu s) a c):=by
 apply R.Td
 delta R.Cs R.F R.H R.I R.J R.N R.O R.Rs R.S R.T R.U R.Wu;try dsimp only [R.Ps]
 refine Aa (λ h=>by omega) (λ _=>?_);rw [Aj (by omega) (by omega)];refine (KV w s.size (by omega)).mono ?_;rintro _ w1 ⟨_,rfl,a1,c1,rfl,h1⟩;have hd:=Al (n:=s.size) (by omega);refine⟨_,_,_,rfl,CF CB s w1 λ b c2 cs e w2 hb B2 hh al iY dA=>⟨_,_,_,rfl,(SH.start (λ _=>False) w2).An λ b7 w3 px B3 S3=>?_⟩⟩;have cr:Rd w2 (some ⟨b,0,none⟩) ((bl s).map Ag):=by rw [<- dA];exact (Rd.Ak hh).take _
 have h3:=(h1.grown B2).grown B3;have au:=A9 s;refine (Bp [(a,c,l),(a1,c1,Af s.size),(some ⟨b,0,none⟩,c2,bl s)] (by have:=Rd.Ak (S3.get 0 rfl);simpa [BZ,au] using this) (by
  intro p hp;simp only [List.mem_cons,List.not_mem_nil,or_false] at hp;rcases hp with rfl | rfl | rfl
  ·exact hl.grown h3.Ar
  ·exact h3.rd
  ·exact cr.grown B3) (by simp) (by rw [Xl];simp;omega)).mono ?_
 rintro _ w4 ⟨_,rfl,a3,c3,rfl,h4⟩;rw [Xl] at h4 ⊢;exact⟨_,_,_,rfl,a3,c3,rfl,h4.before h3.Ar⟩
def Cm(i acc:Nat):List UInt8->Option (Nat × Nat)
 | []=>none
 | c :: r=>if 9<i\/(i=9/\c.toNat≠1) then none else if c.toNat<128 then (if c.toNat=0/\0<i then none else some (acc+c.toNat*128 ^ i,i+1)) else Cm (i+1) (acc+(c.toNat % 128)*128 ^ i) r
def takeN(l:List UInt8)(at_:Int):Option (Nat × Nat):=if at_<0 then none else (Cm 0 0 (l.drop at_.toNat)).map λ x=>(x.1,at_.toNat+x.2)
def LX(o:Option (Nat × Nat)):Value :=
 match o with
 | some x=>.tuple #[.int .u64 (x.1:Int),.int .i64 (x.2:Int),.int .i64 0]
 | none=>.tuple #[.int .u64 0,.int .i64 0,.int .i64 20]
theorem JI:∀(l:List UInt8) (i acc n k:Nat),acc<128 ^ i->Cm i acc l=some (n,k)->n<18446744073709551616/\i<k/\k<=i+l.length/\k<=10/\(0<i->128 ^ i<=n)
 | [],_,_,_,_,_,h=>by simp [Cm] at h
 | c :: r,i,acc,n,k,ha,h=>by
  unfold Cm at h;split at h
  ·cases h
  ·rename_i hi;split at h
   ·rename_i hc;split at h
    ·cases h
    ·rename_i hz;simp only [Option.some.injEq,AkE] at h;obtain⟨rfl,rfl⟩:=h;refine⟨?_,by omega,by simp,by omega,λ h0=>?_⟩
     ·by_cases h9:i=9
      ·subst h9;have:c.toNat=1:=by omega
       rw [this];have:(128:Nat) ^ 9=9223372036854775808:=by decide
       omega
      ·have hp:(128:Nat) ^ i<=128 ^ 8:=All (by omega) (by omega);have:(128:Nat) ^ 8=72057594037927936:=by decide
       have h3:c.toNat*128 ^ i<=127*128 ^ i:=Ald _ (by omega);omega
     ·have h1:1<=c.toNat:=by omega
      have:1*128 ^ i<=c.toNat*128 ^ i:=Ald _ h1;omega
   ·rename_i hc;have jy:i<=8:=by omega
    have zw:(128:Nat) ^ (i+1)=128 ^ i*128:=Ale ..;have h3:(c.toNat % 128)*128 ^ i<=127*128 ^ i:=Ald _ (by omega);obtain⟨h1,h2,h4,h5,h6⟩:=JI r (i+1) _ n k (by omega) h;refine⟨h1,by omega,by simp;omega,h5,λ _=>?_⟩;have:=h6 (by omega);omega
theorem Aci(i:Nat):(128:Nat) ^ i=2 ^ (7*i):=by rw [Nat.pow_mul]
theorem AdI{acc c i:Nat}(ha:acc<128 ^ i)(hc:c<128)(hi:i<=9)(h9:i=9->c<=1) :
  acc+c*128 ^ i<18446744073709551616/\(AkA 64 (acc:Int) ||| AkA 64 ((c*128 ^ i:Nat):Int)).toNat=acc+c*128 ^ i:=by
 have hb:acc+c*128 ^ i<18446744073709551616:=by
  by_cases h:i=9
  ·subst h;have:=h9 rfl;have e:(128:Nat) ^ 9=9223372036854775808:=by decide
   have:c*128 ^ 9<=1*128 ^ 9:=Ald _ this;omega
  ·have hp:(128:Nat) ^ i<=128 ^ 8:=All (by omega) (by omega);have:(128:Nat) ^ 8=72057594037927936:=by decide
   have h3:c*128 ^ i<=127*128 ^ i:=Ald _ (by omega);omega
 refine⟨hb,?_⟩;rw [Alo,Alc,Alc,Alb,Alb,Ala (by omega),Ala (by omega),Aci,Alq];rw [Aci] at ha;have:=Alp (i:=7*i) (b:=acc) ha c;rw [Alf c,<- this];omega
theorem AiN{x:Nat}(h:x<256):IntKind.u8.wrap (((AkA 8 (x:Int) &&& AkA 8 127).toNat:Int))=((x % 128:Nat):Int):=by
 have:(AkA 8 (x:Int) &&& AkA 8 127).toNat=x % 128:=by
  rw [BitVec.toNat_and,Alc,Alb,Ala (by omega)];exact Nat.and_two_pow_sub_one_eq_mod x 7
 rw [this,AE (by omega) (by omega)]
theorem Ux{c i:Nat}(hc:c<128)(hi:i<=9):IntKind.u64.wrap ((c:Int)*2 ^ (min (IntKind.i64.wrap (7*(i:Int))).toNat 64))=((c*128 ^ i % 18446744073709551616:Nat):Int):=by
 have e:min (IntKind.i64.wrap (7*(i:Int))).toNat 64=7*i:=by rw [wrap_i64 (by omega) (by omega)];omega
 rw [e,wrap_u64,Aci];have:((2:Int) ^ (7*i))=((2 ^ (7*i):Nat):Int):=by norm_cast
 rw [this,<- Int.natCast_mul];omega
section
variable {w:World}{a:Option Addr}{c:Nat}{l:List UInt8}
theorem byte_at(hl:Rd w a (l.map Ag)){i:Nat}(hi:i<l.length):∃ p,a=some p/\w.cell? (p.add (i*1))=some (.int .u8 (l[i].toNat:Int)):=by
 obtain⟨p,hp,hc⟩:=hl i (Ag l[i]) (by simp [hi]);exact⟨p,hp,by rw [Ak7];exact hc⟩
theorem Xr{i:Nat}(hi:i<l.length):l.drop i=l[i] :: l.drop (i+1):=List.drop_eq_getElem_cons hi
theorem AL(hl:Rd w a (l.map Ag))(hc:l.length<=c)(hs:l.length<=9223372036854775807)(at_:Int):Calls Tryz.prog f.SX #[.slice a l.length c,.int .i64 at_] w (AG λ v w'=>v=LX (takeN l at_)/\w'=w):=by
 apply R.Ky
 delta R.Ad R.F R.H R.I R.Ly R.Qui R.U R.W R.Wb R.Wu R.X R.Y R.Z;try dsimp only [R.Ps]
 refine Aa (λ h=>⟨by simp [takeN,h,LX],rfl⟩) (λ h0=>Aa (λ h=>⟨?_,rfl⟩) (λ h1=>?_))
 ·have:l.drop at_.toNat=[]:=Als (by omega);simp [takeN,h0,this,Cm,LX]
 obtain⟨at_,rfl⟩:∃ k:Nat,at_=k:=⟨at_.toNat,by omega⟩;rw [Ak4];have cU:at_<=l.length:=by omega
 have ht:takeN l (at_:Int)=(Cm 0 0 (l.drop at_)).map λ x=>(x.1,at_+x.2):=by unfold takeN;rw [if_neg h0];rfl
 refine⟨⟨by omega,by omega,by omega⟩,?_⟩;refine⟨λ s w1=>w1=w/\∃ i acc:Nat,s=[.int .u64 (acc:Int),.int .i64 (i:Int)]/\i<=10/\at_+i<=l.length/\acc<128 ^ i/\Cm 0 0 (l.drop at_)=Cm i acc (l.drop (at_+i)),
  λ s _=>match s with
   | [_,.int _ i]=>10-i.toNat
   | _=>0,⟨rfl,0,0,rfl,by omega,by omega,by simp,rfl⟩,?_⟩
 rintro _ _ w1 ⟨rfl,i,acc,bU,hi,hle,oB,br⟩;cases bU;have none_:Cm i acc (l.drop (at_+i))=none->(Value.tuple #[.int .u64 0,.int .i64 0,.int .i64 20]=LX (takeN l (at_:Int))/\w1=w1):=by
  intro hn;rw [ht,br,hn];exact⟨rfl,rfl⟩
 refine Aa (λ aB=>⟨⟨by omega,aB⟩,?_⟩) (λ aJ=>?_)
 ·have aD:at_+i<l.length:=by omega
  have cr:=(hl.OV at_ l.length c 1 hc);obtain⟨p,hp,aE⟩:=cr i (Ag l[at_+i]) (by
   rw [List.getElem?_take_of_lt (by omega),List.getElem?_drop,Ak7];simp [aD])
  rw [hp];refine⟨_,by rw [Ak4,Ak7];exact aE,?_⟩;have hd:=Xr aD;generalize iW:l[at_+i]=cc at hd;have lW:=cc.toNat_lt;refine⟨λ _ w2=>w2=w1/\¬ (9<i\/(i=9/\cc.toNat≠1)),?_,?_⟩
  ·refine Aa (λ h=>none_ (by rw [hd];unfold Cm;rw [if_pos (.inl (by omega))])) (λ h9=>Ao (λ h=>Ah (λ h2=>none_ (by rw [hd];unfold Cm;rw [if_pos (.inr ⟨by omega,by omega⟩)])) (λ h2=>⟨rfl,by omega⟩)) (λ h=>⟨rfl,by omega⟩))
  rintro w2 ⟨rfl,aP⟩;have qh:i<=9:=by omega
  have hm:cc.toNat % 128<128:=Alr _ (by omega);have h9:i=9->cc.toNat % 128<=1:=by omega
  obtain⟨hb,hor⟩:=AdI oB hm qh h9;have e1:IntKind.u64.wrap (IntKind.u8.wrap (((AkA 8 (cc.toNat:Int) &&& AkA 8 127).toNat:Int)))=((cc.toNat % 128:Nat):Int):=by rw [AiN lW,Aj (by omega) (by omega)]
  rw [e1,Ux hm qh,Ala (by omega:cc.toNat % 128*128 ^ i<18446744073709551616),hor,Aj (by omega) (by omega)];refine⟨by rw [wrap_i64 (by omega) (by omega)];omega,?_⟩;have fin:cc.toNat<128->¬ (cc.toNat=0/\0<i)->(Value.tuple #[.int .u64 ((acc+cc.toNat % 128*128 ^ i:Nat):Int),.int .i64 (IntKind.i64.wrap (IntKind.i64.wrap ((at_:Int)+(i:Int))+1)),.int .i64 0]=LX (takeN l (at_:Int))/\w2=w2):=by
   intro aB hz;refine⟨?_,rfl⟩;rw [ht,br,hd];unfold Cm;rw [if_neg aP,if_pos aB,if_neg hz,Ala aB,wrap_i64 (n:=(at_:Int)+(i:Int)) (by omega) (by omega),wrap_i64 (by omega) (by omega)];simp only [Option.map_some,LX];congr 5
  refine Aa (λ aB=>Ao (λ hz=>Aa (λ h=>none_ (by rw [hd];unfold Cm;rw [if_neg aP,if_pos (by omega),if_pos ⟨by omega,by omega⟩])) (λ h=>fin (by omega) (by omega))) (λ hz=>fin (by omega) (by omega))) (λ aJ=>?_);rw [Ae (by omega)];refine⟨⟨rfl,i+1,_,rfl,by omega,by omega,?_,?_⟩,?_⟩
  ·rw [Ale];have h3:(cc.toNat % 128)*128 ^ i<=127*128 ^ i:=Ald _ (by omega);omega
  ·rw [br,hd]
   conv=>lhs;unfold Cm
   rw [if_neg aP,if_neg (by omega)];rfl
  ·simp only [Ak4];omega
 ·refine none_ ?_;rw [Als (by omega)];rfl
theorem AJ(hl:Rd w a (l.map Ag))(hs:l.length<=9223372036854775807)(at_:Int)(cU:at_<=9223372036854775807):Calls Tryz.prog f.Rj #[.slice a l.length c,.int .i64 at_] w (AG λ v w'=>v=LX (takeN l at_)/\w'=w):=by
 apply R.JZ
 delta R.Ad R.F R.H R.I R.Ly R.Qui R.U R.W R.Wu R.X R.Z;try dsimp only [R.Ps]
 refine Aa (λ h=>⟨by simp [takeN,h,LX],rfl⟩) (λ h0=>?_);obtain⟨at_,rfl⟩:∃ k:Nat,at_=k:=⟨at_.toNat,by omega⟩;have ht:takeN l (at_:Int)=(Cm 0 0 (l.drop at_)).map λ x=>(x.1,at_+x.2):=by unfold takeN;rw [if_neg h0];rfl
 refine⟨λ s w1=>w1=w/\∃ i acc:Nat,s=[.int .u64 (acc:Int),.int .i64 (i:Int)]/\i<=10/\acc<128 ^ i/\Cm 0 0 (l.drop at_)=Cm i acc (l.drop (at_+i)),
  λ s _=>match s with
   | [_,.int _ i]=>10-i.toNat
   | _=>0,⟨rfl,0,0,rfl,by omega,by simp,rfl⟩,?_⟩
 rintro _ _ w1 ⟨rfl,i,acc,bU,hi,oB,br⟩;cases bU;have none_:Cm i acc (l.drop (at_+i))=none->(Value.tuple #[.int .u64 0,.int .i64 0,.int .i64 20]=LX (takeN l (at_:Int))/\w1=w1):=by
  intro hn;rw [ht,br,hn];exact⟨rfl,rfl⟩
 have nil_:l.length<=at_+i->Cm i acc (l.drop (at_+i))=none:=by
  intro h;rw [Als h];rfl
 refine Aa (λ zf=>Aa (λ xd=>?_) (λ h=>none_ (nil_ (by omega)))) (λ h=>none_ ?_)
 ·have ew:IntKind.i64.wrap ((l.length:Int)-(at_:Int))=(l.length:Int)-(at_:Int):=wrap_i64 (by omega) (by omega);rw [ew];refine Aa (λ zG=>?_) (λ h=>none_ (nil_ (by omega)));have aD:at_+i<l.length:=by omega
  have ei:IntKind.i64.wrap ((at_:Int)+(i:Int))=((at_+i:Nat):Int):=by rw [wrap_i64 (by omega) (by omega)];omega
  rw [ei];refine⟨⟨by omega,by omega⟩,?_⟩;obtain⟨p,rfl,aE⟩:=byte_at hl aD;refine⟨_,by rw [Ak4];exact aE,?_⟩;have hd:=Xr aD;generalize iW:l[at_+i]=cc at hd;have lW:=cc.toNat_lt;have qh:i<=9:=by omega
  refine⟨λ _ w2=>w2=w1/\¬ (i=9/\1<cc.toNat),?_,?_⟩
  ·refine Ao (λ h=>Aa (λ h2=>none_ (by rw [hd];unfold Cm;rw [if_pos (.inr ⟨by omega,by omega⟩)])) (λ h2=>⟨rfl,by omega⟩)) (λ h=>⟨rfl,by omega⟩)
  rintro w2 ⟨rfl,gF⟩;have hm:cc.toNat % 128<128:=Alr _ (by omega);have h9:i=9->cc.toNat % 128<=1:=by omega
  obtain⟨hb,_⟩:=AdI oB hm qh h9;have e1:IntKind.u64.wrap (Int.tmod (cc.toNat:Int) 128)=((cc.toNat % 128:Nat):Int):=by
   rw [Aln (by omega),Aj (by omega) (by omega)];omega
  rw [e1,Ux hm qh,Ala (by omega:cc.toNat % 128*128 ^ i<18446744073709551616)];have e2:IntKind.u64.wrap ((acc:Int)+((cc.toNat % 128*128 ^ i:Nat):Int))=((acc+cc.toNat % 128*128 ^ i:Nat):Int):=by
   rw [Aj (by omega) (by omega)];omega
  rw [e2];refine⟨by rw [wrap_i64 (by omega) (by omega)];omega,?_⟩;have qn:i=9->cc.toNat=0->Cm i acc (l.drop (at_+i))=none:=by
   intro h h0;rw [hd];unfold Cm;rw [if_pos (.inr ⟨h,by omega⟩)]
  have fin:cc.toNat<128->¬ (cc.toNat=0/\0<i)->(Value.tuple #[.int .u64 ((acc+cc.toNat % 128*128 ^ i:Nat):Int),.int .i64 (IntKind.i64.wrap (((at_+i:Nat):Int)+1)),.int .i64 0]=LX (takeN l (at_:Int))/\w2=w2):=by
   intro aB hz;refine⟨?_,rfl⟩;rw [ht,br,hd];unfold Cm;rw [if_neg (by omega),if_pos aB,if_neg hz,Ala aB,wrap_i64 (by omega) (by omega)];simp only [Option.map_some,LX];congr 5
  refine Aa (λ aB=>Ao (λ hz=>Aa (λ h=>none_ ?_) (λ h=>fin (by omega) (by omega))) (λ hz=>fin (by omega) (by omega))) (λ aJ=>?_)
  ·by_cases s7:i=9
   ·exact qn s7 (by omega)
   ·rw [hd];unfold Cm;rw [if_neg (by omega),if_pos (by omega),if_pos ⟨by omega,by omega⟩]
  rw [Ae (by omega)];refine⟨⟨rfl,i+1,_,rfl,by omega,?_,?_⟩,?_⟩
  ·rw [Ale];have h3:(cc.toNat % 128)*128 ^ i<=127*128 ^ i:=Ald _ (by omega);omega
  ·rw [br,hd]
   conv=>lhs;unfold Cm
   rw [if_neg (by omega),if_neg (by omega)];rfl
  ·simp only [Ak4];omega
 ·have lp:i=10:=by omega
  subst lp;cases hh:l.drop (at_+10) with
  | nil=>rfl
  | cons c r=>unfold Cm;rw [if_pos (.inl (by omega))]
end
theorem Az{l:List UInt8}{at_:Int}{n k:Nat}(h:takeN l at_=some (n,k)):n<18446744073709551616/\0<=at_/\at_.toNat<k/\k<=l.length/\k<=at_.toNat+10:=by
 unfold takeN at h;split at h
 ·cases h
 ·obtain⟨⟨x1,x2⟩,hx,he⟩:=Option.map_eq_some_iff.1 h;simp only [AkE] at he;obtain⟨rfl,rfl⟩:=he;obtain⟨h1,h2,h3,h4,_⟩:=JI _ 0 0 _ _ (by simp) hx;rw [Alu] at h3;refine⟨h1,by omega,by omega,by omega,by omega⟩
def BD(l:List UInt8)(at_:Int)(most:Nat):Option (List UInt8 × Nat) :=
 match takeN l at_ with
 | some x=>if 1048576<x.1\/most<x.1\/l.length-x.2<x.1 then none else some ((l.drop x.2).take x.1,x.2+x.1)
 | none=>none
def AfF(o:Option (List UInt8 × Nat)):Value :=
 match o with
 | some x=>.tuple #[.string (BC x.1),.int .i64 (x.2:Int),.int .i64 0]
 | none=>.tuple #[.string ⟨#[]⟩,.int .i64 0,.int .i64 20]
section
variable {w:World}{a:Option Addr}{c:Nat}{l:List UInt8}
theorem Es(hl:Rd w a (l.map Ag))(hc:l.length<=c)(hs:l.length<=9223372036854775807)(at_:Int)(most:Nat):Calls Tryz.prog f.V9 #[.slice a l.length c,.int .i64 at_,.int .i64 (most:Int)] w (AG λ v w'=>v=AfF (BD l at_ most)/\w'=w):=by
 apply R.MZ
 delta R.Bz R.F R.H R.I R.Rt R.S R.T R.W R.Y;try dsimp only [R.Ps]
 refine (AL hl hc hs at_).mono ?_;rintro _ w ⟨_,rfl,rfl,rfl⟩;cases ho:takeN l at_ with
 | none=>exact⟨_,_,_,rfl,CQ ⟨by simp only [BD,ho];rfl,rfl⟩⟩
 | some x =>
  obtain⟨n,k⟩:=x;obtain⟨h1,h2,h3,h4,h5⟩:=Az ho;have no:(1048576<n\/most<n\/l.length-k<n)->(Value.tuple #[.string ⟨#[]⟩,.int .i64 0,.int .i64 20]=AfF (BD l at_ most)/\w=w):=by
   intro h;refine⟨?_,rfl⟩;simp only [BD,ho];rw [if_pos h];rfl
  refine⟨_,_,_,rfl,AV (Aa (λ h=>no (.inl (by omega))) (λ eN=>?_))⟩;rw [wrap_i64 (n:=(n:Int)) (by omega) (by omega),wrap_i64 (n:=(l.length:Int)-(k:Int)) (by omega) (by omega)];refine Aa (λ h=>no (.inr (.inl (by omega)))) (λ gi=>Aa (λ h=>no (.inr (.inr (by omega)))) (λ y'=>?_));have e:IntKind.i64.wrap ((k:Int)+(n:Int))=((k+n:Nat):Int):=by rw [wrap_i64 (by omega) (by omega)];omega
  rw [e];refine⟨⟨by omega,by omega,by omega⟩,?_⟩;rw [Ak4,Ak4,Alm];have bD:=hl.OV k (k+n) c 1 (by omega);rw [Ak7,Ak7,Alm,<- Alv,<- Alw] at bD;have hlen:((l.drop k).take n).length=n:=by rw [List.length_take,Alu];omega
  refine Aw CB hlen.symm bD ⟨_,rfl,?_,rfl⟩;simp only [BD,ho];rw [if_neg (by omega)];rfl
theorem Ec(hl:Rd w a (l.map Ag))(hc:l.length<=c)(hs:l.length<=9223372036854775807)(at_:Int)(cU:at_<=9223372036854775807)(most:Nat):Calls Tryz.prog f.Uz #[.slice a l.length c,.int .i64 at_,.int .i64 (most:Int)] w (AG λ v w'=>v=AfF (BD l at_ most)/\w'=w):=by
 apply R.Mg
 delta R.Bz R.F R.H R.I R.Rt R.S R.T R.W R.Y;try dsimp only [R.Ps]
 refine (AJ hl hs at_ cU).mono ?_;rintro _ w ⟨_,rfl,rfl,rfl⟩;cases ho:takeN l at_ with
 | none=>exact⟨_,_,_,rfl,CQ ⟨by simp only [BD,ho];rfl,rfl⟩⟩
 | some x =>
  obtain⟨n,k⟩:=x;obtain⟨h1,h2,h3,h4,h5⟩:=Az ho;have no:(1048576<n\/most<n\/l.length-k<n)->(Value.tuple #[.string ⟨#[]⟩,.int .i64 0,.int .i64 20]=AfF (BD l at_ most)/\w=w):=by
   intro h;refine⟨?_,rfl⟩;simp only [BD,ho];rw [if_pos h];rfl
  refine⟨_,_,_,rfl,AV (Aa (λ h=>no (.inl (by omega))) (λ eN=>?_))⟩;rw [wrap_i64 (n:=(n:Int)) (by omega) (by omega),wrap_i64 (n:=(l.length:Int)-(k:Int)) (by omega) (by omega)];refine Aa (λ h=>no (.inr (.inl (by omega)))) (λ gi=>Aa (λ h=>no (.inr (.inr (by omega)))) (λ y'=>?_));have e:IntKind.i64.wrap ((k:Int)+(n:Int))=((k+n:Nat):Int):=by rw [wrap_i64 (by omega) (by omega)];omega
  rw [e];refine⟨⟨by omega,by omega,by omega⟩,?_⟩;rw [Ak4,Ak4,Alm];have bD:=hl.OV k (k+n) c 1 (by omega);rw [Ak7,Ak7,Alm,<- Alv,<- Alw] at bD;have hlen:((l.drop k).take n).length=n:=by rw [List.length_take,Alu];omega
  refine Aw CB hlen.symm bD ⟨_,rfl,?_,rfl⟩;simp only [BD,ho];rw [if_neg (by omega)];rfl
end
theorem Bn.Br{w w1 w2 w3:World}{l m:List UInt8}{a a':Option Addr}{c c':Nat}(h:Bn w w1 l a c)(hb:Below w1.heap.size w1 w2)(R:Row w3 ty.uint8 1 a' m.length c' (m.map Ag))(K:Ai (λ k=>AD a=some k) w2 w3)(N:∀ k,AD a'=some k->AD a=some k\/w2.heap.size<=k):Bn w w3 m a' c':=by
 have h2:=h.grown hb;refine⟨R,λ k hk=>?_,h2.Ar.trans (K.below h2.Ar.size λ k hk he=>by have:=h2.new k he;omega)⟩;rcases N k hk with hh | hh
 ·exact h2.new k hh
 ·exact Ali h2.Ar.size hh
section
variable {w:World}{a:Option Addr}{c:Nat}
theorem Bi(l:List UInt8)(hl:Rd w a (l.map Ag))(n:Nat)(hn:n<18446744073709551616)(hs:l.length+10<=140737488355328) :
  Calls Tryz.prog f.XY #[.slice a l.length c,.int .u64 (n:Int)] w (AG λ v w'=>∃ a c,v=.slice a (l++Af n).length c/\Bn w w' (l++Af n) a c):=by
 apply R.OP
 delta R.B R.F R.I R.J R.Ks R.N R.Qus R.Rs R.S R.U R.W R.Wb R.Wu;try dsimp only [R.Ps]
 have e:IntKind.i64.wrap ((l.length:Int)+10)=((l.length+10:Nat):Int):=by rw [wrap_i64 (by omega) (by omega)];omega
 rw [e];refine Hx tB (by omega) (by omega) λ b w1 hb B1 R1=>⟨_,_,_,rfl,?_⟩;refine A8 (l:=[]) R1 (hl.grown B1) (by simp;omega) λ a2 c2 w2 R2 K2 N2=>⟨_,_,_,rfl,?_⟩;have h1:Bn w w1 [] (some ⟨b,0,none⟩) (l.length+10):=⟨R1,λ k hk=>by simp [AD] at hk;omega,B1⟩;have h2:Bn w w2 l a2 c2:=h1.Br (.refl _ _) R2 K2 N2;refine⟨λ s w3=>∃(m:Nat) (a:Option Addr) (c:Nat) (l':List UInt8),s=[.int .u64 (m:Int),.slice a l'.length c]/\m<18446744073709551616/\l'++Af m=l++Af n/\Bn w w3 l' a c,
  λ s _=>match s with
   | [.int _ i,_]=>i.toNat
   | _=>0,⟨n,a2,c2,l,rfl,hn,rfl,h2⟩,?_⟩
 rintro _ a3 _ c3 w3 ⟨m,_,_,l',bU,hm,cp,h3⟩;cases bU;have hlen:l'.length+1<=140737488355328:=by
  have h4:=Al hn;have h5:=congrArg List.length cp;have h6:=Io m;have h7:0<(Af m).length:=List.length_pos_iff.2 h6;simp only [Ak1] at h5;omega
 refine Aa (λ h=>?_) (λ h=>?_)
 ·have e1:IntKind.u8.wrap (IntKind.u8.wrap (Int.tmod (m:Int) 128)+128)=((m % 128+128:Nat):Int):=by
   rw [Aln (by omega),AE (n:=(m:Int) % 128) (by omega) (by omega),AE (by omega) (by omega)];omega
  have e2:IntKind.u64.wrap (Int.tdiv (m:Int) 128)=((m / 128:Nat):Int):=by rw [Int.tdiv_eq_ediv_of_nonneg (by omega),Aj (by omega) (by omega)];omega
  rw [e1,e2];refine (SH.start (λ _=>False) w3).An λ tu w6 mg B6 S6=>?_;refine CN (h3.grown B6).row hlen (x:=Ak9 (m % 128+128)) (CA (by omega)) (S6.get 0 rfl) λ a7 c7 w7 R7 K7 N7=>⟨_,_,_,rfl,⟨m / 128,a7,c7,_,rfl,by omega,?_,h3.Br B6 R7 K7 N7⟩,?_⟩
  ·rw [<- cp]
   conv=>rhs;rhs;unfold Af;rw [dif_neg (by omega)]
   simp
  ·simp only [Ak4];omega
 ·have fM:m<128:=by omega
  rw [AE (n:=(m:Int)) (by omega) (by omega)];refine (SH.start (λ _=>False) w3).An λ tu w6 mg B6 S6=>?_;refine CN (h3.grown B6).row hlen (x:=Ak9 m) (CA (by omega)) (S6.get 0 rfl) λ a7 c7 w7 R7 K7 N7=>⟨_,_,_,rfl,?_⟩;have e:l'++[Ak9 m]=l++Af n:=by rw [<- cp];conv=>rhs;rhs;unfold Af;rw [dif_pos fM]
  have h7:=h3.Br B6 R7 K7 N7;rw [e] at h7 ⊢;exact⟨a7,c7,rfl,h7⟩
theorem GA(l:List UInt8)(hl:Rd w a (l.map Ag))(s:ByteArray)(hz:s.size<=1048576)(hs:l.length+10+s.size<=140737488355328) :
  Calls Tryz.prog f.AbV #[.slice a l.length c,.string s] w (AG λ v w'=>∃ a c,v=.tuple #[.slice a (l++Bu s).length c,.int .i64 0]/\Bn w w' (l++Bu s) a c):=by
 apply R.Q0
 delta R.Cs R.F R.H R.I R.O R.Rs R.S R.T R.U R.Wu;try dsimp only [R.Ps]
 refine Aa (λ h=>by omega) (λ _=>?_);rw [Aj (by omega) (by omega)];refine (Bi l hl s.size (by omega) (by omega)).mono ?_;rintro _ w1 ⟨_,rfl,a1,c1,rfl,h1⟩;have hd:=Al (n:=s.size) (by omega);refine⟨_,_,_,rfl,Aby h1.row s (by simp only [Ak1];omega) λ a2 c2 w2 R2 K2 N2=>⟨_,_,_,rfl,?_⟩⟩;have h2:=h1.Br (.refl _ _) R2 K2 N2;have e:l++Af s.size++bl s=l++Bu s:=by rw [Bu,List.append_assoc]
 rw [e] at h2 ⊢;exact⟨a2,c2,rfl,h2⟩
end
theorem EY{n:Nat}(h:n<256):(Ak9 n).toNat=n:=by simp;omega
theorem IL{n:Nat}(h:n<128):Af n=[Ak9 n]:=by unfold Af;rw [dif_pos h]
theorem Sj{n:Nat}(h:¬ n<128):Af n=Ak9 (n % 128+128) :: Af (n / 128):=by conv=>lhs;unfold Af;rw [dif_neg h]
theorem P1(n:Nat):∀(i acc:Nat) (r:List UInt8),n*128 ^ i<18446744073709551616->i<=9->(n=0->i=0)->Cm i acc (Af n++r)=some (acc+n*128 ^ i,i+(Af n).length):=by
 induction n using Nat.strongRecOn with
 | _ n ih =>
  intro i acc r hn hi h0;by_cases h:n<128
  ·rw [IL h];simp only [List.singleton_append,Cm];rw [EY (by omega)];have e9:i=9->n=1:=by
    intro h9;subst h9;have:(128:Nat) ^ 9=9223372036854775808:=by decide
    rw [this] at hn;have:n≠0:=λ h=>by have:=h0 h;omega
    omega
   rw [if_neg (by omega),if_pos h,if_neg (by omega)];rfl
  ·rw [Sj h];simp only [List.cons_append,Cm];rw [EY (by omega)];have h8:i<=8:=by
    by_cases h9:i=9
    ·subst h9;have:(128:Nat) ^ 9=9223372036854775808:=by decide
     rw [this] at hn;omega
    ·omega
   have ep:(128:Nat) ^ (i+1)=128*128 ^ i:=by rw [Ale,Alf]
   have key:n / 128*128 ^ (i+1)+n % 128*128 ^ i=n*128 ^ i:=by
    rw [ep,<- Nat.mul_assoc,<- Nat.add_mul];congr 1;omega
   rw [if_neg (by omega),if_neg (by omega),ih (n / 128) (by omega) (i+1) _ r (by omega) (by omega) (by omega)];simp only [Ak3];have:(n % 128+128) % 128=n % 128:=by omega
   rw [this];congr 2
   ·omega
   ·omega
theorem Uu:∀(l:List UInt8) (i acc n k:Nat),Cm i acc l=some (n,k)->∃ m,n=acc+m*128 ^ i/\k=i+(Af m).length/\l=Af m++l.drop (Af m).length/\(0<i->m≠0)
 | [],_,_,_,_,h=>by simp [Cm] at h
 | c :: r,i,acc,n,k,h=>by
  have hc:=c.toNat_lt;unfold Cm at h;split at h
  ·cases h
  ·split at h
   ·rename_i aB;split at h
    ·cases h
    ·rename_i hz;simp only [Option.some.injEq,AkE] at h;obtain⟨rfl,rfl⟩:=h;refine⟨c.toNat,rfl,?_,?_,λ hi hh=>hz ⟨hh,hi⟩⟩
     ·rw [IL aB];rfl
     ·rw [IL aB];simp
   ·rename_i aJ;obtain⟨m,e1,e2,e3,e4⟩:=Uu r (i+1) _ n k h;have hm:=e4 (by omega);have hb:¬ (c.toNat % 128+128*m)<128:=by omega
    have ed:Af (c.toNat % 128+128*m)=c :: Af m:=by
     rw [Sj hb];have h1:(c.toNat % 128+128*m) % 128+128=c.toNat:=by omega
     have h2:(c.toNat % 128+128*m) / 128=m:=by omega
     rw [h1,h2];simp
    refine⟨c.toNat % 128+128*m,?_,?_,?_,λ _=>by omega⟩
    ·rw [e1,Ale,Nat.add_mul,Nat.add_assoc];congr 2;rw [Alf (128 ^ i) 128,<- Nat.mul_assoc,Alf m 128]
    ·rw [e2,ed];simp only [Ak3];omega
    ·rw [ed];simp only [Ak3,List.drop_succ_cons,List.cons_append];rw [<- e3]
def W6(n:Nat):List UInt8:=AkZ n 0
def Nw(l:List UInt8)(p:Nat):List UInt8:=(l.drop p).take 64++W6 (64-min (l.length-p) 64)
theorem QH(l:List UInt8)(p:Nat):(Nw l p).length=64:=by
 simp [Nw,W6];omega
def DX(l:List UInt8)(p:Nat):Nat:=p+min (l.length-p) 64
def Gh(l:List UInt8):Nat->List Wd
 | 0=>Ca.set 0 (Ca.getD 0 0 ^^^ 16842784)
 | k+1=>Ua (Gh l k) (Nw l (64*k)) (DX l (64*k)) (DX l (64*k)==l.length)
theorem AeE(h:List Wd)(CJ:List UInt8)(n:Nat)(last:Bool):(Ua h CJ n last).length=h.length:=by
 unfold Ua;rw [Ya]
theorem IY(l:List UInt8):∀ k,(Gh l k).length=8
 | 0=>by simp [Gh,Ca]
 | k+1=>by rw [Gh,AeE,IY l k]
def Agv(l:List UInt8):Nat:=max 1 ((l.length+63) / 64)
def Akd(h:List Wd)(i:Nat):UInt8:=Ak9 ((h.getD (i / 4) 0) >>> (8*(i % 4))).toNat
def RG(h:List Wd):Nat->List UInt8
 | 0=>W6 32
 | i+1=>(RG h i).set i (Akd h i)
theorem Qp(h:List Wd):∀ i,(RG h i).length=32
 | 0=>by simp [RG,W6]
 | i+1=>by simp [RG,Qp h i]
def Iw(l:List UInt8):List UInt8:=RG (Gh l (Agv l)) 32
theorem YQ(v:List UInt8):∀ x∈v.map Ag,x.oneCell'=true:=by
 rw [MB];exact Vs _ _
section
variable {F:Nat->Prop}{w0 w:World}{H:List Y9}
theorem _root_.Go.Dn.SH.AiA(S:SH F w0 w H)(n:Nat){b:Nat}{v:List UInt8}{t:TypeId}(hn:H[n]?=some (b,⟨v.map Ag⟩,t)){j x:Nat}(hj:j<v.length)(hx:x=j){y:UInt8}{k:World->Prop}
  (hk:∀ w',SH F w0 w' (H.set n (b,⟨(v.set j y).map Ag⟩,t))->k w'):DV ((⟨b,0,none⟩:Addr).add (x*1)) (.int .u8 (y.toNat:Int)) k w:=by
 subst hx;rw [Ax,Ak6,Ak7];refine S.BR n hn (by simpa using hj) λ w' S'=>hk w' ?_;have e:(⟨v.map Ag⟩:Array Value).setIfInBounds x (.int .u8 (y.toNat:Int))=⟨(v.set x y).map Ag⟩:=by
  apply Array.ext';simp [Ag,List.map_set]
 rw [e] at S';exact S'
end
theorem Wy(x:Wd)(k:Nat)(hk:k<=32):IntKind.u8.wrap (Alj (x.toNat:Int) (2 ^ (min k 32)))=((Ak9 (x >>> k).toNat).toNat:Int):=by
 rw [Nat.min_eq_left hk,J0,wrap_u8];simp
theorem Mp{w:World}(T:I8 w){a:Option Addr}{c:Nat}(ps:List DY)(hp:Rd w a (ps.map BZ))(hb:∀ p∈ps,Rd w p.1 (p.2.2.map Ag))(hn:ps.length<9223372036854775807)(hl:(BV ps).length<=140737488355328) :
  Calls Tryz.prog f.Af3 #[.slice a ps.length c] w (AG λ v w'=>v=.agg ⟨(Iw (BV ps)).map Ag⟩/\Below w.heap.size w w'):=by
 apply R.Ug
 delta R.A R.B R.Cs R.D R.F R.G R.I R.Lv R.Qi R.Ri R.S R.Am R.U R.V R.W R.Wb R.Wu R.Wv R.X R.Y R.Z;try dsimp only [R.Ps]
 refine (SH.start (λ _=>False) w).An λ b2 w1 _ B1 S=>?_;refine (Bp ps (hp.grown B1) (λ p h=>(hb p h).grown B1) hn hl).mono ?_;rintro _ w2 ⟨_,rfl,a2,c2,rfl,N2⟩;generalize BV ps=l at *;have S2:=S.grown N2.Ar;have T2:=T.grown S2.below;refine⟨_,_,_,rfl,Dd Ca rfl T2.first ?_⟩;refine (SH.start (λ _=>False) w2).An λ b6 w3 _ _ S=>Ds rfl (S.En 0 rfl (vs:=Ca.map wV) rfl (IE _) λ w4 _ S=>?_);refine⟨_,S.wd' 0 rfl (by simp [Ca]),?_⟩;have e0:∀ x:Wd,IntKind.u32.wrap (((AkA 32 (x.toNat:Int) ^^^ AkA 32 16842784).toNat:Int))=((x ^^^ 16842784).toNat:Int):=by
  intro x;rw [Bo,Bq];rfl
 rw [e0];refine S.Mi 0 rfl (by simp [Ca]) λ w5 S=>?_;refine⟨λ st w'=>∃ k:Nat,st=[.int .i64 ((64*k:Nat):Int)]/\(k<=1\/64*(k-1)<l.length)/\SH (λ _=>False) w2 w' [(b6,⟨(Gh l k).map wV⟩,216)],
  λ st _=>match st with | [.int _ t]=>((l.length:Int)+64-t).toNat | _=>0,⟨0,rfl,.inl (by omega),S⟩,?_⟩
 rintro t w6 ⟨k,aA,hk,S⟩;cases MO aA;have bD:=IY l k;refine⟨λ _ w'=>(k=0\/64*k<l.length)/\SH (λ _=>False) w2 w' [(b6,⟨(Gh l k).map wV⟩,216)],?_,?_⟩
 ·refine Ao (λ h=>⟨.inl (by omega),S⟩) (λ h0=>Aa (λ h=>⟨.inr (by omega),S⟩) (λ h=>?_));have qx:Agv l=k:=by
   unfold Agv;omega
  have S6:=S2.grown S.below;refine S.An λ b18 aj _ jF S=>?_;refine⟨λ st w'=>∃ i:Nat,st=[.int .i64 (i:Int)]/\i<=32/\SH (λ _=>False) w2 w' [(b18,⟨(RG (Gh l k) i).map Ag⟩,142),(b6,⟨(Gh l k).map wV⟩,216)],
   λ st _=>match st with | [.int _ t]=>(32-t).toNat | _=>0,⟨0,rfl,by omega,S⟩,?_⟩
  rintro t an ⟨i,aA,hi,S⟩;cases MO aA;have cE:=Qp (Gh l k) i;refine Aa (λ aB=>?_) (λ aJ=>?_)
  ·have de:i<32:=by omega
   rw [AdQ i (by omega),AdR i (by omega)];refine⟨⟨by omega,by omega⟩,_,S.wd 1 rfl (by omega) (Ak4 _),by omega,⟨by omega,aB⟩,?_⟩;rw [Ak4,Wy _ _ (by omega)];refine S.AiA 0 rfl (by omega) (Ak4 _) λ cf S=>?_;rw [Ae (by omega)];exact⟨⟨i+1,rfl,by omega,S⟩,by show (32-((i+1:Nat):Int)).toNat<(32-(i:Int)).toNat;omega⟩
  ·have de:i=32:=by omega
   have ay:((RG (Gh l k) i).map Ag).length=32:=by rw [Alh];exact cE
   refine HA (RG (Gh l k) i) cE (Rd.Ak (S.get 0 rfl)) (Ds ay ?_);refine (S2.grown S.below).En 0 rfl ay (YQ _) λ ah _ S'=>?_;refine HA (RG (Gh l k) i) cE (Rd.Ak (S'.get 0 rfl)) ⟨?_,S'.below⟩;unfold Iw;rw [qx,de]
 ·rintro w7 ⟨ax,S⟩;have iF:64*k<=l.length:=by omega
  refine S.An λ iR w8 _ _ S=>S.draw λ w9 S=>⟨⟨by omega,by omega,by omega⟩,⟨by omega,by omega,by have:=N2.row.le;omega⟩,?_⟩;have cr:Rd w9 (Ck a2 (64*k) c2 1) ((l.drop (64*k)).map Ag):=by
   have:=(N2.rd.grown S.below).OV (64*k) l.length c2 1 N2.row.le;rw [List.take_of_length_le (by simp),Ak7,<- Alv] at this;exact this
  rw [Ak4];refine S.copy 0 rfl (P:=Tryz.prog) (elem:=5) (by kernel_rfl) (by kernel_rfl) (a:=Ck a2 (64*k) c2 1) (xs:=(l.drop (64*k)).map Ag) (by simp) (by simp) cr (YQ _) λ bZ _ S=>?_;have eb:(⟨((l.drop (64*k)).map Ag).take 64++(AkZ 64 (Value.int .u8 0)).drop (min (l.length-64*k) 64)⟩:Array Value)=⟨(Nw l (64*k)).map Ag⟩:=by
   rw [List.drop_replicate];simp only [Nw,W6,Alk,List.map_replicate,Alw];rfl
  replace S:=eb ▸ S
  have ee:IntKind.i64.wrap (((64*k:Nat):Int)+((min (l.length-64*k) (64-0):Nat):Int))=((DX l (64*k):Nat):Int):=by
   unfold DX;rw [wrap_i64 (by omega) (by omega)];omega
  have eu:IntKind.u64.wrap ((DX l (64*k):Nat):Int)=((DX l (64*k):Nat):Int):=by
   have:DX l (64*k)<=l.length:=by unfold DX;omega
   rw [Aj (by omega) (by omega)]
  have ua:(((DX l (64*k):Nat):Int)==((l.length:Nat):Int))=(DX l (64*k)==l.length):=by
   rw [Bool.eq_iff_iff];simp;omega
  refine⟨_,rfl,Dd (Gh l k) bD (Rd.Ak (S.get 1 rfl)) (HA (Nw l (64*k)) (QH _ _) (Rd.Ak (S.get 0 rfl)) ?_)⟩;rw [ee,eu,ua];refine (Ain (T2.grown S.below) (Gh l k) bD (Nw l (64*k)) (QH _ _) (DX l (64*k)) (by unfold DX;omega) _).mono ?_;rintro _ aX ⟨_,rfl,rfl,cF⟩;have bn:=IY l (k+1);rw [Gh] at bn;refine O1 _ bn ⟨rfl,Ds (by rw [Alh];exact bn) ?_⟩;refine (S.grown cF).En 1 rfl (by simp only [Alh,bn,List.size_toArray,bD]) (IE _) λ bJ _ S=>?_;have z7:IntKind.i64.wrap (((64*k:Nat):Int)+64)=((64*(k+1):Nat):Int):=by rw [wrap_i64 (by omega) (by omega)];omega
  rw [z7];exact⟨⟨k+1,rfl,by omega,S.drop 1⟩,by show ((l.length:Int)+64-((64*(k+1):Nat):Int)).toNat<((l.length:Int)+64-((64*k:Nat):Int)).toNat;omega⟩
def Ajg(v:List Wd)(a b:Nat)(x:Wd):List Wd:=v.set a (v.getD a 0+v.getD b 0+x)
def Aif(v:List Wd)(d a r:Nat):List Wd:=v.set d (Acb (v.getD d 0 ^^^ v.getD a 0) r)
def AiV(v:List Wd)(c d:Nat):List Wd:=v.set c (v.getD c 0+v.getD d 0)
def Tq(v:List Wd)(a b c d:Nat)(x:Wd)(r s:Nat):List Wd:=Aif (AiV (Aif (Ajg v a b x) d a r) c d) b c s
def AhV(v:List Wd)(a b c d:Nat)(x y:Wd):List Wd:=Tq (Tq v a b c d x 16 12) a b c d y 8 7
theorem ZK(v:List Wd)(a b c d:Nat)(x:Wd)(r s:Nat):(Tq v a b c d x r s).length=v.length:=by simp [Tq,Ajg,Aif,AiV]
def Ag8(p:ByteArray)(j q:Nat):Prop:=IntKind.i64.wrap (IntKind.u8.wrap (((Ay p j).toNat:Int)-97))=(q:Int)
set_option maxHeartbeats 1000000 in
theorem AgE(v:List Wd)(hv:v.length=16)(p:ByteArray)(hp:p.size=4)(q0 q1 q2 q3:Nat)(h0:Ag8 p 0 q0)(h1:Ag8 p 1 q1)(h2:Ag8 p 2 q2)(h3:Ag8 p 3 q3)(l0:q0<16)(l1:q1<16)(l2:q2<16)(l3:q3<16)(x y:Wd)(w:World) :
  Calls Tryz.prog f.Abd #[.agg ⟨v.map wV⟩,.string p,.int .u32 (x.toNat:Int),.int .u32 (y.toNat:Int)] w (AG λ r w'=>r=.agg ⟨(AhV v q0 q1 q2 q3 x y).map wV⟩/\Below w.heap.size w w'):=by
 unfold Ag8 at h0 h1 h2 h3;apply R.PW
 delta R.A R.Cv R.D R.I R.Lv R.Am R.V R.W R.Wb R.Wv R.X;try dsimp only [R.Ps]
 rw [h0,h1,h2,h3];refine (SH.start (λ _=>False) w).An λ b5 w1 _ _ S=>S.An λ b6 w2 _ _ S=>⟨⟨by omega,by omega⟩,⟨by omega,by omega⟩,⟨by omega,by omega⟩,⟨by omega,by omega⟩,?_⟩;refine S.draw λ _ S=>⟨⟨by omega,by omega⟩,⟨by omega,by omega⟩,_,S.wd 1 rfl (by omega) (Ak4 _),_,S.wd 1 rfl (by omega) (Ak4 _),⟨by omega,by omega⟩,?_⟩;rw [Nn,Nn];refine S.Fk 1 rfl (by omega) (Ak4 _) λ _ S=>S.draw λ _ S=>⟨⟨by omega,by omega⟩,⟨by omega,by omega⟩,_,S.wd 1 rfl (by simp only [Ak8];omega) (Ak4 _),_,S.wd 1 rfl (by simp only [Ak8];omega) (Ak4 _),?_⟩;rw [Np];refine (TQ _ 16 (by omega) _).mono ?_;rintro _ _ ⟨_,rfl,rfl,B⟩
 replace S:=S.grown B
 refine⟨_,rfl,⟨by omega,by omega⟩,S.Fk 1 rfl (by simp only [Ak8];omega) (Ak4 _) λ _ S=>S.draw λ _ S=>⟨⟨by omega,by omega⟩,⟨by omega,by omega⟩,_,S.wd 1 rfl (by simp only [Ak8];omega) (Ak4 _),_,S.wd 1 rfl (by simp only [Ak8];omega) (Ak4 _),⟨by omega,by omega⟩,?_⟩⟩;rw [Nn];refine S.Fk 1 rfl (by simp only [Ak8];omega) (Ak4 _) λ _ S=>S.draw λ _ S=>⟨⟨by omega,by omega⟩,⟨by omega,by omega⟩,_,S.wd 1 rfl (by simp only [Ak8];omega) (Ak4 _),_,S.wd 1 rfl (by simp only [Ak8];omega) (Ak4 _),?_⟩;rw [Np];refine (TQ _ 12 (by omega) _).mono ?_;rintro _ _ ⟨_,rfl,rfl,B⟩
 replace S:=S.grown B
 refine⟨_,rfl,⟨by omega,by omega⟩,S.Fk 1 rfl (by simp only [Ak8];omega) (Ak4 _) λ _ S=>?_⟩;have hm:=(ZK v q0 q1 q2 q3 x 16 12).trans hv;change SH (λ _=>False) w _ [(b6,⟨AkZ 16 (.int .u32 0)⟩,224),(b5,⟨(Tq v q0 q1 q2 q3 x 16 12).map wV⟩,224)] at S;generalize hM:Tq v q0 q1 q2 q3 x 16 12=M at *;refine S.draw λ _ S=>⟨⟨by omega,by omega⟩,⟨by omega,by omega⟩,_,S.wd 1 rfl (by omega) (Ak4 _),_,S.wd 1 rfl (by omega) (Ak4 _),⟨by omega,by omega⟩,?_⟩;rw [Nn,Nn];refine S.Fk 1 rfl (by omega) (Ak4 _) λ _ S=>S.draw λ _ S=>⟨⟨by omega,by omega⟩,⟨by omega,by omega⟩,_,S.wd 1 rfl (by simp only [Ak8];omega) (Ak4 _),_,S.wd 1 rfl (by simp only [Ak8];omega) (Ak4 _),?_⟩;rw [Np];refine (TQ _ 8 (by omega) _).mono ?_;rintro _ _ ⟨_,rfl,rfl,B⟩
 replace S:=S.grown B
 refine⟨_,rfl,⟨by omega,by omega⟩,S.Fk 1 rfl (by simp only [Ak8];omega) (Ak4 _) λ _ S=>S.draw λ _ S=>⟨⟨by omega,by omega⟩,⟨by omega,by omega⟩,_,S.wd 1 rfl (by simp only [Ak8];omega) (Ak4 _),_,S.wd 1 rfl (by simp only [Ak8];omega) (Ak4 _),⟨by omega,by omega⟩,?_⟩⟩;rw [Nn];refine S.Fk 1 rfl (by simp only [Ak8];omega) (Ak4 _) λ _ S=>S.draw λ _ S=>⟨⟨by omega,by omega⟩,⟨by omega,by omega⟩,_,S.wd 1 rfl (by simp only [Ak8];omega) (Ak4 _),_,S.wd 1 rfl (by simp only [Ak8];omega) (Ak4 _),?_⟩;rw [Np];refine (TQ _ 7 (by omega) _).mono ?_;rintro _ _ ⟨_,rfl,rfl,B⟩
 replace S:=S.grown B
 refine⟨_,rfl,⟨by omega,by omega⟩,S.Fk 1 rfl (by simp only [Ak8];omega) (Ak4 _) λ _ S=>?_⟩;change SH (λ _=>False) w _ [(b6,⟨AkZ 16 (.int .u32 0)⟩,224),(b5,⟨(Tq M q0 q1 q2 q3 y 8 7).map wV⟩,224)] at S;have od:=(ZK M q0 q1 q2 q3 y 8 7).trans hm;have ay:((Tq M q0 q1 q2 q3 y 8 7).map wV).length=16:=by rw [Alh];exact od
 refine Dd (Tq M q0 q1 q2 q3 y 8 7) od (Rd.Ak (S.get 1 rfl)) (Ds ay (S.En 0 rfl ay (IE _) λ gW _ S=>?_));exact Dd (Tq M q0 q1 q2 q3 y 8 7) od (Rd.Ak (S.get 0 rfl)) ⟨by rw [AhV,hM],S.below⟩
def Aja:List ByteArray:=[⟨#[97,98,99,100,101,102,103,104,105,106,107,108,109,110,111,112]⟩,⟨#[111,107,101,105,106,112,110,103,98,109,97,99,108,104,102,100]⟩,⟨#[108,105,109,97,102,99,112,110,107,111,100,103,104,98,106,101]⟩,⟨#[104,106,100,98,110,109,108,111,99,103,102,107,101,97,112,105]⟩,⟨#[106,97,102,104,99,101,107,112,111,98,108,109,103,105,100,110]⟩,⟨#[99,109,103,107,97,108,105,100,101,110,104,102,112,111,98,106]⟩,⟨#[109,102,98,112,111,110,101,107,97,104,103,100,106,99,105,108]⟩,⟨#[110,108,104,111,109,98,100,106,102,97,112,101,105,103,99,107]⟩,⟨#[103,112,111,106,108,100,97,105,109,99,110,104,98,101,107,102]⟩,⟨#[107,99,105,101,104,103,98,102,112,108,106,111,100,109,110,97]⟩]
def Ajd:List ByteArray:=[⟨#[97,101,105,109]⟩,⟨#[98,102,106,110]⟩,⟨#[99,103,107,111]⟩,⟨#[100,104,108,112]⟩,⟨#[97,102,107,112]⟩,⟨#[98,103,108,109]⟩,⟨#[99,104,105,110]⟩,⟨#[100,101,106,111]⟩]
def AhY(r:Nat):ByteArray:=Aja.getD r ⟨#[]⟩
def AfC(i:Nat):ByteArray:=Ajd.getD i ⟨#[]⟩
theorem Afh:∀ r,r<10->(AhY r).size=16:=by decide
theorem Afr:∀ i,i<8->(AfC i).size=4:=by decide
theorem AaT:∀ r,r<10->∀ j,j<16->IntKind.u8.wrap (((Ay (AhY r) j).toNat:Int)-97)=(ord r j:Int):=by decide
theorem Pl:∀ i,i<8->∀ j,j<4->IntKind.i64.wrap (IntKind.u8.wrap (((Ay (AfC i) j).toNat:Int)-97))=(Kh i j:Int):=by decide
theorem Ajb:∀ i,i<8->Kh i 0≠Kh i 1/\Kh i 0≠Kh i 2/\Kh i 0≠Kh i 3/\Kh i 1≠Kh i 2/\Kh i 1≠Kh i 3/\Kh i 2≠Kh i 3:=by decide
theorem Agh(r:Nat)(hr:r<10)(w:World):Calls Tryz.prog f.ZD #[.int .i64 (r:Int)] w (AG λ v w'=>v=.string (AhY r)/\Below w.heap.size w w'):=by
 apply R.O3
 delta R.A R.Lt R.N R.T R.X;try dsimp only [R.Ps]
 refine (SH.start (λ _=>False) w).An λ b2 w1 _ B S=>⟨⟨by omega,by omega⟩,AhY r,?_,rfl,B⟩;rw [Ak4,Ak7,Ax,Ak6];refine S.cell 0 rfl ?_;have:r=0\/r=1\/r=2\/r=3\/r=4\/r=5\/r=6\/r=7\/r=8\/r=9:=by omega
 rcases this with rfl | rfl | rfl | rfl | rfl | rfl | rfl | rfl | rfl | rfl <;> rfl
theorem AeV(i:Nat)(hi:i<8)(w:World):Calls Tryz.prog f.Yg #[.int .i64 (i:Int)] w (AG λ v w'=>v=.string (AfC i)/\Below w.heap.size w w'):=by
 apply R.NX
 delta R.A R.Lt R.N R.T R.X;try dsimp only [R.Ps]
 refine (SH.start (λ _=>False) w).An λ b2 w1 _ B S=>⟨⟨by omega,by omega⟩,AfC i,?_,rfl,B⟩;rw [Ak4,Ak7,Ax,Ak6];refine S.cell 0 rfl ?_;have:i=0\/i=1\/i=2\/i=3\/i=4\/i=5\/i=6\/i=7:=by omega
 rcases this with rfl | rfl | rfl | rfl | rfl | rfl | rfl | rfl <;> rfl
theorem CZ(v:List Wd){a:Nat}(h:a<v.length)(x:Wd):(v.set a x).getD a 0=x:=by simp [h]
theorem getD_set_ne(v:List Wd){a b:Nat}(h:a≠b)(x:Wd):(v.set a x).getD b 0=v.getD b 0:=by
 rw [Alx,List.getElem?_set_ne h,<- Alx]
theorem Adx(v:List Wd)(a b c d:Nat)(x:Wd)(r s:Nat)(ha:a<v.length)(hc:c<v.length)(hd:d<v.length)(jP:a≠b)(p6:a≠c)(pR:a≠d)(ou:b≠c)(gP:b≠d)(oq:c≠d) :
  Tq v a b c d x r s=(((v.set a (Ka (v.getD a 0) (v.getD b 0) (v.getD c 0) (v.getD d 0) x r s).1).set b (Ka (v.getD a 0) (v.getD b 0) (v.getD c 0) (v.getD d 0) x r s).2.1).set c
   (Ka (v.getD a 0) (v.getD b 0) (v.getD c 0) (v.getD d 0) x r s).2.2.1).set d (Ka (v.getD a 0) (v.getD b 0) (v.getD c 0) (v.getD d 0) x r s).2.2.2:=by
 simp only [Tq,Ajg,Aif,AiV,Ka];rw [BitVec.add_assoc];generalize v.getD a 0+(v.getD b 0+x)=A;rw [getD_set_ne v pR,CZ v ha];generalize Acb (v.getD d 0 ^^^ A) r=D;rw [getD_set_ne _ (Ne.symm oq),getD_set_ne _ p6,CZ _ (by simpa using hd)];generalize v.getD c 0+D=C;rw [getD_set_ne _ (Ne.symm ou),getD_set_ne _ (Ne.symm gP),getD_set_ne _ jP,CZ _ (by simpa using hc)];generalize Acb (v.getD b 0 ^^^ C) s=B;rw [Aly _ _ (Ne.symm oq),Aly _ _ (Ne.symm gP),Aly _ _ (Ne.symm ou)]
theorem Ad6(v:List Wd)(a b c d:Nat)(A B C D A2 B2 C2 D2:Wd) :
  ((((((((v.set a A).set b B).set c C).set d D).set a A2).set b B2).set c C2).set d D2)=(((v.set a A2).set b B2).set c C2).set d D2:=by
 apply List.ext_getElem?;intro j;simp only [List.getElem?_set,Ak8]
 grind
theorem AgB(m:List Wd)(r i:Nat)(v:List Wd)(hv:v.length=16)(hi:i<8) :
  AhV v (Kh i 0) (Kh i 1) (Kh i 2) (Kh i 3) (m.getD (ord r (2*i)) 0) (m.getD (ord r (2*i+1)) 0)=Xd m r i v:=by
 obtain⟨jP,p6,pR,ou,gP,oq⟩:=Ajb i hi;have p0:=GU i hi 0 (by omega);have p1:=GU i hi 1 (by omega);have p2:=GU i hi 2 (by omega);have p3:=GU i hi 3 (by omega);simp only [AhV,Xd];generalize Kh i 0=a at *;generalize Kh i 1=b at *;generalize Kh i 2=c at *;generalize Kh i 3=d at *;rw [Adx v a b c d _ 16 12 (by omega) (by omega) (by omega) jP p6 pR ou gP oq];generalize Ka (v.getD a 0) (v.getD b 0) (v.getD c 0) (v.getD d 0) (m.getD (ord r (2*i)) 0) 16 12=h1;rw [Adx _ a b c d _ 8 7 (by simp;omega) (by simp;omega) (by simp;omega) jP p6 pR ou gP oq];have ea:((((v.set a h1.1).set b h1.2.1).set c h1.2.2.1).set d h1.2.2.2).getD a 0=h1.1:=by
  rw [getD_set_ne _ (Ne.symm pR),getD_set_ne _ (Ne.symm p6),getD_set_ne _ (Ne.symm jP),CZ _ (by omega)]
 have eb:((((v.set a h1.1).set b h1.2.1).set c h1.2.2.1).set d h1.2.2.2).getD b 0=h1.2.1:=by
  rw [getD_set_ne _ (Ne.symm gP),getD_set_ne _ (Ne.symm ou),CZ _ (by simp;omega)]
 have ec:((((v.set a h1.1).set b h1.2.1).set c h1.2.2.1).set d h1.2.2.2).getD c 0=h1.2.2.1:=by
  rw [getD_set_ne _ (Ne.symm oq),CZ _ (by simp;omega)]
 have ed:((((v.set a h1.1).set b h1.2.1).set c h1.2.2.1).set d h1.2.2.2).getD d 0=h1.2.2.2:=by
  rw [CZ _ (by simp;omega)]
 rw [ea,eb,ec,ed,Ad6]
def mA(CJ:List UInt8):Nat->List Wd
 | 0=>AkZ 16 0
 | i+1=>(mA CJ i).set (i / 4) ((mA CJ i).getD (i / 4) 0+(byW (CJ.getD i 0) <<< (8*(i % 4))))
theorem Af4(CJ:List UInt8):∀ i,(mA CJ i).length=16
 | 0=>by simp [mA]
 | i+1=>by simp [mA,Af4 CJ i]
theorem Ade(c:UInt8)(s:Nat)(hs:s<=24):(byW c <<< s).toNat=2 ^ s*c.toNat:=by
 have h1:=c.toNat_lt;have h2:2 ^ s<=2 ^ 24:=All (by omega) hs;have h3:c.toNat*2 ^ s<=255*2 ^ 24:=Nat.mul_le_mul (by omega) h2;rw [BitVec.toNat_shiftLeft,Nat.shiftLeft_eq,byW,Alb,Ala (by omega:c.toNat<2 ^ 32),Ala (by omega),Alf]
theorem AiJ(x:Wd)(c:UInt8)(s:Nat)(hs:s<=24)(hx:x.toNat<2 ^ s):x ||| (byW c <<< s)=x+(byW c <<< s)/\(x ||| (byW c <<< s)).toNat<2 ^ (s+8):=by
 have h1:=c.toNat_lt;have e:=Alp hx c.toNat;have aB:2 ^ s*c.toNat+x.toNat<2 ^ (s+8):=by
  have:2 ^ s*c.toNat<=2 ^ s*255:=Nat.mul_le_mul_left _ (by omega);rw [Nat.pow_add];omega
 have xG:2 ^ (s+8)<=2 ^ 32:=All (by omega) (by omega);have ho:(x ||| (byW c <<< s)).toNat=2 ^ s*c.toNat+x.toNat:=by
  rw [Alo,Ade c s hs,e,Alq]
 refine⟨BitVec.eq_of_toNat_eq ?_,by rw [ho];exact aB⟩;rw [ho,BitVec.toNat_add,Ade c s hs,Ala (by omega),Nat.add_comm]
theorem Ahh(CJ:List UInt8):∀ i,i<=64->mA CJ i=mO CJ i/\(i<64->((mO CJ i).getD (i / 4) 0).toNat<2 ^ (8*(i % 4)))/\∀ k,i / 4<k->k<16->(mO CJ i).getD k 0=0
 | 0,_=>by
  refine⟨rfl,λ _=>by simp [mO],λ k _ hk=>?_⟩;rw [mO,Alx,List.getElem?_replicate];split <;> rfl
 | i+1,h=>by
  obtain⟨h1,h2,h3⟩:=Ahh CJ i (by omega);have hl:=Ab9 CJ i;obtain⟨e1,e2⟩:=AiJ ((mO CJ i).getD (i / 4) 0) (CJ.getD i 0) (8*(i % 4)) (by omega) (h2 (by omega));refine⟨by rw [mA,mO,h1,e1],λ aB=>?_,λ k hk ax=>?_⟩
  ·rw [mO];by_cases hq:(i+1) % 4=0
   ·rw [getD_set_ne _ (by omega),h3 _ (by omega) (by omega),hq];simp
   ·rw [show (i+1) / 4=i / 4 by omega,CZ _ (by omega),show 8*((i+1) % 4)=8*(i % 4)+8 by omega];exact e2
  ·rw [mO,getD_set_ne _ (by omega)];exact h3 k (by omega) ax
theorem Ajh(CJ:List UInt8):mA CJ 64=mO CJ 64:=(Ahh CJ 64 (Nat.le_refl _)).1
def vR(h:List Wd):Nat->List Wd
 | 0=>AkZ 16 0
 | i+1=>((vR h i).set i (h.getD i 0)).set (8+i) (Ca.getD i 0)
theorem Aga(h:List Wd):∀ i,(vR h i).length=16
 | 0=>by simp [vR]
 | i+1=>by simp [vR,Aga h i]
theorem AjZ(h:List Wd)(hh:h.length=8):vR h 8=vF h 8:=by
 obtain⟨a,b,c,d,e,f,g,k,rfl⟩:∃ a b c d e f g k,h=[a,b,c,d,e,f,g,k]:=by
  match h,hh with
  | [a,b,c,d,e,f,g,k],_=>exact⟨a,b,c,d,e,f,g,k,rfl⟩
 rfl
end Go.Proofs.YtpnaifmmggnimaaGreatDoor
