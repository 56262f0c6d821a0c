/-
  Texts of this claim, laid one behind the other by a program of mine (install.py): Dn.Mem, Dn.Laws, Dn.Str, Dn.Laws2, Dn.Laws3, Dn.Laws4, Dn.Arr, G.Hash1, G.Hash2, Dn.Arr2, G.Hash3, G.Wire, G.Wire2, G.Hash4, G.Hash5, G.Hash6, G.Hash7.
-/
import Derived.Test.YtpnaifmmggnimaaGreatDoorM2
import Derived.Below
import Derived.Laws.MakeOwn
import Derived.Laws.BytesString
import Derived.Laws.NewBlocks
import Derived.Laws.OwnMore
import Derived.Laws.StructEq
import Derived.Laws.Strings2
import Derived.Laws.BytesArg
import Derived.Test.YtpnaifmmggnimaaGreatDoorRead
import Derived.Test.YtpnaifmmggnimaaGreatDoorM1
import Derived.Laws.CopyRow
import Derived.Laws.IdiomCopy
namespace Go.Dn
open _root_.List renaming getElem?_eq_some_iff -> AkX, getElem?_set_ne -> Ak0, getElem?_set_self -> AkZ, mem_of_getElem? -> AkW
open _root_.Nat renaming lt_of_lt_of_le -> AkY
set_option linter.unusedVariables false
set_option maxRecDepth 100000
open Go.RowKit (Below)
/-! ## What stays -/
structure Ai(F:Nat->Prop)(w w':World):Prop where
 os:w'.os=w.os
 tape:w'.tape=w.tape
 output:w'.output=w.output
 size:w.heap.size<=w'.heap.size
 block:∀ k,k<w.heap.size->¬ F k->w'.heap[k]?=w.heap[k]?
theorem Ai.refl(F:Nat->Prop)(w:World):Ai F w w:=⟨rfl,rfl,rfl,Nat.le_refl _,λ _ _ _=>rfl⟩
theorem Ai.trans{F G:Nat->Prop}{a b c:World}(h:Ai F a b)(h':Ai G b c)(hs:∀ k,k<a.heap.size->G k->F k):Ai F a c :=
 ⟨h'.os.trans h.os,h'.tape.trans h.tape,h'.output.trans h.output,Nat.le_trans h.size h'.size,
  λ k hk hn=>(h'.block k (AkY hk h.size) λ hg=>hn (hs k hk hg)).trans (h.block k hk hn)⟩
theorem Ai.mono{F G:Nat->Prop}{a b:World}(h:Ai F a b)(hs:∀ k,k<a.heap.size->F k->G k):Ai G a b :=
 ⟨h.os,h.tape,h.output,h.size,λ k hk hn=>h.block k hk λ hf=>hn (hs k hk hf)⟩
theorem Ai.AA{F:Nat->Prop}{a b:World}(h:Below a.heap.size a b):Ai F a b:=⟨h.os,h.tape,h.output,h.size,λ k hk _=>h.block k hk⟩
theorem Ai.below{F:Nat->Prop}{a b:World}{B:Nat}(h:Ai F a b)(hB:B<=a.heap.size)(hs:∀ k,k<B->¬ F k):Below B a b :=
 ⟨h.os,h.tape,h.output,h.size,λ k hk=>h.block k (AkY hk hB) (hs k hk)⟩
theorem Ai.alloc{F:Nat->Prop}{a w:World}(h:Ai F a w)(o:Obj):Ai F a (w.alloc o) :=
 ⟨h.os,h.tape,h.output,Nat.le_trans h.size (by simp),λ k hk hn=>(Below.heap_alloc w o k (AkY hk h.size)).trans (h.block k hk hn)⟩
theorem Ai.drew{F:Nat->Prop}{a w:World}(h:Ai F a w):Ai F a w.drew:=⟨h.os,h.tape,h.output,h.size,h.block⟩
theorem Ai.setCell{F:Nat->Prop}{a w:World}(h:Ai F a w){p:Addr}(hp:F p.block\/a.heap.size<=p.block)(v:Value):Ai F a (w.setCell p v) :=
 ⟨h.os,h.tape,h.output,by simpa using h.size,λ k hk hn=>by
  rw [Below.heap_setCell w p v k (by rintro rfl;rcases hp with hp | hp;exact hn hp;omega)];exact h.block k hk hn⟩
theorem Ai.cell{F:Nat->Prop}{a b:World}(h:Ai F a b){p:Addr}{v:Value}(hc:a.cell? p=some v)(hn:¬ F p.block):b.cell? p=some v :=
 (World.cell?_of_block (w:=a) (h.block p.block (World.block_lt_of_cell? a p hc) hn)).trans hc
theorem Ai.at{F:Nat->Prop}{a b:World}(h:Ai F a b){k:Nat}{o:Obj}(hc:a.heap[k]?=some o)(hn:¬ F k):b.heap[k]?=some o :=
 (h.block k (Array.getElem?_eq_some_iff.1 hc).1 hn).trans hc
/-! ## Known blocks -/
abbrev Zh:=Nat × Array Value × TypeId
structure SH(F:Nat->Prop)(w0 w:World)(H:List Zh):Prop where
 keeps:Ai F w0 w
 mem:∀ x∈H,w.heap[x.1]?=some (.cells x.2.1 x.2.2 (0,0))
 nodup:(H.map (·.1)).Nodup
 own:∀ x∈H,F x.1\/w0.heap.size<=x.1
section
variable {F:Nat->Prop}{w0 w:World}{H:List Zh}
theorem SH.lt(S:SH F w0 w H){x:Zh}(hx:x∈H):x.1<w.heap.size:=(Array.getElem?_eq_some_iff.1 (S.mem x hx)).1
theorem SH.start(F:Nat->Prop)(w:World):SH F w w []:=⟨.refl F w,by simp,by simp,by simp⟩
theorem SH.alloc(S:SH F w0 w H)(cs:Array Value)(t:TypeId):SH F w0 (w.alloc (.cells cs t)) ((w.heap.size,cs,t) :: H) where
 keeps:=S.keeps.alloc _
 mem:=by
  intro x hx;rcases List.mem_cons.1 hx with rfl | hx
  ·exact heap_alloc_new w _
  ·rw [Below.heap_alloc w _ x.1 (S.lt hx)];exact S.mem x hx
 nodup:=by
  simp only [List.map_cons,List.nodup_cons];refine⟨λ hm=>?_,S.nodup⟩;obtain⟨x,hx,he⟩:=List.mem_map.1 hm;have:=S.lt hx;omega
 own:=by
  intro x hx;rcases List.mem_cons.1 hx with rfl | hx
  ·exact .inr S.keeps.size
  ·exact S.own x hx
theorem SH.drew(S:SH F w0 w H):SH F w0 w.drew H:=⟨S.keeps.drew,S.mem,S.nodup,S.own⟩
theorem SH.draw(S:SH F w0 w H){k:World->Prop}(hk:∀ w',SH F w0 w' H->k w'):QI k w:=hk _ S.drew
theorem SH.get(S:SH F w0 w H)(n:Nat){b:Nat}{cs:Array Value}{t:TypeId}(hn:H[n]?=some (b,cs,t)):w.heap[b]?=some (.cells cs t (0,0)) :=
 S.mem _ (AkW hn)
theorem SH.cell(S:SH F w0 w H)(n:Nat){b:Nat}{cs:Array Value}{t:TypeId}(hn:H[n]?=some (b,cs,t)){i:Nat}{v:Value}(hv:cs[i]?=some v):w.cell? ⟨b,i,none⟩=some v:=by
 have:=S.get n hn;simp [World.cell?,this,hv]
theorem SH.free(S:SH F w0 w H)(n:Nat){b:Nat}{cs:Array Value}{t:TypeId}(hn:H[n]?=some (b,cs,t))(i:Nat):w.frozen? ⟨b,i,none⟩=false:=by
 have:=S.get n hn;simp [World.frozen?,this]
theorem Aaw{α:Type}{l:List α}(h:l.Nodup){i j:Nat}{x y:α}(hi:l[i]?=some x)(hj:l[j]?=some y)(aQ:i≠j):x≠y:=by
 obtain⟨h1,rfl⟩:=AkX.1 hi;obtain⟨h2,rfl⟩:=AkX.1 hj;intro he;rcases Nat.lt_or_gt_of_ne aQ with aB | aB
 ·exact (List.pairwise_iff_getElem.1 h) i j h1 h2 aB he
 ·exact (List.pairwise_iff_getElem.1 h) j i h2 h1 aB he.symm
theorem SH.setAt(S:SH F w0 w H)(n:Nat){b:Nat}{cs:Array Value}{t:TypeId}(hn:H[n]?=some (b,cs,t)){w':World}{aC:Array Value}(hk:Ai (·=b) w w')
  (hb:w'.heap[b]?=some (.cells aC t (0,0))):SH F w0 w' (H.set n (b,aC,t)) where
 keeps:=S.keeps.trans hk λ k aB he=>by
  subst he;rcases S.own _ (AkW hn) with h | h
  ·exact h
  ·exact absurd aB (Nat.not_lt.2 h)
 mem:=by
  intro x hx;obtain⟨i,hi⟩:=List.mem_iff_getElem?.1 hx;by_cases cD:n=i
  ·subst cD;have aB:=(AkX.1 hn).1;rw [AkZ aB] at hi;cases hi;exact hb
  ·rw [Ak0 cD] at hi;have aQ:x.1≠b:=by
    refine Aaw S.nodup (i:=i) (j:=n) ?_ ?_ (Ne.symm cD)
    ·simp [hi]
    ·simp [hn]
   exact hk.at (S.mem x (AkW hi)) aQ
 nodup:=by
  have:(H.set n (b,aC,t)).map (·.1)=H.map (·.1):=by
   apply List.ext_getElem?;intro i;simp only [List.getElem?_map];by_cases cD:n=i
   ·subst cD;have aB:=(AkX.1 hn).1;rw [AkZ aB,hn];rfl
   ·rw [Ak0 cD]
  rw [this];exact S.nodup
 own:=by
  intro x hx;obtain⟨i,hi⟩:=List.mem_iff_getElem?.1 hx;by_cases cD:n=i
  ·subst cD;have aB:=(AkX.1 hn).1;rw [AkZ aB] at hi;cases hi;exact S.own (b,cs,t) (AkW hn)
  ·rw [Ak0 cD] at hi;exact S.own x (AkW hi)
theorem Fh(w:World)(b i:Nat)(v:Value):Ai (·=b) w (w.setCell ⟨b,i,none⟩ v):=Ai.setCell (F:=(·=b)) (Ai.refl _ w) (p:=⟨b,i,none⟩) (.inl rfl) v
theorem Fv{w:World}{b i:Nat}{cs:Array Value}{t:TypeId}{f:Nat × Nat}(h:w.heap[b]?=some (.cells cs t f))(v:Value) :
  (w.setCell ⟨b,i,none⟩ v).heap[b]?=some (.cells (cs.setIfInBounds i v) t f):=by
 simp [World.setCell,Array.getElem?_modify,h]
theorem SH.BP(S:SH F w0 w H)(n:Nat){b:Nat}{cs:Array Value}{t:TypeId}(hn:H[n]?=some (b,cs,t)){i:Nat}{v:Value}{k:World->Prop}(hi:i<cs.size)
  (hk:∀ w',SH F w0 w' (H.set n (b,cs.setIfInBounds i v,t))->k w'):DY ⟨b,i,none⟩ v k w:=by
 refine⟨?_,S.free n hn i,hk _ (S.setAt n hn (Fh w b i v) (Fv (S.get n hn) v))⟩;rw [S.cell n hn (Array.getElem?_eq_getElem hi)];rfl
theorem SH.grown(S:SH F w0 w H){w':World}(h:Below w.heap.size w w'):SH F w0 w' H where
 keeps:=S.keeps.trans (Ai.AA (F:=λ _=>False) h) (by simp)
 mem:=λ x hx=>(h.block x.1 (S.lt hx)).trans (S.mem x hx)
 nodup:=S.nodup
 own:=S.own
theorem SH.kept(S:SH F w0 w H){G:Nat->Prop}{w':World}(h:Ai G w w')(hd:∀ x∈H,¬ G x.1)(hF:∀ k,k<w0.heap.size->G k->F k):SH F w0 w' H where
 keeps:=S.keeps.trans h hF
 mem:=λ x hx=>h.at (S.mem x hx) (hd x hx)
 nodup:=S.nodup
 own:=S.own
theorem SH.drop(S:SH F w0 w H)(n:Nat):SH F w0 w (H.drop n) :=
 ⟨S.keeps,λ x hx=>S.mem x (List.mem_of_mem_drop hx),by rw [List.map_drop];exact S.nodup.sublist (List.drop_sublist _ _),λ x hx=>S.own x (List.mem_of_mem_drop hx)⟩
end
end Go.Dn
namespace Go.Dn
open _root_.Array renaming getElem?_modify -> Ak1, length_toList -> Ak7, toList_append -> Ak5
open _root_.List renaming eq_nil_of_length_eq_zero -> Ak3, getElem?_drop -> Ak2, take_left -> Ak6
open _root_.Nat renaming add_mul -> Ak4
set_option linter.unusedVariables false
set_option maxRecDepth 100000
open Go.RowKit (Below)
theorem BH(p:Addr)(x y:Nat):(p.add x).add y=p.add (x+y):=by
 unfold Addr.add;by_cases hx:x=0
 ·subst hx;simp
 ·by_cases hy:y=0
  ·subst hy;simp
  ·simp [hx,hy,Nat.add_assoc]
theorem C0(p:Addr):p.add 0=p:=by simp [Addr.add]
theorem Ay(b i j:Nat):(⟨b,i,none⟩:Addr).add j=⟨b,i+j,none⟩:=by
 unfold Addr.add;by_cases hj:j=0
 ·subst hj;simp
 ·simp [hj]
theorem DN(p:Addr)(x:Nat):(p.add x).block=p.block:=by
 unfold Addr.add;split <;> rfl
def Rd(w:World)(a:Option Addr)(vs:List Value):Prop:=∀ j v,vs[j]?=some v->∃ p,a=some p/\w.cell? (p.add j)=some v
theorem Rd.nil(w:World)(a:Option Addr):Rd w a []:=by intro j v h;simp at h
theorem Rd.keeps{F:Nat->Prop}{w w':World}{a:Option Addr}{vs:List Value}(h:Rd w a vs)(hk:Ai F w w')(hn:∀ p,a=some p->¬ F p.block):Rd w' a vs:=by
 intro j v hv;obtain⟨p,hp,hc⟩:=h j v hv;exact⟨p,hp,hk.cell hc (by rw [DN];exact hn p hp)⟩
theorem Rd.grown{w w':World}{a:Option Addr}{vs:List Value}(h:Rd w a vs)(hk:Below w.heap.size w w'):Rd w' a vs :=
 h.keeps (F:=λ _=>False) (Ai.AA hk) (by simp)
theorem Rd.take{w:World}{a:Option Addr}{vs:List Value}(h:Rd w a vs)(n:Nat):Rd w a (vs.take n):=by
 intro j v hv;rw [List.getElem?_take] at hv;split at hv
 ·exact h j v hv
 ·cases hv
theorem Rd.drop{w:World}{p:Addr}{vs:List Value}(h:Rd w (some p) vs)(n:Nat):Rd w (some (p.add n)) (vs.drop n):=by
 intro j v hv;rw [Ak2] at hv;obtain⟨q,hq,hc⟩:=h _ v hv;cases hq;exact⟨_,rfl,by rw [BH];exact hc⟩
theorem Rd.OY{w:World}{a:Option Addr}{vs:List Value}(h:Rd w a vs)(l hh m sz:Nat)(h2:hh<=m):Rd w (Cm a l m sz) ((vs.drop (l*sz)).take ((hh-l)*sz)):=by
 unfold Cm;split
 ·have:hh-l=0:=by omega
  rw [this];simp [Rd]
 ·cases a with
  | none =>
   intro j v hv;rw [List.getElem?_take] at hv;split at hv
   ·rw [Ak2] at hv;obtain⟨p,hp,_⟩:=h _ v hv;cases hp
   ·cases hv
  | some p=>exact (h.drop (l*sz)).take _
theorem Rd.AgU{w:World}{b:Nat}{cs:Array Value}{t:TypeId}{f:Nat × Nat}(h:w.heap[b]?=some (.cells cs t f))(i:Nat):Rd w (some ⟨b,i,none⟩) (cs.toList.drop i):=by
 intro j v hv;refine⟨_,rfl,?_⟩;rw [Ay];rw [Ak2] at hv;simp [World.cell?,h];simpa using hv
theorem Rd.Ak{w:World}{b:Nat}{cs:Array Value}{t:TypeId}{f:Nat × Nat}(h:w.heap[b]?=some (.cells cs t f)):Rd w (some ⟨b,0,none⟩) cs.toList:=by
 have:=Rd.AgU h 0;simpa using this
def AD(a:Option Addr):Option Nat:=a.map (·.block)
def Row(w:World)(e:TypeId)(sz:Nat)(a:Option Addr)(n c:Nat)(xs:List Value):Prop :=
 xs.length=n*sz/\((a=none/\n=0/\c=0) \/
  ∃ g cur,a=some ⟨g,0,none⟩/\w.heap[g]?=some (.cells cur e (0,0))/\n<=c/\c<=9223372036854775807/\cur.size=c*sz/\cur.toList.take (n*sz)=xs)
theorem Row.nil(w:World)(e:TypeId)(sz:Nat):Row w e sz none 0 0 []:=⟨by simp,.inl ⟨rfl,rfl,rfl⟩⟩
theorem Row.rd{w:World}{e:TypeId}{sz:Nat}{a:Option Addr}{n c:Nat}{xs:List Value}(h:Row w e sz a n c xs):Rd w a xs:=by
 rcases h with ⟨hl,⟨rfl,rfl,rfl⟩ | ⟨g,cur,rfl,hg,_,_,_,rfl⟩⟩
 ·have:xs=[]:=Ak3 (by simpa using hl);subst this;exact Rd.nil _ _
 ·exact (Rd.Ak hg).take _
theorem Row.le{w:World}{e:TypeId}{sz:Nat}{a:Option Addr}{n c:Nat}{xs:List Value}(h:Row w e sz a n c xs):n<=c:=by
 rcases h with ⟨_,⟨_,rfl,rfl⟩ | ⟨_,_,_,_,h,_⟩⟩
 ·exact Nat.le_refl _
 ·exact h
theorem Row.lt{w:World}{e:TypeId}{sz:Nat}{a:Option Addr}{n c:Nat}{xs:List Value}(h:Row w e sz a n c xs){k:Nat}(hk:AD a=some k):k<w.heap.size:=by
 rcases h with ⟨_,⟨rfl,_⟩ | ⟨g,cur,rfl,hg,_⟩⟩
 ·cases hk
 ·cases hk;exact (Array.getElem?_eq_some_iff.1 hg).1
theorem Row.keeps{F:Nat->Prop}{w w':World}{e:TypeId}{sz:Nat}{a:Option Addr}{n c:Nat}{xs:List Value}(h:Row w e sz a n c xs)(hk:Ai F w w')(hn:∀ k,AD a=some k->¬ F k):Row w' e sz a n c xs:=by
 refine⟨h.1,?_⟩;rcases h.2 with h | ⟨g,cur,rfl,hg,r⟩
 ·exact .inl h
 ·exact .inr ⟨g,cur,rfl,hk.at hg (hn g rfl),r⟩
theorem Row.grown{w w':World}{e:TypeId}{sz:Nat}{a:Option Addr}{n c:Nat}{xs:List Value}(h:Row w e sz a n c xs)(hk:Below w.heap.size w w'):Row w' e sz a n c xs :=
 h.keeps (F:=λ _=>False) (Ai.AA hk) (by simp)
def M9(P:Program)(t:TypeId):Option (TypeId × Nat × Nat × Value) :=
 match P.underlying t with
 | some (.slice e) =>
  (match P.info? e with
  | some i=>(match i.zero with
   | some z=>some (e,i.size,i.bytes,z)
   | none=>none)
  | none=>none)
 | _=>none
theorem Qo{P:Program}{t e:TypeId}{sz by_:Nat}{z:Value}(h:M9 P t=some (e,sz,by_,z)):P.underlying t=some (.slice e)/\∃ i,P.info? e=some i/\i.zero=some z/\i.size=sz/\i.bytes=by_:=by
 unfold M9 at h;split at h
 ·rename_i e' hu;split at h
  ·rename_i i hi;split at h
   ·rename_i z' hz;simp only [Option.some.injEq,Prod.mk.injEq] at h;obtain⟨rfl,rfl,rfl,rfl⟩:=h;exact⟨hu,i,hi,hz,rfl,rfl⟩
   ·cases h
  ·cases h
 ·cases h
theorem Hk(w:World)(g:Nat)(cs:Array Value):Ai (·=g) w (w.setRow g cs) :=
 ⟨rfl,rfl,rfl,by simp [World.setRow],λ k _ hn=>by simp only [World.setRow,Ak1];rw [if_neg (λ h=>hn h.symm)]⟩
theorem LA{w:World}{g:Nat}{cur cs:Array Value}{t:TypeId}{f:Nat × Nat}(h:w.heap[g]?=some (.cells cur t f)):(w.setRow g cs).heap[g]?=some (.cells cs t f):=by
 simp [World.setRow,Ak1,h]
theorem BZ{P:Program}{t ty e:TypeId}{sz bytes:Nat}{z:Value}(hT:M9 P t=some (e,sz,bytes,z))(hz:z.cells.size=sz)(aw:0<sz)(bg:0<bytes)
  {w:World} {a:Option Addr} {n c:Nat} {xs:List Value} (hr:Row w e sz a n c xs) {b:Option Addr} {m mc:Nat} {news:List Value} (hs:Rd w b news) (hl:news.length=m*sz)
  (h1:∀ u∈news,u.oneCell'=true) (db:(n+m)*bytes<=140737488355328) :
  ∃ a' c' w',(Builtin.append_ #[t,t] ty #[.slice a n c,.slice b m mc]).run P w=.ok (.slice a' (n+m) c') w'/\Row w' e sz a' (n+m) c' (xs++news) /\
   Ai (λ k=>AD a=some k) w w'/\(∀ k,AD a'=some k->AD a=some k\/w.heap.size<=k):=by
 obtain⟨hu,i,hi,hiz,rfl,rfl⟩:=Qo hT;have bz:n+m<=140737488355328:=Nat.le_trans (Nat.le_mul_of_pos_right _ bg) db;have hlen:(xs++news).length=(n+m)*i.size:=by rw [List.length_append,hr.1,hl,Ak4]
 have grown:∀(old:Nat),old<n+m->Row (w.drew.alloc (.cells (xs.toArray++news.toArray++Builtin.zeroCells z.cells (grownCap w (n+m) old e-(n+m))) e)) e i.size
   (some ⟨w.heap.size,0,none⟩) (n+m) (grownCap w (n+m) old e) (xs++news):=by
  intro old ho;have aI:=grownCap_ge w (n+m) old e;have jK:grownCap w (n+m) old e<=maxLen:=grownCap_le_maxLen w (n+m) old e (by unfold maxLen;omega);refine⟨hlen,.inr ⟨w.heap.size,_,rfl,heap_alloc_new w.drew _,aI,by unfold maxLen at jK;omega,?_,?_⟩⟩
  ·simp only [Array.size_append,List.size_toArray,size_zeroCells,hz,hr.1,hl,<- Ak4];congr 1;omega
  ·simp only [Ak5,List.append_assoc];rw [<- List.append_assoc,<- hlen];exact Ak6
 have dZ:∀(cs:Array Value) (row:Nat->Prop),Ai row w (w.drew.alloc (.cells cs e)):=λ cs row=>(Ai.refl row w).drew.alloc _;have src:0<m->∃ p,b=some p/\∀ j u,news[j]?=some u->w.cell? (p.add j)=some u:=by
  intro hm;have h0:0<news.length:=by rw [hl];exact Nat.mul_pos hm aw
  obtain⟨p,hp,_⟩:=hs 0 news[0] (List.getElem?_eq_getElem h0);refine⟨p,hp,λ j u hu=>?_⟩;obtain⟨q,hq,hc⟩:=hs j u hu;rw [hp] at hq;cases hq;exact hc
 have ln:m=0->news=[]:=λ hm=>Ak3 (by rw [hl,hm];simp);rcases hr.2 with ⟨rfl,rfl,rfl⟩ | ⟨g,cur,rfl,hg,rq,jK,aj,htake⟩
 ·have hx:xs=[]:=Ak3 (by simpa using hr.1);subst hx;by_cases hm:m=0
  ·have hn:=ln hm;subst hm hn;refine⟨none,0,w,?_,by simpa using Row.nil w e i.size,.refl _ _,by simp [AD]⟩;cases b <;> simp [Builtin.append_,run_underlying hu,sizeOf,typeInfo,hi,Builtin.lenOf,Builtin.firstCells,loadCells,loadCellsFrom]
  ·obtain⟨p,rfl,hp⟩:=src (by omega);have aH:=run_append_nil (P:=P) w t ty e i z hu hi hiz p m mc news hl hp (by omega) (by omega) (by simp only [Nat.zero_add] at db;omega);have aJ:=grown 0 (by omega);simp only [Nat.zero_add] at aJ aH ⊢;refine⟨_,_,_,aH,?_,dZ _ _,λ k hk=>.inr ?_⟩
   ·simpa using aJ
   ·simp [AD] at hk;omega
 ·by_cases eH:n+m<=c
  ·by_cases hm:m=0
   ·have hn:=ln hm;subst hm hn;refine⟨some ⟨g,0,none⟩,c,w,?_,by simpa using hr,.refl _ _,λ k hk=>.inl hk⟩;cases b <;> simp [Builtin.append_,run_underlying hu,sizeOf,typeInfo,hi,Builtin.lenOf,Builtin.firstCells,loadCells,loadCellsFrom,rq,storeCells]
   ·obtain⟨p,rfl,hp⟩:=src (by omega);have cV:n*i.size+news.length<=cur.size:=by rw [hl,aj,<- Ak4];exact Nat.mul_le_mul_right _ eH
    have aH:=run_append_room (P:=P) w t ty e i hu hi g n c cur hg p m mc news hl hp h1 eH cV;have dB:(List.take (n*i.size) cur.toList)=xs:=htake;refine⟨_,_,_,aH,⟨hlen,.inr ⟨g,_,rfl,LA hg,eH,jK,?_,?_⟩⟩,(Hk w g _).mono (λ k _ h=>by subst h;rfl),λ k hk=>.inl hk⟩
    ·simp only [List.size_toArray,List.length_append,List.length_take,List.length_drop,Ak7];omega
    ·rw [dB];rw [<- hlen];exact Ak6
  ·obtain⟨p,rfl,hp⟩:=src (by omega);have hold:∀ j v,xs[j]?=some v->w.cell? ((⟨g,0,none⟩:Addr).add j)=some v:=by
    intro j v hv;obtain⟨q,hq,hc⟩:=hr.rd j v hv;cases hq;exact hc
   have aH:=run_append_grow (P:=P) w t ty e i z hu hi hiz ⟨g,0,none⟩ n c xs hr.1 hold p m mc news hl hp (by omega) (by omega) (growslice_fits (by omega) db);refine⟨_,_,_,aH,grown c (by omega),dZ _ _,λ k hk=>.inr ?_⟩;simp [AD] at hk;omega
def bl(s:ByteArray):List UInt8:=s.data.toList
def BC(l:List UInt8):ByteArray:=⟨l.toArray⟩
def Ag(c:UInt8):Value:=.int .u8 (c.toNat:Int)
theorem BN(l:List UInt8):bl (BC l)=l:=by simp [bl,BC]
theorem EJ(s:ByteArray):BC (bl s)=s:=by cases s;simp [bl,BC]
theorem Bb(s:ByteArray):(bl s).length=s.size:=Ak7
theorem A1(l:List UInt8):(BC l).size=l.length:=by simp [BC,ByteArray.size]
theorem QP{s t:ByteArray}(h:bl s=bl t):s=t:=by rw [<- EJ s,<- EJ t,h]
theorem extract_eq(s:ByteArray)(a b:Nat):s.extract a b=BC (((bl s).drop a).take (b-a)):=by
 have h:=ByteArray.extract_mk (bl s) a b;have e:(ByteArray.mk (bl s).toArray)=s:=EJ s;rw [e] at h;exact h
theorem A0(a b:ByteArray):AY a b=decide (a=b):=by
 unfold AY;rw [ByteArray.toList_eq,ByteArray.toList_eq];have:(a=b)↔a.data.toList=b.data.toList:=⟨λ h=>by rw [h],λ h=>QP h⟩;rw [Bool.eq_iff_iff];simp [this]
theorem XV(a b:ByteArray):(a==b)=decide (a=b):=by
 rw [beq_toListBytes];exact A0 a b
theorem ME(s:ByteArray)(i:Nat):Aw s i=(bl s).getD i 0:=rfl
theorem WQ(c:UInt8):(Ag c).oneCell'=true:=rfl
def Un(P:Program)(st bt:TypeId):Bool :=
 match P.underlying st,P.underlying bt with
 | some .string,some (.slice e)=>(match P.underlying e with
  | some (.int .u8)=>true
  | _=>false)
 | _,_=>false
theorem Uo{P:Program}{st bt:TypeId}(h:Un P st bt=true):P.underlying st=some .string/\∃ e,P.underlying bt=some (.slice e)/\P.underlying e=some (.int .u8):=by
 unfold Un at h;split at h
 ·rename_i e hs hb;split at h
  ·rename_i he;exact⟨hs,e,hb,he⟩
  ·cases h
 ·cases h
theorem Pz(F:Nat->Prop)(w:World)(p:Addr)(n:Nat)(hp:F p.block):Ai F w (w.freeze p n):=by
 unfold World.freeze;split
 ·exact .refl _ _
 ·refine⟨rfl,rfl,rfl,by simp,λ k _ hn=>?_⟩;simp only [Ak1];rw [if_neg (λ h=>hn (by rw [<- h];exact hp))]
theorem CE{P:Program}{st bt:TypeId}(hT:Un P st bt=true)(s:ByteArray)(w:World){f:Value->World->Prop}
  (hf:∀(b c:Nat) (cs:Array Value) (e:TypeId) (w':World),b=w.heap.size->Below w.heap.size w w'->w'.heap[b]?=some (.cells cs e (cs.size,cs.size+1))->cs.size=c->s.size<=c ->
   cs.toList.take s.size=(bl s).map Ag->f (.slice (some ⟨b,0,none⟩) s.size c) w'):DB P (convert st bt (.string s)) f w:=by
 obtain⟨hs,e,hb,he⟩:=Uo hT;let cap:=grownCap w s.size 0 e;let cs:Array Value:=(s.data.map λ b=>Value.int .u8 b.toNat)++Array.replicate (cap-s.size) (.int .u8 0);have aI:s.size<=cap:=grownCap_ge w s.size 0 e;have aw:cs.size=cap:=by
  have:s.data.size=s.size:=rfl;simp [cs,this];omega
 let w1:World:=w.drew.alloc (.cells cs e);have yc:w1.heap[w.heap.size]?=some (.cells cs e (0,0)):=heap_alloc_new w.drew _;have gL:w1.shape? w.heap.size=some (e,cs.size):=by simp [World.shape?,yc]
 have aH:(convert st bt (.string s)).run P w=.ok (.slice (some ⟨w.heap.size,0,none⟩) s.size cap) (w1.freeze ⟨w.heap.size,cs.size,none⟩ 1):=by
  have hq:(Question.appendCap s.size 0 e).forced=false:=rfl;have bG:(newRow e cs).run P w.drew=.ok ⟨w.heap.size,0,none⟩ w1:=rfl;have du:(choose (.appendCap s.size 0 e)).run P w=.ok cap w.drew:=by
   rw [run_choose];simp [hq,cap,grownCap]
  have jX:(markStringish ⟨w.heap.size,0,none⟩).run P w1=.ok () (w1.freeze ⟨w.heap.size,cs.size,none⟩ 1):=by
   simp [markStringish,gL]
  simp only [convert,Sem.run_bind,run_underlying hs,run_underlying hb,run_underlying he,Result.andThen_ok,Conv.stringToBytes,du,Sem.run_pure];simp only [cs] at bG;rw [bG];simp only [Result.andThen_ok,jX]
 unfold DB;rw [aH];have qB:(w1.freeze ⟨w.heap.size,cs.size,none⟩ 1).heap[w.heap.size]?=some (.cells cs e (cs.size,cs.size+1)):=by
  unfold World.freeze;simp [Ak1,yc]
 refine hf _ _ cs e _ rfl ?_ qB aw aI ?_
 ·have h1:Ai (λ k=>k=w.heap.size) w w1:=(Ai.refl _ w).drew.alloc _;have h2:=Pz (λ k=>k=w.heap.size) w1 ⟨w.heap.size,cs.size,none⟩ 1 rfl;exact (h1.trans h2 (λ _ _ h=>h)).below (Nat.le_refl _) (λ k hk he=>by omega)
 ·have hl:s.size=((s.data.map λ b=>Value.int .u8 b.toNat)).toList.length:=by rw [Ak7,Array.size_map];rfl
  simp only [cs,Ak5];rw [hl,Ak6];simp [bl,Ag]
theorem AcH(l:List UInt8):(l.map λ c=>((c.toNat:Nat):Int)).foldl (λ r n=>r.push (UInt8.ofNat n.toNat)) ByteArray.empty=BC l:=by
 rw [foldl_push_bytes];apply QP;rw [BN];show (ByteArray.empty.data++_).toList=l;have h0:ByteArray.empty.data.toList=[]:=rfl;rw [Ak5,h0,List.nil_append,List.map_map,List.toList_toArray];have:((λ n:Int=>UInt8.ofNat n.toNat) ∘ λ c:UInt8=>((c.toNat:Nat):Int))=id:=by
  funext c;simp
 rw [this,List.map_id]
theorem Ax{P:Program}{st bt:TypeId}(hT:Un P st bt=true){w:World}{a:Option Addr}{l:List UInt8}{n c:Nat}(hn:n=l.length)(hr:Rd w a (l.map Ag)){f:Value->World->Prop}
  (hf:f (.string (BC l)) w):DB P (convert bt st (.slice a n c)) f w:=by
 obtain⟨hs,e,hb,he⟩:=Uo hT;unfold DB;rw [run_convert_bytes_string w bt st e a n c hb he hs];cases a with
 | none =>
  have hl:l=[]:=by
   cases l with
   | nil=>rfl
   | cons x r =>
    obtain⟨p,hp,_⟩:=hr 0 (Ag x) (by simp);cases hp
  subst hl;have:BC []=ByteArray.empty:=rfl;rw [this] at hf;simpa [Conv.bytesToString] using hf
 | some p =>
  have hld:(loadCells p n).run P w=.ok ((l.map λ c=>((c.toNat:Nat):Int)).map (Value.int .u8)).toArray w:=by
   have:=run_loadCells_list (P:=P) w p (l.map Ag) (λ j v hv=>by
    obtain⟨q,hq,hc⟩:=hr j v hv;cases hq;exact hc)
   rw [List.length_map,<- hn] at this;rw [this];congr 1;simp [Ag,Function.comp_def]
  rw [run_bytesToString w p n c _ hld,AcH];exact hf
end Go.Dn
namespace Go.Dn
open Go.RowKit (Below)
theorem SH.below{w0 w:World}{H:List Zh}(S:SH (λ _=>False) w0 w H):Below w0.heap.size w0 w:=S.keeps.below (Nat.le_refl _) (by simp)
end Go.Dn
namespace Go.Dn
open _root_.Array renaming ext' -> AkP
open _root_.List renaming append_assoc -> Alc, length_append -> Alb, length_cons -> Ald, replicate -> Ak9, set_set -> Ala
open _root_.Nat renaming le_refl -> Ak8
open Go.RowKit (Below)
section
variable {F:Nat->Prop}{w0 w:World}{H:List Zh}
theorem SH.An(S:SH F w0 w H){cs:Array Value}{t:TypeId}{k:Nat->World->Prop}(hk:∀ b w',w.heap.size<=b->Below w.heap.size w w'->SH F w0 w' ((b,cs,t) :: H)->k b w'):DM cs t k w :=
 hk _ _ (Ak8 _) ((Below.refl _ w).alloc (Ak8 _) _) (S.alloc cs t)
theorem SH.E5(S:SH F w0 w H){k:World->Prop}(hk:∀ w',Below w.heap.size w w'->SH F w0 w' H->k w'):QI k w:=hk _ ((Below.refl _ w).drew) S.drew
theorem SH.Abt(S:SH F w0 w H)(n:Nat){b:Nat}{cs:Array Value}{t:TypeId}(hn:H[n]?=some (b,cs,t)){i:Nat}{v:Value}{k:World->Prop}(hi:i<cs.size)
  (hk:∀ w',Ai (·=b) w w'->SH F w0 w' (H.set n (b,cs.setIfInBounds i v,t))->k w'):DY ⟨b,i,none⟩ v k w:=by
 refine⟨?_,S.free n hn i,hk _ (Fh w b i v) (S.setAt n hn (Fh w b i v) (Fv (S.get n hn) v))⟩;rw [S.cell n hn (Array.getElem?_eq_getElem hi)];rfl
theorem SH.AiI(S:SH F w0 w H)(n:Nat){b:Nat}{x0 x1 x2 v0 v1 v2:Value}{t:TypeId}(hn:H[n]?=some (b,#[x0,x1,x2],t)){k:World->Prop}
  (hk:∀ w',Ai (·=b) w w'->SH F w0 w' (H.set n (b,#[v0,v1,v2],t))->k w'):DY ⟨b,0,none⟩ v0 (λ w=>DY ⟨b,1,none⟩ v1 (λ w=>DY ⟨b,2,none⟩ v2 k w) w) w:=by
 have aB:=(List.getElem?_eq_some_iff.1 hn).1;refine S.Abt n hn (by simp) λ w1 K1 S1=>S1.Abt n (List.getElem?_set_self aB) (by simp) λ w2 K2 S2=>S2.Abt n (cs:=#[v0,v1,x2]) (t:=t) ?_ (by simp) λ w3 K3 S3=>hk w3 ((K1.trans K2 (λ _ _ h=>h)).trans K3 (λ _ _ h=>h)) ?_
 ·rw [Ala,List.getElem?_set_self aB];rfl
 ·have e:((H.set n (b,#[x0,x1,x2].setIfInBounds 0 v0,t)).set n (b,(#[x0,x1,x2].setIfInBounds 0 v0).setIfInBounds 1 v1,t)).set n (b,#[v0,v1,x2].setIfInBounds 2 v2,t)=H.set n (b,#[v0,v1,v2],t):=by
   rw [Ala,Ala];rfl
  rw [<- e];exact S3
theorem SH.ne(S:SH F w0 w H)(i j:Nat){x y:Zh}(hi:H[i]?=some x)(hj:H[j]?=some y)(aQ:i≠j):x.1≠y.1 :=
 Aaw S.nodup (by simp [hi]) (by simp [hj]) aQ
end
theorem LQ(z:Array Value)(n:Nat):(madeCells z n).size=n:=by simp [madeCells]
theorem El(z:Value)(h:z.cells=#[z])(n:Nat):(madeCells z.cells n).toList=Ak9 n z:=by
 rw [h];apply List.ext_getElem
 ·simp [madeCells]
 ·intro i h1 h2;simp [madeCells,Nat.mod_one]
theorem Ea{P:Program}{t e:TypeId}{sz bytes:Nat}{z:Value}(hT:M9 P t=some (e,sz,bytes,z)){w:World}{l c:Int}(h0:0<=l)(hlc:l<=c)(hb:(bytes:Int)*c<=281474976710656)(hc:c<=9223372036854775807)
  {f:Value->World->Prop} {kl kc:IntKind} (hf:∀ b w',w.heap.size<=b->Below w.heap.size w w'->w'.heap[b]?=some (.cells (madeCells z.cells (c.toNat*sz)) e (0,0))->f (.slice (some ⟨b,0,none⟩) l.toNat c.toNat) w') :
  DB P (Instr.makeSlice t (.int kl l) (.int kc c)) f w:=by
 obtain⟨hu,i,hi,hiz,rfl,rfl⟩:=Qo hT;unfold DB;rw [run_make w t e i z hu hi hiz kl kc l c h0 hlc hb hc];exact hf _ _ (Ak8 _) ((Below.refl _ w).alloc (Ak8 _) _) (heap_alloc_new w _)
theorem Hw{P:Program}{t e:TypeId}{sz bytes:Nat}{z:Value}(hT:M9 P t=some (e,sz,bytes,z)){w:World}{c:Nat}(hb:bytes*c<=281474976710656)(hc:c<=9223372036854775807)
  {f:Value->World->Prop} {kl kc:IntKind} (hf:∀ b w',w.heap.size<=b->Below w.heap.size w w'->Row w' e sz (some ⟨b,0,none⟩) 0 c []->f (.slice (some ⟨b,0,none⟩) 0 c) w') :
  DB P (Instr.makeSlice t (.int kl 0) (.int kc (c:Int))) f w:=by
 refine Ea hT (l:=0) (c:=(c:Int)) (by omega) (by omega) ?_ (by omega) λ b w' h1 h2 h3=>?_
 ·rw [<- Int.natCast_mul];omega
 ·rw [Int.toNat_natCast] at h3 ⊢;exact hf b w' h1 h2 ⟨by simp,.inr ⟨b,_,rfl,h3,by omega,hc,by rw [LQ],by simp⟩⟩
theorem EZ{w:World}{b:Nat}{cs:Array Value}{t:TypeId}(hb:w.heap[b]?=some (.cells cs t (0,0))){i:Nat}{v:Value}{k:World->Prop}(hi:i<cs.size)
  (hk:∀ w',Ai (·=b) w w'->w'.heap[b]?=some (.cells (cs.setIfInBounds i v) t (0,0))->k w'):DY ⟨b,i,none⟩ v k w:=by
 refine⟨?_,?_,hk _ (Fh w b i v) (Fv hb v)⟩
 ·simp [World.cell?,hb,hi]
 ·simp [World.frozen?,hb]
section
variable {F:Nat->Prop}{w0 w:World}{H:List Zh}
theorem SH.II(S:SH F w0 w H){z0 z1 z2 v0 v1 v2:Value}{t:TypeId}{k:Nat->World->Prop}(hk:∀ b w',w.heap.size<=b->Below w.heap.size w w'->SH F w0 w' ((b,#[v0,v1,v2],t) :: H)->k b w') :
  DM #[z0,z1,z2] t (λ b w=>DY ⟨b,0,none⟩ v0 (λ w=>DY ⟨b,1,none⟩ v1 (λ w=>DY ⟨b,2,none⟩ v2 (λ w=>k b w) w) w) w) w:=by
 refine S.An λ b w1 hb B1 S1=>S1.AiI 0 rfl λ w2 K2 S2=>hk b w2 hb (B1.trans (K2.below B1.size λ k hk he=>by omega)) S2
end
theorem JA{P:Program}{w:World}(s:ByteArray):(Builtin.firstCells 1 s.size (.string s)).run P w=.ok ((bl s).map Ag).toArray w:=by
 simp only [Builtin.firstCells,Sem.run_pure];congr 1;apply AkP;have:s.extract 0 s.size=s:=by rw [extract_eq];apply QP;rw [BN,List.drop_zero,Nat.sub_zero,List.take_of_length_le (by rw [Bb];omega)]
 rw [this];simp [bl,Ag]
theorem VV{P:Program}{t u ty e:TypeId}{bytes:Nat}{z:Value}(hT:M9 P t=some (e,1,bytes,z))(iZ:P.underlying u=some .string)(hz:z.cells.size=1)(bg:0<bytes)
  {w:World} {a:Option Addr} {n c:Nat} {xs:List Value} (hr:Row w e 1 a n c xs) (s:ByteArray) (db:(n+s.size)*bytes<=140737488355328) :
  ∃ a' c' w',(Builtin.append_ #[t,u] ty #[.slice a n c,.string s]).run P w=.ok (.slice a' (n+s.size) c') w'/\Row w' e 1 a' (n+s.size) c' (xs++(bl s).map Ag) /\
   Ai (λ k=>AD a=some k) w w'/\(∀ k,AD a'=some k->AD a=some k\/w.heap.size<=k):=by
 obtain⟨hu,i,hi,hiz,dS,rfl⟩:=Qo hT;have bz:n+s.size<=140737488355328:=Nat.le_trans (Nat.le_mul_of_pos_right _ bg) db;have hl:((bl s).map Ag).length=s.size:=by rw [List.length_map,Bb]
 have hlen:(xs++(bl s).map Ag).length=(n+s.size)*1:=by rw [Alb,hr.1,hl];omega
 have h1:∀ u∈(bl s).map Ag,u.oneCell'=true:=by
  intro u hu;obtain⟨c,_,rfl⟩:=List.mem_map.1 hu;exact WQ c
 have grown:∀(old:Nat),old<n+s.size->Row (w.drew.alloc (.cells (xs.toArray++((bl s).map Ag).toArray++Builtin.zeroCells z.cells (grownCap w (n+s.size) old e-(n+s.size))) e)) e 1
   (some ⟨w.heap.size,0,none⟩) (n+s.size) (grownCap w (n+s.size) old e) (xs++(bl s).map Ag):=by
  intro old ho;have aI:=grownCap_ge w (n+s.size) old e;have jK:grownCap w (n+s.size) old e<=maxLen:=grownCap_le_maxLen w (n+s.size) old e (by unfold maxLen;omega);refine⟨hlen,.inr ⟨w.heap.size,_,rfl,heap_alloc_new w.drew _,aI,by unfold maxLen at jK;omega,?_,?_⟩⟩
  ·simp only [Array.size_append,List.size_toArray,size_zeroCells,hz,hr.1,hl];omega
  ·simp only [Array.toList_append,Alc];rw [<- Alc,<- hlen];exact List.take_left
 have dZ:∀(cs:Array Value) (row:Nat->Prop),Ai row w (w.drew.alloc (.cells cs e)):=λ cs row=>(Ai.refl row w).drew.alloc _;have grow:∀(old:Nat) (o8:Value),(∀ w',w'.heap=w.heap->(Builtin.firstCells 1 n o8).run P w'=.ok xs.toArray w')->old<n+s.size->(∃ b0,o8=.slice b0 n old) ->
   (Builtin.append_ #[t,u] ty #[o8,.string s]).run P w=.ok (.slice (some ⟨w.heap.size,0,none⟩) (n+s.size) (grownCap w (n+s.size) old e))
    (w.drew.alloc (.cells (xs.toArray++((bl s).map Ag).toArray++Builtin.zeroCells z.cells (grownCap w (n+s.size) old e-(n+s.size))) e)):=by
  rintro old _ hf ho ⟨b0,rfl⟩;have hn:¬ (n+s.size<=old):=by omega
  have tz:¬ (9223372036854775807<((n:Int)+(s.size:Int))):=by omega
  have tv:¬ (281474976710656<Builtin.nextslicecap (n+s.size) old*i.bytes):=by have:=growslice_fits (old:=old) (need:=n+s.size) ho db;omega
  have hf':=hf w.drew rfl;simp [Builtin.append_,run_underlying hu,run_underlying iZ,sizeOf,typeInfo,zeroValue,hi,hiz,dS,Builtin.lenOf,hn,tz,tv,Question.forced,hf',JA,newRow,grownCap];congr 2;apply AkP;simp [Alc]
 rcases hr.2 with ⟨rfl,rfl,rfl⟩ | ⟨g,cur,rfl,hg,rq,jK,aj,htake⟩
 ·have hx:xs=[]:=List.eq_nil_of_length_eq_zero (by simpa using hr.1);subst hx;by_cases hm:s.size=0
  ·have hn:(bl s).map Ag=[]:=List.eq_nil_of_length_eq_zero (by rw [hl,hm]);refine⟨none,0,w,?_,by rw [hm,hn];exact Row.nil w e 1,.refl _ _,by simp [AD]⟩;have:=JA (P:=P) (w:=w) s;rw [hm] at this;simp [Builtin.append_,run_underlying hu,run_underlying iZ,sizeOf,typeInfo,hi,dS,Builtin.lenOf,hm,this]
  ·exact⟨_,_,_,grow 0 (.slice none 0 0) (λ w' _=>by simp [Builtin.firstCells]) (by omega) ⟨_,rfl⟩,grown 0 (by omega),dZ _ _,λ k hk=>.inr (by simp [AD] at hk;omega)⟩
 ·by_cases eH:n+s.size<=c
  ·have cV:n+((bl s).map Ag).length<=cur.size:=by rw [hl,aj];omega
   have aA:=run_storeCells_at P g n e ((bl s).map Ag) 0 cur w hg (by simpa using cV) h1;simp only [Nat.add_zero] at aA;refine⟨some ⟨g,0,none⟩,c,_,?_,⟨hlen,.inr ⟨g,_,rfl,LA hg,eH,jK,?_,?_⟩⟩,(Hk w g (cur.toList.take n++(bl s).map Ag++cur.toList.drop (n+((bl s).map Ag).length)).toArray).mono (λ k _ h=>by subst h;rfl),λ k hk=>.inl hk⟩
   ·simp [Builtin.append_,run_underlying hu,run_underlying iZ,sizeOf,typeInfo,hi,dS,Builtin.lenOf,eH,JA,Addr.add_lit];rw [aA];simp
   ·simp only [List.size_toArray,Alb,List.length_take,List.length_drop,Array.length_toList];omega
   ·have dB:cur.toList.take n=xs:=by rw [<- htake];simp
    rw [dB,<- hlen];exact List.take_left
  ·have hold:∀ w',w'.heap=w.heap->(Builtin.firstCells 1 n (.slice (some ⟨g,0,none⟩) n c)).run P w'=.ok xs.toArray w':=by
    intro w' l8;refine run_firstCells_some (P:=P) w' 1 n ⟨g,0,none⟩ n c xs hr.1 λ j v hv=>?_;obtain⟨q,hq,hc⟩:=hr.rd j v hv;cases hq;have:w'.cell? ((⟨g,0,none⟩:Addr).add j)=w.cell? ((⟨g,0,none⟩:Addr).add j):=by unfold World.cell?;rw [l8]
    rw [this];exact hc
   exact⟨_,_,_,grow c _ hold (by omega) ⟨_,rfl⟩,grown c (by omega),dZ _ _,λ k hk=>.inr (by simp [AD] at hk;omega)⟩
theorem Pa{P:Program}{t u ty e:TypeId}{sz bytes:Nat}{z:Value}(hT:M9 P t=some (e,sz,bytes,z))(iZ:P.underlying u=some (.int .i64))(hz:z.cells.size=sz)(aw:0<sz)(bg:0<bytes)
  {w:World} {m:Nat} (hm:0<m) (db:m*bytes<=140737488355328) :
  ∃ c' w',(Builtin.append_ #[t,u] ty #[.slice none 0 0,.int .i64 (m:Int)]).run P w=.ok (.slice (some ⟨w.heap.size,0,none⟩) m c') w'/\Row w' e sz (some ⟨w.heap.size,0,none⟩) 0 c' []/\m<=c'/\Below w.heap.size w w':=by
 obtain⟨hu,i,hi,hiz,rfl,rfl⟩:=Qo hT;have bz:m<=140737488355328:=Nat.le_trans (Nat.le_mul_of_pos_right _ bg) db;have aI:=grownCap_ge w m 0 e;have jK:grownCap w m 0 e<=maxLen:=grownCap_le_maxLen w m 0 e (by unfold maxLen;omega);have hw:IntKind.i64.wrap (m:Int)=m:=by rw [IntKind.wrap_i64];omega
 have h1:¬ ((m:Int)<0):=by omega
 have h2:¬ (281474976710656<(m:Int)*(i.bytes:Int)):=by rw [<- Int.natCast_mul];omega
 have h3:¬ (m*i.size=0):=by have:=Nat.mul_pos hm aw;omega
 have h4:¬ (m<=0):=by omega
 have h5:¬ (9223372036854775807<(m:Int)):=by omega
 have h6:¬ (281474976710656<Builtin.nextslicecap m 0*i.bytes):=by rw [nextslicecap_zero hm];omega
 have h7:¬ (m=0):=by omega
 have h8:¬ (i.size=0):=by omega
 refine⟨grownCap w m 0 e,w.drew.alloc (.cells (Builtin.zeroCells z.cells m++Builtin.zeroCells z.cells (grownCap w m 0 e-m)) e),?_,?_,aI,((Below.refl _ w).drew).alloc (Ak8 _) _⟩
 ·simp [Builtin.append_,run_underlying hu,run_underlying iZ,sizeOf,typeInfo,zeroValue,hi,hiz,asInt,asIntOf,hw,h1,h2,h5,h6,h7,Question.forced,Builtin.firstCells,newRow,grownCap];intro h;exact absurd h h3
 ·refine⟨by simp,.inr ⟨w.heap.size,_,rfl,heap_alloc_new w.drew _,by omega,by unfold maxLen at jK;omega,?_,by simp⟩⟩;rw [Array.size_append,size_zeroCells,size_zeroCells,hz,<- Nat.add_mul];congr 1;omega
theorem Jr(kd:IntKind):∀(us:List Int) {n:Nat} {f:List Value->Prop},us.length=n->f (us.map (.int kd))->FC (Ak9 n (.int kd 0)) f
 | [],_,_,hn,h=>by subst hn;exact h
 | u :: us,_,_,hn,h=>by subst hn;exact⟨u,Jr kd us rfl h⟩
theorem Uf(kd:IntKind):∀(us:List Int) {n:Nat} {a:Addr} {i:Nat} {k:List Value->Prop} {w:World},us.length=n->(∀ j u,us[j]?=some u->w.cell? (a.add (i+j))=some (.int kd u)) ->
  k (us.map (.int kd))->CZ (Ak9 n (.int kd 0)) a i k w
 | [],_,_,_,_,_,hn,_,h=>by subst hn;exact h
 | u :: us,_,a,i,k,w,hn,hc,h=>by
  subst hn;exact⟨u,hc 0 u rfl,Uf kd us rfl (λ j x hj=>by have:=hc (j+1) x (by simpa using hj);rwa [show i+(j+1)=i+1+j by omega] at this) h⟩
theorem O4(kd:IntKind)(us:List Int){n:Nat}{a:Addr}{k:List Value->Prop}{w:World}(hn:us.length=n)(hr:Rd w (some a) (us.map (.int kd)))(h:k (us.map (.int kd))) :
  CZ (Ak9 n (.int kd 0)) a 0 k w :=
 Uf kd us hn (λ j u hj=>by
  obtain⟨p,hp,hc⟩:=hr j (.int kd u) (by simp [hj]);cases hp;simpa using hc) h
def RY:Array Value->Nat->List Value->Array Value
 | cs,_,[]=>cs
 | cs,i,v :: vs=>RY (cs.setIfInBounds i v) (i+1) vs
theorem Nz:∀(vs:List Value) (cs:Array Value) (i:Nat),i+vs.length<=cs.size->(RY cs i vs).toList=cs.toList.take i++vs++cs.toList.drop (i+vs.length)
 | [],cs,i,_=>by simp [RY]
 | v :: vs,cs,i,h=>by
  simp only [Ald] at h;rw [RY,Nz vs _ _ (by simp;omega)];apply List.ext_getElem?;intro j;simp only [Array.toList_setIfInBounds,Ald,List.getElem?_append,Alb,List.length_take,List.length_set,Array.length_toList,List.getElem?_take,List.getElem?_drop]
  grind
theorem Vy(vs:List Value)(cs:Array Value)(h:vs.length=cs.size):RY cs 0 vs=⟨vs⟩:=by
 apply AkP;rw [Nz vs cs 0 (by omega)];simp [h]
theorem NI:∀(vs:List Value) {w:World} {b:Nat} {cs:Array Value} {t:TypeId} {i:Nat} {k:World->Prop},w.heap[b]?=some (.cells cs t (0,0))->i+vs.length<=cs.size->(∀ v∈vs,v.oneCell'=true) ->
  (∀ w',Ai (·=b) w w'->w'.heap[b]?=some (.cells (RY cs i vs) t (0,0))->k w')->CT vs ⟨b,0,none⟩ i k w
 | [],w,_,_,_,_,_,hb,_,_,hk=>hk w (.refl _ w) hb
 | v :: vs,w,b,cs,t,i,k,hb,hi,h1,hk=>by
  simp only [Ald] at hi;unfold CT;rw [h1 v (by simp),Ay,Nat.zero_add];exact EZ hb (by omega) λ w1 K1 cI=>NI vs cI (by simp;omega) (λ x hx=>h1 x (by simp [hx])) λ w2 K2 dF=>hk w2 (K1.trans K2 (λ _ _ h=>h)) dF
theorem SH.Er{F:Nat->Prop}{w0 w:World}{H:List Zh}(S:SH F w0 w H)(n:Nat){b:Nat}{cs:Array Value}{t:TypeId}(hn:H[n]?=some (b,cs,t)){vs:List Value}(hl:vs.length=cs.size)(h1:∀ v∈vs,v.oneCell'=true)
  {k:World->Prop} (hk:∀ w',Ai (·=b) w w'->SH F w0 w' (H.set n (b,⟨vs⟩,t))->k w'):CT vs ⟨b,0,none⟩ 0 k w :=
 NI vs (S.get n hn) (by omega) h1 λ w' K hb=>hk w' K (S.setAt n hn K (by rw [Vy vs cs hl] at hb;exact hb))
theorem UU(kd:IntKind)(us:List Int):∀ v∈us.map (Value.int kd),v.oneCell'=true:=by
 intro v hv;obtain⟨u,_,rfl⟩:=List.mem_map.1 hv;rfl
end Go.Dn
namespace Go.Proofs.YtpnaifmmggnimaaGreatDoor
open _root_.BitVec renaming ofInt -> AkK
open _root_.Int renaming toNat_natCast -> Ale
open _root_.Nat renaming min_eq_left -> Alf
set_option maxRecDepth 100000
open Go.Dn Go.Proofs
set_option linter.unusedVariables false
abbrev Wd:=BitVec 32
def wI(x:Wd):Int:=(x.toNat:Int)
def Ac2(x:Wd)(r:Nat):Wd:=(x >>> r) ||| (x <<< (32-r))
theorem AdV(x:Wd)(k:Nat):AkK 32 (IntKind.u32.wrap ((x.toNat:Int)*2 ^ k))=x <<< k:=by
 rw [Cx];apply BitVec.eq_of_toNat_eq;rw [BitVec.toNat_ofInt,BitVec.toNat_shiftLeft,Nat.shiftLeft_eq];have:((x.toNat:Int)*2 ^ k)=((x.toNat*2 ^ k:Nat):Int):=by simp
 rw [this];omega
theorem AiH(x:Wd)(k:Nat):AkK 32 (Int.fdiv (x.toNat:Int) (2 ^ k))=x >>> k:=by
 rw [Jz,Bn]
theorem Nh(x y:Wd):IntKind.u32.wrap ((x.toNat:Int)+(y.toNat:Int))=((x+y).toNat:Int):=by
 rw [wrap_u32,BitVec.toNat_add];omega
theorem NG(x y:Wd):IntKind.u32.wrap (((AkK 32 (x.toNat:Int) ^^^ AkK 32 (y.toNat:Int)).toNat:Int))=((x ^^^ y).toNat:Int):=by
 rw [Bn,Bn,Bq]
theorem Ag6(x:Wd)(r:Nat)(hr:r=16\/r=12\/r=8\/r=7)(w:World) :
  Calls Tryz.prog f.JN #[.int .u32 (x.toNat:Int),.int .i64 (IntKind.i64.wrap (0-(r:Int)))] w (AG λ v w'=>v=.int .u32 ((Ac2 x r).toNat:Int)/\w'=w):=by
 have e1:IntKind.u64.wrap (((AkK 64 (IntKind.u64.wrap (IntKind.i64.wrap (0-(r:Int)))) &&& AkK 64 31).toNat:Int))=((32-r:Nat):Int):=by
  rcases hr with rfl | rfl | rfl | rfl <;> rfl
 have e2:IntKind.u64.wrap (32-((32-r:Nat):Int))=(r:Int):=by
  rcases hr with rfl | rfl | rfl | rfl <;> rfl
 have aB:r<32:=by omega
 apply R.GY
 delta R.V R.Wu R.Wv;try dsimp only [R.Ps]
 rw [e1,e2];refine⟨by omega,by omega,?_,rfl⟩;rw [Ale,Ale,Alf (by omega),Alf (by omega),AdV,AiH,Bq,BitVec.or_comm];rfl
theorem T8(x:Wd)(r:Nat)(hr:r<32)(w:World) :
  Calls Tryz.prog f.AcM #[.int .u32 (x.toNat:Int),.int .i64 (r:Int)] w (AG λ v w'=>v=.int .u32 ((Ac2 x r).toNat:Int)/\Go.RowKit.Below w.heap.size w w'):=by
 apply R.RA
 delta R.D R.V R.W R.Wv;try dsimp only [R.Ps]
 refine (SH.start (λ _=>False) w).E5 λ w1 B1 _=>?_;have e2:IntKind.i64.wrap (32-(r:Int))=((32-r:Nat):Int):=by rw [wrap_i64 (by omega) (by omega)];omega
 rw [e2];refine⟨by omega,by omega,?_,B1⟩;rw [Ale,Ale,Alf (by omega),Alf (by omega),AdV,AiH,Bq];rfl
def Ki(a b c d x:Wd)(r s:Nat):Wd × Wd × Wd × Wd :=
 let a:=a+(b+x);let d:=Ac2 (d ^^^ a) r;let c:=c+d;let b:=Ac2 (b ^^^ c) s
 (a,b,c,d)
theorem AdE(a b c d x:Wd)(r s:Nat)(hr:r=16\/r=12\/r=8\/r=7)(hs:s=16\/s=12\/s=8\/s=7)(w:World) :
  Calls Tryz.prog f.AeN #[.int .u32 (a.toNat:Int),.int .u32 (b.toNat:Int),.int .u32 (c.toNat:Int),.int .u32 (d.toNat:Int),.int .u32 (x.toNat:Int),.int .i64 (r:Int),.int .i64 (s:Int)] w
   (AG λ v w'=>v=.tuple #[.int .u32 ((Ki a b c d x r s).1.toNat:Int),.int .u32 ((Ki a b c d x r s).2.1.toNat:Int),.int .u32 ((Ki a b c d x r s).2.2.1.toNat:Int),.int .u32 ((Ki a b c d x r s).2.2.2.toNat:Int)]/\w'=w):=by
 apply R.Th
 delta R.Cv R.H R.I R.V R.W R.Wv;try dsimp only [R.Ps]
 rw [Nh,Nh,NG];refine (Ag6 _ r hr w).mono ?_;rintro _ w ⟨_,rfl,rfl,rfl⟩;refine⟨_,rfl,?_⟩;rw [Nh,NG];refine (Ag6 _ s hs w).mono ?_;rintro _ w ⟨_,rfl,rfl,rfl⟩;exact⟨_,rfl,rfl,rfl⟩
end Go.Proofs.YtpnaifmmggnimaaGreatDoor
namespace Go.Proofs.YtpnaifmmggnimaaGreatDoor
open _root_.Int renaming toNat_natCast -> Ale
open _root_.List renaming replicate -> Ak9
open _root_.Nat renaming mul_one -> Alh, zero_add -> Alg
set_option maxRecDepth 100000
open Go.Dn Go.Proofs
open Go.RowKit (Below)
set_option linter.unusedVariables false
def wV(x:Wd):Value:=.int .u32 (x.toNat:Int)
theorem Yu(v:List Wd):v.map wV=(v.map wI).map (.int .u32):=by simp [wV,wI]
theorem O3(v:List Wd){n:Nat}{f:List Value->Prop}(hn:v.length=n)(h:f (v.map wV)):FC (Ak9 n (.int .u32 0)) f :=
 Jr .u32 (v.map wI) (by simpa using hn) (by rw [<- Yu];exact h)
theorem Dd(v:List Wd){n:Nat}{a:Addr}{k:List Value->Prop}{w:World}(hn:v.length=n)(hr:Rd w (some a) (v.map wV))(h:k (v.map wV)):CZ (Ak9 n (.int .u32 0)) a 0 k w :=
 O4 .u32 (v.map wI) (by simpa using hn) (by rw [<- Yu];exact hr) (by rw [<- Yu];exact h)
theorem IZ(v:List Wd):∀ x∈v.map wV,x.oneCell'=true:=by
 rw [Yu];exact UU _ _
theorem Ds{vs:List Value}{n:Nat}{X:Prop}(h:vs.length=n)(hx:X):bif (Nat.beq (List.length vs) n && true) then X else False:=by
 subst h;rw [Nat.beq_refl];exact hx
section
variable {F:Nat->Prop}{w0 w:World}{H:List Zh}
theorem _root_.Go.Dn.SH.wd(S:SH F w0 w H)(n:Nat){b:Nat}{v:List Wd}{t:TypeId}(hn:H[n]?=some (b,⟨v.map wV⟩,t)){j x:Nat}(hj:j<v.length)(hx:x=j):w.cell? ((⟨b,0,none⟩:Addr).add (x*1))=some (.int .u32 ((v.getD j 0).toNat:Int)):=by
 subst hx;rw [Ay,Alg,Alh];refine S.cell n hn ?_;simp [hj,wV]
theorem _root_.Go.Dn.SH.by8(S:SH F w0 w H)(n:Nat){b:Nat}{v:List Int}{t:TypeId}(hn:H[n]?=some (b,⟨v.map (.int .u8)⟩,t)){j x:Nat}(hj:j<v.length)(hx:x=j):w.cell? ((⟨b,0,none⟩:Addr).add (x*1))=some (.int .u8 (v.getD j 0)):=by
 subst hx;rw [Ay,Alg,Alh];refine S.cell n hn ?_;simp [hj]
theorem _root_.Go.Dn.SH.Fq(S:SH F w0 w H)(n:Nat){b:Nat}{v:List Wd}{t:TypeId}(hn:H[n]?=some (b,⟨v.map wV⟩,t)){j x:Nat}(hj:j<v.length)(hx:x=j){y:Wd}{k:World->Prop}
  (hk:∀ w',SH F w0 w' (H.set n (b,⟨(v.set j y).map wV⟩,t))->k w'):DY ((⟨b,0,none⟩:Addr).add (x*1)) (.int .u32 (y.toNat:Int)) k w:=by
 subst hx;rw [Ay,Alg,Alh];refine S.BP n hn (by simpa using hj) λ w' S'=>hk w' ?_;have e:(⟨v.map wV⟩:Array Value).setIfInBounds x (.int .u32 (y.toNat:Int))=⟨(v.set x y).map wV⟩:=by
  apply Array.ext';simp [wV,List.map_set]
 rw [e] at S';exact S'
theorem _root_.Go.Dn.SH.Akz(S:SH F w0 w H){z0 z1 z2 z3 v0 v1 v2 v3:Value}{t:TypeId}{k:Nat->World->Prop}(hk:∀ b w',SH F w0 w' ((b,#[v0,v1,v2,v3],t) :: H)->k b w') :
  DM #[z0,z1,z2,z3] t (λ b w=>DY ⟨b,0,none⟩ v0 (λ w=>DY ⟨b,1,none⟩ v1 (λ w=>DY ⟨b,2,none⟩ v2 (λ w=>DY ⟨b,3,none⟩ v3 (λ w=>k b w) w) w) w) w) w :=
 S.An λ b w1 _ _ S1=>S1.BP 0 rfl (by simp) λ w2 S2=>S2.BP 0 rfl (by simp) λ w3 S3=>S3.BP 0 rfl (by simp) λ w4 S4=>S4.BP 0 rfl (by simp) λ w5 S5=>hk b w5 S5
end
def Ca:List Wd:=[0x6a09e667,0xbb67ae85,0x3c6ef372,0xa54ff53a,0x510e527f,0x9b05688c,0x1f83d9ab,0x5be0cd19]
def T3:List Int:=[0,1,2,3,4,5,6,7,8,9,10,11,12,13,14,15,
 14,10,4,8,9,15,13,6,1,12,0,2,11,7,5,3,
 11,8,12,0,5,2,15,13,10,14,3,6,7,1,9,4,
 7,9,3,1,13,12,11,14,2,6,5,10,4,0,15,8,
 9,0,5,7,2,4,10,15,14,1,11,12,6,8,3,13,
 2,12,6,10,0,11,8,3,4,13,7,5,15,14,1,9,
 12,5,1,15,14,13,4,10,0,7,6,3,9,2,8,11,
 13,11,7,14,12,1,3,9,5,0,15,4,8,6,2,10,
 6,15,14,9,11,3,0,8,12,2,13,7,1,4,10,5,
 10,2,8,4,7,6,1,5,15,11,9,14,3,12,13,0]
def HH:List Int:=[0,4,8,12,1,5,9,13,2,6,10,14,3,7,11,15,0,5,10,15,1,6,11,12,2,7,8,13,3,4,9,14]
def Kl(i j:Nat):Nat:=(HH.getD (i*4+j) 0).toNat
def LS(r:Nat):List Int:=(T3.drop (r*16)).take 16
def ord(r j:Nat):Nat:=((LS r).getD j 0).toNat
theorem G0:∀ i,i<8->∀ j,j<4->Kl i j<16:=by decide
theorem Yv:∀ r,r<10->∀ j,j<16->ord r j<16:=by decide
theorem AgV:∀ r,r<10->∀ j,j<16->(LS r).getD j 0=(ord r j:Int):=by decide
theorem Aje:∀ i,i<8->(HH.drop (i*4)).take 4=[(Kl i 0:Int),(Kl i 1:Int),(Kl i 2:Int),(Kl i 3:Int)]:=by decide
theorem JO:∀ r,r<10->(LS r).length=16:=by decide
def Xw(m:List Wd)(r i:Nat)(v:List Wd):List Wd :=
 let h1:=Ki (v.getD (Kl i 0) 0) (v.getD (Kl i 1) 0) (v.getD (Kl i 2) 0) (v.getD (Kl i 3) 0) (m.getD (ord r (2*i)) 0) 16 12;let h2:=Ki h1.1 h1.2.1 h1.2.2.1 h1.2.2.2 (m.getD (ord r (2*i+1)) 0) 8 7
 (((v.set (Kl i 0) h2.1).set (Kl i 1) h2.2.1).set (Kl i 2) h2.2.2.1).set (Kl i 3) h2.2.2.2
def JH(m:List Wd)(r:Nat)(v:List Wd):Nat->List Wd
 | 0=>v
 | i+1=>Xw m r i (JH m r v i)
def DF(m v:List Wd):Nat->List Wd
 | 0=>v
 | r+1=>JH m r (DF m v r) 8
theorem HJ(m:List Wd)(r:Nat)(v:List Wd):∀ i,(JH m r v i).length=v.length
 | 0=>rfl
 | i+1=>by simp [JH,Xw,HJ m r v i]
theorem JQ(m v:List Wd):∀ r,(DF m v r).length=v.length
 | 0=>rfl
 | r+1=>by simp [DF,HJ,JQ m v r]
structure I5(w:World):Prop where
 first:Rd w (some ⟨0,0,none⟩) (Ca.map wV)
 orders:Rd w (some ⟨1,0,none⟩) (T3.map (.int .u8))
 places:Rd w (some ⟨2,0,none⟩) (HH.map (.int .u8))
theorem I5.grown{w w':World}(h:I5 w)(B:Below w.heap.size w w'):I5 w':=⟨h.first.grown B,h.orders.grown B,h.places.grown B⟩
theorem MR{x:Int}{n:Nat}(h:[Value.int .i64 x]=[.int .i64 (n:Int)]):x=(n:Int):=by simpa using h
theorem Afp{w:World}(T:I5 w)(v m:List Wd)(hv:v.length=16)(hm:m.length=16) :
  Calls Tryz.prog f.Aaa #[.agg ⟨v.map wV⟩,.agg ⟨m.map wV⟩] w (AG λ r w'=>r=.agg ⟨(DF m v 10).map wV⟩/\Below w.heap.size w w'):=by
 apply R.PA
 delta R.A R.Ab R.B R.AbT R.D R.F R.I R.Lv R.Ly R.N R.Qi R.Am R.V R.W R.X;try dsimp only [R.Ps]
 refine (SH.start (λ _=>False) w).An λ b3 w1 _ _ S=>S.An λ b4 w2 _ _ S=>S.An λ b5 w3 _ _ S=>?_;refine O4 .u8 T3 rfl (T.orders.grown S.below) ?_;refine⟨λ st w'=>∃ r:Nat,st=[.int .i64 (r:Int)]/\r<=10/\SH (λ _=>False) w w' [(b5,⟨Ak9 16 (.int .u32 0)⟩,224),(b4,⟨m.map wV⟩,224),(b3,⟨(DF m v r).map wV⟩,224)],
  λ st _=>match st with | [.int _ t]=>(10-t).toNat | _=>0,⟨0,rfl,by omega,S⟩,?_⟩
 rintro t w4 ⟨r,aA,hr,S⟩;cases MR aA;have hlen:=(JQ m v r).trans hv;refine Aa (λ aB=>⟨⟨by omega,aB⟩,?_⟩) (λ aI=>?_)
 ·have cu:r<10:=by omega
  refine Jr .u8 (LS r) (JO r cu) ⟨by rw [Ale];simp [LS,List.map_take,List.map_drop],?_⟩;refine S.An λ dk w6 _ _ S=>Ds (by simp [JO r cu]) (S.Er 0 rfl (by simp [JO r cu]) (UU _ _) λ w7 _ S=>?_);refine O4 .u8 HH rfl (T.places.grown S.below) ?_;refine⟨λ st w'=>∃ i:Nat,st=[.int .i64 (i:Int)]/\i<=8/\SH (λ _=>False) w w' [(dk,⟨(LS r).map (.int .u8)⟩,296),(b5,⟨Ak9 16 (.int .u32 0)⟩,224),(b4,⟨m.map wV⟩,224),(b3,⟨(JH m r (DF m v r) i).map wV⟩,224)],
   λ st _=>match st with | [.int _ t]=>(8-t).toNat | _=>0,⟨0,rfl,by omega,S⟩,?_⟩
  rintro t w8 ⟨i,aA,hi,S⟩;cases MR aA;have yJ:=(HJ m r (DF m v r) i).trans hlen;refine Aa (λ ao=>⟨⟨by omega,ao⟩,?_⟩) (λ br=>?_)
  ·have k8:i<8:=by omega
   refine⟨_,_,_,_,by rw [Ale,<- List.map_drop,<- List.map_take,Aje i k8];rfl,?_⟩;have e2:IntKind.i64.wrap (2*(i:Int))=((2*i:Nat):Int):=by rw [wrap_i64 (by omega) (by omega)];omega
   have e3:IntKind.i64.wrap (((2*i:Nat):Int)+1)=((2*i+1:Nat):Int):=Ae (by omega);have p0:=G0 i k8 0 (by omega);have p1:=G0 i k8 1 (by omega);have p2:=G0 i k8 2 (by omega);have p3:=G0 i k8 3 (by omega);have o0:=Yv r cu (2*i) (by omega);have o1:=Yv r cu (2*i+1) (by omega);have aJ:=JO r cu;rw [e2,e3];refine S.Akz λ ju al S=>S.draw λ an S=>?_;refine⟨⟨by omega,by omega⟩,_,S.cell 0 rfl rfl,⟨by omega,by omega⟩,_,S.wd 4 rfl (by omega) (Ale _),_,S.cell 0 rfl rfl,⟨by omega,by omega⟩,_,S.wd 4 rfl (by omega) (Ale _),
    _,S.cell 0 rfl rfl,⟨by omega,by omega⟩,_,S.wd 4 rfl (by omega) (Ale _),_,S.cell 0 rfl rfl,⟨by omega,by omega⟩,_,S.wd 4 rfl (by omega) (Ale _),
    _,(S.by8 1 rfl (by omega) (Ale _)).trans (by rw [AgV r cu _ (by omega)]),⟨by omega,by omega⟩,_,S.wd 3 rfl (by omega) (Ale _),?_⟩
   refine (AdE _ _ _ _ _ 16 12 (by simp) (by simp) an).mono ?_;rintro _ ah ⟨_,rfl,rfl,rfl⟩;refine⟨_,_,_,_,rfl,S.draw λ cp S=>?_⟩;refine⟨⟨by omega,by omega⟩,_,S.cell 0 rfl rfl,_,S.cell 0 rfl rfl,_,S.cell 0 rfl rfl,_,S.cell 0 rfl rfl,
    _,(S.by8 1 rfl (by omega) (Ale _)).trans (by rw [AgV r cu _ (by omega)]),⟨by omega,by omega⟩,_,S.wd 3 rfl (by omega) (Ale _),?_⟩
   refine (AdE _ _ _ _ _ 8 7 (by simp) (by simp) cp).mono ?_;rintro _ cP ⟨_,rfl,rfl,rfl⟩;refine⟨_,_,_,_,rfl,S.cell 0 rfl rfl,S.cell 0 rfl rfl,S.cell 0 rfl rfl,S.cell 0 rfl rfl,⟨by omega,by omega⟩,S.Fq 4 rfl (by omega) (Ale _) λ eZ S=>?_⟩;refine⟨S.cell 0 rfl rfl,S.cell 0 rfl rfl,S.cell 0 rfl rfl,⟨by omega,by omega⟩,S.Fq 4 rfl (by simp;omega) (Ale _) λ fB S=>?_⟩;refine⟨S.cell 0 rfl rfl,S.cell 0 rfl rfl,⟨by omega,by omega⟩,S.Fq 4 rfl (by simp;omega) (Ale _) λ fC S=>?_⟩;refine⟨S.cell 0 rfl rfl,⟨by omega,by omega⟩,S.Fq 4 rfl (by simp;omega) (Ale _) λ fD S=>?_⟩;rw [Ae (by omega)];exact⟨⟨i+1,rfl,by omega,S.drop 1⟩,by show (8-((i+1:Nat):Int)).toNat<(8-(i:Int)).toNat;omega⟩
  ·have k8:i=8:=by omega
   subst k8;rw [Ae (by omega)];exact⟨⟨r+1,rfl,by omega,S.drop 1⟩,by show (10-((r+1:Nat):Int)).toNat<(10-(r:Int)).toNat;omega⟩
 ·have cu:r=10:=by omega
  have ax:((DF m v r).map wV).length=16:=by rw [List.length_map];exact hlen
  refine Dd (DF m v r) hlen (Rd.Ak (S.get 2 rfl)) ?_;refine Ds ax (S.Er 0 rfl ax (IZ _) λ w5 _ S=>?_);exact Dd (DF m v r) hlen (Rd.Ak (S.get 0 rfl)) ⟨by rw [cu],S.below⟩
end Go.Proofs.YtpnaifmmggnimaaGreatDoor
namespace Go.Dn
set_option linter.unusedVariables false
set_option maxRecDepth 100000
open Go.RowKit (Below)
theorem SH.copy{F:Nat->Prop}{w0 w:World}{H:List Zh}(S:SH F w0 w H)(n:Nat){b:Nat}{cs:Array Value}{t:TypeId}(hn:H[n]?=some (b,cs,t)){P:Program}{dT sT ty elem:TypeId}(hu:P.underlying dT=some (.slice elem))
  (hs:(P.info? elem).map (·.size)=some 1) {a:Option Addr} {xs:List Value} {eY oA dLen mE:Nat} (hx:xs.length=eY) (hd:dLen<=cs.size) (hr:Rd w a xs) (h1:∀ v∈xs,v.oneCell'=true) {f:Value->World->Prop}
  (hf:∀ w',Ai (·=b) w w'->SH F w0 w' (H.set n (b,⟨xs.take dLen++cs.toList.drop (min eY dLen)⟩,t))->f (.int .i64 ((min eY dLen:Nat):Int)) w') :
  DB P (Builtin.copy_ #[dT,sT] ty #[.slice (some ⟨b,0,none⟩) dLen mE,.slice a eY oA]) f w:=by
 have hg:=S.get n hn;cases a with
 | none =>
  have nt:xs=[]:=by
   cases xs with
   | nil=>rfl
   | cons x r =>
    obtain⟨p,hp,_⟩:=hr 0 x rfl;cases hp
  subst nt;have y':eY=0:=hx.symm;subst y';unfold DB;rw [run_copy_none w dT sT ty elem (some ⟨b,0,none⟩) none dLen mE 0 oA hu hs (by simp)];have:=hf w (.refl _ w) (S.setAt n hn (.refl _ w) (by simpa using hg));simpa [goInt] using this
 | some p =>
  have hl:(xs.take dLen).length=Nat.min eY dLen:=by rw [List.length_take,hx];exact Nat.min_comm _ _
  have hc:=run_copy_row P w dT sT ty elem b 0 dLen mE p eY oA cs t (xs.take dLen) hu hs hg hl (λ j v hj=>by
   rw [List.getElem?_take] at hj;split at hj
   ·obtain⟨q,hq,hc⟩:=hr j v hj;cases hq;exact hc
   ·cases hj) (by rw [hl,Nat.zero_add];exact Nat.le_trans (Nat.min_le_right _ _) hd) (λ v hv=>h1 v (List.mem_of_mem_take hv))
  unfold DB;rw [hc];have cl:(xs.take dLen).length=min eY dLen:=hl;have e:(cs.toList.take 0++xs.take dLen++cs.toList.drop (0+(xs.take dLen).length)).toArray=⟨xs.take dLen++cs.toList.drop (min eY dLen)⟩:=by
   rw [cl];simp
  rw [e];have:=hf _ (Hk w b _) (S.setAt n hn (Hk w b _) (LA hg));simpa only [goInt,cl] using this
end Go.Dn
namespace Go.Proofs.YtpnaifmmggnimaaGreatDoor
open _root_.BitVec renaming ofInt -> AkK, ofInt_natCast -> Alm, ofNat -> Alq, toNat_ofNat -> All, toNat_or -> Alz
open _root_.Int renaming fdiv -> Alu, tmod_eq_emod_of_nonneg -> Aly, toNat_natCast -> Ale
open _root_.List renaming drop_eq_nil_of_le -> AlD, getD_eq_getElem?_getD -> AlH, length_append -> Alb, length_cons -> Ald, length_drop -> AlE, length_map -> Alr, length_set -> Ali, map_append -> Alv, map_drop -> AlF, map_take -> AlG, replicate -> Ak9, set_comm -> AlI
open _root_.Nat renaming add_sub_cancel_left -> Alx, le_trans -> Als, mod_eq_of_lt -> Alk, mod_lt -> AlC, mul_comm -> Alp, mul_le_mul_right -> Aln, mul_one -> Alh, or_comm -> AlB, pow_le_pow_right -> Alw, pow_succ -> Alo, two_pow_add_eq_or_of_lt -> AlA, zero_add -> Alg
open _root_.Prod.mk renaming injEq -> AkO
open _root_.UInt8 renaming ofNat -> Alj
set_option maxRecDepth 100000
open Go.Dn Go.Proofs
open Go.RowKit (Below)
set_option linter.unusedVariables false
def uI(c:UInt8):Int:=(c.toNat:Int)
theorem MA(l:List UInt8):l.map Ag=(l.map uI).map (.int .u8):=by simp [Ag,uI,Function.comp_def]
theorem Hz(l:List UInt8){n:Nat}{a:Addr}{k:List Value->Prop}{w:World}(hn:l.length=n)(hr:Rd w (some a) (l.map Ag))(h:k (l.map Ag)):CZ (Ak9 n (.int .u8 0)) a 0 k w :=
 O4 .u8 (l.map uI) (by simpa using hn) (by rw [<- MA];exact hr) (by rw [<- MA];exact h)
section
variable {F:Nat->Prop}{w0 w:World}{H:List Zh}
theorem _root_.Go.Dn.SH.wd'(S:SH F w0 w H)(n:Nat){b:Nat}{v:List Wd}{t:TypeId}(hn:H[n]?=some (b,⟨v.map wV⟩,t)){j:Nat}(hj:j<v.length):w.cell? ⟨b,j,none⟩=some (.int .u32 ((v.getD j 0).toNat:Int)):=by
 have:=S.wd n hn hj rfl;rwa [Ay,Alg,Alh] at this
theorem _root_.Go.Dn.SH.Mq(S:SH F w0 w H)(n:Nat){b:Nat}{v:List Wd}{t:TypeId}(hn:H[n]?=some (b,⟨v.map wV⟩,t)){j:Nat}(hj:j<v.length){y:Wd}{k:World->Prop}
  (hk:∀ w',SH F w0 w' (H.set n (b,⟨(v.set j y).map wV⟩,t))->k w'):DY ⟨b,j,none⟩ (.int .u32 (y.toNat:Int)) k w:=by
 have:=S.Fq n hn hj rfl hk;rwa [Ay,Alg,Alh] at this
end
def byW(c:UInt8):Wd:=Alq 32 c.toNat
def mO(CJ:List UInt8):Nat->List Wd
 | 0=>Ak9 16 0
 | i+1=>(mO CJ i).set (i / 4) ((mO CJ i).getD (i / 4) 0 ||| (byW (CJ.getD i 0) <<< (8*(i % 4))))
theorem Acs(CJ:List UInt8):∀ i,(mO CJ i).length=16
 | 0=>by simp [mO]
 | i+1=>by simp [mO,Acs CJ i]
def vF(h:List Wd):Nat->List Wd
 | 0=>h++Ak9 8 0
 | i+1=>(vF h i).set (8+i) (Ca.getD i 0)
theorem Ahx(h:List Wd)(hh:h.length=8):∀ i,(vF h i).length=16
 | 0=>by simp [vF,hh]
 | i+1=>by simp [vF,Ahx h hh i]
def vN(v:List Wd)(n:Nat)(last:Bool):List Wd :=
 let v:=v.set 12 (v.getD 12 0 ^^^ Alq 32 n);let v:=v.set 13 (v.getD 13 0 ^^^ Alq 32 (n / 4294967296))
 if last then v.set 14 (4294967295 ^^^ v.getD 14 0) else v
theorem Ahy(v:List Wd)(n:Nat)(last:Bool):(vN v n last).length=v.length:=by
 unfold vN;cases last <;> simp
def hF(h v:List Wd):Nat->List Wd
 | 0=>h
 | i+1=>(hF h v i).set i ((hF h v i).getD i 0 ^^^ (v.getD i 0 ^^^ v.getD (i+8) 0))
theorem Yi(h v:List Wd):∀ i,(hF h v i).length=h.length
 | 0=>rfl
 | i+1=>by simp [hF,Yi h v i]
def U5(h:List Wd)(CJ:List UInt8)(n:Nat)(last:Bool):List Wd:=hF h (DF (mO CJ 64) (vN (vF h 8) n last) 10) 8
theorem Ad5(i:Nat)(h:i<64):IntKind.i64.wrap (Int.tdiv (i:Int) 4)=((i / 4:Nat):Int):=by
 rw [Int.tdiv_eq_ediv_of_nonneg (by omega),wrap_i64 (by omega) (by omega)];omega
theorem Ad6(i:Nat)(h:i<64):IntKind.i64.wrap (8*Int.tmod (i:Int) 4)=((8*(i % 4):Nat):Int):=by
 rw [Aly (by omega),wrap_i64 (by omega) (by omega)];omega
theorem AdF(c:UInt8):IntKind.u32.wrap (c.toNat:Int)=((byW c).toNat:Int):=by
 have:=c.toNat_lt;rw [SV (by omega) (by omega),byW,All];omega
theorem Aih{w:World}(T:I5 w)(h:List Wd)(hh:h.length=8)(CJ:List UInt8)(hb:CJ.length=64)(n:Nat)(hn:n<18446744073709551616)(last:Bool) :
  Calls Tryz.prog f.Ti #[.agg ⟨h.map wV⟩,.agg ⟨CJ.map Ag⟩,.int .u64 (n:Int),.bool last] w (AG λ r w'=>r=.agg ⟨(U5 h CJ n last).map wV⟩/\Below w.heap.size w w'):=by
 apply R.Ky
 delta R.A R.Ab R.B R.D R.F R.I R.Lv R.Qi R.Ri R.S R.Am R.V R.W R.Wv R.X R.Y R.Z;try dsimp only [R.Ps]
 refine (SH.start (λ _=>False) w).An λ b5 w1 _ _ S=>S.An λ b6 w2 _ _ S=>S.An λ b7 w3 _ _ S=>S.An λ b8 w4 _ _ S=>S.An λ b9 w5 _ _ S=>?_;refine Hz CJ hb (Rd.Ak (S.get 3 rfl)) ?_;refine⟨λ st w'=>∃ i:Nat,st=[.int .i64 (i:Int)]/\i<=64/\SH (λ _=>False) w w' [(b9,⟨(mO CJ i).map wV⟩,224),(b8,⟨Ak9 16 (.int .u32 0)⟩,224),(b7,⟨Ak9 8 (.int .u32 0)⟩,216),(b6,⟨CJ.map Ag⟩,217),(b5,⟨h.map wV⟩,216)],
  λ st _=>match st with | [.int _ t]=>(64-t).toNat | _=>0,⟨0,rfl,by omega,S⟩,?_⟩
 rintro t w6 ⟨i,aA,hi,S⟩;cases MR aA;have lW:=Acs CJ i;refine Aa (λ aB=>⟨⟨by omega,aB⟩,?_⟩) (λ aI=>?_)
 ·have df:i<64:=by omega
  have e1:=Ad5 i df;have e2:=Ad6 i df;refine⟨uI (CJ.getD i 0),?_,S.draw λ w7 S=>?_⟩
  ·rw [Ale,Alh];simp [hb,df,Ag,uI]
  ·rw [e1,e2];refine⟨⟨by omega,by omega⟩,by omega,_,S.wd 0 rfl (by omega) (Ale _),⟨by omega,by omega⟩,?_⟩;have e3:IntKind.u32.wrap (((AkK 32 (((mO CJ i).getD (i / 4) 0).toNat:Int) ||| AkK 32 (IntKind.u32.wrap ((IntKind.u32.wrap (uI (CJ.getD i 0)))*2 ^ (min ((((8*(i % 4):Nat):Int)).toNat) 32)))).toNat:Int))
     = (((mO CJ i).getD (i / 4) 0 ||| (byW (CJ.getD i 0) <<< (8*(i % 4)))).toNat:Int):=by
    rw [Ale,Nat.min_eq_left (by omega),uI,AdF,AdV,Bn,Bq]
   rw [e3];refine S.Fq 0 rfl (by omega) (Ale _) λ w8 S=>?_;rw [Ae (by omega)];exact⟨⟨i+1,rfl,by omega,S⟩,by show (64-((i+1:Nat):Int)).toNat<(64-(i:Int)).toNat;omega⟩
 ·have df:i=64:=by omega
  refine S.draw λ w9 S=>⟨⟨by omega,by omega,by omega⟩,⟨by omega,by omega,by omega⟩,?_⟩;have hz:(Ak9 8 (Value.int .u32 0))=(Ak9 8 (0:Wd)).map wV:=rfl;refine S.copy 1 rfl (P:=Tryz.prog) (elem:=184) (by kernel_rfl) (by kernel_rfl) (a:=some ⟨b5,0,none⟩) (xs:=h.map wV) (by simpa using hh) (by simp) (Rd.Ak (S.get 4 rfl)) (IZ h) λ bV _ S=>?_;have ev:(⟨(h.map wV).take 16++(Ak9 16 (Value.int .u32 0)).drop (min 8 16)⟩:Array Value)=⟨(vF h 0).map wV⟩:=by
   rw [List.take_of_length_le (by simp [hh])];simp [vF,wV]
  replace S:=ev ▸ S
  refine⟨_,rfl,Dd Ca rfl (T.first.grown S.below) ?_⟩;refine⟨λ st w'=>∃ j:Nat,st=[.int .i64 (j:Int)]/\j<=8/\SH (λ _=>False) w w' [(b9,⟨(mO CJ i).map wV⟩,224),(b8,⟨(vF h j).map wV⟩,224),(b7,⟨Ak9 8 (.int .u32 0)⟩,216),(b6,⟨CJ.map Ag⟩,217),(b5,⟨h.map wV⟩,216)],
   λ st _=>match st with | [.int _ t]=>(8-t).toNat | _=>0,⟨0,rfl,by omega,S⟩,?_⟩
  rintro t aY ⟨j,aA,hj,S⟩;cases MR aA;have iI:=Ahx h hh j;refine Aa (λ aB=>⟨⟨by omega,aB⟩,?_⟩) (λ aI=>?_)
  ·have nI:j<8:=by omega
   have e8:IntKind.i64.wrap (8+(j:Int))=((8+j:Nat):Int):=by rw [wrap_i64 (by omega) (by omega)];omega
   rw [e8];refine⟨((Ca.getD j 0).toNat:Int),?_,⟨by omega,by omega⟩,S.Fq 1 rfl (by omega) (Ale _) λ bK S=>?_⟩
   ·rw [Ale,Alh];have:j<Ca.length:=by simpa [Ca] using nI
    simp [this,wV]
   ·rw [Ae (by omega)];exact⟨⟨j+1,rfl,by omega,S⟩,by show (8-((j+1:Nat):Int)).toNat<(8-(j:Int)).toNat;omega⟩
  ·have nI:j=8:=by omega
   have tb:∀ x:Wd,IntKind.u32.wrap (((AkK 32 (x.toNat:Int) ^^^ AkK 32 (IntKind.u32.wrap (n:Int))).toNat:Int))=((x ^^^ Alq 32 n).toNat:Int):=by
    intro x;rw [Cx,Bn,Bq,Alm]
   have td:∀ x:Wd,IntKind.u32.wrap (((AkK 32 (x.toNat:Int) ^^^ AkK 32 (IntKind.u32.wrap (Alu (n:Int) (2 ^ (min 32 64))))).toNat:Int))=((x ^^^ Alq 32 (n / 4294967296)).toNat:Int):=by
    intro x;have:Alu (n:Int) (2 ^ (min 32 64))=((n / 4294967296:Nat):Int):=by
     rw [show (2:Int) ^ (min 32 64)=4294967296 by rfl,Int.fdiv_eq_ediv_of_nonneg _ (by omega)];omega
    rw [this,Cx,Bn,Bq,Alm]
   have te:∀ x:Wd,IntKind.u32.wrap (((AkK 32 4294967295 ^^^ AkK 32 (x.toNat:Int)).toNat:Int))=((4294967295 ^^^ x).toNat:Int):=by
    intro x;rw [Bn,Bq];rfl
   refine⟨_,S.wd' 1 rfl (by omega),?_⟩;rw [tb];refine S.Mq 1 rfl (by omega) λ al S=>⟨_,S.wd' 1 rfl (by simp;omega),?_⟩;rw [td];refine S.Mq 1 rfl (by simp;omega) λ an S=>?_;refine⟨λ _ w'=>SH (λ _=>False) w w' [(b9,⟨(mO CJ i).map wV⟩,224),(b8,⟨(vN (vF h j) n last).map wV⟩,224),(b7,⟨Ak9 8 (.int .u32 0)⟩,216),(b6,⟨CJ.map Ag⟩,217),(b5,⟨h.map wV⟩,216)],?_,?_⟩
   ·refine Aq (λ hl=>?_) (λ hl=>?_)
    ·subst hl;refine⟨_,S.wd' 1 rfl (by simp;omega),?_⟩;rw [te];exact S.Mq 1 rfl (by simp;omega) λ ah S=>S
    ·subst hl;exact S
   ·intro cp S;have nj:(vN (vF h j) n last).length=16:=by rw [Ahy];exact iI
    refine Dd (vN (vF h j) n last) nj (Rd.Ak (S.get 1 rfl)) (Dd (mO CJ i) lW (Rd.Ak (S.get 0 rfl)) ?_);refine (Afp (T.grown S.below) _ _ nj lW).mono ?_;rintro _ cP ⟨_,rfl,rfl,oC⟩;have bR:(DF (mO CJ i) (vN (vF h j) n last) 10).length=16:=by rw [JQ];exact nj
    generalize hV:DF (mO CJ i) (vN (vF h j) n last) 10=V at bR ⊢;refine O3 V bR ⟨rfl,Ds (by simpa using bR) ?_⟩;refine (S.grown oC).Er 1 rfl (by simp [nj,bR]) (IZ _) λ eZ _ S=>?_;refine⟨λ st w'=>∃ q:Nat,st=[.int .i64 (q:Int)]/\q<=8/\SH (λ _=>False) w w' [(b9,⟨(mO CJ i).map wV⟩,224),(b8,⟨V.map wV⟩,224),(b7,⟨Ak9 8 (.int .u32 0)⟩,216),(b6,⟨CJ.map Ag⟩,217),(b5,⟨(hF h V q).map wV⟩,216)],
     λ st _=>match st with | [.int _ t]=>(8-t).toNat | _=>0,⟨0,rfl,by omega,S⟩,?_⟩
    rintro t fB ⟨q,aA,hq,S⟩;cases MR aA;have ki:=(Yi h V q).trans hh;refine Aa (λ aB=>S.draw λ fD S=>?_) (λ aI=>?_)
    ·have e8:IntKind.i64.wrap ((q:Int)+8)=((q+8:Nat):Int):=by rw [wrap_i64 (by omega) (by omega)];omega
     rw [e8];refine⟨⟨by omega,aB⟩,⟨by omega,by omega⟩,⟨by omega,by omega⟩,_,S.wd 4 rfl (by omega) (Ale _),_,S.wd 1 rfl (by omega) (Ale _),_,S.wd 1 rfl (by omega) (Ale _),⟨by omega,aB⟩,?_⟩;rw [NG,NG];refine S.Fq 4 rfl (by omega) (Ale _) λ iM S=>?_;rw [Ae (by omega)];exact⟨⟨q+1,rfl,by omega,S⟩,by show (8-((q+1:Nat):Int)).toNat<(8-(q:Int)).toNat;omega⟩
    ·have fX:q=8:=by omega
     have ax:((hF h V q).map wV).length=8:=by rw [Alr];exact ki
     refine Dd (hF h V q) ki (Rd.Ak (S.get 4 rfl)) (Ds ax (S.Er 2 rfl ax (IZ _) λ fC _ S=>?_));refine Dd (hF h V q) ki (Rd.Ak (S.get 2 rfl)) ⟨?_,S.below⟩;unfold U5;rw [<- nI,<- df,hV];rw [show (hF h V q)=hF h V j by rw [fX,nI]]
theorem CA:Un Tryz.prog ty.string ty.AH=true:=by kernel_rfl
theorem tB:M9 Tryz.prog ty.AH=some (ty.uint8,1,1,.int .u8 0):=by kernel_rfl
theorem zB:(Value.int .u8 0).cells.size=1:=rfl
theorem Ge(l:List UInt8):∀ u∈l.map Ag,u.oneCell'=true:=by
 intro u hu;obtain⟨c,_,rfl⟩:=List.mem_map.1 hu;exact WQ c
structure Bm(w w':World)(l:List UInt8)(a:Option Addr)(c:Nat):Prop where
 row:Row w' ty.uint8 1 a l.length c (l.map Ag)
 new:∀ k,AD a=some k->w.heap.size<=k
 Ar:Below w.heap.size w w'
theorem Ac{a b c:World}(h:Below a.heap.size a b)(h':Below b.heap.size b c):Below a.heap.size a c:=h.trans (h'.mono h.size)
theorem Bm.rd{w w':World}{l:List UInt8}{a:Option Addr}{c:Nat}(h:Bm w w' l a c):Rd w' a (l.map Ag):=h.row.rd
theorem Bm.grown{w w' w2:World}{l:List UInt8}{a:Option Addr}{c:Nat}(h:Bm w w' l a c)(hb:Below w'.heap.size w' w2):Bm w w2 l a c:=⟨h.row.grown hb,h.new,Ac h.Ar hb⟩
theorem Bm.before{w0 w w':World}{l:List UInt8}{a:Option Addr}{c:Nat}(hb:Below w0.heap.size w0 w)(h:Bm w w' l a c):Bm w0 w' l a c:=⟨h.row,λ k hk=>Als hb.size (h.new k hk),Ac hb h.Ar⟩
theorem CO{w:World}{a:Option Addr}{c:Nat}{l:List UInt8}(hr:Row w ty.uint8 1 a l.length c (l.map Ag))(hl:l.length+1<=140737488355328){x:UInt8}{v:Value}(hv:v=Ag x){b:Nat}{t:TypeId}
  (hb:w.heap[b]?=some (.cells #[v] t (0,0))) {f:Value->World->Prop}
  (hf:∀ a' c' w',Row w' ty.uint8 1 a' (l++[x]).length c' ((l++[x]).map Ag)->Ai (λ k=>AD a=some k) w w'->(∀ k,AD a'=some k->AD a=some k\/w.heap.size<=k)->f (.slice a' (l++[x]).length c') w') :
  DB Tryz.prog (Builtin.append_ #[ty.AH,ty.AH] ty.AH #[.slice a l.length c,.slice (some ⟨b,0,none⟩) 1 1]) f w:=by
 subst hv;have aW:Rd w (some ⟨b,0,none⟩) ([x].map Ag):=by
  have:=Rd.Ak hb;simpa using this
 obtain⟨a',c',w',aH,aJ,hk,bG⟩:=BZ (ty:=ty.AH) (mc:=1) tB zB (by omega) (by omega) hr aW (m:=1) rfl (Ge _) (by omega);unfold DB;rw [aH];have hlen:(l++[x]).length=l.length+1:=by simp
 rw [<- Alv,<- hlen] at aJ;rw [<- hlen];exact hf a' c' w' aJ hk bG
theorem A8{w:World}{a:Option Addr}{c:Nat}{l:List UInt8}(hr:Row w ty.uint8 1 a l.length c (l.map Ag)){m:List UInt8}{b:Option Addr}{mc:Nat}(hb:Rd w b (m.map Ag))(hl:l.length+m.length<=140737488355328){f:Value->World->Prop}
  (hf:∀ a' c' w',Row w' ty.uint8 1 a' (l++m).length c' ((l++m).map Ag)->Ai (λ k=>AD a=some k) w w'->(∀ k,AD a'=some k->AD a=some k\/w.heap.size<=k)->f (.slice a' (l++m).length c') w') :
  DB Tryz.prog (Builtin.append_ #[ty.AH,ty.AH] ty.AH #[.slice a l.length c,.slice b m.length mc]) f w:=by
 obtain⟨a',c',w',aH,aJ,hk,bG⟩:=BZ (ty:=ty.AH) (mc:=mc) tB zB (by omega) (by omega) hr hb (m:=m.length) (by simp) (Ge _) (by omega);unfold DB;rw [aH];have hlen:(l++m).length=l.length+m.length:=by simp
 rw [<- Alv,<- hlen] at aJ;rw [<- hlen];exact hf a' c' w' aJ hk bG
theorem ZG{w:World}{a:Option Addr}{c:Nat}{l:List UInt8}(hr:Row w ty.uint8 1 a l.length c (l.map Ag))(s:ByteArray)(hl:l.length+s.size<=140737488355328){f:Value->World->Prop}
  (hf:∀ a' c' w',Row w' ty.uint8 1 a' (l++bl s).length c' ((l++bl s).map Ag)->Ai (λ k=>AD a=some k) w w'->(∀ k,AD a'=some k->AD a=some k\/w.heap.size<=k)->f (.slice a' (l++bl s).length c') w') :
  DB Tryz.prog (Builtin.append_ #[ty.AH,ty.string] ty.AH #[.slice a l.length c,.string s]) f w:=by
 obtain⟨a',c',w',aH,aJ,hk,bG⟩:=VV (ty:=ty.AH) tB (show Tryz.prog.underlying ty.string=some .string by kernel_rfl) zB (by omega) hr s (by omega);unfold DB;rw [aH];have hlen:(l++bl s).length=l.length+s.size:=by rw [Alb,Bb]
 rw [<- Alv,<- hlen] at aJ;rw [<- hlen];exact hf a' c' w' aJ hk bG
/-! ### digits -/
def Af(n:Nat):List UInt8:=if h:n<128 then [Alj n] else Alj (n % 128+128) :: Af (n / 128)
termination_by n
decreasing_by omega
theorem Io(n:Nat):Af n≠[]:=by unfold Af;split <;> simp
theorem Sl:∀(k n:Nat),n<128 ^ (k+1)->(Af n).length<=k+1
 | 0,n,h=>by unfold Af;rw [dif_pos (by simpa using h)];simp
 | k+1,n,h=>by
  unfold Af;split
  ·simp
  ·have:=Sl k (n / 128) (by rw [Alo] at h;exact Nat.div_lt_of_lt_mul (by rw [Alp];exact h));simp only [Ald];omega
theorem Al{n:Nat}(h:n<18446744073709551616):(Af n).length<=10:=Sl 9 n (Nat.lt_trans h (by decide))
theorem AiW{n:Nat}(h:n<18446744073709551616):(AkK 64 (n:Int) &&& AkK 64 127).toNat=n % 128:=by
 rw [BitVec.toNat_and,Alm,All,Alk (by omega)];have:=Nat.and_two_pow_sub_one_eq_mod n 7;exact this
theorem AkA{n:Nat}(h:n<18446744073709551616):IntKind.u8.wrap (IntKind.u64.wrap (((AkK 64 (n:Int) &&& AkK 64 127).toNat:Int)))=((n % 128:Nat):Int):=by
 rw [AiW h,Aj (by omega) (by omega),AE (by omega) (by omega)]
theorem Aj7{x:Nat}(h:x<128):IntKind.u8.wrap (((AkK 8 (x:Int) ||| AkK 8 128).toNat:Int))=((x+128:Nat):Int):=by
 have e:(AkK 8 (x:Int) ||| AkK 8 128).toNat=x+128:=by
  rw [Alz,Alm,All,Alk (by omega)];have:=AlA (i:=7) (b:=x) (by omega) 1;rw [AlB];have h2:(AkK 8 128).toNat=128:=by decide
  rw [h2];have h3:2 ^ 7*1 ||| x=2 ^ 7*1+x:=this.symm;have h4:(128:Nat) ||| x=128+x:=h3;rw [h4];omega
 rw [e,AE (by omega) (by omega)]
theorem AkE(n:Nat):Alu (n:Int) (2 ^ (min 7 64))=((n / 128:Nat):Int):=by
 rw [Int.fdiv_eq_ediv_of_nonneg _ (by decide)]
 norm_cast
theorem Cq{x:Nat}(h:x<256):Value.int .u8 (x:Int)=Ag (Alj x):=by
 unfold Ag;congr 1;simp;omega
theorem Mr(w:World)(n:Nat)(hn:n<18446744073709551616):Calls Tryz.prog f.AbM #[.int .u64 (n:Int)] w (AG λ v w'=>∃ a c,v=.slice a (Af n).length c/\Bm w w' (Af n) a c):=by
 apply R.Qy
 delta R.B R.F R.J R.Ks R.N R.O R.Qus R.S R.U R.Wb R.Wu;try dsimp only [R.Ps]
 refine⟨λ s w1=>∃(m:Nat) (a:Option Addr) (c:Nat) (l:List UInt8),s=[.int .u64 (m:Int),.slice a l.length c]/\m<18446744073709551616/\l++Af m=Af n/\Bm w w1 l a c,
  λ s _=>match s with
   | [.int _ i,_]=>i.toNat
   | _=>0,⟨n,none,0,[],rfl,hn,rfl,Row.nil _ _ _,by simp [AD],.refl _ _⟩,?_⟩
 rintro _ a _ c w1 ⟨m,_,_,l,hs,hm,hl,h1⟩;cases hs;have hlen:l.length+1<=140737488355328:=by
  have:=Al hn;rw [<- hl] at this;simp at this;omega
 rw [AkE,AkA hm];refine Ao (λ h0=>?_) (λ h0=>?_)
 ·have fU:m<128:=by omega
  refine (SH.start (λ _=>False) w1).An λ b5 w2 fg B2 S2=>?_;refine CO (h1.grown B2).row hlen (x:=Alj m) (by rw [Alk fU];exact Cq (by omega)) (S2.get 0 rfl) λ a' c' w3 R3 K3 N3=>⟨_,_,_,rfl,?_⟩;have e:l++[Alj m]=Af n:=by rw [<- hl];conv=>rhs;unfold Af;rw [dif_pos fU]
  rw [e] at R3;rw [e];refine⟨a',c',rfl,R3,λ k hk=>?_,(h1.grown B2).Ar.trans (K3.below (h1.grown B2).Ar.size λ k hk he=>by have:=h1.new k he;omega)⟩;rcases N3 k hk with h | h
  ·exact h1.new k h
  ·exact Als (h1.grown B2).Ar.size h
 ·have fU:¬ m<128:=by omega
  rw [Aj7 (AlC _ (by omega))];refine (SH.start (λ _=>False) w1).An λ b5 w2 fg B2 S2=>?_;refine CO (h1.grown B2).row hlen (x:=Alj (m % 128+128)) (Cq (by omega)) (S2.get 0 rfl) λ a' c' w3 R3 K3 N3=>⟨_,_,_,rfl,?_⟩;refine⟨⟨m / 128,a',c',_,rfl,by omega,?_,R3,λ k hk=>?_,(h1.grown B2).Ar.trans (K3.below (h1.grown B2).Ar.size λ k hk he=>by have:=h1.new k he;omega)⟩,?_⟩
  ·rw [<- hl]
   conv=>rhs;rhs;unfold Af;rw [dif_neg fU]
   simp
  ·rcases N3 k hk with h | h
   ·exact h1.new k h
   ·exact Als (h1.grown B2).Ar.size h
  ·simp only [Ale];omega
/-! ### Concat -/
abbrev DZ:=Option Addr × Nat × List UInt8
def Cc(p:DZ):Value:=.slice p.1 p.2.2.length p.2.1
def BT(ps:List DZ):List UInt8:=ps.flatMap (·.2.2)
theorem JB(ps:List DZ)(k:Nat)(hk:k<ps.length):BT (ps.take (k+1))=BT (ps.take k)++ps[k].2.2:=by
 unfold BT;rw [List.take_succ_eq_append_getElem hk,List.flatMap_append];simp
theorem Z6(ps:List DZ)(k:Nat):(BT (ps.take k)).length<=(BT ps).length:=by
 have:BT ps=BT (ps.take k)++BT (ps.drop k):=by
  unfold BT;rw [<- List.flatMap_append,List.take_append_drop]
 rw [this,Alb];omega
theorem TN(w:World)(n:Nat)(hn:n<=140737488355328):Calls Tryz.prog f.KJ #[.slice none 0 0,.int .i64 (n:Int)] w
  (AG λ v w'=>∃ a c,v=.slice a 0 c/\n<=c/\Row w' ty.uint8 1 a 0 c []/\(∀ k,AD a=some k->w.heap.size<=k)/\Below w.heap.size w w'):=by
 apply R.Hn
 delta R.F R.I R.Rs R.S R.W R.Y;try dsimp only [R.Ps]
 have e0:IntKind.i64.wrap (((0:Nat):Int)-((0:Nat):Int))=0:=by rw [wrap_i64 (by omega) (by omega)];omega
 have e1:IntKind.i64.wrap ((n:Int)-0)=(n:Int):=by rw [wrap_i64 (by omega) (by omega)];omega
 refine Aa (λ h=>by omega) (λ _=>?_);rw [e0,e1];refine Aa (λ hp=>⟨⟨by omega,by omega,by omega⟩,?_⟩) (λ hp=>?_)
 ·obtain⟨c',w',aH,aJ,hc,hb⟩:=Pa (u:=ty.int) (ty:=ty.AH) tB (show Tryz.prog.underlying ty.int=some (.int .i64) by kernel_rfl) zB (by omega) (by omega) (w:=w) (m:=n) (by omega) (by omega);have hs:Cm none 0 0 1=none:=rfl;unfold DB;rw [hs];simp only [Nat.sub_zero,aH];refine⟨_,_,_,rfl,⟨by omega,by omega,by omega⟩,some ⟨w.heap.size,0,none⟩,c',?_,hc,aJ,λ k hk=>by simp [AD] at hk;omega,hb⟩;have:Cm (some (⟨w.heap.size,0,none⟩:Addr)) 0 c' 1=some ⟨w.heap.size,0,none⟩:=by
   unfold Cm;split
   ·rfl
   ·simp [C0]
  rw [this]
 ·have:n=0:=by omega
  subst this;exact⟨none,0,rfl,Nat.le_refl _,Row.nil _ _ _,by simp [AD],.refl _ _⟩
theorem Bo{w:World}{a:Option Addr}{c:Nat}(ps:List DZ)(hp:Rd w a (ps.map Cc))(hb:∀ p∈ps,Rd w p.1 (p.2.2.map Ag))(hn:ps.length<9223372036854775807)(hl:(BT ps).length<=140737488355328) :
  Calls Tryz.prog f.Jl #[.slice a ps.length c] w (AG λ v w'=>∃ a c,v=.slice a (BT ps).length c/\Bm w w' (BT ps) a c):=by
 apply R.GN
 delta R.Ad R.Cs R.F R.I R.Ks R.Ls R.O R.NH R.EM R.S R.W R.X;try dsimp only [R.Ps]
 refine⟨λ s w1=>∃ k:Nat,s=[.int .i64 ((BT (ps.take k)).length:Int),.int .i64 k]/\k<=ps.length/\w1=w,
  λ s _=>match s with
   | [_,.int _ i]=>ps.length-i.toNat
   | _=>0,⟨0,rfl,Nat.zero_le _,rfl⟩,?_⟩
 rintro _ _ w1 ⟨k,hs,hk,rfl⟩;cases hs;refine Aa (λ aB=>⟨⟨by omega,aB⟩,?_⟩) (λ aI=>?_)
 ·have aO:k<ps.length:=by omega
  obtain⟨p,rfl,hc⟩:=hp k (Cc ps[k]) (by simp [aO]);have h1:=Z6 ps (k+1);rw [JB ps k aO,Alb] at h1;refine⟨_,_,_,by rw [Ale,Alh];exact hc,?_⟩;have e:IntKind.i64.wrap (((BT (ps.take k)).length:Int)+(ps[k].2.2.length:Int))=((BT (ps.take (k+1))).length:Int):=by
   rw [JB ps k aO,Alb,wrap_i64 (by omega) (by omega)];omega
  rw [e];refine Aa (λ h=>by omega) (λ _=>?_);rw [Ae (by omega)];refine⟨⟨k+1,rfl,by omega,rfl⟩,?_⟩;simp only [Ale];omega
 ·have jS:k=ps.length:=by omega
  subst jS;rw [List.take_length];refine (TN w1 _ hl).mono ?_;rintro _ w2 ⟨_,rfl,a2,c2,rfl,cG,R2,N2,B2⟩;refine⟨_,_,_,rfl,?_⟩;refine⟨λ s w3=>∃(k:Nat) (a3:Option Addr) (c3:Nat),s=[.slice a3 (BT (ps.take k)).length c3,.int .i64 k]/\k<=ps.length/\Bm w1 w3 (BT (ps.take k)) a3 c3,
   λ s _=>match s with
    | [_,.int _ i]=>ps.length-i.toNat
    | _=>0,⟨0,a2,c2,rfl,Nat.zero_le _,R2,N2,B2⟩,?_⟩
  rintro a3 _ c3 _ w3 ⟨k,_,_,hs,hk,h3⟩;cases hs;refine Aa (λ aB=>⟨⟨by omega,aB⟩,?_⟩) (λ aI=>?_)
  ·have aO:k<ps.length:=by omega
   obtain⟨p,rfl,hc⟩:=(hp.grown h3.Ar) k (Cc ps[k]) (by simp [aO]);have h1:=Z6 ps (k+1);rw [JB ps k aO,Alb] at h1;refine⟨_,_,_,by rw [Ale,Alh];exact hc,?_⟩;refine A8 h3.row ((hb _ (List.getElem_mem aO)).grown h3.Ar) (by omega) λ a' c' w4 R4 K4 N4=>⟨_,_,_,rfl,?_⟩;rw [<- JB ps k aO] at R4 ⊢;rw [Ae (by omega)];refine⟨⟨k+1,a',c',rfl,by omega,R4,λ j hj=>?_,h3.Ar.trans (K4.below h3.Ar.size λ j hj he=>by have:=h3.new j he;omega)⟩,?_⟩
   ·rcases N4 j hj with h | h
    ·exact h3.new j h
    ·exact Als h3.Ar.size h
   ·simp only [Ale];omega
  ·have jS:k=ps.length:=by omega
   subst jS;rw [List.take_length] at h3 ⊢;exact⟨a3,c3,rfl,h3⟩
theorem UF(a b:DZ):BT [a,b]=a.2.2++b.2.2:=by simp [BT]
theorem WY(a b c:DZ):BT [a,b,c]=a.2.2++(b.2.2++c.2.2):=by simp [BT]
theorem Bg{w:World}{a:Option Addr}{c:Nat}(l:List UInt8)(hl:Rd w a (l.map Ag))(n:Nat)(hn:n<18446744073709551616)(hs:l.length+10<=140737488355328) :
  Calls Tryz.prog f.SS #[.slice a l.length c,.int .u64 (n:Int)] w (AG λ v w'=>∃ a c,v=.slice a (l++Af n).length c/\Bm w w' (l++Af n) a c):=by
 apply R.Qw
 delta R.Cs R.J R.N R.S R.U;try dsimp only [R.Ps]
 refine (Mr w n hn).mono ?_;rintro _ w1 ⟨_,rfl,a1,c1,rfl,h1⟩;refine⟨_,_,_,rfl,(SH.start (λ _=>False) w1).An λ b5 w2 fg B2 S2=>?_⟩;have hd:=Al hn;have h2:=h1.grown B2;refine (Bo [(a,c,l),(a1,c1,Af n)] (by have:=Rd.Ak (S2.get 0 rfl);simpa [Cc] using this) (by
  intro p hp;simp only [List.mem_cons,List.not_mem_nil,or_false] at hp;rcases hp with rfl | rfl
  ·exact hl.grown h2.Ar
  ·exact h2.rd) (by simp) (by rw [UF];simp;omega)).mono ?_
 rintro _ w3 ⟨_,rfl,a3,c3,rfl,h3⟩;rw [UF] at h3 ⊢;exact⟨_,_,_,rfl,a3,c3,rfl,h3.before h2.Ar⟩
def BA(s:ByteArray):List UInt8:=Af s.size++bl s
theorem Hr{w:World}{a:Option Addr}{c:Nat}(l:List UInt8)(hl:Rd w a (l.map Ag))(s:ByteArray)(hz:s.size<=1048576)(hs:l.length+10+s.size<=140737488355328) :
  Calls Tryz.prog f.AfF #[.slice a l.length c,.string s] w (AG λ v w'=>∃ a c,v=.tuple #[.slice a (l++BA s).length c,.int .i64 0]/\Bm w w' (l++BA s) a c):=by
 apply R.TV
 delta R.Cs R.F R.H R.I R.J R.N R.O R.Rs R.S R.T R.U R.Wu;try dsimp only [R.Ps]
 refine Aa (λ h=>by omega) (λ _=>?_);rw [Aj (by omega) (by omega)];refine (Mr w s.size (by omega)).mono ?_;rintro _ w1 ⟨_,rfl,a1,c1,rfl,h1⟩;have hd:=Al (n:=s.size) (by omega);refine⟨_,_,_,rfl,CE CA s w1 λ b c2 cs e w2 hb B2 hh aj jg dA=>⟨_,_,_,rfl,(SH.start (λ _=>False) w2).An λ b7 w3 pq B3 S3=>?_⟩⟩;have cw:Rd w2 (some ⟨b,0,none⟩) ((bl s).map Ag):=by rw [<- dA];exact (Rd.Ak hh).take _
 have h3:=(h1.grown B2).grown B3;have au:=Bb s;refine (Bo [(a,c,l),(a1,c1,Af s.size),(some ⟨b,0,none⟩,c2,bl s)] (by have:=Rd.Ak (S3.get 0 rfl);simpa [Cc,au] using this) (by
  intro p hp;simp only [List.mem_cons,List.not_mem_nil,or_false] at hp;rcases hp with rfl | rfl | rfl
  ·exact hl.grown h3.Ar
  ·exact h3.rd
  ·exact cw.grown B3) (by simp) (by rw [WY];simp;omega)).mono ?_
 rintro _ w4 ⟨_,rfl,a3,c3,rfl,h4⟩;rw [WY] at h4 ⊢;exact⟨_,_,_,rfl,a3,c3,rfl,h4.before h3.Ar⟩
def Cn(i acc:Nat):List UInt8->Option (Nat × Nat)
 | []=>none
 | c :: r=>if 9<i\/(i=9/\c.toNat≠1) then none else if c.toNat<128 then (if c.toNat=0/\0<i then none else some (acc+c.toNat*128 ^ i,i+1)) else Cn (i+1) (acc+(c.toNat % 128)*128 ^ i) r
def takeN(l:List UInt8)(at_:Int):Option (Nat × Nat):=if at_<0 then none else (Cn 0 0 (l.drop at_.toNat)).map λ x=>(x.1,at_.toNat+x.2)
def LR(o:Option (Nat × Nat)):Value :=
 match o with
 | some x=>.tuple #[.int .u64 (x.1:Int),.int .i64 (x.2:Int),.int .i64 0]
 | none=>.tuple #[.int .u64 0,.int .i64 0,.int .i64 20]
theorem JU:∀(l:List UInt8) (i acc n k:Nat),acc<128 ^ i->Cn i acc l=some (n,k)->n<18446744073709551616/\i<k/\k<=i+l.length/\k<=10/\(0<i->128 ^ i<=n)
 | [],_,_,_,_,_,h=>by simp [Cn] at h
 | c :: r,i,acc,n,k,ha,h=>by
  unfold Cn at h;split at h
  ·cases h
  ·rename_i hi;split at h
   ·rename_i hc;split at h
    ·cases h
    ·rename_i hz;simp only [Option.some.injEq,AkO] at h;obtain⟨rfl,rfl⟩:=h;refine⟨?_,by omega,by simp,by omega,λ h0=>?_⟩
     ·by_cases h9:i=9
      ·subst h9;have:c.toNat=1:=by omega
       rw [this];have:(128:Nat) ^ 9=9223372036854775808:=by decide
       omega
      ·have hp:(128:Nat) ^ i<=128 ^ 8:=Alw (by omega) (by omega);have:(128:Nat) ^ 8=72057594037927936:=by decide
       have h3:c.toNat*128 ^ i<=127*128 ^ i:=Aln _ (by omega);omega
     ·have h1:1<=c.toNat:=by omega
      have:1*128 ^ i<=c.toNat*128 ^ i:=Aln _ h1;omega
   ·rename_i hc;have k8:i<=8:=by omega
    have hpow:(128:Nat) ^ (i+1)=128 ^ i*128:=Alo ..;have h3:(c.toNat % 128)*128 ^ i<=127*128 ^ i:=Aln _ (by omega);obtain⟨h1,h2,h4,h5,h6⟩:=JU r (i+1) _ n k (by omega) h;refine⟨h1,by omega,by simp;omega,h5,λ _=>?_⟩;have:=h6 (by omega);omega
theorem AcF(i:Nat):(128:Nat) ^ i=2 ^ (7*i):=by rw [Nat.pow_mul]
theorem AdP{acc c i:Nat}(ha:acc<128 ^ i)(hc:c<128)(hi:i<=9)(h9:i=9->c<=1) :
  acc+c*128 ^ i<18446744073709551616/\(AkK 64 (acc:Int) ||| AkK 64 ((c*128 ^ i:Nat):Int)).toNat=acc+c*128 ^ i:=by
 have hb:acc+c*128 ^ i<18446744073709551616:=by
  by_cases h:i=9
  ·subst h;have:=h9 rfl;have e:(128:Nat) ^ 9=9223372036854775808:=by decide
   have:c*128 ^ 9<=1*128 ^ 9:=Aln _ this;omega
  ·have hp:(128:Nat) ^ i<=128 ^ 8:=Alw (by omega) (by omega);have:(128:Nat) ^ 8=72057594037927936:=by decide
   have h3:c*128 ^ i<=127*128 ^ i:=Aln _ (by omega);omega
 refine⟨hb,?_⟩;rw [Alz,Alm,Alm,All,All,Alk (by omega),Alk (by omega),AcF,AlB];rw [AcF] at ha;have:=AlA (i:=7*i) (b:=acc) ha c;rw [Alp c,<- this];omega
theorem Ai8{x:Nat}(h:x<256):IntKind.u8.wrap (((AkK 8 (x:Int) &&& AkK 8 127).toNat:Int))=((x % 128:Nat):Int):=by
 have:(AkK 8 (x:Int) &&& AkK 8 127).toNat=x % 128:=by
  rw [BitVec.toNat_and,Alm,All,Alk (by omega)];exact Nat.and_two_pow_sub_one_eq_mod x 7
 rw [this,AE (by omega) (by omega)]
theorem Vv{c i:Nat}(hc:c<128)(hi:i<=9):IntKind.u64.wrap ((c:Int)*2 ^ (min (IntKind.i64.wrap (7*(i:Int))).toNat 64))=((c*128 ^ i % 18446744073709551616:Nat):Int):=by
 have e:min (IntKind.i64.wrap (7*(i:Int))).toNat 64=7*i:=by rw [wrap_i64 (by omega) (by omega)];omega
 rw [e,wrap_u64,AcF];have:((2:Int) ^ (7*i))=((2 ^ (7*i):Nat):Int):=by norm_cast
 rw [this,<- Int.natCast_mul];omega
section
variable {w:World}{a:Option Addr}{c:Nat}{l:List UInt8}
theorem byte_at(hl:Rd w a (l.map Ag)){i:Nat}(hi:i<l.length):∃ p,a=some p/\w.cell? (p.add (i*1))=some (.int .u8 (l[i].toNat:Int)):=by
 obtain⟨p,hp,hc⟩:=hl i (Ag l[i]) (by simp [hi]);exact⟨p,hp,by rw [Alh];exact hc⟩
theorem WV{i:Nat}(hi:i<l.length):l.drop i=l[i] :: l.drop (i+1):=List.drop_eq_getElem_cons hi
theorem AL(hl:Rd w a (l.map Ag))(hc:l.length<=c)(hs:l.length<=9223372036854775807)(at_:Int):Calls Tryz.prog f.TT #[.slice a l.length c,.int .i64 at_] w (AG λ v w'=>v=LR (takeN l at_)/\w'=w):=by
 apply R.KM
 delta R.Ad R.F R.H R.I R.Ly R.Qui R.U R.W R.Wb R.Wu R.X R.Y R.Z;try dsimp only [R.Ps]
 refine Aa (λ h=>⟨by simp [takeN,h,LR],rfl⟩) (λ h0=>Aa (λ h=>⟨?_,rfl⟩) (λ h1=>?_))
 ·have:l.drop at_.toNat=[]:=AlD (by omega);simp [takeN,h0,this,Cn,LR]
 obtain⟨at_,rfl⟩:∃ k:Nat,at_=k:=⟨at_.toNat,by omega⟩;rw [Ale];have cU:at_<=l.length:=by omega
 have ht:takeN l (at_:Int)=(Cn 0 0 (l.drop at_)).map λ x=>(x.1,at_+x.2):=by unfold takeN;rw [if_neg h0];rfl
 refine⟨⟨by omega,by omega,by omega⟩,?_⟩;refine⟨λ s w1=>w1=w/\∃ i acc:Nat,s=[.int .u64 (acc:Int),.int .i64 (i:Int)]/\i<=10/\at_+i<=l.length/\acc<128 ^ i/\Cn 0 0 (l.drop at_)=Cn i acc (l.drop (at_+i)),
  λ s _=>match s with
   | [_,.int _ i]=>10-i.toNat
   | _=>0,⟨rfl,0,0,rfl,by omega,by omega,by simp,rfl⟩,?_⟩
 rintro _ _ w1 ⟨rfl,i,acc,bS,hi,hle,mS,cA⟩;cases bS;have none_:Cn i acc (l.drop (at_+i))=none->(Value.tuple #[.int .u64 0,.int .i64 0,.int .i64 20]=LR (takeN l (at_:Int))/\w1=w1):=by
  intro hn;rw [ht,cA,hn];exact⟨rfl,rfl⟩
 refine Aa (λ aB=>⟨⟨by omega,aB⟩,?_⟩) (λ aI=>?_)
 ·have aD:at_+i<l.length:=by omega
  have cw:=(hl.OY at_ l.length c 1 hc);obtain⟨p,hp,aE⟩:=cw i (Ag l[at_+i]) (by
   rw [List.getElem?_take_of_lt (by omega),List.getElem?_drop,Alh];simp [aD])
  rw [hp];refine⟨_,by rw [Ale,Alh];exact aE,?_⟩;have hd:=WV aD;generalize iT:l[at_+i]=cc at hd;have lO:=cc.toNat_lt;refine⟨λ _ w2=>w2=w1/\¬ (9<i\/(i=9/\cc.toNat≠1)),?_,?_⟩
  ·refine Aa (λ h=>none_ (by rw [hd];unfold Cn;rw [if_pos (.inl (by omega))])) (λ h9=>Ao (λ h=>Ah (λ h2=>none_ (by rw [hd];unfold Cn;rw [if_pos (.inr ⟨by omega,by omega⟩)])) (λ h2=>⟨rfl,by omega⟩)) (λ h=>⟨rfl,by omega⟩))
  rintro w2 ⟨rfl,aP⟩;have qD:i<=9:=by omega
  have hm:cc.toNat % 128<128:=AlC _ (by omega);have h9:i=9->cc.toNat % 128<=1:=by omega
  obtain⟨hb,hor⟩:=AdP mS hm qD h9;have e1:IntKind.u64.wrap (IntKind.u8.wrap (((AkK 8 (cc.toNat:Int) &&& AkK 8 127).toNat:Int)))=((cc.toNat % 128:Nat):Int):=by rw [Ai8 lO,Aj (by omega) (by omega)]
  rw [e1,Vv hm qD,Alk (by omega:cc.toNat % 128*128 ^ i<18446744073709551616),hor,Aj (by omega) (by omega)];refine⟨by rw [wrap_i64 (by omega) (by omega)];omega,?_⟩;have fin:cc.toNat<128->¬ (cc.toNat=0/\0<i)->(Value.tuple #[.int .u64 ((acc+cc.toNat % 128*128 ^ i:Nat):Int),.int .i64 (IntKind.i64.wrap (IntKind.i64.wrap ((at_:Int)+(i:Int))+1)),.int .i64 0]=LR (takeN l (at_:Int))/\w2=w2):=by
   intro aB hz;refine⟨?_,rfl⟩;rw [ht,cA,hd];unfold Cn;rw [if_neg aP,if_pos aB,if_neg hz,Alk aB,wrap_i64 (n:=(at_:Int)+(i:Int)) (by omega) (by omega),wrap_i64 (by omega) (by omega)];simp only [Option.map_some,LR];congr 5
  refine Aa (λ aB=>Ao (λ hz=>Aa (λ h=>none_ (by rw [hd];unfold Cn;rw [if_neg aP,if_pos (by omega),if_pos ⟨by omega,by omega⟩])) (λ h=>fin (by omega) (by omega))) (λ hz=>fin (by omega) (by omega))) (λ aI=>?_);rw [Ae (by omega)];refine⟨⟨rfl,i+1,_,rfl,by omega,by omega,?_,?_⟩,?_⟩
  ·rw [Alo];have h3:(cc.toNat % 128)*128 ^ i<=127*128 ^ i:=Aln _ (by omega);omega
  ·rw [cA,hd]
   conv=>lhs;unfold Cn
   rw [if_neg aP,if_neg (by omega)];rfl
  ·simp only [Ale];omega
 ·refine none_ ?_;rw [AlD (by omega)];rfl
theorem AJ(hl:Rd w a (l.map Ag))(hs:l.length<=9223372036854775807)(at_:Int)(cU:at_<=9223372036854775807):Calls Tryz.prog f.Rx #[.slice a l.length c,.int .i64 at_] w (AG λ v w'=>v=LR (takeN l at_)/\w'=w):=by
 apply R.JV
 delta R.Ad R.F R.H R.I R.Ly R.Qui R.U R.W R.Wu R.X R.Z;try dsimp only [R.Ps]
 refine Aa (λ h=>⟨by simp [takeN,h,LR],rfl⟩) (λ h0=>?_);obtain⟨at_,rfl⟩:∃ k:Nat,at_=k:=⟨at_.toNat,by omega⟩;have ht:takeN l (at_:Int)=(Cn 0 0 (l.drop at_)).map λ x=>(x.1,at_+x.2):=by unfold takeN;rw [if_neg h0];rfl
 refine⟨λ s w1=>w1=w/\∃ i acc:Nat,s=[.int .u64 (acc:Int),.int .i64 (i:Int)]/\i<=10/\acc<128 ^ i/\Cn 0 0 (l.drop at_)=Cn i acc (l.drop (at_+i)),
  λ s _=>match s with
   | [_,.int _ i]=>10-i.toNat
   | _=>0,⟨rfl,0,0,rfl,by omega,by simp,rfl⟩,?_⟩
 rintro _ _ w1 ⟨rfl,i,acc,bS,hi,mS,cA⟩;cases bS;have none_:Cn i acc (l.drop (at_+i))=none->(Value.tuple #[.int .u64 0,.int .i64 0,.int .i64 20]=LR (takeN l (at_:Int))/\w1=w1):=by
  intro hn;rw [ht,cA,hn];exact⟨rfl,rfl⟩
 have nil_:l.length<=at_+i->Cn i acc (l.drop (at_+i))=none:=by
  intro h;rw [AlD h];rfl
 refine Aa (λ hi10=>Aa (λ y6=>?_) (λ h=>none_ (nil_ (by omega)))) (λ h=>none_ ?_)
 ·have ew:IntKind.i64.wrap ((l.length:Int)-(at_:Int))=(l.length:Int)-(at_:Int):=wrap_i64 (by omega) (by omega);rw [ew];refine Aa (λ hil'=>?_) (λ h=>none_ (nil_ (by omega)));have aD:at_+i<l.length:=by omega
  have ei:IntKind.i64.wrap ((at_:Int)+(i:Int))=((at_+i:Nat):Int):=by rw [wrap_i64 (by omega) (by omega)];omega
  rw [ei];refine⟨⟨by omega,by omega⟩,?_⟩;obtain⟨p,rfl,aE⟩:=byte_at hl aD;refine⟨_,by rw [Ale];exact aE,?_⟩;have hd:=WV aD;generalize iT:l[at_+i]=cc at hd;have lO:=cc.toNat_lt;have qD:i<=9:=by omega
  refine⟨λ _ w2=>w2=w1/\¬ (i=9/\1<cc.toNat),?_,?_⟩
  ·refine Ao (λ h=>Aa (λ h2=>none_ (by rw [hd];unfold Cn;rw [if_pos (.inr ⟨by omega,by omega⟩)])) (λ h2=>⟨rfl,by omega⟩)) (λ h=>⟨rfl,by omega⟩)
  rintro w2 ⟨rfl,gJ⟩;have hm:cc.toNat % 128<128:=AlC _ (by omega);have h9:i=9->cc.toNat % 128<=1:=by omega
  obtain⟨hb,_⟩:=AdP mS hm qD h9;have e1:IntKind.u64.wrap (Int.tmod (cc.toNat:Int) 128)=((cc.toNat % 128:Nat):Int):=by
   rw [Aly (by omega),Aj (by omega) (by omega)];omega
  rw [e1,Vv hm qD,Alk (by omega:cc.toNat % 128*128 ^ i<18446744073709551616)];have e2:IntKind.u64.wrap ((acc:Int)+((cc.toNat % 128*128 ^ i:Nat):Int))=((acc+cc.toNat % 128*128 ^ i:Nat):Int):=by
   rw [Aj (by omega) (by omega)];omega
  rw [e2];refine⟨by rw [wrap_i64 (by omega) (by omega)];omega,?_⟩;have r7:i=9->cc.toNat=0->Cn i acc (l.drop (at_+i))=none:=by
   intro h h0;rw [hd];unfold Cn;rw [if_pos (.inr ⟨h,by omega⟩)]
  have fin:cc.toNat<128->¬ (cc.toNat=0/\0<i)->(Value.tuple #[.int .u64 ((acc+cc.toNat % 128*128 ^ i:Nat):Int),.int .i64 (IntKind.i64.wrap (((at_+i:Nat):Int)+1)),.int .i64 0]=LR (takeN l (at_:Int))/\w2=w2):=by
   intro aB hz;refine⟨?_,rfl⟩;rw [ht,cA,hd];unfold Cn;rw [if_neg (by omega),if_pos aB,if_neg hz,Alk aB,wrap_i64 (by omega) (by omega)];simp only [Option.map_some,LR];congr 5
  refine Aa (λ aB=>Ao (λ hz=>Aa (λ h=>none_ ?_) (λ h=>fin (by omega) (by omega))) (λ hz=>fin (by omega) (by omega))) (λ aI=>?_)
  ·by_cases vO:i=9
   ·exact r7 vO (by omega)
   ·rw [hd];unfold Cn;rw [if_neg (by omega),if_pos (by omega),if_pos ⟨by omega,by omega⟩]
  rw [Ae (by omega)];refine⟨⟨rfl,i+1,_,rfl,by omega,?_,?_⟩,?_⟩
  ·rw [Alo];have h3:(cc.toNat % 128)*128 ^ i<=127*128 ^ i:=Aln _ (by omega);omega
  ·rw [cA,hd]
   conv=>lhs;unfold Cn
   rw [if_neg (by omega),if_neg (by omega)];rfl
  ·simp only [Ale];omega
 ·have mH:i=10:=by omega
  subst mH;cases hh:l.drop (at_+10) with
  | nil=>rfl
  | cons c r=>unfold Cn;rw [if_pos (.inl (by omega))]
end
theorem Az{l:List UInt8}{at_:Int}{n k:Nat}(h:takeN l at_=some (n,k)):n<18446744073709551616/\0<=at_/\at_.toNat<k/\k<=l.length/\k<=at_.toNat+10:=by
 unfold takeN at h;split at h
 ·cases h
 ·obtain⟨⟨x1,x2⟩,hx,he⟩:=Option.map_eq_some_iff.1 h;simp only [AkO] at he;obtain⟨rfl,rfl⟩:=he;obtain⟨h1,h2,h3,h4,_⟩:=JU _ 0 0 _ _ (by simp) hx;rw [AlE] at h3;refine⟨h1,by omega,by omega,by omega,by omega⟩
def BD(l:List UInt8)(at_:Int)(most:Nat):Option (List UInt8 × Nat) :=
 match takeN l at_ with
 | some x=>if 1048576<x.1\/most<x.1\/l.length-x.2<x.1 then none else some ((l.drop x.2).take x.1,x.2+x.1)
 | none=>none
def Aht(o:Option (List UInt8 × Nat)):Value :=
 match o with
 | some x=>.tuple #[.string (BC x.1),.int .i64 (x.2:Int),.int .i64 0]
 | none=>.tuple #[.string ⟨#[]⟩,.int .i64 0,.int .i64 20]
section
variable {w:World}{a:Option Addr}{c:Nat}{l:List UInt8}
theorem Ex(hl:Rd w a (l.map Ag))(hc:l.length<=c)(hs:l.length<=9223372036854775807)(at_:Int)(most:Nat):Calls Tryz.prog f.WA #[.slice a l.length c,.int .i64 at_,.int .i64 (most:Int)] w (AG λ v w'=>v=Aht (BD l at_ most)/\w'=w):=by
 apply R.Nb
 delta R.Bu R.F R.H R.I R.Rt R.S R.T R.W R.Y;try dsimp only [R.Ps]
 refine (AL hl hc hs at_).mono ?_;rintro _ w ⟨_,rfl,rfl,rfl⟩;cases ho:takeN l at_ with
 | none=>exact⟨_,_,_,rfl,CN ⟨by simp only [BD,ho];rfl,rfl⟩⟩
 | some x =>
  obtain⟨n,k⟩:=x;obtain⟨h1,h2,h3,h4,h5⟩:=Az ho;have no:(1048576<n\/most<n\/l.length-k<n)->(Value.tuple #[.string ⟨#[]⟩,.int .i64 0,.int .i64 20]=Aht (BD l at_ most)/\w=w):=by
   intro h;refine⟨?_,rfl⟩;simp only [BD,ho];rw [if_pos h];rfl
  refine⟨_,_,_,rfl,AV (Aa (λ h=>no (.inl (by omega))) (λ eR=>?_))⟩;rw [wrap_i64 (n:=(n:Int)) (by omega) (by omega),wrap_i64 (n:=(l.length:Int)-(k:Int)) (by omega) (by omega)];refine Aa (λ h=>no (.inr (.inl (by omega)))) (λ gI=>Aa (λ h=>no (.inr (.inr (by omega)))) (λ yO=>?_));have e:IntKind.i64.wrap ((k:Int)+(n:Int))=((k+n:Nat):Int):=by rw [wrap_i64 (by omega) (by omega)];omega
  rw [e];refine⟨⟨by omega,by omega,by omega⟩,?_⟩;rw [Ale,Ale,Alx];have bD:=hl.OY k (k+n) c 1 (by omega);rw [Alh,Alh,Alx,<- AlF,<- AlG] at bD;have hlen:((l.drop k).take n).length=n:=by rw [List.length_take,AlE];omega
  refine Ax CA hlen.symm bD ⟨_,rfl,?_,rfl⟩;simp only [BD,ho];rw [if_neg (by omega)];rfl
theorem Ed(hl:Rd w a (l.map Ag))(hc:l.length<=c)(hs:l.length<=9223372036854775807)(at_:Int)(cU:at_<=9223372036854775807)(most:Nat):Calls Tryz.prog f.Vc #[.slice a l.length c,.int .i64 at_,.int .i64 (most:Int)] w (AG λ v w'=>v=Aht (BD l at_ most)/\w'=w):=by
 apply R.L1
 delta R.Bu R.F R.H R.I R.Rt R.S R.T R.W R.Y;try dsimp only [R.Ps]
 refine (AJ hl hs at_ cU).mono ?_;rintro _ w ⟨_,rfl,rfl,rfl⟩;cases ho:takeN l at_ with
 | none=>exact⟨_,_,_,rfl,CN ⟨by simp only [BD,ho];rfl,rfl⟩⟩
 | some x =>
  obtain⟨n,k⟩:=x;obtain⟨h1,h2,h3,h4,h5⟩:=Az ho;have no:(1048576<n\/most<n\/l.length-k<n)->(Value.tuple #[.string ⟨#[]⟩,.int .i64 0,.int .i64 20]=Aht (BD l at_ most)/\w=w):=by
   intro h;refine⟨?_,rfl⟩;simp only [BD,ho];rw [if_pos h];rfl
  refine⟨_,_,_,rfl,AV (Aa (λ h=>no (.inl (by omega))) (λ eR=>?_))⟩;rw [wrap_i64 (n:=(n:Int)) (by omega) (by omega),wrap_i64 (n:=(l.length:Int)-(k:Int)) (by omega) (by omega)];refine Aa (λ h=>no (.inr (.inl (by omega)))) (λ gI=>Aa (λ h=>no (.inr (.inr (by omega)))) (λ yO=>?_));have e:IntKind.i64.wrap ((k:Int)+(n:Int))=((k+n:Nat):Int):=by rw [wrap_i64 (by omega) (by omega)];omega
  rw [e];refine⟨⟨by omega,by omega,by omega⟩,?_⟩;rw [Ale,Ale,Alx];have bD:=hl.OY k (k+n) c 1 (by omega);rw [Alh,Alh,Alx,<- AlF,<- AlG] at bD;have hlen:((l.drop k).take n).length=n:=by rw [List.length_take,AlE];omega
  refine Ax CA hlen.symm bD ⟨_,rfl,?_,rfl⟩;simp only [BD,ho];rw [if_neg (by omega)];rfl
end
theorem Bm.Br{w w1 w2 w3:World}{l m:List UInt8}{a a':Option Addr}{c c':Nat}(h:Bm w w1 l a c)(hb:Below w1.heap.size w1 w2)(R:Row w3 ty.uint8 1 a' m.length c' (m.map Ag))(K:Ai (λ k=>AD a=some k) w2 w3)(N:∀ k,AD a'=some k->AD a=some k\/w2.heap.size<=k):Bm w w3 m a' c':=by
 have h2:=h.grown hb;refine⟨R,λ k hk=>?_,h2.Ar.trans (K.below h2.Ar.size λ k hk he=>by have:=h2.new k he;omega)⟩;rcases N k hk with hh | hh
 ·exact h2.new k hh
 ·exact Als h2.Ar.size hh
section
variable {w:World}{a:Option Addr}{c:Nat}
theorem Bh(l:List UInt8)(hl:Rd w a (l.map Ag))(n:Nat)(hn:n<18446744073709551616)(hs:l.length+10<=140737488355328) :
  Calls Tryz.prog f.YB #[.slice a l.length c,.int .u64 (n:Int)] w (AG λ v w'=>∃ a c,v=.slice a (l++Af n).length c/\Bm w w' (l++Af n) a c):=by
 apply R.Oe
 delta R.B R.F R.I R.J R.Ks R.N R.Qus R.Rs R.S R.U R.W R.Wb R.Wu;try dsimp only [R.Ps]
 have e:IntKind.i64.wrap ((l.length:Int)+10)=((l.length+10:Nat):Int):=by rw [wrap_i64 (by omega) (by omega)];omega
 rw [e];refine Hw tB (by omega) (by omega) λ b w1 hb B1 R1=>⟨_,_,_,rfl,?_⟩;refine A8 (l:=[]) R1 (hl.grown B1) (by simp;omega) λ a2 c2 w2 R2 K2 N2=>⟨_,_,_,rfl,?_⟩;have h1:Bm w w1 [] (some ⟨b,0,none⟩) (l.length+10):=⟨R1,λ k hk=>by simp [AD] at hk;omega,B1⟩;have h2:Bm w w2 l a2 c2:=h1.Br (.refl _ _) R2 K2 N2;refine⟨λ s w3=>∃(m:Nat) (a:Option Addr) (c:Nat) (l':List UInt8),s=[.int .u64 (m:Int),.slice a l'.length c]/\m<18446744073709551616/\l'++Af m=l++Af n/\Bm w w3 l' a c,
  λ s _=>match s with
   | [.int _ i,_]=>i.toNat
   | _=>0,⟨n,a2,c2,l,rfl,hn,rfl,h2⟩,?_⟩
 rintro _ a3 _ c3 w3 ⟨m,_,_,l',bS,hm,cl,h3⟩;cases bS;have hlen:l'.length+1<=140737488355328:=by
  have h4:=Al hn;have h5:=congrArg List.length cl;have h6:=Io m;have h7:0<(Af m).length:=List.length_pos_iff.2 h6;simp only [Alb] at h5;omega
 refine Aa (λ h=>?_) (λ h=>?_)
 ·have e1:IntKind.u8.wrap (IntKind.u8.wrap (Int.tmod (m:Int) 128)+128)=((m % 128+128:Nat):Int):=by
   rw [Aly (by omega),AE (n:=(m:Int) % 128) (by omega) (by omega),AE (by omega) (by omega)];omega
  have e2:IntKind.u64.wrap (Int.tdiv (m:Int) 128)=((m / 128:Nat):Int):=by rw [Int.tdiv_eq_ediv_of_nonneg (by omega),Aj (by omega) (by omega)];omega
  rw [e1,e2];refine (SH.start (λ _=>False) w3).An λ tF w6 mY B6 S6=>?_;refine CO (h3.grown B6).row hlen (x:=Alj (m % 128+128)) (Cq (by omega)) (S6.get 0 rfl) λ a7 c7 w7 R7 K7 N7=>⟨_,_,_,rfl,⟨m / 128,a7,c7,_,rfl,by omega,?_,h3.Br B6 R7 K7 N7⟩,?_⟩
  ·rw [<- cl]
   conv=>rhs;rhs;unfold Af;rw [dif_neg (by omega)]
   simp
  ·simp only [Ale];omega
 ·have fU:m<128:=by omega
  rw [AE (n:=(m:Int)) (by omega) (by omega)];refine (SH.start (λ _=>False) w3).An λ tF w6 mY B6 S6=>?_;refine CO (h3.grown B6).row hlen (x:=Alj m) (Cq (by omega)) (S6.get 0 rfl) λ a7 c7 w7 R7 K7 N7=>⟨_,_,_,rfl,?_⟩;have e:l'++[Alj m]=l++Af n:=by rw [<- cl];conv=>rhs;rhs;unfold Af;rw [dif_pos fU]
  have h7:=h3.Br B6 R7 K7 N7;rw [e] at h7 ⊢;exact⟨a7,c7,rfl,h7⟩
theorem GF(l:List UInt8)(hl:Rd w a (l.map Ag))(s:ByteArray)(hz:s.size<=1048576)(hs:l.length+10+s.size<=140737488355328) :
  Calls Tryz.prog f.AcL #[.slice a l.length c,.string s] w (AG λ v w'=>∃ a c,v=.tuple #[.slice a (l++BA s).length c,.int .i64 0]/\Bm w w' (l++BA s) a c):=by
 apply R.Rz
 delta R.Cs R.F R.H R.I R.O R.Rs R.S R.T R.U R.Wu;try dsimp only [R.Ps]
 refine Aa (λ h=>by omega) (λ _=>?_);rw [Aj (by omega) (by omega)];refine (Bh l hl s.size (by omega) (by omega)).mono ?_;rintro _ w1 ⟨_,rfl,a1,c1,rfl,h1⟩;have hd:=Al (n:=s.size) (by omega);refine⟨_,_,_,rfl,ZG h1.row s (by simp only [Alb];omega) λ a2 c2 w2 R2 K2 N2=>⟨_,_,_,rfl,?_⟩⟩;have h2:=h1.Br (.refl _ _) R2 K2 N2;have e:l++Af s.size++bl s=l++BA s:=by rw [BA,List.append_assoc]
 rw [e] at h2 ⊢;exact⟨a2,c2,rfl,h2⟩
end
theorem ES{n:Nat}(h:n<256):(Alj n).toNat=n:=by simp;omega
theorem IF{n:Nat}(h:n<128):Af n=[Alj n]:=by unfold Af;rw [dif_pos h]
theorem Sk{n:Nat}(h:¬ n<128):Af n=Alj (n % 128+128) :: Af (n / 128):=by conv=>lhs;unfold Af;rw [dif_neg h]
theorem PO(n:Nat):∀(i acc:Nat) (r:List UInt8),n*128 ^ i<18446744073709551616->i<=9->(n=0->i=0)->Cn i acc (Af n++r)=some (acc+n*128 ^ i,i+(Af n).length):=by
 induction n using Nat.strongRecOn with
 | _ n ih =>
  intro i acc r hn hi h0;by_cases h:n<128
  ·rw [IF h];simp only [List.singleton_append,Cn];rw [ES (by omega)];have e9:i=9->n=1:=by
    intro h9;subst h9;have:(128:Nat) ^ 9=9223372036854775808:=by decide
    rw [this] at hn;have:n≠0:=λ h=>by have:=h0 h;omega
    omega
   rw [if_neg (by omega),if_pos h,if_neg (by omega)];rfl
  ·rw [Sk h];simp only [List.cons_append,Cn];rw [ES (by omega)];have h8:i<=8:=by
    by_cases h9:i=9
    ·subst h9;have:(128:Nat) ^ 9=9223372036854775808:=by decide
     rw [this] at hn;omega
    ·omega
   have ep:(128:Nat) ^ (i+1)=128*128 ^ i:=by rw [Alo,Alp]
   have key:n / 128*128 ^ (i+1)+n % 128*128 ^ i=n*128 ^ i:=by
    rw [ep,<- Nat.mul_assoc,<- Nat.add_mul];congr 1;omega
   rw [if_neg (by omega),if_neg (by omega),ih (n / 128) (by omega) (i+1) _ r (by omega) (by omega) (by omega)];simp only [Ald];have:(n % 128+128) % 128=n % 128:=by omega
   rw [this];congr 2
   ·omega
   ·omega
theorem Va:∀(l:List UInt8) (i acc n k:Nat),Cn i acc l=some (n,k)->∃ m,n=acc+m*128 ^ i/\k=i+(Af m).length/\l=Af m++l.drop (Af m).length/\(0<i->m≠0)
 | [],_,_,_,_,h=>by simp [Cn] at h
 | c :: r,i,acc,n,k,h=>by
  have hc:=c.toNat_lt;unfold Cn at h;split at h
  ·cases h
  ·split at h
   ·rename_i aB;split at h
    ·cases h
    ·rename_i hz;simp only [Option.some.injEq,AkO] at h;obtain⟨rfl,rfl⟩:=h;refine⟨c.toNat,rfl,?_,?_,λ hi hh=>hz ⟨hh,hi⟩⟩
     ·rw [IF aB];rfl
     ·rw [IF aB];simp
   ·rename_i aI;obtain⟨m,e1,e2,e3,e4⟩:=Va r (i+1) _ n k h;have hm:=e4 (by omega);have hb:¬ (c.toNat % 128+128*m)<128:=by omega
    have ed:Af (c.toNat % 128+128*m)=c :: Af m:=by
     rw [Sk hb];have h1:(c.toNat % 128+128*m) % 128+128=c.toNat:=by omega
     have h2:(c.toNat % 128+128*m) / 128=m:=by omega
     rw [h1,h2];simp
    refine⟨c.toNat % 128+128*m,?_,?_,?_,λ _=>by omega⟩
    ·rw [e1,Alo,Nat.add_mul,Nat.add_assoc];congr 2;rw [Alp (128 ^ i) 128,<- Nat.mul_assoc,Alp m 128]
    ·rw [e2,ed];simp only [Ald];omega
    ·rw [ed];simp only [Ald,List.drop_succ_cons,List.cons_append];rw [<- e3]
def XF(n:Nat):List UInt8:=Ak9 n 0
def Ni(l:List UInt8)(p:Nat):List UInt8:=(l.drop p).take 64++XF (64-min (l.length-p) 64)
theorem QQ(l:List UInt8)(p:Nat):(Ni l p).length=64:=by
 simp [Ni,XF];omega
def D3(l:List UInt8)(p:Nat):Nat:=p+min (l.length-p) 64
def Gn(l:List UInt8):Nat->List Wd
 | 0=>Ca.set 0 (Ca.getD 0 0 ^^^ 16842784)
 | k+1=>U5 (Gn l k) (Ni l (64*k)) (D3 l (64*k)) (D3 l (64*k)==l.length)
theorem Ae6(h:List Wd)(CJ:List UInt8)(n:Nat)(last:Bool):(U5 h CJ n last).length=h.length:=by
 unfold U5;rw [Yi]
theorem Jm(l:List UInt8):∀ k,(Gn l k).length=8
 | 0=>by simp [Gn,Ca]
 | k+1=>by rw [Gn,Ae6,Jm l k]
def AgS(l:List UInt8):Nat:=max 1 ((l.length+63) / 64)
def AkB(h:List Wd)(i:Nat):UInt8:=Alj ((h.getD (i / 4) 0) >>> (8*(i % 4))).toNat
def Ro(h:List Wd):Nat->List UInt8
 | 0=>XF 32
 | i+1=>(Ro h i).set i (AkB h i)
theorem PJ(h:List Wd):∀ i,(Ro h i).length=32
 | 0=>by simp [Ro,XF]
 | i+1=>by simp [Ro,PJ h i]
def IE(l:List UInt8):List UInt8:=Ro (Gn l (AgS l)) 32
theorem XW(v:List UInt8):∀ x∈v.map Ag,x.oneCell'=true:=by
 rw [MA];exact UU _ _
section
variable {F:Nat->Prop}{w0 w:World}{H:List Zh}
theorem _root_.Go.Dn.SH.AiF(S:SH F w0 w H)(n:Nat){b:Nat}{v:List UInt8}{t:TypeId}(hn:H[n]?=some (b,⟨v.map Ag⟩,t)){j x:Nat}(hj:j<v.length)(hx:x=j){y:UInt8}{k:World->Prop}
  (hk:∀ w',SH F w0 w' (H.set n (b,⟨(v.set j y).map Ag⟩,t))->k w'):DY ((⟨b,0,none⟩:Addr).add (x*1)) (.int .u8 (y.toNat:Int)) k w:=by
 subst hx;rw [Ay,Alg,Alh];refine S.BP n hn (by simpa using hj) λ w' S'=>hk w' ?_;have e:(⟨v.map Ag⟩:Array Value).setIfInBounds x (.int .u8 (y.toNat:Int))=⟨(v.set x y).map Ag⟩:=by
  apply Array.ext';simp [Ag,List.map_set]
 rw [e] at S';exact S'
end
theorem Xf(x:Wd)(k:Nat)(hk:k<=32):IntKind.u8.wrap (Alu (x.toNat:Int) (2 ^ (min k 32)))=((Alj (x >>> k).toNat).toNat:Int):=by
 rw [Nat.min_eq_left hk,Jz,wrap_u8];simp
theorem Lx{w:World}(T:I5 w){a:Option Addr}{c:Nat}(ps:List DZ)(hp:Rd w a (ps.map Cc))(hb:∀ p∈ps,Rd w p.1 (p.2.2.map Ag))(hn:ps.length<9223372036854775807)(hl:(BT ps).length<=140737488355328) :
  Calls Tryz.prog f.Agu #[.slice a ps.length c] w (AG λ v w'=>v=.agg ⟨(IE (BT ps)).map Ag⟩/\Below w.heap.size w w'):=by
 apply R.UO
 delta R.A R.B R.Cs R.D R.F R.G R.I R.Lv R.Qi R.Ri R.S R.Am R.U R.V R.W R.Wb R.Wu R.Wv R.X R.Y R.Z;try dsimp only [R.Ps]
 refine (SH.start (λ _=>False) w).An λ b2 w1 _ B1 S=>?_;refine (Bo ps (hp.grown B1) (λ p h=>(hb p h).grown B1) hn hl).mono ?_;rintro _ w2 ⟨_,rfl,a2,c2,rfl,N2⟩;generalize BT ps=l at *;have S2:=S.grown N2.Ar;have T2:=T.grown S2.below;refine⟨_,_,_,rfl,Dd Ca rfl T2.first ?_⟩;refine (SH.start (λ _=>False) w2).An λ b6 w3 _ _ S=>Ds rfl (S.Er 0 rfl (vs:=Ca.map wV) rfl (IZ _) λ w4 _ S=>?_);refine⟨_,S.wd' 0 rfl (by simp [Ca]),?_⟩;have e0:∀ x:Wd,IntKind.u32.wrap (((AkK 32 (x.toNat:Int) ^^^ AkK 32 16842784).toNat:Int))=((x ^^^ 16842784).toNat:Int):=by
  intro x;rw [Bn,Bq];rfl
 rw [e0];refine S.Mq 0 rfl (by simp [Ca]) λ w5 S=>?_;refine⟨λ st w'=>∃ k:Nat,st=[.int .i64 ((64*k:Nat):Int)]/\(k<=1\/64*(k-1)<l.length)/\SH (λ _=>False) w2 w' [(b6,⟨(Gn l k).map wV⟩,216)],
  λ st _=>match st with | [.int _ t]=>((l.length:Int)+64-t).toNat | _=>0,⟨0,rfl,.inl (by omega),S⟩,?_⟩
 rintro t w6 ⟨k,aA,hk,S⟩;cases MR aA;have bD:=Jm l k;refine⟨λ _ w'=>(k=0\/64*k<l.length)/\SH (λ _=>False) w2 w' [(b6,⟨(Gn l k).map wV⟩,216)],?_,?_⟩
 ·refine Ao (λ h=>⟨.inl (by omega),S⟩) (λ h0=>Aa (λ h=>⟨.inr (by omega),S⟩) (λ h=>?_));have rp:AgS l=k:=by
   unfold AgS;omega
  have S6:=S2.grown S.below;refine S.An λ zY al _ ie S=>?_;refine⟨λ st w'=>∃ i:Nat,st=[.int .i64 (i:Int)]/\i<=32/\SH (λ _=>False) w2 w' [(zY,⟨(Ro (Gn l k) i).map Ag⟩,142),(b6,⟨(Gn l k).map wV⟩,216)],
   λ st _=>match st with | [.int _ t]=>(32-t).toNat | _=>0,⟨0,rfl,by omega,S⟩,?_⟩
  rintro t an ⟨i,aA,hi,S⟩;cases MR aA;have cE:=PJ (Gn l k) i;refine Aa (λ aB=>?_) (λ aI=>?_)
  ·have de:i<32:=by omega
   rw [Ad5 i (by omega),Ad6 i (by omega)];refine⟨⟨by omega,by omega⟩,_,S.wd 1 rfl (by omega) (Ale _),by omega,⟨by omega,aB⟩,?_⟩;rw [Ale,Xf _ _ (by omega)];refine S.AiF 0 rfl (by omega) (Ale _) λ cp S=>?_;rw [Ae (by omega)];exact⟨⟨i+1,rfl,by omega,S⟩,by show (32-((i+1:Nat):Int)).toNat<(32-(i:Int)).toNat;omega⟩
  ·have de:i=32:=by omega
   have ax:((Ro (Gn l k) i).map Ag).length=32:=by rw [Alr];exact cE
   refine Hz (Ro (Gn l k) i) cE (Rd.Ak (S.get 0 rfl)) (Ds ax ?_);refine (S2.grown S.below).Er 0 rfl ax (XW _) λ ah _ S'=>?_;refine Hz (Ro (Gn l k) i) cE (Rd.Ak (S'.get 0 rfl)) ⟨?_,S'.below⟩;unfold IE;rw [rp,de]
 ·rintro w7 ⟨bA,S⟩;have iB:64*k<=l.length:=by omega
  refine S.An λ iO w8 _ _ S=>S.draw λ w9 S=>⟨⟨by omega,by omega,by omega⟩,⟨by omega,by omega,by have:=N2.row.le;omega⟩,?_⟩;have cw:Rd w9 (Cm a2 (64*k) c2 1) ((l.drop (64*k)).map Ag):=by
   have:=(N2.rd.grown S.below).OY (64*k) l.length c2 1 N2.row.le;rw [List.take_of_length_le (by simp),Alh,<- AlF] at this;exact this
  rw [Ale];refine S.copy 0 rfl (P:=Tryz.prog) (elem:=5) (by kernel_rfl) (by kernel_rfl) (a:=Cm a2 (64*k) c2 1) (xs:=(l.drop (64*k)).map Ag) (by simp) (by simp) cw (XW _) λ bV _ S=>?_;have eb:(⟨((l.drop (64*k)).map Ag).take 64++(Ak9 64 (Value.int .u8 0)).drop (min (l.length-64*k) 64)⟩:Array Value)=⟨(Ni l (64*k)).map Ag⟩:=by
   rw [List.drop_replicate];simp only [Ni,XF,Alv,List.map_replicate,AlG];rfl
  replace S:=eb ▸ S
  have ee:IntKind.i64.wrap (((64*k:Nat):Int)+((min (l.length-64*k) (64-0):Nat):Int))=((D3 l (64*k):Nat):Int):=by
   unfold D3;rw [wrap_i64 (by omega) (by omega)];omega
  have eu:IntKind.u64.wrap ((D3 l (64*k):Nat):Int)=((D3 l (64*k):Nat):Int):=by
   have:D3 l (64*k)<=l.length:=by unfold D3;omega
   rw [Aj (by omega) (by omega)]
  have th:(((D3 l (64*k):Nat):Int)==((l.length:Nat):Int))=(D3 l (64*k)==l.length):=by
   rw [Bool.eq_iff_iff];simp;omega
  refine⟨_,rfl,Dd (Gn l k) bD (Rd.Ak (S.get 1 rfl)) (Hz (Ni l (64*k)) (QQ _ _) (Rd.Ak (S.get 0 rfl)) ?_)⟩;rw [ee,eu,th];refine (Aih (T2.grown S.below) (Gn l k) bD (Ni l (64*k)) (QQ _ _) (D3 l (64*k)) (by unfold D3;omega) _).mono ?_;rintro _ aY ⟨_,rfl,rfl,cF⟩;have bn:=Jm l (k+1);rw [Gn] at bn;refine O3 _ bn ⟨rfl,Ds (by rw [Alr];exact bn) ?_⟩;refine (S.grown cF).Er 1 rfl (by simp only [Alr,bn,List.size_toArray,bD]) (IZ _) λ bK _ S=>?_;have e64:IntKind.i64.wrap (((64*k:Nat):Int)+64)=((64*(k+1):Nat):Int):=by rw [wrap_i64 (by omega) (by omega)];omega
  rw [e64];exact⟨⟨k+1,rfl,by omega,S.drop 1⟩,by show ((l.length:Int)+64-((64*(k+1):Nat):Int)).toNat<((l.length:Int)+64-((64*k:Nat):Int)).toNat;omega⟩
def AiS(v:List Wd)(a b:Nat)(x:Wd):List Wd:=v.set a (v.getD a 0+v.getD b 0+x)
def Aio(v:List Wd)(d a r:Nat):List Wd:=v.set d (Ac2 (v.getD d 0 ^^^ v.getD a 0) r)
def AiR(v:List Wd)(c d:Nat):List Wd:=v.set c (v.getD c 0+v.getD d 0)
def Tn(v:List Wd)(a b c d:Nat)(x:Wd)(r s:Nat):List Wd:=Aio (AiR (Aio (AiS v a b x) d a r) c d) b c s
def Aif(v:List Wd)(a b c d:Nat)(x y:Wd):List Wd:=Tn (Tn v a b c d x 16 12) a b c d y 8 7
theorem Aas(v:List Wd)(a b c d:Nat)(x:Wd)(r s:Nat):(Tn v a b c d x r s).length=v.length:=by simp [Tn,AiS,Aio,AiR]
def AgI(p:ByteArray)(j q:Nat):Prop:=IntKind.i64.wrap (IntKind.u8.wrap (((Aw p j).toNat:Int)-97))=(q:Int)
set_option maxHeartbeats 1000000 in
theorem AgR(v:List Wd)(hv:v.length=16)(p:ByteArray)(hp:p.size=4)(q0 q1 q2 q3:Nat)(h0:AgI p 0 q0)(h1:AgI p 1 q1)(h2:AgI p 2 q2)(h3:AgI p 3 q3)(l0:q0<16)(l1:q1<16)(l2:q2<16)(l3:q3<16)(x y:Wd)(w:World) :
  Calls Tryz.prog f.AaN #[.agg ⟨v.map wV⟩,.string p,.int .u32 (x.toNat:Int),.int .u32 (y.toNat:Int)] w (AG λ r w'=>r=.agg ⟨(Aif v q0 q1 q2 q3 x y).map wV⟩/\Below w.heap.size w w'):=by
 unfold AgI at h0 h1 h2 h3;apply R.PU
 delta R.A R.Cv R.D R.I R.Lv R.Am R.V R.W R.Wb R.Wv R.X;try dsimp only [R.Ps]
 rw [h0,h1,h2,h3];refine (SH.start (λ _=>False) w).An λ b5 w1 _ _ S=>S.An λ b6 w2 _ _ S=>⟨⟨by omega,by omega⟩,⟨by omega,by omega⟩,⟨by omega,by omega⟩,⟨by omega,by omega⟩,?_⟩;refine S.draw λ _ S=>⟨⟨by omega,by omega⟩,⟨by omega,by omega⟩,_,S.wd 1 rfl (by omega) (Ale _),_,S.wd 1 rfl (by omega) (Ale _),⟨by omega,by omega⟩,?_⟩;rw [Nh,Nh];refine S.Fq 1 rfl (by omega) (Ale _) λ _ S=>S.draw λ _ S=>⟨⟨by omega,by omega⟩,⟨by omega,by omega⟩,_,S.wd 1 rfl (by simp only [Ali];omega) (Ale _),_,S.wd 1 rfl (by simp only [Ali];omega) (Ale _),?_⟩;rw [NG];refine (T8 _ 16 (by omega) _).mono ?_;rintro _ _ ⟨_,rfl,rfl,B⟩
 replace S:=S.grown B
 refine⟨_,rfl,⟨by omega,by omega⟩,S.Fq 1 rfl (by simp only [Ali];omega) (Ale _) λ _ S=>S.draw λ _ S=>⟨⟨by omega,by omega⟩,⟨by omega,by omega⟩,_,S.wd 1 rfl (by simp only [Ali];omega) (Ale _),_,S.wd 1 rfl (by simp only [Ali];omega) (Ale _),⟨by omega,by omega⟩,?_⟩⟩;rw [Nh];refine S.Fq 1 rfl (by simp only [Ali];omega) (Ale _) λ _ S=>S.draw λ _ S=>⟨⟨by omega,by omega⟩,⟨by omega,by omega⟩,_,S.wd 1 rfl (by simp only [Ali];omega) (Ale _),_,S.wd 1 rfl (by simp only [Ali];omega) (Ale _),?_⟩;rw [NG];refine (T8 _ 12 (by omega) _).mono ?_;rintro _ _ ⟨_,rfl,rfl,B⟩
 replace S:=S.grown B
 refine⟨_,rfl,⟨by omega,by omega⟩,S.Fq 1 rfl (by simp only [Ali];omega) (Ale _) λ _ S=>?_⟩;have hm:=(Aas v q0 q1 q2 q3 x 16 12).trans hv;change SH (λ _=>False) w _ [(b6,⟨Ak9 16 (.int .u32 0)⟩,224),(b5,⟨(Tn v q0 q1 q2 q3 x 16 12).map wV⟩,224)] at S;generalize hM:Tn v q0 q1 q2 q3 x 16 12=M at *;refine S.draw λ _ S=>⟨⟨by omega,by omega⟩,⟨by omega,by omega⟩,_,S.wd 1 rfl (by omega) (Ale _),_,S.wd 1 rfl (by omega) (Ale _),⟨by omega,by omega⟩,?_⟩;rw [Nh,Nh];refine S.Fq 1 rfl (by omega) (Ale _) λ _ S=>S.draw λ _ S=>⟨⟨by omega,by omega⟩,⟨by omega,by omega⟩,_,S.wd 1 rfl (by simp only [Ali];omega) (Ale _),_,S.wd 1 rfl (by simp only [Ali];omega) (Ale _),?_⟩;rw [NG];refine (T8 _ 8 (by omega) _).mono ?_;rintro _ _ ⟨_,rfl,rfl,B⟩
 replace S:=S.grown B
 refine⟨_,rfl,⟨by omega,by omega⟩,S.Fq 1 rfl (by simp only [Ali];omega) (Ale _) λ _ S=>S.draw λ _ S=>⟨⟨by omega,by omega⟩,⟨by omega,by omega⟩,_,S.wd 1 rfl (by simp only [Ali];omega) (Ale _),_,S.wd 1 rfl (by simp only [Ali];omega) (Ale _),⟨by omega,by omega⟩,?_⟩⟩;rw [Nh];refine S.Fq 1 rfl (by simp only [Ali];omega) (Ale _) λ _ S=>S.draw λ _ S=>⟨⟨by omega,by omega⟩,⟨by omega,by omega⟩,_,S.wd 1 rfl (by simp only [Ali];omega) (Ale _),_,S.wd 1 rfl (by simp only [Ali];omega) (Ale _),?_⟩;rw [NG];refine (T8 _ 7 (by omega) _).mono ?_;rintro _ _ ⟨_,rfl,rfl,B⟩
 replace S:=S.grown B
 refine⟨_,rfl,⟨by omega,by omega⟩,S.Fq 1 rfl (by simp only [Ali];omega) (Ale _) λ _ S=>?_⟩;change SH (λ _=>False) w _ [(b6,⟨Ak9 16 (.int .u32 0)⟩,224),(b5,⟨(Tn M q0 q1 q2 q3 y 8 7).map wV⟩,224)] at S;have om:=(Aas M q0 q1 q2 q3 y 8 7).trans hm;have ax:((Tn M q0 q1 q2 q3 y 8 7).map wV).length=16:=by rw [Alr];exact om
 refine Dd (Tn M q0 q1 q2 q3 y 8 7) om (Rd.Ak (S.get 1 rfl)) (Ds ax (S.Er 0 rfl ax (IZ _) λ fp _ S=>?_));exact Dd (Tn M q0 q1 q2 q3 y 8 7) om (Rd.Ak (S.get 0 rfl)) ⟨by rw [Aif,hM],S.below⟩
def Ajc:List ByteArray:=[⟨#[97,98,99,100,101,102,103,104,105,106,107,108,109,110,111,112]⟩,⟨#[111,107,101,105,106,112,110,103,98,109,97,99,108,104,102,100]⟩,⟨#[108,105,109,97,102,99,112,110,107,111,100,103,104,98,106,101]⟩,⟨#[104,106,100,98,110,109,108,111,99,103,102,107,101,97,112,105]⟩,⟨#[106,97,102,104,99,101,107,112,111,98,108,109,103,105,100,110]⟩,⟨#[99,109,103,107,97,108,105,100,101,110,104,102,112,111,98,106]⟩,⟨#[109,102,98,112,111,110,101,107,97,104,103,100,106,99,105,108]⟩,⟨#[110,108,104,111,109,98,100,106,102,97,112,101,105,103,99,107]⟩,⟨#[103,112,111,106,108,100,97,105,109,99,110,104,98,101,107,102]⟩,⟨#[107,99,105,101,104,103,98,102,112,108,106,111,100,109,110,97]⟩]
def Ajd:List ByteArray:=[⟨#[97,101,105,109]⟩,⟨#[98,102,106,110]⟩,⟨#[99,103,107,111]⟩,⟨#[100,104,108,112]⟩,⟨#[97,102,107,112]⟩,⟨#[98,103,108,109]⟩,⟨#[99,104,105,110]⟩,⟨#[100,101,106,111]⟩]
def Aij(r:Nat):ByteArray:=Ajc.getD r ⟨#[]⟩
def Ag0(i:Nat):ByteArray:=Ajd.getD i ⟨#[]⟩
theorem Ae9:∀ r,r<10->(Aij r).size=16:=by decide
theorem Afd:∀ i,i<8->(Ag0 i).size=4:=by decide
theorem AaA:∀ r,r<10->∀ j,j<16->IntKind.u8.wrap (((Aw (Aij r) j).toNat:Int)-97)=(ord r j:Int):=by decide
theorem PN:∀ i,i<8->∀ j,j<4->IntKind.i64.wrap (IntKind.u8.wrap (((Aw (Ag0 i) j).toNat:Int)-97))=(Kl i j:Int):=by decide
theorem Ajf:∀ i,i<8->Kl i 0≠Kl i 1/\Kl i 0≠Kl i 2/\Kl i 0≠Kl i 3/\Kl i 1≠Kl i 2/\Kl i 1≠Kl i 3/\Kl i 2≠Kl i 3:=by decide
theorem AfX(r:Nat)(hr:r<10)(w:World):Calls Tryz.prog f.AaK #[.int .i64 (r:Int)] w (AG λ v w'=>v=.string (Aij r)/\Below w.heap.size w w'):=by
 apply R.PR
 delta R.A R.Lt R.N R.T R.X;try dsimp only [R.Ps]
 refine (SH.start (λ _=>False) w).An λ b2 w1 _ B S=>⟨⟨by omega,by omega⟩,Aij r,?_,rfl,B⟩;rw [Ale,Alh,Ay,Alg];refine S.cell 0 rfl ?_;have:r=0\/r=1\/r=2\/r=3\/r=4\/r=5\/r=6\/r=7\/r=8\/r=9:=by omega
 rcases this with rfl | rfl | rfl | rfl | rfl | rfl | rfl | rfl | rfl | rfl <;> rfl
theorem Aeq(i:Nat)(hi:i<8)(w:World):Calls Tryz.prog f.YF #[.int .i64 (i:Int)] w (AG λ v w'=>v=.string (Ag0 i)/\Below w.heap.size w w'):=by
 apply R.Og
 delta R.A R.Lt R.N R.T R.X;try dsimp only [R.Ps]
 refine (SH.start (λ _=>False) w).An λ b2 w1 _ B S=>⟨⟨by omega,by omega⟩,Ag0 i,?_,rfl,B⟩;rw [Ale,Alh,Ay,Alg];refine S.cell 0 rfl ?_;have:i=0\/i=1\/i=2\/i=3\/i=4\/i=5\/i=6\/i=7:=by omega
 rcases this with rfl | rfl | rfl | rfl | rfl | rfl | rfl | rfl <;> rfl
theorem Db(v:List Wd){a:Nat}(h:a<v.length)(x:Wd):(v.set a x).getD a 0=x:=by simp [h]
theorem getD_set_ne(v:List Wd){a b:Nat}(h:a≠b)(x:Wd):(v.set a x).getD b 0=v.getD b 0:=by
 rw [AlH,List.getElem?_set_ne h,<- AlH]
theorem AdN(v:List Wd)(a b c d:Nat)(x:Wd)(r s:Nat)(ha:a<v.length)(hc:c<v.length)(hd:d<v.length)(j8:a≠b)(pX:a≠c)(pY:a≠d)(oW:b≠c)(gd:b≠d)(oX:c≠d) :
  Tn v a b c d x r s=(((v.set a (Ki (v.getD a 0) (v.getD b 0) (v.getD c 0) (v.getD d 0) x r s).1).set b (Ki (v.getD a 0) (v.getD b 0) (v.getD c 0) (v.getD d 0) x r s).2.1).set c
   (Ki (v.getD a 0) (v.getD b 0) (v.getD c 0) (v.getD d 0) x r s).2.2.1).set d (Ki (v.getD a 0) (v.getD b 0) (v.getD c 0) (v.getD d 0) x r s).2.2.2:=by
 simp only [Tn,AiS,Aio,AiR,Ki];rw [BitVec.add_assoc];generalize v.getD a 0+(v.getD b 0+x)=A;rw [getD_set_ne v pY,Db v ha];generalize Ac2 (v.getD d 0 ^^^ A) r=D;rw [getD_set_ne _ (Ne.symm oX),getD_set_ne _ pX,Db _ (by simpa using hd)];generalize v.getD c 0+D=C;rw [getD_set_ne _ (Ne.symm oW),getD_set_ne _ (Ne.symm gd),getD_set_ne _ j8,Db _ (by simpa using hc)];generalize Ac2 (v.getD b 0 ^^^ C) s=B;rw [AlI _ _ (Ne.symm oX),AlI _ _ (Ne.symm gd),AlI _ _ (Ne.symm oW)]
theorem Afw(v:List Wd)(a b c d:Nat)(A B C D A2 B2 C2 D2:Wd) :
  ((((((((v.set a A).set b B).set c C).set d D).set a A2).set b B2).set c C2).set d D2)=(((v.set a A2).set b B2).set c C2).set d D2:=by
 apply List.ext_getElem?;intro j;simp only [List.getElem?_set,Ali]
 grind
theorem AgQ(m:List Wd)(r i:Nat)(v:List Wd)(hv:v.length=16)(hi:i<8) :
  Aif v (Kl i 0) (Kl i 1) (Kl i 2) (Kl i 3) (m.getD (ord r (2*i)) 0) (m.getD (ord r (2*i+1)) 0)=Xw m r i v:=by
 obtain⟨j8,pX,pY,oW,gd,oX⟩:=Ajf i hi;have p0:=G0 i hi 0 (by omega);have p1:=G0 i hi 1 (by omega);have p2:=G0 i hi 2 (by omega);have p3:=G0 i hi 3 (by omega);simp only [Aif,Xw];generalize Kl i 0=a at *;generalize Kl i 1=b at *;generalize Kl i 2=c at *;generalize Kl i 3=d at *;rw [AdN v a b c d _ 16 12 (by omega) (by omega) (by omega) j8 pX pY oW gd oX];generalize Ki (v.getD a 0) (v.getD b 0) (v.getD c 0) (v.getD d 0) (m.getD (ord r (2*i)) 0) 16 12=h1;rw [AdN _ a b c d _ 8 7 (by simp;omega) (by simp;omega) (by simp;omega) j8 pX pY oW gd oX];have ea:((((v.set a h1.1).set b h1.2.1).set c h1.2.2.1).set d h1.2.2.2).getD a 0=h1.1:=by
  rw [getD_set_ne _ (Ne.symm pY),getD_set_ne _ (Ne.symm pX),getD_set_ne _ (Ne.symm j8),Db _ (by omega)]
 have eb:((((v.set a h1.1).set b h1.2.1).set c h1.2.2.1).set d h1.2.2.2).getD b 0=h1.2.1:=by
  rw [getD_set_ne _ (Ne.symm gd),getD_set_ne _ (Ne.symm oW),Db _ (by simp;omega)]
 have ec:((((v.set a h1.1).set b h1.2.1).set c h1.2.2.1).set d h1.2.2.2).getD c 0=h1.2.2.1:=by
  rw [getD_set_ne _ (Ne.symm oX),Db _ (by simp;omega)]
 have ed:((((v.set a h1.1).set b h1.2.1).set c h1.2.2.1).set d h1.2.2.2).getD d 0=h1.2.2.2:=by
  rw [Db _ (by simp;omega)]
 rw [ea,eb,ec,ed,Afw]
def mA(CJ:List UInt8):Nat->List Wd
 | 0=>Ak9 16 0
 | i+1=>(mA CJ i).set (i / 4) ((mA CJ i).getD (i / 4) 0+(byW (CJ.getD i 0) <<< (8*(i % 4))))
theorem AgK(CJ:List UInt8):∀ i,(mA CJ i).length=16
 | 0=>by simp [mA]
 | i+1=>by simp [mA,AgK CJ i]
theorem Adu(c:UInt8)(s:Nat)(hs:s<=24):(byW c <<< s).toNat=2 ^ s*c.toNat:=by
 have h1:=c.toNat_lt;have h2:2 ^ s<=2 ^ 24:=Alw (by omega) hs;have h3:c.toNat*2 ^ s<=255*2 ^ 24:=Nat.mul_le_mul (by omega) h2;rw [BitVec.toNat_shiftLeft,Nat.shiftLeft_eq,byW,All,Alk (by omega:c.toNat<2 ^ 32),Alk (by omega),Alp]
theorem Ajb(x:Wd)(c:UInt8)(s:Nat)(hs:s<=24)(hx:x.toNat<2 ^ s):x ||| (byW c <<< s)=x+(byW c <<< s)/\(x ||| (byW c <<< s)).toNat<2 ^ (s+8):=by
 have h1:=c.toNat_lt;have e:=AlA hx c.toNat;have aB:2 ^ s*c.toNat+x.toNat<2 ^ (s+8):=by
  have:2 ^ s*c.toNat<=2 ^ s*255:=Nat.mul_le_mul_left _ (by omega);rw [Nat.pow_add];omega
 have xr:2 ^ (s+8)<=2 ^ 32:=Alw (by omega) (by omega);have ho:(x ||| (byW c <<< s)).toNat=2 ^ s*c.toNat+x.toNat:=by
  rw [Alz,Adu c s hs,e,AlB]
 refine⟨BitVec.eq_of_toNat_eq ?_,by rw [ho];exact aB⟩;rw [ho,BitVec.toNat_add,Adu c s hs,Alk (by omega),Nat.add_comm]
theorem AgL(CJ:List UInt8):∀ i,i<=64->mA CJ i=mO CJ i/\(i<64->((mO CJ i).getD (i / 4) 0).toNat<2 ^ (8*(i % 4)))/\∀ k,i / 4<k->k<16->(mO CJ i).getD k 0=0
 | 0,_=>by
  refine⟨rfl,λ _=>by simp [mO],λ k _ hk=>?_⟩;rw [mO,AlH,List.getElem?_replicate];split <;> rfl
 | i+1,h=>by
  obtain⟨h1,h2,h3⟩:=AgL CJ i (by omega);have hl:=Acs CJ i;obtain⟨e1,e2⟩:=Ajb ((mO CJ i).getD (i / 4) 0) (CJ.getD i 0) (8*(i % 4)) (by omega) (h2 (by omega));refine⟨by rw [mA,mO,h1,e1],λ aB=>?_,λ k hk bA=>?_⟩
  ·rw [mO];by_cases hq:(i+1) % 4=0
   ·rw [getD_set_ne _ (by omega),h3 _ (by omega) (by omega),hq];simp
   ·rw [show (i+1) / 4=i / 4 by omega,Db _ (by omega),show 8*((i+1) % 4)=8*(i % 4)+8 by omega];exact e2
  ·rw [mO,getD_set_ne _ (by omega)];exact h3 k (by omega) bA
theorem Aj2(CJ:List UInt8):mA CJ 64=mO CJ 64:=(AgL CJ 64 (Nat.le_refl _)).1
def vR(h:List Wd):Nat->List Wd
 | 0=>Ak9 16 0
 | i+1=>((vR h i).set i (h.getD i 0)).set (8+i) (Ca.getD i 0)
theorem Ahz(h:List Wd):∀ i,(vR h i).length=16
 | 0=>by simp [vR]
 | i+1=>by simp [vR,Ahz h i]
theorem Akf(h:List Wd)(hh:h.length=8):vR h 8=vF h 8:=by
 obtain⟨a,b,c,d,e,f,g,k,rfl⟩:∃ a b c d e f g k,h=[a,b,c,d,e,f,g,k]:=by
  match h,hh with
  | [a,b,c,d,e,f,g,k],_=>exact⟨a,b,c,d,e,f,g,k,rfl⟩
 rfl
end Go.Proofs.YtpnaifmmggnimaaGreatDoor
