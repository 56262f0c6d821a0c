/-
  Texts of this claim, laid one behind the other by a program of mine (install.py): Dn.Mem, Dn.Laws, Dn.Str, Dn.Laws2, Dn.Laws3, Dn.Laws4, Y.Wire, Y.Wire2, Dn.Open, Y.Val, Y.Shelf, Dn.Arr, Y.Hash1, Y.Hash2, Dn.Arr2, Y.Hash3.
-/
import Derived.Test.YtoepjfblppfabaaGreatDoorM2
import Derived.Below
import Derived.Laws.MakeOwn
import Derived.Laws.BytesString
import Derived.Laws.NewBlocks
import Derived.Laws.OwnMore
import Derived.Laws.StructEq
import Derived.Laws.Strings2
import Derived.Laws.BytesArg
import Derived.Test.YtoepjfblppfabaaGreatDoorRead
import Derived.Test.YtoepjfblppfabaaGreatDoorM1
import Derived.ChangeArms
import Derived.Deep.Slices
import Derived.OpenShut
import Derived.Shelf.Strings.Builder1
import Derived.Shelf.Strings.Builder2
import Derived.Shelf.Strings.OnBuilder
import Derived.Shelf.Strings.Trim
import Derived.Shelf.Small.Utf8
import Derived.Shelf.Small.Bits
import Derived.Shelf.Small.Strs
import Derived.Shelf.Strings.BuilderF
import Derived.Shelf.Utf8.RuneCount
import Derived.Shelf.Strings.Builder2Cap
import Derived.Shelf.Strconv.Itoa0
import Derived.Shelf.Strconv.Itoa1
import Derived.Shelf.LaysM
import Derived.Shelf.Strconv.Itoa2
import Derived.Shelf.Strconv.Itoa3
import Derived.Shelf.Strconv.Itoa4
import Derived.Shelf.Strings.Search1
import Derived.Shelf.Strings.Search2
import Derived.Shelf.Strings.Search3
import Derived.Shelf.Strings.Count
import Derived.Shelf.Strings.Shaped
import Derived.Shelf.Sort.Plain
import Derived.Shelf.Strings.Split
import Derived.Shelf.Strings.Replace
import Derived.Shelf.Strings.SplitShaped
import Derived.Shelf.Unicode.Decode
import Derived.Shelf.Strings.Runes
import Derived.Shelf.Strings.RuneCount
import Derived.Shelf.Strings.AsciiSet
import Derived.Shelf.Bits.Mul64
import Derived.Shelf.Unicode.DecodeSlow
import Derived.Shelf.Unicode.DecodeAny
import Derived.Shelf.Unicode.DecodeLast
import Derived.Ground.Names2Prog
import Derived.Shelf.Slices.Clone
import Derived.Shelf.Slices.CompactI
import Derived.Shelf.Slices.CompactS
import Derived.Shelf.Slices.SearchI
import Derived.Shelf.Slices.Cells
import Derived.Shelf.Slices.In.SortNone
import Derived.Ground.SlgnProg
import Derived.Shelf.SlicesE.Clone
import Derived.Test.YtoepjfblppfabaaGreatDoorProg
import Derived.Laws.CopyRow
import Derived.Laws.IdiomCopy
namespace Go.Dn
open _root_.List renaming getElem?_eq_some_iff -> Anj, getElem?_set_ne -> Anm, getElem?_set_self -> Anl, mem_of_getElem? -> Ani
open _root_.Nat renaming lt_of_lt_of_le -> Ank
set_option linter.unusedVariables false
set_option maxRecDepth 100000
open Go.RowKit (Below)
/-! ## What stays -/
structure Ae(F:Nat->Prop)(w w':World):Prop where
 os:w'.os=w.os
 tape:w'.tape=w.tape
 output:w'.output=w.output
 size:w.heap.size<=w'.heap.size
 block:∀ k,k<w.heap.size->¬ F k->w'.heap[k]?=w.heap[k]?
theorem Ae.refl(F:Nat->Prop)(w:World):Ae F w w:=⟨rfl,rfl,rfl,Nat.le_refl _,λ _ _ _=>rfl⟩
theorem Ae.trans{F G:Nat->Prop}{a b c:World}(h:Ae F a b)(h':Ae G b c)(hs:∀ k,k<a.heap.size->G k->F k):Ae F a c :=
 ⟨h'.os.trans h.os,h'.tape.trans h.tape,h'.output.trans h.output,Nat.le_trans h.size h'.size,
  λ k hk hn=>(h'.block k (Ank hk h.size) λ hg=>hn (hs k hk hg)).trans (h.block k hk hn)⟩
theorem Ae.mono{F G:Nat->Prop}{a b:World}(h:Ae F a b)(hs:∀ k,k<a.heap.size->F k->G k):Ae G a b :=
 ⟨h.os,h.tape,h.output,h.size,λ k hk hn=>h.block k hk λ hf=>hn (hs k hk hf)⟩
theorem Ae.Al{F:Nat->Prop}{a b:World}(h:Below a.heap.size a b):Ae F a b:=⟨h.os,h.tape,h.output,h.size,λ k hk _=>h.block k hk⟩
theorem Ae.below{F:Nat->Prop}{a b:World}{B:Nat}(h:Ae F a b)(hB:B<=a.heap.size)(hs:∀ k,k<B->¬ F k):Below B a b :=
 ⟨h.os,h.tape,h.output,h.size,λ k hk=>h.block k (Ank hk hB) (hs k hk)⟩
theorem Ae.alloc{F:Nat->Prop}{a w:World}(h:Ae F a w)(o:Obj):Ae F a (w.alloc o) :=
 ⟨h.os,h.tape,h.output,Nat.le_trans h.size (by simp),λ k hk hn=>(Below.heap_alloc w o k (Ank hk h.size)).trans (h.block k hk hn)⟩
theorem Ae.drew{F:Nat->Prop}{a w:World}(h:Ae F a w):Ae F a w.drew:=⟨h.os,h.tape,h.output,h.size,h.block⟩
theorem Ae.setCell{F:Nat->Prop}{a w:World}(h:Ae F a w){p:Addr}(hp:F p.block\/a.heap.size<=p.block)(v:Value):Ae F a (w.setCell p v) :=
 ⟨h.os,h.tape,h.output,by simpa using h.size,λ k hk hn=>by
  rw [Below.heap_setCell w p v k (by rintro rfl;rcases hp with hp | hp;exact hn hp;omega)];exact h.block k hk hn⟩
theorem Ae.cell{F:Nat->Prop}{a b:World}(h:Ae F a b){p:Addr}{v:Value}(hc:a.cell? p=some v)(hn:¬ F p.block):b.cell? p=some v :=
 (World.cell?_of_block (w:=a) (h.block p.block (World.block_lt_of_cell? a p hc) hn)).trans hc
theorem Ae.at{F:Nat->Prop}{a b:World}(h:Ae F a b){k:Nat}{o:Obj}(hc:a.heap[k]?=some o)(hn:¬ F k):b.heap[k]?=some o :=
 (h.block k (Array.getElem?_eq_some_iff.1 hc).1 hn).trans hc
/-! ## Known blocks -/
abbrev Yy:=Nat × Array Value × TypeId
structure SH(F:Nat->Prop)(w0 w:World)(H:List Yy):Prop where
 keeps:Ae F w0 w
 mem:∀ x∈H,w.heap[x.1]?=some (.cells x.2.1 x.2.2 (0,0))
 nodup:(H.map (·.1)).Nodup
 own:∀ x∈H,F x.1\/w0.heap.size<=x.1
section
variable {F:Nat->Prop}{w0 w:World}{H:List Yy}
theorem SH.lt(S:SH F w0 w H){x:Yy}(hx:x∈H):x.1<w.heap.size:=(Array.getElem?_eq_some_iff.1 (S.mem x hx)).1
theorem SH.start(F:Nat->Prop)(w:World):SH F w w []:=⟨.refl F w,by simp,by simp,by simp⟩
theorem SH.alloc(S:SH F w0 w H)(cs:Array Value)(t:TypeId):SH F w0 (w.alloc (.cells cs t)) ((w.heap.size,cs,t) :: H) where
 keeps:=S.keeps.alloc _
 mem:=by
  intro x hx;rcases List.mem_cons.1 hx with rfl | hx
  ·exact heap_alloc_new w _
  ·rw [Below.heap_alloc w _ x.1 (S.lt hx)];exact S.mem x hx
 nodup:=by
  simp only [List.map_cons,List.nodup_cons];refine⟨λ hm=>?_,S.nodup⟩;obtain⟨x,hx,he⟩:=List.mem_map.1 hm;have:=S.lt hx;omega
 own:=by
  intro x hx;rcases List.mem_cons.1 hx with rfl | hx
  ·exact .inr S.keeps.size
  ·exact S.own x hx
theorem SH.drew(S:SH F w0 w H):SH F w0 w.drew H:=⟨S.keeps.drew,S.mem,S.nodup,S.own⟩
theorem SH.draw(S:SH F w0 w H){k:World->Prop}(hk:∀ w',SH F w0 w' H->k w'):WM k w:=hk _ S.drew
theorem SH.get(S:SH F w0 w H)(n:Nat){b:Nat}{cs:Array Value}{t:TypeId}(hn:H[n]?=some (b,cs,t)):w.heap[b]?=some (.cells cs t (0,0)) :=
 S.mem _ (Ani hn)
theorem SH.cell(S:SH F w0 w H)(n:Nat){b:Nat}{cs:Array Value}{t:TypeId}(hn:H[n]?=some (b,cs,t)){i:Nat}{v:Value}(hv:cs[i]?=some v):w.cell? ⟨b,i,none⟩=some v:=by
 have:=S.get n hn;simp [World.cell?,this,hv]
theorem SH.free(S:SH F w0 w H)(n:Nat){b:Nat}{cs:Array Value}{t:TypeId}(hn:H[n]?=some (b,cs,t))(i:Nat):w.frozen? ⟨b,i,none⟩=false:=by
 have:=S.get n hn;simp [World.frozen?,this]
theorem Aac{α:Type}{l:List α}(h:l.Nodup){i j:Nat}{x y:α}(hi:l[i]?=some x)(hj:l[j]?=some y)(aQ:i≠j):x≠y:=by
 obtain⟨h1,rfl⟩:=Anj.1 hi;obtain⟨h2,rfl⟩:=Anj.1 hj;intro he;rcases Nat.lt_or_gt_of_ne aQ with aB | aB
 ·exact (List.pairwise_iff_getElem.1 h) i j h1 h2 aB he
 ·exact (List.pairwise_iff_getElem.1 h) j i h2 h1 aB he.symm
theorem SH.setAt(S:SH F w0 w H)(n:Nat){b:Nat}{cs:Array Value}{t:TypeId}(hn:H[n]?=some (b,cs,t)){w':World}{aC:Array Value}(hk:Ae (·=b) w w')
  (hb:w'.heap[b]?=some (.cells aC t (0,0))):SH F w0 w' (H.set n (b,aC,t)) where
 keeps:=S.keeps.trans hk λ k aB he=>by
  subst he;rcases S.own _ (Ani hn) with h | h
  ·exact h
  ·exact absurd aB (Nat.not_lt.2 h)
 mem:=by
  intro x hx;obtain⟨i,hi⟩:=List.mem_iff_getElem?.1 hx;by_cases cB:n=i
  ·subst cB;have aB:=(Anj.1 hn).1;rw [Anl aB] at hi;cases hi;exact hb
  ·rw [Anm cB] at hi;have aQ:x.1≠b:=by
    refine Aac S.nodup (i:=i) (j:=n) ?_ ?_ (Ne.symm cB)
    ·simp [hi]
    ·simp [hn]
   exact hk.at (S.mem x (Ani hi)) aQ
 nodup:=by
  have:(H.set n (b,aC,t)).map (·.1)=H.map (·.1):=by
   apply List.ext_getElem?;intro i;simp only [List.getElem?_map];by_cases cB:n=i
   ·subst cB;have aB:=(Anj.1 hn).1;rw [Anl aB,hn];rfl
   ·rw [Anm cB]
  rw [this];exact S.nodup
 own:=by
  intro x hx;obtain⟨i,hi⟩:=List.mem_iff_getElem?.1 hx;by_cases cB:n=i
  ·subst cB;have aB:=(Anj.1 hn).1;rw [Anl aB] at hi;cases hi;exact S.own (b,cs,t) (Ani hn)
  ·rw [Anm cB] at hi;exact S.own x (Ani hi)
theorem DE(w:World)(b i:Nat)(v:Value):Ae (·=b) w (w.setCell ⟨b,i,none⟩ v):=Ae.setCell (F:=(·=b)) (Ae.refl _ w) (p:=⟨b,i,none⟩) (.inl rfl) v
theorem Dw{w:World}{b i:Nat}{cs:Array Value}{t:TypeId}{f:Nat × Nat}(h:w.heap[b]?=some (.cells cs t f))(v:Value) :
  (w.setCell ⟨b,i,none⟩ v).heap[b]?=some (.cells (cs.setIfInBounds i v) t f):=by
 simp [World.setCell,Array.getElem?_modify,h]
theorem SH.Cr(S:SH F w0 w H)(n:Nat){b:Nat}{cs:Array Value}{t:TypeId}(hn:H[n]?=some (b,cs,t)){i:Nat}{v:Value}{k:World->Prop}(hi:i<cs.size)
  (hk:∀ w',SH F w0 w' (H.set n (b,cs.setIfInBounds i v,t))->k w'):Cd ⟨b,i,none⟩ v k w:=by
 refine⟨?_,S.free n hn i,hk _ (S.setAt n hn (DE w b i v) (Dw (S.get n hn) v))⟩;rw [S.cell n hn (Array.getElem?_eq_getElem hi)];rfl
theorem SH.grown(S:SH F w0 w H){w':World}(h:Below w.heap.size w w'):SH F w0 w' H where
 keeps:=S.keeps.trans (Ae.Al (F:=λ _=>False) h) (by simp)
 mem:=λ x hx=>(h.block x.1 (S.lt hx)).trans (S.mem x hx)
 nodup:=S.nodup
 own:=S.own
theorem SH.kept(S:SH F w0 w H){G:Nat->Prop}{w':World}(h:Ae G w w')(hd:∀ x∈H,¬ G x.1)(hF:∀ k,k<w0.heap.size->G k->F k):SH F w0 w' H where
 keeps:=S.keeps.trans h hF
 mem:=λ x hx=>h.at (S.mem x hx) (hd x hx)
 nodup:=S.nodup
 own:=S.own
theorem SH.drop(S:SH F w0 w H)(n:Nat):SH F w0 w (H.drop n) :=
 ⟨S.keeps,λ x hx=>S.mem x (List.mem_of_mem_drop hx),by rw [List.map_drop];exact S.nodup.sublist (List.drop_sublist _ _),λ x hx=>S.own x (List.mem_of_mem_drop hx)⟩
end
end Go.Dn
namespace Go.Dn
open _root_.Array renaming getElem?_modify -> Anr, length_toList -> Ano, toList_append -> Anz
open _root_.List renaming append_assoc -> AnA, eq_nil_of_length_eq_zero -> Anq, getElem?_drop -> Anx, getElem?_eq_getElem -> AnB, length_append -> Anp, length_drop -> AnC, length_take -> Anw, size_toArray -> Ans, take_left -> Ant
open _root_.Nat renaming add_mul -> Ann, mul_le_mul_right -> Anv, zero_add -> Anu
set_option linter.unusedVariables false
set_option maxRecDepth 100000
open Go.RowKit (Below)
theorem Cm(p:Addr)(x y:Nat):(p.add x).add y=p.add (x+y):=by
 unfold Addr.add;by_cases hx:x=0
 ·subst hx;simp
 ·by_cases hy:y=0
  ·subst hy;simp
  ·simp [hx,hy,Nat.add_assoc]
theorem CS(p:Addr):p.add 0=p:=by simp [Addr.add]
theorem Am(b i j:Nat):(⟨b,i,none⟩:Addr).add j=⟨b,i+j,none⟩:=by
 unfold Addr.add;by_cases hj:j=0
 ·subst hj;simp
 ·simp [hj]
theorem Bp(p:Addr)(x:Nat):(p.add x).block=p.block:=by
 unfold Addr.add;split <;> rfl
def Rd(w:World)(a:Option Addr)(vs:List Value):Prop:=∀ j v,vs[j]?=some v->∃ p,a=some p/\w.cell? (p.add j)=some v
theorem Rd.nil(w:World)(a:Option Addr):Rd w a []:=by intro j v h;simp at h
theorem Rd.keeps{F:Nat->Prop}{w w':World}{a:Option Addr}{vs:List Value}(h:Rd w a vs)(hk:Ae F w w')(hn:∀ p,a=some p->¬ F p.block):Rd w' a vs:=by
 intro j v hv;obtain⟨p,hp,hc⟩:=h j v hv;exact⟨p,hp,hk.cell hc (by rw [Bp];exact hn p hp)⟩
theorem Rd.grown{w w':World}{a:Option Addr}{vs:List Value}(h:Rd w a vs)(hk:Below w.heap.size w w'):Rd w' a vs :=
 h.keeps (F:=λ _=>False) (Ae.Al hk) (by simp)
theorem Rd.take{w:World}{a:Option Addr}{vs:List Value}(h:Rd w a vs)(n:Nat):Rd w a (vs.take n):=by
 intro j v hv;rw [List.getElem?_take] at hv;split at hv
 ·exact h j v hv
 ·cases hv
theorem Rd.drop{w:World}{p:Addr}{vs:List Value}(h:Rd w (some p) vs)(n:Nat):Rd w (some (p.add n)) (vs.drop n):=by
 intro j v hv;rw [Anx] at hv;obtain⟨q,hq,hc⟩:=h _ v hv;cases hq;exact⟨_,rfl,by rw [Cm];exact hc⟩
theorem Rd.Yr{w:World}{a:Option Addr}{vs:List Value}(h:Rd w a vs)(l hh m sz:Nat)(h2:hh<=m):Rd w (Cc a l m sz) ((vs.drop (l*sz)).take ((hh-l)*sz)):=by
 unfold Cc;split
 ·have:hh-l=0:=by omega
  rw [this];simp [Rd]
 ·cases a with
  | none =>
   intro j v hv;rw [List.getElem?_take] at hv;split at hv
   ·rw [Anx] at hv;obtain⟨p,hp,_⟩:=h _ v hv;cases hp
   ·cases hv
  | some p=>exact (h.drop (l*sz)).take _
theorem Rd.of_block{w:World}{b:Nat}{cs:Array Value}{t:TypeId}{f:Nat × Nat}(h:w.heap[b]?=some (.cells cs t f))(i:Nat):Rd w (some ⟨b,i,none⟩) (cs.toList.drop i):=by
 intro j v hv;refine⟨_,rfl,?_⟩;rw [Am];rw [Anx] at hv;simp [World.cell?,h];simpa using hv
theorem Rd.Ak{w:World}{b:Nat}{cs:Array Value}{t:TypeId}{f:Nat × Nat}(h:w.heap[b]?=some (.cells cs t f)):Rd w (some ⟨b,0,none⟩) cs.toList:=by
 have:=Rd.of_block h 0;simpa using this
def AG(a:Option Addr):Option Nat:=a.map (·.block)
def Row(w:World)(e:TypeId)(sz:Nat)(a:Option Addr)(n c:Nat)(xs:List Value):Prop :=
 xs.length=n*sz/\((a=none/\n=0/\c=0) \/
  ∃ g cur,a=some ⟨g,0,none⟩/\w.heap[g]?=some (.cells cur e (0,0))/\n<=c/\c<=9223372036854775807/\cur.size=c*sz/\cur.toList.take (n*sz)=xs)
theorem Row.nil(w:World)(e:TypeId)(sz:Nat):Row w e sz none 0 0 []:=⟨by simp,.inl ⟨rfl,rfl,rfl⟩⟩
theorem Row.rd{w:World}{e:TypeId}{sz:Nat}{a:Option Addr}{n c:Nat}{xs:List Value}(h:Row w e sz a n c xs):Rd w a xs:=by
 rcases h with ⟨hl,⟨rfl,rfl,rfl⟩ | ⟨g,cur,rfl,hg,_,_,_,rfl⟩⟩
 ·have:xs=[]:=Anq (by simpa using hl);subst this;exact Rd.nil _ _
 ·exact (Rd.Ak hg).take _
theorem Row.len{w:World}{e:TypeId}{sz:Nat}{a:Option Addr}{n c:Nat}{xs:List Value}(h:Row w e sz a n c xs):xs.length=n*sz:=h.1
theorem Row.le{w:World}{e:TypeId}{sz:Nat}{a:Option Addr}{n c:Nat}{xs:List Value}(h:Row w e sz a n c xs):n<=c:=by
 rcases h with ⟨_,⟨_,rfl,rfl⟩ | ⟨_,_,_,_,h,_⟩⟩
 ·exact Nat.le_refl _
 ·exact h
theorem Row.lt{w:World}{e:TypeId}{sz:Nat}{a:Option Addr}{n c:Nat}{xs:List Value}(h:Row w e sz a n c xs){k:Nat}(hk:AG a=some k):k<w.heap.size:=by
 rcases h with ⟨_,⟨rfl,_⟩ | ⟨g,cur,rfl,hg,_⟩⟩
 ·cases hk
 ·cases hk;exact (Array.getElem?_eq_some_iff.1 hg).1
theorem Row.keeps{F:Nat->Prop}{w w':World}{e:TypeId}{sz:Nat}{a:Option Addr}{n c:Nat}{xs:List Value}(h:Row w e sz a n c xs)(hk:Ae F w w')(hn:∀ k,AG a=some k->¬ F k):Row w' e sz a n c xs:=by
 refine⟨h.1,?_⟩;rcases h.2 with h | ⟨g,cur,rfl,hg,r⟩
 ·exact .inl h
 ·exact .inr ⟨g,cur,rfl,hk.at hg (hn g rfl),r⟩
theorem Row.grown{w w':World}{e:TypeId}{sz:Nat}{a:Option Addr}{n c:Nat}{xs:List Value}(h:Row w e sz a n c xs)(hk:Below w.heap.size w w'):Row w' e sz a n c xs :=
 h.keeps (F:=λ _=>False) (Ae.Al hk) (by simp)
def Ia(P:Program)(t:TypeId):Option (TypeId × Nat × Nat × Value) :=
 match P.underlying t with
 | some (.slice e) =>
  (match P.info? e with
  | some i=>(match i.zero with
   | some z=>some (e,i.size,i.bytes,z)
   | none=>none)
  | none=>none)
 | _=>none
theorem JA{P:Program}{t e:TypeId}{sz by_:Nat}{z:Value}(h:Ia P t=some (e,sz,by_,z)):P.underlying t=some (.slice e)/\∃ i,P.info? e=some i/\i.zero=some z/\i.size=sz/\i.bytes=by_:=by
 unfold Ia at h;split at h
 ·rename_i e' hu;split at h
  ·rename_i i hi;split at h
   ·rename_i z' hz;simp only [Option.some.injEq,Prod.mk.injEq] at h;obtain⟨rfl,rfl,rfl,rfl⟩:=h;exact⟨hu,i,hi,hz,rfl,rfl⟩
   ·cases h
  ·cases h
 ·cases h
theorem D3(w:World)(g:Nat)(cs:Array Value):Ae (·=g) w (w.setRow g cs) :=
 ⟨rfl,rfl,rfl,by simp [World.setRow],λ k _ hn=>by simp only [World.setRow,Anr];rw [if_neg (λ h=>hn h.symm)]⟩
theorem FP{w:World}{g:Nat}{cur cs:Array Value}{t:TypeId}{f:Nat × Nat}(h:w.heap[g]?=some (.cells cur t f)):(w.setRow g cs).heap[g]?=some (.cells cs t f):=by
 simp [World.setRow,Anr,h]
theorem Bq{P:Program}{t ty e:TypeId}{sz bytes:Nat}{z:Value}(hT:Ia P t=some (e,sz,bytes,z))(hz:z.cells.size=sz)(av:0<sz)(dB:0<bytes)
  {w:World} {a:Option Addr} {n c:Nat} {xs:List Value} (hr:Row w e sz a n c xs) {b:Option Addr} {m mc:Nat} {news:List Value} (hs:Rd w b news) (hl:news.length=m*sz)
  (h1:∀ u∈news,u.oneCell'=true) (dD:(n+m)*bytes<=140737488355328) :
  ∃ a' c' w',(Builtin.append_ #[t,t] ty #[.slice a n c,.slice b m mc]).run P w=.ok (.slice a' (n+m) c') w'/\Row w' e sz a' (n+m) c' (xs++news) /\
   Ae (λ k=>AG a=some k) w w'/\(∀ k,AG a'=some k->AG a=some k\/w.heap.size<=k):=by
 obtain⟨hu,i,hi,hiz,rfl,rfl⟩:=JA hT;have ir:n+m<=140737488355328:=Nat.le_trans (Nat.le_mul_of_pos_right _ dB) dD;have hlen:(xs++news).length=(n+m)*i.size:=by rw [Anp,hr.1,hl,Ann]
 have grown:∀(old:Nat),old<n+m->Row (w.drew.alloc (.cells (xs.toArray++news.toArray++Builtin.zeroCells z.cells (grownCap w (n+m) old e-(n+m))) e)) e i.size
   (some ⟨w.heap.size,0,none⟩) (n+m) (grownCap w (n+m) old e) (xs++news):=by
  intro old ho;have aL:=grownCap_ge w (n+m) old e;have db:grownCap w (n+m) old e<=maxLen:=grownCap_le_maxLen w (n+m) old e (by unfold maxLen;omega);refine⟨hlen,.inr ⟨w.heap.size,_,rfl,heap_alloc_new w.drew _,aL,by unfold maxLen at db;omega,?_,?_⟩⟩
  ·simp only [Array.size_append,Ans,size_zeroCells,hz,hr.1,hl,<- Ann];congr 1;omega
  ·simp only [Anz,AnA];rw [<- AnA,<- hlen];exact Ant
 have cd:∀(cs:Array Value) (row:Nat->Prop),Ae row w (w.drew.alloc (.cells cs e)):=λ cs row=>(Ae.refl row w).drew.alloc _;have src:0<m->∃ p,b=some p/\∀ j u,news[j]?=some u->w.cell? (p.add j)=some u:=by
  intro hm;have h0:0<news.length:=by rw [hl];exact Nat.mul_pos hm av
  obtain⟨p,hp,_⟩:=hs 0 news[0] (AnB h0);refine⟨p,hp,λ j u hu=>?_⟩;obtain⟨q,hq,hc⟩:=hs j u hu;rw [hp] at hq;cases hq;exact hc
 have eA:m=0->news=[]:=λ hm=>Anq (by rw [hl,hm];simp);rcases hr.2 with ⟨rfl,rfl,rfl⟩ | ⟨g,cur,rfl,hg,hnc,db,bG,htake⟩
 ·have hx:xs=[]:=Anq (by simpa using hr.1);subst hx;by_cases hm:m=0
  ·have hn:=eA hm;subst hm hn;refine⟨none,0,w,?_,by simpa using Row.nil w e i.size,.refl _ _,by simp [AG]⟩;cases b <;> simp [Builtin.append_,run_underlying hu,sizeOf,typeInfo,hi,Builtin.lenOf,Builtin.firstCells,loadCells,loadCellsFrom]
  ·obtain⟨p,rfl,hp⟩:=src (by omega);have aD:=run_append_nil (P:=P) w t ty e i z hu hi hiz p m mc news hl hp (by omega) (by omega) (by simp only [Anu] at dD;omega);have aG:=grown 0 (by omega);simp only [Anu] at aG aD ⊢;refine⟨_,_,_,aD,?_,cd _ _,λ k hk=>.inr ?_⟩
   ·simpa using aG
   ·simp [AG] at hk;omega
 ·by_cases bZ:n+m<=c
  ·by_cases hm:m=0
   ·have hn:=eA hm;subst hm hn;refine⟨some ⟨g,0,none⟩,c,w,?_,by simpa using hr,.refl _ _,λ k hk=>.inl hk⟩;cases b <;> simp [Builtin.append_,run_underlying hu,sizeOf,typeInfo,hi,Builtin.lenOf,Builtin.firstCells,loadCells,loadCellsFrom,hnc,storeCells]
   ·obtain⟨p,rfl,hp⟩:=src (by omega);have br:n*i.size+news.length<=cur.size:=by rw [hl,bG,<- Ann];exact Anv _ bZ
    have aD:=run_append_room (P:=P) w t ty e i hu hi g n c cur hg p m mc news hl hp h1 bZ br;have dM:(List.take (n*i.size) cur.toList)=xs:=htake;refine⟨_,_,_,aD,⟨hlen,.inr ⟨g,_,rfl,FP hg,bZ,db,?_,?_⟩⟩,(D3 w g _).mono (λ k _ h=>by subst h;rfl),λ k hk=>.inl hk⟩
    ·simp only [Ans,Anp,Anw,AnC,Ano];omega
    ·rw [dM];rw [<- hlen];exact Ant
  ·obtain⟨p,rfl,hp⟩:=src (by omega);have hold:∀ j v,xs[j]?=some v->w.cell? ((⟨g,0,none⟩:Addr).add j)=some v:=by
    intro j v hv;obtain⟨q,hq,hc⟩:=hr.rd j v hv;cases hq;exact hc
   have aD:=run_append_grow (P:=P) w t ty e i z hu hi hiz ⟨g,0,none⟩ n c xs hr.1 hold p m mc news hl hp (by omega) (by omega) (growslice_fits (by omega) dD);refine⟨_,_,_,aD,grown c (by omega),cd _ _,λ k hk=>.inr ?_⟩;simp [AG] at hk;omega
def bl(s:ByteArray):List UInt8:=s.data.toList
def CA(l:List UInt8):ByteArray:=⟨l.toArray⟩
def Af(c:UInt8):Value:=.int .u8 (c.toNat:Int)
theorem Dq(l:List UInt8):bl (CA l)=l:=by simp [bl,CA]
theorem DH(s:ByteArray):CA (bl s)=s:=by cases s;simp [bl,CA]
theorem CG(s:ByteArray):(bl s).length=s.size:=Ano
theorem E7(l:List UInt8):(CA l).size=l.length:=by simp [CA,ByteArray.size]
theorem MW{s t:ByteArray}(h:bl s=bl t):s=t:=by rw [<- DH s,<- DH t,h]
theorem Ad4(s t:ByteArray):bl (s++t)=bl s++bl t:=by simp [bl]
theorem NA(s t:List UInt8):CA s++CA t=CA (s++t):=MW (by rw [Ad4,Dq,Dq,Dq])
theorem extract_eq(s:ByteArray)(a b:Nat):s.extract a b=CA (((bl s).drop a).take (b-a)):=by
 have h:=ByteArray.extract_mk (bl s) a b;have e:(ByteArray.mk (bl s).toArray)=s:=DH s;rw [e] at h;exact h
theorem AK(a b:ByteArray):AJ a b=decide (a=b):=by
 unfold AJ;rw [ByteArray.toList_eq,ByteArray.toList_eq];have:(a=b)↔a.data.toList=b.data.toList:=⟨λ h=>by rw [h],λ h=>MW h⟩;rw [Bool.eq_iff_iff];simp [this]
theorem NY(a b:ByteArray):(a==b)=decide (a=b):=by
 rw [beq_toListBytes];exact AK a b
theorem X7(s:ByteArray)(i:Nat):D6 s i=(bl s).getD i 0:=rfl
theorem VN(c:UInt8):(Af c).oneCell'=true:=rfl
def Kk(P:Program)(st bt:TypeId):Bool :=
 match P.underlying st,P.underlying bt with
 | some .string,some (.slice e)=>(match P.underlying e with
  | some (.int .u8)=>true
  | _=>false)
 | _,_=>false
theorem Tl{P:Program}{st bt:TypeId}(h:Kk P st bt=true):P.underlying st=some .string/\∃ e,P.underlying bt=some (.slice e)/\P.underlying e=some (.int .u8):=by
 unfold Kk at h;split at h
 ·rename_i e hs hb;split at h
  ·rename_i he;exact⟨hs,e,hb,he⟩
  ·cases h
 ·cases h
theorem Oq(F:Nat->Prop)(w:World)(p:Addr)(n:Nat)(hp:F p.block):Ae F w (w.freeze p n):=by
 unfold World.freeze;split
 ·exact .refl _ _
 ·refine⟨rfl,rfl,rfl,by simp,λ k _ hn=>?_⟩;simp only [Anr];rw [if_neg (λ h=>hn (by rw [<- h];exact hp))]
theorem F5{P:Program}{st bt:TypeId}(hT:Kk P st bt=true)(s:ByteArray)(w:World){f:Value->World->Prop}
  (hf:∀(b c:Nat) (cs:Array Value) (e:TypeId) (w':World),b=w.heap.size->Below w.heap.size w w'->w'.heap[b]?=some (.cells cs e (cs.size,cs.size+1))->cs.size=c->s.size<=c ->
   cs.toList.take s.size=(bl s).map Af->f (.slice (some ⟨b,0,none⟩) s.size c) w'):CD P (convert st bt (.string s)) f w:=by
 obtain⟨hs,e,hb,he⟩:=Tl hT;let cap:=grownCap w s.size 0 e;let cs:Array Value:=(s.data.map λ b=>Value.int .u8 b.toNat)++Array.replicate (cap-s.size) (.int .u8 0);have aL:s.size<=cap:=grownCap_ge w s.size 0 e;have av:cs.size=cap:=by
  have:s.data.size=s.size:=rfl;simp [cs,this];omega
 let w1:World:=w.drew.alloc (.cells cs e);have uP:w1.heap[w.heap.size]?=some (.cells cs e (0,0)):=heap_alloc_new w.drew _;have fC:w1.shape? w.heap.size=some (e,cs.size):=by simp [World.shape?,uP]
 have aD:(convert st bt (.string s)).run P w=.ok (.slice (some ⟨w.heap.size,0,none⟩) s.size cap) (w1.freeze ⟨w.heap.size,cs.size,none⟩ 1):=by
  have hq:(Question.appendCap s.size 0 e).forced=false:=rfl;have bA:(newRow e cs).run P w.drew=.ok ⟨w.heap.size,0,none⟩ w1:=rfl;have iI:(choose (.appendCap s.size 0 e)).run P w=.ok cap w.drew:=by
   rw [run_choose];simp [hq,cap,grownCap]
  have gu:(markStringish ⟨w.heap.size,0,none⟩).run P w1=.ok () (w1.freeze ⟨w.heap.size,cs.size,none⟩ 1):=by
   simp [markStringish,fC]
  simp only [convert,Sem.run_bind,run_underlying hs,run_underlying hb,run_underlying he,Result.andThen_ok,Conv.stringToBytes,iI,Sem.run_pure];simp only [cs] at bA;rw [bA];simp only [Result.andThen_ok,gu]
 unfold CD;rw [aD];have cK:(w1.freeze ⟨w.heap.size,cs.size,none⟩ 1).heap[w.heap.size]?=some (.cells cs e (cs.size,cs.size+1)):=by
  unfold World.freeze;simp [Anr,uP]
 refine hf _ _ cs e _ rfl ?_ cK av aL ?_
 ·have h1:Ae (λ k=>k=w.heap.size) w w1:=(Ae.refl _ w).drew.alloc _;have h2:=Oq (λ k=>k=w.heap.size) w1 ⟨w.heap.size,cs.size,none⟩ 1 rfl;exact (h1.trans h2 (λ _ _ h=>h)).below (Nat.le_refl _) (λ k hk he=>by omega)
 ·have hl:s.size=((s.data.map λ b=>Value.int .u8 b.toNat)).toList.length:=by rw [Ano,Array.size_map];rfl
  simp only [cs,Anz];rw [hl,Ant];simp [bl,Af]
theorem Acn(l:List UInt8):(l.map λ c=>((c.toNat:Nat):Int)).foldl (λ r n=>r.push (UInt8.ofNat n.toNat)) ByteArray.empty=CA l:=by
 rw [foldl_push_bytes];apply MW;rw [Dq];show (ByteArray.empty.data++_).toList=l;have h0:ByteArray.empty.data.toList=[]:=rfl;rw [Anz,h0,List.nil_append,List.map_map,List.toList_toArray];have:((λ n:Int=>UInt8.ofNat n.toNat) ∘ λ c:UInt8=>((c.toNat:Nat):Int))=id:=by
  funext c;simp
 rw [this,List.map_id]
theorem CI{P:Program}{st bt:TypeId}(hT:Kk P st bt=true){w:World}{a:Option Addr}{l:List UInt8}{n c:Nat}(hn:n=l.length)(hr:Rd w a (l.map Af)){f:Value->World->Prop}
  (hf:f (.string (CA l)) w):CD P (convert bt st (.slice a n c)) f w:=by
 obtain⟨hs,e,hb,he⟩:=Tl hT;unfold CD;rw [run_convert_bytes_string w bt st e a n c hb he hs];cases a with
 | none =>
  have hl:l=[]:=by
   cases l with
   | nil=>rfl
   | cons x r =>
    obtain⟨p,hp,_⟩:=hr 0 (Af x) (by simp);cases hp
  subst hl;have:CA []=ByteArray.empty:=rfl;rw [this] at hf;simpa [Conv.bytesToString] using hf
 | some p =>
  have xw:(loadCells p n).run P w=.ok ((l.map λ c=>((c.toNat:Nat):Int)).map (Value.int .u8)).toArray w:=by
   have:=run_loadCells_list (P:=P) w p (l.map Af) (λ j v hv=>by
    obtain⟨q,hq,hc⟩:=hr j v hv;cases hq;exact hc)
   rw [List.length_map,<- hn] at this;rw [this];congr 1;simp [Af,Function.comp_def]
  rw [run_bytesToString w p n c _ xw,Acn];exact hf
theorem QK{P:Program}{t ty e:TypeId}{sz bytes:Nat}{z:Value}(hT:Ia P t=some (e,sz,bytes,z))(av:0<sz)
  {w:World} {a:Option Addr} {n c:Nat} {xs:List Value} (hr:Row w e sz a n c xs) {b:Option Addr} {m mc:Nat} {news:List Value} (hs:Rd w b news) (hl:news.length=m*sz)
  (h1:∀ u∈news,u.oneCell'=true) (bZ:n+m<=c) :
  ∃ w',(Builtin.append_ #[t,t] ty #[.slice a n c,.slice b m mc]).run P w=.ok (.slice a (n+m) c) w'/\Row w' e sz a (n+m) c (xs++news)/\Ae (λ k=>AG a=some k) w w':=by
 obtain⟨hu,i,hi,hiz,rfl,rfl⟩:=JA hT;have hlen:(xs++news).length=(n+m)*i.size:=by rw [Anp,hr.1,hl,Ann]
 have eA:m=0->news=[]:=λ hm=>Anq (by rw [hl,hm];simp);rcases hr.2 with ⟨rfl,rfl,rfl⟩ | ⟨g,cur,rfl,hg,hnc,db,bG,htake⟩
 ·have hm:m=0:=by omega
  have hn:=eA hm;subst hm hn;refine⟨w,?_,by simpa using hr,.refl _ _⟩;cases b <;> simp [Builtin.append_,run_underlying hu,sizeOf,typeInfo,hi,Builtin.lenOf,Builtin.firstCells,loadCells,loadCellsFrom]
 ·by_cases hm:m=0
  ·have hn:=eA hm;subst hm hn;refine⟨w,?_,by simpa using hr,.refl _ _⟩;cases b <;> simp [Builtin.append_,run_underlying hu,sizeOf,typeInfo,hi,Builtin.lenOf,Builtin.firstCells,loadCells,loadCellsFrom,hnc,storeCells]
  ·have h0:0<news.length:=by rw [hl];exact Nat.mul_pos (by omega) av
   obtain⟨p,rfl,_⟩:=hs 0 news[0] (AnB h0);have hp:∀ j u,news[j]?=some u->w.cell? (p.add j)=some u:=by
    intro j u hu;obtain⟨q,hq,hc⟩:=hs j u hu;cases hq;exact hc
   have br:n*i.size+news.length<=cur.size:=by rw [hl,bG,<- Ann];exact Anv _ bZ
   have aD:=run_append_room (P:=P) w t ty e i hu hi g n c cur hg p m mc news hl hp h1 bZ br;have dM:(List.take (n*i.size) cur.toList)=xs:=htake;refine⟨_,aD,⟨hlen,.inr ⟨g,_,rfl,FP hg,bZ,db,?_,?_⟩⟩,(D3 w g _).mono (λ k _ h=>by subst h;rfl)⟩
   ·simp only [Ans,Anp,Anw,AnC,Ano];omega
   ·rw [dM];rw [<- hlen];exact Ant
theorem Row.front{w:World}{e:TypeId}{sz:Nat}{a:Option Addr}{n c:Nat}{xs:List Value}(h:Row w e sz a n c xs){i:Nat}(hi:i<=n):Row w e sz a i c (xs.take (i*sz)):=by
 have hle:i*sz<=n*sz:=Anv _ hi;refine⟨by rw [Anw,h.1];omega,?_⟩;rcases h.2 with ⟨rfl,rfl,rfl⟩ | ⟨g,cur,rfl,hg,hnc,db,bG,rfl⟩
 ·exact .inl ⟨rfl,by omega,rfl⟩
 ·refine .inr ⟨g,cur,rfl,hg,by omega,db,bG,?_⟩;rw [List.take_take,Nat.min_eq_left hle]
theorem Pb{P:Program}{w:World}{e:TypeId}{g:Nat}{cur:Array Value}(hg:w.heap[g]?=some (.cells cur e (0,0)))(o:Nat)(vs:List Value)(h1:∀ v∈vs,v.oneCell'=true)(br:o+vs.length<=cur.size) :
  ∃ w' fu,(storeCells ⟨g,o,none⟩ vs 0).run P w=.ok () w'/\w'.heap[g]?=some (.cells fu e (0,0))/\fu.size=cur.size/\fu.toList.take o=cur.toList.take o/\Ae (·=g) w w':=by
 have aA:=run_storeCells_at P g o e vs 0 cur w hg (by simpa using br) h1;simp only [Nat.add_zero] at aA;refine⟨_,_,aA,FP hg,?_,?_,D3 w g _⟩
 ·simp only [Ans,Anp,Anw,AnC,Ano];omega
 ·simp only [AnA];rw [List.take_append_of_le_length (by simp;omega),List.take_take,Nat.min_self]
theorem W4{P:Program}{t e:TypeId}{sz bytes:Nat}{z:Value}(hT:Ia P t=some (e,sz,bytes,z))(hz:z.cells.size=sz)(yh:∀ v∈z.cells.toList,v.oneCell'=true)
  {w:World} {a:Option Addr} {n c:Nat} {xs:List Value} (hr:Row w e sz a n c xs) {h:Nat} (zu:n<=h) (zn:h<=c) :
  ∃ w',(Builtin.clear_ #[t] 0 #[.slice (Cc a n c sz) (h-n) (c-n)]).run P w=.ok (.tuple #[]) w'/\Row w' e sz a n c xs/\Ae (λ k=>AG a=some k) w w':=by
 obtain⟨hu,i,hi,hiz,rfl,rfl⟩:=JA hT;by_cases h0:h-n=0
 ·refine⟨w,?_,hr,.refl _ _⟩;rw [h0];generalize Cc a n c i.size=q;cases q <;> simp [Builtin.clear_,run_underlying hu]
 ·rcases hr.2 with ⟨rfl,rfl,rfl⟩ | ⟨g,cur,rfl,hg,hnc,db,bG,htake⟩
  ·omega
  ·have aQ:¬ c=n:=by omega
   have hs:Cc (some ⟨g,0,none⟩) n c i.size=some ⟨g,n*i.size,none⟩:=by
    unfold Cc;rw [if_neg aQ];simp only [Option.map_some,Am,Anu]
   have gP:∀ v∈(Builtin.zeroCells z.cells (h-n)).toList,v.oneCell'=true:=by
    intro v hv;simp only [Builtin.zeroCells,Array.toList_map,List.mem_map] at hv;obtain⟨j,hj,rfl⟩:=hv;have fA:0<z.cells.size:=by
     simp at hj;rcases Nat.eq_zero_or_pos z.cells.size with h' | h'
     ·simp [h'] at hj
     ·exact h'
    have aB:j % z.cells.size<z.cells.size:=Nat.mod_lt _ fA;apply yh;rw [getElem!_pos z.cells _ aB];exact Array.mem_toList_iff.2 (Array.getElem_mem aB)
   have hmul:n*i.size+(h-n)*i.size<=c*i.size:=by
    rw [<- Ann];exact Anv _ (by omega)
   obtain⟨w',fu,aA,aV,hsz',fD,hk⟩:=Pb (P:=P) hg (n*i.size) (Builtin.zeroCells z.cells (h-n)).toList gP (by
    rw [Ano,size_zeroCells,hz,bG];exact hmul)
   refine⟨w',?_,⟨hr.1,.inr ⟨g,fu,rfl,aV,hnc,db,by rw [hsz',bG],by rw [fD];exact htake⟩⟩,hk.mono (λ k _ h=>by subst h;rfl)⟩;rw [hs];obtain⟨m,hm⟩:∃ m,h-n=m+1:=⟨h-n-1,by omega⟩;rw [hm] at aA ⊢;simp [Builtin.clear_,run_underlying hu,zeroValue,typeInfo,hi,hiz,aA]
theorem Row.set{w:World}{e:TypeId}{sz:Nat}{g:Nat}{n c:Nat}{xs:List Value}(h:Row w e sz (some ⟨g,0,none⟩) n c xs)(j:Nat)(_hj:j<n*sz)(v:Value) :
  Row (w.setCell ⟨g,j,none⟩ v) e sz (some ⟨g,0,none⟩) n c (xs.set j v):=by
 refine⟨by rw [List.length_set];exact h.1,?_⟩;rcases h.2 with ⟨h0,_⟩ | ⟨g',cur,aV,hg,hnc,db,bG,rfl⟩
 ·cases h0
 ·cases aV;refine .inr ⟨g,_,rfl,Dw hg v,hnc,db,by simpa using bG,?_⟩;rw [Array.toList_setIfInBounds,List.take_set]
theorem Row.Cr{w:World}{e:TypeId}{sz:Nat}{g:Nat}{n c:Nat}{xs:List Value}(h:Row w e sz (some ⟨g,0,none⟩) n c xs){j:Nat}(hj:j<n*sz){v:Value}{k:World->Prop}
  (hk:∀ w',Row w' e sz (some ⟨g,0,none⟩) n c (xs.set j v)->Ae (·=g) w w'->k w'):Cd ⟨g,j,none⟩ v k w:=by
 have hx:j<xs.length:=by rw [h.1];exact hj
 obtain⟨p,hp,hc⟩:=h.rd j xs[j] (AnB hx);cases hp;rw [Am,Anu] at hc;refine⟨by rw [hc];rfl,?_,hk _ (h.set j hj v) (DE w g j v)⟩;rcases h.2 with ⟨h0,_⟩ | ⟨g',cur,aV,hg,_⟩
 ·cases h0
 ·cases aV;simp [World.frozen?,hg]
end Go.Dn
namespace Go.Dn
open Go.RowKit (Below)
theorem SH.below{w0 w:World}{H:List Yy}(S:SH (λ _=>False) w0 w H):Below w0.heap.size w0 w:=S.keeps.below (Nat.le_refl _) (by simp)
end Go.Dn
namespace Go.Dn
open _root_.List renaming append_assoc -> AnA, set_set -> AnE
open _root_.Nat renaming le_refl -> AnD
open Go.RowKit (Below)
section
variable {F:Nat->Prop}{w0 w:World}{H:List Yy}
theorem SH.Aj(S:SH F w0 w H){cs:Array Value}{t:TypeId}{k:Nat->World->Prop}(hk:∀ b w',w.heap.size<=b->Below w.heap.size w w'->SH F w0 w' ((b,cs,t) :: H)->k b w'):C0 cs t k w :=
 hk _ _ (AnD _) ((Below.refl _ w).alloc (AnD _) _) (S.alloc cs t)
theorem SH.MC(S:SH F w0 w H){k:World->Prop}(hk:∀ w',Below w.heap.size w w'->SH F w0 w' H->k w'):WM k w:=hk _ ((Below.refl _ w).drew) S.drew
theorem SH.AaO(S:SH F w0 w H)(n:Nat){b:Nat}{cs:Array Value}{t:TypeId}(hn:H[n]?=some (b,cs,t)){i:Nat}{v:Value}{k:World->Prop}(hi:i<cs.size)
  (hk:∀ w',Ae (·=b) w w'->SH F w0 w' (H.set n (b,cs.setIfInBounds i v,t))->k w'):Cd ⟨b,i,none⟩ v k w:=by
 refine⟨?_,S.free n hn i,hk _ (DE w b i v) (S.setAt n hn (DE w b i v) (Dw (S.get n hn) v))⟩;rw [S.cell n hn (Array.getElem?_eq_getElem hi)];rfl
theorem SH.Aj0(S:SH F w0 w H)(n:Nat){b:Nat}{x0 x1 x2 v0 v1 v2:Value}{t:TypeId}(hn:H[n]?=some (b,#[x0,x1,x2],t)){k:World->Prop}
  (hk:∀ w',Ae (·=b) w w'->SH F w0 w' (H.set n (b,#[v0,v1,v2],t))->k w'):Cd ⟨b,0,none⟩ v0 (λ w=>Cd ⟨b,1,none⟩ v1 (λ w=>Cd ⟨b,2,none⟩ v2 k w) w) w:=by
 have aB:=(List.getElem?_eq_some_iff.1 hn).1;refine S.AaO n hn (by simp) λ w1 K1 S1=>S1.AaO n (List.getElem?_set_self aB) (by simp) λ w2 K2 S2=>S2.AaO n (cs:=#[v0,v1,x2]) (t:=t) ?_ (by simp) λ w3 K3 S3=>hk w3 ((K1.trans K2 (λ _ _ h=>h)).trans K3 (λ _ _ h=>h)) ?_
 ·rw [AnE,List.getElem?_set_self aB];rfl
 ·have e:((H.set n (b,#[x0,x1,x2].setIfInBounds 0 v0,t)).set n (b,(#[x0,x1,x2].setIfInBounds 0 v0).setIfInBounds 1 v1,t)).set n (b,#[v0,v1,x2].setIfInBounds 2 v2,t)=H.set n (b,#[v0,v1,v2],t):=by
   rw [AnE,AnE];rfl
  rw [<- e];exact S3
theorem SH.ne(S:SH F w0 w H)(i j:Nat){x y:Yy}(hi:H[i]?=some x)(hj:H[j]?=some y)(aQ:i≠j):x.1≠y.1 :=
 Aac S.nodup (by simp [hi]) (by simp [hj]) aQ
end
theorem E2(z:Array Value)(n:Nat):(madeCells z n).size=n:=by simp [madeCells]
theorem El(z:Value)(h:z.cells=#[z])(n:Nat):(madeCells z.cells n).toList=List.replicate n z:=by
 rw [h];apply List.ext_getElem
 ·simp [madeCells]
 ·intro i h1 h2;simp [madeCells,Nat.mod_one]
theorem FW{P:Program}{t e:TypeId}{sz bytes:Nat}{z:Value}(hT:Ia P t=some (e,sz,bytes,z)){w:World}{l c:Int}(h0:0<=l)(l7:l<=c)(hb:(bytes:Int)*c<=281474976710656)(hc:c<=9223372036854775807)
  {f:Value->World->Prop} {kl kc:IntKind} (hf:∀ b w',w.heap.size<=b->Below w.heap.size w w'->w'.heap[b]?=some (.cells (madeCells z.cells (c.toNat*sz)) e (0,0))->f (.slice (some ⟨b,0,none⟩) l.toNat c.toNat) w') :
  CD P (Instr.makeSlice t (.int kl l) (.int kc c)) f w:=by
 obtain⟨hu,i,hi,hiz,rfl,rfl⟩:=JA hT;unfold CD;rw [run_make w t e i z hu hi hiz kl kc l c h0 l7 hb hc];exact hf _ _ (AnD _) ((Below.refl _ w).alloc (AnD _) _) (heap_alloc_new w _)
theorem Wg{P:Program}{t e:TypeId}{sz bytes:Nat}{z:Value}(hT:Ia P t=some (e,sz,bytes,z)){w:World}{c:Nat}(hb:bytes*c<=281474976710656)(hc:c<=9223372036854775807)
  {f:Value->World->Prop} {kl kc:IntKind} (hf:∀ b w',w.heap.size<=b->Below w.heap.size w w'->Row w' e sz (some ⟨b,0,none⟩) 0 c []->f (.slice (some ⟨b,0,none⟩) 0 c) w') :
  CD P (Instr.makeSlice t (.int kl 0) (.int kc (c:Int))) f w:=by
 refine FW hT (l:=0) (c:=(c:Int)) (by omega) (by omega) ?_ (by omega) λ b w' h1 h2 h3=>?_
 ·rw [<- Int.natCast_mul];omega
 ·rw [Int.toNat_natCast] at h3 ⊢;exact hf b w' h1 h2 ⟨by simp,.inr ⟨b,_,rfl,h3,by omega,hc,by rw [E2],by simp⟩⟩
theorem Fb{w:World}{b:Nat}{cs:Array Value}{t:TypeId}(hb:w.heap[b]?=some (.cells cs t (0,0))){i:Nat}{v:Value}{k:World->Prop}(hi:i<cs.size)
  (hk:∀ w',Ae (·=b) w w'->w'.heap[b]?=some (.cells (cs.setIfInBounds i v) t (0,0))->k w'):Cd ⟨b,i,none⟩ v k w:=by
 refine⟨?_,?_,hk _ (DE w b i v) (Dw hb v)⟩
 ·simp [World.cell?,hb,hi]
 ·simp [World.frozen?,hb]
section
variable {F:Nat->Prop}{w0 w:World}{H:List Yy}
theorem SH.KQ(S:SH F w0 w H){z0 z1 z2 v0 v1 v2:Value}{t:TypeId}{k:Nat->World->Prop}(hk:∀ b w',w.heap.size<=b->Below w.heap.size w w'->SH F w0 w' ((b,#[v0,v1,v2],t) :: H)->k b w') :
  C0 #[z0,z1,z2] t (λ b w=>Cd ⟨b,0,none⟩ v0 (λ w=>Cd ⟨b,1,none⟩ v1 (λ w=>Cd ⟨b,2,none⟩ v2 (λ w=>k b w) w) w) w) w:=by
 refine S.Aj λ b w1 hb B1 S1=>S1.Aj0 0 rfl λ w2 K2 S2=>hk b w2 hb (B1.trans (K2.below B1.size λ k hk he=>by omega)) S2
end
theorem Jc{P:Program}{w:World}(s:ByteArray):(Builtin.firstCells 1 s.size (.string s)).run P w=.ok ((bl s).map Af).toArray w:=by
 simp only [Builtin.firstCells,Sem.run_pure];congr 1;apply Array.ext';have:s.extract 0 s.size=s:=by rw [extract_eq];apply MW;rw [Dq,List.drop_zero,Nat.sub_zero,List.take_of_length_le (by rw [CG];omega)]
 rw [this];simp [bl,Af]
theorem U1{P:Program}{t u ty e:TypeId}{bytes:Nat}{z:Value}(hT:Ia P t=some (e,1,bytes,z))(dz:P.underlying u=some .string)(hz:z.cells.size=1)(dB:0<bytes)
  {w:World} {a:Option Addr} {n c:Nat} {xs:List Value} (hr:Row w e 1 a n c xs) (s:ByteArray) (dD:(n+s.size)*bytes<=140737488355328) :
  ∃ a' c' w',(Builtin.append_ #[t,u] ty #[.slice a n c,.string s]).run P w=.ok (.slice a' (n+s.size) c') w'/\Row w' e 1 a' (n+s.size) c' (xs++(bl s).map Af) /\
   Ae (λ k=>AG a=some k) w w'/\(∀ k,AG a'=some k->AG a=some k\/w.heap.size<=k):=by
 obtain⟨hu,i,hi,hiz,fy,rfl⟩:=JA hT;have ir:n+s.size<=140737488355328:=Nat.le_trans (Nat.le_mul_of_pos_right _ dB) dD;have hl:((bl s).map Af).length=s.size:=by rw [List.length_map,CG]
 have hlen:(xs++(bl s).map Af).length=(n+s.size)*1:=by rw [List.length_append,hr.1,hl];omega
 have h1:∀ u∈(bl s).map Af,u.oneCell'=true:=by
  intro u hu;obtain⟨c,_,rfl⟩:=List.mem_map.1 hu;exact VN c
 have grown:∀(old:Nat),old<n+s.size->Row (w.drew.alloc (.cells (xs.toArray++((bl s).map Af).toArray++Builtin.zeroCells z.cells (grownCap w (n+s.size) old e-(n+s.size))) e)) e 1
   (some ⟨w.heap.size,0,none⟩) (n+s.size) (grownCap w (n+s.size) old e) (xs++(bl s).map Af):=by
  intro old ho;have aL:=grownCap_ge w (n+s.size) old e;have db:grownCap w (n+s.size) old e<=maxLen:=grownCap_le_maxLen w (n+s.size) old e (by unfold maxLen;omega);refine⟨hlen,.inr ⟨w.heap.size,_,rfl,heap_alloc_new w.drew _,aL,by unfold maxLen at db;omega,?_,?_⟩⟩
  ·simp only [Array.size_append,List.size_toArray,size_zeroCells,hz,hr.1,hl];omega
  ·simp only [Array.toList_append,AnA];rw [<- AnA,<- hlen];exact List.take_left
 have cd:∀(cs:Array Value) (row:Nat->Prop),Ae row w (w.drew.alloc (.cells cs e)):=λ cs row=>(Ae.refl row w).drew.alloc _;have grow:∀(old:Nat) (kX:Value),(∀ w',w'.heap=w.heap->(Builtin.firstCells 1 n kX).run P w'=.ok xs.toArray w')->old<n+s.size->(∃ b0,kX=.slice b0 n old) ->
   (Builtin.append_ #[t,u] ty #[kX,.string s]).run P w=.ok (.slice (some ⟨w.heap.size,0,none⟩) (n+s.size) (grownCap w (n+s.size) old e))
    (w.drew.alloc (.cells (xs.toArray++((bl s).map Af).toArray++Builtin.zeroCells z.cells (grownCap w (n+s.size) old e-(n+s.size))) e)):=by
  rintro old _ hf ho ⟨b0,rfl⟩;have hn:¬ (n+s.size<=old):=by omega
  have pr:¬ (9223372036854775807<((n:Int)+(s.size:Int))):=by omega
  have pq:¬ (281474976710656<Builtin.nextslicecap (n+s.size) old*i.bytes):=by have:=growslice_fits (old:=old) (need:=n+s.size) ho dD;omega
  have xg:=hf w.drew rfl;simp [Builtin.append_,run_underlying hu,run_underlying dz,sizeOf,typeInfo,zeroValue,hi,hiz,fy,Builtin.lenOf,hn,pr,pq,Question.forced,xg,Jc,newRow,grownCap];congr 2;apply Array.ext';simp [AnA]
 rcases hr.2 with ⟨rfl,rfl,rfl⟩ | ⟨g,cur,rfl,hg,hnc,db,bG,htake⟩
 ·have hx:xs=[]:=List.eq_nil_of_length_eq_zero (by simpa using hr.1);subst hx;by_cases hm:s.size=0
  ·have hn:(bl s).map Af=[]:=List.eq_nil_of_length_eq_zero (by rw [hl,hm]);refine⟨none,0,w,?_,by rw [hm,hn];exact Row.nil w e 1,.refl _ _,by simp [AG]⟩;have:=Jc (P:=P) (w:=w) s;rw [hm] at this;simp [Builtin.append_,run_underlying hu,run_underlying dz,sizeOf,typeInfo,hi,fy,Builtin.lenOf,hm,this]
  ·exact⟨_,_,_,grow 0 (.slice none 0 0) (λ w' _=>by simp [Builtin.firstCells]) (by omega) ⟨_,rfl⟩,grown 0 (by omega),cd _ _,λ k hk=>.inr (by simp [AG] at hk;omega)⟩
 ·by_cases bZ:n+s.size<=c
  ·have br:n+((bl s).map Af).length<=cur.size:=by rw [hl,bG];omega
   have aA:=run_storeCells_at P g n e ((bl s).map Af) 0 cur w hg (by simpa using br) h1;simp only [Nat.add_zero] at aA;refine⟨some ⟨g,0,none⟩,c,_,?_,⟨hlen,.inr ⟨g,_,rfl,FP hg,bZ,db,?_,?_⟩⟩,(D3 w g (cur.toList.take n++(bl s).map Af++cur.toList.drop (n+((bl s).map Af).length)).toArray).mono (λ k _ h=>by subst h;rfl),λ k hk=>.inl hk⟩
   ·simp [Builtin.append_,run_underlying hu,run_underlying dz,sizeOf,typeInfo,hi,fy,Builtin.lenOf,bZ,Jc,Addr.add_lit];rw [aA];simp
   ·simp only [List.size_toArray,List.length_append,List.length_take,List.length_drop,Array.length_toList];omega
   ·have dM:cur.toList.take n=xs:=by rw [<- htake];simp
    rw [dM,<- hlen];exact List.take_left
  ·have hold:∀ w',w'.heap=w.heap->(Builtin.firstCells 1 n (.slice (some ⟨g,0,none⟩) n c)).run P w'=.ok xs.toArray w':=by
    intro w' kT;refine run_firstCells_some (P:=P) w' 1 n ⟨g,0,none⟩ n c xs hr.1 λ j v hv=>?_;obtain⟨q,hq,hc⟩:=hr.rd j v hv;cases hq;have:w'.cell? ((⟨g,0,none⟩:Addr).add j)=w.cell? ((⟨g,0,none⟩:Addr).add j):=by unfold World.cell?;rw [kT]
    rw [this];exact hc
   exact⟨_,_,_,grow c _ hold (by omega) ⟨_,rfl⟩,grown c (by omega),cd _ _,λ k hk=>.inr (by simp [AG] at hk;omega)⟩
theorem NW{P:Program}{t u ty e:TypeId}{sz bytes:Nat}{z:Value}(hT:Ia P t=some (e,sz,bytes,z))(dz:P.underlying u=some (.int .i64))(hz:z.cells.size=sz)(av:0<sz)(dB:0<bytes)
  {w:World} {m:Nat} (hm:0<m) (dD:m*bytes<=140737488355328) :
  ∃ c' w',(Builtin.append_ #[t,u] ty #[.slice none 0 0,.int .i64 (m:Int)]).run P w=.ok (.slice (some ⟨w.heap.size,0,none⟩) m c') w'/\Row w' e sz (some ⟨w.heap.size,0,none⟩) 0 c' []/\m<=c'/\Below w.heap.size w w':=by
 obtain⟨hu,i,hi,hiz,rfl,rfl⟩:=JA hT;have ir:m<=140737488355328:=Nat.le_trans (Nat.le_mul_of_pos_right _ dB) dD;have aL:=grownCap_ge w m 0 e;have db:grownCap w m 0 e<=maxLen:=grownCap_le_maxLen w m 0 e (by unfold maxLen;omega);have hw:IntKind.i64.wrap (m:Int)=m:=by rw [IntKind.wrap_i64];omega
 have h1:¬ ((m:Int)<0):=by omega
 have h2:¬ (281474976710656<(m:Int)*(i.bytes:Int)):=by rw [<- Int.natCast_mul];omega
 have h3:¬ (m*i.size=0):=by have:=Nat.mul_pos hm av;omega
 have h4:¬ (m<=0):=by omega
 have h5:¬ (9223372036854775807<(m:Int)):=by omega
 have h6:¬ (281474976710656<Builtin.nextslicecap m 0*i.bytes):=by rw [nextslicecap_zero hm];omega
 have h7:¬ (m=0):=by omega
 have h8:¬ (i.size=0):=by omega
 refine⟨grownCap w m 0 e,w.drew.alloc (.cells (Builtin.zeroCells z.cells m++Builtin.zeroCells z.cells (grownCap w m 0 e-m)) e),?_,?_,aL,((Below.refl _ w).drew).alloc (AnD _) _⟩
 ·simp [Builtin.append_,run_underlying hu,run_underlying dz,sizeOf,typeInfo,zeroValue,hi,hiz,asInt,asIntOf,hw,h1,h2,h5,h6,h7,Question.forced,Builtin.firstCells,newRow,grownCap];intro h;exact absurd h h3
 ·refine⟨by simp,.inr ⟨w.heap.size,_,rfl,heap_alloc_new w.drew _,by omega,by unfold maxLen at db;omega,?_,by simp⟩⟩;rw [Array.size_append,size_zeroCells,size_zeroCells,hz,<- Nat.add_mul];congr 1;omega
end Go.Dn
namespace Go.Proofs.YtoepjfblppfabaaGreatDoor
open _root_.BitVec renaming ofInt -> Am6, ofInt_natCast -> AnK, toNat_ofNat -> AnL
open _root_.Int renaming toNat_natCast -> AnF
open _root_.List renaming length_append -> Anp
open _root_.Nat renaming le_trans -> AnJ, mod_eq_of_lt -> AnH, mul_comm -> AnN, mul_le_mul_right -> Anv, mul_one -> AnI, pow_succ -> AnM
open _root_.UInt8 renaming ofNat -> AnG
set_option maxRecDepth 100000
open Go.Dn Go.Proofs
open Go.RowKit (Below)
set_option linter.unusedVariables false
theorem NF:Kk Tryz.prog ty.string ty.AA=true:=by kernel_rfl
theorem tB:Ia Tryz.prog ty.AA=some (ty.uint8,1,1,.int .u8 0):=by kernel_rfl
theorem zB:(Value.int .u8 0).cells.size=1:=rfl
theorem Ik(l:List UInt8):∀ u∈l.map Af,u.oneCell'=true:=by
 intro u hu;obtain⟨c,_,rfl⟩:=List.mem_map.1 hu;exact VN c
structure Dh(w w':World)(l:List UInt8)(a:Option Addr)(c:Nat):Prop where
 row:Row w' ty.uint8 1 a l.length c (l.map Af)
 new:∀ k,AG a=some k->w.heap.size<=k
 An:Below w.heap.size w w'
theorem Ac{a b c:World}(h:Below a.heap.size a b)(h':Below b.heap.size b c):Below a.heap.size a c:=h.trans (h'.mono h.size)
theorem Dh.rd{w w':World}{l:List UInt8}{a:Option Addr}{c:Nat}(h:Dh w w' l a c):Rd w' a (l.map Af):=h.row.rd
theorem Dh.grown{w w' w2:World}{l:List UInt8}{a:Option Addr}{c:Nat}(h:Dh w w' l a c)(hb:Below w'.heap.size w' w2):Dh w w2 l a c:=⟨h.row.grown hb,h.new,Ac h.An hb⟩
theorem Dh.before{w0 w w':World}{l:List UInt8}{a:Option Addr}{c:Nat}(hb:Below w0.heap.size w0 w)(h:Dh w w' l a c):Dh w0 w' l a c:=⟨h.row,λ k hk=>AnJ hb.size (h.new k hk),Ac hb h.An⟩
theorem Kg{w:World}{a:Option Addr}{c:Nat}{l:List UInt8}(hr:Row w ty.uint8 1 a l.length c (l.map Af))(hl:l.length+1<=140737488355328){x:UInt8}{v:Value}(hv:v=Af x){b:Nat}{t:TypeId}
  (hb:w.heap[b]?=some (.cells #[v] t (0,0))) {f:Value->World->Prop}
  (hf:∀ a' c' w',Row w' ty.uint8 1 a' (l++[x]).length c' ((l++[x]).map Af)->Ae (λ k=>AG a=some k) w w'->(∀ k,AG a'=some k->AG a=some k\/w.heap.size<=k)->f (.slice a' (l++[x]).length c') w') :
  CD Tryz.prog (Builtin.append_ #[ty.AA,ty.AA] ty.AA #[.slice a l.length c,.slice (some ⟨b,0,none⟩) 1 1]) f w:=by
 subst hv;have aZ:Rd w (some ⟨b,0,none⟩) ([x].map Af):=by
  have:=Rd.Ak hb;simpa using this
 obtain⟨a',c',w',aD,aG,hk,bA⟩:=Bq (ty:=ty.AA) (mc:=1) tB zB (by omega) (by omega) hr aZ (m:=1) rfl (Ik _) (by omega);unfold CD;rw [aD];have hlen:(l++[x]).length=l.length+1:=by simp
 rw [<- List.map_append,<- hlen] at aG;rw [<- hlen];exact hf a' c' w' aG hk bA
theorem ES{w:World}{a:Option Addr}{c:Nat}{l:List UInt8}(hr:Row w ty.uint8 1 a l.length c (l.map Af)){m:List UInt8}{b:Option Addr}{mc:Nat}(hb:Rd w b (m.map Af))(hl:l.length+m.length<=140737488355328){f:Value->World->Prop}
  (hf:∀ a' c' w',Row w' ty.uint8 1 a' (l++m).length c' ((l++m).map Af)->Ae (λ k=>AG a=some k) w w'->(∀ k,AG a'=some k->AG a=some k\/w.heap.size<=k)->f (.slice a' (l++m).length c') w') :
  CD Tryz.prog (Builtin.append_ #[ty.AA,ty.AA] ty.AA #[.slice a l.length c,.slice b m.length mc]) f w:=by
 obtain⟨a',c',w',aD,aG,hk,bA⟩:=Bq (ty:=ty.AA) (mc:=mc) tB zB (by omega) (by omega) hr hb (m:=m.length) (by simp) (Ik _) (by omega);unfold CD;rw [aD];have hlen:(l++m).length=l.length+m.length:=by simp
 rw [<- List.map_append,<- hlen] at aG;rw [<- hlen];exact hf a' c' w' aG hk bA
/-! ### digits -/
def Ag(n:Nat):List UInt8:=if h:n<128 then [AnG n] else AnG (n % 128+128) :: Ag (n / 128)
termination_by n
decreasing_by omega
theorem QQ(n:Nat):Ag n≠[]:=by unfold Ag;split <;> simp
theorem QP:∀(k n:Nat),n<128 ^ (k+1)->(Ag n).length<=k+1
 | 0,n,h=>by unfold Ag;rw [dif_pos (by simpa using h)];simp
 | k+1,n,h=>by
  unfold Ag;split
  ·simp
  ·have:=QP k (n / 128) (by rw [AnM] at h;exact Nat.div_lt_of_lt_mul (by rw [AnN];exact h));simp only [List.length_cons];omega
theorem Aq{n:Nat}(h:n<18446744073709551616):(Ag n).length<=10:=QP 9 n (Nat.lt_trans h (by decide))
theorem Ake{n:Nat}(h:n<18446744073709551616):(Am6 64 (n:Int) &&& Am6 64 127).toNat=n % 128:=by
 rw [BitVec.toNat_and,AnK,AnL,AnH (by omega)];have:=Nat.and_two_pow_sub_one_eq_mod n 7;exact this
theorem AmW{n:Nat}(h:n<18446744073709551616):IntKind.u8.wrap (IntKind.u64.wrap (((Am6 64 (n:Int) &&& Am6 64 127).toNat:Int)))=((n % 128:Nat):Int):=by
 rw [Ake h,Ar (by omega) (by omega),Bh (by omega) (by omega)]
theorem Amh{x:Nat}(h:x<128):IntKind.u8.wrap (((Am6 8 (x:Int) ||| Am6 8 128).toNat:Int))=((x+128:Nat):Int):=by
 have e:(Am6 8 (x:Int) ||| Am6 8 128).toNat=x+128:=by
  rw [BitVec.toNat_or,AnK,AnL,AnH (by omega)];have:=Nat.two_pow_add_eq_or_of_lt (i:=7) (b:=x) (by omega) 1;rw [Nat.or_comm];have h2:(Am6 8 128).toNat=128:=by decide
  rw [h2];have h3:2 ^ 7*1 ||| x=2 ^ 7*1+x:=this.symm;have h4:(128:Nat) ||| x=128+x:=h3;rw [h4];omega
 rw [e,Bh (by omega) (by omega)]
theorem Am0(n:Nat):Int.fdiv (n:Int) (2 ^ (min 7 64))=((n / 128:Nat):Int):=by
 rw [Int.fdiv_eq_ediv_of_nonneg _ (by decide)]
 norm_cast
theorem DO{x:Nat}(h:x<256):Value.int .u8 (x:Int)=Af (AnG x):=by
 unfold Af;congr 1;simp;omega
theorem LM(w:World)(n:Nat)(hn:n<18446744073709551616):Calls Tryz.prog f.Aa8 #[.int .u64 (n:Int)] w (AB λ v w'=>∃ a c,v=.slice a (Ag n).length c/\Dh w w' (Ag n) a c):=by
 apply R.Pn
 delta R.B R.F R.J R.Ks R.N R.O R.Qus R.S R.U R.Wb R.Wu;try dsimp only [R.Ps]
 refine⟨λ s w1=>∃(m:Nat) (a:Option Addr) (c:Nat) (l:List UInt8),s=[.int .u64 (m:Int),.slice a l.length c]/\m<18446744073709551616/\l++Ag m=Ag n/\Dh w w1 l a c,
  λ s _=>match s with
   | [.int _ i,_]=>i.toNat
   | _=>0,⟨n,none,0,[],rfl,hn,rfl,Row.nil _ _ _,by simp [AG],.refl _ _⟩,?_⟩
 rintro _ a _ c w1 ⟨m,_,_,l,hs,hm,hl,h1⟩;cases hs;have hlen:l.length+1<=140737488355328:=by
  have:=Aq hn;rw [<- hl] at this;simp at this;omega
 rw [Am0,AmW hm];refine Az (λ h0=>?_) (λ h0=>?_)
 ·have fW:m<128:=by omega
  refine (SH.start (λ _=>False) w1).Aj λ b5 w2 ij B2 S2=>?_;refine Kg (h1.grown B2).row hlen (x:=AnG m) (by rw [AnH fW];exact DO (by omega)) (S2.get 0 rfl) λ a' c' w3 R3 K3 N3=>⟨_,_,_,rfl,?_⟩;have e:l++[AnG m]=Ag n:=by rw [<- hl];conv=>rhs;unfold Ag;rw [dif_pos fW]
  rw [e] at R3;rw [e];refine⟨a',c',rfl,R3,λ k hk=>?_,(h1.grown B2).An.trans (K3.below (h1.grown B2).An.size λ k hk he=>by have:=h1.new k he;omega)⟩;rcases N3 k hk with h | h
  ·exact h1.new k h
  ·exact AnJ (h1.grown B2).An.size h
 ·have fW:¬ m<128:=by omega
  rw [Amh (Nat.mod_lt _ (by omega))];refine (SH.start (λ _=>False) w1).Aj λ b5 w2 ij B2 S2=>?_;refine Kg (h1.grown B2).row hlen (x:=AnG (m % 128+128)) (DO (by omega)) (S2.get 0 rfl) λ a' c' w3 R3 K3 N3=>⟨_,_,_,rfl,?_⟩;refine⟨⟨m / 128,a',c',_,rfl,by omega,?_,R3,λ k hk=>?_,(h1.grown B2).An.trans (K3.below (h1.grown B2).An.size λ k hk he=>by have:=h1.new k he;omega)⟩,?_⟩
  ·rw [<- hl]
   conv=>rhs;rhs;unfold Ag;rw [dif_neg fW]
   simp
  ·rcases N3 k hk with h | h
   ·exact h1.new k h
   ·exact AnJ (h1.grown B2).An.size h
  ·simp only [AnF];omega
/-! ### Concat -/
abbrev Hx:=Option Addr × Nat × List UInt8
def BQ(p:Hx):Value:=.slice p.1 p.2.2.length p.2.1
def BJ(ps:List Hx):List UInt8:=ps.flatMap (·.2.2)
theorem Jd(ps:List Hx)(k:Nat)(hk:k<ps.length):BJ (ps.take (k+1))=BJ (ps.take k)++ps[k].2.2:=by
 unfold BJ;rw [List.take_succ_eq_append_getElem hk,List.flatMap_append];simp
theorem ZE(ps:List Hx)(k:Nat):(BJ (ps.take k)).length<=(BJ ps).length:=by
 have:BJ ps=BJ (ps.take k)++BJ (ps.drop k):=by
  unfold BJ;rw [<- List.flatMap_append,List.take_append_drop]
 rw [this,Anp];omega
theorem Sf(w:World)(n:Nat)(hn:n<=140737488355328):Calls Tryz.prog f.J2 #[.slice none 0 0,.int .i64 (n:Int)] w
  (AB λ v w'=>∃ a c,v=.slice a 0 c/\n<=c/\Row w' ty.uint8 1 a 0 c []/\(∀ k,AG a=some k->w.heap.size<=k)/\Below w.heap.size w w'):=by
 apply R.GD
 delta R.F R.I R.Rs R.S R.W R.Y;try dsimp only [R.Ps]
 have e0:IntKind.i64.wrap (((0:Nat):Int)-((0:Nat):Int))=0:=by rw [wrap_i64 (by omega) (by omega)];omega
 have e1:IntKind.i64.wrap ((n:Int)-0)=(n:Int):=by rw [wrap_i64 (by omega) (by omega)];omega
 refine Aa (λ h=>by omega) (λ _=>?_);rw [e0,e1];refine Aa (λ hp=>⟨⟨by omega,by omega,by omega⟩,?_⟩) (λ hp=>?_)
 ·obtain⟨c',w',aD,aG,hc,hb⟩:=NW (u:=ty.int) (ty:=ty.AA) tB (show Tryz.prog.underlying ty.int=some (.int .i64) by kernel_rfl) zB (by omega) (by omega) (w:=w) (m:=n) (by omega) (by omega);have hs:Cc none 0 0 1=none:=rfl;unfold CD;rw [hs];simp only [Nat.sub_zero,aD];refine⟨_,_,_,rfl,⟨by omega,by omega,by omega⟩,some ⟨w.heap.size,0,none⟩,c',?_,hc,aG,λ k hk=>by simp [AG] at hk;omega,hb⟩;have:Cc (some (⟨w.heap.size,0,none⟩:Addr)) 0 c' 1=some ⟨w.heap.size,0,none⟩:=by
   unfold Cc;split
   ·rfl
   ·simp [CS]
  rw [this]
 ·have:n=0:=by omega
  subst this;exact⟨none,0,rfl,Nat.le_refl _,Row.nil _ _ _,by simp [AG],.refl _ _⟩
theorem Bf{w:World}{a:Option Addr}{c:Nat}(ps:List Hx)(hp:Rd w a (ps.map BQ))(hb:∀ p∈ps,Rd w p.1 (p.2.2.map Af))(hn:ps.length<9223372036854775807)(hl:(BJ ps).length<=140737488355328) :
  Calls Tryz.prog f.IF #[.slice a ps.length c] w (AB λ v w'=>∃ a c,v=.slice a (BJ ps).length c/\Dh w w' (BJ ps) a c):=by
 apply R.FZ
 delta R.Ad R.Cs R.F R.I R.Ks R.Ls R.O R.U0 R.Hz R.S R.W R.X;try dsimp only [R.Ps]
 refine⟨λ s w1=>∃ k:Nat,s=[.int .i64 ((BJ (ps.take k)).length:Int),.int .i64 k]/\k<=ps.length/\w1=w,
  λ s _=>match s with
   | [_,.int _ i]=>ps.length-i.toNat
   | _=>0,⟨0,rfl,Nat.zero_le _,rfl⟩,?_⟩
 rintro _ _ w1 ⟨k,hs,hk,rfl⟩;cases hs;refine Aa (λ aB=>⟨⟨by omega,aB⟩,?_⟩) (λ aL=>?_)
 ·have aq:k<ps.length:=by omega
  obtain⟨p,rfl,hc⟩:=hp k (BQ ps[k]) (by simp [aq]);have h1:=ZE ps (k+1);rw [Jd ps k aq,Anp] at h1;refine⟨_,_,_,by rw [AnF,AnI];exact hc,?_⟩;have e:IntKind.i64.wrap (((BJ (ps.take k)).length:Int)+(ps[k].2.2.length:Int))=((BJ (ps.take (k+1))).length:Int):=by
   rw [Jd ps k aq,Anp,wrap_i64 (by omega) (by omega)];omega
  rw [e];refine Aa (λ h=>by omega) (λ _=>?_);rw [Ai (by omega)];refine⟨⟨k+1,rfl,by omega,rfl⟩,?_⟩;simp only [AnF];omega
 ·have mw:k=ps.length:=by omega
  subst mw;rw [List.take_length];refine (Sf w1 _ hl).mono ?_;rintro _ w2 ⟨_,rfl,a2,c2,rfl,cR,R2,N2,B2⟩;refine⟨_,_,_,rfl,?_⟩;refine⟨λ s w3=>∃(k:Nat) (a3:Option Addr) (c3:Nat),s=[.slice a3 (BJ (ps.take k)).length c3,.int .i64 k]/\k<=ps.length/\Dh w1 w3 (BJ (ps.take k)) a3 c3,
   λ s _=>match s with
    | [_,.int _ i]=>ps.length-i.toNat
    | _=>0,⟨0,a2,c2,rfl,Nat.zero_le _,R2,N2,B2⟩,?_⟩
  rintro a3 _ c3 _ w3 ⟨k,_,_,hs,hk,h3⟩;cases hs;refine Aa (λ aB=>⟨⟨by omega,aB⟩,?_⟩) (λ aL=>?_)
  ·have aq:k<ps.length:=by omega
   obtain⟨p,rfl,hc⟩:=(hp.grown h3.An) k (BQ ps[k]) (by simp [aq]);have h1:=ZE ps (k+1);rw [Jd ps k aq,Anp] at h1;refine⟨_,_,_,by rw [AnF,AnI];exact hc,?_⟩;refine ES h3.row ((hb _ (List.getElem_mem aq)).grown h3.An) (by omega) λ a' c' w4 R4 K4 N4=>⟨_,_,_,rfl,?_⟩;rw [<- Jd ps k aq] at R4 ⊢;rw [Ai (by omega)];refine⟨⟨k+1,a',c',rfl,by omega,R4,λ j hj=>?_,h3.An.trans (K4.below h3.An.size λ j hj he=>by have:=h3.new j he;omega)⟩,?_⟩
   ·rcases N4 j hj with h | h
    ·exact h3.new j h
    ·exact AnJ h3.An.size h
   ·simp only [AnF];omega
  ·have mw:k=ps.length:=by omega
   subst mw;rw [List.take_length] at h3 ⊢;exact⟨a3,c3,rfl,h3⟩
theorem TG(a b:Hx):BJ [a,b]=a.2.2++b.2.2:=by simp [BJ]
theorem VZ(a b c:Hx):BJ [a,b,c]=a.2.2++(b.2.2++c.2.2):=by simp [BJ]
theorem Bt{w:World}{a:Option Addr}{c:Nat}(l:List UInt8)(hl:Rd w a (l.map Af))(n:Nat)(hn:n<18446744073709551616)(hs:l.length+10<=140737488355328) :
  Calls Tryz.prog f.Rp #[.slice a l.length c,.int .u64 (n:Int)] w (AB λ v w'=>∃ a c,v=.slice a (l++Ag n).length c/\Dh w w' (l++Ag n) a c):=by
 apply R.Pk
 delta R.Cs R.J R.N R.S R.U;try dsimp only [R.Ps]
 refine (LM w n hn).mono ?_;rintro _ w1 ⟨_,rfl,a1,c1,rfl,h1⟩;refine⟨_,_,_,rfl,(SH.start (λ _=>False) w1).Aj λ b5 w2 ij B2 S2=>?_⟩;have hd:=Aq hn;have h2:=h1.grown B2;refine (Bf [(a,c,l),(a1,c1,Ag n)] (by have:=Rd.Ak (S2.get 0 rfl);simpa [BQ] using this) (by
  intro p hp;simp only [List.mem_cons,List.not_mem_nil,or_false] at hp;rcases hp with rfl | rfl
  ·exact hl.grown h2.An
  ·exact h2.rd) (by simp) (by rw [TG];simp;omega)).mono ?_
 rintro _ w3 ⟨_,rfl,a3,c3,rfl,h3⟩;rw [TG] at h3 ⊢;exact⟨_,_,_,rfl,a3,c3,rfl,h3.before h2.An⟩
def CQ(s:ByteArray):List UInt8:=Ag s.size++bl s
theorem JH{w:World}{a:Option Addr}{c:Nat}(l:List UInt8)(hl:Rd w a (l.map Af))(s:ByteArray)(hz:s.size<=1048576)(hs:l.length+10+s.size<=140737488355328) :
  Calls Tryz.prog f.Afy #[.slice a l.length c,.string s] w (AB λ v w'=>∃ a c,v=.tuple #[.slice a (l++CQ s).length c,.int .i64 0]/\Dh w w' (l++CQ s) a c):=by
 apply R.Sn
 delta R.Cs R.F R.H R.I R.J R.N R.O R.Rs R.S R.T R.U R.Wu;try dsimp only [R.Ps]
 refine Aa (λ h=>by omega) (λ _=>?_);rw [Ar (by omega) (by omega)];refine (LM w s.size (by omega)).mono ?_;rintro _ w1 ⟨_,rfl,a1,c1,rfl,h1⟩;have hd:=Aq (n:=s.size) (by omega);refine⟨_,_,_,rfl,F5 NF s w1 λ b c2 cs e w2 hb B2 hh bG yP fD=>⟨_,_,_,rfl,(SH.start (λ _=>False) w2).Aj λ b7 w3 tp B3 S3=>?_⟩⟩;have aU:Rd w2 (some ⟨b,0,none⟩) ((bl s).map Af):=by rw [<- fD];exact (Rd.Ak hh).take _
 have h3:=(h1.grown B2).grown B3;have cI:=CG s;refine (Bf [(a,c,l),(a1,c1,Ag s.size),(some ⟨b,0,none⟩,c2,bl s)] (by have:=Rd.Ak (S3.get 0 rfl);simpa [BQ,cI] using this) (by
  intro p hp;simp only [List.mem_cons,List.not_mem_nil,or_false] at hp;rcases hp with rfl | rfl | rfl
  ·exact hl.grown h3.An
  ·exact h3.rd
  ·exact aU.grown B3) (by simp) (by rw [VZ];simp;omega)).mono ?_
 rintro _ w4 ⟨_,rfl,a3,c3,rfl,h4⟩;rw [VZ] at h4 ⊢;exact⟨_,_,_,rfl,a3,c3,rfl,h4.before h3.An⟩
def Dy(i acc:Nat):List UInt8->Option (Nat × Nat)
 | []=>none
 | c :: r=>if 9<i\/(i=9/\c.toNat≠1) then none else if c.toNat<128 then (if c.toNat=0/\0<i then none else some (acc+c.toNat*128 ^ i,i+1)) else Dy (i+1) (acc+(c.toNat % 128)*128 ^ i) r
def takeN(l:List UInt8)(at_:Int):Option (Nat × Nat):=if at_<0 then none else (Dy 0 0 (l.drop at_.toNat)).map λ x=>(x.1,at_.toNat+x.2)
def Vh(o:Option (Nat × Nat)):Value :=
 match o with
 | some x=>.tuple #[.int .u64 (x.1:Int),.int .i64 (x.2:Int),.int .i64 0]
 | none=>.tuple #[.int .u64 0,.int .i64 0,.int .i64 20]
theorem Ju:∀(l:List UInt8) (i acc n k:Nat),acc<128 ^ i->Dy i acc l=some (n,k)->n<18446744073709551616/\i<k/\k<=i+l.length/\k<=10/\(0<i->128 ^ i<=n)
 | [],_,_,_,_,_,h=>by simp [Dy] at h
 | c :: r,i,acc,n,k,ha,h=>by
  unfold Dy at h;split at h
  ·cases h
  ·rename_i hi;split at h
   ·rename_i hc;split at h
    ·cases h
    ·rename_i hz;simp only [Option.some.injEq,Prod.mk.injEq] at h;obtain⟨rfl,rfl⟩:=h;refine⟨?_,by omega,by simp,by omega,λ h0=>?_⟩
     ·by_cases h9:i=9
      ·subst h9;have:c.toNat=1:=by omega
       rw [this];have:(128:Nat) ^ 9=9223372036854775808:=by decide
       omega
      ·have hp:(128:Nat) ^ i<=128 ^ 8:=Nat.pow_le_pow_right (by omega) (by omega);have:(128:Nat) ^ 8=72057594037927936:=by decide
       have h3:c.toNat*128 ^ i<=127*128 ^ i:=Anv _ (by omega);omega
     ·have h1:1<=c.toNat:=by omega
      have:1*128 ^ i<=c.toNat*128 ^ i:=Anv _ h1;omega
   ·rename_i hc;have jR:i<=8:=by omega
    have yF:(128:Nat) ^ (i+1)=128 ^ i*128:=AnM ..;have h3:(c.toNat % 128)*128 ^ i<=127*128 ^ i:=Anv _ (by omega);obtain⟨h1,h2,h4,h5,h6⟩:=Ju r (i+1) _ n k (by omega) h;refine⟨h1,by omega,by simp;omega,h5,λ _=>?_⟩;have:=h6 (by omega);omega
theorem Acm(i:Nat):(128:Nat) ^ i=2 ^ (7*i):=by rw [Nat.pow_mul]
theorem Ai9{acc c i:Nat}(ha:acc<128 ^ i)(hc:c<128)(hi:i<=9)(h9:i=9->c<=1) :
  acc+c*128 ^ i<18446744073709551616/\(Am6 64 (acc:Int) ||| Am6 64 ((c*128 ^ i:Nat):Int)).toNat=acc+c*128 ^ i:=by
 have hb:acc+c*128 ^ i<18446744073709551616:=by
  by_cases h:i=9
  ·subst h;have:=h9 rfl;have e:(128:Nat) ^ 9=9223372036854775808:=by decide
   have:c*128 ^ 9<=1*128 ^ 9:=Anv _ this;omega
  ·have hp:(128:Nat) ^ i<=128 ^ 8:=Nat.pow_le_pow_right (by omega) (by omega);have:(128:Nat) ^ 8=72057594037927936:=by decide
   have h3:c*128 ^ i<=127*128 ^ i:=Anv _ (by omega);omega
 refine⟨hb,?_⟩;rw [BitVec.toNat_or,AnK,AnK,AnL,AnL,AnH (by omega),AnH (by omega),Acm,Nat.or_comm];rw [Acm] at ha;have:=Nat.two_pow_add_eq_or_of_lt (i:=7*i) (b:=acc) ha c;rw [AnN c,<- this];omega
theorem AkK{x:Nat}(h:x<256):IntKind.u8.wrap (((Am6 8 (x:Int) &&& Am6 8 127).toNat:Int))=((x % 128:Nat):Int):=by
 have:(Am6 8 (x:Int) &&& Am6 8 127).toNat=x % 128:=by
  rw [BitVec.toNat_and,AnK,AnL,AnH (by omega)];exact Nat.and_two_pow_sub_one_eq_mod x 7
 rw [this,Bh (by omega) (by omega)]
theorem AcB{c i:Nat}(hc:c<128)(hi:i<=9):IntKind.u64.wrap ((c:Int)*2 ^ (min (IntKind.i64.wrap (7*(i:Int))).toNat 64))=((c*128 ^ i % 18446744073709551616:Nat):Int):=by
 have e:min (IntKind.i64.wrap (7*(i:Int))).toNat 64=7*i:=by rw [wrap_i64 (by omega) (by omega)];omega
 rw [e,wrap_u64,Acm];have:((2:Int) ^ (7*i))=((2 ^ (7*i):Nat):Int):=by norm_cast
 rw [this,<- Int.natCast_mul];omega
section
variable {w:World}{a:Option Addr}{c:Nat}{l:List UInt8}
theorem byte_at(hl:Rd w a (l.map Af)){i:Nat}(hi:i<l.length):∃ p,a=some p/\w.cell? (p.add (i*1))=some (.int .u8 (l[i].toNat:Int)):=by
 obtain⟨p,hp,hc⟩:=hl i (Af l[i]) (by simp [hi]);exact⟨p,hp,by rw [AnI];exact hc⟩
theorem Aei{i:Nat}(hi:i<l.length):l.drop i=l[i] :: l.drop (i+1):=List.drop_eq_getElem_cons hi
theorem AF(hl:Rd w a (l.map Af))(hc:l.length<=c)(hs:l.length<=9223372036854775807)(at_:Int):Calls Tryz.prog f.Sl #[.slice a l.length c,.int .i64 at_] w (AB λ v w'=>v=Vh (takeN l at_)/\w'=w):=by
 apply R.J7
 delta R.Ad R.F R.H R.I R.Ly R.Qui R.U R.W R.Wb R.Wu R.X R.Y R.Z;try dsimp only [R.Ps]
 refine Aa (λ h=>⟨by simp [takeN,h,Vh],rfl⟩) (λ h0=>Aa (λ h=>⟨?_,rfl⟩) (λ h1=>?_))
 ·have:l.drop at_.toNat=[]:=List.drop_eq_nil_of_le (by omega);simp [takeN,h0,this,Dy,Vh]
 obtain⟨at_,rfl⟩:∃ k:Nat,at_=k:=⟨at_.toNat,by omega⟩;rw [AnF];have eF:at_<=l.length:=by omega
 have ht:takeN l (at_:Int)=(Dy 0 0 (l.drop at_)).map λ x=>(x.1,at_+x.2):=by unfold takeN;rw [if_neg h0];rfl
 refine⟨⟨by omega,by omega,by omega⟩,?_⟩;refine⟨λ s w1=>w1=w/\∃ i acc:Nat,s=[.int .u64 (acc:Int),.int .i64 (i:Int)]/\i<=10/\at_+i<=l.length/\acc<128 ^ i/\Dy 0 0 (l.drop at_)=Dy i acc (l.drop (at_+i)),
  λ s _=>match s with
   | [_,.int _ i]=>10-i.toNat
   | _=>0,⟨rfl,0,0,rfl,by omega,by omega,by simp,rfl⟩,?_⟩
 rintro _ _ w1 ⟨rfl,i,acc,de,hi,hle,qO,du⟩;cases de;have none_:Dy i acc (l.drop (at_+i))=none->(Value.tuple #[.int .u64 0,.int .i64 0,.int .i64 20]=Vh (takeN l (at_:Int))/\w1=w1):=by
  intro hn;rw [ht,du,hn];exact⟨rfl,rfl⟩
 refine Aa (λ aB=>⟨⟨by omega,aB⟩,?_⟩) (λ aL=>?_)
 ·have aF:at_+i<l.length:=by omega
  have aU:=(hl.Yr at_ l.length c 1 hc);obtain⟨p,hp,aJ⟩:=aU i (Af l[at_+i]) (by
   rw [List.getElem?_take_of_lt (by omega),List.getElem?_drop,AnI];simp [aF])
  rw [hp];refine⟨_,by rw [AnF,AnI];exact aJ,?_⟩;have hd:=Aei aF;generalize fP:l[at_+i]=cc at hd;have mT:=cc.toNat_lt;refine⟨λ _ w2=>w2=w1/\¬ (9<i\/(i=9/\cc.toNat≠1)),?_,?_⟩
  ·refine Aa (λ h=>none_ (by rw [hd];unfold Dy;rw [if_pos (.inl (by omega))])) (λ h9=>Az (λ h=>Au (λ h2=>none_ (by rw [hd];unfold Dy;rw [if_pos (.inr ⟨by omega,by omega⟩)])) (λ h2=>⟨rfl,by omega⟩)) (λ h=>⟨rfl,by omega⟩))
  rintro w2 ⟨rfl,bC⟩;have u6:i<=9:=by omega
  have hm:cc.toNat % 128<128:=Nat.mod_lt _ (by omega);have h9:i=9->cc.toNat % 128<=1:=by omega
  obtain⟨hb,rW⟩:=Ai9 qO hm u6 h9;have e1:IntKind.u64.wrap (IntKind.u8.wrap (((Am6 8 (cc.toNat:Int) &&& Am6 8 127).toNat:Int)))=((cc.toNat % 128:Nat):Int):=by rw [AkK mT,Ar (by omega) (by omega)]
  rw [e1,AcB hm u6,AnH (by omega:cc.toNat % 128*128 ^ i<18446744073709551616),rW,Ar (by omega) (by omega)];refine⟨by rw [wrap_i64 (by omega) (by omega)];omega,?_⟩;have fin:cc.toNat<128->¬ (cc.toNat=0/\0<i)->(Value.tuple #[.int .u64 ((acc+cc.toNat % 128*128 ^ i:Nat):Int),.int .i64 (IntKind.i64.wrap (IntKind.i64.wrap ((at_:Int)+(i:Int))+1)),.int .i64 0]=Vh (takeN l (at_:Int))/\w2=w2):=by
   intro aB hz;refine⟨?_,rfl⟩;rw [ht,du,hd];unfold Dy;rw [if_neg bC,if_pos aB,if_neg hz,AnH aB,wrap_i64 (n:=(at_:Int)+(i:Int)) (by omega) (by omega),wrap_i64 (by omega) (by omega)];simp only [Option.map_some,Vh];congr 5
  refine Aa (λ aB=>Az (λ hz=>Aa (λ h=>none_ (by rw [hd];unfold Dy;rw [if_neg bC,if_pos (by omega),if_pos ⟨by omega,by omega⟩])) (λ h=>fin (by omega) (by omega))) (λ hz=>fin (by omega) (by omega))) (λ aL=>?_);rw [Ai (by omega)];refine⟨⟨rfl,i+1,_,rfl,by omega,by omega,?_,?_⟩,?_⟩
  ·rw [AnM];have h3:(cc.toNat % 128)*128 ^ i<=127*128 ^ i:=Anv _ (by omega);omega
  ·rw [du,hd]
   conv=>lhs;unfold Dy
   rw [if_neg bC,if_neg (by omega)];rfl
  ·simp only [AnF];omega
 ·refine none_ ?_;rw [List.drop_eq_nil_of_le (by omega)];rfl
end
theorem AZ{l:List UInt8}{at_:Int}{n k:Nat}(h:takeN l at_=some (n,k)):n<18446744073709551616/\0<=at_/\at_.toNat<k/\k<=l.length/\k<=at_.toNat+10:=by
 unfold takeN at h;split at h
 ·cases h
 ·obtain⟨⟨x1,x2⟩,hx,he⟩:=Option.map_eq_some_iff.1 h;simp only [Prod.mk.injEq] at he;obtain⟨rfl,rfl⟩:=he;obtain⟨h1,h2,h3,h4,_⟩:=Ju _ 0 0 _ _ (by simp) hx;rw [List.length_drop] at h3;refine⟨h1,by omega,by omega,by omega,by omega⟩
def DX(l:List UInt8)(at_:Int)(most:Nat):Option (List UInt8 × Nat) :=
 match takeN l at_ with
 | some x=>if 1048576<x.1\/most<x.1\/l.length-x.2<x.1 then none else some ((l.drop x.2).take x.1,x.2+x.1)
 | none=>none
def Amr(o:Option (List UInt8 × Nat)):Value :=
 match o with
 | some x=>.tuple #[.string (CA x.1),.int .i64 (x.2:Int),.int .i64 0]
 | none=>.tuple #[.string ⟨#[]⟩,.int .i64 0,.int .i64 20]
section
variable {w:World}{a:Option Addr}{c:Nat}{l:List UInt8}
theorem Fg(hl:Rd w a (l.map Af))(hc:l.length<=c)(hs:l.length<=9223372036854775807)(at_:Int)(most:Nat):Calls Tryz.prog f.Vx #[.slice a l.length c,.int .i64 at_,.int .i64 (most:Int)] w (AB λ v w'=>v=Amr (DX l at_ most)/\w'=w):=by
 apply R.Ms
 delta R.EN R.F R.H R.I R.Rt R.S R.T R.W R.Y;try dsimp only [R.Ps]
 refine (AF hl hc hs at_).mono ?_;rintro _ w ⟨_,rfl,rfl,rfl⟩;cases ho:takeN l at_ with
 | none=>exact⟨_,_,_,rfl,Bo ⟨by simp only [DX,ho];rfl,rfl⟩⟩
 | some x =>
  obtain⟨n,k⟩:=x;obtain⟨h1,h2,h3,h4,h5⟩:=AZ ho;have no:(1048576<n\/most<n\/l.length-k<n)->(Value.tuple #[.string ⟨#[]⟩,.int .i64 0,.int .i64 20]=Amr (DX l at_ most)/\w=w):=by
   intro h;refine⟨?_,rfl⟩;simp only [DX,ho];rw [if_pos h];rfl
  refine⟨_,_,_,rfl,Aw (Aa (λ h=>no (.inl (by omega))) (λ nE=>?_))⟩;rw [wrap_i64 (n:=(n:Int)) (by omega) (by omega),wrap_i64 (n:=(l.length:Int)-(k:Int)) (by omega) (by omega)];refine Aa (λ h=>no (.inr (.inl (by omega)))) (λ kL=>Aa (λ h=>no (.inr (.inr (by omega)))) (λ zt=>?_));have e:IntKind.i64.wrap ((k:Int)+(n:Int))=((k+n:Nat):Int):=by rw [wrap_i64 (by omega) (by omega)];omega
  rw [e];refine⟨⟨by omega,by omega,by omega⟩,?_⟩;rw [AnF,AnF,Nat.add_sub_cancel_left];have bm:=hl.Yr k (k+n) c 1 (by omega);rw [AnI,AnI,Nat.add_sub_cancel_left,<- List.map_drop,<- List.map_take] at bm;have hlen:((l.drop k).take n).length=n:=by rw [List.length_take,List.length_drop];omega
  refine CI NF hlen.symm bm ⟨_,rfl,?_,rfl⟩;simp only [DX,ho];rw [if_neg (by omega)];rfl
end
theorem Dh.Tf{w w1 w2 w3:World}{l m:List UInt8}{a a':Option Addr}{c c':Nat}(h:Dh w w1 l a c)(hb:Below w1.heap.size w1 w2)(R:Row w3 ty.uint8 1 a' m.length c' (m.map Af))(K:Ae (λ k=>AG a=some k) w2 w3)(N:∀ k,AG a'=some k->AG a=some k\/w2.heap.size<=k):Dh w w3 m a' c':=by
 have h2:=h.grown hb;refine⟨R,λ k hk=>?_,h2.An.trans (K.below h2.An.size λ k hk he=>by have:=h2.new k he;omega)⟩;rcases N k hk with hh | hh
 ·exact h2.new k hh
 ·exact AnJ h2.An.size hh
section
variable {w:World}{a:Option Addr}{c:Nat}
end
theorem D4{n:Nat}(h:n<256):(AnG n).toNat=n:=by simp;omega
theorem U7{n:Nat}(h:n<128):Ag n=[AnG n]:=by unfold Ag;rw [dif_pos h]
theorem Zh{n:Nat}(h:¬ n<128):Ag n=AnG (n % 128+128) :: Ag (n / 128):=by conv=>lhs;unfold Ag;rw [dif_neg h]
theorem OV(n:Nat):∀(i acc:Nat) (r:List UInt8),n*128 ^ i<18446744073709551616->i<=9->(n=0->i=0)->Dy i acc (Ag n++r)=some (acc+n*128 ^ i,i+(Ag n).length):=by
 induction n using Nat.strongRecOn with
 | _ n ih =>
  intro i acc r hn hi h0;by_cases h:n<128
  ·rw [U7 h];simp only [List.singleton_append,Dy];rw [D4 (by omega)];have e9:i=9->n=1:=by
    intro h9;subst h9;have:(128:Nat) ^ 9=9223372036854775808:=by decide
    rw [this] at hn;have:n≠0:=λ h=>by have:=h0 h;omega
    omega
   rw [if_neg (by omega),if_pos h,if_neg (by omega)];rfl
  ·rw [Zh h];simp only [List.cons_append,Dy];rw [D4 (by omega)];have h8:i<=8:=by
    by_cases h9:i=9
    ·subst h9;have:(128:Nat) ^ 9=9223372036854775808:=by decide
     rw [this] at hn;omega
    ·omega
   have ep:(128:Nat) ^ (i+1)=128*128 ^ i:=by rw [AnM,AnN]
   have key:n / 128*128 ^ (i+1)+n % 128*128 ^ i=n*128 ^ i:=by
    rw [ep,<- Nat.mul_assoc,<- Nat.add_mul];congr 1;omega
   rw [if_neg (by omega),if_neg (by omega),ih (n / 128) (by omega) (i+1) _ r (by omega) (by omega) (by omega)];simp only [List.length_cons];have:(n % 128+128) % 128=n % 128:=by omega
   rw [this];congr 2
   ·omega
   ·omega
end Go.Proofs.YtoepjfblppfabaaGreatDoor
namespace Go.Dn
set_option linter.unusedVariables false
set_option maxRecDepth 100000
def Good(P:Program)(w:World):Nat->TypeId->List Value->Prop
 | 0,_,_=>False
 | n+1,t,cs =>
  match P.underlying t with
  | some .bool=>∃ b,cs=[.bool b]
  | some (.int k)=>∃ x,cs=[.int k x]/\(Lit.int k x).wf=true
  | some .string=>∃ s:ByteArray,cs=[.string s]/\s.size<=maxLen
  | some (.slice e)=>∃ a len cap,cs=[.slice a len cap]/\len<=cap/\cap<=maxLen/\(a=none->cap=0) /\
    ∃ rows:List (List Value),rows.length=len/\Rd w a rows.flatten/\∀ r∈rows,r.length=P.cellsOf e/\Good P w n e r
  | some (.struct fs)=>cs.length=P.cellsOf t/\∀ f∈fs.toList,Good P w n f.type ((cs.drop f.offset).take (P.cellsOf f.type))
  | _=>True
section
variable {P:Program}{w:World}
theorem Good.bool{n:Nat}{t:TypeId}{cs:List Value}(h:Good P w n t cs)(ht:P.underlying t=some .bool):∃ b,cs=[.bool b]:=by
 cases n with
 | zero=>exact h.elim
 | succ n=>unfold Good at h;rw [ht] at h;exact h
theorem Good.int{n:Nat}{t:TypeId}{cs:List Value}{k:IntKind}(h:Good P w n t cs)(ht:P.underlying t=some (.int k)):∃ x,cs=[.int k x]/\(Lit.int k x).wf=true:=by
 cases n with
 | zero=>exact h.elim
 | succ n=>unfold Good at h;rw [ht] at h;exact h
theorem Good.str{n:Nat}{t:TypeId}{cs:List Value}(h:Good P w n t cs)(ht:P.underlying t=some .string):∃ s:ByteArray,cs=[.string s]/\s.size<=maxLen:=by
 cases n with
 | zero=>exact h.elim
 | succ n=>unfold Good at h;rw [ht] at h;exact h
theorem Good.slice{n:Nat}{t e:TypeId}{cs:List Value}(h:Good P w n t cs)(ht:P.underlying t=some (.slice e)):∃ a len cap,cs=[.slice a len cap]/\len<=cap/\cap<=maxLen/\(a=none->cap=0) /\
    ∃(m:Nat) (rows:List (List Value)),rows.length=len/\Rd w a rows.flatten/\∀ r∈rows,r.length=P.cellsOf e/\Good P w m e r:=by
 cases n with
 | zero=>exact h.elim
 | succ n =>
  unfold Good at h;rw [ht] at h;obtain⟨a,len,cap,h1,h2,h3,h4,rows,h5⟩:=h;exact⟨a,len,cap,h1,h2,h3,h4,n,rows,h5⟩
theorem Good.struct{n:Nat}{t:TypeId}{cs:List Value}{fs:Array Field}(h:Good P w n t cs)(ht:P.underlying t=some (.struct fs)) :
  cs.length=P.cellsOf t/\∃ m,∀ f∈fs.toList,Good P w m f.type ((cs.drop f.offset).take (P.cellsOf f.type)):=by
 cases n with
 | zero=>exact h.elim
 | succ n =>
  unfold Good at h;rw [ht] at h;exact⟨h.1,n,h.2⟩
def Ja(P:Program)(t:TypeId):Option (List (TypeId × Nat)) :=
 match P.underlying t with
 | some (.struct fs)=>some (fs.toList.map λ f=>(f.type,f.offset))
 | _=>none
theorem Good.fields{n:Nat}{t:TypeId}{cs:List Value}{l:List (TypeId × Nat)}(h:Good P w n t cs)(ht:Ja P t=some l) :
  cs.length=P.cellsOf t/\∃ m,∀ x∈l,Good P w m x.1 ((cs.drop x.2).take (P.cellsOf x.1)):=by
 unfold Ja at ht;split at ht
 ·rename_i fs hu;obtain⟨h1,m,h2⟩:=h.struct hu;cases ht;refine⟨h1,m,λ x hx=>?_⟩;obtain⟨f,hf,rfl⟩:=List.mem_map.1 hx;exact h2 f hf
 ·cases ht
theorem QY(sz:Nat):∀(rows:List (List Value)),(∀ r∈rows,r.length=sz)->∀ j v,rows.flatten[j]?=some v->0<sz/\j / sz<rows.length/\∃ r,rows[j / sz]?=some r/\r[j % sz]?=some v
 | [],_,j,v,h=>by simp at h
 | r :: rows,hl,j,v,h=>by
  have hr:r.length=sz:=hl r (by simp);rw [List.flatten_cons] at h;by_cases hj:j<sz
  ·rw [List.getElem?_append_left (by omega)] at h;refine⟨by omega,by rw [Nat.div_eq_of_lt hj];simp,r,by rw [Nat.div_eq_of_lt hj];rfl,by rw [Nat.mod_eq_of_lt hj];exact h⟩
  ·rw [List.getElem?_append_right (by omega),hr] at h;obtain⟨h0,h1,r',h2,h3⟩:=QY sz rows (λ r hr=>hl r (by simp [hr])) (j-sz) v h;have e:j / sz=(j-sz) / sz+1:=by
    have:=Nat.add_div_right (j-sz) h0;rw [show j-sz+sz=j by omega] at this;exact this
   have e2:j % sz=(j-sz) % sz:=Nat.mod_eq_sub_mod (by omega);refine⟨h0,by rw [e];simp;exact h1,r',by rw [e];simpa using h2,by rw [e2];exact h3⟩
theorem Gz{H:Type}{enc:TypeId × Value->H}{spare:Nat->Bool}{held:Bool}{base:Nat}:∀(n:Nat) (t:TypeId) (cs:List Value) (x:DataW H × List MemPlace),DataW.trod enc P w base spare held n t cs=some x->Good P w n t cs
 | 0,_,_,_,h=>by simp [DataW.trod] at h
 | n+1,t,cs,x,h=>by
  unfold Good;split
  ·rename_i ht;obtain⟨b,rfl,_⟩:=DataW.trod_bool ht h;exact⟨b,rfl⟩
  ·rename_i k ht;obtain⟨z,rfl,_,hw⟩:=DataW.trod_int ht h;exact⟨z,rfl,hw⟩
  ·rename_i ht;obtain⟨s,rfl,_,hw⟩:=DataW.trod_string ht h;exact⟨s,rfl,hw⟩
  ·rename_i e ht;rcases DataW.trod_slice ht h with ⟨rfl,_⟩ | ⟨a,len,cap,elems,rest,m,hn,rfl,_,hb,hl,hm,hlen,bM,_,_⟩
   ·exact⟨none,0,0,rfl,Nat.le_refl _,Nat.zero_le _,λ _=>rfl,[],rfl,Rd.nil _ _,by simp⟩
   ·have ir:n=m:=by omega
    subst ir;have hx:∀ i,i<len->∃ aC:List Value,w.cells? base (a.add (i*P.cellsOf e)) (P.cellsOf e)=some aC/\Good P w n e aC:=by
     intro i hi;have:=bM i hi;rw [List.getElem?_eq_getElem (by omega)] at this;obtain⟨aC,h1,h2⟩:=Option.bind_eq_some_iff.1 this;exact⟨aC,h1,Gz n e aC _ h2⟩
    obtain⟨V,hV⟩:=Deep.choose_lt (α:=List Value) hx;have dv:∀ r∈(List.range len).map V,r.length=P.cellsOf e/\Good P w n e r:=by
     intro r hr;obtain⟨i,hi,rfl⟩:=List.mem_map.1 hr;have:=hV i (by simpa using hi);exact⟨(World.cells?_some this.1).2.1,this.2⟩
    refine⟨some a,len,cap,rfl,hl,hm,(λ h=>nomatch h),(List.range len).map V,by simp,?_,dv⟩;intro j v hv;obtain⟨h0,h1,r,h2,h3⟩:=QY (P.cellsOf e) _ (λ r hr=>(dv r hr).1) j v hv;refine⟨a,rfl,?_⟩;simp only [List.length_map,List.length_range] at h1;simp only [List.getElem?_map,List.getElem?_range h1,Option.map_some,Option.some.injEq] at h2;subst h2;obtain⟨hc,hg⟩:=hV _ h1;have aB:j % P.cellsOf e<P.cellsOf e:=Nat.mod_lt _ h0;have:=(World.cells?_some hc).2.2 _ aB;rw [Cm,h3] at this;rw [<- this];congr 2;rw [Nat.mul_comm];exact (Nat.div_add_mod j _).symm
  ·rename_i fs ht;unfold DataW.trod at h;rw [ht] at h;simp only at h;split at h
   ·rename_i hlen;refine⟨hlen,λ f hf=>?_⟩;obtain⟨xs,bV,_⟩:=Option.map_eq_some_iff.1 h;obtain⟨i,hi⟩:=List.getElem?_of_mem hf;have hl:=mapM_some_length bV;have aB:=(List.getElem?_eq_some_iff.1 hi).1;have hg:=mapM_some_get bV i f hi;rw [List.getElem?_eq_getElem (by omega)] at hg;exact Gz n _ _ _ hg
   ·cases h
  ·trivial
theorem XW{α:Type}{rows:List (List Value)}{g:α->List Value}{q:α->Prop}(h:∀ r∈rows,∃ x,r=g x/\q x):∃ xs:List α,rows=xs.map g/\∀ x∈xs,q x:=by
 induction rows with
 | nil=>exact⟨[],rfl,by simp⟩
 | cons r rows ih =>
  obtain⟨x,rfl,hx⟩:=h r (by simp);obtain⟨xs,rfl,bV⟩:=ih λ r hr=>h r (by simp [hr]);exact⟨x :: xs,rfl,by simpa using ⟨hx,bV⟩⟩
theorem Good.list{α:Type}{n:Nat}{t e:TypeId}{cs:List Value}(h:Good P w n t cs)(ht:P.underlying t=some (.slice e))(g:α->List Value)(q:α->Prop)(hg:∀ m r,r.length=P.cellsOf e->Good P w m e r->∃ x,r=g x/\q x) :
  ∃ a cap,∃ xs:List α,cs=[.slice a xs.length cap]/\xs.length<=cap/\cap<=maxLen/\(a=none->cap=0)/\Rd w a (xs.flatMap g)/\∀ x∈xs,q x:=by
 obtain⟨a,len,cap,rfl,h1,h2,h3,m,rows,rfl,hr,kQ⟩:=h.slice ht;obtain⟨xs,rfl,hq⟩:=XW (λ r hr=>hg m r (kQ r hr).1 (kQ r hr).2);simp only [List.length_map] at h1 ⊢;exact⟨a,cap,xs,rfl,h1,h2,h3,by rw [List.flatMap_def];exact hr,hq⟩
def GL{α:Type}(w:World)(g:α->List Value)(q:α->Prop)(a:Option Addr)(xs:List α)(c:Nat):Prop :=
 xs.length<=c/\c<=maxLen/\(a=none->c=0)/\Rd w a (xs.flatMap g)/\∀ x∈xs,q x
theorem Good.gl{α:Type}{n:Nat}{t e:TypeId}{a0:Option Addr}{l0 c0:Nat}(h:Good P w n t (Value.slice a0 l0 c0).cells.toList)(ht:P.underlying t=some (.slice e))(g:α->List Value)(q:α->Prop)(hg:∀ m r,r.length=P.cellsOf e->Good P w m e r->∃ x,r=g x/\q x) :
  ∃ xs:List α,l0=xs.length/\GL w g q a0 xs c0:=by
 obtain⟨a,c,xs,he,h1⟩:=h.list ht g q hg;have oJ:[Value.slice a0 l0 c0]=[.slice a xs.length c]:=he;simp only [List.cons.injEq,Value.slice.injEq,and_true] at oJ;obtain⟨rfl,rfl,rfl⟩:=oJ;exact⟨xs,rfl,h1⟩
theorem AjI{α β:Type}(f:α->β):∀ l:List α,(l.flatMap λ x=>[f x])=l.map f
 | []=>rfl
 | x :: l=>by rw [List.flatMap_cons,AjI f l];rfl
end
end Go.Dn
namespace Go.Proofs.YtoepjfblppfabaaGreatDoor
open _root_.BitVec renaming ofInt -> Am6
open _root_.Prod.mk renaming injEq -> AnO
set_option maxRecDepth 100000
open Go.Dn Go.Proofs
open Go.RowKit (Below)
set_option linter.unusedVariables false
abbrev Ax:=Int × Int × ByteArray
def Aft(v:Ax):Value:=.agg #[.int .i64 v.1,.int .i64 v.2.1,.string v.2.2]
abbrev E0:ByteArray:=⟨#[]⟩
def AL(v:Ax):Bool :=
 if v.1=0 then decide (v.2.1=0/\v.2.2=E0) else if v.1=1 then decide (v.2.2=E0) else if v.1=2 then decide ((v.2.1=0\/v.2.1=1)/\v.2.2=E0) else
 if v.1=3 then decide (v.2.1=0/\v.2.2.size<=1024) else false
theorem AmD(n:Int):n=IntKind.i64.wrap (((Am6 64 n &&& Am6 64 1).toNat:Int))↔(n=0\/n=1):=by
 have h:(Am6 64 n &&& Am6 64 1).toNat=0\/(Am6 64 n &&& Am6 64 1).toNat=1:=by
  rw [BitVec.toNat_and];have h1:(Am6 64 1).toNat=2 ^ 1-1:=by decide
  rw [h1,Nat.and_two_pow_sub_one_eq_mod];omega
 constructor
 ·intro e;rcases h with h | h
  ·rw [h] at e;left;rw [e];decide
  ·rw [h] at e;right;rw [e];decide
 ·rintro (rfl | rfl) <;> decide
theorem Cz(w:World)(v:Ax):Calls Tryz.prog f.Aa4 #[Aft v] w (AB λ r w'=>r=.bool (AL v)/\Below w.heap.size w w'):=by
 obtain⟨k,n,s⟩:=v;apply R.Pg
 delta R.A R.Ab R.F R.G R.I R.Li R.Lt R.N R.Ah R.T R.W R.Z;try dsimp only [R.Ps]
 refine (SH.start (λ _=>False) w).Aj λ b4 w1 jM B1 S1=>⟨_,S1.cell 0 rfl rfl,S1.KQ λ b6 w5 kn B5 S5=>?_⟩;refine⟨λ _ w9=>∃ p:Ax,SH (λ _=>False) w w9 [(b6,#[.int .i64 p.1,.int .i64 p.2.1,.string p.2.2],ty.AD),(b4,#[.int .i64 k,.int .i64 n,.string s],ty.AD)]/\p.1=k /\
   (0<=k->k<4->(((k,n,s):Ax)=p/\s.size<=1024↔AL (k,n,s)=true)),?_,?_⟩
 ·refine⟨_,S5.cell 1 rfl rfl,Az (λ h=>?_) (λ h0=>Az (λ h=>⟨_,S5.cell 1 rfl rfl,?_⟩) (λ h1=>Az (λ h=>⟨_,S5.cell 1 rfl rfl,?_⟩) (λ h2=>Az (λ h=>⟨_,S5.cell 1 rfl rfl,?_⟩) (λ h3=>?_))))⟩
  ·subst h;refine⟨(0,0,E0),S5,rfl,λ _ _=>?_⟩;simp only [AL,if_pos,decide_eq_true_eq,AnO,true_and];constructor
   ·rintro⟨⟨h1,h2⟩,_⟩;exact⟨h1,h2⟩
   ·rintro⟨h1,rfl⟩;exact⟨⟨h1,rfl⟩,by decide⟩
  ·subst h;refine S5.Cr 0 rfl (show 1<3 by decide) λ w6 S6=>⟨(1,n,E0),S6,rfl,λ _ _=>?_⟩;simp only [AL,if_neg (show ¬ (1:Int)=0 by decide),if_pos,decide_eq_true_eq,AnO,true_and];constructor
   ·rintro⟨h1,_⟩;exact h1
   ·rintro rfl;exact⟨rfl,by decide⟩
  ·subst h;refine S5.Cr 0 rfl (show 1<3 by decide) λ w6 S6=>⟨(2,IntKind.i64.wrap (((Am6 64 n &&& Am6 64 1).toNat:Int)),E0),S6,rfl,λ _ _=>?_⟩;simp only [AL,if_neg (show ¬ (2:Int)=0 by decide),if_neg (show ¬ (2:Int)=1 by decide),if_pos,decide_eq_true_eq,AnO,true_and];rw [AmD];constructor
   ·rintro⟨⟨h1,h2⟩,_⟩;exact⟨h1,h2⟩
   ·rintro⟨h1,rfl⟩;exact⟨⟨h1,rfl⟩,by decide⟩
  ·subst h;refine S5.Cr 0 rfl (show 2<3 by decide) λ w6 S6=>⟨(3,0,s),S6,rfl,λ _ _=>?_⟩;simp only [AL,if_neg (show ¬ (3:Int)=0 by decide),if_neg (show ¬ (3:Int)=1 by decide),if_neg (show ¬ (3:Int)=2 by decide),if_pos,decide_eq_true_eq,AnO,true_and,and_true]
  ·exact⟨(k,0,E0),S5,rfl,λ _ _=>by omega⟩
 ·rintro w9 ⟨p,S9,hp,r8⟩;have no:¬ (0<=k/\k<4)->Value.bool false=.bool (AL (k,n,s)):=by
   intro hk;simp only [AL];rw [if_neg (by omega),if_neg (by omega),if_neg (by omega),if_neg (by omega)]
  refine⟨_,S9.cell 1 rfl rfl,Aa (λ h0=>⟨_,S9.cell 1 rfl rfl,Aa (λ h4=>?_) (λ h4=>⟨no (by omega),S9.below⟩)⟩) (λ h0=>⟨no (by omega),S9.below⟩)⟩;refine⟨_,S9.cell 1 rfl rfl,_,S9.cell 1 rfl rfl,_,S9.cell 1 rfl rfl,_,S9.cell 0 rfl rfl,_,S9.cell 0 rfl rfl,_,S9.cell 0 rfl rfl,?_⟩;have hi:=r8 h0 h4;rw [NY];refine AU (λ he=>⟨_,S9.cell 1 rfl rfl,?_,S9.below⟩) (λ he=>⟨?_,S9.below⟩)
  ·simp only [Bool.and_true,Bool.and_eq_true,beq_iff_eq,decide_eq_true_eq] at he;have e:((k,n,s):Ax)=p:=by
    obtain⟨p1,p2,p3⟩:=p;simp only at he;rw [he.1,he.2.1,he.2.2]
   congr 1;rw [Bool.eq_iff_iff];rw [<- hi];simp only [e,true_and,decide_eq_true_eq];omega
  ·have hn:¬ (AL (k,n,s)=true):=by
    rw [<- hi];rintro⟨e,_⟩;rw [<- e] at he;simp at he
   simp [Bool.eq_false_iff.2 hn]
/-! ### the order -/
end Go.Proofs.YtoepjfblppfabaaGreatDoor
namespace Go.Proofs
set_option linter.unusedVariables false
set_option maxRecDepth 100000
open Go.Shelf
def Tryz.Q5:Go.Shelf.Ren:=⟨fun | 156=>166 | 165=>234 | 166=>235 | 169=>236 | 240=>287 | 241=>288 | 276=>336 | 277=>337 | n=>n,fun | 31=>79 | 9=>9 | 3=>3 | 4=>4 | 0=>0 | 20=>20 | 72=>367 | 76=>356 | 70=>365 | 37=>58 | 75=>355 | 127=>413 | 164=>453 | 5=>5 | 80=>275 | n=>n,fun | n=>n⟩
theorem Tryz.AiP:Go.Proofs.Lays.n156 Tryz.prog Tryz.Q5:={
 mixed:=by kernel_rfl
 f156:=Tryz.func166.trans (congrArg some (by kernel_rfl))
 f165:=Tryz.func234.trans (congrArg some (by kernel_rfl))
 f166:=Tryz.func235.trans (congrArg some (by kernel_rfl))
 f169:=Tryz.func236.trans (congrArg some (by kernel_rfl))
 f240:=Tryz.func287.trans (congrArg some (by kernel_rfl))
 f241:=Tryz.func288.trans (congrArg some (by kernel_rfl))
 f276:=Tryz.func336.trans (congrArg some (by kernel_rfl))
 f277:=Tryz.func337.trans (congrArg some (by kernel_rfl))
 t0:=Tryz.underlying0
 a0:=Tryz.isAgg0
 z0:=Tryz.sizeOf0
 v0:=Tryz.zeroValue0
 t3:=Tryz.underlying3
 a3:=Tryz.isAgg3
 z3:=Tryz.sizeOf3
 v3:=Tryz.zeroValue3
 t4:=Tryz.underlying4
 a4:=Tryz.isAgg4
 z4:=Tryz.sizeOf4
 v4:=Tryz.zeroValue4
 t9:=Tryz.underlying9
 a9:=Tryz.isAgg9
 z9:=Tryz.sizeOf9
 v9:=Tryz.zeroValue9
 t20:=Tryz.underlying20
 a20:=Tryz.isAgg20
 z20:=Tryz.sizeOf20
 v20:=Tryz.zeroValue20
 t31:=Tryz.underlying79
 a31:=Tryz.isAgg79
 z31:=Tryz.sizeOf79
 v31:=Tryz.zeroValue79
 t37:=Tryz.underlying58
 a37:=Tryz.isAgg58
 z37:=Tryz.sizeOf58
 v37:=Tryz.zeroValue58
 t70:=Tryz.underlying365
 a70:=Tryz.isAgg365
 z70:=Tryz.sizeOf365
 v70:=Tryz.zeroValue365
 t72:=Tryz.underlying367
 a72:=Tryz.isAgg367
 z72:=Tryz.sizeOf367
 v72:=Tryz.zeroValue367
 t75:=Tryz.underlying355
 a75:=Tryz.isAgg355
 z75:=Tryz.sizeOf355
 v75:=Tryz.zeroValue355
 t76:=Tryz.underlying356
 a76:=Tryz.isAgg356
 z76:=Tryz.sizeOf356
 v76:=Tryz.zeroValue356
 t127:=Tryz.underlying413
 a127:=Tryz.isAgg413
 z127:=Tryz.sizeOf413
 v127:=Tryz.zeroValue413
 t164:=Tryz.underlying453
 a164:=Tryz.isAgg453
 z164:=Tryz.sizeOf453
 v164:=Tryz.zeroValue453 }
theorem Tryz.NN:Builder.Extra Tryz.prog Tryz.Q5:={
 sizeBuilder:=by kernel_rfl
 liesBuilder:=by kernel_rfl
 t5:=Tryz.underlying5
 a5:=Tryz.isAgg5
 z5:=Tryz.sizeOf5
 v5:=Tryz.zeroValue5
 infoByte:=by kernel_rfl
 cellsByte:=by kernel_rfl
 sizeByte:=by kernel_rfl
 neB5:=by decide }
open Go.RowKit in
theorem Tryz.strings_Join(bk o c:Nat)(xs:List ByteArray)(sep:ByteArray)(w:World)(da:∀(j:Nat) x,xs[j]?=some x->w.cell? ⟨bk,o+j,none⟩=some (.string x))(mQ:bk<w.heap.size)(hN:xs.length<=140737488355328)(cj:xs.length<=c)(hlen:(Lib.join (xs.map (·.data.toList)) sep.data.toList).length<=140737488355328) :
  Calls Tryz.prog 166 #[.slice (some ⟨bk,o,none⟩) xs.length c,.string sep] w λ e w'=>e=.returned (.string ⟨(Lib.join (xs.map (·.data.toList)) sep.data.toList).toArray⟩)/\Below w.heap.size w w':=Any.strings_Join Tryz.AiP Tryz.NN bk o c xs sep w da mQ hN cj hlen
def Tryz.ZW:Go.Shelf.Ren:=⟨fun | 106=>106 | 213=>183 | 265=>244 | n=>n,fun | 9=>9 | 3=>3 | n=>n,fun | n=>n⟩
theorem Tryz.AiN:Go.Proofs.Lays.n106 Tryz.prog Tryz.ZW:={
 mixed:=by kernel_rfl
 f106:=Tryz.func106.trans (congrArg some (by kernel_rfl))
 f213:=Tryz.func183.trans (congrArg some (by kernel_rfl))
 f265:=Tryz.func244.trans (congrArg some (by kernel_rfl))
 t3:=Tryz.underlying3
 a3:=Tryz.isAgg3
 z3:=Tryz.sizeOf3
 v3:=Tryz.zeroValue3
 t9:=Tryz.underlying9
 a9:=Tryz.isAgg9
 z9:=Tryz.sizeOf9
 v9:=Tryz.zeroValue9 }
open Go.RowKit in
theorem Tryz.strings_Compare(a b:ByteArray)(w:World) :
  Calls Tryz.prog 106 #[.string a,.string b] w λ e w'=>e=.returned (.int .i64 (Lib.compareBytes a.data.toList b.data.toList))/\w'=w:=Any.strings_Compare Tryz.AiN a b w
def Tryz.ZX:Go.Shelf.Ren:=⟨fun | 137=>114 | 217=>189 | 266=>248 | n=>n,fun | 9=>9 | 5=>5 | 3=>3 | n=>n,fun | n=>n⟩
theorem Tryz.AiO:Go.Proofs.Lays.n137 Tryz.prog Tryz.ZX:={
 mixed:=by kernel_rfl
 f137:=Tryz.func114.trans (congrArg some (by kernel_rfl))
 f217:=Tryz.func189.trans (congrArg some (by kernel_rfl))
 f266:=Tryz.func248.trans (congrArg some (by kernel_rfl))
 t3:=Tryz.underlying3
 a3:=Tryz.isAgg3
 z3:=Tryz.sizeOf3
 v3:=Tryz.zeroValue3
 t5:=Tryz.underlying5
 a5:=Tryz.isAgg5
 z5:=Tryz.sizeOf5
 v5:=Tryz.zeroValue5
 t9:=Tryz.underlying9
 a9:=Tryz.isAgg9
 z9:=Tryz.sizeOf9
 v9:=Tryz.zeroValue9 }
open Go.RowKit in
theorem Tryz.strings_IndexByte(s:ByteArray)(c:Int)(w:World) :
  Calls Tryz.prog 114 #[.string s,.int .u8 c] w λ e w'=>e=.returned (.int .i64 (Lib.indexByte s.data.toList c.toNat.toUInt8))/\w'=w:=Any.strings_IndexByte Tryz.AiO s c w
def Tryz.ZY:Go.Shelf.Ren:=⟨fun | 189=>125 | 125=>205 | 257=>204 | 128=>265 | 129=>169 | 294=>256 | 295=>257 | 296=>258 | 297=>259 | 298=>260 | 299=>261 | 216=>262 | 300=>263 | 301=>264 | 328=>310 | 329=>311 | 330=>312 | 331=>313 | 332=>314 | 215=>181 | 343=>351 | n=>n,fun | 28=>109 | 3=>3 | 46=>133 | 0=>0 | 51=>131 | 53=>65 | 4=>4 | 183=>387 | 182=>386 | 131=>391 | 5=>5 | 9=>9 | 218=>432 | 222=>436 | 228=>466 | 229=>178 | n=>n,fun | n=>n⟩
theorem Tryz.Adm:Go.Proofs.Lays.n189 Tryz.prog Tryz.ZY:={
 mixed:=by kernel_rfl
 f125:=Tryz.func205.trans (congrArg some (by kernel_rfl))
 f128:=Tryz.func265.trans (congrArg some (by kernel_rfl))
 f129:=Tryz.func169.trans (congrArg some (by kernel_rfl))
 f189:=Tryz.func125.trans (congrArg some (by kernel_rfl))
 f215:=Tryz.func181.trans (congrArg some (by kernel_rfl))
 f216:=Tryz.func262.trans (congrArg some (by kernel_rfl))
 f257:=Tryz.func204.trans (congrArg some (by kernel_rfl))
 f294:=Tryz.func256.trans (congrArg some (by kernel_rfl))
 f295:=Tryz.func257.trans (congrArg some (by kernel_rfl))
 f296:=Tryz.func258.trans (congrArg some (by kernel_rfl))
 f297:=Tryz.func259.trans (congrArg some (by kernel_rfl))
 f298:=Tryz.func260.trans (congrArg some (by kernel_rfl))
 f299:=Tryz.func261.trans (congrArg some (by kernel_rfl))
 f300:=Tryz.func263.trans (congrArg some (by kernel_rfl))
 f301:=Tryz.func264.trans (congrArg some (by kernel_rfl))
 f328:=Tryz.func310.trans (congrArg some (by kernel_rfl))
 f329:=Tryz.func311.trans (congrArg some (by kernel_rfl))
 f330:=Tryz.func312.trans (congrArg some (by kernel_rfl))
 f331:=Tryz.func313.trans (congrArg some (by kernel_rfl))
 f332:=Tryz.func314.trans (congrArg some (by kernel_rfl))
 f343:=Tryz.func351.trans (congrArg some (by kernel_rfl))
 t0:=Tryz.underlying0
 a0:=Tryz.isAgg0
 z0:=Tryz.sizeOf0
 v0:=Tryz.zeroValue0
 t3:=Tryz.underlying3
 a3:=Tryz.isAgg3
 z3:=Tryz.sizeOf3
 v3:=Tryz.zeroValue3
 t4:=Tryz.underlying4
 a4:=Tryz.isAgg4
 z4:=Tryz.sizeOf4
 v4:=Tryz.zeroValue4
 t5:=Tryz.underlying5
 a5:=Tryz.isAgg5
 z5:=Tryz.sizeOf5
 v5:=Tryz.zeroValue5
 t9:=Tryz.underlying9
 a9:=Tryz.isAgg9
 z9:=Tryz.sizeOf9
 v9:=Tryz.zeroValue9
 t28:=Tryz.underlying109
 a28:=Tryz.isAgg109
 z28:=Tryz.sizeOf109
 v28:=Tryz.zeroValue109
 t46:=Tryz.underlying133
 a46:=Tryz.isAgg133
 z46:=Tryz.sizeOf133
 v46:=Tryz.zeroValue133
 t51:=Tryz.underlying131
 a51:=Tryz.isAgg131
 z51:=Tryz.sizeOf131
 v51:=Tryz.zeroValue131
 t53:=Tryz.underlying65
 a53:=Tryz.isAgg65
 z53:=Tryz.sizeOf65
 v53:=Tryz.zeroValue65
 t131:=Tryz.underlying391
 a131:=Tryz.isAgg391
 z131:=Tryz.sizeOf391
 v131:=Tryz.zeroValue391
 t182:=Tryz.underlying386
 a182:=Tryz.isAgg386
 z182:=Tryz.sizeOf386
 v182:=Tryz.zeroValue386
 t183:=Tryz.underlying387
 a183:=Tryz.isAgg387
 z183:=Tryz.sizeOf387
 v183:=Tryz.zeroValue387
 t218:=Tryz.underlying432
 a218:=Tryz.isAgg432
 z218:=Tryz.sizeOf432
 v218:=Tryz.zeroValue432
 t222:=Tryz.underlying436
 a222:=Tryz.isAgg436
 z222:=Tryz.sizeOf436
 v222:=Tryz.zeroValue436
 t228:=Tryz.underlying466
 a228:=Tryz.isAgg466
 z228:=Tryz.sizeOf466
 v228:=Tryz.zeroValue466
 t229:=Tryz.underlying178
 a229:=Tryz.isAgg178
 z229:=Tryz.sizeOf178
 v229:=Tryz.zeroValue178 }
open Go.Sort Go.RowKit in
theorem Tryz.slices_Sort_int(CK off cap:Nat)(zs:List Int)(w:World)(hH:Holds (Value.int .i64) w CK off zs.toArray)(gd:CK<w.heap.size)(av:zs.length<4611686018427387904) :
  Calls Tryz.prog 125 #[.slice (some ⟨CK,off,none⟩) zs.length cap] w λ e w' =>
   e=.returned (.tuple #[])/\∃ n os,w'=grow (putRow (Value.int .i64) (Sort.ahead w n) CK off (zs.mergeSort λ x y=>decide (x<=y)).toArray) os:=Any.slices_Sort_int Tryz.Adm CK off cap zs w hH gd av
def Tryz.ZZ:Go.Shelf.Ren:=⟨fun | 190=>200 | 125=>205 | 258=>255 | 128=>265 | 129=>169 | 302=>301 | 303=>302 | 304=>303 | 305=>304 | 306=>305 | 307=>306 | 308=>307 | 309=>308 | 310=>309 | 333=>347 | 329=>311 | 330=>312 | 334=>348 | 335=>349 | 336=>350 | 344=>369 | n=>n,fun | 31=>79 | 9=>9 | 3=>3 | 46=>133 | 0=>0 | 51=>131 | 53=>65 | 4=>4 | 183=>387 | 182=>386 | 131=>391 | 5=>5 | 218=>432 | 222=>436 | 228=>466 | 229=>178 | n=>n,fun | n=>n⟩
theorem Tryz.Adn:Go.Proofs.Lays.n190 Tryz.prog Tryz.ZZ:={
 mixed:=by kernel_rfl
 f125:=Tryz.func205.trans (congrArg some (by kernel_rfl))
 f128:=Tryz.func265.trans (congrArg some (by kernel_rfl))
 f129:=Tryz.func169.trans (congrArg some (by kernel_rfl))
 f190:=Tryz.func200.trans (congrArg some (by kernel_rfl))
 f258:=Tryz.func255.trans (congrArg some (by kernel_rfl))
 f302:=Tryz.func301.trans (congrArg some (by kernel_rfl))
 f303:=Tryz.func302.trans (congrArg some (by kernel_rfl))
 f304:=Tryz.func303.trans (congrArg some (by kernel_rfl))
 f305:=Tryz.func304.trans (congrArg some (by kernel_rfl))
 f306:=Tryz.func305.trans (congrArg some (by kernel_rfl))
 f307:=Tryz.func306.trans (congrArg some (by kernel_rfl))
 f308:=Tryz.func307.trans (congrArg some (by kernel_rfl))
 f309:=Tryz.func308.trans (congrArg some (by kernel_rfl))
 f310:=Tryz.func309.trans (congrArg some (by kernel_rfl))
 f329:=Tryz.func311.trans (congrArg some (by kernel_rfl))
 f330:=Tryz.func312.trans (congrArg some (by kernel_rfl))
 f333:=Tryz.func347.trans (congrArg some (by kernel_rfl))
 f334:=Tryz.func348.trans (congrArg some (by kernel_rfl))
 f335:=Tryz.func349.trans (congrArg some (by kernel_rfl))
 f336:=Tryz.func350.trans (congrArg some (by kernel_rfl))
 f344:=Tryz.func369.trans (congrArg some (by kernel_rfl))
 t0:=Tryz.underlying0
 a0:=Tryz.isAgg0
 z0:=Tryz.sizeOf0
 v0:=Tryz.zeroValue0
 t3:=Tryz.underlying3
 a3:=Tryz.isAgg3
 z3:=Tryz.sizeOf3
 v3:=Tryz.zeroValue3
 t4:=Tryz.underlying4
 a4:=Tryz.isAgg4
 z4:=Tryz.sizeOf4
 v4:=Tryz.zeroValue4
 t5:=Tryz.underlying5
 a5:=Tryz.isAgg5
 z5:=Tryz.sizeOf5
 v5:=Tryz.zeroValue5
 t9:=Tryz.underlying9
 a9:=Tryz.isAgg9
 z9:=Tryz.sizeOf9
 v9:=Tryz.zeroValue9
 t31:=Tryz.underlying79
 a31:=Tryz.isAgg79
 z31:=Tryz.sizeOf79
 v31:=Tryz.zeroValue79
 t46:=Tryz.underlying133
 a46:=Tryz.isAgg133
 z46:=Tryz.sizeOf133
 v46:=Tryz.zeroValue133
 t51:=Tryz.underlying131
 a51:=Tryz.isAgg131
 z51:=Tryz.sizeOf131
 v51:=Tryz.zeroValue131
 t53:=Tryz.underlying65
 a53:=Tryz.isAgg65
 z53:=Tryz.sizeOf65
 v53:=Tryz.zeroValue65
 t131:=Tryz.underlying391
 a131:=Tryz.isAgg391
 z131:=Tryz.sizeOf391
 v131:=Tryz.zeroValue391
 t182:=Tryz.underlying386
 a182:=Tryz.isAgg386
 z182:=Tryz.sizeOf386
 v182:=Tryz.zeroValue386
 t183:=Tryz.underlying387
 a183:=Tryz.isAgg387
 z183:=Tryz.sizeOf387
 v183:=Tryz.zeroValue387
 t218:=Tryz.underlying432
 a218:=Tryz.isAgg432
 z218:=Tryz.sizeOf432
 v218:=Tryz.zeroValue432
 t222:=Tryz.underlying436
 a222:=Tryz.isAgg436
 z222:=Tryz.sizeOf436
 v222:=Tryz.zeroValue436
 t228:=Tryz.underlying466
 a228:=Tryz.isAgg466
 z228:=Tryz.sizeOf466
 v228:=Tryz.zeroValue466
 t229:=Tryz.underlying178
 a229:=Tryz.isAgg178
 z229:=Tryz.sizeOf178
 v229:=Tryz.zeroValue178 }
open Go.Sort Go.RowKit in
theorem Tryz.slices_Sort_string(CK off cap:Nat)(ss:List (List UInt8))(w:World)(hH:Holds encStr w CK off ss.toArray)(gd:CK<w.heap.size)(av:ss.length<4611686018427387904) :
  Calls Tryz.prog 200 #[.slice (some ⟨CK,off,none⟩) ss.length cap] w λ e w' =>
   e=.returned (.tuple #[])/\∃ n os,w'=grow (putRow encStr (Sort.ahead w n) CK off (ss.mergeSort λ x y=>decide (x<=y)).toArray) os:=Any.slices_Sort_string Tryz.Adn CK off cap ss w hH gd av
def Tryz.Z1:Go.Shelf.Ren:=⟨fun | 227=>192 | n=>n,fun | 9=>9 | 116=>318 | 4=>4 | 0=>0 | 3=>3 | 5=>5 | n=>n,fun | n=>n⟩
theorem Tryz.AiQ:Go.Proofs.Lays.n227 Tryz.prog Tryz.Z1:={
 mixed:=by kernel_rfl
 f227:=Tryz.func192.trans (congrArg some (by kernel_rfl))
 t0:=Tryz.underlying0
 a0:=Tryz.isAgg0
 z0:=Tryz.sizeOf0
 v0:=Tryz.zeroValue0
 t3:=Tryz.underlying3
 a3:=Tryz.isAgg3
 z3:=Tryz.sizeOf3
 v3:=Tryz.zeroValue3
 t4:=Tryz.underlying4
 a4:=Tryz.isAgg4
 z4:=Tryz.sizeOf4
 v4:=Tryz.zeroValue4
 t5:=Tryz.underlying5
 a5:=Tryz.isAgg5
 z5:=Tryz.sizeOf5
 v5:=Tryz.zeroValue5
 t9:=Tryz.underlying9
 a9:=Tryz.isAgg9
 z9:=Tryz.sizeOf9
 v9:=Tryz.zeroValue9
 t116:=Tryz.underlying318
 a116:=Tryz.isAgg318
 z116:=Tryz.sizeOf318 }
open Go.RowKit Go.Lib in
theorem Tryz.strings_makeASCIISet(nV:∀ w,(zeroValue 318).run Tryz.prog w=.ok (.agg (Array.replicate 256 (.bool false))) w)(chars:ByteArray)(w:World)(hs:chars.size<4294967281)(jo:∀(j:Nat) b,chars.data.toList[j]?=some b->b.toNat<128) :
  Calls Tryz.prog 192 #[.string chars] w λ e w'=>e=.returned (.tuple #[.agg (Lib.setCells chars.data.toList),.bool true])/\w'=w.alloc (.cells (Lib.setCells chars.data.toList) 318):=Any.strings_makeASCIISet Tryz.AiQ nV (by kernel_rfl) chars w hs jo
def Tryz.Z2:Go.Shelf.Ren:=⟨fun | 228=>249 | n=>n,fun | 124=>322 | 5=>5 | 4=>4 | 0=>0 | 116=>318 | n=>n,fun | n=>n⟩
theorem Tryz.AiR:Go.Proofs.Lays.n228 Tryz.prog Tryz.Z2:={
 mixed:=by kernel_rfl
 f228:=Tryz.func249.trans (congrArg some (by kernel_rfl))
 t0:=Tryz.underlying0
 a0:=Tryz.isAgg0
 z0:=Tryz.sizeOf0
 v0:=Tryz.zeroValue0
 t4:=Tryz.underlying4
 a4:=Tryz.isAgg4
 z4:=Tryz.sizeOf4
 v4:=Tryz.zeroValue4
 t5:=Tryz.underlying5
 a5:=Tryz.isAgg5
 z5:=Tryz.sizeOf5
 v5:=Tryz.zeroValue5
 t116:=Tryz.underlying318
 a116:=Tryz.isAgg318
 z116:=Tryz.sizeOf318
 t124:=Tryz.underlying322
 a124:=Tryz.isAgg322
 z124:=Tryz.sizeOf322
 v124:=Tryz.zeroValue322 }
open Go.RowKit Go.Lib in
theorem Tryz.asciiSet_contains(b:Nat)(x:UInt8)(v:Bool)(w:World)(hc:w.cell? ⟨b,x.toNat,none⟩=some (.bool v)) :
  Calls Tryz.prog 249 #[.pointer (some ⟨b,0,none⟩),.int .u8 x.toNat] w λ e w'=>e=.returned (.bool v)/\w'=w:=Any.asciiSet_contains Tryz.AiR b x v w hc
def Tryz.Vf:Go.Shelf.Ren:=⟨fun | 20=>126 | n=>n,fun | 22=>109 | 3=>3 | 4=>4 | 0=>0 | n=>n,fun | n=>n⟩
theorem Tryz.Wa:Go.Proofs.Lays2.n20 Tryz.prog Tryz.Vf:={
 mixed:=by kernel_rfl
 f20:=Tryz.func126.trans (congrArg some (by kernel_rfl))
 t0:=Tryz.underlying0
 a0:=Tryz.isAgg0
 z0:=Tryz.sizeOf0
 v0:=Tryz.zeroValue0
 t3:=Tryz.underlying3
 a3:=Tryz.isAgg3
 z3:=Tryz.sizeOf3
 v3:=Tryz.zeroValue3
 t4:=Tryz.underlying4
 a4:=Tryz.isAgg4
 z4:=Tryz.sizeOf4
 v4:=Tryz.zeroValue4
 t22:=Tryz.underlying109
 a22:=Tryz.isAgg109
 z22:=Tryz.sizeOf109
 v22:=Tryz.zeroValue109
 i3:=by kernel_rfl }
open Go.RowKit Go.Lib Go.Sort in
theorem Tryz.slices_Compact_int(CK off cap:Nat)(zs:List Int)(w:World)(hH:Holds (Value.int .i64) w CK off zs.toArray)(av:zs.length<=9223372036854775807)(cj:zs.length<=cap) :
  Calls Tryz.prog 126 #[.slice (some ⟨CK,off,none⟩) zs.length cap] w λ e w'=>e=.returned (.slice (some ⟨CK,off,none⟩) (Lib.compact zs).length cap)/\∃ q,w'=putRow (Value.int .i64) (Sort.ahead w q) CK off (Lib.compact zs++List.replicate (zs.length-(Lib.compact zs).length) 0).toArray:=Any.slices_Compact_int Tryz.Wa CK off cap zs w hH av cj
open Go.RowKit Go.Lib Go.Sort in
theorem Tryz.slices_Compact_int_empty(a:Option Addr)(cap:Nat)(w:World) :
  Calls Tryz.prog 126 #[.slice a 0 cap] w λ e w'=>e=.returned (.slice a 0 cap)/\w'=w:=Any.slices_Compact_int_empty Tryz.Wa a cap w
open Go.RowKit Go.Sort in
theorem Tryz.slices_Sort_string_none(p:Option Addr)(cap:Nat)(w:World) :
  Calls Tryz.prog 200 #[.slice p 0 cap] w λ e w'=>e=.returned (.tuple #[])/\w'=w:=Any.slices_Sort_string_none Tryz.Adn p cap w
open Go.RowKit Go.Sort in
theorem Tryz.slices_Sort_int_none(p:Option Addr)(cap:Nat)(w:World) :
  Calls Tryz.prog 125 #[.slice p 0 cap] w λ e w'=>e=.returned (.tuple #[])/\w'=w:=Any.slices_Sort_int_none Tryz.Adm p cap w
end Go.Proofs
namespace Go.Dn
open _root_.List renaming length_cons -> AnQ, replicate -> AnP
set_option linter.unusedVariables false
set_option maxRecDepth 100000
open Go.RowKit (Below)
theorem IQ(kd:IntKind):∀(us:List Int) {n:Nat} {f:List Value->Prop},us.length=n->f (us.map (.int kd))->Gn (AnP n (.int kd 0)) f
 | [],_,_,hn,h=>by subst hn;exact h
 | u :: us,_,_,hn,h=>by subst hn;exact⟨u,IQ kd us rfl h⟩
theorem SM(kd:IntKind):∀(us:List Int) {n:Nat} {a:Addr} {i:Nat} {k:List Value->Prop} {w:World},us.length=n->(∀ j u,us[j]?=some u->w.cell? (a.add (i+j))=some (.int kd u)) ->
  k (us.map (.int kd))->CZ (AnP n (.int kd 0)) a i k w
 | [],_,_,_,_,_,hn,_,h=>by subst hn;exact h
 | u :: us,_,a,i,k,w,hn,hc,h=>by
  subst hn;exact⟨u,hc 0 u rfl,SM kd us rfl (λ j x hj=>by have:=hc (j+1) x (by simpa using hj);rwa [show i+(j+1)=i+1+j by omega] at this) h⟩
theorem NS(kd:IntKind)(us:List Int){n:Nat}{a:Addr}{k:List Value->Prop}{w:World}(hn:us.length=n)(hr:Rd w (some a) (us.map (.int kd)))(h:k (us.map (.int kd))) :
  CZ (AnP n (.int kd 0)) a 0 k w :=
 SM kd us hn (λ j u hj=>by
  obtain⟨p,hp,hc⟩:=hr j (.int kd u) (by simp [hj]);cases hp;simpa using hc) h
def Qy:Array Value->Nat->List Value->Array Value
 | cs,_,[]=>cs
 | cs,i,v :: vs=>Qy (cs.setIfInBounds i v) (i+1) vs
theorem MM:∀(vs:List Value) (cs:Array Value) (i:Nat),i+vs.length<=cs.size->(Qy cs i vs).toList=cs.toList.take i++vs++cs.toList.drop (i+vs.length)
 | [],cs,i,_=>by simp [Qy]
 | v :: vs,cs,i,h=>by
  simp only [AnQ] at h;rw [Qy,MM vs _ _ (by simp;omega)];apply List.ext_getElem?;intro j;simp only [Array.toList_setIfInBounds,AnQ,List.getElem?_append,List.length_append,List.length_take,List.length_set,Array.length_toList,List.getElem?_take,List.getElem?_drop]
  grind
theorem UG(vs:List Value)(cs:Array Value)(h:vs.length=cs.size):Qy cs 0 vs=⟨vs⟩:=by
 apply Array.ext';rw [MM vs cs 0 (by omega)];simp [h]
theorem MU:∀(vs:List Value) {w:World} {b:Nat} {cs:Array Value} {t:TypeId} {i:Nat} {k:World->Prop},w.heap[b]?=some (.cells cs t (0,0))->i+vs.length<=cs.size->(∀ v∈vs,v.oneCell'=true) ->
  (∀ w',Ae (·=b) w w'->w'.heap[b]?=some (.cells (Qy cs i vs) t (0,0))->k w')->BW vs ⟨b,0,none⟩ i k w
 | [],w,_,_,_,_,_,hb,_,_,hk=>hk w (.refl _ w) hb
 | v :: vs,w,b,cs,t,i,k,hb,hi,h1,hk=>by
  simp only [AnQ] at hi;unfold BW;rw [h1 v (by simp),Am,Nat.zero_add];exact Fb hb (by omega) λ w1 K1 dC=>MU vs dC (by simp;omega) (λ x hx=>h1 x (by simp [hx])) λ w2 K2 d'=>hk w2 (K1.trans K2 (λ _ _ h=>h)) d'
theorem SH.Hh{F:Nat->Prop}{w0 w:World}{H:List Yy}(S:SH F w0 w H)(n:Nat){b:Nat}{cs:Array Value}{t:TypeId}(hn:H[n]?=some (b,cs,t)){vs:List Value}(hl:vs.length=cs.size)(h1:∀ v∈vs,v.oneCell'=true)
  {k:World->Prop} (hk:∀ w',Ae (·=b) w w'->SH F w0 w' (H.set n (b,⟨vs⟩,t))->k w'):BW vs ⟨b,0,none⟩ 0 k w :=
 MU vs (S.get n hn) (by omega) h1 λ w' K hb=>hk w' K (S.setAt n hn K (by rw [UG vs cs hl] at hb;exact hb))
theorem TV(kd:IntKind)(us:List Int):∀ v∈us.map (Value.int kd),v.oneCell'=true:=by
 intro v hv;obtain⟨u,_,rfl⟩:=List.mem_map.1 hv;rfl
end Go.Dn
namespace Go.Proofs.YtoepjfblppfabaaGreatDoor
open _root_.BitVec renaming ofInt -> Am6
set_option maxRecDepth 100000
open Go.Dn Go.Proofs
set_option linter.unusedVariables false
abbrev Wd:=BitVec 32
def wI(x:Wd):Int:=(x.toNat:Int)
def Ak5(x:Wd)(r:Nat):Wd:=(x >>> r) ||| (x <<< (32-r))
theorem AjV(x:Wd)(k:Nat):Am6 32 (IntKind.u32.wrap ((x.toNat:Int)*2 ^ k))=x <<< k:=by
 rw [Dt];apply BitVec.eq_of_toNat_eq;rw [BitVec.toNat_ofInt,BitVec.toNat_shiftLeft,Nat.shiftLeft_eq];have:((x.toNat:Int)*2 ^ k)=((x.toNat*2 ^ k:Nat):Int):=by simp
 rw [this];omega
theorem Amn(x:Wd)(k:Nat):Am6 32 (Int.fdiv (x.toNat:Int) (2 ^ k))=x >>> k:=by
 rw [I9,BU]
theorem AfV(x y:Wd):IntKind.u32.wrap ((x.toNat:Int)+(y.toNat:Int))=((x+y).toNat:Int):=by
 rw [wrap_u32,BitVec.toNat_add];omega
theorem AdR(x y:Wd):IntKind.u32.wrap (((Am6 32 (x.toNat:Int) ^^^ Am6 32 (y.toNat:Int)).toNat:Int))=((x ^^^ y).toNat:Int):=by
 rw [BU,BU,CV]
theorem Ahj(x:Wd)(r:Nat)(hr:r=16\/r=12\/r=8\/r=7)(w:World) :
  Calls Tryz.prog f.Jm #[.int .u32 (x.toNat:Int),.int .i64 (IntKind.i64.wrap (0-(r:Int)))] w (AB λ v w'=>v=.int .u32 ((Ak5 x r).toNat:Int)/\w'=w):=by
 have e1:IntKind.u64.wrap (((Am6 64 (IntKind.u64.wrap (IntKind.i64.wrap (0-(r:Int)))) &&& Am6 64 31).toNat:Int))=((32-r:Nat):Int):=by
  rcases hr with rfl | rfl | rfl | rfl <;> rfl
 have e2:IntKind.u64.wrap (32-((32-r:Nat):Int))=(r:Int):=by
  rcases hr with rfl | rfl | rfl | rfl <;> rfl
 have aB:r<32:=by omega
 apply R.Gc
 delta R.V R.Wu R.Wv;try dsimp only [R.Ps]
 rw [e1,e2];refine⟨by omega,by omega,?_,rfl⟩;rw [Int.toNat_natCast,Int.toNat_natCast,Nat.min_eq_left (by omega),Nat.min_eq_left (by omega),AjV,Amn,CV,BitVec.or_comm];rfl
def V3(a b c d x:Wd)(r s:Nat):Wd × Wd × Wd × Wd :=
 let a:=a+(b+x);let d:=Ak5 (d ^^^ a) r;let c:=c+d;let b:=Ak5 (b ^^^ c) s
 (a,b,c,d)
theorem Adg(a b c d x:Wd)(r s:Nat)(hr:r=16\/r=12\/r=8\/r=7)(hs:s=16\/s=12\/s=8\/s=7)(w:World) :
  Calls Tryz.prog f.AeG #[.int .u32 (a.toNat:Int),.int .u32 (b.toNat:Int),.int .u32 (c.toNat:Int),.int .u32 (d.toNat:Int),.int .u32 (x.toNat:Int),.int .i64 (r:Int),.int .i64 (s:Int)] w
   (AB λ v w'=>v=.tuple #[.int .u32 ((V3 a b c d x r s).1.toNat:Int),.int .u32 ((V3 a b c d x r s).2.1.toNat:Int),.int .u32 ((V3 a b c d x r s).2.2.1.toNat:Int),.int .u32 ((V3 a b c d x r s).2.2.2.toNat:Int)]/\w'=w):=by
 apply R.RQ
 delta R.Cv R.H R.I R.V R.W R.Wv;try dsimp only [R.Ps]
 rw [AfV,AfV,AdR];refine (Ahj _ r hr w).mono ?_;rintro _ w ⟨_,rfl,rfl,rfl⟩;refine⟨_,rfl,?_⟩;rw [AfV,AdR];refine (Ahj _ s hs w).mono ?_;rintro _ w ⟨_,rfl,rfl,rfl⟩;exact⟨_,rfl,rfl,rfl⟩
end Go.Proofs.YtoepjfblppfabaaGreatDoor
namespace Go.Proofs.YtoepjfblppfabaaGreatDoor
open _root_.Int renaming toNat_natCast -> AnF
open _root_.List renaming replicate -> AnP
open _root_.Nat renaming mul_one -> AnI, zero_add -> Anu
set_option maxRecDepth 100000
open Go.Dn Go.Proofs
open Go.RowKit (Below)
set_option linter.unusedVariables false
def wV(x:Wd):Value:=.int .u32 (x.toNat:Int)
theorem XD(v:List Wd):v.map wV=(v.map wI).map (.int .u32):=by simp [wV,wI]
theorem YB(v:List Wd){n:Nat}{f:List Value->Prop}(hn:v.length=n)(h:f (v.map wV)):Gn (AnP n (.int .u32 0)) f :=
 IQ .u32 (v.map wI) (by simpa using hn) (by rw [<- XD];exact h)
theorem EO(v:List Wd){n:Nat}{a:Addr}{k:List Value->Prop}{w:World}(hn:v.length=n)(hr:Rd w (some a) (v.map wV))(h:k (v.map wV)):CZ (AnP n (.int .u32 0)) a 0 k w :=
 NS .u32 (v.map wI) (by simpa using hn) (by rw [<- XD];exact hr) (by rw [<- XD];exact h)
theorem QF(v:List Wd):∀ x∈v.map wV,x.oneCell'=true:=by
 rw [XD];exact TV _ _
theorem FH{vs:List Value}{n:Nat}{X:Prop}(h:vs.length=n)(hx:X):bif (Nat.beq (List.length vs) n && true) then X else False:=by
 subst h;rw [Nat.beq_refl];exact hx
section
variable {F:Nat->Prop}{w0 w:World}{H:List Yy}
theorem _root_.Go.Dn.SH.wd(S:SH F w0 w H)(n:Nat){b:Nat}{v:List Wd}{t:TypeId}(hn:H[n]?=some (b,⟨v.map wV⟩,t)){j x:Nat}(hj:j<v.length)(hx:x=j):w.cell? ((⟨b,0,none⟩:Addr).add (x*1))=some (.int .u32 ((v.getD j 0).toNat:Int)):=by
 subst hx;rw [Am,Anu,AnI];refine S.cell n hn ?_;simp [hj,wV]
theorem _root_.Go.Dn.SH.by8(S:SH F w0 w H)(n:Nat){b:Nat}{v:List Int}{t:TypeId}(hn:H[n]?=some (b,⟨v.map (.int .u8)⟩,t)){j x:Nat}(hj:j<v.length)(hx:x=j):w.cell? ((⟨b,0,none⟩:Addr).add (x*1))=some (.int .u8 (v.getD j 0)):=by
 subst hx;rw [Am,Anu,AnI];refine S.cell n hn ?_;simp [hj]
theorem _root_.Go.Dn.SH.Ro(S:SH F w0 w H)(n:Nat){b:Nat}{v:List Wd}{t:TypeId}(hn:H[n]?=some (b,⟨v.map wV⟩,t)){j x:Nat}(hj:j<v.length)(hx:x=j){y:Wd}{k:World->Prop}
  (hk:∀ w',SH F w0 w' (H.set n (b,⟨(v.set j y).map wV⟩,t))->k w'):Cd ((⟨b,0,none⟩:Addr).add (x*1)) (.int .u32 (y.toNat:Int)) k w:=by
 subst hx;rw [Am,Anu,AnI];refine S.Cr n hn (by simpa using hj) λ w' S'=>hk w' ?_;have e:(⟨v.map wV⟩:Array Value).setIfInBounds x (.int .u32 (y.toNat:Int))=⟨(v.set x y).map wV⟩:=by
  apply Array.ext';simp [wV,List.map_set]
 rw [e] at S';exact S'
theorem _root_.Go.Dn.SH.AmU(S:SH F w0 w H){z0 z1 z2 z3 v0 v1 v2 v3:Value}{t:TypeId}{k:Nat->World->Prop}(hk:∀ b w',SH F w0 w' ((b,#[v0,v1,v2,v3],t) :: H)->k b w') :
  C0 #[z0,z1,z2,z3] t (λ b w=>Cd ⟨b,0,none⟩ v0 (λ w=>Cd ⟨b,1,none⟩ v1 (λ w=>Cd ⟨b,2,none⟩ v2 (λ w=>Cd ⟨b,3,none⟩ v3 (λ w=>k b w) w) w) w) w) w :=
 S.Aj λ b w1 _ _ S1=>S1.Cr 0 rfl (by simp) λ w2 S2=>S2.Cr 0 rfl (by simp) λ w3 S3=>S3.Cr 0 rfl (by simp) λ w4 S4=>S4.Cr 0 rfl (by simp) λ w5 S5=>hk b w5 S5
end
def Eu:List Wd:=[0x6a09e667,0xbb67ae85,0x3c6ef372,0xa54ff53a,0x510e527f,0x9b05688c,0x1f83d9ab,0x5be0cd19]
def OK:List Int:=[0,1,2,3,4,5,6,7,8,9,10,11,12,13,14,15,
 14,10,4,8,9,15,13,6,1,12,0,2,11,7,5,3,
 11,8,12,0,5,2,15,13,10,14,3,6,7,1,9,4,
 7,9,3,1,13,12,11,14,2,6,5,10,4,0,15,8,
 9,0,5,7,2,4,10,15,14,1,11,12,6,8,3,13,
 2,12,6,10,0,11,8,3,4,13,7,5,15,14,1,9,
 12,5,1,15,14,13,4,10,0,7,6,3,9,2,8,11,
 13,11,7,14,12,1,3,9,5,0,15,4,8,6,2,10,
 6,15,14,9,11,3,0,8,12,2,13,7,1,4,10,5,
 10,2,8,4,7,6,1,5,15,11,9,14,3,12,13,0]
def FQ:List Int:=[0,4,8,12,1,5,9,13,2,6,10,14,3,7,11,15,0,5,10,15,1,6,11,12,2,7,8,13,3,4,9,14]
def gE(i j:Nat):Nat:=(FQ.getD (i*4+j) 0).toNat
def KU(r:Nat):List Int:=(OK.drop (r*16)).take 16
def ord(r j:Nat):Nat:=((KU r).getD j 0).toNat
theorem XM:∀ i,i<8->∀ j,j<4->gE i j<16:=by decide
theorem Ag8:∀ r,r<10->∀ j,j<16->ord r j<16:=by decide
theorem Ag7:∀ r,r<10->∀ j,j<16->(KU r).getD j 0=(ord r j:Int):=by decide
theorem AkZ:∀ i,i<8->(FQ.drop (i*4)).take 4=[(gE i 0:Int),(gE i 1:Int),(gE i 2:Int),(gE i 3:Int)]:=by decide
theorem Jp:∀ r,r<10->(KU r).length=16:=by decide
def AjZ(m:List Wd)(r i:Nat)(v:List Wd):List Wd :=
 let h1:=V3 (v.getD (gE i 0) 0) (v.getD (gE i 1) 0) (v.getD (gE i 2) 0) (v.getD (gE i 3) 0) (m.getD (ord r (2*i)) 0) 16 12;let h2:=V3 h1.1 h1.2.1 h1.2.2.1 h1.2.2.2 (m.getD (ord r (2*i+1)) 0) 8 7
 (((v.set (gE i 0) h2.1).set (gE i 1) h2.2.1).set (gE i 2) h2.2.2.1).set (gE i 3) h2.2.2.2
def TQ(m:List Wd)(r:Nat)(v:List Wd):Nat->List Wd
 | 0=>v
 | i+1=>AjZ m r i (TQ m r v i)
def FA(m v:List Wd):Nat->List Wd
 | 0=>v
 | r+1=>TQ m r (FA m v r) 8
theorem Nc(m:List Wd)(r:Nat)(v:List Wd):∀ i,(TQ m r v i).length=v.length
 | 0=>rfl
 | i+1=>by simp [TQ,AjZ,Nc m r v i]
theorem Nn(m v:List Wd):∀ r,(FA m v r).length=v.length
 | 0=>rfl
 | r+1=>by simp [FA,Nc,Nn m v r]
structure PB(w:World):Prop where
 first:Rd w (some ⟨0,0,none⟩) (Eu.map wV)
 orders:Rd w (some ⟨2,0,none⟩) (OK.map (.int .u8))
 places:Rd w (some ⟨3,0,none⟩) (FQ.map (.int .u8))
theorem PB.grown{w w':World}(h:PB w)(B:Below w.heap.size w w'):PB w':=⟨h.first.grown B,h.orders.grown B,h.places.grown B⟩
theorem AbY{x:Int}{n:Nat}(h:[Value.int .i64 x]=[.int .i64 (n:Int)]):x=(n:Int):=by simpa using h
theorem Afe{w:World}(T:PB w)(v m:List Wd)(hv:v.length=16)(hm:m.length=16) :
  Calls Tryz.prog f.ZJ #[.agg ⟨v.map wV⟩,.agg ⟨m.map wV⟩] w (AB λ r w'=>r=.agg ⟨(FA m v 10).map wV⟩/\Below w.heap.size w w'):=by
 apply R.Ov
 delta R.A R.Ab R.B R.Abh R.D R.F R.I R.Lv R.Ly R.N R.Qi R.Ah R.V R.W R.X;try dsimp only [R.Ps]
 refine (SH.start (λ _=>False) w).Aj λ b3 w1 _ _ S=>S.Aj λ b4 w2 _ _ S=>S.Aj λ b5 w3 _ _ S=>?_;refine NS .u8 OK rfl (T.orders.grown S.below) ?_;refine⟨λ st w'=>∃ r:Nat,st=[.int .i64 (r:Int)]/\r<=10/\SH (λ _=>False) w w' [(b5,⟨AnP 16 (.int .u32 0)⟩,213),(b4,⟨m.map wV⟩,213),(b3,⟨(FA m v r).map wV⟩,213)],
  λ st _=>match st with | [.int _ t]=>(10-t).toNat | _=>0,⟨0,rfl,by omega,S⟩,?_⟩
 rintro t w4 ⟨r,aA,hr,S⟩;cases AbY aA;have hlen:=(Nn m v r).trans hv;refine Aa (λ aB=>⟨⟨by omega,aB⟩,?_⟩) (λ aL=>?_)
 ·have dJ:r<10:=by omega
  refine IQ .u8 (KU r) (Jp r dJ) ⟨by rw [AnF];simp [KU,List.map_take,List.map_drop],?_⟩;refine S.Aj λ eQ w6 _ _ S=>FH (by simp [Jp r dJ]) (S.Hh 0 rfl (by simp [Jp r dJ]) (TV _ _) λ w7 _ S=>?_);refine NS .u8 FQ rfl (T.places.grown S.below) ?_;refine⟨λ st w'=>∃ i:Nat,st=[.int .i64 (i:Int)]/\i<=8/\SH (λ _=>False) w w' [(eQ,⟨(KU r).map (.int .u8)⟩,303),(b5,⟨AnP 16 (.int .u32 0)⟩,213),(b4,⟨m.map wV⟩,213),(b3,⟨(TQ m r (FA m v r) i).map wV⟩,213)],
   λ st _=>match st with | [.int _ t]=>(8-t).toNat | _=>0,⟨0,rfl,by omega,S⟩,?_⟩
  rintro t w8 ⟨i,aA,hi,S⟩;cases AbY aA;have jT:=(Nc m r (FA m v r) i).trans hlen;refine Aa (λ dr=>⟨⟨by omega,dr⟩,?_⟩) (λ mh=>?_)
  ·have jR:i<8:=by omega
   refine⟨_,_,_,_,by rw [AnF,<- List.map_drop,<- List.map_take,AkZ i jR];rfl,?_⟩;have e2:IntKind.i64.wrap (2*(i:Int))=((2*i:Nat):Int):=by rw [wrap_i64 (by omega) (by omega)];omega
   have e3:IntKind.i64.wrap (((2*i:Nat):Int)+1)=((2*i+1:Nat):Int):=Ai (by omega);have p0:=XM i jR 0 (by omega);have p1:=XM i jR 1 (by omega);have p2:=XM i jR 2 (by omega);have p3:=XM i jR 3 (by omega);have o0:=Ag8 r dJ (2*i) (by omega);have o1:=Ag8 r dJ (2*i+1) (by omega);have aG:=Jp r dJ;rw [e2,e3];refine S.AmU λ lS bN S=>S.draw λ bF S=>?_;refine⟨⟨by omega,by omega⟩,_,S.cell 0 rfl rfl,⟨by omega,by omega⟩,_,S.wd 4 rfl (by omega) (AnF _),_,S.cell 0 rfl rfl,⟨by omega,by omega⟩,_,S.wd 4 rfl (by omega) (AnF _),
    _,S.cell 0 rfl rfl,⟨by omega,by omega⟩,_,S.wd 4 rfl (by omega) (AnF _),_,S.cell 0 rfl rfl,⟨by omega,by omega⟩,_,S.wd 4 rfl (by omega) (AnF _),
    _,(S.by8 1 rfl (by omega) (AnF _)).trans (by rw [Ag7 r dJ _ (by omega)]),⟨by omega,by omega⟩,_,S.wd 3 rfl (by omega) (AnF _),?_⟩
   refine (Adg _ _ _ _ _ 16 12 (by simp) (by simp) bF).mono ?_;rintro _ ay ⟨_,rfl,rfl,rfl⟩;refine⟨_,_,_,_,rfl,S.draw λ dY S=>?_⟩;refine⟨⟨by omega,by omega⟩,_,S.cell 0 rfl rfl,_,S.cell 0 rfl rfl,_,S.cell 0 rfl rfl,_,S.cell 0 rfl rfl,
    _,(S.by8 1 rfl (by omega) (AnF _)).trans (by rw [Ag7 r dJ _ (by omega)]),⟨by omega,by omega⟩,_,S.wd 3 rfl (by omega) (AnF _),?_⟩
   refine (Adg _ _ _ _ _ 8 7 (by simp) (by simp) dY).mono ?_;rintro _ gF ⟨_,rfl,rfl,rfl⟩;refine⟨_,_,_,_,rfl,S.cell 0 rfl rfl,S.cell 0 rfl rfl,S.cell 0 rfl rfl,S.cell 0 rfl rfl,⟨by omega,by omega⟩,S.Ro 4 rfl (by omega) (AnF _) λ gG S=>?_⟩;refine⟨S.cell 0 rfl rfl,S.cell 0 rfl rfl,S.cell 0 rfl rfl,⟨by omega,by omega⟩,S.Ro 4 rfl (by simp;omega) (AnF _) λ jD S=>?_⟩;refine⟨S.cell 0 rfl rfl,S.cell 0 rfl rfl,⟨by omega,by omega⟩,S.Ro 4 rfl (by simp;omega) (AnF _) λ iP S=>?_⟩;refine⟨S.cell 0 rfl rfl,⟨by omega,by omega⟩,S.Ro 4 rfl (by simp;omega) (AnF _) λ iQ S=>?_⟩;rw [Ai (by omega)];exact⟨⟨i+1,rfl,by omega,S.drop 1⟩,by show (8-((i+1:Nat):Int)).toNat<(8-(i:Int)).toNat;omega⟩
  ·have jR:i=8:=by omega
   subst jR;rw [Ai (by omega)];exact⟨⟨r+1,rfl,by omega,S.drop 1⟩,by show (10-((r+1:Nat):Int)).toNat<(10-(r:Int)).toNat;omega⟩
 ·have dJ:r=10:=by omega
  have bQ:((FA m v r).map wV).length=16:=by rw [List.length_map];exact hlen
  refine EO (FA m v r) hlen (Rd.Ak (S.get 2 rfl)) ?_;refine FH bQ (S.Hh 0 rfl bQ (QF _) λ w5 _ S=>?_);exact EO (FA m v r) hlen (Rd.Ak (S.get 0 rfl)) ⟨by rw [dJ],S.below⟩
end Go.Proofs.YtoepjfblppfabaaGreatDoor
namespace Go.Dn
set_option linter.unusedVariables false
set_option maxRecDepth 100000
open Go.RowKit (Below)
theorem SH.copy{F:Nat->Prop}{w0 w:World}{H:List Yy}(S:SH F w0 w H)(n:Nat){b:Nat}{cs:Array Value}{t:TypeId}(hn:H[n]?=some (b,cs,t)){P:Program}{dT sT ty elem:TypeId}(hu:P.underlying dT=some (.slice elem))
  (hs:(P.info? elem).map (·.size)=some 1) {a:Option Addr} {xs:List Value} {dh kY bT jf:Nat} (hx:xs.length=dh) (hd:bT<=cs.size) (hr:Rd w a xs) (h1:∀ v∈xs,v.oneCell'=true) {f:Value->World->Prop}
  (hf:∀ w',Ae (·=b) w w'->SH F w0 w' (H.set n (b,⟨xs.take bT++cs.toList.drop (min dh bT)⟩,t))->f (.int .i64 ((min dh bT:Nat):Int)) w') :
  CD P (Builtin.copy_ #[dT,sT] ty #[.slice (some ⟨b,0,none⟩) bT jf,.slice a dh kY]) f w:=by
 have hg:=S.get n hn;cases a with
 | none =>
  have iN:xs=[]:=by
   cases xs with
   | nil=>rfl
   | cons x r =>
    obtain⟨p,hp,_⟩:=hr 0 x rfl;cases hp
  subst iN;have yO:dh=0:=hx.symm;subst yO;unfold CD;rw [run_copy_none w dT sT ty elem (some ⟨b,0,none⟩) none bT jf 0 kY hu hs (by simp)];have:=hf w (.refl _ w) (S.setAt n hn (.refl _ w) (by simpa using hg));simpa [goInt] using this
 | some p =>
  have hl:(xs.take bT).length=Nat.min dh bT:=by rw [List.length_take,hx];exact Nat.min_comm _ _
  have hc:=run_copy_row P w dT sT ty elem b 0 bT jf p dh kY cs t (xs.take bT) hu hs hg hl (λ j v hj=>by
   rw [List.getElem?_take] at hj;split at hj
   ·obtain⟨q,hq,hc⟩:=hr j v hj;cases hq;exact hc
   ·cases hj) (by rw [hl,Nat.zero_add];exact Nat.le_trans (Nat.min_le_right _ _) hd) (λ v hv=>h1 v (List.mem_of_mem_take hv))
  unfold CD;rw [hc];have eG:(xs.take bT).length=min dh bT:=hl;have e:(cs.toList.take 0++xs.take bT++cs.toList.drop (0+(xs.take bT).length)).toArray=⟨xs.take bT++cs.toList.drop (min dh bT)⟩:=by
   rw [eG];simp
  rw [e];have:=hf _ (D3 w b _) (S.setAt n hn (D3 w b _) (FP hg));simpa only [goInt,eG] using this
end Go.Dn
namespace Go.Proofs.YtoepjfblppfabaaGreatDoor
open _root_.BitVec renaming ofInt -> Am6, ofNat -> AnR
open _root_.Int renaming toNat_natCast -> AnF
open _root_.List renaming replicate -> AnP
open _root_.Nat renaming mul_one -> AnI
set_option maxRecDepth 100000
open Go.Dn Go.Proofs
open Go.RowKit (Below)
set_option linter.unusedVariables false
def uI(c:UInt8):Int:=(c.toNat:Int)
theorem LX(l:List UInt8):l.map Af=(l.map uI).map (.int .u8):=by simp [Af,uI,Function.comp_def]
theorem NR(l:List UInt8){n:Nat}{a:Addr}{k:List Value->Prop}{w:World}(hn:l.length=n)(hr:Rd w (some a) (l.map Af))(h:k (l.map Af)):CZ (AnP n (.int .u8 0)) a 0 k w :=
 NS .u8 (l.map uI) (by simpa using hn) (by rw [<- LX];exact hr) (by rw [<- LX];exact h)
section
variable {F:Nat->Prop}{w0 w:World}{H:List Yy}
theorem _root_.Go.Dn.SH.wd'(S:SH F w0 w H)(n:Nat){b:Nat}{v:List Wd}{t:TypeId}(hn:H[n]?=some (b,⟨v.map wV⟩,t)){j:Nat}(hj:j<v.length):w.cell? ⟨b,j,none⟩=some (.int .u32 ((v.getD j 0).toNat:Int)):=by
 have:=S.wd n hn hj rfl;rwa [Am,Nat.zero_add,AnI] at this
theorem _root_.Go.Dn.SH.Yo(S:SH F w0 w H)(n:Nat){b:Nat}{v:List Wd}{t:TypeId}(hn:H[n]?=some (b,⟨v.map wV⟩,t)){j:Nat}(hj:j<v.length){y:Wd}{k:World->Prop}
  (hk:∀ w',SH F w0 w' (H.set n (b,⟨(v.set j y).map wV⟩,t))->k w'):Cd ⟨b,j,none⟩ (.int .u32 (y.toNat:Int)) k w:=by
 have:=S.Ro n hn hj rfl hk;rwa [Am,Nat.zero_add,AnI] at this
end
def byW(c:UInt8):Wd:=AnR 32 c.toNat
def mO(CK:List UInt8):Nat->List Wd
 | 0=>AnP 16 0
 | i+1=>(mO CK i).set (i / 4) ((mO CK i).getD (i / 4) 0 ||| (byW (CK.getD i 0) <<< (8*(i % 4))))
theorem AgZ(CK:List UInt8):∀ i,(mO CK i).length=16
 | 0=>by simp [mO]
 | i+1=>by simp [mO,AgZ CK i]
def vF(h:List Wd):Nat->List Wd
 | 0=>h++AnP 8 0
 | i+1=>(vF h i).set (8+i) (Eu.getD i 0)
theorem AhU(h:List Wd)(hh:h.length=8):∀ i,(vF h i).length=16
 | 0=>by simp [vF,hh]
 | i+1=>by simp [vF,AhU h hh i]
def vN(v:List Wd)(n:Nat)(last:Bool):List Wd :=
 let v:=v.set 12 (v.getD 12 0 ^^^ AnR 32 n);let v:=v.set 13 (v.getD 13 0 ^^^ AnR 32 (n / 4294967296))
 if last then v.set 14 (4294967295 ^^^ v.getD 14 0) else v
theorem Alr(v:List Wd)(n:Nat)(last:Bool):(vN v n last).length=v.length:=by
 unfold vN;cases last <;> simp
def hF(h v:List Wd):Nat->List Wd
 | 0=>h
 | i+1=>(hF h v i).set i ((hF h v i).getD i 0 ^^^ (v.getD i 0 ^^^ v.getD (i+8) 0))
theorem AbT(h v:List Wd):∀ i,(hF h v i).length=h.length
 | 0=>rfl
 | i+1=>by simp [hF,AbT h v i]
def Aaa(h:List Wd)(CK:List UInt8)(n:Nat)(last:Bool):List Wd:=hF h (FA (mO CK 64) (vN (vF h 8) n last) 10) 8
theorem Aj2(i:Nat)(h:i<64):IntKind.i64.wrap (Int.tdiv (i:Int) 4)=((i / 4:Nat):Int):=by
 rw [Int.tdiv_eq_ediv_of_nonneg (by omega),wrap_i64 (by omega) (by omega)];omega
theorem Aj3(i:Nat)(h:i<64):IntKind.i64.wrap (8*Int.tmod (i:Int) 4)=((8*(i % 4):Nat):Int):=by
 rw [Int.tmod_eq_emod_of_nonneg (by omega),wrap_i64 (by omega) (by omega)];omega
theorem AiC(c:UInt8):IntKind.u32.wrap (c.toNat:Int)=((byW c).toNat:Int):=by
 have:=c.toNat_lt;rw [Rr (by omega) (by omega),byW,BitVec.toNat_ofNat];omega
theorem Ai5{w:World}(T:PB w)(h:List Wd)(hh:h.length=8)(CK:List UInt8)(hb:CK.length=64)(n:Nat)(hn:n<18446744073709551616)(last:Bool) :
  Calls Tryz.prog f.RR #[.agg ⟨h.map wV⟩,.agg ⟨CK.map Af⟩,.int .u64 (n:Int),.bool last] w (AB λ r w'=>r=.agg ⟨(Aaa h CK n last).map wV⟩/\Below w.heap.size w w'):=by
 apply R.JX
 delta R.A R.Ab R.B R.D R.F R.I R.Lv R.Qi R.Ri R.S R.Ah R.V R.W R.Wv R.X R.Y R.Z;try dsimp only [R.Ps]
 refine (SH.start (λ _=>False) w).Aj λ b5 w1 _ _ S=>S.Aj λ b6 w2 _ _ S=>S.Aj λ b7 w3 _ _ S=>S.Aj λ b8 w4 _ _ S=>S.Aj λ b9 w5 _ _ S=>?_;refine NR CK hb (Rd.Ak (S.get 3 rfl)) ?_;refine⟨λ st w'=>∃ i:Nat,st=[.int .i64 (i:Int)]/\i<=64/\SH (λ _=>False) w w' [(b9,⟨(mO CK i).map wV⟩,213),(b8,⟨AnP 16 (.int .u32 0)⟩,213),(b7,⟨AnP 8 (.int .u32 0)⟩,143),(b6,⟨CK.map Af⟩,144),(b5,⟨h.map wV⟩,143)],
  λ st _=>match st with | [.int _ t]=>(64-t).toNat | _=>0,⟨0,rfl,by omega,S⟩,?_⟩
 rintro t w6 ⟨i,aA,hi,S⟩;cases AbY aA;have jV:=AgZ CK i;refine Aa (λ aB=>⟨⟨by omega,aB⟩,?_⟩) (λ aL=>?_)
 ·have gj:i<64:=by omega
  have e1:=Aj2 i gj;have e2:=Aj3 i gj;refine⟨uI (CK.getD i 0),?_,S.draw λ w7 S=>?_⟩
  ·rw [AnF,AnI];simp [hb,gj,Af,uI]
  ·rw [e1,e2];refine⟨⟨by omega,by omega⟩,by omega,_,S.wd 0 rfl (by omega) (AnF _),⟨by omega,by omega⟩,?_⟩;have e3:IntKind.u32.wrap (((Am6 32 (((mO CK i).getD (i / 4) 0).toNat:Int) ||| Am6 32 (IntKind.u32.wrap ((IntKind.u32.wrap (uI (CK.getD i 0)))*2 ^ (min ((((8*(i % 4):Nat):Int)).toNat) 32)))).toNat:Int))
     = (((mO CK i).getD (i / 4) 0 ||| (byW (CK.getD i 0) <<< (8*(i % 4)))).toNat:Int):=by
    rw [AnF,Nat.min_eq_left (by omega),uI,AiC,AjV,BU,CV]
   rw [e3];refine S.Ro 0 rfl (by omega) (AnF _) λ w8 S=>?_;rw [Ai (by omega)];exact⟨⟨i+1,rfl,by omega,S⟩,by show (64-((i+1:Nat):Int)).toNat<(64-(i:Int)).toNat;omega⟩
 ·have gj:i=64:=by omega
  refine S.draw λ w9 S=>⟨⟨by omega,by omega,by omega⟩,⟨by omega,by omega,by omega⟩,?_⟩;have hz:(AnP 8 (Value.int .u32 0))=(AnP 8 (0:Wd)).map wV:=rfl;refine S.copy 1 rfl (P:=Tryz.prog) (elem:=131) (by kernel_rfl) (by kernel_rfl) (a:=some ⟨b5,0,none⟩) (xs:=h.map wV) (by simpa using hh) (by simp) (Rd.Ak (S.get 4 rfl)) (QF h) λ cX _ S=>?_;have ev:(⟨(h.map wV).take 16++(AnP 16 (Value.int .u32 0)).drop (min 8 16)⟩:Array Value)=⟨(vF h 0).map wV⟩:=by
   rw [List.take_of_length_le (by simp [hh])];simp [vF,wV]
  replace S:=ev ▸ S
  refine⟨_,rfl,EO Eu rfl (T.first.grown S.below) ?_⟩;refine⟨λ st w'=>∃ j:Nat,st=[.int .i64 (j:Int)]/\j<=8/\SH (λ _=>False) w w' [(b9,⟨(mO CK i).map wV⟩,213),(b8,⟨(vF h j).map wV⟩,213),(b7,⟨AnP 8 (.int .u32 0)⟩,143),(b6,⟨CK.map Af⟩,144),(b5,⟨h.map wV⟩,143)],
   λ st _=>match st with | [.int _ t]=>(8-t).toNat | _=>0,⟨0,rfl,by omega,S⟩,?_⟩
  rintro t aW ⟨j,aA,hj,S⟩;cases AbY aA;have nW:=AhU h hh j;refine Aa (λ aB=>⟨⟨by omega,aB⟩,?_⟩) (λ aL=>?_)
  ·have oS:j<8:=by omega
   have e8:IntKind.i64.wrap (8+(j:Int))=((8+j:Nat):Int):=by rw [wrap_i64 (by omega) (by omega)];omega
   rw [e8];refine⟨((Eu.getD j 0).toNat:Int),?_,⟨by omega,by omega⟩,S.Ro 1 rfl (by omega) (AnF _) λ dN S=>?_⟩
   ·rw [AnF,AnI];have:j<Eu.length:=by simpa [Eu] using oS
    simp [this,wV]
   ·rw [Ai (by omega)];exact⟨⟨j+1,rfl,by omega,S⟩,by show (8-((j+1:Nat):Int)).toNat<(8-(j:Int)).toNat;omega⟩
  ·have oS:j=8:=by omega
   have wW:∀ x:Wd,IntKind.u32.wrap (((Am6 32 (x.toNat:Int) ^^^ Am6 32 (IntKind.u32.wrap (n:Int))).toNat:Int))=((x ^^^ AnR 32 n).toNat:Int):=by
    intro x;rw [Dt,BU,CV,BitVec.ofInt_natCast]
   have wX:∀ x:Wd,IntKind.u32.wrap (((Am6 32 (x.toNat:Int) ^^^ Am6 32 (IntKind.u32.wrap (Int.fdiv (n:Int) (2 ^ (min 32 64))))).toNat:Int))=((x ^^^ AnR 32 (n / 4294967296)).toNat:Int):=by
    intro x;have:Int.fdiv (n:Int) (2 ^ (min 32 64))=((n / 4294967296:Nat):Int):=by
     rw [show (2:Int) ^ (min 32 64)=4294967296 by rfl,Int.fdiv_eq_ediv_of_nonneg _ (by omega)];omega
    rw [this,Dt,BU,CV,BitVec.ofInt_natCast]
   have wY:∀ x:Wd,IntKind.u32.wrap (((Am6 32 4294967295 ^^^ Am6 32 (x.toNat:Int)).toNat:Int))=((4294967295 ^^^ x).toNat:Int):=by
    intro x;rw [BU,CV];rfl
   refine⟨_,S.wd' 1 rfl (by omega),?_⟩;rw [wW];refine S.Yo 1 rfl (by omega) λ bN S=>⟨_,S.wd' 1 rfl (by simp;omega),?_⟩;rw [wX];refine S.Yo 1 rfl (by simp;omega) λ bF S=>?_;refine⟨λ _ w'=>SH (λ _=>False) w w' [(b9,⟨(mO CK i).map wV⟩,213),(b8,⟨(vN (vF h j) n last).map wV⟩,213),(b7,⟨AnP 8 (.int .u32 0)⟩,143),(b6,⟨CK.map Af⟩,144),(b5,⟨h.map wV⟩,143)],?_,?_⟩
   ·refine AU (λ hl=>?_) (λ hl=>?_)
    ·subst hl;refine⟨_,S.wd' 1 rfl (by simp;omega),?_⟩;rw [wY];exact S.Yo 1 rfl (by simp;omega) λ ay S=>S
    ·subst hl;exact S
   ·intro dY S;have nX:(vN (vF h j) n last).length=16:=by rw [Alr];exact nW
    refine EO (vN (vF h j) n last) nX (Rd.Ak (S.get 1 rfl)) (EO (mO CK i) jV (Rd.Ak (S.get 0 rfl)) ?_);refine (Afe (T.grown S.below) _ _ nX jV).mono ?_;rintro _ gF ⟨_,rfl,rfl,ow⟩;have iv:(FA (mO CK i) (vN (vF h j) n last) 10).length=16:=by rw [Nn];exact nX
    generalize hV:FA (mO CK i) (vN (vF h j) n last) 10=V at iv ⊢;refine YB V iv ⟨rfl,FH (by simpa using iv) ?_⟩;refine (S.grown ow).Hh 1 rfl (by simp [nX,iv]) (QF _) λ gG _ S=>?_;refine⟨λ st w'=>∃ q:Nat,st=[.int .i64 (q:Int)]/\q<=8/\SH (λ _=>False) w w' [(b9,⟨(mO CK i).map wV⟩,213),(b8,⟨V.map wV⟩,213),(b7,⟨AnP 8 (.int .u32 0)⟩,143),(b6,⟨CK.map Af⟩,144),(b5,⟨(hF h V q).map wV⟩,143)],
     λ st _=>match st with | [.int _ t]=>(8-t).toNat | _=>0,⟨0,rfl,by omega,S⟩,?_⟩
    rintro t jD ⟨q,aA,hq,S⟩;cases AbY aA;have oO:=(AbT h V q).trans hh;refine Aa (λ aB=>S.draw λ iQ S=>?_) (λ aL=>?_)
    ·have e8:IntKind.i64.wrap ((q:Int)+8)=((q+8:Nat):Int):=by rw [wrap_i64 (by omega) (by omega)];omega
     rw [e8];refine⟨⟨by omega,aB⟩,⟨by omega,by omega⟩,⟨by omega,by omega⟩,_,S.wd 4 rfl (by omega) (AnF _),_,S.wd 1 rfl (by omega) (AnF _),_,S.wd 1 rfl (by omega) (AnF _),⟨by omega,aB⟩,?_⟩;rw [AdR,AdR];refine S.Ro 4 rfl (by omega) (AnF _) λ kZ S=>?_;rw [Ai (by omega)];exact⟨⟨q+1,rfl,by omega,S⟩,by show (8-((q+1:Nat):Int)).toNat<(8-(q:Int)).toNat;omega⟩
    ·have yG:q=8:=by omega
     have bQ:((hF h V q).map wV).length=8:=by rw [List.length_map];exact oO
     refine EO (hF h V q) oO (Rd.Ak (S.get 4 rfl)) (FH bQ (S.Hh 2 rfl bQ (QF _) λ iP _ S=>?_));refine EO (hF h V q) oO (Rd.Ak (S.get 2 rfl)) ⟨?_,S.below⟩;unfold Aaa;rw [<- oS,<- gj,hV];rw [show (hF h V q)=hF h V j by rw [yG,oS]]
end Go.Proofs.YtoepjfblppfabaaGreatDoor
