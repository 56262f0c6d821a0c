/-
  Texts of this claim, laid one behind the other by a program of mine (install.py): Dn.Mem, Dn.Laws, Dn.Str, Dn.Laws2, Dn.Laws3, Dn.Laws4, Z.Wire, Z.Wire2, Dn.Open, Z.Val, Z.Shelf, Dn.Arr, Z.Hash1, Z.Hash2, Dn.Arr2.
-/
import Derived.Test.YtegnhfeclchlmaaGreatDoorM2
import Derived.Below
import Derived.Laws.MakeOwn
import Derived.Laws.BytesString
import Derived.Laws.NewBlocks
import Derived.Laws.OwnMore
import Derived.Laws.StructEq
import Derived.Laws.Strings2
import Derived.Laws.BytesArg
import Derived.Test.YtegnhfeclchlmaaGreatDoorRead
import Derived.Test.YtegnhfeclchlmaaGreatDoorM1
import Derived.ChangeArms
import Derived.Deep.Slices
import Derived.OpenShut
import Derived.Shelf.Strings.Builder1
import Derived.Shelf.Strings.Builder2
import Derived.Shelf.Strings.OnBuilder
import Derived.Shelf.Strings.Trim
import Derived.Shelf.Small.Utf8
import Derived.Shelf.Small.Bits
import Derived.Shelf.Small.Strs
import Derived.Shelf.Strings.BuilderF
import Derived.Shelf.Utf8.RuneCount
import Derived.Shelf.Strings.Builder2Cap
import Derived.Shelf.Strconv.Itoa0
import Derived.Shelf.Strconv.Itoa1
import Derived.Shelf.LaysM
import Derived.Shelf.Strconv.Itoa2
import Derived.Shelf.Strconv.Itoa3
import Derived.Shelf.Strconv.Itoa4
import Derived.Shelf.Strings.Search1
import Derived.Shelf.Strings.Search2
import Derived.Shelf.Strings.Search3
import Derived.Shelf.Strings.Count
import Derived.Shelf.Strings.Shaped
import Derived.Shelf.Sort.Plain
import Derived.Shelf.Strings.Split
import Derived.Shelf.Strings.Replace
import Derived.Shelf.Strings.SplitShaped
import Derived.Shelf.Unicode.Decode
import Derived.Shelf.Strings.Runes
import Derived.Shelf.Strings.RuneCount
import Derived.Shelf.Strings.AsciiSet
import Derived.Shelf.Bits.Mul64
import Derived.Shelf.Unicode.DecodeSlow
import Derived.Shelf.Unicode.DecodeAny
import Derived.Shelf.Unicode.DecodeLast
import Derived.Ground.Names2Prog
import Derived.Shelf.Slices.Clone
import Derived.Shelf.Slices.CompactI
import Derived.Shelf.Slices.CompactS
import Derived.Shelf.Slices.SearchI
import Derived.Shelf.Slices.Cells
import Derived.Shelf.Slices.In.SortNone
import Derived.Ground.SlgnProg
import Derived.Shelf.SlicesE.Clone
import Derived.Test.YtegnhfeclchlmaaGreatDoorProg
import Derived.Laws.CopyRow
import Derived.Laws.IdiomCopy
namespace Go.Dn
open _root_.List renaming getElem?_eq_some_iff -> Aje, getElem?_set_ne -> Ajh, getElem?_set_self -> Ajg, mem_of_getElem? -> Ajd
open _root_.Nat renaming lt_of_lt_of_le -> Ajf
set_option linter.unusedVariables false
set_option maxRecDepth 100000
open Go.RowKit (Below)
/-! ## What stays -/
structure Aq(F:Nat->Prop)(w w':World):Prop where
 os:w'.os=w.os
 tape:w'.tape=w.tape
 output:w'.output=w.output
 size:w.heap.size<=w'.heap.size
 block:∀ k,k<w.heap.size->¬ F k->w'.heap[k]?=w.heap[k]?
theorem Aq.refl(F:Nat->Prop)(w:World):Aq F w w:=⟨rfl,rfl,rfl,Nat.le_refl _,λ _ _ _=>rfl⟩
theorem Aq.trans{F G:Nat->Prop}{a b c:World}(h:Aq F a b)(h':Aq G b c)(hs:∀ k,k<a.heap.size->G k->F k):Aq F a c :=
 ⟨h'.os.trans h.os,h'.tape.trans h.tape,h'.output.trans h.output,Nat.le_trans h.size h'.size,
  λ k hk hn=>(h'.block k (Ajf hk h.size) λ hg=>hn (hs k hk hg)).trans (h.block k hk hn)⟩
theorem Aq.mono{F G:Nat->Prop}{a b:World}(h:Aq F a b)(hs:∀ k,k<a.heap.size->F k->G k):Aq G a b :=
 ⟨h.os,h.tape,h.output,h.size,λ k hk hn=>h.block k hk λ hf=>hn (hs k hk hf)⟩
theorem Aq.AQ{F:Nat->Prop}{a b:World}(h:Below a.heap.size a b):Aq F a b:=⟨h.os,h.tape,h.output,h.size,λ k hk _=>h.block k hk⟩
theorem Aq.below{F:Nat->Prop}{a b:World}{B:Nat}(h:Aq F a b)(hB:B<=a.heap.size)(hs:∀ k,k<B->¬ F k):Below B a b :=
 ⟨h.os,h.tape,h.output,h.size,λ k hk=>h.block k (Ajf hk hB) (hs k hk)⟩
theorem Aq.alloc{F:Nat->Prop}{a w:World}(h:Aq F a w)(o:Obj):Aq F a (w.alloc o) :=
 ⟨h.os,h.tape,h.output,Nat.le_trans h.size (by simp),λ k hk hn=>(Below.heap_alloc w o k (Ajf hk h.size)).trans (h.block k hk hn)⟩
theorem Aq.drew{F:Nat->Prop}{a w:World}(h:Aq F a w):Aq F a w.drew:=⟨h.os,h.tape,h.output,h.size,h.block⟩
theorem Aq.setCell{F:Nat->Prop}{a w:World}(h:Aq F a w){p:Addr}(hp:F p.block\/a.heap.size<=p.block)(v:Value):Aq F a (w.setCell p v) :=
 ⟨h.os,h.tape,h.output,by simpa using h.size,λ k hk hn=>by
  rw [Below.heap_setCell w p v k (by rintro rfl;rcases hp with hp | hp;exact hn hp;omega)];exact h.block k hk hn⟩
theorem Aq.cell{F:Nat->Prop}{a b:World}(h:Aq F a b){p:Addr}{v:Value}(hc:a.cell? p=some v)(hn:¬ F p.block):b.cell? p=some v :=
 (World.cell?_of_block (w:=a) (h.block p.block (World.block_lt_of_cell? a p hc) hn)).trans hc
theorem Aq.at{F:Nat->Prop}{a b:World}(h:Aq F a b){k:Nat}{o:Obj}(hc:a.heap[k]?=some o)(hn:¬ F k):b.heap[k]?=some o :=
 (h.block k (Array.getElem?_eq_some_iff.1 hc).1 hn).trans hc
/-! ## Known blocks -/
abbrev Ent:=Nat × Array Value × TypeId
structure SH(F:Nat->Prop)(w0 w:World)(H:List Ent):Prop where
 keeps:Aq F w0 w
 mem:∀ x∈H,w.heap[x.1]?=some (.cells x.2.1 x.2.2 (0,0))
 nodup:(H.map (·.1)).Nodup
 own:∀ x∈H,F x.1\/w0.heap.size<=x.1
section
variable {F:Nat->Prop}{w0 w:World}{H:List Ent}
theorem SH.lt(S:SH F w0 w H){x:Ent}(hx:x∈H):x.1<w.heap.size:=(Array.getElem?_eq_some_iff.1 (S.mem x hx)).1
theorem SH.start(F:Nat->Prop)(w:World):SH F w w []:=⟨.refl F w,by simp,by simp,by simp⟩
theorem SH.alloc(S:SH F w0 w H)(cs:Array Value)(t:TypeId):SH F w0 (w.alloc (.cells cs t)) ((w.heap.size,cs,t) :: H) where
 keeps:=S.keeps.alloc _
 mem:=by
  intro x hx;rcases List.mem_cons.1 hx with rfl | hx
  ·exact heap_alloc_new w _
  ·rw [Below.heap_alloc w _ x.1 (S.lt hx)];exact S.mem x hx
 nodup:=by
  simp only [List.map_cons,List.nodup_cons];refine⟨λ hm=>?_,S.nodup⟩;obtain⟨x,hx,he⟩:=List.mem_map.1 hm;have:=S.lt hx;omega
 own:=by
  intro x hx;rcases List.mem_cons.1 hx with rfl | hx
  ·exact .inr S.keeps.size
  ·exact S.own x hx
theorem SH.drew(S:SH F w0 w H):SH F w0 w.drew H:=⟨S.keeps.drew,S.mem,S.nodup,S.own⟩
theorem SH.draw(S:SH F w0 w H){k:World->Prop}(hk:∀ w',SH F w0 w' H->k w'):AcU k w:=hk _ S.drew
theorem SH.get(S:SH F w0 w H)(n:Nat){b:Nat}{cs:Array Value}{t:TypeId}(hn:H[n]?=some (b,cs,t)):w.heap[b]?=some (.cells cs t (0,0)) :=
 S.mem _ (Ajd hn)
theorem SH.cell(S:SH F w0 w H)(n:Nat){b:Nat}{cs:Array Value}{t:TypeId}(hn:H[n]?=some (b,cs,t)){i:Nat}{v:Value}(hv:cs[i]?=some v):w.cell? ⟨b,i,none⟩=some v:=by
 have:=S.get n hn;simp [World.cell?,this,hv]
theorem SH.free(S:SH F w0 w H)(n:Nat){b:Nat}{cs:Array Value}{t:TypeId}(hn:H[n]?=some (b,cs,t))(i:Nat):w.frozen? ⟨b,i,none⟩=false:=by
 have:=S.get n hn;simp [World.frozen?,this]
theorem Aef{α:Type}{l:List α}(h:l.Nodup){i j:Nat}{x y:α}(hi:l[i]?=some x)(hj:l[j]?=some y)(aV:i≠j):x≠y:=by
 obtain⟨h1,rfl⟩:=Aje.1 hi;obtain⟨h2,rfl⟩:=Aje.1 hj;intro he;rcases Nat.lt_or_gt_of_ne aV with aB | aB
 ·exact (List.pairwise_iff_getElem.1 h) i j h1 h2 aB he
 ·exact (List.pairwise_iff_getElem.1 h) j i h2 h1 aB he.symm
theorem SH.setAt(S:SH F w0 w H)(n:Nat){b:Nat}{cs:Array Value}{t:TypeId}(hn:H[n]?=some (b,cs,t)){w':World}{aD:Array Value}(hk:Aq (·=b) w w')
  (hb:w'.heap[b]?=some (.cells aD t (0,0))):SH F w0 w' (H.set n (b,aD,t)) where
 keeps:=S.keeps.trans hk λ k aB he=>by
  subst he;rcases S.own _ (Ajd hn) with h | h
  ·exact h
  ·exact absurd aB (Nat.not_lt.2 h)
 mem:=by
  intro x hx;obtain⟨i,hi⟩:=List.mem_iff_getElem?.1 hx;by_cases cj:n=i
  ·subst cj;have aB:=(Aje.1 hn).1;rw [Ajg aB] at hi;cases hi;exact hb
  ·rw [Ajh cj] at hi;have aV:x.1≠b:=by
    refine Aef S.nodup (i:=i) (j:=n) ?_ ?_ (Ne.symm cj)
    ·simp [hi]
    ·simp [hn]
   exact hk.at (S.mem x (Ajd hi)) aV
 nodup:=by
  have:(H.set n (b,aD,t)).map (·.1)=H.map (·.1):=by
   apply List.ext_getElem?;intro i;simp only [List.getElem?_map];by_cases cj:n=i
   ·subst cj;have aB:=(Aje.1 hn).1;rw [Ajg aB,hn];rfl
   ·rw [Ajh cj]
  rw [this];exact S.nodup
 own:=by
  intro x hx;obtain⟨i,hi⟩:=List.mem_iff_getElem?.1 hx;by_cases cj:n=i
  ·subst cj;have aB:=(Aje.1 hn).1;rw [Ajg aB] at hi;cases hi;exact S.own (b,cs,t) (Ajd hn)
  ·rw [Ajh cj] at hi;exact S.own x (Ajd hi)
theorem CK(w:World)(b i:Nat)(v:Value):Aq (·=b) w (w.setCell ⟨b,i,none⟩ v):=Aq.setCell (F:=(·=b)) (Aq.refl _ w) (p:=⟨b,i,none⟩) (.inl rfl) v
theorem Cz{w:World}{b i:Nat}{cs:Array Value}{t:TypeId}{f:Nat × Nat}(h:w.heap[b]?=some (.cells cs t f))(v:Value) :
  (w.setCell ⟨b,i,none⟩ v).heap[b]?=some (.cells (cs.setIfInBounds i v) t f):=by
 simp [World.setCell,Array.getElem?_modify,h]
theorem SH.BA(S:SH F w0 w H)(n:Nat){b:Nat}{cs:Array Value}{t:TypeId}(hn:H[n]?=some (b,cs,t)){i:Nat}{v:Value}{k:World->Prop}(hi:i<cs.size)
  (hk:∀ w',SH F w0 w' (H.set n (b,cs.setIfInBounds i v,t))->k w'):CI ⟨b,i,none⟩ v k w:=by
 refine⟨?_,S.free n hn i,hk _ (S.setAt n hn (CK w b i v) (Cz (S.get n hn) v))⟩;rw [S.cell n hn (Array.getElem?_eq_getElem hi)];rfl
theorem SH.grown(S:SH F w0 w H){w':World}(h:Below w.heap.size w w'):SH F w0 w' H where
 keeps:=S.keeps.trans (Aq.AQ (F:=λ _=>False) h) (by simp)
 mem:=λ x hx=>(h.block x.1 (S.lt hx)).trans (S.mem x hx)
 nodup:=S.nodup
 own:=S.own
theorem SH.drop(S:SH F w0 w H)(n:Nat):SH F w0 w (H.drop n) :=
 ⟨S.keeps,λ x hx=>S.mem x (List.mem_of_mem_drop hx),by rw [List.map_drop];exact S.nodup.sublist (List.drop_sublist _ _),λ x hx=>S.own x (List.mem_of_mem_drop hx)⟩
end
end Go.Dn
namespace Go.Dn
open _root_.Array renaming getElem?_modify -> Ajm, length_toList -> Ajj, toList_append -> Ajt
open _root_.List renaming append_assoc -> Aju, eq_nil_of_length_eq_zero -> Ajl, getElem?_drop -> Ajs, getElem?_eq_getElem -> Ajv, length_append -> Ajk, length_drop -> Ajw, length_take -> Ajr, size_toArray -> Ajn, take_left -> Ajo
open _root_.Nat renaming add_mul -> Aji, mul_le_mul_right -> Ajq, zero_add -> Ajp
set_option linter.unusedVariables false
set_option maxRecDepth 100000
open Go.RowKit (Below)
theorem Bp(p:Addr)(x y:Nat):(p.add x).add y=p.add (x+y):=by
 unfold Addr.add;by_cases hx:x=0
 ·subst hx;simp
 ·by_cases hy:y=0
  ·subst hy;simp
  ·simp [hx,hy,Nat.add_assoc]
theorem EO(p:Addr):p.add 0=p:=by simp [Addr.add]
theorem Ar(b i j:Nat):(⟨b,i,none⟩:Addr).add j=⟨b,i+j,none⟩:=by
 unfold Addr.add;by_cases hj:j=0
 ·subst hj;simp
 ·simp [hj]
theorem Bf(p:Addr)(x:Nat):(p.add x).block=p.block:=by
 unfold Addr.add;split <;> rfl
def Rd(w:World)(a:Option Addr)(vs:List Value):Prop:=∀ j v,vs[j]?=some v->∃ p,a=some p/\w.cell? (p.add j)=some v
theorem Rd.nil(w:World)(a:Option Addr):Rd w a []:=by intro j v h;simp at h
theorem Rd.keeps{F:Nat->Prop}{w w':World}{a:Option Addr}{vs:List Value}(h:Rd w a vs)(hk:Aq F w w')(hn:∀ p,a=some p->¬ F p.block):Rd w' a vs:=by
 intro j v hv;obtain⟨p,hp,hc⟩:=h j v hv;exact⟨p,hp,hk.cell hc (by rw [Bf];exact hn p hp)⟩
theorem Rd.grown{w w':World}{a:Option Addr}{vs:List Value}(h:Rd w a vs)(hk:Below w.heap.size w w'):Rd w' a vs :=
 h.keeps (F:=λ _=>False) (Aq.AQ hk) (by simp)
theorem Rd.take{w:World}{a:Option Addr}{vs:List Value}(h:Rd w a vs)(n:Nat):Rd w a (vs.take n):=by
 intro j v hv;rw [List.getElem?_take] at hv;split at hv
 ·exact h j v hv
 ·cases hv
theorem Rd.drop{w:World}{p:Addr}{vs:List Value}(h:Rd w (some p) vs)(n:Nat):Rd w (some (p.add n)) (vs.drop n):=by
 intro j v hv;rw [Ajs] at hv;obtain⟨q,hq,hc⟩:=h _ v hv;cases hq;exact⟨_,rfl,by rw [Bp];exact hc⟩
theorem Rd.YA{w:World}{a:Option Addr}{vs:List Value}(h:Rd w a vs)(l hh m sz:Nat)(h2:hh<=m):Rd w (BD a l m sz) ((vs.drop (l*sz)).take ((hh-l)*sz)):=by
 unfold BD;split
 ·have:hh-l=0:=by omega
  rw [this];simp [Rd]
 ·cases a with
  | none =>
   intro j v hv;rw [List.getElem?_take] at hv;split at hv
   ·rw [Ajs] at hv;obtain⟨p,hp,_⟩:=h _ v hv;cases hp
   ·cases hv
  | some p=>exact (h.drop (l*sz)).take _
theorem Rd.of_block{w:World}{b:Nat}{cs:Array Value}{t:TypeId}{f:Nat × Nat}(h:w.heap[b]?=some (.cells cs t f))(i:Nat):Rd w (some ⟨b,i,none⟩) (cs.toList.drop i):=by
 intro j v hv;refine⟨_,rfl,?_⟩;rw [Ar];rw [Ajs] at hv;simp [World.cell?,h];simpa using hv
theorem Rd.Av{w:World}{b:Nat}{cs:Array Value}{t:TypeId}{f:Nat × Nat}(h:w.heap[b]?=some (.cells cs t f)):Rd w (some ⟨b,0,none⟩) cs.toList:=by
 have:=Rd.of_block h 0;simpa using this
def BX(a:Option Addr):Option Nat:=a.map (·.block)
def Row(w:World)(e:TypeId)(sz:Nat)(a:Option Addr)(n c:Nat)(xs:List Value):Prop :=
 xs.length=n*sz/\((a=none/\n=0/\c=0) \/
  ∃ g cur,a=some ⟨g,0,none⟩/\w.heap[g]?=some (.cells cur e (0,0))/\n<=c/\c<=9223372036854775807/\cur.size=c*sz/\cur.toList.take (n*sz)=xs)
theorem Row.nil(w:World)(e:TypeId)(sz:Nat):Row w e sz none 0 0 []:=⟨by simp,.inl ⟨rfl,rfl,rfl⟩⟩
theorem Row.rd{w:World}{e:TypeId}{sz:Nat}{a:Option Addr}{n c:Nat}{xs:List Value}(h:Row w e sz a n c xs):Rd w a xs:=by
 rcases h with ⟨hl,⟨rfl,rfl,rfl⟩ | ⟨g,cur,rfl,hg,_,_,_,rfl⟩⟩
 ·have:xs=[]:=Ajl (by simpa using hl);subst this;exact Rd.nil _ _
 ·exact (Rd.Av hg).take _
theorem Row.len{w:World}{e:TypeId}{sz:Nat}{a:Option Addr}{n c:Nat}{xs:List Value}(h:Row w e sz a n c xs):xs.length=n*sz:=h.1
theorem Row.le{w:World}{e:TypeId}{sz:Nat}{a:Option Addr}{n c:Nat}{xs:List Value}(h:Row w e sz a n c xs):n<=c:=by
 rcases h with ⟨_,⟨_,rfl,rfl⟩ | ⟨_,_,_,_,h,_⟩⟩
 ·exact Nat.le_refl _
 ·exact h
theorem Row.lt{w:World}{e:TypeId}{sz:Nat}{a:Option Addr}{n c:Nat}{xs:List Value}(h:Row w e sz a n c xs){k:Nat}(hk:BX a=some k):k<w.heap.size:=by
 rcases h with ⟨_,⟨rfl,_⟩ | ⟨g,cur,rfl,hg,_⟩⟩
 ·cases hk
 ·cases hk;exact (Array.getElem?_eq_some_iff.1 hg).1
theorem Row.keeps{F:Nat->Prop}{w w':World}{e:TypeId}{sz:Nat}{a:Option Addr}{n c:Nat}{xs:List Value}(h:Row w e sz a n c xs)(hk:Aq F w w')(hn:∀ k,BX a=some k->¬ F k):Row w' e sz a n c xs:=by
 refine⟨h.1,?_⟩;rcases h.2 with h | ⟨g,cur,rfl,hg,r⟩
 ·exact .inl h
 ·exact .inr ⟨g,cur,rfl,hk.at hg (hn g rfl),r⟩
theorem Row.grown{w w':World}{e:TypeId}{sz:Nat}{a:Option Addr}{n c:Nat}{xs:List Value}(h:Row w e sz a n c xs)(hk:Below w.heap.size w w'):Row w' e sz a n c xs :=
 h.keeps (F:=λ _=>False) (Aq.AQ hk) (by simp)
def LO(P:Program)(t:TypeId):Option (TypeId × Nat × Nat × Value) :=
 match P.underlying t with
 | some (.slice e) =>
  (match P.info? e with
  | some i=>(match i.zero with
   | some z=>some (e,i.size,i.bytes,z)
   | none=>none)
  | none=>none)
 | _=>none
theorem Ik{P:Program}{t e:TypeId}{sz by_:Nat}{z:Value}(h:LO P t=some (e,sz,by_,z)):P.underlying t=some (.slice e)/\∃ i,P.info? e=some i/\i.zero=some z/\i.size=sz/\i.bytes=by_:=by
 unfold LO at h;split at h
 ·rename_i e' hu;split at h
  ·rename_i i hi;split at h
   ·rename_i z' hz;simp only [Option.some.injEq,Prod.mk.injEq] at h;obtain⟨rfl,rfl,rfl,rfl⟩:=h;exact⟨hu,i,hi,hz,rfl,rfl⟩
   ·cases h
  ·cases h
 ·cases h
theorem Di(w:World)(g:Nat)(cs:Array Value):Aq (·=g) w (w.setRow g cs) :=
 ⟨rfl,rfl,rfl,by simp [World.setRow],λ k _ hn=>by simp only [World.setRow,Ajm];rw [if_neg (λ h=>hn h.symm)]⟩
theorem EZ{w:World}{g:Nat}{cur cs:Array Value}{t:TypeId}{f:Nat × Nat}(h:w.heap[g]?=some (.cells cur t f)):(w.setRow g cs).heap[g]?=some (.cells cs t f):=by
 simp [World.setRow,Ajm,h]
theorem HH{P:Program}{t ty e:TypeId}{sz bytes:Nat}{z:Value}(hT:LO P t=some (e,sz,bytes,z))(hz:z.cells.size=sz)(aU:0<sz)(dL:0<bytes)
  {w:World} {a:Option Addr} {n c:Nat} {xs:List Value} (hr:Row w e sz a n c xs) {b:Option Addr} {m mc:Nat} {news:List Value} (hs:Rd w b news) (hl:news.length=m*sz)
  (h1:∀ u∈news,u.oneCell'=true) (cP:(n+m)*bytes<=140737488355328) :
  ∃ a' c' w',(Builtin.append_ #[t,t] ty #[.slice a n c,.slice b m mc]).run P w=.ok (.slice a' (n+m) c') w'/\Row w' e sz a' (n+m) c' (xs++news) /\
   Aq (λ k=>BX a=some k) w w'/\(∀ k,BX a'=some k->BX a=some k\/w.heap.size<=k):=by
 obtain⟨hu,i,hi,hiz,rfl,rfl⟩:=Ik hT;have jL:n+m<=140737488355328:=Nat.le_trans (Nat.le_mul_of_pos_right _ dL) cP;have hlen:(xs++news).length=(n+m)*i.size:=by rw [Ajk,hr.1,hl,Aji]
 have grown:∀(old:Nat),old<n+m->Row (w.drew.alloc (.cells (xs.toArray++news.toArray++Builtin.zeroCells z.cells (grownCap w (n+m) old e-(n+m))) e)) e i.size
   (some ⟨w.heap.size,0,none⟩) (n+m) (grownCap w (n+m) old e) (xs++news):=by
  intro old ho;have aM:=grownCap_ge w (n+m) old e;have cm:grownCap w (n+m) old e<=maxLen:=grownCap_le_maxLen w (n+m) old e (by unfold maxLen;omega);refine⟨hlen,.inr ⟨w.heap.size,_,rfl,heap_alloc_new w.drew _,aM,by unfold maxLen at cm;omega,?_,?_⟩⟩
  ·simp only [Array.size_append,Ajn,size_zeroCells,hz,hr.1,hl,<- Aji];congr 1;omega
  ·simp only [Ajt,Aju];rw [<- Aju,<- hlen];exact Ajo
 have cJ:∀(cs:Array Value) (row:Nat->Prop),Aq row w (w.drew.alloc (.cells cs e)):=λ cs row=>(Aq.refl row w).drew.alloc _;have src:0<m->∃ p,b=some p/\∀ j u,news[j]?=some u->w.cell? (p.add j)=some u:=by
  intro hm;have h0:0<news.length:=by rw [hl];exact Nat.mul_pos hm aU
  obtain⟨p,hp,_⟩:=hs 0 news[0] (Ajv h0);refine⟨p,hp,λ j u hu=>?_⟩;obtain⟨q,hq,hc⟩:=hs j u hu;rw [hp] at hq;cases hq;exact hc
 have dW:m=0->news=[]:=λ hm=>Ajl (by rw [hl,hm];simp);rcases hr.2 with ⟨rfl,rfl,rfl⟩ | ⟨g,cur,rfl,hg,hnc,cm,aj,htake⟩
 ·have hx:xs=[]:=Ajl (by simpa using hr.1);subst hx;by_cases hm:m=0
  ·have hn:=dW hm;subst hm hn;refine⟨none,0,w,?_,by simpa using Row.nil w e i.size,.refl _ _,by simp [BX]⟩;cases b <;> simp [Builtin.append_,run_underlying hu,sizeOf,typeInfo,hi,Builtin.lenOf,Builtin.firstCells,loadCells,loadCellsFrom]
  ·obtain⟨p,rfl,hp⟩:=src (by omega);have aF:=run_append_nil (P:=P) w t ty e i z hu hi hiz p m mc news hl hp (by omega) (by omega) (by simp only [Ajp] at cP;omega);have aI:=grown 0 (by omega);simp only [Ajp] at aI aF ⊢;refine⟨_,_,_,aF,?_,cJ _ _,λ k hk=>.inr ?_⟩
   ·simpa using aI
   ·simp [BX] at hk;omega
 ·by_cases bP:n+m<=c
  ·by_cases hm:m=0
   ·have hn:=dW hm;subst hm hn;refine⟨some ⟨g,0,none⟩,c,w,?_,by simpa using hr,.refl _ _,λ k hk=>.inl hk⟩;cases b <;> simp [Builtin.append_,run_underlying hu,sizeOf,typeInfo,hi,Builtin.lenOf,Builtin.firstCells,loadCells,loadCellsFrom,hnc,storeCells]
   ·obtain⟨p,rfl,hp⟩:=src (by omega);have dO:n*i.size+news.length<=cur.size:=by rw [hl,aj,<- Aji];exact Ajq _ bP
    have aF:=run_append_room (P:=P) w t ty e i hu hi g n c cur hg p m mc news hl hp h1 bP dO;have dm:(List.take (n*i.size) cur.toList)=xs:=htake;refine⟨_,_,_,aF,⟨hlen,.inr ⟨g,_,rfl,EZ hg,bP,cm,?_,?_⟩⟩,(Di w g _).mono (λ k _ h=>by subst h;rfl),λ k hk=>.inl hk⟩
    ·simp only [Ajn,Ajk,Ajr,Ajw,Ajj];omega
    ·rw [dm];rw [<- hlen];exact Ajo
  ·obtain⟨p,rfl,hp⟩:=src (by omega);have hold:∀ j v,xs[j]?=some v->w.cell? ((⟨g,0,none⟩:Addr).add j)=some v:=by
    intro j v hv;obtain⟨q,hq,hc⟩:=hr.rd j v hv;cases hq;exact hc
   have aF:=run_append_grow (P:=P) w t ty e i z hu hi hiz ⟨g,0,none⟩ n c xs hr.1 hold p m mc news hl hp (by omega) (by omega) (growslice_fits (by omega) cP);refine⟨_,_,_,aF,grown c (by omega),cJ _ _,λ k hk=>.inr ?_⟩;simp [BX] at hk;omega
def bl(s:ByteArray):List UInt8:=s.data.toList
def Dz(l:List UInt8):ByteArray:=⟨l.toArray⟩
def Af(c:UInt8):Value:=.int .u8 (c.toNat:Int)
theorem CM(l:List UInt8):bl (Dz l)=l:=by simp [bl,Dz]
theorem Fs(s:ByteArray):Dz (bl s)=s:=by cases s;simp [bl,Dz]
theorem Bs(s:ByteArray):(bl s).length=s.size:=Ajj
theorem BL(l:List UInt8):(Dz l).size=l.length:=by simp [Dz,ByteArray.size]
theorem HL{s t:ByteArray}(h:bl s=bl t):s=t:=by rw [<- Fs s,<- Fs t,h]
theorem Abt(s t:ByteArray):bl (s++t)=bl s++bl t:=by simp [bl]
theorem Gy(s t:List UInt8):Dz s++Dz t=Dz (s++t):=HL (by rw [Abt,CM,CM,CM])
theorem extract_eq(s:ByteArray)(a b:Nat):s.extract a b=Dz (((bl s).drop a).take (b-a)):=by
 have h:=ByteArray.extract_mk (bl s) a b;have e:(ByteArray.mk (bl s).toArray)=s:=Fs s;rw [e] at h;exact h
theorem Aw(a b:ByteArray):Au a b=decide (a=b):=by
 unfold Au;rw [ByteArray.toList_eq,ByteArray.toList_eq];have:(a=b)↔a.data.toList=b.data.toList:=⟨λ h=>by rw [h],λ h=>HL h⟩;rw [Bool.eq_iff_iff];simp [this]
theorem JS(a b:ByteArray):(a==b)=decide (a=b):=by
 rw [beq_toListBytes];exact Aw a b
theorem VT(s:ByteArray)(i:Nat):C5 s i=(bl s).getD i 0:=rfl
theorem Ty(c:UInt8):(Af c).oneCell'=true:=rfl
def I8(P:Program)(st bt:TypeId):Bool :=
 match P.underlying st,P.underlying bt with
 | some .string,some (.slice e)=>(match P.underlying e with
  | some (.int .u8)=>true
  | _=>false)
 | _,_=>false
theorem QJ{P:Program}{st bt:TypeId}(h:I8 P st bt=true):P.underlying st=some .string/\∃ e,P.underlying bt=some (.slice e)/\P.underlying e=some (.int .u8):=by
 unfold I8 at h;split at h
 ·rename_i e hs hb;split at h
  ·rename_i he;exact⟨hs,e,hb,he⟩
  ·cases h
 ·cases h
theorem Mx(F:Nat->Prop)(w:World)(p:Addr)(n:Nat)(hp:F p.block):Aq F w (w.freeze p n):=by
 unfold World.freeze;split
 ·exact .refl _ _
 ·refine⟨rfl,rfl,rfl,by simp,λ k _ hn=>?_⟩;simp only [Ajm];rw [if_neg (λ h=>hn (by rw [<- h];exact hp))]
theorem Fg{P:Program}{st bt:TypeId}(hT:I8 P st bt=true)(s:ByteArray)(w:World){f:Value->World->Prop}
  (hf:∀(b c:Nat) (cs:Array Value) (e:TypeId) (w':World),b=w.heap.size->Below w.heap.size w w'->w'.heap[b]?=some (.cells cs e (cs.size,cs.size+1))->cs.size=c->s.size<=c ->
   cs.toList.take s.size=(bl s).map Af->f (.slice (some ⟨b,0,none⟩) s.size c) w'):Dc P (convert st bt (.string s)) f w:=by
 obtain⟨hs,e,hb,he⟩:=QJ hT;let cap:=grownCap w s.size 0 e;let cs:Array Value:=(s.data.map λ b=>Value.int .u8 b.toNat)++Array.replicate (cap-s.size) (.int .u8 0);have aM:s.size<=cap:=grownCap_ge w s.size 0 e;have aU:cs.size=cap:=by
  have:s.data.size=s.size:=rfl;simp [cs,this];omega
 let w1:World:=w.drew.alloc (.cells cs e);have pd:w1.heap[w.heap.size]?=some (.cells cs e (0,0)):=heap_alloc_new w.drew _;have dj:w1.shape? w.heap.size=some (e,cs.size):=by simp [World.shape?,pd]
 have aF:(convert st bt (.string s)).run P w=.ok (.slice (some ⟨w.heap.size,0,none⟩) s.size cap) (w1.freeze ⟨w.heap.size,cs.size,none⟩ 1):=by
  have hq:(Question.appendCap s.size 0 e).forced=false:=rfl;have bK:(newRow e cs).run P w.drew=.ok ⟨w.heap.size,0,none⟩ w1:=rfl;have fZ:(choose (.appendCap s.size 0 e)).run P w=.ok cap w.drew:=by
   rw [run_choose];simp [hq,cap,grownCap]
  have fJ:(markStringish ⟨w.heap.size,0,none⟩).run P w1=.ok () (w1.freeze ⟨w.heap.size,cs.size,none⟩ 1):=by
   simp [markStringish,dj]
  simp only [convert,Sem.run_bind,run_underlying hs,run_underlying hb,run_underlying he,Result.andThen_ok,Conv.stringToBytes,fZ,Sem.run_pure];simp only [cs] at bK;rw [bK];simp only [Result.andThen_ok,fJ]
 unfold Dc;rw [aF];have c9:(w1.freeze ⟨w.heap.size,cs.size,none⟩ 1).heap[w.heap.size]?=some (.cells cs e (cs.size,cs.size+1)):=by
  unfold World.freeze;simp [Ajm,pd]
 refine hf _ _ cs e _ rfl ?_ c9 aU aM ?_
 ·have h1:Aq (λ k=>k=w.heap.size) w w1:=(Aq.refl _ w).drew.alloc _;have h2:=Mx (λ k=>k=w.heap.size) w1 ⟨w.heap.size,cs.size,none⟩ 1 rfl;exact (h1.trans h2 (λ _ _ h=>h)).below (Nat.le_refl _) (λ k hk he=>by omega)
 ·have hl:s.size=((s.data.map λ b=>Value.int .u8 b.toNat)).toList.length:=by rw [Ajj,Array.size_map];rfl
  simp only [cs,Ajt];rw [hl,Ajo];simp [bl,Af]
theorem ZU(l:List UInt8):(l.map λ c=>((c.toNat:Nat):Int)).foldl (λ r n=>r.push (UInt8.ofNat n.toNat)) ByteArray.empty=Dz l:=by
 rw [foldl_push_bytes];apply HL;rw [CM];show (ByteArray.empty.data++_).toList=l;have h0:ByteArray.empty.data.toList=[]:=rfl;rw [Ajt,h0,List.nil_append,List.map_map,List.toList_toArray];have:((λ n:Int=>UInt8.ofNat n.toNat) ∘ λ c:UInt8=>((c.toNat:Nat):Int))=id:=by
  funext c;simp
 rw [this,List.map_id]
theorem BH{P:Program}{st bt:TypeId}(hT:I8 P st bt=true){w:World}{a:Option Addr}{l:List UInt8}{n c:Nat}(hn:n=l.length)(hr:Rd w a (l.map Af)){f:Value->World->Prop}
  (hf:f (.string (Dz l)) w):Dc P (convert bt st (.slice a n c)) f w:=by
 obtain⟨hs,e,hb,he⟩:=QJ hT;unfold Dc;rw [run_convert_bytes_string w bt st e a n c hb he hs];cases a with
 | none =>
  have hl:l=[]:=by
   cases l with
   | nil=>rfl
   | cons x r =>
    obtain⟨p,hp,_⟩:=hr 0 (Af x) (by simp);cases hp
  subst hl;have:Dz []=ByteArray.empty:=rfl;rw [this] at hf;simpa [Conv.bytesToString] using hf
 | some p =>
  have sC:(loadCells p n).run P w=.ok ((l.map λ c=>((c.toNat:Nat):Int)).map (Value.int .u8)).toArray w:=by
   have:=run_loadCells_list (P:=P) w p (l.map Af) (λ j v hv=>by
    obtain⟨q,hq,hc⟩:=hr j v hv;cases hq;exact hc)
   rw [List.length_map,<- hn] at this;rw [this];congr 1;simp [Af,Function.comp_def]
  rw [run_bytesToString w p n c _ sC,ZU];exact hf
theorem OI{P:Program}{t ty e:TypeId}{sz bytes:Nat}{z:Value}(hT:LO P t=some (e,sz,bytes,z))(aU:0<sz)
  {w:World} {a:Option Addr} {n c:Nat} {xs:List Value} (hr:Row w e sz a n c xs) {b:Option Addr} {m mc:Nat} {news:List Value} (hs:Rd w b news) (hl:news.length=m*sz)
  (h1:∀ u∈news,u.oneCell'=true) (bP:n+m<=c) :
  ∃ w',(Builtin.append_ #[t,t] ty #[.slice a n c,.slice b m mc]).run P w=.ok (.slice a (n+m) c) w'/\Row w' e sz a (n+m) c (xs++news)/\Aq (λ k=>BX a=some k) w w':=by
 obtain⟨hu,i,hi,hiz,rfl,rfl⟩:=Ik hT;have hlen:(xs++news).length=(n+m)*i.size:=by rw [Ajk,hr.1,hl,Aji]
 have dW:m=0->news=[]:=λ hm=>Ajl (by rw [hl,hm];simp);rcases hr.2 with ⟨rfl,rfl,rfl⟩ | ⟨g,cur,rfl,hg,hnc,cm,aj,htake⟩
 ·have hm:m=0:=by omega
  have hn:=dW hm;subst hm hn;refine⟨w,?_,by simpa using hr,.refl _ _⟩;cases b <;> simp [Builtin.append_,run_underlying hu,sizeOf,typeInfo,hi,Builtin.lenOf,Builtin.firstCells,loadCells,loadCellsFrom]
 ·by_cases hm:m=0
  ·have hn:=dW hm;subst hm hn;refine⟨w,?_,by simpa using hr,.refl _ _⟩;cases b <;> simp [Builtin.append_,run_underlying hu,sizeOf,typeInfo,hi,Builtin.lenOf,Builtin.firstCells,loadCells,loadCellsFrom,hnc,storeCells]
  ·have h0:0<news.length:=by rw [hl];exact Nat.mul_pos (by omega) aU
   obtain⟨p,rfl,_⟩:=hs 0 news[0] (Ajv h0);have hp:∀ j u,news[j]?=some u->w.cell? (p.add j)=some u:=by
    intro j u hu;obtain⟨q,hq,hc⟩:=hs j u hu;cases hq;exact hc
   have dO:n*i.size+news.length<=cur.size:=by rw [hl,aj,<- Aji];exact Ajq _ bP
   have aF:=run_append_room (P:=P) w t ty e i hu hi g n c cur hg p m mc news hl hp h1 bP dO;have dm:(List.take (n*i.size) cur.toList)=xs:=htake;refine⟨_,aF,⟨hlen,.inr ⟨g,_,rfl,EZ hg,bP,cm,?_,?_⟩⟩,(Di w g _).mono (λ k _ h=>by subst h;rfl)⟩
   ·simp only [Ajn,Ajk,Ajr,Ajw,Ajj];omega
   ·rw [dm];rw [<- hlen];exact Ajo
theorem Row.front{w:World}{e:TypeId}{sz:Nat}{a:Option Addr}{n c:Nat}{xs:List Value}(h:Row w e sz a n c xs){i:Nat}(hi:i<=n):Row w e sz a i c (xs.take (i*sz)):=by
 have hle:i*sz<=n*sz:=Ajq _ hi;refine⟨by rw [Ajr,h.1];omega,?_⟩;rcases h.2 with ⟨rfl,rfl,rfl⟩ | ⟨g,cur,rfl,hg,hnc,cm,aj,rfl⟩
 ·exact .inl ⟨rfl,by omega,rfl⟩
 ·refine .inr ⟨g,cur,rfl,hg,by omega,cm,aj,?_⟩;rw [List.take_take,Nat.min_eq_left hle]
theorem Nq{P:Program}{w:World}{e:TypeId}{g:Nat}{cur:Array Value}(hg:w.heap[g]?=some (.cells cur e (0,0)))(o:Nat)(vs:List Value)(h1:∀ v∈vs,v.oneCell'=true)(dO:o+vs.length<=cur.size) :
  ∃ w' eJ,(storeCells ⟨g,o,none⟩ vs 0).run P w=.ok () w'/\w'.heap[g]?=some (.cells eJ e (0,0))/\eJ.size=cur.size/\eJ.toList.take o=cur.toList.take o/\Aq (·=g) w w':=by
 have aA:=run_storeCells_at P g o e vs 0 cur w hg (by simpa using dO) h1;simp only [Nat.add_zero] at aA;refine⟨_,_,aA,EZ hg,?_,?_,Di w g _⟩
 ·simp only [Ajn,Ajk,Ajr,Ajw,Ajj];omega
 ·simp only [Aju];rw [List.take_append_of_le_length (by simp;omega),List.take_take,Nat.min_self]
theorem UO{P:Program}{t e:TypeId}{sz bytes:Nat}{z:Value}(hT:LO P t=some (e,sz,bytes,z))(hz:z.cells.size=sz)(sy:∀ v∈z.cells.toList,v.oneCell'=true)
  {w:World} {a:Option Addr} {n c:Nat} {xs:List Value} (hr:Row w e sz a n c xs) {h:Nat} (uK:n<=h) (uG:h<=c) :
  ∃ w',(Builtin.clear_ #[t] 0 #[.slice (BD a n c sz) (h-n) (c-n)]).run P w=.ok (.tuple #[]) w'/\Row w' e sz a n c xs/\Aq (λ k=>BX a=some k) w w':=by
 obtain⟨hu,i,hi,hiz,rfl,rfl⟩:=Ik hT;by_cases h0:h-n=0
 ·refine⟨w,?_,hr,.refl _ _⟩;rw [h0];generalize BD a n c i.size=q;cases q <;> simp [Builtin.clear_,run_underlying hu]
 ·rcases hr.2 with ⟨rfl,rfl,rfl⟩ | ⟨g,cur,rfl,hg,hnc,cm,aj,htake⟩
  ·omega
  ·have aV:¬ c=n:=by omega
   have hs:BD (some ⟨g,0,none⟩) n c i.size=some ⟨g,n*i.size,none⟩:=by
    unfold BD;rw [if_neg aV];simp only [Option.map_some,Ar,Ajp]
   have et:∀ v∈(Builtin.zeroCells z.cells (h-n)).toList,v.oneCell'=true:=by
    intro v hv;simp only [Builtin.zeroCells,Array.toList_map,List.mem_map] at hv;obtain⟨j,hj,rfl⟩:=hv;have il:0<z.cells.size:=by
     simp at hj;rcases Nat.eq_zero_or_pos z.cells.size with h' | h'
     ·simp [h'] at hj
     ·exact h'
    have aB:j % z.cells.size<z.cells.size:=Nat.mod_lt _ il;apply sy;rw [getElem!_pos z.cells _ aB];exact Array.mem_toList_iff.2 (Array.getElem_mem aB)
   have hmul:n*i.size+(h-n)*i.size<=c*i.size:=by
    rw [<- Aji];exact Ajq _ (by omega)
   obtain⟨w',eJ,aA,aS,hsz',dk,hk⟩:=Nq (P:=P) hg (n*i.size) (Builtin.zeroCells z.cells (h-n)).toList et (by
    rw [Ajj,size_zeroCells,hz,aj];exact hmul)
   refine⟨w',?_,⟨hr.1,.inr ⟨g,eJ,rfl,aS,hnc,cm,by rw [hsz',aj],by rw [dk];exact htake⟩⟩,hk.mono (λ k _ h=>by subst h;rfl)⟩;rw [hs];obtain⟨m,hm⟩:∃ m,h-n=m+1:=⟨h-n-1,by omega⟩;rw [hm] at aA ⊢;simp [Builtin.clear_,run_underlying hu,zeroValue,typeInfo,hi,hiz,aA]
theorem Row.set{w:World}{e:TypeId}{sz:Nat}{g:Nat}{n c:Nat}{xs:List Value}(h:Row w e sz (some ⟨g,0,none⟩) n c xs)(j:Nat)(_hj:j<n*sz)(v:Value) :
  Row (w.setCell ⟨g,j,none⟩ v) e sz (some ⟨g,0,none⟩) n c (xs.set j v):=by
 refine⟨by rw [List.length_set];exact h.1,?_⟩;rcases h.2 with ⟨h0,_⟩ | ⟨g',cur,aS,hg,hnc,cm,aj,rfl⟩
 ·cases h0
 ·cases aS;refine .inr ⟨g,_,rfl,Cz hg v,hnc,cm,by simpa using aj,?_⟩;rw [Array.toList_setIfInBounds,List.take_set]
theorem Row.BA{w:World}{e:TypeId}{sz:Nat}{g:Nat}{n c:Nat}{xs:List Value}(h:Row w e sz (some ⟨g,0,none⟩) n c xs){j:Nat}(hj:j<n*sz){v:Value}{k:World->Prop}
  (hk:∀ w',Row w' e sz (some ⟨g,0,none⟩) n c (xs.set j v)->Aq (·=g) w w'->k w'):CI ⟨g,j,none⟩ v k w:=by
 have hx:j<xs.length:=by rw [h.1];exact hj
 obtain⟨p,hp,hc⟩:=h.rd j xs[j] (Ajv hx);cases hp;rw [Ar,Ajp] at hc;refine⟨by rw [hc];rfl,?_,hk _ (h.set j hj v) (CK w g j v)⟩;rcases h.2 with ⟨h0,_⟩ | ⟨g',cur,aS,hg,_⟩
 ·cases h0
 ·cases aS;simp [World.frozen?,hg]
end Go.Dn
namespace Go.Dn
open Go.RowKit (Below)
theorem SH.below{w0 w:World}{H:List Ent}(S:SH (λ _=>False) w0 w H):Below w0.heap.size w0 w:=S.keeps.below (Nat.le_refl _) (by simp)
end Go.Dn
namespace Go.Dn
open _root_.List renaming append_assoc -> Aju, set_set -> Ajy
open _root_.Nat renaming le_refl -> Ajx
open Go.RowKit (Below)
section
variable {F:Nat->Prop}{w0 w:World}{H:List Ent}
theorem SH.Ak(S:SH F w0 w H){cs:Array Value}{t:TypeId}{k:Nat->World->Prop}(hk:∀ b w',w.heap.size<=b->Below w.heap.size w w'->SH F w0 w' ((b,cs,t) :: H)->k b w'):Cu cs t k w :=
 hk _ _ (Ajx _) ((Below.refl _ w).alloc (Ajx _) _) (S.alloc cs t)
theorem SH.Adt(S:SH F w0 w H){k:World->Prop}(hk:∀ w',Below w.heap.size w w'->SH F w0 w' H->k w'):AcU k w:=hk _ ((Below.refl _ w).drew) S.drew
theorem SH.Ahu(S:SH F w0 w H)(n:Nat){b:Nat}{cs:Array Value}{t:TypeId}(hn:H[n]?=some (b,cs,t)){i:Nat}{v:Value}{k:World->Prop}(hi:i<cs.size)
  (hk:∀ w',Aq (·=b) w w'->SH F w0 w' (H.set n (b,cs.setIfInBounds i v,t))->k w'):CI ⟨b,i,none⟩ v k w:=by
 refine⟨?_,S.free n hn i,hk _ (CK w b i v) (S.setAt n hn (CK w b i v) (Cz (S.get n hn) v))⟩;rw [S.cell n hn (Array.getElem?_eq_getElem hi)];rfl
theorem SH.Agw(S:SH F w0 w H)(n:Nat){b:Nat}{x0 x1 x2 v0 v1 v2:Value}{t:TypeId}(hn:H[n]?=some (b,#[x0,x1,x2],t)){k:World->Prop}
  (hk:∀ w',Aq (·=b) w w'->SH F w0 w' (H.set n (b,#[v0,v1,v2],t))->k w'):CI ⟨b,0,none⟩ v0 (λ w=>CI ⟨b,1,none⟩ v1 (λ w=>CI ⟨b,2,none⟩ v2 k w) w) w:=by
 have aB:=(List.getElem?_eq_some_iff.1 hn).1;refine S.Ahu n hn (by simp) λ w1 K1 S1=>S1.Ahu n (List.getElem?_set_self aB) (by simp) λ w2 K2 S2=>S2.Ahu n (cs:=#[v0,v1,x2]) (t:=t) ?_ (by simp) λ w3 K3 S3=>hk w3 ((K1.trans K2 (λ _ _ h=>h)).trans K3 (λ _ _ h=>h)) ?_
 ·rw [Ajy,List.getElem?_set_self aB];rfl
 ·have e:((H.set n (b,#[x0,x1,x2].setIfInBounds 0 v0,t)).set n (b,(#[x0,x1,x2].setIfInBounds 0 v0).setIfInBounds 1 v1,t)).set n (b,#[v0,v1,x2].setIfInBounds 2 v2,t)=H.set n (b,#[v0,v1,v2],t):=by
   rw [Ajy,Ajy];rfl
  rw [<- e];exact S3
end
theorem Jq(z:Array Value)(n:Nat):(madeCells z n).size=n:=by simp [madeCells]
theorem SS(z:Value)(h:z.cells=#[z])(n:Nat):(madeCells z.cells n).toList=List.replicate n z:=by
 rw [h];apply List.ext_getElem
 ·simp [madeCells]
 ·intro i h1 h2;simp [madeCells,Nat.mod_one]
theorem MJ{P:Program}{t e:TypeId}{sz bytes:Nat}{z:Value}(hT:LO P t=some (e,sz,bytes,z)){w:World}{l c:Int}(h0:0<=l)(iZ:l<=c)(hb:(bytes:Int)*c<=281474976710656)(hc:c<=9223372036854775807)
  {f:Value->World->Prop} {kl kc:IntKind} (hf:∀ b w',w.heap.size<=b->Below w.heap.size w w'->w'.heap[b]?=some (.cells (madeCells z.cells (c.toNat*sz)) e (0,0))->f (.slice (some ⟨b,0,none⟩) l.toNat c.toNat) w') :
  Dc P (Instr.makeSlice t (.int kl l) (.int kc c)) f w:=by
 obtain⟨hu,i,hi,hiz,rfl,rfl⟩:=Ik hT;unfold Dc;rw [run_make w t e i z hu hi hiz kl kc l c h0 iZ hb hc];exact hf _ _ (Ajx _) ((Below.refl _ w).alloc (Ajx _) _) (heap_alloc_new w _)
theorem Af1{w:World}{b:Nat}{cs:Array Value}{t:TypeId}(hb:w.heap[b]?=some (.cells cs t (0,0))){i:Nat}{v:Value}{k:World->Prop}(hi:i<cs.size)
  (hk:∀ w',Aq (·=b) w w'->w'.heap[b]?=some (.cells (cs.setIfInBounds i v) t (0,0))->k w'):CI ⟨b,i,none⟩ v k w:=by
 refine⟨?_,?_,hk _ (CK w b i v) (Cz hb v)⟩
 ·simp [World.cell?,hb,hi]
 ·simp [World.frozen?,hb]
section
variable {F:Nat->Prop}{w0 w:World}{H:List Ent}
theorem SH.N5(S:SH F w0 w H){z0 z1 z2 v0 v1 v2:Value}{t:TypeId}{k:Nat->World->Prop}(hk:∀ b w',w.heap.size<=b->Below w.heap.size w w'->SH F w0 w' ((b,#[v0,v1,v2],t) :: H)->k b w') :
  Cu #[z0,z1,z2] t (λ b w=>CI ⟨b,0,none⟩ v0 (λ w=>CI ⟨b,1,none⟩ v1 (λ w=>CI ⟨b,2,none⟩ v2 (λ w=>k b w) w) w) w) w:=by
 refine S.Ak λ b w1 hb B1 S1=>S1.Agw 0 rfl λ w2 K2 S2=>hk b w2 hb (B1.trans (K2.below B1.size λ k hk he=>by omega)) S2
end
theorem HX{P:Program}{w:World}(s:ByteArray):(Builtin.firstCells 1 s.size (.string s)).run P w=.ok ((bl s).map Af).toArray w:=by
 simp only [Builtin.firstCells,Sem.run_pure];congr 1;apply Array.ext';have:s.extract 0 s.size=s:=by rw [extract_eq];apply HL;rw [CM,List.drop_zero,Nat.sub_zero,List.take_of_length_le (by rw [Bs];omega)]
 rw [this];simp [bl,Af]
theorem SA{P:Program}{t u ty e:TypeId}{bytes:Nat}{z:Value}(hT:LO P t=some (e,1,bytes,z))(dI:P.underlying u=some .string)(hz:z.cells.size=1)(dL:0<bytes)
  {w:World} {a:Option Addr} {n c:Nat} {xs:List Value} (hr:Row w e 1 a n c xs) (s:ByteArray) (cP:(n+s.size)*bytes<=140737488355328) :
  ∃ a' c' w',(Builtin.append_ #[t,u] ty #[.slice a n c,.string s]).run P w=.ok (.slice a' (n+s.size) c') w'/\Row w' e 1 a' (n+s.size) c' (xs++(bl s).map Af) /\
   Aq (λ k=>BX a=some k) w w'/\(∀ k,BX a'=some k->BX a=some k\/w.heap.size<=k):=by
 obtain⟨hu,i,hi,hiz,hi1,rfl⟩:=Ik hT;have jL:n+s.size<=140737488355328:=Nat.le_trans (Nat.le_mul_of_pos_right _ dL) cP;have hl:((bl s).map Af).length=s.size:=by rw [List.length_map,Bs]
 have hlen:(xs++(bl s).map Af).length=(n+s.size)*1:=by rw [List.length_append,hr.1,hl];omega
 have h1:∀ u∈(bl s).map Af,u.oneCell'=true:=by
  intro u hu;obtain⟨c,_,rfl⟩:=List.mem_map.1 hu;exact Ty c
 have grown:∀(old:Nat),old<n+s.size->Row (w.drew.alloc (.cells (xs.toArray++((bl s).map Af).toArray++Builtin.zeroCells z.cells (grownCap w (n+s.size) old e-(n+s.size))) e)) e 1
   (some ⟨w.heap.size,0,none⟩) (n+s.size) (grownCap w (n+s.size) old e) (xs++(bl s).map Af):=by
  intro old ho;have aM:=grownCap_ge w (n+s.size) old e;have cm:grownCap w (n+s.size) old e<=maxLen:=grownCap_le_maxLen w (n+s.size) old e (by unfold maxLen;omega);refine⟨hlen,.inr ⟨w.heap.size,_,rfl,heap_alloc_new w.drew _,aM,by unfold maxLen at cm;omega,?_,?_⟩⟩
  ·simp only [Array.size_append,List.size_toArray,size_zeroCells,hz,hr.1,hl];omega
  ·simp only [Array.toList_append,Aju];rw [<- Aju,<- hlen];exact List.take_left
 have cJ:∀(cs:Array Value) (row:Nat->Prop),Aq row w (w.drew.alloc (.cells cs e)):=λ cs row=>(Aq.refl row w).drew.alloc _;have grow:∀(old:Nat) (iv:Value),(∀ w',w'.heap=w.heap->(Builtin.firstCells 1 n iv).run P w'=.ok xs.toArray w')->old<n+s.size->(∃ b0,iv=.slice b0 n old) ->
   (Builtin.append_ #[t,u] ty #[iv,.string s]).run P w=.ok (.slice (some ⟨w.heap.size,0,none⟩) (n+s.size) (grownCap w (n+s.size) old e))
    (w.drew.alloc (.cells (xs.toArray++((bl s).map Af).toArray++Builtin.zeroCells z.cells (grownCap w (n+s.size) old e-(n+s.size))) e)):=by
  rintro old _ hf ho ⟨b0,rfl⟩;have hn:¬ (n+s.size<=old):=by omega
  have mH:¬ (9223372036854775807<((n:Int)+(s.size:Int))):=by omega
  have mF:¬ (281474976710656<Builtin.nextslicecap (n+s.size) old*i.bytes):=by have:=growslice_fits (old:=old) (need:=n+s.size) ho cP;omega
  have rk:=hf w.drew rfl;simp [Builtin.append_,run_underlying hu,run_underlying dI,sizeOf,typeInfo,zeroValue,hi,hiz,hi1,Builtin.lenOf,hn,mH,mF,Question.forced,rk,HX,newRow,grownCap];congr 2;apply Array.ext';simp [Aju]
 rcases hr.2 with ⟨rfl,rfl,rfl⟩ | ⟨g,cur,rfl,hg,hnc,cm,aj,htake⟩
 ·have hx:xs=[]:=List.eq_nil_of_length_eq_zero (by simpa using hr.1);subst hx;by_cases hm:s.size=0
  ·have hn:(bl s).map Af=[]:=List.eq_nil_of_length_eq_zero (by rw [hl,hm]);refine⟨none,0,w,?_,by rw [hm,hn];exact Row.nil w e 1,.refl _ _,by simp [BX]⟩;have:=HX (P:=P) (w:=w) s;rw [hm] at this;simp [Builtin.append_,run_underlying hu,run_underlying dI,sizeOf,typeInfo,hi,hi1,Builtin.lenOf,hm,this]
  ·exact⟨_,_,_,grow 0 (.slice none 0 0) (λ w' _=>by simp [Builtin.firstCells]) (by omega) ⟨_,rfl⟩,grown 0 (by omega),cJ _ _,λ k hk=>.inr (by simp [BX] at hk;omega)⟩
 ·by_cases bP:n+s.size<=c
  ·have dO:n+((bl s).map Af).length<=cur.size:=by rw [hl,aj];omega
   have aA:=run_storeCells_at P g n e ((bl s).map Af) 0 cur w hg (by simpa using dO) h1;simp only [Nat.add_zero] at aA;refine⟨some ⟨g,0,none⟩,c,_,?_,⟨hlen,.inr ⟨g,_,rfl,EZ hg,bP,cm,?_,?_⟩⟩,(Di w g (cur.toList.take n++(bl s).map Af++cur.toList.drop (n+((bl s).map Af).length)).toArray).mono (λ k _ h=>by subst h;rfl),λ k hk=>.inl hk⟩
   ·simp [Builtin.append_,run_underlying hu,run_underlying dI,sizeOf,typeInfo,hi,hi1,Builtin.lenOf,bP,HX,Addr.add_lit];rw [aA];simp
   ·simp only [List.size_toArray,List.length_append,List.length_take,List.length_drop,Array.length_toList];omega
   ·have dm:cur.toList.take n=xs:=by rw [<- htake];simp
    rw [dm,<- hlen];exact List.take_left
  ·have hold:∀ w',w'.heap=w.heap->(Builtin.firstCells 1 n (.slice (some ⟨g,0,none⟩) n c)).run P w'=.ok xs.toArray w':=by
    intro w' kP;refine run_firstCells_some (P:=P) w' 1 n ⟨g,0,none⟩ n c xs hr.1 λ j v hv=>?_;obtain⟨q,hq,hc⟩:=hr.rd j v hv;cases hq;have:w'.cell? ((⟨g,0,none⟩:Addr).add j)=w.cell? ((⟨g,0,none⟩:Addr).add j):=by unfold World.cell?;rw [kP]
    rw [this];exact hc
   exact⟨_,_,_,grow c _ hold (by omega) ⟨_,rfl⟩,grown c (by omega),cJ _ _,λ k hk=>.inr (by simp [BX] at hk;omega)⟩
theorem HI{P:Program}{t u ty e:TypeId}{sz bytes:Nat}{z:Value}(hT:LO P t=some (e,sz,bytes,z))(dI:P.underlying u=some (.int .i64))(hz:z.cells.size=sz)(aU:0<sz)(dL:0<bytes)
  {w:World} {m:Nat} (hm:0<m) (cP:m*bytes<=140737488355328) :
  ∃ c' w',(Builtin.append_ #[t,u] ty #[.slice none 0 0,.int .i64 (m:Int)]).run P w=.ok (.slice (some ⟨w.heap.size,0,none⟩) m c') w'/\Row w' e sz (some ⟨w.heap.size,0,none⟩) 0 c' []/\m<=c'/\Below w.heap.size w w':=by
 obtain⟨hu,i,hi,hiz,rfl,rfl⟩:=Ik hT;have jL:m<=140737488355328:=Nat.le_trans (Nat.le_mul_of_pos_right _ dL) cP;have aM:=grownCap_ge w m 0 e;have cm:grownCap w m 0 e<=maxLen:=grownCap_le_maxLen w m 0 e (by unfold maxLen;omega);have hw:IntKind.i64.wrap (m:Int)=m:=by rw [IntKind.wrap_i64];omega
 have h1:¬ ((m:Int)<0):=by omega
 have h2:¬ (281474976710656<(m:Int)*(i.bytes:Int)):=by rw [<- Int.natCast_mul];omega
 have h3:¬ (m*i.size=0):=by have:=Nat.mul_pos hm aU;omega
 have h4:¬ (m<=0):=by omega
 have h5:¬ (9223372036854775807<(m:Int)):=by omega
 have h6:¬ (281474976710656<Builtin.nextslicecap m 0*i.bytes):=by rw [nextslicecap_zero hm];omega
 have h7:¬ (m=0):=by omega
 have h8:¬ (i.size=0):=by omega
 refine⟨grownCap w m 0 e,w.drew.alloc (.cells (Builtin.zeroCells z.cells m++Builtin.zeroCells z.cells (grownCap w m 0 e-m)) e),?_,?_,aM,((Below.refl _ w).drew).alloc (Ajx _) _⟩
 ·simp [Builtin.append_,run_underlying hu,run_underlying dI,sizeOf,typeInfo,zeroValue,hi,hiz,asInt,asIntOf,hw,h1,h2,h5,h6,h7,Question.forced,Builtin.firstCells,newRow,grownCap];intro h;exact absurd h h3
 ·refine⟨by simp,.inr ⟨w.heap.size,_,rfl,heap_alloc_new w.drew _,by omega,by unfold maxLen at cm;omega,?_,by simp⟩⟩;rw [Array.size_append,size_zeroCells,size_zeroCells,hz,<- Nat.add_mul];congr 1;omega
end Go.Dn
namespace Go.Proofs.YtegnhfeclchlmaaGreatDoor
open _root_.BitVec renaming ofInt -> Ai2, ofInt_natCast -> AjE, toNat_ofNat -> AjF
open _root_.Int renaming toNat_natCast -> Ajz
open _root_.List renaming length_append -> Ajk
open _root_.Nat renaming le_trans -> AjD, mod_eq_of_lt -> AjB, mul_comm -> AjH, mul_le_mul_right -> Ajq, mul_one -> AjC, pow_succ -> AjG
open _root_.UInt8 renaming ofNat -> AjA
set_option maxRecDepth 100000
open Go.Dn Go.Proofs
open Go.RowKit (Below)
set_option linter.unusedVariables false
theorem LI:I8 Tryz.prog ty.string ty.AM=true:=by kernel_rfl
theorem tB:LO Tryz.prog ty.AM=some (ty.uint8,1,1,.int .u8 0):=by kernel_rfl
theorem zB:(Value.int .u8 0).cells.size=1:=rfl
theorem Hg(l:List UInt8):∀ u∈l.map Af,u.oneCell'=true:=by
 intro u hu;obtain⟨c,_,rfl⟩:=List.mem_map.1 hu;exact Ty c
structure EU(w w':World)(l:List UInt8)(a:Option Addr)(c:Nat):Prop where
 row:Row w' ty.uint8 1 a l.length c (l.map Af)
 new:∀ k,BX a=some k->w.heap.size<=k
 Ag:Below w.heap.size w w'
theorem Ac{a b c:World}(h:Below a.heap.size a b)(h':Below b.heap.size b c):Below a.heap.size a c:=h.trans (h'.mono h.size)
theorem EU.rd{w w':World}{l:List UInt8}{a:Option Addr}{c:Nat}(h:EU w w' l a c):Rd w' a (l.map Af):=h.row.rd
theorem EU.grown{w w' w2:World}{l:List UInt8}{a:Option Addr}{c:Nat}(h:EU w w' l a c)(hb:Below w'.heap.size w' w2):EU w w2 l a c:=⟨h.row.grown hb,h.new,Ac h.Ag hb⟩
theorem EU.before{w0 w w':World}{l:List UInt8}{a:Option Addr}{c:Nat}(hb:Below w0.heap.size w0 w)(h:EU w w' l a c):EU w0 w' l a c:=⟨h.row,λ k hk=>AjD hb.size (h.new k hk),Ac hb h.Ag⟩
theorem I5{w:World}{a:Option Addr}{c:Nat}{l:List UInt8}(hr:Row w ty.uint8 1 a l.length c (l.map Af))(hl:l.length+1<=140737488355328){x:UInt8}{v:Value}(hv:v=Af x){b:Nat}{t:TypeId}
  (hb:w.heap[b]?=some (.cells #[v] t (0,0))) {f:Value->World->Prop}
  (hf:∀ a' c' w',Row w' ty.uint8 1 a' (l++[x]).length c' ((l++[x]).map Af)->Aq (λ k=>BX a=some k) w w'->(∀ k,BX a'=some k->BX a=some k\/w.heap.size<=k)->f (.slice a' (l++[x]).length c') w') :
  Dc Tryz.prog (Builtin.append_ #[ty.AM,ty.AM] ty.AM #[.slice a l.length c,.slice (some ⟨b,0,none⟩) 1 1]) f w:=by
 subst hv;have cu:Rd w (some ⟨b,0,none⟩) ([x].map Af):=by
  have:=Rd.Av hb;simpa using this
 obtain⟨a',c',w',aF,aI,hk,bK⟩:=HH (ty:=ty.AM) (mc:=1) tB zB (by omega) (by omega) hr cu (m:=1) rfl (Hg _) (by omega);unfold Dc;rw [aF];have hlen:(l++[x]).length=l.length+1:=by simp
 rw [<- List.map_append,<- hlen] at aI;rw [<- hlen];exact hf a' c' w' aI hk bK
theorem HG{w:World}{a:Option Addr}{c:Nat}{l:List UInt8}(hr:Row w ty.uint8 1 a l.length c (l.map Af)){m:List UInt8}{b:Option Addr}{mc:Nat}(hb:Rd w b (m.map Af))(hl:l.length+m.length<=140737488355328){f:Value->World->Prop}
  (hf:∀ a' c' w',Row w' ty.uint8 1 a' (l++m).length c' ((l++m).map Af)->Aq (λ k=>BX a=some k) w w'->(∀ k,BX a'=some k->BX a=some k\/w.heap.size<=k)->f (.slice a' (l++m).length c') w') :
  Dc Tryz.prog (Builtin.append_ #[ty.AM,ty.AM] ty.AM #[.slice a l.length c,.slice b m.length mc]) f w:=by
 obtain⟨a',c',w',aF,aI,hk,bK⟩:=HH (ty:=ty.AM) (mc:=mc) tB zB (by omega) (by omega) hr hb (m:=m.length) (by simp) (Hg _) (by omega);unfold Dc;rw [aF];have hlen:(l++m).length=l.length+m.length:=by simp
 rw [<- List.map_append,<- hlen] at aI;rw [<- hlen];exact hf a' c' w' aI hk bK
/-! ### digits -/
def Al(n:Nat):List UInt8:=if h:n<128 then [AjA n] else AjA (n % 128+128) :: Al (n / 128)
termination_by n
decreasing_by omega
theorem ON:∀(k n:Nat),n<128 ^ (k+1)->(Al n).length<=k+1
 | 0,n,h=>by unfold Al;rw [dif_pos (by simpa using h)];simp
 | k+1,n,h=>by
  unfold Al;split
  ·simp
  ·have:=ON k (n / 128) (by rw [AjG] at h;exact Nat.div_lt_of_lt_mul (by rw [AjH];exact h));simp only [List.length_cons];omega
theorem AE{n:Nat}(h:n<18446744073709551616):(Al n).length<=10:=ON 9 n (Nat.lt_trans h (by decide))
theorem AgJ{n:Nat}(h:n<18446744073709551616):(Ai2 64 (n:Int) &&& Ai2 64 127).toNat=n % 128:=by
 rw [BitVec.toNat_and,AjE,AjF,AjB (by omega)];have:=Nat.and_two_pow_sub_one_eq_mod n 7;exact this
theorem AiQ{n:Nat}(h:n<18446744073709551616):IntKind.u8.wrap (IntKind.u64.wrap (((Ai2 64 (n:Int) &&& Ai2 64 127).toNat:Int)))=((n % 128:Nat):Int):=by
 rw [AgJ h,A8 (by omega) (by omega),DS (by omega) (by omega)]
theorem Aif{x:Nat}(h:x<128):IntKind.u8.wrap (((Ai2 8 (x:Int) ||| Ai2 8 128).toNat:Int))=((x+128:Nat):Int):=by
 have e:(Ai2 8 (x:Int) ||| Ai2 8 128).toNat=x+128:=by
  rw [BitVec.toNat_or,AjE,AjF,AjB (by omega)];have:=Nat.two_pow_add_eq_or_of_lt (i:=7) (b:=x) (by omega) 1;rw [Nat.or_comm];have h2:(Ai2 8 128).toNat=128:=by decide
  rw [h2];have h3:2 ^ 7*1 ||| x=2 ^ 7*1+x:=this.symm;have h4:(128:Nat) ||| x=128+x:=h3;rw [h4];omega
 rw [e,DS (by omega) (by omega)]
theorem AiZ(n:Nat):Int.fdiv (n:Int) (2 ^ (min 7 64))=((n / 128:Nat):Int):=by
 rw [Int.fdiv_eq_ediv_of_nonneg _ (by decide)]
 norm_cast
theorem He{x:Nat}(h:x<256):Value.int .u8 (x:Int)=Af (AjA x):=by
 unfold Af;congr 1;simp;omega
theorem JP(w:World)(n:Nat)(hn:n<18446744073709551616):Calls Tryz.prog f.Yx #[.int .u64 (n:Int)] w (AD λ v w'=>∃ a c,v=.slice a (Al n).length c/\EU w w' (Al n) a c):=by
 apply R.NB
 delta R.B R.F R.J R.Ks R.N R.O R.Qus R.S R.U R.Wb R.Wu;try dsimp only [R.Ps]
 refine⟨λ s w1=>∃(m:Nat) (a:Option Addr) (c:Nat) (l:List UInt8),s=[.int .u64 (m:Int),.slice a l.length c]/\m<18446744073709551616/\l++Al m=Al n/\EU w w1 l a c,
  λ s _=>match s with
   | [.int _ i,_]=>i.toNat
   | _=>0,⟨n,none,0,[],rfl,hn,rfl,Row.nil _ _ _,by simp [BX],.refl _ _⟩,?_⟩
 rintro _ a _ c w1 ⟨m,_,_,l,hs,hm,hl,h1⟩;cases hs;have hlen:l.length+1<=140737488355328:=by
  have:=AE hn;rw [<- hl] at this;simp at this;omega
 rw [AiZ,AiQ hm];refine Aj (λ h0=>?_) (λ h0=>?_)
 ·have eh:m<128:=by omega
  refine (SH.start (λ _=>False) w1).Ak λ b5 w2 lL B2 S2=>?_;refine I5 (h1.grown B2).row hlen (x:=AjA m) (by rw [AjB eh];exact He (by omega)) (S2.get 0 rfl) λ a' c' w3 R3 K3 N3=>⟨_,_,_,rfl,?_⟩;have e:l++[AjA m]=Al n:=by rw [<- hl];conv=>rhs;unfold Al;rw [dif_pos eh]
  rw [e] at R3;rw [e];refine⟨a',c',rfl,R3,λ k hk=>?_,(h1.grown B2).Ag.trans (K3.below (h1.grown B2).Ag.size λ k hk he=>by have:=h1.new k he;omega)⟩;rcases N3 k hk with h | h
  ·exact h1.new k h
  ·exact AjD (h1.grown B2).Ag.size h
 ·have eh:¬ m<128:=by omega
  rw [Aif (Nat.mod_lt _ (by omega))];refine (SH.start (λ _=>False) w1).Ak λ b5 w2 lL B2 S2=>?_;refine I5 (h1.grown B2).row hlen (x:=AjA (m % 128+128)) (He (by omega)) (S2.get 0 rfl) λ a' c' w3 R3 K3 N3=>⟨_,_,_,rfl,?_⟩;refine⟨⟨m / 128,a',c',_,rfl,by omega,?_,R3,λ k hk=>?_,(h1.grown B2).Ag.trans (K3.below (h1.grown B2).Ag.size λ k hk he=>by have:=h1.new k he;omega)⟩,?_⟩
  ·rw [<- hl]
   conv=>rhs;rhs;unfold Al;rw [dif_neg eh]
   simp
  ·rcases N3 k hk with h | h
   ·exact h1.new k h
   ·exact AjD (h1.grown B2).Ag.size h
  ·simp only [Ajz];omega
/-! ### Concat -/
abbrev Io:=Option Addr × Nat × List UInt8
def C1(p:Io):Value:=.slice p.1 p.2.2.length p.2.1
def Bv(ps:List Io):List UInt8:=ps.flatMap (·.2.2)
theorem HY(ps:List Io)(k:Nat)(hk:k<ps.length):Bv (ps.take (k+1))=Bv (ps.take k)++ps[k].2.2:=by
 unfold Bv;rw [List.take_succ_eq_append_getElem hk,List.flatMap_append];simp
theorem W5(ps:List Io)(k:Nat):(Bv (ps.take k)).length<=(Bv ps).length:=by
 have:Bv ps=Bv (ps.take k)++Bv (ps.drop k):=by
  unfold Bv;rw [<- List.flatMap_append,List.take_append_drop]
 rw [this,Ajk];omega
theorem PW(w:World)(n:Nat)(hn:n<=140737488355328):Calls Tryz.prog f.IM #[.slice none 0 0,.int .i64 (n:Int)] w
  (AD λ v w'=>∃ a c,v=.slice a 0 c/\n<=c/\Row w' ty.uint8 1 a 0 c []/\(∀ k,BX a=some k->w.heap.size<=k)/\Below w.heap.size w w'):=by
 apply R.FU
 delta R.F R.I R.Rs R.S R.W R.Y;try dsimp only [R.Ps]
 have e0:IntKind.i64.wrap (((0:Nat):Int)-((0:Nat):Int))=0:=by rw [wrap_i64 (by omega) (by omega)];omega
 have e1:IntKind.i64.wrap ((n:Int)-0)=(n:Int):=by rw [wrap_i64 (by omega) (by omega)];omega
 refine Aa (λ h=>by omega) (λ _=>?_);rw [e0,e1];refine Aa (λ hp=>⟨⟨by omega,by omega,by omega⟩,?_⟩) (λ hp=>?_)
 ·obtain⟨c',w',aF,aI,hc,hb⟩:=HI (u:=ty.int) (ty:=ty.AM) tB (show Tryz.prog.underlying ty.int=some (.int .i64) by kernel_rfl) zB (by omega) (by omega) (w:=w) (m:=n) (by omega) (by omega);have hs:BD none 0 0 1=none:=rfl;unfold Dc;rw [hs];simp only [Nat.sub_zero,aF];refine⟨_,_,_,rfl,⟨by omega,by omega,by omega⟩,some ⟨w.heap.size,0,none⟩,c',?_,hc,aI,λ k hk=>by simp [BX] at hk;omega,hb⟩;have:BD (some (⟨w.heap.size,0,none⟩:Addr)) 0 c' 1=some ⟨w.heap.size,0,none⟩:=by
   unfold BD;split
   ·rfl
   ·simp [EO]
  rw [this]
 ·have:n=0:=by omega
  subst this;exact⟨none,0,rfl,Nat.le_refl _,Row.nil _ _ _,by simp [BX],.refl _ _⟩
theorem Ca{w:World}{a:Option Addr}{c:Nat}(ps:List Io)(hp:Rd w a (ps.map C1))(hb:∀ p∈ps,Rd w p.1 (p.2.2.map Af))(hn:ps.length<9223372036854775807)(hl:(Bv ps).length<=140737488355328) :
  Calls Tryz.prog f.Hz #[.slice a ps.length c] w (AD λ v w'=>∃ a c,v=.slice a (Bv ps).length c/\EU w w' (Bv ps) a c):=by
 apply R.E7
 delta R.Ad R.Cs R.F R.I R.Ks R.Ls R.O R.Qii R.J2 R.S R.W R.X;try dsimp only [R.Ps]
 refine⟨λ s w1=>∃ k:Nat,s=[.int .i64 ((Bv (ps.take k)).length:Int),.int .i64 k]/\k<=ps.length/\w1=w,
  λ s _=>match s with
   | [_,.int _ i]=>ps.length-i.toNat
   | _=>0,⟨0,rfl,Nat.zero_le _,rfl⟩,?_⟩
 rintro _ _ w1 ⟨k,hs,hk,rfl⟩;cases hs;refine Aa (λ aB=>⟨⟨by omega,aB⟩,?_⟩) (λ aM=>?_)
 ·have bX:k<ps.length:=by omega
  obtain⟨p,rfl,hc⟩:=hp k (C1 ps[k]) (by simp [bX]);have h1:=W5 ps (k+1);rw [HY ps k bX,Ajk] at h1;refine⟨_,_,_,by rw [Ajz,AjC];exact hc,?_⟩;have e:IntKind.i64.wrap (((Bv (ps.take k)).length:Int)+(ps[k].2.2.length:Int))=((Bv (ps.take (k+1))).length:Int):=by
   rw [HY ps k bX,Ajk,wrap_i64 (by omega) (by omega)];omega
  rw [e];refine Aa (λ h=>by omega) (λ _=>?_);rw [Ah (by omega)];refine⟨⟨k+1,rfl,by omega,rfl⟩,?_⟩;simp only [Ajz];omega
 ·have nK:k=ps.length:=by omega
  subst nK;rw [List.take_length];refine (PW w1 _ hl).mono ?_;rintro _ w2 ⟨_,rfl,a2,c2,rfl,dN,R2,N2,B2⟩;refine⟨_,_,_,rfl,?_⟩;refine⟨λ s w3=>∃(k:Nat) (a3:Option Addr) (c3:Nat),s=[.slice a3 (Bv (ps.take k)).length c3,.int .i64 k]/\k<=ps.length/\EU w1 w3 (Bv (ps.take k)) a3 c3,
   λ s _=>match s with
    | [_,.int _ i]=>ps.length-i.toNat
    | _=>0,⟨0,a2,c2,rfl,Nat.zero_le _,R2,N2,B2⟩,?_⟩
  rintro a3 _ c3 _ w3 ⟨k,_,_,hs,hk,h3⟩;cases hs;refine Aa (λ aB=>⟨⟨by omega,aB⟩,?_⟩) (λ aM=>?_)
  ·have bX:k<ps.length:=by omega
   obtain⟨p,rfl,hc⟩:=(hp.grown h3.Ag) k (C1 ps[k]) (by simp [bX]);have h1:=W5 ps (k+1);rw [HY ps k bX,Ajk] at h1;refine⟨_,_,_,by rw [Ajz,AjC];exact hc,?_⟩;refine HG h3.row ((hb _ (List.getElem_mem bX)).grown h3.Ag) (by omega) λ a' c' w4 R4 K4 N4=>⟨_,_,_,rfl,?_⟩;rw [<- HY ps k bX] at R4 ⊢;rw [Ah (by omega)];refine⟨⟨k+1,a',c',rfl,by omega,R4,λ j hj=>?_,h3.Ag.trans (K4.below h3.Ag.size λ j hj he=>by have:=h3.new j he;omega)⟩,?_⟩
   ·rcases N4 j hj with h | h
    ·exact h3.new j h
    ·exact AjD h3.Ag.size h
   ·simp only [Ajz];omega
  ·have nK:k=ps.length:=by omega
   subst nK;rw [List.take_length] at h3 ⊢;exact⟨a3,c3,rfl,h3⟩
theorem AaP(a b:Io):Bv [a,b]=a.2.2++b.2.2:=by simp [Bv]
theorem AaQ(a b c:Io):Bv [a,b,c]=a.2.2++(b.2.2++c.2.2):=by simp [Bv]
theorem BC{w:World}{a:Option Addr}{c:Nat}(l:List UInt8)(hl:Rd w a (l.map Af))(n:Nat)(hn:n<18446744073709551616)(hs:l.length+10<=140737488355328) :
  Calls Tryz.prog f.Yu #[.slice a l.length c,.int .u64 (n:Int)] w (AD λ v w'=>∃ a c,v=.slice a (l++Al n).length c/\EU w w' (l++Al n) a c):=by
 apply R.Ny
 delta R.Cs R.J R.N R.S R.U;try dsimp only [R.Ps]
 refine (JP w n hn).mono ?_;rintro _ w1 ⟨_,rfl,a1,c1,rfl,h1⟩;refine⟨_,_,_,rfl,(SH.start (λ _=>False) w1).Ak λ b5 w2 lL B2 S2=>?_⟩;have hd:=AE hn;have h2:=h1.grown B2;refine (Ca [(a,c,l),(a1,c1,Al n)] (by have:=Rd.Av (S2.get 0 rfl);simpa [C1] using this) (by
  intro p hp;simp only [List.mem_cons,List.not_mem_nil,or_false] at hp;rcases hp with rfl | rfl
  ·exact hl.grown h2.Ag
  ·exact h2.rd) (by simp) (by rw [AaP];simp;omega)).mono ?_
 rintro _ w3 ⟨_,rfl,a3,c3,rfl,h3⟩;rw [AaP] at h3 ⊢;exact⟨_,_,_,rfl,a3,c3,rfl,h3.before h2.Ag⟩
def Es(s:ByteArray):List UInt8:=Al s.size++bl s
theorem NA{w:World}{a:Option Addr}{c:Nat}(l:List UInt8)(hl:Rd w a (l.map Af))(s:ByteArray)(hz:s.size<=1048576)(hs:l.length+10+s.size<=140737488355328) :
  Calls Tryz.prog f.AcN #[.slice a l.length c,.string s] w (AD λ v w'=>∃ a c,v=.tuple #[.slice a (l++Es s).length c,.int .i64 0]/\EU w w' (l++Es s) a c):=by
 apply R.P1
 delta R.Cs R.F R.H R.I R.J R.N R.O R.Rs R.S R.T R.U R.Wu;try dsimp only [R.Ps]
 refine Aa (λ h=>by omega) (λ _=>?_);rw [A8 (by omega) (by omega)];refine (JP w s.size (by omega)).mono ?_;rintro _ w1 ⟨_,rfl,a1,c1,rfl,h1⟩;have hd:=AE (n:=s.size) (by omega);refine⟨_,_,_,rfl,Fg LI s w1 λ b c2 cs e w2 hb B2 hh aj sW dk=>⟨_,_,_,rfl,(SH.start (λ _=>False) w2).Ak λ b7 w3 uD B3 S3=>?_⟩⟩;have aP:Rd w2 (some ⟨b,0,none⟩) ((bl s).map Af):=by rw [<- dk];exact (Rd.Av hh).take _
 have h3:=(h1.grown B2).grown B3;have dM:=Bs s;refine (Ca [(a,c,l),(a1,c1,Al s.size),(some ⟨b,0,none⟩,c2,bl s)] (by have:=Rd.Av (S3.get 0 rfl);simpa [C1,dM] using this) (by
  intro p hp;simp only [List.mem_cons,List.not_mem_nil,or_false] at hp;rcases hp with rfl | rfl | rfl
  ·exact hl.grown h3.Ag
  ·exact h3.rd
  ·exact aP.grown B3) (by simp) (by rw [AaQ];simp;omega)).mono ?_
 rintro _ w4 ⟨_,rfl,a3,c3,rfl,h4⟩;rw [AaQ] at h4 ⊢;exact⟨_,_,_,rfl,a3,c3,rfl,h4.before h3.Ag⟩
def CB(i acc:Nat):List UInt8->Option (Nat × Nat)
 | []=>none
 | c :: r=>if 9<i\/(i=9/\c.toNat≠1) then none else if c.toNat<128 then (if c.toNat=0/\0<i then none else some (acc+c.toNat*128 ^ i,i+1)) else CB (i+1) (acc+(c.toNat % 128)*128 ^ i) r
def takeN(l:List UInt8)(at_:Int):Option (Nat × Nat):=if at_<0 then none else (CB 0 0 (l.drop at_.toNat)).map λ x=>(x.1,at_.toNat+x.2)
def ZE(o:Option (Nat × Nat)):Value :=
 match o with
 | some x=>.tuple #[.int .u64 (x.1:Int),.int .i64 (x.2:Int),.int .i64 0]
 | none=>.tuple #[.int .u64 0,.int .i64 0,.int .i64 20]
theorem Ig:∀(l:List UInt8) (i acc n k:Nat),acc<128 ^ i->CB i acc l=some (n,k)->n<18446744073709551616/\i<k/\k<=i+l.length/\k<=10/\(0<i->128 ^ i<=n)
 | [],_,_,_,_,_,h=>by simp [CB] at h
 | c :: r,i,acc,n,k,ha,h=>by
  unfold CB at h;split at h
  ·cases h
  ·rename_i hi;split at h
   ·rename_i hc;split at h
    ·cases h
    ·rename_i hz;simp only [Option.some.injEq,Prod.mk.injEq] at h;obtain⟨rfl,rfl⟩:=h;refine⟨?_,by omega,by simp,by omega,λ h0=>?_⟩
     ·by_cases h9:i=9
      ·subst h9;have:c.toNat=1:=by omega
       rw [this];have:(128:Nat) ^ 9=9223372036854775808:=by decide
       omega
      ·have hp:(128:Nat) ^ i<=128 ^ 8:=Nat.pow_le_pow_right (by omega) (by omega);have:(128:Nat) ^ 8=72057594037927936:=by decide
       have h3:c.toNat*128 ^ i<=127*128 ^ i:=Ajq _ (by omega);omega
     ·have h1:1<=c.toNat:=by omega
      have:1*128 ^ i<=c.toNat*128 ^ i:=Ajq _ h1;omega
   ·rename_i hc;have gk:i<=8:=by omega
    have sN:(128:Nat) ^ (i+1)=128 ^ i*128:=AjG ..;have h3:(c.toNat % 128)*128 ^ i<=127*128 ^ i:=Ajq _ (by omega);obtain⟨h1,h2,h4,h5,h6⟩:=Ig r (i+1) _ n k (by omega) h;refine⟨h1,by omega,by simp;omega,h5,λ _=>?_⟩;have:=h6 (by omega);omega
theorem ZS(i:Nat):(128:Nat) ^ i=2 ^ (7*i):=by rw [Nat.pow_mul]
theorem AfM{acc c i:Nat}(ha:acc<128 ^ i)(hc:c<128)(hi:i<=9)(h9:i=9->c<=1) :
  acc+c*128 ^ i<18446744073709551616/\(Ai2 64 (acc:Int) ||| Ai2 64 ((c*128 ^ i:Nat):Int)).toNat=acc+c*128 ^ i:=by
 have hb:acc+c*128 ^ i<18446744073709551616:=by
  by_cases h:i=9
  ·subst h;have:=h9 rfl;have e:(128:Nat) ^ 9=9223372036854775808:=by decide
   have:c*128 ^ 9<=1*128 ^ 9:=Ajq _ this;omega
  ·have hp:(128:Nat) ^ i<=128 ^ 8:=Nat.pow_le_pow_right (by omega) (by omega);have:(128:Nat) ^ 8=72057594037927936:=by decide
   have h3:c*128 ^ i<=127*128 ^ i:=Ajq _ (by omega);omega
 refine⟨hb,?_⟩;rw [BitVec.toNat_or,AjE,AjE,AjF,AjF,AjB (by omega),AjB (by omega),ZS,Nat.or_comm];rw [ZS] at ha;have:=Nat.two_pow_add_eq_or_of_lt (i:=7*i) (b:=acc) ha c;rw [AjH c,<- this];omega
theorem Aha{x:Nat}(h:x<256):IntKind.u8.wrap (((Ai2 8 (x:Int) &&& Ai2 8 127).toNat:Int))=((x % 128:Nat):Int):=by
 have:(Ai2 8 (x:Int) &&& Ai2 8 127).toNat=x % 128:=by
  rw [BitVec.toNat_and,AjE,AjF,AjB (by omega)];exact Nat.and_two_pow_sub_one_eq_mod x 7
 rw [this,DS (by omega) (by omega)]
theorem Z7{c i:Nat}(hc:c<128)(hi:i<=9):IntKind.u64.wrap ((c:Int)*2 ^ (min (IntKind.i64.wrap (7*(i:Int))).toNat 64))=((c*128 ^ i % 18446744073709551616:Nat):Int):=by
 have e:min (IntKind.i64.wrap (7*(i:Int))).toNat 64=7*i:=by rw [wrap_i64 (by omega) (by omega)];omega
 rw [e,wrap_u64,ZS];have:((2:Int) ^ (7*i))=((2 ^ (7*i):Nat):Int):=by norm_cast
 rw [this,<- Int.natCast_mul];omega
section
variable {w:World}{a:Option Addr}{c:Nat}{l:List UInt8}
theorem byte_at(hl:Rd w a (l.map Af)){i:Nat}(hi:i<l.length):∃ p,a=some p/\w.cell? (p.add (i*1))=some (.int .u8 (l[i].toNat:Int)):=by
 obtain⟨p,hp,hc⟩:=hl i (Af l[i]) (by simp [hi]);exact⟨p,hp,by rw [AjC];exact hc⟩
theorem AbF{i:Nat}(hi:i<l.length):l.drop i=l[i] :: l.drop (i+1):=List.drop_eq_getElem_cons hi
theorem AK(hl:Rd w a (l.map Af))(hc:l.length<=c)(hs:l.length<=9223372036854775807)(at_:Int):Calls Tryz.prog f.PZ #[.slice a l.length c,.int .i64 at_] w (AD λ v w'=>v=ZE (takeN l at_)/\w'=w):=by
 apply R.IU
 delta R.Ad R.F R.H R.I R.Ly R.Qui R.U R.W R.Wb R.Wu R.X R.Y R.Z;try dsimp only [R.Ps]
 refine Aa (λ h=>⟨by simp [takeN,h,ZE],rfl⟩) (λ h0=>Aa (λ h=>⟨?_,rfl⟩) (λ h1=>?_))
 ·have:l.drop at_.toNat=[]:=List.drop_eq_nil_of_le (by omega);simp [takeN,h0,this,CB,ZE]
 obtain⟨at_,rfl⟩:∃ k:Nat,at_=k:=⟨at_.toNat,by omega⟩;rw [Ajz];have gb:at_<=l.length:=by omega
 have ht:takeN l (at_:Int)=(CB 0 0 (l.drop at_)).map λ x=>(x.1,at_+x.2):=by unfold takeN;rw [if_neg h0];rfl
 refine⟨⟨by omega,by omega,by omega⟩,?_⟩;refine⟨λ s w1=>w1=w/\∃ i acc:Nat,s=[.int .u64 (acc:Int),.int .i64 (i:Int)]/\i<=10/\at_+i<=l.length/\acc<128 ^ i/\CB 0 0 (l.drop at_)=CB i acc (l.drop (at_+i)),
  λ s _=>match s with
   | [_,.int _ i]=>10-i.toNat
   | _=>0,⟨rfl,0,0,rfl,by omega,by omega,by simp,rfl⟩,?_⟩
 rintro _ _ w1 ⟨rfl,i,acc,eC,hi,hle,mX,fM⟩;cases eC;have none_:CB i acc (l.drop (at_+i))=none->(Value.tuple #[.int .u64 0,.int .i64 0,.int .i64 20]=ZE (takeN l (at_:Int))/\w1=w1):=by
  intro hn;rw [ht,fM,hn];exact⟨rfl,rfl⟩
 refine Aa (λ aB=>⟨⟨by omega,aB⟩,?_⟩) (λ aM=>?_)
 ·have aE:at_+i<l.length:=by omega
  have aP:=(hl.YA at_ l.length c 1 hc);obtain⟨p,hp,hcell⟩:=aP i (Af l[at_+i]) (by
   rw [List.getElem?_take_of_lt (by omega),List.getElem?_drop,AjC];simp [aE])
  rw [hp];refine⟨_,by rw [Ajz,AjC];exact hcell,?_⟩;have hd:=AbF aE;generalize cE:l[at_+i]=cc at hd;have jq:=cc.toNat_lt;refine⟨λ _ w2=>w2=w1/\¬ (9<i\/(i=9/\cc.toNat≠1)),?_,?_⟩
  ·refine Aa (λ h=>none_ (by rw [hd];unfold CB;rw [if_pos (.inl (by omega))])) (λ h9=>Aj (λ h=>As (λ h2=>none_ (by rw [hd];unfold CB;rw [if_pos (.inr ⟨by omega,by omega⟩)])) (λ h2=>⟨rfl,by omega⟩)) (λ h=>⟨rfl,by omega⟩))
  rintro w2 ⟨rfl,aq⟩;have pK:i<=9:=by omega
  have hm:cc.toNat % 128<128:=Nat.mod_lt _ (by omega);have h9:i=9->cc.toNat % 128<=1:=by omega
  obtain⟨hb,hor⟩:=AfM mX hm pK h9;have e1:IntKind.u64.wrap (IntKind.u8.wrap (((Ai2 8 (cc.toNat:Int) &&& Ai2 8 127).toNat:Int)))=((cc.toNat % 128:Nat):Int):=by rw [Aha jq,A8 (by omega) (by omega)]
  rw [e1,Z7 hm pK,AjB (by omega:cc.toNat % 128*128 ^ i<18446744073709551616),hor,A8 (by omega) (by omega)];refine⟨by rw [wrap_i64 (by omega) (by omega)];omega,?_⟩;have fin:cc.toNat<128->¬ (cc.toNat=0/\0<i)->(Value.tuple #[.int .u64 ((acc+cc.toNat % 128*128 ^ i:Nat):Int),.int .i64 (IntKind.i64.wrap (IntKind.i64.wrap ((at_:Int)+(i:Int))+1)),.int .i64 0]=ZE (takeN l (at_:Int))/\w2=w2):=by
   intro aB hz;refine⟨?_,rfl⟩;rw [ht,fM,hd];unfold CB;rw [if_neg aq,if_pos aB,if_neg hz,AjB aB,wrap_i64 (n:=(at_:Int)+(i:Int)) (by omega) (by omega),wrap_i64 (by omega) (by omega)];simp only [Option.map_some,ZE];congr 5
  refine Aa (λ aB=>Aj (λ hz=>Aa (λ h=>none_ (by rw [hd];unfold CB;rw [if_neg aq,if_pos (by omega),if_pos ⟨by omega,by omega⟩])) (λ h=>fin (by omega) (by omega))) (λ hz=>fin (by omega) (by omega))) (λ aM=>?_);rw [Ah (by omega)];refine⟨⟨rfl,i+1,_,rfl,by omega,by omega,?_,?_⟩,?_⟩
  ·rw [AjG];have h3:(cc.toNat % 128)*128 ^ i<=127*128 ^ i:=Ajq _ (by omega);omega
  ·rw [fM,hd]
   conv=>lhs;unfold CB
   rw [if_neg aq,if_neg (by omega)];rfl
  ·simp only [Ajz];omega
 ·refine none_ ?_;rw [List.drop_eq_nil_of_le (by omega)];rfl
end
theorem Cr{l:List UInt8}{at_:Int}{n k:Nat}(h:takeN l at_=some (n,k)):n<18446744073709551616/\0<=at_/\at_.toNat<k/\k<=l.length/\k<=at_.toNat+10:=by
 unfold takeN at h;split at h
 ·cases h
 ·obtain⟨⟨x1,x2⟩,hx,he⟩:=Option.map_eq_some_iff.1 h;simp only [Prod.mk.injEq] at he;obtain⟨rfl,rfl⟩:=he;obtain⟨h1,h2,h3,h4,_⟩:=Ig _ 0 0 _ _ (by simp) hx;rw [List.length_drop] at h3;refine⟨h1,by omega,by omega,by omega,by omega⟩
def E9(l:List UInt8)(at_:Int)(most:Nat):Option (List UInt8 × Nat) :=
 match takeN l at_ with
 | some x=>if 1048576<x.1\/most<x.1\/l.length-x.2<x.1 then none else some ((l.drop x.2).take x.1,x.2+x.1)
 | none=>none
def Aiq(o:Option (List UInt8 × Nat)):Value :=
 match o with
 | some x=>.tuple #[.string (Dz x.1),.int .i64 (x.2:Int),.int .i64 0]
 | none=>.tuple #[.string ⟨#[]⟩,.int .i64 0,.int .i64 20]
section
variable {w:World}{a:Option Addr}{c:Nat}{l:List UInt8}
theorem GR(hl:Rd w a (l.map Af))(hc:l.length<=c)(hs:l.length<=9223372036854775807)(at_:Int)(most:Nat):Calls Tryz.prog f.Tl #[.slice a l.length c,.int .i64 at_,.int .i64 (most:Int)] w (AD λ v w'=>v=Aiq (E9 l at_ most)/\w'=w):=by
 apply R.Ki
 delta R.F3 R.F R.H R.I R.Rt R.S R.T R.W R.Y;try dsimp only [R.Ps]
 refine (AK hl hc hs at_).mono ?_;rintro _ w ⟨_,rfl,rfl,rfl⟩;cases ho:takeN l at_ with
 | none=>exact⟨_,_,_,rfl,AZ ⟨by simp only [E9,ho];rfl,rfl⟩⟩
 | some x =>
  obtain⟨n,k⟩:=x;obtain⟨h1,h2,h3,h4,h5⟩:=Cr ho;have no:(1048576<n\/most<n\/l.length-k<n)->(Value.tuple #[.string ⟨#[]⟩,.int .i64 0,.int .i64 20]=Aiq (E9 l at_ most)/\w=w):=by
   intro h;refine⟨?_,rfl⟩;simp only [E9,ho];rw [if_pos h];rfl
  refine⟨_,_,_,rfl,AN (Aa (λ h=>no (.inl (by omega))) (λ jK=>?_))⟩;rw [wrap_i64 (n:=(n:Int)) (by omega) (by omega),wrap_i64 (n:=(l.length:Int)-(k:Int)) (by omega) (by omega)];refine Aa (λ h=>no (.inr (.inl (by omega)))) (λ gu=>Aa (λ h=>no (.inr (.inr (by omega)))) (λ uJ=>?_));have e:IntKind.i64.wrap ((k:Int)+(n:Int))=((k+n:Nat):Int):=by rw [wrap_i64 (by omega) (by omega)];omega
  rw [e];refine⟨⟨by omega,by omega,by omega⟩,?_⟩;rw [Ajz,Ajz,Nat.add_sub_cancel_left];have dU:=hl.YA k (k+n) c 1 (by omega);rw [AjC,AjC,Nat.add_sub_cancel_left,<- List.map_drop,<- List.map_take] at dU;have hlen:((l.drop k).take n).length=n:=by rw [List.length_take,List.length_drop];omega
  refine BH LI hlen.symm dU ⟨_,rfl,?_,rfl⟩;simp only [E9,ho];rw [if_neg (by omega)];rfl
end
theorem EU.Adk{w w1 w2 w3:World}{l m:List UInt8}{a a':Option Addr}{c c':Nat}(h:EU w w1 l a c)(hb:Below w1.heap.size w1 w2)(R:Row w3 ty.uint8 1 a' m.length c' (m.map Af))(K:Aq (λ k=>BX a=some k) w2 w3)(N:∀ k,BX a'=some k->BX a=some k\/w2.heap.size<=k):EU w w3 m a' c':=by
 have h2:=h.grown hb;refine⟨R,λ k hk=>?_,h2.Ag.trans (K.below h2.Ag.size λ k hk he=>by have:=h2.new k he;omega)⟩;rcases N k hk with hh | hh
 ·exact h2.new k hh
 ·exact AjD h2.Ag.size hh
section
variable {w:World}{a:Option Addr}{c:Nat}
end
theorem MK{n:Nat}(h:n<256):(AjA n).toNat=n:=by simp;omega
theorem SF{n:Nat}(h:n<128):Al n=[AjA n]:=by unfold Al;rw [dif_pos h]
theorem WN{n:Nat}(h:¬ n<128):Al n=AjA (n % 128+128) :: Al (n / 128):=by conv=>lhs;unfold Al;rw [dif_neg h]
theorem VL(n:Nat):∀(i acc:Nat) (r:List UInt8),n*128 ^ i<18446744073709551616->i<=9->(n=0->i=0)->CB i acc (Al n++r)=some (acc+n*128 ^ i,i+(Al n).length):=by
 induction n using Nat.strongRecOn with
 | _ n ih =>
  intro i acc r hn hi h0;by_cases h:n<128
  ·rw [SF h];simp only [List.singleton_append,CB];rw [MK (by omega)];have e9:i=9->n=1:=by
    intro h9;subst h9;have:(128:Nat) ^ 9=9223372036854775808:=by decide
    rw [this] at hn;have:n≠0:=λ h=>by have:=h0 h;omega
    omega
   rw [if_neg (by omega),if_pos h,if_neg (by omega)];rfl
  ·rw [WN h];simp only [List.cons_append,CB];rw [MK (by omega)];have h8:i<=8:=by
    by_cases h9:i=9
    ·subst h9;have:(128:Nat) ^ 9=9223372036854775808:=by decide
     rw [this] at hn;omega
    ·omega
   have ep:(128:Nat) ^ (i+1)=128*128 ^ i:=by rw [AjG,AjH]
   have key:n / 128*128 ^ (i+1)+n % 128*128 ^ i=n*128 ^ i:=by
    rw [ep,<- Nat.mul_assoc,<- Nat.add_mul];congr 1;omega
   rw [if_neg (by omega),if_neg (by omega),ih (n / 128) (by omega) (i+1) _ r (by omega) (by omega) (by omega)];simp only [List.length_cons];have:(n % 128+128) % 128=n % 128:=by omega
   rw [this];congr 2
   ·omega
   ·omega
end Go.Proofs.YtegnhfeclchlmaaGreatDoor
namespace Go.Dn
set_option linter.unusedVariables false
set_option maxRecDepth 100000
def Good(P:Program)(w:World):Nat->TypeId->List Value->Prop
 | 0,_,_=>False
 | n+1,t,cs =>
  match P.underlying t with
  | some .bool=>∃ b,cs=[.bool b]
  | some (.int k)=>∃ x,cs=[.int k x]/\(Lit.int k x).wf=true
  | some .string=>∃ s:ByteArray,cs=[.string s]/\s.size<=maxLen
  | some (.slice e)=>∃ a len cap,cs=[.slice a len cap]/\len<=cap/\cap<=maxLen/\(a=none->cap=0) /\
    ∃ rows:List (List Value),rows.length=len/\Rd w a rows.flatten/\∀ r∈rows,r.length=P.cellsOf e/\Good P w n e r
  | some (.struct fs)=>cs.length=P.cellsOf t/\∀ f∈fs.toList,Good P w n f.type ((cs.drop f.offset).take (P.cellsOf f.type))
  | _=>True
section
variable {P:Program}{w:World}
theorem Good.bool{n:Nat}{t:TypeId}{cs:List Value}(h:Good P w n t cs)(ht:P.underlying t=some .bool):∃ b,cs=[.bool b]:=by
 cases n with
 | zero=>exact h.elim
 | succ n=>unfold Good at h;rw [ht] at h;exact h
theorem Good.int{n:Nat}{t:TypeId}{cs:List Value}{k:IntKind}(h:Good P w n t cs)(ht:P.underlying t=some (.int k)):∃ x,cs=[.int k x]/\(Lit.int k x).wf=true:=by
 cases n with
 | zero=>exact h.elim
 | succ n=>unfold Good at h;rw [ht] at h;exact h
theorem Good.str{n:Nat}{t:TypeId}{cs:List Value}(h:Good P w n t cs)(ht:P.underlying t=some .string):∃ s:ByteArray,cs=[.string s]/\s.size<=maxLen:=by
 cases n with
 | zero=>exact h.elim
 | succ n=>unfold Good at h;rw [ht] at h;exact h
theorem Good.slice{n:Nat}{t e:TypeId}{cs:List Value}(h:Good P w n t cs)(ht:P.underlying t=some (.slice e)):∃ a len cap,cs=[.slice a len cap]/\len<=cap/\cap<=maxLen/\(a=none->cap=0) /\
    ∃(m:Nat) (rows:List (List Value)),rows.length=len/\Rd w a rows.flatten/\∀ r∈rows,r.length=P.cellsOf e/\Good P w m e r:=by
 cases n with
 | zero=>exact h.elim
 | succ n =>
  unfold Good at h;rw [ht] at h;obtain⟨a,len,cap,h1,h2,h3,h4,rows,h5⟩:=h;exact⟨a,len,cap,h1,h2,h3,h4,n,rows,h5⟩
theorem Good.struct{n:Nat}{t:TypeId}{cs:List Value}{fs:Array Field}(h:Good P w n t cs)(ht:P.underlying t=some (.struct fs)) :
  cs.length=P.cellsOf t/\∃ m,∀ f∈fs.toList,Good P w m f.type ((cs.drop f.offset).take (P.cellsOf f.type)):=by
 cases n with
 | zero=>exact h.elim
 | succ n =>
  unfold Good at h;rw [ht] at h;exact⟨h.1,n,h.2⟩
def Co(P:Program)(t:TypeId):Option (List (TypeId × Nat)) :=
 match P.underlying t with
 | some (.struct fs)=>some (fs.toList.map λ f=>(f.type,f.offset))
 | _=>none
theorem Good.fields{n:Nat}{t:TypeId}{cs:List Value}{l:List (TypeId × Nat)}(h:Good P w n t cs)(ht:Co P t=some l) :
  cs.length=P.cellsOf t/\∃ m,∀ x∈l,Good P w m x.1 ((cs.drop x.2).take (P.cellsOf x.1)):=by
 unfold Co at ht;split at ht
 ·rename_i fs hu;obtain⟨h1,m,h2⟩:=h.struct hu;cases ht;refine⟨h1,m,λ x hx=>?_⟩;obtain⟨f,hf,rfl⟩:=List.mem_map.1 hx;exact h2 f hf
 ·cases ht
theorem ZJ{t:TypeId}{v:Value}{r:Reach}{base:Nat}{l:List (TypeId × Nat)}(ht:Co P t=some l)(h:Value.okWide P w r base t v):∃ cs,v=.agg cs:=by
 unfold Co at ht;split at ht
 ·rename_i fs hu;unfold Value.okWide at h;rw [hu] at h;obtain⟨cs,rfl,_⟩:=h;exact⟨cs,rfl⟩
 ·cases ht
theorem OS(sz:Nat):∀(rows:List (List Value)),(∀ r∈rows,r.length=sz)->∀ j v,rows.flatten[j]?=some v->0<sz/\j / sz<rows.length/\∃ r,rows[j / sz]?=some r/\r[j % sz]?=some v
 | [],_,j,v,h=>by simp at h
 | r :: rows,hl,j,v,h=>by
  have hr:r.length=sz:=hl r (by simp);rw [List.flatten_cons] at h;by_cases hj:j<sz
  ·rw [List.getElem?_append_left (by omega)] at h;refine⟨by omega,by rw [Nat.div_eq_of_lt hj];simp,r,by rw [Nat.div_eq_of_lt hj];rfl,by rw [Nat.mod_eq_of_lt hj];exact h⟩
  ·rw [List.getElem?_append_right (by omega),hr] at h;obtain⟨h0,h1,r',h2,h3⟩:=OS sz rows (λ r hr=>hl r (by simp [hr])) (j-sz) v h;have e:j / sz=(j-sz) / sz+1:=by
    have:=Nat.add_div_right (j-sz) h0;rw [show j-sz+sz=j by omega] at this;exact this
   have e2:j % sz=(j-sz) % sz:=Nat.mod_eq_sub_mod (by omega);refine⟨h0,by rw [e];simp;exact h1,r',by rw [e];simpa using h2,by rw [e2];exact h3⟩
theorem Eb{H:Type}{enc:TypeId × Value->H}{spare:Nat->Bool}{held:Bool}{base:Nat}:∀(n:Nat) (t:TypeId) (cs:List Value) (x:DataW H × List MemPlace),DataW.trod enc P w base spare held n t cs=some x->Good P w n t cs
 | 0,_,_,_,h=>by simp [DataW.trod] at h
 | n+1,t,cs,x,h=>by
  unfold Good;split
  ·rename_i ht;obtain⟨b,rfl,_⟩:=DataW.trod_bool ht h;exact⟨b,rfl⟩
  ·rename_i k ht;obtain⟨z,rfl,_,hw⟩:=DataW.trod_int ht h;exact⟨z,rfl,hw⟩
  ·rename_i ht;obtain⟨s,rfl,_,hw⟩:=DataW.trod_string ht h;exact⟨s,rfl,hw⟩
  ·rename_i e ht;rcases DataW.trod_slice ht h with ⟨rfl,_⟩ | ⟨a,len,cap,elems,rest,m,hn,rfl,_,hb,hl,hm,hlen,az,_,_⟩
   ·exact⟨none,0,0,rfl,Nat.le_refl _,Nat.zero_le _,λ _=>rfl,[],rfl,Rd.nil _ _,by simp⟩
   ·have jL:n=m:=by omega
    subst jL;have hx:∀ i,i<len->∃ aD:List Value,w.cells? base (a.add (i*P.cellsOf e)) (P.cellsOf e)=some aD/\Good P w n e aD:=by
     intro i hi;have:=az i hi;rw [List.getElem?_eq_getElem (by omega)] at this;obtain⟨aD,h1,h2⟩:=Option.bind_eq_some_iff.1 this;exact⟨aD,h1,Eb n e aD _ h2⟩
    obtain⟨V,hV⟩:=Deep.choose_lt (α:=List Value) hx;have dR:∀ r∈(List.range len).map V,r.length=P.cellsOf e/\Good P w n e r:=by
     intro r hr;obtain⟨i,hi,rfl⟩:=List.mem_map.1 hr;have:=hV i (by simpa using hi);exact⟨(World.cells?_some this.1).2.1,this.2⟩
    refine⟨some a,len,cap,rfl,hl,hm,(λ h=>nomatch h),(List.range len).map V,by simp,?_,dR⟩;intro j v hv;obtain⟨h0,h1,r,h2,h3⟩:=OS (P.cellsOf e) _ (λ r hr=>(dR r hr).1) j v hv;refine⟨a,rfl,?_⟩;simp only [List.length_map,List.length_range] at h1;simp only [List.getElem?_map,List.getElem?_range h1,Option.map_some,Option.some.injEq] at h2;subst h2;obtain⟨hc,hg⟩:=hV _ h1;have aB:j % P.cellsOf e<P.cellsOf e:=Nat.mod_lt _ h0;have:=(World.cells?_some hc).2.2 _ aB;rw [Bp,h3] at this;rw [<- this];congr 2;rw [Nat.mul_comm];exact (Nat.div_add_mod j _).symm
  ·rename_i fs ht;unfold DataW.trod at h;rw [ht] at h;simp only at h;split at h
   ·rename_i hlen;refine⟨hlen,λ f hf=>?_⟩;obtain⟨xs,cz,_⟩:=Option.map_eq_some_iff.1 h;obtain⟨i,hi⟩:=List.getElem?_of_mem hf;have hl:=mapM_some_length cz;have aB:=(List.getElem?_eq_some_iff.1 hi).1;have hg:=mapM_some_get cz i f hi;rw [List.getElem?_eq_getElem (by omega)] at hg;exact Eb n _ _ _ hg
   ·cases h
  ·trivial
theorem AfW{α:Type}{rows:List (List Value)}{g:α->List Value}{q:α->Prop}(h:∀ r∈rows,∃ x,r=g x/\q x):∃ xs:List α,rows=xs.map g/\∀ x∈xs,q x:=by
 induction rows with
 | nil=>exact⟨[],rfl,by simp⟩
 | cons r rows ih =>
  obtain⟨x,rfl,hx⟩:=h r (by simp);obtain⟨xs,rfl,cz⟩:=ih λ r hr=>h r (by simp [hr]);exact⟨x :: xs,rfl,by simpa using ⟨hx,cz⟩⟩
theorem Good.list{α:Type}{n:Nat}{t e:TypeId}{cs:List Value}(h:Good P w n t cs)(ht:P.underlying t=some (.slice e))(g:α->List Value)(q:α->Prop)(hg:∀ m r,r.length=P.cellsOf e->Good P w m e r->∃ x,r=g x/\q x) :
  ∃ a cap,∃ xs:List α,cs=[.slice a xs.length cap]/\xs.length<=cap/\cap<=maxLen/\(a=none->cap=0)/\Rd w a (xs.flatMap g)/\∀ x∈xs,q x:=by
 obtain⟨a,len,cap,rfl,h1,h2,h3,m,rows,rfl,hr,hrs⟩:=h.slice ht;obtain⟨xs,rfl,hq⟩:=AfW (λ r hr=>hg m r (hrs r hr).1 (hrs r hr).2);simp only [List.length_map] at h1 ⊢;exact⟨a,cap,xs,rfl,h1,h2,h3,by rw [List.flatMap_def];exact hr,hq⟩
def GL{α:Type}(w:World)(g:α->List Value)(q:α->Prop)(a:Option Addr)(xs:List α)(c:Nat):Prop :=
 xs.length<=c/\c<=maxLen/\(a=none->c=0)/\Rd w a (xs.flatMap g)/\∀ x∈xs,q x
theorem Good.gl{α:Type}{n:Nat}{t e:TypeId}{a0:Option Addr}{l0 c0:Nat}(h:Good P w n t (Value.slice a0 l0 c0).cells.toList)(ht:P.underlying t=some (.slice e))(g:α->List Value)(q:α->Prop)(hg:∀ m r,r.length=P.cellsOf e->Good P w m e r->∃ x,r=g x/\q x) :
  ∃ xs:List α,l0=xs.length/\GL w g q a0 xs c0:=by
 obtain⟨a,c,xs,he,h1⟩:=h.list ht g q hg;have lN:[Value.slice a0 l0 c0]=[.slice a xs.length c]:=he;simp only [List.cons.injEq,Value.slice.injEq,and_true] at lN;obtain⟨rfl,rfl,rfl⟩:=lN;exact⟨xs,rfl,h1⟩
end
end Go.Dn
namespace Go.Proofs.YtegnhfeclchlmaaGreatDoor
open _root_.BitVec renaming ofInt -> Ai2
open _root_.Prod.mk renaming injEq -> AjI
set_option maxRecDepth 100000
open Go.Dn Go.Proofs
open Go.RowKit (Below)
set_option linter.unusedVariables false
abbrev AW:=Int × Int × ByteArray
def Agc(v:AW):Value:=.agg #[.int .i64 v.1,.int .i64 v.2.1,.string v.2.2]
abbrev E0:ByteArray:=⟨#[]⟩
def AG(v:AW):Bool :=
 if v.1=0 then decide (v.2.1=0/\v.2.2=E0) else if v.1=1 then decide (v.2.2=E0) else if v.1=2 then decide ((v.2.1=0\/v.2.1=1)/\v.2.2=E0) else
 if v.1=3 then decide (v.2.1=0/\v.2.2.size<=1024) else false
theorem AiA(n:Int):n=IntKind.i64.wrap (((Ai2 64 n &&& Ai2 64 1).toNat:Int))↔(n=0\/n=1):=by
 have h:(Ai2 64 n &&& Ai2 64 1).toNat=0\/(Ai2 64 n &&& Ai2 64 1).toNat=1:=by
  rw [BitVec.toNat_and];have h1:(Ai2 64 1).toNat=2 ^ 1-1:=by decide
  rw [h1,Nat.and_two_pow_sub_one_eq_mod];omega
 constructor
 ·intro e;rcases h with h | h
  ·rw [h] at e;left;rw [e];decide
  ·rw [h] at e;right;rw [e];decide
 ·rintro (rfl | rfl) <;> decide
theorem BB(w:World)(v:AW):Calls Tryz.prog f.Pf #[Agc v] w (AD λ r w'=>r=.bool (AG v)/\Below w.heap.size w w'):=by
 obtain⟨k,n,s⟩:=v;apply R.Nx
 delta R.A R.Ab R.F R.G R.I R.Li R.Lt R.N R.Ae R.T R.W R.Z;try dsimp only [R.Ps]
 refine (SH.start (λ _=>False) w).Ak λ b4 w1 uB B1 S1=>⟨_,S1.cell 0 rfl rfl,S1.N5 λ b6 w5 uC B5 S5=>?_⟩;refine⟨λ _ w9=>∃ p:AW,SH (λ _=>False) w w9 [(b6,#[.int .i64 p.1,.int .i64 p.2.1,.string p.2.2],ty.AX),(b4,#[.int .i64 k,.int .i64 n,.string s],ty.AX)]/\p.1=k /\
   (0<=k->k<4->(((k,n,s):AW)=p/\s.size<=1024↔AG (k,n,s)=true)),?_,?_⟩
 ·refine⟨_,S5.cell 1 rfl rfl,Aj (λ h=>?_) (λ h0=>Aj (λ h=>⟨_,S5.cell 1 rfl rfl,?_⟩) (λ h1=>Aj (λ h=>⟨_,S5.cell 1 rfl rfl,?_⟩) (λ h2=>Aj (λ h=>⟨_,S5.cell 1 rfl rfl,?_⟩) (λ h3=>?_))))⟩
  ·subst h;refine⟨(0,0,E0),S5,rfl,λ _ _=>?_⟩;simp only [AG,if_pos,decide_eq_true_eq,AjI,true_and];constructor
   ·rintro⟨⟨h1,h2⟩,_⟩;exact⟨h1,h2⟩
   ·rintro⟨h1,rfl⟩;exact⟨⟨h1,rfl⟩,by decide⟩
  ·subst h;refine S5.BA 0 rfl (show 1<3 by decide) λ w6 S6=>⟨(1,n,E0),S6,rfl,λ _ _=>?_⟩;simp only [AG,if_neg (show ¬ (1:Int)=0 by decide),if_pos,decide_eq_true_eq,AjI,true_and];constructor
   ·rintro⟨h1,_⟩;exact h1
   ·rintro rfl;exact⟨rfl,by decide⟩
  ·subst h;refine S5.BA 0 rfl (show 1<3 by decide) λ w6 S6=>⟨(2,IntKind.i64.wrap (((Ai2 64 n &&& Ai2 64 1).toNat:Int)),E0),S6,rfl,λ _ _=>?_⟩;simp only [AG,if_neg (show ¬ (2:Int)=0 by decide),if_neg (show ¬ (2:Int)=1 by decide),if_pos,decide_eq_true_eq,AjI,true_and];rw [AiA];constructor
   ·rintro⟨⟨h1,h2⟩,_⟩;exact⟨h1,h2⟩
   ·rintro⟨h1,rfl⟩;exact⟨⟨h1,rfl⟩,by decide⟩
  ·subst h;refine S5.BA 0 rfl (show 2<3 by decide) λ w6 S6=>⟨(3,0,s),S6,rfl,λ _ _=>?_⟩;simp only [AG,if_neg (show ¬ (3:Int)=0 by decide),if_neg (show ¬ (3:Int)=1 by decide),if_neg (show ¬ (3:Int)=2 by decide),if_pos,decide_eq_true_eq,AjI,true_and,and_true]
  ·exact⟨(k,0,E0),S5,rfl,λ _ _=>by omega⟩
 ·rintro w9 ⟨p,S9,hp,nE⟩;have no:¬ (0<=k/\k<4)->Value.bool false=.bool (AG (k,n,s)):=by
   intro hk;simp only [AG];rw [if_neg (by omega),if_neg (by omega),if_neg (by omega),if_neg (by omega)]
  refine⟨_,S9.cell 1 rfl rfl,Aa (λ h0=>⟨_,S9.cell 1 rfl rfl,Aa (λ h4=>?_) (λ h4=>⟨no (by omega),S9.below⟩)⟩) (λ h0=>⟨no (by omega),S9.below⟩)⟩;refine⟨_,S9.cell 1 rfl rfl,_,S9.cell 1 rfl rfl,_,S9.cell 1 rfl rfl,_,S9.cell 0 rfl rfl,_,S9.cell 0 rfl rfl,_,S9.cell 0 rfl rfl,?_⟩;have hi:=nE h0 h4;rw [JS];refine Ao (λ he=>⟨_,S9.cell 1 rfl rfl,?_,S9.below⟩) (λ he=>⟨?_,S9.below⟩)
  ·simp only [Bool.and_true,Bool.and_eq_true,beq_iff_eq,decide_eq_true_eq] at he;have e:((k,n,s):AW)=p:=by
    obtain⟨p1,p2,p3⟩:=p;simp only at he;rw [he.1,he.2.1,he.2.2]
   congr 1;rw [Bool.eq_iff_iff];rw [<- hi];simp only [e,true_and,decide_eq_true_eq];omega
  ·have hn:¬ (AG (k,n,s)=true):=by
    rw [<- hi];rintro⟨e,_⟩;rw [<- e] at he;simp at he
   simp [Bool.eq_false_iff.2 hn]
/-! ### the order -/
end Go.Proofs.YtegnhfeclchlmaaGreatDoor
namespace Go.Proofs
set_option linter.unusedVariables false
set_option maxRecDepth 100000
open Go.Shelf
def Tryz.OZ:Go.Shelf.Ren:=⟨fun | 156=>192 | 165=>261 | 166=>262 | 169=>263 | 240=>313 | 241=>314 | 276=>356 | 277=>357 | n=>n,fun | 31=>210 | 9=>9 | 3=>3 | 4=>4 | 0=>0 | 20=>20 | 72=>375 | 76=>379 | 70=>373 | 37=>88 | 75=>378 | 127=>426 | 164=>466 | 5=>5 | 80=>191 | n=>n,fun | n=>n⟩
theorem Tryz.AfC:Go.Proofs.Lays.n156 Tryz.prog Tryz.OZ:={
 mixed:=by kernel_rfl
 f156:=Tryz.func192.trans (congrArg some (by kernel_rfl))
 f165:=Tryz.func261.trans (congrArg some (by kernel_rfl))
 f166:=Tryz.func262.trans (congrArg some (by kernel_rfl))
 f169:=Tryz.func263.trans (congrArg some (by kernel_rfl))
 f240:=Tryz.func313.trans (congrArg some (by kernel_rfl))
 f241:=Tryz.func314.trans (congrArg some (by kernel_rfl))
 f276:=Tryz.func356.trans (congrArg some (by kernel_rfl))
 f277:=Tryz.func357.trans (congrArg some (by kernel_rfl))
 t0:=Tryz.underlying0
 a0:=Tryz.isAgg0
 z0:=Tryz.sizeOf0
 v0:=Tryz.zeroValue0
 t3:=Tryz.underlying3
 a3:=Tryz.isAgg3
 z3:=Tryz.sizeOf3
 v3:=Tryz.zeroValue3
 t4:=Tryz.underlying4
 a4:=Tryz.isAgg4
 z4:=Tryz.sizeOf4
 v4:=Tryz.zeroValue4
 t9:=Tryz.underlying9
 a9:=Tryz.isAgg9
 z9:=Tryz.sizeOf9
 v9:=Tryz.zeroValue9
 t20:=Tryz.underlying20
 a20:=Tryz.isAgg20
 z20:=Tryz.sizeOf20
 v20:=Tryz.zeroValue20
 t31:=Tryz.underlying210
 a31:=Tryz.isAgg210
 z31:=Tryz.sizeOf210
 v31:=Tryz.zeroValue210
 t37:=Tryz.underlying88
 a37:=Tryz.isAgg88
 z37:=Tryz.sizeOf88
 v37:=Tryz.zeroValue88
 t70:=Tryz.underlying373
 a70:=Tryz.isAgg373
 z70:=Tryz.sizeOf373
 v70:=Tryz.zeroValue373
 t72:=Tryz.underlying375
 a72:=Tryz.isAgg375
 z72:=Tryz.sizeOf375
 v72:=Tryz.zeroValue375
 t75:=Tryz.underlying378
 a75:=Tryz.isAgg378
 z75:=Tryz.sizeOf378
 v75:=Tryz.zeroValue378
 t76:=Tryz.underlying379
 a76:=Tryz.isAgg379
 z76:=Tryz.sizeOf379
 v76:=Tryz.zeroValue379
 t127:=Tryz.underlying426
 a127:=Tryz.isAgg426
 z127:=Tryz.sizeOf426
 v127:=Tryz.zeroValue426
 t164:=Tryz.underlying466
 a164:=Tryz.isAgg466
 z164:=Tryz.sizeOf466
 v164:=Tryz.zeroValue466 }
theorem Tryz.LS:Builder.Extra Tryz.prog Tryz.OZ:={
 sizeBuilder:=by kernel_rfl
 liesBuilder:=by kernel_rfl
 t5:=Tryz.underlying5
 a5:=Tryz.isAgg5
 z5:=Tryz.sizeOf5
 v5:=Tryz.zeroValue5
 infoByte:=by kernel_rfl
 cellsByte:=by kernel_rfl
 sizeByte:=by kernel_rfl
 neB5:=by decide }
open Go.RowKit in
theorem Tryz.strings_Join(bk o c:Nat)(xs:List ByteArray)(sep:ByteArray)(w:World)(cl:∀(j:Nat) x,xs[j]?=some x->w.cell? ⟨bk,o+j,none⟩=some (.string x))(jm:bk<w.heap.size)(hN:xs.length<=140737488355328)(av:xs.length<=c)(hlen:(Lib.join (xs.map (·.data.toList)) sep.data.toList).length<=140737488355328) :
  Calls Tryz.prog 192 #[.slice (some ⟨bk,o,none⟩) xs.length c,.string sep] w λ e w'=>e=.returned (.string ⟨(Lib.join (xs.map (·.data.toList)) sep.data.toList).toArray⟩)/\Below w.heap.size w w':=Any.strings_Join Tryz.AfC Tryz.LS bk o c xs sep w cl jm hN av hlen
def Tryz.Xq:Go.Shelf.Ren:=⟨fun | 106=>155 | 213=>231 | 265=>299 | n=>n,fun | 9=>9 | 3=>3 | n=>n,fun | n=>n⟩
theorem Tryz.Afz:Go.Proofs.Lays.n106 Tryz.prog Tryz.Xq:={
 mixed:=by kernel_rfl
 f106:=Tryz.func155.trans (congrArg some (by kernel_rfl))
 f213:=Tryz.func231.trans (congrArg some (by kernel_rfl))
 f265:=Tryz.func299.trans (congrArg some (by kernel_rfl))
 t3:=Tryz.underlying3
 a3:=Tryz.isAgg3
 z3:=Tryz.sizeOf3
 v3:=Tryz.zeroValue3
 t9:=Tryz.underlying9
 a9:=Tryz.isAgg9
 z9:=Tryz.sizeOf9
 v9:=Tryz.zeroValue9 }
open Go.RowKit in
theorem Tryz.strings_Compare(a b:ByteArray)(w:World) :
  Calls Tryz.prog 155 #[.string a,.string b] w λ e w'=>e=.returned (.int .i64 (Lib.compareBytes a.data.toList b.data.toList))/\w'=w:=Any.strings_Compare Tryz.Afz a b w
def Tryz.Xr:Go.Shelf.Ren:=⟨fun | 137=>98 | 217=>176 | 266=>247 | n=>n,fun | 9=>9 | 5=>5 | 3=>3 | n=>n,fun | n=>n⟩
theorem Tryz.AfA:Go.Proofs.Lays.n137 Tryz.prog Tryz.Xr:={
 mixed:=by kernel_rfl
 f137:=Tryz.func98.trans (congrArg some (by kernel_rfl))
 f217:=Tryz.func176.trans (congrArg some (by kernel_rfl))
 f266:=Tryz.func247.trans (congrArg some (by kernel_rfl))
 t3:=Tryz.underlying3
 a3:=Tryz.isAgg3
 z3:=Tryz.sizeOf3
 v3:=Tryz.zeroValue3
 t5:=Tryz.underlying5
 a5:=Tryz.isAgg5
 z5:=Tryz.sizeOf5
 v5:=Tryz.zeroValue5
 t9:=Tryz.underlying9
 a9:=Tryz.isAgg9
 z9:=Tryz.sizeOf9
 v9:=Tryz.zeroValue9 }
open Go.RowKit in
theorem Tryz.strings_IndexByte(s:ByteArray)(c:Int)(w:World) :
  Calls Tryz.prog 98 #[.string s,.int .u8 c] w λ e w'=>e=.returned (.int .i64 (Lib.indexByte s.data.toList c.toNat.toUInt8))/\w'=w:=Any.strings_IndexByte Tryz.AfA s c w
def Tryz.Vw:Go.Shelf.Ren:=⟨fun | 171=>108 | 243=>193 | 246=>264 | 283=>315 | 284=>316 | 285=>317 | 286=>318 | 129=>217 | 317=>358 | 318=>359 | 319=>360 | 320=>361 | 337=>379 | 338=>380 | n=>n,fun | 3=>3 | 9=>9 | 2=>2 | 4=>4 | 171=>427 | 0=>0 | 53=>95 | 37=>88 | 5=>5 | 173=>429 | 212=>469 | 51=>161 | 20=>20 | 213=>470 | 46=>163 | 232=>107 | 233=>174 | n=>n,fun | 17=>9 | 18=>12 | 19=>13 | n=>n⟩
theorem Tryz.Ad5:Go.Proofs.LaysM.n171 Tryz.prog Tryz.Vw:={
 mixed:=by kernel_rfl
 f129:=Tryz.func217.trans (congrArg some (by kernel_rfl))
 f171:=Tryz.func108.trans (congrArg some (by kernel_rfl))
 f243:=Tryz.func193.trans (congrArg some (by kernel_rfl))
 f246:=Tryz.func264.trans (congrArg some (by kernel_rfl))
 f283:=Tryz.func315.trans (congrArg some (by kernel_rfl))
 f284:=Tryz.func316.trans (congrArg some (by kernel_rfl))
 f285:=Tryz.func317.trans (congrArg some (by kernel_rfl))
 f286:=Tryz.func318.trans (congrArg some (by kernel_rfl))
 f317:=Tryz.func358.trans (congrArg some (by kernel_rfl))
 f318:=Tryz.func359.trans (congrArg some (by kernel_rfl))
 f319:=Tryz.func360.trans (congrArg some (by kernel_rfl))
 f320:=Tryz.func361.trans (congrArg some (by kernel_rfl))
 f337:=Tryz.func379.trans (congrArg some (by kernel_rfl))
 f338:=Tryz.func380.trans (congrArg some (by kernel_rfl))
 t0:=Tryz.underlying0
 a0:=Tryz.isAgg0
 z0:=Tryz.sizeOf0
 v0:=Tryz.zeroValue0
 t2:=Tryz.underlying2
 a2:=Tryz.isAgg2
 z2:=Tryz.sizeOf2
 v2:=Tryz.zeroValue2
 t3:=Tryz.underlying3
 a3:=Tryz.isAgg3
 z3:=Tryz.sizeOf3
 v3:=Tryz.zeroValue3
 t4:=Tryz.underlying4
 a4:=Tryz.isAgg4
 z4:=Tryz.sizeOf4
 v4:=Tryz.zeroValue4
 t5:=Tryz.underlying5
 a5:=Tryz.isAgg5
 z5:=Tryz.sizeOf5
 v5:=Tryz.zeroValue5
 t9:=Tryz.underlying9
 a9:=Tryz.isAgg9
 z9:=Tryz.sizeOf9
 v9:=Tryz.zeroValue9
 t20:=Tryz.underlying20
 a20:=Tryz.isAgg20
 z20:=Tryz.sizeOf20
 v20:=Tryz.zeroValue20
 t37:=Tryz.underlying88
 a37:=Tryz.isAgg88
 z37:=Tryz.sizeOf88
 v37:=Tryz.zeroValue88
 t46:=Tryz.underlying163
 a46:=Tryz.isAgg163
 z46:=Tryz.sizeOf163
 v46:=Tryz.zeroValue163
 t51:=Tryz.underlying161
 a51:=Tryz.isAgg161
 z51:=Tryz.sizeOf161
 v51:=Tryz.zeroValue161
 t53:=Tryz.underlying95
 a53:=Tryz.isAgg95
 z53:=Tryz.sizeOf95
 v53:=Tryz.zeroValue95
 t171:=Tryz.underlying427
 a171:=Tryz.isAgg427
 z171:=Tryz.sizeOf427
 v171:=Tryz.zeroValue427
 t173:=Tryz.underlying429
 a173:=Tryz.isAgg429
 z173:=Tryz.sizeOf429
 v173:=Tryz.zeroValue429
 t212:=Tryz.underlying469
 a212:=Tryz.isAgg469
 z212:=Tryz.sizeOf469
 v212:=Tryz.zeroValue469
 t213:=Tryz.underlying470
 a213:=Tryz.isAgg470
 z213:=Tryz.sizeOf470
 t232:=Tryz.underlying107
 a232:=Tryz.isAgg107
 z232:=Tryz.sizeOf107
 v232:=Tryz.zeroValue107
 t233:=Tryz.underlying174
 a233:=Tryz.isAgg174
 z233:=Tryz.sizeOf174
 v233:=Tryz.zeroValue174
 g17:=by kernel_rfl
 g18:=by kernel_rfl
 g19:=by kernel_rfl
 i0:=by kernel_rfl
 i2:=by kernel_rfl
 i3:=by kernel_rfl
 i4:=by kernel_rfl
 i5:=by kernel_rfl
 i9:=by kernel_rfl
 i20:=by kernel_rfl
 i37:=by kernel_rfl
 i46:=by kernel_rfl
 i51:=by kernel_rfl
 i53:=by kernel_rfl
 i171:=by kernel_rfl
 i173:=by kernel_rfl
 i212:=by kernel_rfl
 i232:=by kernel_rfl
 i233:=by kernel_rfl
 m17:=by kernel_rfl
 m18:=by kernel_rfl
 m19:=by kernel_rfl }
open Go.RowKit Go.Sort Go.Lib in
theorem Tryz.strconv_Itoa (n : Int) (h0 : -9223372036854775808 <= n) (h1 : n <= 9223372036854775807) (w : World) (im : Lib.TabIs Tryz.prog w "internal/strconv.uint64pow10" .u64 Lib.pow10Tab) :
  Calls Tryz.prog 108 #[.int .i64 n] w λ e w'=>e=.returned (.string ⟨(Lib.itoa n).toArray⟩)/\∃ k os,w'=grow (w.drewN k) os:=Any.strconv_Itoa Tryz.Ad5 n h0 h1 w im
def Tryz.Vx:Go.Shelf.Ren:=⟨fun | 173=>257 | 246=>264 | 283=>315 | 284=>316 | 285=>317 | 286=>318 | 129=>217 | 317=>358 | 318=>359 | 319=>360 | 320=>361 | 337=>379 | 338=>380 | n=>n,fun | 2=>2 | 3=>3 | 9=>9 | 4=>4 | 171=>427 | 0=>0 | 53=>95 | 37=>88 | 5=>5 | 173=>429 | 212=>469 | 51=>161 | 20=>20 | 213=>470 | 46=>163 | 232=>107 | 233=>174 | n=>n,fun | 17=>9 | 18=>12 | 19=>13 | n=>n⟩
theorem Tryz.Ad6:Go.Proofs.LaysM.n173 Tryz.prog Tryz.Vx:={
 mixed:=by kernel_rfl
 f129:=Tryz.func217.trans (congrArg some (by kernel_rfl))
 f173:=Tryz.func257.trans (congrArg some (by kernel_rfl))
 f246:=Tryz.func264.trans (congrArg some (by kernel_rfl))
 f283:=Tryz.func315.trans (congrArg some (by kernel_rfl))
 f284:=Tryz.func316.trans (congrArg some (by kernel_rfl))
 f285:=Tryz.func317.trans (congrArg some (by kernel_rfl))
 f286:=Tryz.func318.trans (congrArg some (by kernel_rfl))
 f317:=Tryz.func358.trans (congrArg some (by kernel_rfl))
 f318:=Tryz.func359.trans (congrArg some (by kernel_rfl))
 f319:=Tryz.func360.trans (congrArg some (by kernel_rfl))
 f320:=Tryz.func361.trans (congrArg some (by kernel_rfl))
 f337:=Tryz.func379.trans (congrArg some (by kernel_rfl))
 f338:=Tryz.func380.trans (congrArg some (by kernel_rfl))
 t0:=Tryz.underlying0
 a0:=Tryz.isAgg0
 z0:=Tryz.sizeOf0
 v0:=Tryz.zeroValue0
 t2:=Tryz.underlying2
 a2:=Tryz.isAgg2
 z2:=Tryz.sizeOf2
 v2:=Tryz.zeroValue2
 t3:=Tryz.underlying3
 a3:=Tryz.isAgg3
 z3:=Tryz.sizeOf3
 v3:=Tryz.zeroValue3
 t4:=Tryz.underlying4
 a4:=Tryz.isAgg4
 z4:=Tryz.sizeOf4
 v4:=Tryz.zeroValue4
 t5:=Tryz.underlying5
 a5:=Tryz.isAgg5
 z5:=Tryz.sizeOf5
 v5:=Tryz.zeroValue5
 t9:=Tryz.underlying9
 a9:=Tryz.isAgg9
 z9:=Tryz.sizeOf9
 v9:=Tryz.zeroValue9
 t20:=Tryz.underlying20
 a20:=Tryz.isAgg20
 z20:=Tryz.sizeOf20
 v20:=Tryz.zeroValue20
 t37:=Tryz.underlying88
 a37:=Tryz.isAgg88
 z37:=Tryz.sizeOf88
 v37:=Tryz.zeroValue88
 t46:=Tryz.underlying163
 a46:=Tryz.isAgg163
 z46:=Tryz.sizeOf163
 v46:=Tryz.zeroValue163
 t51:=Tryz.underlying161
 a51:=Tryz.isAgg161
 z51:=Tryz.sizeOf161
 v51:=Tryz.zeroValue161
 t53:=Tryz.underlying95
 a53:=Tryz.isAgg95
 z53:=Tryz.sizeOf95
 v53:=Tryz.zeroValue95
 t171:=Tryz.underlying427
 a171:=Tryz.isAgg427
 z171:=Tryz.sizeOf427
 v171:=Tryz.zeroValue427
 t173:=Tryz.underlying429
 a173:=Tryz.isAgg429
 z173:=Tryz.sizeOf429
 v173:=Tryz.zeroValue429
 t212:=Tryz.underlying469
 a212:=Tryz.isAgg469
 z212:=Tryz.sizeOf469
 v212:=Tryz.zeroValue469
 t213:=Tryz.underlying470
 a213:=Tryz.isAgg470
 z213:=Tryz.sizeOf470
 t232:=Tryz.underlying107
 a232:=Tryz.isAgg107
 z232:=Tryz.sizeOf107
 v232:=Tryz.zeroValue107
 t233:=Tryz.underlying174
 a233:=Tryz.isAgg174
 z233:=Tryz.sizeOf174
 v233:=Tryz.zeroValue174
 g17:=by kernel_rfl
 g18:=by kernel_rfl
 g19:=by kernel_rfl
 i0:=by kernel_rfl
 i2:=by kernel_rfl
 i3:=by kernel_rfl
 i4:=by kernel_rfl
 i5:=by kernel_rfl
 i9:=by kernel_rfl
 i20:=by kernel_rfl
 i37:=by kernel_rfl
 i46:=by kernel_rfl
 i51:=by kernel_rfl
 i53:=by kernel_rfl
 i171:=by kernel_rfl
 i173:=by kernel_rfl
 i212:=by kernel_rfl
 i232:=by kernel_rfl
 i233:=by kernel_rfl
 m17:=by kernel_rfl
 m18:=by kernel_rfl
 m19:=by kernel_rfl }
open Go.RowKit Go.Sort Go.Lib in
theorem Tryz.strconv_FormatInt_10 (n : Int) (h0 : -9223372036854775808 <= n) (h1 : n <= 9223372036854775807) (w : World) (im : Lib.TabIs Tryz.prog w "internal/strconv.uint64pow10" .u64 Lib.pow10Tab) :
  Calls Tryz.prog 257 #[.int .i64 n,.int .i64 10] w λ e w'=>e=.returned (.string ⟨(Lib.itoa n).toArray⟩)/\∃ k os,w'=grow (w.drewN k) os:=Any.strconv_FormatInt_10 Tryz.Ad6 n h0 h1 w im
def Tryz.Xs:Go.Shelf.Ren:=⟨fun | 189=>118 | 125=>202 | 257=>201 | 128=>277 | 129=>217 | 294=>268 | 295=>269 | 296=>270 | 297=>271 | 298=>272 | 299=>273 | 216=>274 | 300=>275 | 301=>276 | 328=>328 | 329=>329 | 330=>330 | 331=>331 | 332=>332 | 215=>229 | 343=>366 | n=>n,fun | 28=>83 | 3=>3 | 46=>163 | 0=>0 | 51=>161 | 53=>95 | 4=>4 | 183=>386 | 182=>385 | 131=>390 | 5=>5 | 9=>9 | 218=>437 | 222=>441 | 228=>473 | 229=>185 | n=>n,fun | n=>n⟩
theorem Tryz.AaX:Go.Proofs.Lays.n189 Tryz.prog Tryz.Xs:={
 mixed:=by kernel_rfl
 f125:=Tryz.func202.trans (congrArg some (by kernel_rfl))
 f128:=Tryz.func277.trans (congrArg some (by kernel_rfl))
 f129:=Tryz.func217.trans (congrArg some (by kernel_rfl))
 f189:=Tryz.func118.trans (congrArg some (by kernel_rfl))
 f215:=Tryz.func229.trans (congrArg some (by kernel_rfl))
 f216:=Tryz.func274.trans (congrArg some (by kernel_rfl))
 f257:=Tryz.func201.trans (congrArg some (by kernel_rfl))
 f294:=Tryz.func268.trans (congrArg some (by kernel_rfl))
 f295:=Tryz.func269.trans (congrArg some (by kernel_rfl))
 f296:=Tryz.func270.trans (congrArg some (by kernel_rfl))
 f297:=Tryz.func271.trans (congrArg some (by kernel_rfl))
 f298:=Tryz.func272.trans (congrArg some (by kernel_rfl))
 f299:=Tryz.func273.trans (congrArg some (by kernel_rfl))
 f300:=Tryz.func275.trans (congrArg some (by kernel_rfl))
 f301:=Tryz.func276.trans (congrArg some (by kernel_rfl))
 f328:=Tryz.func328.trans (congrArg some (by kernel_rfl))
 f329:=Tryz.func329.trans (congrArg some (by kernel_rfl))
 f330:=Tryz.func330.trans (congrArg some (by kernel_rfl))
 f331:=Tryz.func331.trans (congrArg some (by kernel_rfl))
 f332:=Tryz.func332.trans (congrArg some (by kernel_rfl))
 f343:=Tryz.func366.trans (congrArg some (by kernel_rfl))
 t0:=Tryz.underlying0
 a0:=Tryz.isAgg0
 z0:=Tryz.sizeOf0
 v0:=Tryz.zeroValue0
 t3:=Tryz.underlying3
 a3:=Tryz.isAgg3
 z3:=Tryz.sizeOf3
 v3:=Tryz.zeroValue3
 t4:=Tryz.underlying4
 a4:=Tryz.isAgg4
 z4:=Tryz.sizeOf4
 v4:=Tryz.zeroValue4
 t5:=Tryz.underlying5
 a5:=Tryz.isAgg5
 z5:=Tryz.sizeOf5
 v5:=Tryz.zeroValue5
 t9:=Tryz.underlying9
 a9:=Tryz.isAgg9
 z9:=Tryz.sizeOf9
 v9:=Tryz.zeroValue9
 t28:=Tryz.underlying83
 a28:=Tryz.isAgg83
 z28:=Tryz.sizeOf83
 v28:=Tryz.zeroValue83
 t46:=Tryz.underlying163
 a46:=Tryz.isAgg163
 z46:=Tryz.sizeOf163
 v46:=Tryz.zeroValue163
 t51:=Tryz.underlying161
 a51:=Tryz.isAgg161
 z51:=Tryz.sizeOf161
 v51:=Tryz.zeroValue161
 t53:=Tryz.underlying95
 a53:=Tryz.isAgg95
 z53:=Tryz.sizeOf95
 v53:=Tryz.zeroValue95
 t131:=Tryz.underlying390
 a131:=Tryz.isAgg390
 z131:=Tryz.sizeOf390
 v131:=Tryz.zeroValue390
 t182:=Tryz.underlying385
 a182:=Tryz.isAgg385
 z182:=Tryz.sizeOf385
 v182:=Tryz.zeroValue385
 t183:=Tryz.underlying386
 a183:=Tryz.isAgg386
 z183:=Tryz.sizeOf386
 v183:=Tryz.zeroValue386
 t218:=Tryz.underlying437
 a218:=Tryz.isAgg437
 z218:=Tryz.sizeOf437
 v218:=Tryz.zeroValue437
 t222:=Tryz.underlying441
 a222:=Tryz.isAgg441
 z222:=Tryz.sizeOf441
 v222:=Tryz.zeroValue441
 t228:=Tryz.underlying473
 a228:=Tryz.isAgg473
 z228:=Tryz.sizeOf473
 v228:=Tryz.zeroValue473
 t229:=Tryz.underlying185
 a229:=Tryz.isAgg185
 z229:=Tryz.sizeOf185
 v229:=Tryz.zeroValue185 }
open Go.Sort Go.RowKit in
theorem Tryz.slices_Sort_int(Bu off cap:Nat)(zs:List Int)(w:World)(hH:Holds (Value.int .i64) w Bu off zs.toArray)(eK:Bu<w.heap.size)(aU:zs.length<4611686018427387904) :
  Calls Tryz.prog 118 #[.slice (some ⟨Bu,off,none⟩) zs.length cap] w λ e w' =>
   e=.returned (.tuple #[])/\∃ n os,w'=grow (putRow (Value.int .i64) (Sort.ahead w n) Bu off (zs.mergeSort λ x y=>decide (x<=y)).toArray) os:=Any.slices_Sort_int Tryz.AaX Bu off cap zs w hH eK aU
def Tryz.Xt:Go.Shelf.Ren:=⟨fun | 190=>197 | 125=>202 | 258=>267 | 128=>277 | 129=>217 | 302=>319 | 303=>320 | 304=>321 | 305=>322 | 306=>323 | 307=>324 | 308=>325 | 309=>326 | 310=>327 | 333=>362 | 329=>329 | 330=>330 | 334=>363 | 335=>364 | 336=>365 | 344=>381 | n=>n,fun | 31=>210 | 9=>9 | 3=>3 | 46=>163 | 0=>0 | 51=>161 | 53=>95 | 4=>4 | 183=>386 | 182=>385 | 131=>390 | 5=>5 | 218=>437 | 222=>441 | 228=>473 | 229=>185 | n=>n,fun | n=>n⟩
theorem Tryz.AaY:Go.Proofs.Lays.n190 Tryz.prog Tryz.Xt:={
 mixed:=by kernel_rfl
 f125:=Tryz.func202.trans (congrArg some (by kernel_rfl))
 f128:=Tryz.func277.trans (congrArg some (by kernel_rfl))
 f129:=Tryz.func217.trans (congrArg some (by kernel_rfl))
 f190:=Tryz.func197.trans (congrArg some (by kernel_rfl))
 f258:=Tryz.func267.trans (congrArg some (by kernel_rfl))
 f302:=Tryz.func319.trans (congrArg some (by kernel_rfl))
 f303:=Tryz.func320.trans (congrArg some (by kernel_rfl))
 f304:=Tryz.func321.trans (congrArg some (by kernel_rfl))
 f305:=Tryz.func322.trans (congrArg some (by kernel_rfl))
 f306:=Tryz.func323.trans (congrArg some (by kernel_rfl))
 f307:=Tryz.func324.trans (congrArg some (by kernel_rfl))
 f308:=Tryz.func325.trans (congrArg some (by kernel_rfl))
 f309:=Tryz.func326.trans (congrArg some (by kernel_rfl))
 f310:=Tryz.func327.trans (congrArg some (by kernel_rfl))
 f329:=Tryz.func329.trans (congrArg some (by kernel_rfl))
 f330:=Tryz.func330.trans (congrArg some (by kernel_rfl))
 f333:=Tryz.func362.trans (congrArg some (by kernel_rfl))
 f334:=Tryz.func363.trans (congrArg some (by kernel_rfl))
 f335:=Tryz.func364.trans (congrArg some (by kernel_rfl))
 f336:=Tryz.func365.trans (congrArg some (by kernel_rfl))
 f344:=Tryz.func381.trans (congrArg some (by kernel_rfl))
 t0:=Tryz.underlying0
 a0:=Tryz.isAgg0
 z0:=Tryz.sizeOf0
 v0:=Tryz.zeroValue0
 t3:=Tryz.underlying3
 a3:=Tryz.isAgg3
 z3:=Tryz.sizeOf3
 v3:=Tryz.zeroValue3
 t4:=Tryz.underlying4
 a4:=Tryz.isAgg4
 z4:=Tryz.sizeOf4
 v4:=Tryz.zeroValue4
 t5:=Tryz.underlying5
 a5:=Tryz.isAgg5
 z5:=Tryz.sizeOf5
 v5:=Tryz.zeroValue5
 t9:=Tryz.underlying9
 a9:=Tryz.isAgg9
 z9:=Tryz.sizeOf9
 v9:=Tryz.zeroValue9
 t31:=Tryz.underlying210
 a31:=Tryz.isAgg210
 z31:=Tryz.sizeOf210
 v31:=Tryz.zeroValue210
 t46:=Tryz.underlying163
 a46:=Tryz.isAgg163
 z46:=Tryz.sizeOf163
 v46:=Tryz.zeroValue163
 t51:=Tryz.underlying161
 a51:=Tryz.isAgg161
 z51:=Tryz.sizeOf161
 v51:=Tryz.zeroValue161
 t53:=Tryz.underlying95
 a53:=Tryz.isAgg95
 z53:=Tryz.sizeOf95
 v53:=Tryz.zeroValue95
 t131:=Tryz.underlying390
 a131:=Tryz.isAgg390
 z131:=Tryz.sizeOf390
 v131:=Tryz.zeroValue390
 t182:=Tryz.underlying385
 a182:=Tryz.isAgg385
 z182:=Tryz.sizeOf385
 v182:=Tryz.zeroValue385
 t183:=Tryz.underlying386
 a183:=Tryz.isAgg386
 z183:=Tryz.sizeOf386
 v183:=Tryz.zeroValue386
 t218:=Tryz.underlying437
 a218:=Tryz.isAgg437
 z218:=Tryz.sizeOf437
 v218:=Tryz.zeroValue437
 t222:=Tryz.underlying441
 a222:=Tryz.isAgg441
 z222:=Tryz.sizeOf441
 v222:=Tryz.zeroValue441
 t228:=Tryz.underlying473
 a228:=Tryz.isAgg473
 z228:=Tryz.sizeOf473
 v228:=Tryz.zeroValue473
 t229:=Tryz.underlying185
 a229:=Tryz.isAgg185
 z229:=Tryz.sizeOf185
 v229:=Tryz.zeroValue185 }
open Go.Sort Go.RowKit in
theorem Tryz.slices_Sort_string(Bu off cap:Nat)(ss:List (List UInt8))(w:World)(hH:Holds encStr w Bu off ss.toArray)(eK:Bu<w.heap.size)(aU:ss.length<4611686018427387904) :
  Calls Tryz.prog 197 #[.slice (some ⟨Bu,off,none⟩) ss.length cap] w λ e w' =>
   e=.returned (.tuple #[])/\∃ n os,w'=grow (putRow encStr (Sort.ahead w n) Bu off (ss.mergeSort λ x y=>decide (x<=y)).toArray) os:=Any.slices_Sort_string Tryz.AaY Bu off cap ss w hH eK aU
def Tryz.OY:Go.Shelf.Ren:=⟨fun | 155=>259 | 154=>312 | 138=>354 | 165=>261 | 143=>355 | 166=>262 | 197=>249 | 169=>263 | 195=>376 | 218=>377 | 240=>313 | 241=>314 | 219=>378 | 260=>308 | 276=>356 | 277=>357 | 217=>176 | 225=>353 | 224=>352 | 267=>387 | 266=>247 | 314=>390 | n=>n,fun | 9=>9 | 3=>3 | 4=>4 | 72=>375 | 0=>0 | 76=>379 | 105=>361 | 21=>21 | 5=>5 | 70=>373 | 20=>20 | 37=>88 | 75=>378 | 127=>426 | 164=>466 | 46=>163 | 119=>461 | 139=>464 | 138=>463 | 146=>491 | 51=>161 | 80=>191 | n=>n,fun | 1=>5 | 3=>7 | 4=>8 | n=>n⟩
theorem Tryz.AfB:Go.Proofs.Lays.n155 Tryz.prog Tryz.OY:={
 mixed:=by kernel_rfl
 f138:=Tryz.func354.trans (congrArg some (by kernel_rfl))
 f143:=Tryz.func355.trans (congrArg some (by kernel_rfl))
 f154:=Tryz.func312.trans (congrArg some (by kernel_rfl))
 f155:=Tryz.func259.trans (congrArg some (by kernel_rfl))
 f165:=Tryz.func261.trans (congrArg some (by kernel_rfl))
 f166:=Tryz.func262.trans (congrArg some (by kernel_rfl))
 f169:=Tryz.func263.trans (congrArg some (by kernel_rfl))
 f195:=Tryz.func376.trans (congrArg some (by kernel_rfl))
 f197:=Tryz.func249.trans (congrArg some (by kernel_rfl))
 f217:=Tryz.func176.trans (congrArg some (by kernel_rfl))
 f218:=Tryz.func377.trans (congrArg some (by kernel_rfl))
 f219:=Tryz.func378.trans (congrArg some (by kernel_rfl))
 f224:=Tryz.func352.trans (congrArg some (by kernel_rfl))
 f225:=Tryz.func353.trans (congrArg some (by kernel_rfl))
 f240:=Tryz.func313.trans (congrArg some (by kernel_rfl))
 f241:=Tryz.func314.trans (congrArg some (by kernel_rfl))
 f260:=Tryz.func308.trans (congrArg some (by kernel_rfl))
 f266:=Tryz.func247.trans (congrArg some (by kernel_rfl))
 f267:=Tryz.func387.trans (congrArg some (by kernel_rfl))
 f276:=Tryz.func356.trans (congrArg some (by kernel_rfl))
 f277:=Tryz.func357.trans (congrArg some (by kernel_rfl))
 f314:=Tryz.func390.trans (congrArg some (by kernel_rfl))
 t0:=Tryz.underlying0
 a0:=Tryz.isAgg0
 z0:=Tryz.sizeOf0
 v0:=Tryz.zeroValue0
 t3:=Tryz.underlying3
 a3:=Tryz.isAgg3
 z3:=Tryz.sizeOf3
 v3:=Tryz.zeroValue3
 t4:=Tryz.underlying4
 a4:=Tryz.isAgg4
 z4:=Tryz.sizeOf4
 v4:=Tryz.zeroValue4
 t5:=Tryz.underlying5
 a5:=Tryz.isAgg5
 z5:=Tryz.sizeOf5
 v5:=Tryz.zeroValue5
 t9:=Tryz.underlying9
 a9:=Tryz.isAgg9
 z9:=Tryz.sizeOf9
 v9:=Tryz.zeroValue9
 t20:=Tryz.underlying20
 a20:=Tryz.isAgg20
 z20:=Tryz.sizeOf20
 v20:=Tryz.zeroValue20
 t21:=Tryz.underlying21
 a21:=Tryz.isAgg21
 z21:=Tryz.sizeOf21
 v21:=Tryz.zeroValue21
 t37:=Tryz.underlying88
 a37:=Tryz.isAgg88
 z37:=Tryz.sizeOf88
 v37:=Tryz.zeroValue88
 t46:=Tryz.underlying163
 a46:=Tryz.isAgg163
 z46:=Tryz.sizeOf163
 v46:=Tryz.zeroValue163
 t51:=Tryz.underlying161
 a51:=Tryz.isAgg161
 z51:=Tryz.sizeOf161
 v51:=Tryz.zeroValue161
 t70:=Tryz.underlying373
 a70:=Tryz.isAgg373
 z70:=Tryz.sizeOf373
 v70:=Tryz.zeroValue373
 t72:=Tryz.underlying375
 a72:=Tryz.isAgg375
 z72:=Tryz.sizeOf375
 v72:=Tryz.zeroValue375
 t75:=Tryz.underlying378
 a75:=Tryz.isAgg378
 z75:=Tryz.sizeOf378
 v75:=Tryz.zeroValue378
 t76:=Tryz.underlying379
 a76:=Tryz.isAgg379
 z76:=Tryz.sizeOf379
 v76:=Tryz.zeroValue379
 t105:=Tryz.underlying361
 a105:=Tryz.isAgg361
 z105:=Tryz.sizeOf361
 v105:=Tryz.zeroValue361
 t119:=Tryz.underlying461
 a119:=Tryz.isAgg461
 z119:=Tryz.sizeOf461
 t127:=Tryz.underlying426
 a127:=Tryz.isAgg426
 z127:=Tryz.sizeOf426
 v127:=Tryz.zeroValue426
 t138:=Tryz.underlying463
 a138:=Tryz.isAgg463
 z138:=Tryz.sizeOf463
 v138:=Tryz.zeroValue463
 t139:=Tryz.underlying464
 a139:=Tryz.isAgg464
 z139:=Tryz.sizeOf464
 v139:=Tryz.zeroValue464
 t146:=Tryz.underlying491
 a146:=Tryz.isAgg491
 z146:=Tryz.sizeOf491
 v146:=Tryz.zeroValue491
 t164:=Tryz.underlying466
 a164:=Tryz.isAgg466
 z164:=Tryz.sizeOf466
 v164:=Tryz.zeroValue466
 g1:=by kernel_rfl
 g3:=by kernel_rfl
 g4:=by kernel_rfl }
theorem Tryz.LR:Builder.Extra Tryz.prog Tryz.OY:={
 sizeBuilder:=by kernel_rfl
 liesBuilder:=by kernel_rfl
 t5:=Tryz.underlying5
 a5:=Tryz.isAgg5
 z5:=Tryz.sizeOf5
 v5:=Tryz.zeroValue5
 infoByte:=by kernel_rfl
 cellsByte:=by kernel_rfl
 sizeByte:=by kernel_rfl
 neB5:=by decide }
open Go.RowKit Go.Lib in
theorem Tryz.strings_ReplaceAll(s old new:ByteArray)(m:Int)(w:World)(hs:s.size<4294967281)(hm:w.cell? ⟨5,0,none⟩=some (.int .i64 m))(h1:1<=old.size)(hlen:s.size+Lib.countB s old*new.size<=140737488355328) :
  Calls Tryz.prog 259 #[.string s,.string old,.string new] w λ e w' =>
   e=.returned (.string ⟨(Lib.replaceAll s.data.toList old.data.toList new.data.toList).toArray⟩)/\Below w.heap.size w w':=Any.strings_ReplaceAll Tryz.AfB Tryz.LR s old new m w hs hm h1 hlen
def Tryz.Xv:Go.Shelf.Ren:=⟨fun | 227=>179 | n=>n,fun | 9=>9 | 116=>286 | 4=>4 | 0=>0 | 3=>3 | 5=>5 | n=>n,fun | n=>n⟩
theorem Tryz.AfD:Go.Proofs.Lays.n227 Tryz.prog Tryz.Xv:={
 mixed:=by kernel_rfl
 f227:=Tryz.func179.trans (congrArg some (by kernel_rfl))
 t0:=Tryz.underlying0
 a0:=Tryz.isAgg0
 z0:=Tryz.sizeOf0
 v0:=Tryz.zeroValue0
 t3:=Tryz.underlying3
 a3:=Tryz.isAgg3
 z3:=Tryz.sizeOf3
 v3:=Tryz.zeroValue3
 t4:=Tryz.underlying4
 a4:=Tryz.isAgg4
 z4:=Tryz.sizeOf4
 v4:=Tryz.zeroValue4
 t5:=Tryz.underlying5
 a5:=Tryz.isAgg5
 z5:=Tryz.sizeOf5
 v5:=Tryz.zeroValue5
 t9:=Tryz.underlying9
 a9:=Tryz.isAgg9
 z9:=Tryz.sizeOf9
 v9:=Tryz.zeroValue9
 t116:=Tryz.underlying286
 a116:=Tryz.isAgg286
 z116:=Tryz.sizeOf286 }
open Go.RowKit Go.Lib in
theorem Tryz.strings_makeASCIISet(kO:∀ w,(zeroValue 286).run Tryz.prog w=.ok (.agg (Array.replicate 256 (.bool false))) w)(chars:ByteArray)(w:World)(hs:chars.size<4294967281)(iL:∀(j:Nat) b,chars.data.toList[j]?=some b->b.toNat<128) :
  Calls Tryz.prog 179 #[.string chars] w λ e w'=>e=.returned (.tuple #[.agg (Lib.setCells chars.data.toList),.bool true])/\w'=w.alloc (.cells (Lib.setCells chars.data.toList) 286):=Any.strings_makeASCIISet Tryz.AfD kO (by kernel_rfl) chars w hs iL
def Tryz.Xw:Go.Shelf.Ren:=⟨fun | 228=>248 | n=>n,fun | 124=>290 | 5=>5 | 4=>4 | 0=>0 | 116=>286 | n=>n,fun | n=>n⟩
theorem Tryz.AfE:Go.Proofs.Lays.n228 Tryz.prog Tryz.Xw:={
 mixed:=by kernel_rfl
 f228:=Tryz.func248.trans (congrArg some (by kernel_rfl))
 t0:=Tryz.underlying0
 a0:=Tryz.isAgg0
 z0:=Tryz.sizeOf0
 v0:=Tryz.zeroValue0
 t4:=Tryz.underlying4
 a4:=Tryz.isAgg4
 z4:=Tryz.sizeOf4
 v4:=Tryz.zeroValue4
 t5:=Tryz.underlying5
 a5:=Tryz.isAgg5
 z5:=Tryz.sizeOf5
 v5:=Tryz.zeroValue5
 t116:=Tryz.underlying286
 a116:=Tryz.isAgg286
 z116:=Tryz.sizeOf286
 t124:=Tryz.underlying290
 a124:=Tryz.isAgg290
 z124:=Tryz.sizeOf290
 v124:=Tryz.zeroValue290 }
open Go.RowKit Go.Lib in
theorem Tryz.asciiSet_contains(b:Nat)(x:UInt8)(v:Bool)(w:World)(hc:w.cell? ⟨b,x.toNat,none⟩=some (.bool v)) :
  Calls Tryz.prog 248 #[.pointer (some ⟨b,0,none⟩),.int .u8 x.toNat] w λ e w'=>e=.returned (.bool v)/\w'=w:=Any.asciiSet_contains Tryz.AfE b x v w hc
def Tryz.SP:Go.Shelf.Ren:=⟨fun | 20=>119 | n=>n,fun | 22=>83 | 3=>3 | 4=>4 | 0=>0 | n=>n,fun | n=>n⟩
theorem Tryz.TT:Go.Proofs.Lays2.n20 Tryz.prog Tryz.SP:={
 mixed:=by kernel_rfl
 f20:=Tryz.func119.trans (congrArg some (by kernel_rfl))
 t0:=Tryz.underlying0
 a0:=Tryz.isAgg0
 z0:=Tryz.sizeOf0
 v0:=Tryz.zeroValue0
 t3:=Tryz.underlying3
 a3:=Tryz.isAgg3
 z3:=Tryz.sizeOf3
 v3:=Tryz.zeroValue3
 t4:=Tryz.underlying4
 a4:=Tryz.isAgg4
 z4:=Tryz.sizeOf4
 v4:=Tryz.zeroValue4
 t22:=Tryz.underlying83
 a22:=Tryz.isAgg83
 z22:=Tryz.sizeOf83
 v22:=Tryz.zeroValue83
 i3:=by kernel_rfl }
open Go.RowKit Go.Lib Go.Sort in
theorem Tryz.slices_Compact_int(Bu off cap:Nat)(zs:List Int)(w:World)(hH:Holds (Value.int .i64) w Bu off zs.toArray)(aU:zs.length<=9223372036854775807)(av:zs.length<=cap) :
  Calls Tryz.prog 119 #[.slice (some ⟨Bu,off,none⟩) zs.length cap] w λ e w'=>e=.returned (.slice (some ⟨Bu,off,none⟩) (Lib.compact zs).length cap)/\∃ q,w'=putRow (Value.int .i64) (Sort.ahead w q) Bu off (Lib.compact zs++List.replicate (zs.length-(Lib.compact zs).length) 0).toArray:=Any.slices_Compact_int Tryz.TT Bu off cap zs w hH aU av
open Go.RowKit Go.Lib Go.Sort in
theorem Tryz.slices_Compact_int_empty(a:Option Addr)(cap:Nat)(w:World) :
  Calls Tryz.prog 119 #[.slice a 0 cap] w λ e w'=>e=.returned (.slice a 0 cap)/\w'=w:=Any.slices_Compact_int_empty Tryz.TT a cap w
def Tryz.Xu:Go.Shelf.Ren:=⟨fun | 194=>198 | n=>n,fun | 31=>210 | 9=>9 | 3=>3 | 4=>4 | 0=>0 | n=>n,fun | n=>n⟩
theorem Tryz.AaZ:Go.Proofs.Lays.n194 Tryz.prog Tryz.Xu:={
 mixed:=by kernel_rfl
 f194:=Tryz.func198.trans (congrArg some (by kernel_rfl))
 t0:=Tryz.underlying0
 a0:=Tryz.isAgg0
 z0:=Tryz.sizeOf0
 v0:=Tryz.zeroValue0
 t3:=Tryz.underlying3
 a3:=Tryz.isAgg3
 z3:=Tryz.sizeOf3
 v3:=Tryz.zeroValue3
 t4:=Tryz.underlying4
 a4:=Tryz.isAgg4
 z4:=Tryz.sizeOf4
 v4:=Tryz.zeroValue4
 t9:=Tryz.underlying9
 a9:=Tryz.isAgg9
 z9:=Tryz.sizeOf9
 v9:=Tryz.zeroValue9
 t31:=Tryz.underlying210
 a31:=Tryz.isAgg210
 z31:=Tryz.sizeOf210
 v31:=Tryz.zeroValue210 }
open Go.RowKit Go.Lib Go.Sort in
theorem Tryz.slices_Compact_string(Bu off cap:Nat)(zs:List (List UInt8))(w:World)(hH:Holds encStr w Bu off zs.toArray)(aU:zs.length<=9223372036854775807)(av:zs.length<=cap) :
  Calls Tryz.prog 198 #[.slice (some ⟨Bu,off,none⟩) zs.length cap] w λ e w'=>e=.returned (.slice (some ⟨Bu,off,none⟩) (Lib.compact zs).length cap)/\∃ q,w'=putRow encStr (Sort.ahead w q) Bu off (Lib.compact zs++List.replicate (zs.length-(Lib.compact zs).length) []).toArray:=Any.slices_Compact_string Tryz.AaZ Bu off cap zs w hH aU av
open Go.RowKit Go.Lib Go.Sort in
theorem Tryz.slices_Compact_string_empty(a:Option Addr)(cap:Nat)(w:World) :
  Calls Tryz.prog 198 #[.slice a 0 cap] w λ e w'=>e=.returned (.slice a 0 cap)/\w'=w:=Any.slices_Compact_string_empty Tryz.AaZ a cap w
open Go.RowKit Go.Sort in
theorem Tryz.slices_Sort_string_none(p:Option Addr)(cap:Nat)(w:World) :
  Calls Tryz.prog 197 #[.slice p 0 cap] w λ e w'=>e=.returned (.tuple #[])/\w'=w:=Any.slices_Sort_string_none Tryz.AaY p cap w
open Go.RowKit Go.Sort in
theorem Tryz.slices_Sort_int_none(p:Option Addr)(cap:Nat)(w:World) :
  Calls Tryz.prog 118 #[.slice p 0 cap] w λ e w'=>e=.returned (.tuple #[])/\w'=w:=Any.slices_Sort_int_none Tryz.AaX p cap w
end Go.Proofs
namespace Go.Dn
open _root_.List renaming length_cons -> AjK, replicate -> AjJ
set_option linter.unusedVariables false
set_option maxRecDepth 100000
open Go.RowKit (Below)
theorem HC(kd:IntKind):∀(us:List Int) {n:Nat} {f:List Value->Prop},us.length=n->f (us.map (.int kd))->Fw (AjJ n (.int kd 0)) f
 | [],_,_,hn,h=>by subst hn;exact h
 | u :: us,_,_,hn,h=>by subst hn;exact⟨u,HC kd us rfl h⟩
theorem Qs(kd:IntKind):∀(us:List Int) {n:Nat} {a:Addr} {i:Nat} {k:List Value->Prop} {w:World},us.length=n->(∀ j u,us[j]?=some u->w.cell? (a.add (i+j))=some (.int kd u)) ->
  k (us.map (.int kd))->BT (AjJ n (.int kd 0)) a i k w
 | [],_,_,_,_,_,hn,_,h=>by subst hn;exact h
 | u :: us,_,a,i,k,w,hn,hc,h=>by
  subst hn;exact⟨u,hc 0 u rfl,Qs kd us rfl (λ j x hj=>by have:=hc (j+1) x (by simpa using hj);rwa [show i+(j+1)=i+1+j by omega] at this) h⟩
theorem L3(kd:IntKind)(us:List Int){n:Nat}{a:Addr}{k:List Value->Prop}{w:World}(hn:us.length=n)(hr:Rd w (some a) (us.map (.int kd)))(h:k (us.map (.int kd))) :
  BT (AjJ n (.int kd 0)) a 0 k w :=
 Qs kd us hn (λ j u hj=>by
  obtain⟨p,hp,hc⟩:=hr j (.int kd u) (by simp [hj]);cases hp;simpa using hc) h
def Ox:Array Value->Nat->List Value->Array Value
 | cs,_,[]=>cs
 | cs,i,v :: vs=>Ox (cs.setIfInBounds i v) (i+1) vs
theorem KH:∀(vs:List Value) (cs:Array Value) (i:Nat),i+vs.length<=cs.size->(Ox cs i vs).toList=cs.toList.take i++vs++cs.toList.drop (i+vs.length)
 | [],cs,i,_=>by simp [Ox]
 | v :: vs,cs,i,h=>by
  simp only [AjK] at h;rw [Ox,KH vs _ _ (by simp;omega)];apply List.ext_getElem?;intro j;simp only [Array.toList_setIfInBounds,AjK,List.getElem?_append,List.length_append,List.length_take,List.length_set,Array.length_toList,List.getElem?_take,List.getElem?_drop]
  grind
theorem Sb(vs:List Value)(cs:Array Value)(h:vs.length=cs.size):Ox cs 0 vs=⟨vs⟩:=by
 apply Array.ext';rw [KH vs cs 0 (by omega)];simp [h]
theorem KO:∀(vs:List Value) {w:World} {b:Nat} {cs:Array Value} {t:TypeId} {i:Nat} {k:World->Prop},w.heap[b]?=some (.cells cs t (0,0))->i+vs.length<=cs.size->(∀ v∈vs,v.oneCell'=true) ->
  (∀ w',Aq (·=b) w w'->w'.heap[b]?=some (.cells (Ox cs i vs) t (0,0))->k w')->BO vs ⟨b,0,none⟩ i k w
 | [],w,_,_,_,_,_,hb,_,_,hk=>hk w (.refl _ w) hb
 | v :: vs,w,b,cs,t,i,k,hb,hi,h1,hk=>by
  simp only [AjK] at hi;unfold BO;rw [h1 v (by simp),Ar,Nat.zero_add];exact Af1 hb (by omega) λ w1 K1 iM=>KO vs iM (by simp;omega) (λ x hx=>h1 x (by simp [hx])) λ w2 K2 gd=>hk w2 (K1.trans K2 (λ _ _ h=>h)) gd
theorem SH.GA{F:Nat->Prop}{w0 w:World}{H:List Ent}(S:SH F w0 w H)(n:Nat){b:Nat}{cs:Array Value}{t:TypeId}(hn:H[n]?=some (b,cs,t)){vs:List Value}(hl:vs.length=cs.size)(h1:∀ v∈vs,v.oneCell'=true)
  {k:World->Prop} (hk:∀ w',Aq (·=b) w w'->SH F w0 w' (H.set n (b,⟨vs⟩,t))->k w'):BO vs ⟨b,0,none⟩ 0 k w :=
 KO vs (S.get n hn) (by omega) h1 λ w' K hb=>hk w' K (S.setAt n hn K (by rw [Sb vs cs hl] at hb;exact hb))
theorem Q9(kd:IntKind)(us:List Int):∀ v∈us.map (Value.int kd),v.oneCell'=true:=by
 intro v hv;obtain⟨u,_,rfl⟩:=List.mem_map.1 hv;rfl
end Go.Dn
namespace Go.Proofs.YtegnhfeclchlmaaGreatDoor
open _root_.BitVec renaming ofInt -> Ai2
set_option maxRecDepth 100000
open Go.Dn Go.Proofs
set_option linter.unusedVariables false
abbrev Wd:=BitVec 32
def wI(x:Wd):Int:=(x.toNat:Int)
def Ahp(x:Wd)(r:Nat):Wd:=(x >>> r) ||| (x <<< (32-r))
theorem Ags(x:Wd)(k:Nat):Ai2 32 (IntKind.u32.wrap ((x.toNat:Int)*2 ^ k))=x <<< k:=by
 rw [Cq];apply BitVec.eq_of_toNat_eq;rw [BitVec.toNat_ofInt,BitVec.toNat_shiftLeft,Nat.shiftLeft_eq];have:((x.toNat:Int)*2 ^ k)=((x.toNat*2 ^ k:Nat):Int):=by simp
 rw [this];omega
theorem Ail(x:Wd)(k:Nat):Ai2 32 (Int.fdiv (x.toNat:Int) (2 ^ k))=x >>> k:=by
 rw [HW,Bl]
theorem Ade(x y:Wd):IntKind.u32.wrap ((x.toNat:Int)+(y.toNat:Int))=((x+y).toNat:Int):=by
 rw [wrap_u32,BitVec.toNat_add];omega
theorem Abj(x y:Wd):IntKind.u32.wrap (((Ai2 32 (x.toNat:Int) ^^^ Ai2 32 (y.toNat:Int)).toNat:Int))=((x ^^^ y).toNat:Int):=by
 rw [Bl,Bl,BQ]
theorem Aem(x:Wd)(r:Nat)(hr:r=16\/r=12\/r=8\/r=7)(w:World) :
  Calls Tryz.prog f.Ia #[.int .u32 (x.toNat:Int),.int .i64 (IntKind.i64.wrap (0-(r:Int)))] w (AD λ v w'=>v=.int .u32 ((Ahp x r).toNat:Int)/\w'=w):=by
 have e1:IntKind.u64.wrap (((Ai2 64 (IntKind.u64.wrap (IntKind.i64.wrap (0-(r:Int)))) &&& Ai2 64 31).toNat:Int))=((32-r:Nat):Int):=by
  rcases hr with rfl | rfl | rfl | rfl <;> rfl
 have e2:IntKind.u64.wrap (32-((32-r:Nat):Int))=(r:Int):=by
  rcases hr with rfl | rfl | rfl | rfl <;> rfl
 have aB:r<32:=by omega
 apply R.Fl
 delta R.V R.Wu R.Wv;try dsimp only [R.Ps]
 rw [e1,e2];refine⟨by omega,by omega,?_,rfl⟩;rw [Int.toNat_natCast,Int.toNat_natCast,Nat.min_eq_left (by omega),Nat.min_eq_left (by omega),Ags,Ail,BQ,BitVec.or_comm];rfl
def TM(a b c d x:Wd)(r s:Nat):Wd × Wd × Wd × Wd :=
 let a:=a+(b+x);let d:=Ahp (d ^^^ a) r;let c:=c+d;let b:=Ahp (b ^^^ c) s
 (a,b,c,d)
theorem AaS(a b c d x:Wd)(r s:Nat)(hr:r=16\/r=12\/r=8\/r=7)(hs:s=16\/s=12\/s=8\/s=7)(w:World) :
  Calls Tryz.prog f.Ab3 #[.int .u32 (a.toNat:Int),.int .u32 (b.toNat:Int),.int .u32 (c.toNat:Int),.int .u32 (d.toNat:Int),.int .u32 (x.toNat:Int),.int .i64 (r:Int),.int .i64 (s:Int)] w
   (AD λ v w'=>v=.tuple #[.int .u32 ((TM a b c d x r s).1.toNat:Int),.int .u32 ((TM a b c d x r s).2.1.toNat:Int),.int .u32 ((TM a b c d x r s).2.2.1.toNat:Int),.int .u32 ((TM a b c d x r s).2.2.2.toNat:Int)]/\w'=w):=by
 apply R.PC
 delta R.Cv R.H R.I R.V R.W R.Wv;try dsimp only [R.Ps]
 rw [Ade,Ade,Abj];refine (Aem _ r hr w).mono ?_;rintro _ w ⟨_,rfl,rfl,rfl⟩;refine⟨_,rfl,?_⟩;rw [Ade,Abj];refine (Aem _ s hs w).mono ?_;rintro _ w ⟨_,rfl,rfl,rfl⟩;exact⟨_,rfl,rfl,rfl⟩
end Go.Proofs.YtegnhfeclchlmaaGreatDoor
namespace Go.Proofs.YtegnhfeclchlmaaGreatDoor
open _root_.Int renaming toNat_natCast -> Ajz
open _root_.List renaming replicate -> AjJ
open _root_.Nat renaming mul_one -> AjC, zero_add -> Ajp
set_option maxRecDepth 100000
open Go.Dn Go.Proofs
open Go.RowKit (Below)
set_option linter.unusedVariables false
def wV(x:Wd):Value:=.int .u32 (x.toNat:Int)
theorem VA(v:List Wd):v.map wV=(v.map wI).map (.int .u32):=by simp [wV,wI]
theorem We(v:List Wd){n:Nat}{f:List Value->Prop}(hn:v.length=n)(h:f (v.map wV)):Fw (AjJ n (.int .u32 0)) f :=
 HC .u32 (v.map wI) (by simpa using hn) (by rw [<- VA];exact h)
theorem D4(v:List Wd){n:Nat}{a:Addr}{k:List Value->Prop}{w:World}(hn:v.length=n)(hr:Rd w (some a) (v.map wV))(h:k (v.map wV)):BT (AjJ n (.int .u32 0)) a 0 k w :=
 L3 .u32 (v.map wI) (by simpa using hn) (by rw [<- VA];exact hr) (by rw [<- VA];exact h)
theorem OC(v:List Wd):∀ x∈v.map wV,x.oneCell'=true:=by
 rw [VA];exact Q9 _ _
theorem EL{vs:List Value}{n:Nat}{X:Prop}(h:vs.length=n)(hx:X):bif (Nat.beq (List.length vs) n && true) then X else False:=by
 subst h;rw [Nat.beq_refl];exact hx
section
variable {F:Nat->Prop}{w0 w:World}{H:List Ent}
theorem _root_.Go.Dn.SH.wd(S:SH F w0 w H)(n:Nat){b:Nat}{v:List Wd}{t:TypeId}(hn:H[n]?=some (b,⟨v.map wV⟩,t)){j x:Nat}(hj:j<v.length)(hx:x=j):w.cell? ((⟨b,0,none⟩:Addr).add (x*1))=some (.int .u32 ((v.getD j 0).toNat:Int)):=by
 subst hx;rw [Ar,Ajp,AjC];refine S.cell n hn ?_;simp [hj,wV]
theorem _root_.Go.Dn.SH.by8(S:SH F w0 w H)(n:Nat){b:Nat}{v:List Int}{t:TypeId}(hn:H[n]?=some (b,⟨v.map (.int .u8)⟩,t)){j x:Nat}(hj:j<v.length)(hx:x=j):w.cell? ((⟨b,0,none⟩:Addr).add (x*1))=some (.int .u8 (v.getD j 0)):=by
 subst hx;rw [Ar,Ajp,AjC];refine S.cell n hn ?_;simp [hj]
theorem _root_.Go.Dn.SH.Pg(S:SH F w0 w H)(n:Nat){b:Nat}{v:List Wd}{t:TypeId}(hn:H[n]?=some (b,⟨v.map wV⟩,t)){j x:Nat}(hj:j<v.length)(hx:x=j){y:Wd}{k:World->Prop}
  (hk:∀ w',SH F w0 w' (H.set n (b,⟨(v.set j y).map wV⟩,t))->k w'):CI ((⟨b,0,none⟩:Addr).add (x*1)) (.int .u32 (y.toNat:Int)) k w:=by
 subst hx;rw [Ar,Ajp,AjC];refine S.BA n hn (by simpa using hj) λ w' S'=>hk w' ?_;have e:(⟨v.map wV⟩:Array Value).setIfInBounds x (.int .u32 (y.toNat:Int))=⟨(v.set x y).map wV⟩:=by
  apply Array.ext';simp [wV,List.map_set]
 rw [e] at S';exact S'
theorem _root_.Go.Dn.SH.AiP(S:SH F w0 w H){z0 z1 z2 z3 v0 v1 v2 v3:Value}{t:TypeId}{k:Nat->World->Prop}(hk:∀ b w',SH F w0 w' ((b,#[v0,v1,v2,v3],t) :: H)->k b w') :
  Cu #[z0,z1,z2,z3] t (λ b w=>CI ⟨b,0,none⟩ v0 (λ w=>CI ⟨b,1,none⟩ v1 (λ w=>CI ⟨b,2,none⟩ v2 (λ w=>CI ⟨b,3,none⟩ v3 (λ w=>k b w) w) w) w) w) w :=
 S.Ak λ b w1 _ _ S1=>S1.BA 0 rfl (by simp) λ w2 S2=>S2.BA 0 rfl (by simp) λ w3 S3=>S3.BA 0 rfl (by simp) λ w4 S4=>S4.BA 0 rfl (by simp) λ w5 S5=>hk b w5 S5
end
def DJ:List Wd:=[0x6a09e667,0xbb67ae85,0x3c6ef372,0xa54ff53a,0x510e527f,0x9b05688c,0x1f83d9ab,0x5be0cd19]
def MQ:List Int:=[0,1,2,3,4,5,6,7,8,9,10,11,12,13,14,15,
 14,10,4,8,9,15,13,6,1,12,0,2,11,7,5,3,
 11,8,12,0,5,2,15,13,10,14,3,6,7,1,9,4,
 7,9,3,1,13,12,11,14,2,6,5,10,4,0,15,8,
 9,0,5,7,2,4,10,15,14,1,11,12,6,8,3,13,
 2,12,6,10,0,11,8,3,4,13,7,5,15,14,1,9,
 12,5,1,15,14,13,4,10,0,7,6,3,9,2,8,11,
 13,11,7,14,12,1,3,9,5,0,15,4,8,6,2,10,
 6,15,14,9,11,3,0,8,12,2,13,7,1,4,10,5,
 10,2,8,4,7,6,1,5,15,11,9,14,3,12,13,0]
def E1:List Int:=[0,4,8,12,1,5,9,13,2,6,10,14,3,7,11,15,0,5,10,15,1,6,11,12,2,7,8,13,3,4,9,14]
def eU(i j:Nat):Nat:=(E1.getD (i*4+j) 0).toNat
def Jr(r:Nat):List Int:=(MQ.drop (r*16)).take 16
def ord(r j:Nat):Nat:=((Jr r).getD j 0).toNat
theorem VJ:∀ i,i<8->∀ j,j<4->eU i j<16:=by decide
theorem Aeh:∀ r,r<10->∀ j,j<16->ord r j<16:=by decide
theorem Aeg:∀ r,r<10->∀ j,j<16->(Jr r).getD j 0=(ord r j:Int):=by decide
theorem Ahk:∀ i,i<8->(E1.drop (i*4)).take 4=[(eU i 0:Int),(eU i 1:Int),(eU i 2:Int),(eU i 3:Int)]:=by decide
theorem Ic:∀ r,r<10->(Jr r).length=16:=by decide
def Agv(m:List Wd)(r i:Nat)(v:List Wd):List Wd :=
 let h1:=TM (v.getD (eU i 0) 0) (v.getD (eU i 1) 0) (v.getD (eU i 2) 0) (v.getD (eU i 3) 0) (m.getD (ord r (2*i)) 0) 16 12;let h2:=TM h1.1 h1.2.1 h1.2.2.1 h1.2.2.2 (m.getD (ord r (2*i+1)) 0) 8 7
 (((v.set (eU i 0) h2.1).set (eU i 1) h2.2.1).set (eU i 2) h2.2.2.1).set (eU i 3) h2.2.2.2
def Q8(m:List Wd)(r:Nat)(v:List Wd):Nat->List Wd
 | 0=>v
 | i+1=>Agv m r i (Q8 m r v i)
def EB(m v:List Wd):Nat->List Wd
 | 0=>v
 | r+1=>Q8 m r (EB m v r) 8
theorem Ld(m:List Wd)(r:Nat)(v:List Wd):∀ i,(Q8 m r v i).length=v.length
 | 0=>rfl
 | i+1=>by simp [Q8,Agv,Ld m r v i]
theorem Lo(m v:List Wd):∀ r,(EB m v r).length=v.length
 | 0=>rfl
 | r+1=>by simp [EB,Ld,Lo m v r]
structure L6(w:World):Prop where
 first:Rd w (some ⟨0,0,none⟩) (DJ.map wV)
 orders:Rd w (some ⟨3,0,none⟩) (MQ.map (.int .u8))
 places:Rd w (some ⟨4,0,none⟩) (E1.map (.int .u8))
theorem L6.grown{w w':World}(h:L6 w)(B:Below w.heap.size w w'):L6 w':=⟨h.first.grown B,h.orders.grown B,h.places.grown B⟩
theorem Xh{x:Int}{n:Nat}(h:[Value.int .i64 x]=[.int .i64 (n:Int)]):x=(n:Int):=by simpa using h
theorem Acu{w:World}(T:L6 w)(v m:List Wd)(hv:v.length=16)(hm:m.length=16) :
  Calls Tryz.prog f.Xd #[.agg ⟨v.map wV⟩,.agg ⟨m.map wV⟩] w (AD λ r w'=>r=.agg ⟨(EB m v 10).map wV⟩/\Below w.heap.size w w'):=by
 apply R.MA
 delta R.A R.Ab R.B R.YC R.D R.F R.I R.Lv R.Ly R.N R.Qi R.Ae R.V R.W R.X;try dsimp only [R.Ps]
 refine (SH.start (λ _=>False) w).Ak λ b3 w1 _ _ S=>S.Ak λ b4 w2 _ _ S=>S.Ak λ b5 w3 _ _ S=>?_;refine L3 .u8 MQ rfl (T.orders.grown S.below) ?_;refine⟨λ st w'=>∃ r:Nat,st=[.int .i64 (r:Int)]/\r<=10/\SH (λ _=>False) w w' [(b5,⟨AjJ 16 (.int .u32 0)⟩,267),(b4,⟨m.map wV⟩,267),(b3,⟨(EB m v r).map wV⟩,267)],
  λ st _=>match st with | [.int _ t]=>(10-t).toNat | _=>0,⟨0,rfl,by omega,S⟩,?_⟩
 rintro t w4 ⟨r,aA,hr,S⟩;cases Xh aA;have hlen:=(Lo m v r).trans hv;refine Aa (λ aB=>⟨⟨by omega,aB⟩,?_⟩) (λ aM=>?_)
 ·have cX:r<10:=by omega
  refine HC .u8 (Jr r) (Ic r cX) ⟨by rw [Ajz];simp [Jr,List.map_take,List.map_drop],?_⟩;refine S.Ak λ cU w6 _ _ S=>EL (by simp [Ic r cX]) (S.GA 0 rfl (by simp [Ic r cX]) (Q9 _ _) λ w7 _ S=>?_);refine L3 .u8 E1 rfl (T.places.grown S.below) ?_;refine⟨λ st w'=>∃ i:Nat,st=[.int .i64 (i:Int)]/\i<=8/\SH (λ _=>False) w w' [(cU,⟨(Jr r).map (.int .u8)⟩,346),(b5,⟨AjJ 16 (.int .u32 0)⟩,267),(b4,⟨m.map wV⟩,267),(b3,⟨(Q8 m r (EB m v r) i).map wV⟩,267)],
   λ st _=>match st with | [.int _ t]=>(8-t).toNat | _=>0,⟨0,rfl,by omega,S⟩,?_⟩
  rintro t w8 ⟨i,aA,hi,S⟩;cases Xh aA;have gq:=(Ld m r (EB m v r) i).trans hlen;refine Aa (λ gK=>⟨⟨by omega,gK⟩,?_⟩) (λ nA=>?_)
  ·have gk:i<8:=by omega
   refine⟨_,_,_,_,by rw [Ajz,<- List.map_drop,<- List.map_take,Ahk i gk];rfl,?_⟩;have e2:IntKind.i64.wrap (2*(i:Int))=((2*i:Nat):Int):=by rw [wrap_i64 (by omega) (by omega)];omega
   have e3:IntKind.i64.wrap (((2*i:Nat):Int)+1)=((2*i+1:Nat):Int):=Ah (by omega);have p0:=VJ i gk 0 (by omega);have p1:=VJ i gk 1 (by omega);have p2:=VJ i gk 2 (by omega);have p3:=VJ i gk 3 (by omega);have o0:=Aeh r cX (2*i) (by omega);have o1:=Aeh r cX (2*i+1) (by omega);have aI:=Ic r cX;rw [e2,e3];refine S.AiP λ jf bQ S=>S.draw λ bG S=>?_;refine⟨⟨by omega,by omega⟩,_,S.cell 0 rfl rfl,⟨by omega,by omega⟩,_,S.wd 4 rfl (by omega) (Ajz _),_,S.cell 0 rfl rfl,⟨by omega,by omega⟩,_,S.wd 4 rfl (by omega) (Ajz _),
    _,S.cell 0 rfl rfl,⟨by omega,by omega⟩,_,S.wd 4 rfl (by omega) (Ajz _),_,S.cell 0 rfl rfl,⟨by omega,by omega⟩,_,S.wd 4 rfl (by omega) (Ajz _),
    _,(S.by8 1 rfl (by omega) (Ajz _)).trans (by rw [Aeg r cX _ (by omega)]),⟨by omega,by omega⟩,_,S.wd 3 rfl (by omega) (Ajz _),?_⟩
   refine (AaS _ _ _ _ _ 16 12 (by simp) (by simp) bG).mono ?_;rintro _ cB ⟨_,rfl,rfl,rfl⟩;refine⟨_,_,_,_,rfl,S.draw λ cZ S=>?_⟩;refine⟨⟨by omega,by omega⟩,_,S.cell 0 rfl rfl,_,S.cell 0 rfl rfl,_,S.cell 0 rfl rfl,_,S.cell 0 rfl rfl,
    _,(S.by8 1 rfl (by omega) (Ajz _)).trans (by rw [Aeg r cX _ (by omega)]),⟨by omega,by omega⟩,_,S.wd 3 rfl (by omega) (Ajz _),?_⟩
   refine (AaS _ _ _ _ _ 8 7 (by simp) (by simp) cZ).mono ?_;rintro _ cM ⟨_,rfl,rfl,rfl⟩;refine⟨_,_,_,_,rfl,S.cell 0 rfl rfl,S.cell 0 rfl rfl,S.cell 0 rfl rfl,S.cell 0 rfl rfl,⟨by omega,by omega⟩,S.Pg 4 rfl (by omega) (Ajz _) λ cR S=>?_⟩;refine⟨S.cell 0 rfl rfl,S.cell 0 rfl rfl,S.cell 0 rfl rfl,⟨by omega,by omega⟩,S.Pg 4 rfl (by simp;omega) (Ajz _) λ fR S=>?_⟩;refine⟨S.cell 0 rfl rfl,S.cell 0 rfl rfl,⟨by omega,by omega⟩,S.Pg 4 rfl (by simp;omega) (Ajz _) λ fS S=>?_⟩;refine⟨S.cell 0 rfl rfl,⟨by omega,by omega⟩,S.Pg 4 rfl (by simp;omega) (Ajz _) λ jX S=>?_⟩;rw [Ah (by omega)];exact⟨⟨i+1,rfl,by omega,S.drop 1⟩,by show (8-((i+1:Nat):Int)).toNat<(8-(i:Int)).toNat;omega⟩
  ·have gk:i=8:=by omega
   subst gk;rw [Ah (by omega)];exact⟨⟨r+1,rfl,by omega,S.drop 1⟩,by show (10-((r+1:Nat):Int)).toNat<(10-(r:Int)).toNat;omega⟩
 ·have cX:r=10:=by omega
  have bC:((EB m v r).map wV).length=16:=by rw [List.length_map];exact hlen
  refine D4 (EB m v r) hlen (Rd.Av (S.get 2 rfl)) ?_;refine EL bC (S.GA 0 rfl bC (OC _) λ w5 _ S=>?_);exact D4 (EB m v r) hlen (Rd.Av (S.get 0 rfl)) ⟨by rw [cX],S.below⟩
end Go.Proofs.YtegnhfeclchlmaaGreatDoor
namespace Go.Dn
set_option linter.unusedVariables false
set_option maxRecDepth 100000
open Go.RowKit (Below)
theorem SH.copy{F:Nat->Prop}{w0 w:World}{H:List Ent}(S:SH F w0 w H)(n:Nat){b:Nat}{cs:Array Value}{t:TypeId}(hn:H[n]?=some (b,cs,t)){P:Program}{dT sT ty elem:TypeId}(hu:P.underlying dT=some (.slice elem))
  (hs:(P.info? elem).map (·.size)=some 1) {a:Option Addr} {xs:List Value} {dA iw bH iH:Nat} (hx:xs.length=dA) (hd:bH<=cs.size) (hr:Rd w a xs) (h1:∀ v∈xs,v.oneCell'=true) {f:Value->World->Prop}
  (hf:∀ w',Aq (·=b) w w'->SH F w0 w' (H.set n (b,⟨xs.take bH++cs.toList.drop (min dA bH)⟩,t))->f (.int .i64 ((min dA bH:Nat):Int)) w') :
  Dc P (Builtin.copy_ #[dT,sT] ty #[.slice (some ⟨b,0,none⟩) bH iH,.slice a dA iw]) f w:=by
 have hg:=S.get n hn;cases a with
 | none =>
  have fh:xs=[]:=by
   cases xs with
   | nil=>rfl
   | cons x r =>
    obtain⟨p,hp,_⟩:=hr 0 x rfl;cases hp
  subst fh;have sU:dA=0:=hx.symm;subst sU;unfold Dc;rw [run_copy_none w dT sT ty elem (some ⟨b,0,none⟩) none bH iH 0 iw hu hs (by simp)];have:=hf w (.refl _ w) (S.setAt n hn (.refl _ w) (by simpa using hg));simpa [goInt] using this
 | some p =>
  have hl:(xs.take bH).length=Nat.min dA bH:=by rw [List.length_take,hx];exact Nat.min_comm _ _
  have hc:=run_copy_row P w dT sT ty elem b 0 bH iH p dA iw cs t (xs.take bH) hu hs hg hl (λ j v hj=>by
   rw [List.getElem?_take] at hj;split at hj
   ·obtain⟨q,hq,hc⟩:=hr j v hj;cases hq;exact hc
   ·cases hj) (by rw [hl,Nat.zero_add];exact Nat.le_trans (Nat.min_le_right _ _) hd) (λ v hv=>h1 v (List.mem_of_mem_take hv))
  unfold Dc;rw [hc];have lS:(xs.take bH).length=min dA bH:=hl;have e:(cs.toList.take 0++xs.take bH++cs.toList.drop (0+(xs.take bH).length)).toArray=⟨xs.take bH++cs.toList.drop (min dA bH)⟩:=by
   rw [lS];simp
  rw [e];have:=hf _ (Di w b _) (S.setAt n hn (Di w b _) (EZ hg));simpa only [goInt,lS] using this
end Go.Dn
