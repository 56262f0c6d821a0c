/-
  Texts of this claim, laid one behind the other by a program of mine (install.py): Dn.Ev15, Dn.Ev16, Dn.Ev16r, Dn.Ev17, Dn.Ev18, Dn.Ev19, Dn.Ev20, Dn.Ev21, Dn.Ev22, Dn.Ev23, Y.Sh0, Y.ShG, Y.YEnv, Y.Ex, Y.Sch5, Y.Bits, Y.IntsL.
-/
import Derived.Test.YtoepjfblppfabaaGreatDoorM5
import Derived.LoopNIn
import Derived.Test.YtoepjfblppfabaaGreatDoorM4
import Derived.Test.YtoepjfblppfabaaGreatDoorM3
import Derived.Test.YtoepjfblppfabaaGreatDoorM1
import Derived.Test.YtoepjfblppfabaaGreatDoorRows
set_option linter.unusedVariables false
set_option maxRecDepth 100000
namespace Go.Dn
open _root_.Bool renaming and_eq_true -> Ana
open _root_.List renaming isEmpty_iff -> Aof
open _root_.Nat renaming beq -> Am7, eq_of_beq_eq_true -> Anb
open _root_.Option.some renaming injEq -> An8
open _root_.Prod.mk renaming injEq -> AnO
open Go.RowKit (Below)
section
variable {P:Program}{g:Sg}{w0 w:World}
noncomputable def F7 {α:Type} (ops:Array Oper) (o:Oper) (fr:Ft) (A B:Ft->Option α):Option α :=
 match o.guard with
 | none=>A fr
 | some (j,want) =>
  match (ops[j]?).bind (·.dst) with
  | none=>none
  | some d =>
   match TF fr d with
   | some (.bool b)=>(match b with
    | true=>bif want then A fr else B fr
    | false=>bif want then B fr else A fr)
   | some (.tuple _)=>B fr
   | _=>none
theorem EC{α:Type}{ops:Array Oper}{o:Oper}{fr:Ft}{frc:Fr}{A B:Ft->Option α}{r:α}(he:F7 ops o fr A B=some r)(aO:FR g fr frc){A' B':Fr->Prop}
  (hA:∀ f f',FR g f f'->A f=some r->A' f') (hB:∀ f f',FR g f f'->B f=some r->B' f'):Jf ops o frc A' B':=by
 unfold F7 at he;unfold Jf;split at he
 ·rename_i hg;rw [hg];exact hA _ _ aO he
 ·rename_i j want hg;rw [hg];split at he
  ·cases he
  ·rename_i d hd;simp only [hd];split at he
   ·rename_i b hb;obtain⟨c,hc,hr⟩:=aO _ _ (by rw [<- Ir];exact hb);simp only [R] at hr;subst hr;simp only [hc];cases b with
    | true =>
     simp only [VD] at he ⊢;cases want with
     | true=>exact hA _ _ (aO.again hc) he
     | false=>exact hB _ _ (aO.again hc) he
    | false =>
     simp only [VD] at he ⊢;cases want with
     | true=>exact hB _ _ (aO.again hc) he
     | false=>exact hA _ _ (aO.again hc) he
   ·rename_i vs hb;obtain⟨c,hc,hr⟩:=aO _ _ (by rw [<- Ir];exact hb);obtain⟨cs,rfl,_⟩:=AcW hr;simp only [hc];exact hB _ _ aO he
   ·cases he
noncomputable def eOp (P:Program) (G:GT) (X:XF) (fr:Ft) (o:Oper) (Y:YT) (S:AS):Option (Value × AS) :=
 match cls P o with
 | .pure=>(match eP P (eO fr) o with
  | some v=>some (v,S)
  | none=>none)
 | .read=>(match o.op with
  | .load t a=>(match QR P G S.H t (eO fr a) with
   | some (v,_)=>some (v,S)
   | none=>none)
  | _=>none)
 | .Z5=>QS P G X (eO fr) o Y S
theorem Zn{G:GT}{X:XF}{e:Operand->Option Value}{o:Oper}{Y:YT}{S:AS}{r:Value × AS}(h:QS P G X e o Y S=some r)(i:Operand):o.op≠.entry i:=by
 intro ho;simp [QS,KH,AbC,ho] at h
theorem Aeb{o:Oper}{i:Operand}(ho:o.op=.entry i):cls P o=.Z5:=by
 simp [cls,C8,ho]
theorem Akv{G:GT}{X:XF}(hX:XOK P G X)(hG:Ka G w0){fr:Ft}{frc:Fr}(aO:FR g fr frc){o:Oper}{Y:YT}{S S':AS}{v:Value}(he:eOp P G X fr o Y S=some (v,S'))(hS:SX g w0 w S)(hY:WV g Y){k:Value->World->Prop}(hk:Abf S.nx g w0 v S' k){rest:List Oper} :
  Aee P none (EY frc) o rest (λ v _ w'=>k v w') w:=by
 have hE:=RG aO;have aQ:∀ i,o.op≠.entry i:=by
  intro i ho;unfold eOp at he;rw [Aeb ho] at he;exact Zn he i ho
 have e1:Aee P none (EY frc) o rest (λ v _ w'=>k v w') w=dOp P none (EY frc) o (λ v _ w'=>k v w') w:=by
  unfold Aee;split
  ·rename_i i ho;exact absurd ho (aQ i)
  ·rfl
 rw [e1];unfold eOp at he;unfold dOp;split at he
 ·rename_i hc;rw [hc];split at he
  ·rename_i u hu;simp only [An8,AnO] at he;obtain⟨rfl,rfl⟩:=he;exact Ago hE hu λ c hr=>hk g c w (Ext.refl _ _) hr hS
  ·cases he
 ·rename_i hc;rw [hc];split at he
  ·rename_i t a ho;simp only [ho];split at he
   ·rename_i u hd hl;simp only [An8,AnO] at he;obtain⟨rfl,rfl⟩:=he;exact Oh hG hS.2 hE hl λ c hc hr _=>hk g c w (Ext.refl _ _) hr hS
   ·cases he
  ·cases he
 ·rename_i hc;rw [hc];exact Zo hX hG hE he hS hY hk
/-! ## The same, with fewer steps -/
def Ajw(x:Option Value):Option (IntKind × Int) :=
 match x with
 | some v=>(match v with
  | .int k n=>some (k,n)
  | _=>none)
 | none=>none
def Vm(x:Option Value)(S:AS):Option (Value × AS) :=
 match x with
 | some v=>some (v,S)
 | none=>none
noncomputable def Aeo (P:Program) (G:GT) (X:XF) (fr:Ft) (o:Oper) (Y:YT) (S:AS):Option (Value × AS) :=
 match o.op with
 | .binOp op t x y _=>(match Ajw (eO fr x) with
  | some a=>(match Ajw (eO fr y) with
   | some b=>bif !(AgM P t) || Cw y then Vm (Xc op a.1 b.1 a.2 b.2) S else none
   | none=>eOp P G X fr o Y S)
  | none=>eOp P G X fr o Y S)
 | .move x=>Vm (eO fr x) S
 | .assign x=>Vm (eO fr x) S
 | .load t a=>(match QR P G S.H t (eO fr a) with
   | some r=>some (r.1,S)
   | none=>none)
 | .store t a x=>(match Ty P t (eO fr a) (eO fr x) S with
  | some S'=>some (undef,⟨S.nx+1,S'.H⟩)
  | none=>none)
 | .fieldAddr s x f=>Vm (I5 P (eO fr) s x f) S
 | .indexAddr t x i=>Vm (I6 P (eO fr) t x i) S
 | .index t x i=>Vm (Xb P (eO fr) t x i) S
 | .slice t x lo hi mx=>Vm (Xm P (eO fr) t x lo hi mx) S
 | .extract x i=>Vm (Og (eO fr) x i) S
 | .field t x f=>Vm (Xa P (eO fr) t x f) S
 | .call c=>(match c.callee with
  | .value _=>VW P X (eO fr) o Y S
  | _=>eOp P G X fr o Y S)
 | _=>eOp P G X fr o Y S
theorem Ait{op:BinOp}{k k':IntKind}{a b:Int}{v:Value}(h:Xc op k k' a b=some v):pl v=true:=by
 cases op <;> first
  | (obtain⟨h1,rfl⟩:=BN h;rfl)
  | (simp only [Xc] at h;cases hb:Cg k k' <;> simp only [hb,cond_true,cond_false] at h <;> first | (cases h;done) | (cases h;rfl) | (obtain⟨h1,rfl⟩:=Tj h;rfl))
theorem WG{x:Option Value}{a:IntKind × Int}(h:Ajw x=some a):x=some (.int a.1 a.2):=by
 unfold Ajw at h;split at h
 ·split at h
  ·cases h;rfl
  ·cases h
 ·cases h
theorem Aiw{G:GT}{X:XF}{fr:Ft}{o:Oper}{Y:YT}{S:AS}{r:Value × AS}(h:Aeo P G X fr o Y S=some r):eOp P G X fr o Y S=some r:=by
 obtain⟨dst,op,type,pos,after,guard⟩:=o;have cA:∀ {op:Op} {v:Option Value},cls P ⟨dst,op,type,pos,after,guard⟩=.pure->eP P (eO fr) ⟨dst,op,type,pos,after,guard⟩=v->Vm v S=some r->eOp P G X fr ⟨dst,op,type,pos,after,guard⟩ Y S=some r:=by
  intro op v h1 h2 h3;unfold eOp;rw [h1,h2];cases v with
  | none=>cases h3
  | some v=>exact h3
 cases op with
 | binOp op t x y yt =>
  simp only [Aeo] at h;split at h
  ·rename_i a ha;split at h
   ·rename_i b hb;have h1:=(AN h).1
    replace h:=(AN h).2
    refine cA (by simp only [cls,C8,h1,cond_true]) ?_ h;have e1:=WG ha;have e2:=WG hb;simp only [eP,Aio,e1,e2];cases hv:Xc op a.1 b.1 a.2 b.2 with
    | none=>rfl
    | some v=>simp only [Ait hv,if_true]
   ·exact h
  ·exact h
 | move x=>exact cA (by simp [cls,C8]) rfl h
 | assign x=>exact cA (by simp [cls,C8]) rfl h
 | fieldAddr s x f=>exact cA (by simp [cls,C8]) rfl h
 | indexAddr t x i=>exact cA (by simp [cls,C8]) rfl h
 | index t x i=>exact cA (by simp [cls,C8]) rfl h
 | slice t x lo hi mx=>exact cA (by simp [cls,C8]) rfl h
 | extract x i=>exact cA (by simp [cls,C8]) rfl h
 | field t x f=>exact cA (by simp [cls,C8]) rfl h
 | load t a =>
  simp only [Aeo] at h;unfold eOp;rw [show cls P ⟨dst,.load t a,type,pos,after,guard⟩=.read by simp [cls,C8]];simp only;cases hl:QR P G S.H t (eO fr a) with
  | none=>rw [hl] at h;cases h
  | some q=>rw [hl] at h;obtain⟨v,hd⟩:=q;exact h
 | store t a x =>
  simp only [Aeo] at h;unfold eOp;rw [show cls P ⟨dst,.store t a x,type,pos,after,guard⟩=.Z5 by simp [cls,C8]];simp only [QS,KH,cond_false,AbC];cases hl:Ty P t (eO fr a) (eO fr x) S with
  | none=>rw [hl] at h;cases h
  | some q=>rw [hl] at h;exact h
 | call c =>
  obtain⟨callee,args,ats⟩:=c;cases callee with
  | value f =>
   simp only [Aeo] at h;unfold eOp;rw [show cls P ⟨dst,.call ⟨.value f,args,ats⟩,type,pos,after,guard⟩=.Z5 by simp [cls,C8]];simp only [QS,KH,cond_true];exact h
  | _=>exact h
 | _=>exact h
noncomputable def Aep (P:Program) (G:GT) (X:XF) (n:Nat) (ops:Array Oper) (Y:YT):List Oper->Ft->AS->Option (Ft × AS)
 | [],fr,S=>some (fr,S)
 | o :: rest,fr,S =>
  F7 ops o fr (λ fr=>match Aeo P G X fr o Y S with
   | some (v,S')=>Aep P G X n ops Y rest (GS n fr o.dst v) S'
   | none=>none) (λ fr=>Aep P G X n ops Y rest (GS n fr o.dst undef) S)
theorem Xj{G:GT}{X:XF}(hX:XOK P G X)(hG:Ka G w0){n:Nat}{ops:Array Oper}{Y:YT}:∀ {l:List Oper} {fr aI:Ft} {frc:Fr} {S S':AS} {g:Sg} {w:World},Aep P G X n ops Y l fr S=some (aI,S')->SX g w0 w S->FR g fr frc->WV g Y->∀ {K:Fr->World->Prop},
  (∀ g' bO w',Ext S.nx S'.nx g g'->FR g' aI bO->SX g' w0 w' S'->K bO w')->Abz P none n ops l frc K w
 | [],fr,aI,frc,S,S',g,w,he,hS,aO,_,K,hK=>by
  simp only [Aep,An8,AnO] at he;obtain⟨rfl,rfl⟩:=he;exact hK g frc w (Ext.refl _ _) aO hS
 | o :: rest,fr,aI,frc,S,S',g,w,he,hS,aO,hY,K,hK=>by
  unfold Aep at he;unfold Abz;refine EC he aO (λ f f' hf hA=>?_) (λ f f' hf hB=>?_)
  ·split at hA
   ·rename_i v S2 ho;refine Akv hX hG hf (Aiw ho) hS hY λ g2 c w2 h1 h2 h3=>?_;exact Xj hX hG hA h3 ((hf.le h1.1).put _ h2) (hY.le h1.1) λ g3 eS w3 q1 q2 q3=>hK g3 eS w3 (h1.trans q1) q2 q3
   ·cases hA
  ·exact Xj hX hG hB hS (hf.put _ (by simp [undef,R,RA,RL])) hY hK
/-! ## Values that are the same -/
mutual
def Pr:Value->Value->Bool
 | .bool a,v=>(match v with | .bool b=>a==b | _=>false)
 | .int k n,v=>(match v with | .int k' m=>Cg k k' && decide (n=m) | _=>false)
 | .string s,v=>(match v with | .string t=>AJ s t | _=>false)
 | .pointer p,v=>(match v with | .pointer q=>decide (p=q) | _=>false)
 | .slice p l c,v=>(match v with | .slice q l' c'=>decide (p=q) && Am7 l l' && Am7 c c' | _=>false)
 | .map p,v=>(match v with | .map q=>decide (p=q) | _=>false)
 | .func fn fi ca,v=>(match v with | .func fn' bX cG=>decide (fn=fn') && Afx fi bX && Afx ca cG | _=>false)
 | .iface t x,v=>(match v with | .iface t' x'=>Am7 t t' && Pr x x' | _=>false)
 | .agg cs,v=>(match v with | .agg aC=>Afx cs aC | _=>false)
 | .tuple cs,v=>(match v with | .tuple aC=>Afx cs aC | _=>false)
 | .nilFunc,v=>(match v with | .nilFunc=>true | _=>false)
 | .nilIface,v=>(match v with | .nilIface=>true | _=>false)
 | .chan _,_=>false
 | .float _ _,_=>false
 | .complex _ _ _,_=>false
def Afx:Array Value->Array Value->Bool
 | ⟨l⟩,v=>UN l v.toList
def UN:List Value->List Value->Bool
 | [],v=>v.isEmpty
 | x :: xs,v=>(match v with
  | []=>false
  | y :: ys=>Pr x y && UN xs ys)
end
mutual
theorem UO:∀(v:Value) {u:Value},Pr v u=true->v=u
 | .bool a,u,h=>by cases u <;> simp [Pr] at h;rw [h]
 | .int k n,u,h=>by
  cases u with
  | int k' m=>simp only [Pr,Ana,decide_eq_true_eq] at h;rw [FT h.1,h.2]
  | _=>simp [Pr] at h
 | .string s,u,h=>by
  cases u with
  | string t=>simp only [Pr,AK,decide_eq_true_eq] at h;rw [h]
  | _=>simp [Pr] at h
 | .pointer p,u,h=>by cases u <;> simp [Pr] at h;rw [h]
 | .slice p l c,u,h=>by
  cases u with
  | slice q l' c'=>simp only [Pr,Ana,decide_eq_true_eq] at h;rw [h.1.1,Anb h.1.2,Anb h.2]
  | _=>simp [Pr] at h
 | .map p,u,h=>by cases u <;> simp [Pr] at h;rw [h]
 | .func fn fi ca,u,h=>by
  cases u with
  | func fn' bX cG=>simp only [Pr,Ana,decide_eq_true_eq] at h;rw [h.1.1,SG fi h.1.2,SG ca h.2]
  | _=>simp [Pr] at h
 | .iface t x,u,h=>by
  cases u with
  | iface t' x'=>simp only [Pr,Ana] at h;rw [Anb h.1,UO x h.2]
  | _=>simp [Pr] at h
 | .agg cs,u,h=>by
  cases u with
  | agg aC=>simp only [Pr] at h;rw [SG cs h]
  | _=>simp [Pr] at h
 | .tuple cs,u,h=>by
  cases u with
  | tuple aC=>simp only [Pr] at h;rw [SG cs h]
  | _=>simp [Pr] at h
 | .nilFunc,u,h=>by cases u <;> simp [Pr] at h;rfl
 | .nilIface,u,h=>by cases u <;> simp [Pr] at h;rfl
 | .chan _,_,h=>by simp [Pr] at h
 | .float _ _,_,h=>by simp [Pr] at h
 | .complex _ _ _,_,h=>by simp [Pr] at h
theorem SG:∀(v:Array Value) {u:Array Value},Afx v u=true->v=u
 | ⟨l⟩,⟨m⟩,h=>by simp only [Afx] at h;rw [JG l h]
theorem JG:∀(v:List Value) {u:List Value},UN v u=true->v=u
 | [],u,h=>by simp only [UN,Aof] at h;exact h.symm
 | x :: xs,[],h=>by simp [UN] at h
 | x :: xs,y :: ys,h=>by simp only [UN,Ana] at h;rw [UO x h.1,JG xs h.2]
end
mutual
def nj:Value->Bool
 | .slice p _ _=>(match p with | some a=>!(Am7 a.block Gu) | none=>true)
 | .func _ fi ca=>njA fi && njA ca
 | .iface _ v=>nj v
 | .agg cs=>njA cs
 | .tuple cs=>njA cs
 | .chan _=>false
 | .bool _=>true
 | .int _ _=>true
 | .string _=>true
 | .float _ _=>true
 | .complex _ _ _=>true
 | .pointer _=>true
 | .map _=>true
 | .nilFunc=>true
 | .nilIface=>true
def njA:Array Value->Bool
 | ⟨l⟩=>njL l
def njL:List Value->Bool
 | []=>true
 | v :: vs=>nj v && njL vs
end
mutual
theorem AjF:∀(v:Value) {c d:Value},nj v=true->R g v c->R g v d->c=d
 | .slice p l k,c,d,h,h1,h2=>by
  cases c with
  | slice p1 l1 c1 =>
   cases d with
   | slice p2 l2 c2 =>
    simp only [R,JR] at h1 h2;obtain⟨rfl,h1⟩:=h1;obtain⟨rfl,h2⟩:=h2;cases p with
    | none=>simp only at h1 h2;rw [h1.1,h1.2,h2.1,h2.2]
    | some a =>
     simp only [nj,Bool.not_eq_true'] at h;have hj:=Nat.ne_of_beq_eq_false h;rcases h1 with ⟨_,⟨h1,_⟩ | ⟨_,e1,_,e2⟩⟩
     ·exact absurd h1 hj
     ·rcases h2 with ⟨_,⟨h2,_⟩ | ⟨_,e3,_,e4⟩⟩
      ·exact absurd h2 hj
      ·rw [e2] at e4;cases e4;rw [<- e1,<- e3]
   | _=>simp [R,JR] at h2
  | _=>simp [R,JR] at h1
 | .pointer p,c,d,h,h1,h2=>by
  cases p with
  | none=>simp only [R] at h1 h2;rw [h1,h2]
  | some a =>
   simp only [R] at h1 h2;obtain⟨a1,e1,rfl⟩:=h1;obtain⟨a2,e2,rfl⟩:=h2;rw [e1] at e2;cases e2;rfl
 | .map p,c,d,h,h1,h2=>by
  cases p with
  | none=>simp only [R] at h1 h2;rw [h1,h2]
  | some a =>
   simp only [R] at h1 h2;obtain⟨a1,e1,rfl⟩:=h1;obtain⟨a2,e2,rfl⟩:=h2;rw [e1] at e2;cases e2;rfl
 | .func fn fi ca,c,d,h,h1,h2=>by
  simp only [nj,Ana] at h;cases c with
  | func fn1 fi1 ca1 =>
   cases d with
   | func fn2 fi2 ca2 =>
    simp only [R] at h1 h2;rw [WS fi h.1 h1.2.1 h2.2.1,WS ca h.2 h1.2.2 h2.2.2];cases fn with
    | func f=>rw [h1.1,h2.1]
    | yield l =>
     obtain⟨⟨a1,e1,rfl⟩,_⟩:=h1;obtain⟨⟨a2,e2,rfl⟩,_⟩:=h2;rw [e1] at e2;cases e2;rfl
    | _=>exact h1.1.elim
   | _=>simp [R] at h2
  | _=>simp [R] at h1
 | .iface t v,c,d,h,h1,h2=>by
  simp only [nj] at h;cases c with
  | iface t1 v1 =>
   cases d with
   | iface t2 v2=>simp only [R] at h1 h2;rw [h1.1,h2.1,AjF v h h1.2 h2.2]
   | _=>simp [R] at h2
  | _=>simp [R] at h1
 | .agg cs,c,d,h,h1,h2=>by
  simp only [nj] at h;cases c with
  | agg cs1 =>
   cases d with
   | agg cs2=>simp only [R] at h1 h2;rw [WS cs h h1 h2]
   | _=>simp [R] at h2
  | _=>simp [R] at h1
 | .tuple cs,c,d,h,h1,h2=>by
  simp only [nj] at h;cases c with
  | tuple cs1 =>
   cases d with
   | tuple cs2=>simp only [R] at h1 h2;rw [WS cs h h1 h2]
   | _=>simp [R] at h2
  | _=>simp [R] at h1
 | .chan _,_,_,h,_,_=>by simp [nj] at h
 | .bool _,_,_,_,h1,h2=>by simp only [R] at h1 h2;rw [h1,h2]
 | .int _ _,_,_,_,h1,h2=>by simp only [R] at h1 h2;rw [h1,h2]
 | .string _,_,_,_,h1,h2=>by simp only [R] at h1 h2;rw [h1,h2]
 | .float _ _,_,_,_,h1,h2=>by simp only [R] at h1 h2;rw [h1,h2]
 | .complex _ _ _,_,_,_,h1,h2=>by simp only [R] at h1 h2;rw [h1,h2]
 | .nilFunc,_,_,_,h1,h2=>by simp only [R] at h1 h2;rw [h1,h2]
 | .nilIface,_,_,_,h1,h2=>by simp only [R] at h1 h2;rw [h1,h2]
theorem WS:∀(v:Array Value) {c d:Array Value},njA v=true->RA g v c->RA g v d->c=d
 | ⟨l⟩,⟨c⟩,⟨d⟩,h,h1,h2=>by simp only [njA] at h;simp only [RA] at h1 h2;rw [Abk l h h1 h2]
theorem Abk:∀(v:List Value) {c d:List Value},njL v=true->RL g v c->RL g v d->c=d
 | [],c,d,_,h1,h2=>by simp only [RL] at h1 h2;rw [h1,h2]
 | v :: vs,[],_,_,h1,_=>by simp [RL] at h1
 | v :: vs,_ :: _,[],_,_,h2=>by simp [RL] at h2
 | v :: vs,c :: cs,d :: ds,h,h1,h2=>by simp only [njL,Ana] at h;simp only [RL] at h1 h2;rw [AjF v h.1 h1.1 h2.1,Abk vs h.2 h1.2 h2.2]
end
end
section
variable {P:Program}{g:Sg}{w0 w:World}
/-! ## What was read, and stands -/
def HD(g:Sg):List (Nat × Hu)->List (Nat × DZ)->Prop
 | [],h=>h=[]
 | x :: xs,h=>match h with
  | []=>False
  | y :: ys=>y.1=x.1/\AbU g default x.2 y.2/\HD g xs ys
theorem HD.le{g':Sg}(hl:Le g g'):∀ {x:List (Nat × Hu)} {y:List (Nat × DZ)},HD g x y->HD g' x y
 | [],_,h=>h
 | x :: xs,[],h=>h.elim
 | x :: xs,y :: ys,⟨h1,⟨a,cs,h2,h3,h4⟩,h5⟩=>⟨h1,⟨a,cs,AgS hl h2,GY hl _ h3,h4⟩,HD.le hl h5⟩
theorem HD.kept{ps:List Nat}:∀ {x:List (Nat × Hu)} {y:List (Nat × DZ)},HD g x y->HD g (x.filter λ s=>!ps.contains s.1) (Dn.kept ps y)
 | [],_,h=>by simp only [HD] at h;subst h;rfl
 | x :: xs,[],h=>h.elim
 | x :: xs,y :: ys,⟨h1,h2,h3⟩=>by
  have ih:=HD.kept (ps:=ps) h3;unfold Dn.kept at ih ⊢;simp only [List.filter_cons,h1];split
  ·exact⟨h1,h2,ih⟩
  ·exact ih
theorem ZK:∀ {cs:List Value} {a:Addr} {i:Nat},(∀(j:Nat) c,cs[j]?=some c->w.cell? (a.add (i+j))=some c)->holds (Jh a cs i) w
 | [],_,_,_=>trivial
 | [c],a,i,h=>by have:=h 0 c rfl;exact this
 | c :: d :: cs,a,i,h=>by
  refine⟨h 0 c rfl,?_⟩;exact ZK (cs:=d :: cs) (a:=a) (i:=i+1) λ j x hx=>by rw [show i+1+j=i+(j+1) by omega];exact h (j+1) x hx
def AgF(G:GT)(H:List AI)(x:Hu):Bool :=
 match x.1.spot with
 | some _=>false
 | none=>(match Z6 G H x.1.block with
  | some vs=>UN x.2 ((vs.drop x.1.off).take x.2.length) && njL x.2
  | none=>false)
theorem AgG{G:GT}(hG:Ka G w0){S:AS}(hS:SQ g w0 w S.H){x:Hu}{h:DZ}(hr:AbU g default x h)(he:AgF G S.H x=true):holds h w:=by
 obtain⟨⟨b,o,sp⟩,vs⟩:=x;obtain⟨a',cs,h1,h2,rfl⟩:=hr;unfold AgF at he;simp only at he h1 h2;split at he
 ·cases he
 ·split at he
  ·rename_i us hm;simp only [Ana] at he;have e1:=JG _ he.1;obtain⟨ds,c,q1,q2,q3⟩:=LY hG hS hm;have cD:=HA vs.length (IW o q1);rw [<- e1] at cD;have e2:=Abk vs he.2 h2 cD;subst e2;have fN:a'=⟨c,o,none⟩:=by
    unfold ad at h1;simp only [q2,Option.map_some,An8] at h1;exact h1.symm
   subst fN;refine ZK λ j d hd=>?_;rw [Nat.zero_add,Am];rw [List.getElem?_take] at hd;split at hd
   ·rw [List.getElem?_drop] at hd;exact q3 _ _ hd
   ·cases hd
  ·cases he
def HF(G:GT)(H:List AI)(ps:List Nat):List (Nat × Hu)->Bool
 | []=>true
 | s :: r=>(bif ps.contains s.1 then true else AgF G H s.2) && HF G H ps r
theorem I7{G:GT}(hG:Ka G w0){S:AS}(hS:SQ g w0 w S.H){ps:List Nat}{X:Prop}(hX:X):∀ {x:List (Nat × Hu)} {y:List (Nat × DZ)},HD g x y->HF G S.H ps x=true->stands ps y w X
 | [],_,h,_=>by simp only [HD] at h;subst h;exact hX
 | x :: xs,[],h,_=>h.elim
 | x :: xs,y :: ys,⟨h1,h2,h3⟩,he=>by
  simp only [HF,Ana] at he;have ih:=I7 hG hS hX h3 he.2;show (bif ps.contains y.1 then stands ps ys w X else holds y.2 w/\stands ps ys w X);rw [h1];cases hc:ps.contains x.1 with
  | true=>exact ih
  | false =>
   have:=he.1;rw [hc,cond_false] at this;exact⟨AgG hG hS h2 this,ih⟩
/-! ## States that are the same -/
def Agr:List (ByteArray × Value × Nat)->List (ByteArray × Value × Nat)->Bool
 | [],l=>l.isEmpty
 | x :: xs,l=>match l with
  | []=>false
  | y :: ys=>AJ x.1 y.1 && Pr x.2.1 y.2.1 && Am7 x.2.2 y.2.2 && Agr xs ys
theorem Adb:∀ {a b:List (ByteArray × Value × Nat)},Agr a b=true->a=b
 | [],b,h=>by simp only [Agr,Aof] at h;exact h.symm
 | x :: xs,[],h=>by cases h
 | (s,v,n) :: xs,(s',v',n') :: ys,h=>by
  simp only [Agr,Ana,AK,decide_eq_true_eq] at h;rw [h.1.1.1,UO _ h.1.1.2,Anb h.1.2,Adb h.2]
def AkY:Option Code->Option Code->Bool
 | none,none=>true
 | some .ret,some .ret=>true
 | some (.exit i),some (.exit j)=>Am7 i j
 | _,_=>false
theorem Aje{a b:Option Code}(h:AkY a b=true):a=b:=by
 unfold AkY at h;split at h
 ·rfl
 ·rfl
 ·rw [Anb h]
 ·cases h
def aeq:AI->AI->Bool
 | .cells b cs t,y=>(match y with | .cells b' aC t'=>Am7 b b' && UN cs aC && Am7 t t' | _=>false)
 | .row b e sz n xs cx,y=>(match y with | .row b' e' dj n' iD cx'=>Am7 b b' && Am7 e e' && Am7 sz dj && Am7 n n' && UN xs iD && decide (cx=cx') | _=>false)
 | .ro b xs,y=>(match y with | .ro b' iD=>Am7 b b' && UN xs iD | _=>false)
 | .loop b st p,y=>(match y with | .loop b' ni p'=>Am7 b b' && decide (st=ni) && AkY p p' | _=>false)
 | .mark b,y=>(match y with | .mark b'=>Am7 b b' | _=>false)
 | .mp b es ck,y=>(match y with | .mp b' es' ck'=>Am7 b b' && Agr es es' && Am7 ck ck' | _=>false)
theorem AfY{x y:AI}(h:aeq x y=true):x=y:=by
 cases x <;> cases y <;> first
  | (simp [aeq] at h;done)
  | (simp only [aeq,Ana,decide_eq_true_eq] at h;first
    | (rw [Anb h.1.1,JG _ h.1.2,Anb h.2])
    | (rw [Anb h.1.1.1.1.1,Anb h.1.1.1.1.2,Anb h.1.1.1.2,Anb h.1.1.2,JG _ h.1.2,h.2])
    | (rw [Anb h.1,JG _ h.2])
    | (rw [Anb h.1.1,h.1.2,Aje h.2])
    | (rw [Anb h.1.1,Adb h.1.2,Anb h.2])
    | (rw [Anb h]))
def Ajh(x:AI):List AI->Option (List AI)
 | []=>none
 | y :: ys=>bif aeq x y then some ys else match Ajh x ys with
  | some l=>some (y :: l)
  | none=>none
theorem Ww{x:AI}:∀ {l m:List AI},Ajh x l=some m->l.Perm (x :: m)
 | [],_,h=>by cases h
 | y :: ys,m,h=>by
  unfold Ajh at h;cases hb:aeq x y with
  | true =>
   rw [hb] at h;simp only [cond_true,An8] at h;subst h;rw [AfY hb]
  | false =>
   rw [hb] at h;simp only [cond_false] at h;split at h
   ·rename_i l hl;cases h;exact ((Ww hl).cons y).trans (List.Perm.swap x y l)
   ·cases h
def Wo:List AI->List AI->Bool
 | [],l=>l.isEmpty
 | x :: xs,l=>match Ajh x l with
  | some m=>Wo xs m
  | none=>false
theorem Uo:∀ {a b:List AI},Wo a b=true->b.Perm a
 | [],b,h=>by simp only [Wo,Aof] at h;subst h;exact List.Perm.refl _
 | x :: xs,b,h=>by
  unfold Wo at h;split at h
  ·rename_i m hm;exact (Ww hm).trans ((Uo h).cons x)
  ·cases h
theorem Ah7{a b:List AI}(h:a.Perm b):∀ {L:List It},HR g a L->∃ L',HR g b L'/\L.Perm L':=by
 induction h with
 | nil=>intro L h;exact⟨L,h,List.Perm.refl _⟩
 | cons x _ ih =>
  intro L h;cases L with
  | nil=>exact h.elim
  | cons y ys =>
   obtain⟨L',h1,h2⟩:=ih h.2;exact⟨y :: L',⟨h.1,h1⟩,h2.cons y⟩
 | swap x y l =>
  intro L h;cases L with
  | nil=>exact h.elim
  | cons z zs =>
   obtain⟨h1,h2⟩:=h;cases zs with
   | nil=>exact h2.elim
   | cons u us=>exact⟨u :: z :: us,⟨h2.1,h1,h2.2⟩,List.Perm.swap u z us⟩
 | trans _ _ ih1 ih2 =>
  intro L h;obtain⟨L1,h1,h2⟩:=ih1 h;obtain⟨L2,h3,h4⟩:=ih2 h1;exact⟨L2,h3,h2.trans h4⟩
theorem SQ.perm{a b:List AI}(hS:SQ g w0 w b)(h:Wo a b=true):SQ g w0 w a:=by
 obtain⟨L,h1,h2⟩:=hS;obtain⟨L',h3,h4⟩:=Ah7 (Uo h) h1;exact⟨L',h3,h2.perm h4⟩
def Oo:Ft->Ft->Bool
 | .l,_=>true
 | .n v a b,.l=>v.isNone && Oo a .l && Oo b .l
 | .n v a b,.n v' a' b'=>(match v,v' with
  | none,_=>true
  | some u,some w=>Pr u w
  | _,_=>false) && Oo a a' && Oo b b'
theorem Iu:∀ {a b:Ft},Oo a b=true->∀ {i:Nat} {v:Value},JW a i=some v->JW b i=some v
 | .l,_,_,_,_,h=>by cases h
 | .n u a b,.l,hs,i,v,h=>by
  simp only [Oo,Ana,Option.isNone_iff_eq_none] at hs;simp only [JW] at h;cases hj:Am7 i 0 with
  | true=>simp only [hj,cond_true,hs.1.1] at h;cases h
  | false =>
   simp only [hj,cond_false] at h;cases hq:Am7 (i % 2) 1 with
   | true=>simp only [hq,cond_true] at h;have:=Iu hs.1.2 h;cases this
   | false=>simp only [hq,cond_false] at h;have:=Iu hs.2 h;cases this
 | .n u a b,.n u' a' b',hs,i,v,h=>by
  simp only [Oo,Ana] at hs;simp only [JW] at h ⊢;cases hj:Am7 i 0 with
  | true =>
   simp only [hj,cond_true] at h ⊢;subst h;have:=hs.1.1;cases u' with
   | none=>cases this
   | some w=>simp only at this;rw [UO _ this]
  | false =>
   simp only [hj,cond_false] at h ⊢;cases hq:Am7 (i % 2) 1 with
   | true=>simp only [hq,cond_true] at h ⊢;exact Iu hs.1.2 h
   | false=>simp only [hq,cond_false] at h ⊢;exact Iu hs.2 h
theorem FR.sub{a b:Ft}{frc:Fr}(hb:FR g b frc)(h:Oo a b=true):FR g a frc:=λ i v hv=>hb i v (Iu h hv)
end
end Go.Dn
set_option linter.unusedVariables false
set_option maxRecDepth 100000
namespace Go.Dn
open _root_.Array renaming getD_eq_getD_getElem? -> Aoh
open _root_.Nat renaming succ -> Aog
def Ev:List Bool->Nat
 | []=>0
 | b :: r=>bif b then Aog (Nat.mul 2 (Ev r)) else Nat.mul 2 (Ev r)
theorem Ud:∀(l:List Bool) (j:Nat),(Ev l).testBit j=l.getD j false
 | [],j=>by simp [Ev]
 | b :: r,0=>by
  have e:Ev (b :: r)=2*Ev r+b.toNat:=by cases b <;> rfl
  rw [e,Nat.testBit_zero];cases b <;> simp <;> omega
 | b :: r,j+1=>by
  have e:Ev (b :: r)=2*Ev r+b.toNat:=by cases b <;> rfl
  rw [e,Nat.testBit_succ,List.getD_cons_succ,<- Ud r j];congr 1;cases b <;> simp <;> omega
def Aav(mask:Nat):Nat->List Oper->List Bool->List Nat
 | i,o :: os,b :: bs=>bif b then Aav mask (Aog i) os bs else bif o.after.toList.all λ e=>!Region.binds .any e || mask.testBit e.on then i :: Aav mask (Aog i) os bs else Aav mask (Aog i) os bs
 | _,_,_=>[]
def Ae3(ops:Array Oper)(listed:Array Bool):List Nat:=Aav (Ev listed.toList) 0 ops.toList listed.toList
theorem SA(ops:Array Oper)(listed:Array Bool):Ae3 ops listed=Region.ready .any ops listed:=by
 have key:∀(os:List Oper) (bs:List Bool) (i:Nat),ops.toList.drop i=os->listed.toList.drop i=bs ->
   Aav (Ev listed.toList) i os bs=(List.range' i os.length).filter λ i=>!listed.getD i true && ((ops[i]?).map (·.after.all λ e=>!Region.binds .any e || listed.getD e.on false)).getD false:=by
  intro os
  induction os with
  | nil=>intro bs i _ _;cases bs <;> rfl
  | cons o os ih =>
   intro bs i ho hb;have nK:ops[i]?=some o:=by
    have:(ops.toList.drop i)[0]?=some o:=by rw [ho];rfl
    simpa using this
   have yC:ops.toList.drop (i+1)=os:=by rw [<- List.drop_drop,ho];rfl
   cases bs with
   | nil =>
    have hle:listed.size<=i:=by
     have:=congrArg List.length hb;simp only [List.length_drop,List.length_nil,Array.length_toList] at this;omega
    show ([]:List Nat)=_;symm;rw [List.filter_eq_nil_iff];intro j hj;have cC:i<=j:=(List.mem_range'_1.1 hj).1;have:listed[j]?=none:=Array.getElem?_eq_none (by omega);simp [Aoh,this]
   | cons b bs =>
    have xb:listed[i]?=some b:=by
     have:(listed.toList.drop i)[0]?=some b:=by rw [hb];rfl
     simpa using this
    have jx:listed.toList.drop (i+1)=bs:=by rw [<- List.drop_drop,hb];rfl
    have h1:=ih bs (i+1) yC jx;rw [List.length_cons,List.range'_succ,List.filter_cons];have ha:(o.after.toList.all λ e=>!Region.binds .any e || (Ev listed.toList).testBit e.on)=(o.after.all λ e=>!Region.binds .any e || listed.getD e.on false):=by
     rw [<- Array.all_toList];congr 1;funext e;rw [Ud];simp [Aoh,List.getD_eq_getElem?_getD]
    show (bif b then Aav (Ev listed.toList) (i+1) os bs else bif o.after.toList.all λ e=>!Region.binds .any e || (Ev listed.toList).testBit e.on then i :: Aav (Ev listed.toList) (i+1) os bs else Aav (Ev listed.toList) (i+1) os bs)=_;rw [ha,h1];have e1:listed.getD i true=b:=by simp [Aoh,xb]
    rw [e1];cases b with
    | true=>simp
    | false =>
     cases hc:(o.after.all λ e=>!Region.binds .any e || listed.getD e.on false) with
     | true=>simp only [nK,Option.map_some,Option.getD_some,hc,cond_false,cond_true,Bool.not_false,Bool.and_self,if_true]
     | false=>simp only [nK,Option.map_some,Option.getD_some,hc,cond_false,Bool.not_false,Bool.and_false,Bool.false_eq_true,if_false]
 unfold Ae3 Region.ready;rw [key ops.toList listed.toList 0 rfl rfl,List.range_eq_range',Array.length_toList]
end Go.Dn
set_option linter.unusedVariables false
set_option maxRecDepth 100000
namespace Go.Dn
open _root_.Nat renaming le_refl -> AnD
open _root_.Option.some renaming injEq -> An8
open _root_.Prod.mk renaming injEq -> AnO
open Go.RowKit (Below)
section
variable {P:Program}{g:Sg}{w0 w:World}
def AjU(a b:Ft × Nat × List AI):Bool:=Oo a.1 b.1 && Nat.beq a.2.1 b.2.1 && Wo a.2.2 b.2.2
noncomputable def Gq (P:Program) (G:GT) (X:XF) (n:Nat) (ops:Array Oper) (Y:YT) (base:Nat):Nat->List Nat->Array Bool->List (Nat × Hu)->Ft->Nat->List AI->Option (Ft × Nat × List AI)
 | 0,_,listed,_,fr,nx,H=>bif (Ae3 ops listed).isEmpty then some (fr,nx,H) else none
 | f+1,used,listed,held,fr,nx,H =>
  match Ae3 ops listed with
  | []=>some (fr,nx,H)
  | i0 :: rs =>
   match (i0 :: rs).find? (Q2 P ops .pure) with
   | some i=>(match ops[i]? with
    | some o=>bif Region.free .any ops listed i then
      F7 ops o fr (λ fr=>match eP P (eO fr) o with
       | some v=>Gq P G X n ops Y base f used (listed.setIfInBounds i true) held (GS n fr o.dst v) nx H
       | none=>none) (λ fr=>Gq P G X n ops Y base f used (listed.setIfInBounds i true) held (GS n fr o.dst undef) nx H) else none
    | none=>none)
   | none =>
    match (i0 :: rs).find? (Q2 P ops .read) with
    | some i=>(match ops[i]? with
     | some o=>bif Region.free .any ops listed i then
       F7 ops o fr (λ fr=>match o.op with
        | .load t a=>(match QR P G H t (eO fr a) with
         | some (v,hd)=>Gq P G X n ops Y base f used (listed.setIfInBounds i true) ((i,hd) :: held) (GS n fr o.dst v) nx H
         | none=>none)
        | _=>none) (λ fr=>Gq P G X n ops Y base f used (listed.setIfInBounds i true) held (GS n fr o.dst undef) nx H) else none
     | none=>none)
    | none =>
     let one:=λ j=>match ops[j]? with
      | some o=>bif KH o then
        F7 ops o fr (λ fr=>match VW P X (eO fr) o Y ⟨nx,H⟩ with
         | some (v,S')=>bif HF G S'.H (AE ops j) held then Gq P G X n ops Y base f used (listed.setIfInBounds j true) (held.filter λ s=>!(AE ops j).contains s.1) (GS n fr o.dst v) S'.nx S'.H else none
         | none=>none) (λ fr=>Gq P G X n ops Y base f used (listed.setIfInBounds j true) (held.filter λ s=>!(AE ops j).contains s.1) (GS n fr o.dst undef) nx H)
       else bif used.contains j then none else
        F7 ops o fr (λ fr=>match AbC P G (eO fr) o ⟨base+j,H⟩ with
         | some (v,S')=>bif HF G S'.H (AE ops j) held then Gq P G X n ops Y base f (j :: used) (listed.setIfInBounds j true) (held.filter λ s=>!(AE ops j).contains s.1) (GS n fr o.dst v) nx S'.H else none
         | none=>none) (λ fr=>Gq P G X n ops Y base f (j :: used) (listed.setIfInBounds j true) (held.filter λ s=>!(AE ops j).contains s.1) (GS n fr o.dst undef) nx H)
      | none=>none
     match one i0 with
     | some r=>bif rs.all λ j=>match one j with
       | some r'=>AjU r r'
       | none=>false then some r else none
     | none=>none
theorem AcY{f:Nat->Prop}:∀ {l:List Nat},(∀ i∈l,f i)->Af0 l f
 | [],_=>trivial
 | [i],h=>h i (by simp)
 | i :: j :: r,h=>⟨h i (by simp),AcY (l:=j :: r) λ k hk=>h k (by simp at hk ⊢;exact .inr hk)⟩
def SL(base sz nx:Nat)(used:List Nat)(g:Sg):Prop:=(∀ j,j<sz->j∉used->g (base+j)=none)/\(∀ i,nx<=i->g i=none)/\base+sz<=nx
theorem Ext.low{n m b:Nat}{g g':Sg}(h:Ext n m g g')(hb:b<=n):Ext b b g g':=⟨h.1,λ i hi=>h.2.1 i (Nat.lt_of_lt_of_le hi hb),AnD _⟩
theorem SL.act{base sz nx j:Nat}{used:List Nat}{g g':Sg}(h:SL base sz nx used g)(hj:j<sz)(hu:j∉used)(hg:g'=g\/∃ s,g'=up g (base+j) s):SL base sz nx (j :: used) g'/\Ext base base g g':=by
 obtain⟨h1,h2,h3⟩:=h;rcases hg with rfl | ⟨s,rfl⟩
 ·exact⟨⟨λ i hi hn=>h1 i hi (λ h=>hn (List.mem_cons_of_mem _ h)),h2,h3⟩,Ext.refl _ _⟩
 ·refine⟨⟨λ i hi hn=>?_,λ i hi=>?_,h3⟩,Le.up (h1 j hj hu) s,λ i hi=>?_,AnD _⟩
  ·unfold up;rw [if_neg (λ h=>hn (by rw [show i=j by omega];exact List.mem_cons_self))];exact h1 i hi (λ h=>hn (List.mem_cons_of_mem _ h))
  ·unfold up;rw [if_neg (by omega)];exact h2 i hi
  ·unfold up;rw [if_neg (by omega)]
theorem EW{G:GT}{X:XF}(hX:XOK P G X)(hG:Ka G w0){n:Nat}{ops:Array Oper}{Y:YT}{base:Nat}:∀(f:Nat) {used:List Nat} {listed:Array Bool} {held:List (Nat × Hu)} {heldc:List (Nat × DZ)} {fr aI:Ft} {frc:Fr} {nx kW:Nat} {H H':List AI} {g:Sg} {w:World},
  Gq P G X n ops Y base f used listed held fr nx H=some (aI,kW,H')->SQ g w0 w H->SL base ops.size nx used g->FR g fr frc->HD g held heldc->WV g Y->∀ {K:Fr->World->Prop},
  (∀ g' bO w',Ext base kW g g'->FR g' aI bO->SX g' w0 w' ⟨kW,H'⟩->K bO w')->Ec P none n ops f listed heldc frc K w
 | 0,used,listed,held,heldc,fr,aI,frc,nx,kW,H,H',g,w,he,hS,hu,aO,hh,hY,K,hK=>by
  unfold Gq at he;rw [SA] at he;unfold Ec;have h1:=(AN he).1
  replace he:=(AN he).2
  simp only [An8,AnO] at he;obtain⟨rfl,rfl,rfl⟩:=he;rw [h1];exact hK g frc w ⟨Le.refl _,λ _ _=>rfl,by have:=hu.2.2;omega⟩ aO ⟨hu.2.1,hS⟩
 | f+1,used,listed,held,heldc,fr,aI,frc,nx,kW,H,H',g,w,he,hS,hu,aO,hh,hY,K,hK=>by
  unfold Gq at he;rw [SA] at he;unfold Ec;split at he
  ·rename_i hr;simp only [hr];simp only [An8,AnO] at he;obtain⟨rfl,rfl,rfl⟩:=he;exact hK g frc w ⟨Le.refl _,λ _ _=>rfl,by have:=hu.2.2;omega⟩ aO ⟨hu.2.1,hS⟩
  ·rename_i i0 rs hr;simp only [hr];split at he
   ·rename_i i hf;simp only [hf];split at he
    ·rename_i o ho;simp only [ho];have h1:=(AN he).1
     replace he:=(AN he).2
     rw [h1,cond_true];refine EC he aO (λ a a' ha hA=>?_) (λ a a' ha hB=>?_)
     ·split at hA
      ·rename_i v hv;exact Ago (RG ha) hv λ c hc=>EW hX hG f hA hS hu (ha.put _ hc) hh hY hK
      ·cases hA
     ·exact EW hX hG f hB hS hu (ha.put _ (by simp [undef,R,RA,RL])) hh hY hK
    ·cases he
   ·rename_i hf;simp only [hf];split at he
    ·rename_i i iJ;simp only [iJ];split at he
     ·rename_i o ho;simp only [ho];have h1:=(AN he).1
      replace he:=(AN he).2
      rw [h1,cond_true];refine EC he aO (λ a a' ha hA=>?_) (λ a a' ha hB=>?_)
      ·split at hA
       ·rename_i t x nM;simp only [nM];split at hA
        ·rename_i v hd hl;exact Oh (S:=⟨0,H⟩) hG hS (RG ha) hl λ c hc gC cD=>EW hX hG f (heldc:=(i,hc) :: heldc) hA hS hu (ha.put _ gC) ⟨rfl,cD,hh⟩ hY hK
        ·cases hA
       ·cases hA
      ·exact EW hX hG f hB hS hu (ha.put _ (by simp [undef,R,RA,RL])) hh hY hK
     ·cases he
    ·rename_i iJ;simp only [iJ];have one:∀(j:Nat) (r:Ft × Nat × List AI),(match ops[j]? with
       | some o=>bif KH o then
         F7 ops o fr (λ fr=>match VW P X (eO fr) o Y ⟨nx,H⟩ with
          | some (v,S')=>bif HF G S'.H (AE ops j) held then Gq P G X n ops Y base f used (listed.setIfInBounds j true) (held.filter λ s=>!(AE ops j).contains s.1) (GS n fr o.dst v) S'.nx S'.H else none
          | none=>none) (λ fr=>Gq P G X n ops Y base f used (listed.setIfInBounds j true) (held.filter λ s=>!(AE ops j).contains s.1) (GS n fr o.dst undef) nx H)
        else bif used.contains j then none else
         F7 ops o fr (λ fr=>match AbC P G (eO fr) o ⟨base+j,H⟩ with
          | some (v,S')=>bif HF G S'.H (AE ops j) held then Gq P G X n ops Y base f (j :: used) (listed.setIfInBounds j true) (held.filter λ s=>!(AE ops j).contains s.1) (GS n fr o.dst v) nx S'.H else none
          | none=>none) (λ fr=>Gq P G X n ops Y base f (j :: used) (listed.setIfInBounds j true) (held.filter λ s=>!(AE ops j).contains s.1) (GS n fr o.dst undef) nx H)
       | none=>none)=some r->(∀ g' bO w',Ext base r.2.1 g g'->FR g' r.1 bO->SX g' w0 w' ⟨r.2.1,r.2.2⟩->K bO w') ->
       (match ops[j]? with
       | some o =>
        Jf ops o frc (λ fr=>MA P none (EY fr) o (λ v w' =>
          stands (AE ops j) heldc w' (Ec P none n ops f (listed.setIfInBounds j true) (Dn.kept (AE ops j) heldc) (put n fr o.dst v) K w')) w)
         (λ fr=>Ec P none n ops f (listed.setIfInBounds j true) (Dn.kept (AE ops j) heldc) (put n fr o.dst undef) K w)
       | none=>False):=by
      intro j r h0 oG;obtain⟨fH,nx1,H1⟩:=r;split at h0
      ·rename_i o ho
       try simp only [ho]
       have rA:j<ops.size:=(Array.getElem?_eq_some_iff.1 ho).1;cases bn:KH o with
       | true =>
        rw [bn,cond_true] at h0;refine EC h0 aO (λ a a' ha hA=>?_) (λ a a' ha hB=>?_)
        ·split at hA
         ·rename_i v S2 gY;have h1:=(AN hA).1
          replace hA:=(AN hA).2
          refine Zl hX hG (RG ha) gY ⟨hu.2.1,hS⟩ hY λ g2 c w2 q1 q2 q3=>?_;refine I7 (S:=S2) hG q3.2 ?_ (hh.le q1.1) h1;have j7:SL base ops.size S2.nx used g2:=by
           have h3:=hu.2.2;have h4:=q1.2.2;simp only at h4;refine⟨λ i hi hn=>?_,q3.1,by omega⟩;rw [q1.2.1 (base+i) (by simp only;omega)];exact hu.1 i hi hn
          exact EW hX hG f hA q3.2 j7 ((ha.le q1.1).put _ q2) ((hh.le q1.1).kept) (hY.le q1.1) λ g3 eS w3 p1 p2 p3=>oG g3 eS w3 ((q1.low (by have:=hu.2.2;simp only;omega)).trans p1) p2 p3
         ·cases hA
        ·exact EW hX hG f hB hS hu (ha.put _ (by simp [undef,R,RA,RL])) hh.kept hY oG
       | false =>
        rw [bn,cond_false] at h0;cases hc:used.contains j with
        | true=>rw [hc,cond_true] at h0;cases h0
        | false =>
         rw [hc,cond_false] at h0;have rB:j∉used:=by simpa using hc
         refine EC h0 aO (λ a a' ha hA=>?_) (λ a a' ha hB=>?_)
         ·split at hA
          ·rename_i v S2 gY;have h1:=(AN hA).1
           replace hA:=(AN hA).2
           refine Ac5 hG (RG ha) gY ⟨hu.1 j rA rB,hS⟩ λ g2 c w2 q1 q2 q3=>?_;obtain⟨m1,m2⟩:=hu.act rA rB q1;refine I7 (S:=S2) hG q3 ?_ (hh.le m2.1) h1;exact EW hX hG f hA q3 m1 ((ha.le m2.1).put _ q2) ((hh.le m2.1).kept) (hY.le m2.1) λ g3 eS w3 p1 p2 p3=>oG g3 eS w3 (m2.trans p1) p2 p3
          ·cases hA
         ·exact EW hX hG f hB hS (hu.act rA rB (.inl rfl)).1 (ha.put _ (by simp [undef,R,RA,RL])) hh.kept hY oG
      ·cases h0
     simp only at he;split at he
     ·rename_i r nO;have h1:=(AN he).1
      replace he:=(AN he).2
      simp only [An8] at he;subst he;refine AcY λ j hj=>?_;rcases List.mem_cons.1 hj with rfl | hj
      ·exact one j _ nO hK
      ·have h2:=List.all_eq_true.1 h1 j hj;split at h2
       ·rename_i r' bK;refine one j r' bK λ g' bO w' q1 q2 q3=>?_;simp only [AjU,Bool.and_eq_true] at h2;have iL:=Nat.eq_of_beq_eq_true h2.1.2;rw [<- iL] at q1 q3;exact hK g' bO w' q1 (q2.sub h2.1.1) ⟨q3.1,q3.2.perm h2.2⟩
       ·cases h2
     ·cases he
end
section
variable {P:Program}{g:Sg}{w0 w:World}
noncomputable def MD (P:Program) (G:GT) (X:XF) (n:Nat) (ops:Array Oper) (Y:YT):Nat->Array Bool->List (Nat × Hu)->Ft->AS->Option (Ft × AS)
 | 0,listed,_,fr,S=>bif (Ae3 ops listed).isEmpty then some (fr,S) else none
 | f+1,listed,held,fr,S =>
  match Ae3 ops listed with
  | []=>some (fr,S)
  | i0 :: rs =>
   match (i0 :: rs).find? (Q2 P ops .pure) with
   | some i=>(match ops[i]? with
    | some o=>bif Region.free .any ops listed i then
      F7 ops o fr (λ fr=>match eP P (eO fr) o with
       | some v=>MD P G X n ops Y f (listed.setIfInBounds i true) held (GS n fr o.dst v) S
       | none=>none) (λ fr=>MD P G X n ops Y f (listed.setIfInBounds i true) held (GS n fr o.dst undef) S) else none
    | none=>none)
   | none =>
    match (i0 :: rs).find? (Q2 P ops .read) with
    | some i=>(match ops[i]? with
     | some o=>bif Region.free .any ops listed i then
       F7 ops o fr (λ fr=>match o.op with
        | .load t a=>(match QR P G S.H t (eO fr a) with
         | some (v,hd)=>MD P G X n ops Y f (listed.setIfInBounds i true) ((i,hd) :: held) (GS n fr o.dst v) S
         | none=>none)
        | _=>none) (λ fr=>MD P G X n ops Y f (listed.setIfInBounds i true) held (GS n fr o.dst undef) S) else none
     | none=>none)
    | none =>
     match rs with
     | []=>(match ops[i0]? with
      | some o =>
        F7 ops o fr (λ fr=>match QS P G X (eO fr) o Y S with
         | some (v,S')=>bif HF G S'.H (AE ops i0) held then MD P G X n ops Y f (listed.setIfInBounds i0 true) (held.filter λ s=>!(AE ops i0).contains s.1) (GS n fr o.dst v) S' else none
         | none=>none) (λ fr=>MD P G X n ops Y f (listed.setIfInBounds i0 true) (held.filter λ s=>!(AE ops i0).contains s.1) (GS n fr o.dst undef) S)
      | none=>none)
     | _ :: _=>(match Gq P G X n ops Y S.nx (f+1) [] listed held fr (S.nx+ops.size) S.H with
      | some (aI,kW,H')=>some (aI,⟨kW,H'⟩)
      | none=>none)
theorem GR{G:GT}{X:XF}(hX:XOK P G X)(hG:Ka G w0){n:Nat}{ops:Array Oper}{Y:YT}:∀(f:Nat) {listed:Array Bool} {held:List (Nat × Hu)} {heldc:List (Nat × DZ)} {fr aI:Ft} {frc:Fr} {S S':AS} {g:Sg} {w:World},
  MD P G X n ops Y f listed held fr S=some (aI,S')->SX g w0 w S->FR g fr frc->HD g held heldc->WV g Y->∀ {K:Fr->World->Prop},
  (∀ g' bO w',Ext S.nx S'.nx g g'->FR g' aI bO->SX g' w0 w' S'->K bO w')->Ec P none n ops f listed heldc frc K w
 | 0,listed,held,heldc,fr,aI,frc,S,S',g,w,he,hS,aO,hh,hY,K,hK=>by
  unfold MD at he;rw [SA] at he;unfold Ec;have h1:=(AN he).1
  replace he:=(AN he).2
  simp only [An8,AnO] at he;obtain⟨rfl,rfl⟩:=he;rw [h1];exact hK g frc w (Ext.refl _ _) aO hS
 | f+1,listed,held,heldc,fr,aI,frc,S,S',g,w,he,hS,aO,hh,hY,K,hK=>by
  unfold MD at he;rw [SA] at he;split at he
  ·rename_i hr;unfold Ec;simp only [hr];simp only [An8,AnO] at he;obtain⟨rfl,rfl⟩:=he;exact hK g frc w (Ext.refl _ _) aO hS
  ·rename_i i0 rs hr;split at he
   ·rename_i i hf;unfold Ec;simp only [hr,hf];split at he
    ·rename_i o ho;simp only [ho];have h1:=(AN he).1
     replace he:=(AN he).2
     rw [h1,cond_true];refine EC he aO (λ a a' ha hA=>?_) (λ a a' ha hB=>?_)
     ·split at hA
      ·rename_i v hv;exact Ago (RG ha) hv λ c hc=>GR hX hG f hA hS (ha.put _ hc) hh hY hK
      ·cases hA
     ·exact GR hX hG f hB hS (ha.put _ (by simp [undef,R,RA,RL])) hh hY hK
    ·cases he
   ·rename_i hf;split at he
    ·rename_i i iJ;unfold Ec;simp only [hr,hf,iJ];split at he
     ·rename_i o ho;simp only [ho];have h1:=(AN he).1
      replace he:=(AN he).2
      rw [h1,cond_true];refine EC he aO (λ a a' ha hA=>?_) (λ a a' ha hB=>?_)
      ·split at hA
       ·rename_i t x nM;simp only [nM];split at hA
        ·rename_i v hd hl;exact Oh hG hS.2 (RG ha) hl λ c hc gC cD=>GR hX hG f (heldc:=(i,hc) :: heldc) hA hS (ha.put _ gC) ⟨rfl,cD,hh⟩ hY hK
        ·cases hA
       ·cases hA
      ·exact GR hX hG f hB hS (ha.put _ (by simp [undef,R,RA,RL])) hh hY hK
     ·cases he
    ·rename_i iJ;split at he
     ·unfold Ec;simp only [hr,hf,iJ,Af0];split at he
      ·rename_i o ho;simp only [ho];refine EC he aO (λ a a' ha hA=>?_) (λ a a' ha hB=>?_)
       ·split at hA
        ·rename_i v S2 gY;have h1:=(AN hA).1
         replace hA:=(AN hA).2
         refine Zo hX hG (RG ha) gY hS hY λ g2 c w2 q1 q2 q3=>?_;refine I7 (S:=S2) hG q3.2 ?_ (hh.le q1.1) h1;exact GR hX hG f hA q3 ((ha.le q1.1).put _ q2) ((hh.le q1.1).kept) (hY.le q1.1) λ g3 eS w3 p1 p2 p3=>hK g3 eS w3 (q1.trans p1) p2 p3
        ·cases hA
       ·exact GR hX hG f hB hS (ha.put _ (by simp [undef,R,RA,RL])) hh.kept hY hK
      ·cases he
     ·split at he
      ·rename_i fI nx2 H2 hs;simp only [An8,AnO] at he;obtain⟨rfl,rfl⟩:=he;exact EW hX hG (f+1) hs hS.2 ⟨λ j _ _=>hS.1 _ (Nat.le_add_right _ _),λ i hi=>hS.1 i (by omega),AnD _⟩ aO hh hY hK
      ·cases he
noncomputable def Xk (P:Program) (G:GT) (X:XF) (n:Nat) (ops:Array Oper) (draw:Bool) (Y:YT) (fr:Ft) (S:AS):Option (Ft × AS) :=
 match draw with
 | false=>Aep P G X n ops Y ops.toList fr S
 | true=>bif Region.noSelect ops then MD P G X n ops Y ops.size (Array.replicate ops.size false) [] fr S else none
theorem AbK{G:GT}{X:XF}(hX:XOK P G X)(hG:Ka G w0){n id:Nat}{ops:Array Oper}{draw:Bool}{Y:YT}{fr aI:Ft}{frc:Fr}{S S':AS}(he:Xk P G X n ops draw Y fr S=some (aI,S'))(hS:SX g w0 w S)(aO:FR g fr frc)(hY:WV g Y){rd:Option Nat}{ms:List Nat}{K:Exit->Fr->List Nat->World->Prop}
  (hK:∀ g' bO w',Ext S.nx S'.nx g g'->FR g' aI bO->SX g' w0 w' S'->K .normal bO ms w'):den P n [] [] (.region id ops draw) rd K frc ms w:=by
 cases draw with
 | false =>
  show Abz P none n ops ops.toList frc (λ aI w'=>K .normal aI ms w') w;exact Xj hX hG he hS aO hY hK
 | true =>
  unfold den;simp only [Xk] at he;have h1:=(AN he).1
  replace he:=(AN he).2
  rw [h1,cond_true];obtain⟨hn,L,hL,hT⟩:=hS;refine hT.draw λ w' _ eE=>?_;show Ec P none n ops ops.size (Array.replicate ops.size false) [] frc (λ aI au=>K .normal aI ms au) w';exact GR hX hG _ he ⟨hn,L,hL,eE⟩ aO rfl hY hK
end
abbrev CR:=Exit × Ft × List Nat × AS
def Adt(F:Ft->List Nat->AS->Option CR):Nat->Ft->List Nat->AS->Option CR
 | 0,_,_,_=>none
 | k+1,fr,ms,S=>match F fr ms S with
  | some (.normal,fr,ms,S)=>Adt F k fr ms S
  | r=>r
def Air(l:Nat)(fr:Ft)(ms:List Nat)(S:AS):Option CR :=
 match UW l S.H 0 with
 | some (j,.loop b st p)=>(match st,p with
  | .ready,none=>some (.normal,fr,ms,⟨S.nx,S.H.set j (.loop b .exhausted none)⟩)
  | .done,some .ret=>some (.ret,fr,ms,⟨S.nx,S.H.set j (.loop b .exhausted (some .ret))⟩)
  | .done,some (.exit i)=>some (.exit i,fr,ms,⟨S.nx,S.H.set j (.loop b .exhausted (some (.exit i)))⟩)
  | _,_=>none)
 | _=>none
def Ab0(H:List AI)(l:Nat):Bool :=
 match UW l H 0 with
 | some (_,.loop _ _ _)=>true
 | _=>false
noncomputable def AbJ (P:Program) (X:XF) (n:Nat) (gf:Operand) (ps:Array Tmp) (Rx body:Code) (rd:Option Nat) (Y:YT) (fr:Ft) (ms:List Nat) (S:AS):Option CR :=
 match eO fr gf with
 | some (.func (.func f) fi ca)=>bif enters P f && AR Rx then
   (match rd with
   | none=>(match X (.fn f) (fi.toList++[.func (.yield (S.nx+1+Dg)) #[] #[]]++ca.toList) (⟨S.nx+1+Dg,n,ps.toList,Rx,body,fr⟩ :: Y) ⟨S.nx+2,.loop (S.nx+1+Dg) .ready none :: .mark (S.nx+Dg) :: S.H⟩ with
    | some (_,S2)=>Air (S.nx+1+Dg) fr ((S.nx+Dg) :: ms) S2
    | none=>none)
   | some lo=>bif Ab0 S.H lo then (match X (.fn f) (fi.toList++[.func (.yield (S.nx+Dg)) #[] #[]]++ca.toList) (⟨S.nx+Dg,n,ps.toList,Rx,body,fr⟩ :: Y) ⟨S.nx+1,.loop (S.nx+Dg) .ready none :: S.H⟩ with
    | some (_,S2)=>Air (S.nx+Dg) fr ms S2
    | none=>none) else none) else none
 | _=>none
noncomputable def Ej (P:Program) (G:GT) (X:XF) (m n:Nat):Code->Option Nat->YT->Ft->List Nat->AS->Option CR
 | .skip,_,_,fr,ms,S=>some (.normal,fr,ms,S)
 | .label _,_,_,fr,ms,S=>some (.normal,fr,ms,S)
 | .exit id,_,_,fr,ms,S=>some (.exit id,fr,ms,S)
 | .ret,_,_,fr,ms,S=>some (.ret,fr,ms,S)
 | .seq a b,rd,Y,fr,ms,S=>(match Ej P G X m n a rd Y fr ms S with
  | some (.normal,fr,ms,S)=>Ej P G X m n b rd Y fr ms S
  | r=>r)
 | .cond c a b,rd,Y,fr,ms,S=>(match eO fr c with
  | some (.bool true)=>Ej P G X m n a rd Y fr ms S
  | some (.bool false)=>Ej P G X m n b rd Y fr ms S
  | _=>none)
 | .block id c,rd,Y,fr,ms,S=>(match Ej P G X m n c rd Y fr ms S with
  | some (.exit j,fr,ms,S)=>bif Nat.beq j id then some (.normal,fr,ms,S) else some (.exit j,fr,ms,S)
  | r=>r)
 | .loop c,rd,Y,fr,ms,S=>Adt (λ fr ms S=>Ej P G X m n c rd Y fr ms S) m fr ms S
 | .scope c,rd,Y,fr,ms,S=>(match Ej P G X m n c rd Y fr ms S with
  | some (.goto _,_,_,_)=>none
  | r=>r)
 | .region _ ops draw,_,Y,fr,ms,S=>(match Xk P G X n ops draw Y fr S with
  | some (fr,S)=>some (.normal,fr,ms,S)
  | none=>none)
 | .rangeFunc gf ps Rx body,rd,Y,fr,ms,S=>AbJ P X n gf ps Rx body rd Y fr ms S
 | _,_,_,_,_,_=>none
section
variable {P:Program}{g:Sg}{w0 w:World}
def MR(g:Sg):List Nat->List Nat->Prop
 | [],c=>c=[]
 | d :: ds,c=>match c with
  | []=>False
  | e :: es=>bk g d=some e/\MR g ds es
theorem MR.le{g':Sg}(hl:Le g g'):∀ {a b:List Nat},MR g a b->MR g' a b
 | [],_,h=>h
 | _ :: _,[],h=>h.elim
 | _ :: _,_ :: _,h=>⟨KJ hl h.1,MR.le hl h.2⟩
def RDR(g:Sg):Option Nat->Option Nat->Prop
 | none,c=>c=none
 | some l,c=>∃ lc,c=some lc/\bk g l=some lc
theorem RDR.le{g':Sg}(hl:Le g g'):∀ {a b:Option Nat},RDR g a b->RDR g' a b
 | none,_,h=>h
 | some _,_,⟨lc,h1,h2⟩=>⟨lc,h1,KJ hl h2⟩
def CP(n n0:Nat)(g:Sg)(w0:World)(e:Exit)(fr:Ft)(ms:List Nat)(S:AS)(e':Exit)(a:Act)(w:World):Prop :=
 e'=e/\a.tmps.size=n/\∃ g' frc msc,Ext n0 S.nx g g'/\FR g' fr frc/\AO frc a/\MR g' ms msc/\a.defers=marks msc/\SX g' w0 w S
theorem CP.le{n n0 n1:Nat}{g g':Sg}{e:Exit}{fr:Ft}{ms:List Nat}{S:AS}{e':Exit}{a:Act}{w:World}(hl:Ext n0 n1 g g')(h:CP n n1 g' w0 e fr ms S e' a w):CP n n0 g w0 e fr ms S e' a w:=by
 obtain⟨h1,h2,g2,frc,msc,h3,h4⟩:=h;exact⟨h1,h2,g2,frc,msc,hl.trans h3,h4⟩
def COK(P:Program)(n:Nat)(w0:World)(c:Code)(F:Option Nat->YT->Ft->List Nat->AS->Option CR):Prop :=
 ∀(rd:Option Nat) (Y:YT) (fr aI:Ft) (ms aP:List Nat) (S S':AS) (e:Exit),F rd Y fr ms S=some (e,aI,aP,S')->∀(g:Sg) (w:World) (a:Act) (frc:Fr) (msc:List Nat) (rdc:Option Nat) (k:Nat),
  SX g w0 w S->FR g fr frc->AO frc a->a.tmps.size=n->MR g ms msc->a.defers=marks msc->WV g Y->RDR g rd rdc->c.wpIn (FF rdc) k P (CP n S.nx g w0 e aI aP S') a w
theorem COK.go{n:Nat}{c:Code}{F:Option Nat->YT->Ft->List Nat->AS->Option CR}(h:COK P n w0 c F){rd:Option Nat}{Y:YT}{fr aI:Ft}{ms aP:List Nat}{S S':AS}{e:Exit}(he:F rd Y fr ms S=some (e,aI,aP,S')){g:Sg}{w:World}{a:Act}{frc:Fr}{msc:List Nat}{rdc:Option Nat}{k:Nat}
  (hS:SX g w0 w S) (aO:FR g fr frc) (aR:AO frc a) (hn:a.tmps.size=n) (hm:MR g ms msc) (hd:a.defers=marks msc) (hY:WV g Y) (aU:RDR g rd rdc):c.wpIn (FF rdc) k P (CP n S.nx g w0 e aI aP S') a w :=
 h _ _ _ _ _ _ _ _ _ he _ _ _ _ _ _ _ hS aO aR hn hm hd hY aU
theorem MT{F:Fence}{k:Nat}{c:Code}{Q Q':Exit->Act->World->Prop}(hq:∀ e a w,Q e a w->Q' e a w):∀ {m:Nat} {a:Act} {w:World},Code.roundsIn F k P c Q m a w->Code.roundsIn F k P c Q' m a w
 | 0,_,_,h=>h.elim
 | m+1,a,w,h=>by
  rw [roundsIn_succ] at h ⊢;refine wpIn_mono h ?_;intro e a w hh;cases e with
  | normal=>exact MT hq hh
  | _=>exact hq _ _ _ hh
theorem Z4{n:Nat}{c:Code}{F:Option Nat->YT->Ft->List Nat->AS->Option CR}(hF:COK P n w0 c F){rd:Option Nat}{Y:YT}:∀ {m:Nat} {fr aI:Ft} {ms aP:List Nat} {S S':AS} {e:Exit},Adt (λ fr ms S=>F rd Y fr ms S) m fr ms S=some (e,aI,aP,S')->∀ {g:Sg} {w:World} {a:Act} {frc:Fr} {msc:List Nat} {rdc:Option Nat} {k:Nat},
  SX g w0 w S->FR g fr frc->AO frc a->a.tmps.size=n->MR g ms msc->a.defers=marks msc->WV g Y->RDR g rd rdc->Code.roundsIn (FF rdc) k P c (CP n S.nx g w0 e aI aP S') m a w
 | 0,_,_,_,_,_,_,_,h=>by cases h
 | m+1,fr,aI,ms,aP,S,S',e,h=>by
  intro hS aO aR hn hm hd hY aU;rw [roundsIn_succ];unfold Adt at h;split at h
  ·rename_i fH sX S1 h1;refine wpIn_mono (hF.go h1 hS aO aR hn hm hd hY aU) ?_;rintro e2 a2 w2 ⟨rfl,q1,g2,iX,jC,q2,q3,q4,q5,q6,q7⟩;exact MT (λ e a w hh=>hh.le q2) (Z4 hF h q7 q3 q4 q1 q5 q6 (hY.le q2.1) (aU.le q2.1))
  ·rename_i aQ;refine wpIn_mono (hF.go h hS aO aR hn hm hd hY aU) ?_;rintro e2 a2 w2 dS;have:=dS.1;subst this;cases e2 with
   | normal=>exact absurd h (aQ _ _ _)
   | _=>exact dS
theorem Hd{S:AS}(hS:SX g w0 w S){l j b:Nat}{st:LoopState}{p:Option Code}(hf:UW l S.H 0=some (j,.loop b st p)) :
  ∃ s:Nat × Nat × Loop,Jz g l=some s/\bk g l=some s.1/\w.heap[s.1]?=some (.loop { s.2.2 with state:=st,pending:=p }) /\
   ∀ ni p',SX g w0 (w.putObj s.1 (.loop { s.2.2 with state:=ni,pending:=p' })) ⟨S.nx,S.H.set j (.loop b ni p')⟩:=by
 obtain⟨f1,f2⟩:=Xr hf;obtain⟨hn,L,hL,hT⟩:=hS;obtain⟨y,hy,s,s1,s2,rfl⟩:=Kb hL f1;rw [f2] at s1 s2;refine⟨s,s2,Fv s1 s2,hT.get j hy,λ ni p'=>⟨hn,_,IP j hL ⟨s,?_,?_,rfl⟩,hT.put j hy _⟩⟩
 ·have:b=l:=f2;rw [AI.id,this];exact s1
 ·have:b=l:=f2;rw [AI.id,this];exact s2
end
section
variable {P:Program}{g:Sg}{w0 w:World}
theorem WV.cons{y:YE}{Y:YT}(h:WV g Y)(hy:Aic g y):WV g (y :: Y):=λ z hz=>by
 rcases List.mem_cons.1 hz with rfl | hz
 ·exact hy
 ·exact h z hz
theorem AeM{S:AS}(hS:SX g w0 w S){l:Nat}(h:Ab0 S.H l=true):∃ lc ro,bk g l=some lc/\w.heap[lc]?=some (.loop ro):=by
 unfold Ab0 at h;split at h
 ·rename_i j b st p hf;obtain⟨s,_,h2,h3,_⟩:=Hd hS hf;exact⟨_,_,h2,h3⟩
 ·cases h
theorem Ac7{n l:Nat}{fr aI:Ft}{ms aP:List Nat}{S S':AS}{e:Exit}(he:Air l fr ms S=some (e,aI,aP,S'))(hS:SX g w0 w S){a:Act}{frc:Fr}{msc:List Nat}{lc:Nat}(hl:bk g l=some lc)
  (aO:FR g fr frc) (aR:AO frc a) (hn:a.tmps.size=n) (hm:MR g ms msc) (hd:a.defers=marks msc) {F:Fence} {k:Nat}:∀ v,rangePost F k P lc (CP n S.nx g w0 e aI aP S') a (.returned v) w:=by
 intro v;unfold Air at he;split at he
 ·rename_i j b st p hf;obtain⟨s,_,h2,h3,h4⟩:=Hd hS hf;rw [hl] at h2;cases h2;have fin:∀ {e:Exit} {p':Option Code} {w':World},SX g w0 w' ⟨S.nx,S.H.set j (.loop b .exhausted p')⟩->CP n S.nx g w0 e fr ms ⟨S.nx,S.H.set j (.loop b .exhausted p')⟩ e a w':=λ eU=>⟨rfl,hn,g,frc,msc,Ext.refl _ _,aO,aR,hm,hd,eU⟩;split at he
  ·simp only [An8,AnO] at he;obtain⟨rfl,rfl,rfl,rfl⟩:=he;exact⟨_,_,run_endLoop h3 (by simp),fin (h4 .exhausted none)⟩
  ·simp only [An8,AnO] at he;obtain⟨rfl,rfl,rfl,rfl⟩:=he;exact⟨_,_,run_endLoop h3 (by simp),wpIn_ret (fin (h4 .exhausted (some .ret)))⟩
  ·rename_i i;simp only [An8,AnO] at he;obtain⟨rfl,rfl,rfl,rfl⟩:=he;exact⟨_,_,run_endLoop h3 (by simp),wpIn_exit (fin (h4 .exhausted (some (.exit i))))⟩
  ·cases he
 ·cases he
theorem Aeq{G:GT}{X:XF}(hX:XOK P G X)(hG:Ka G w0){n:Nat}{gf:Operand}{ps:Array Tmp}{Rx body:Code}:COK P n w0 (.rangeFunc gf ps Rx body) (AbJ P X n gf ps Rx body):=by
 intro rd Y fr aI ms aP S S' e he g w a frc msc rdc k hS aO aR hn hm hd hY aU;unfold AbJ at he;split at he
 ·rename_i f fi ca xj;obtain⟨c,hc,hr⟩:=RG aO _ _ xj;obtain⟨bX,cG,rfl,gC,cD⟩:=SV hr;have mj:=aR.eval _ _ hc;have bP:=(AN he).1
  replace he:=(AN he).2
  simp only [Bool.and_eq_true] at bP;refine wpIn_rangeFunc λ fn _=>?_;have hinv:∀(l:Nat) (w1:World),(resolve a.eval (rangeCall gf l) 0).run P w1=.ok { target:=.fn (.func f) cG,args:=bX++#[.func (.yield l) #[] #[]] } w1 /\
    (invoke (.fn (.func f) cG) (bX++#[.func (.yield l) #[] #[]])).run P w1=.ok (.enter f ⟨bX.toList++[.func (.yield l) #[] #[]]++cG.toList⟩) w1:=by
   intro l w1;constructor
   ·simp only [resolve,mj,Deferred.ofValue];simp [Act.eval]
   ·have ha:bX++#[.func (.yield l) #[] #[]]++cG=⟨bX.toList++[.func (.yield l) #[] #[]]++cG.toList⟩:=Array.ext' (by simp);simp only [invoke,M4 bP.1,ha]
  obtain⟨iL,L,hL,hT⟩:=id hS;split at he
  ·have rv:rdc=none:=aU;subst rv;split at he
   ·rename_i v0 S2 hx;refine⟨_,_,_,_,_,f,_,_,run_enterLoop_outer _ _ _ _ _,(hinv _ _).1,λ _ _=>trivial,(hinv _ _).2,λ h=>(by cases h),?_⟩;let rr:Loop:={ state:=.ready,pending:=none,fn,tmps:=a.tmps,params:=ps,assign:=Rx,body:=body,defers:=w.heap.size };let g1:=up g S.nx (w.heap.size,0,default);let g2:=up g1 (S.nx+1) (w.heap.size+1,0,rr);have l1:Le g g1:=Le.up (iL _ (AnD _)) _;have n1:g1 (S.nx+1)=none:=by
     show up g S.nx _ (S.nx+1)=none;unfold up;rw [if_neg (by omega)];exact iL _ (by omega)
    have l2:Le g1 g2:=Le.up n1 _;have hl:=l1.trans l2;have iN:Ext S.nx (S.nx+2) g g2:=⟨hl,λ i hi=>by
     show up g1 (S.nx+1) _ i=g i;unfold up;rw [if_neg (by omega)];show up g S.nx _ i=g i;unfold up;rw [if_neg (by omega)],by omega⟩
    have s1:Jz g2 (S.nx+1+Dg)=some (w.heap.size+1,0,rr):=Gh _ _;have s0:Jz g2 (S.nx+Dg)=some (w.heap.size,0,default):=l2.at (Gh _ _);have b1:bk g2 (S.nx+1+Dg)=some (w.heap.size+1):=Fv (DT _) s1;have b0:bk g2 (S.nx+Dg)=some w.heap.size:=Fv (DT _) s0;have jn:SX g2 w0 ((w.alloc (.deferred (some []))).alloc (.loop rr)) ⟨S.nx+2,.loop (S.nx+1+Dg) .ready none :: .mark (S.nx+Dg) :: S.H⟩:=by
     refine⟨λ i hi=>?_,It.obj (w.heap.size+1) (.loop rr) :: It.obj w.heap.size (.deferred (some [])) :: L,⟨⟨_,DT _,s1,rfl⟩,⟨_,DT _,s0,rfl⟩,MH hl hL⟩,hT.range rr⟩;simp only at hi;show up g1 (S.nx+1) _ i=none;unfold up;rw [if_neg (by omega)];show up g S.nx _ i=none;unfold up;rw [if_neg (by omega)];exact iL _ (by omega)
    have hy:Aic g2 ⟨S.nx+1+Dg,n,ps.toList,Rx,body,fr⟩:=⟨_,DT _,s1,rfl,rfl,rfl,hn,frc,aO.le hl,aR⟩;have aj:=hX _ _ _ _ _ _ hx g2 w0 _ (bX.toList++[.func (.yield (w.heap.size+1)) #[] #[]]++cG.toList) jn hG
     (F4 (F4 (GY hl _ gC) (by simp only [RL];exact⟨by simp only [R,RA,RL];exact⟨⟨_,b1,rfl⟩,trivial,trivial⟩,trivial⟩)) (GY hl _ cD))
     ((hY.le hl).cons hy)
    refine CallsIn.mono (F:=FF none) (callsIn_wide.2 aj) ?_;rintro en w3 ⟨c3,g3,rfl,q1,q2,q3⟩;have gm:=hl.trans q1.1;have lF:=iN.trans q1;have key:=Ac7 (P:=P) (n:=n) (F:=FF none) (k:=k) he q3 (a:={ a with defers:=marks [w.heap.size]++a.defers }) (frc:=frc) (msc:=w.heap.size :: msc) (KJ q1.1 b1) (aO.le gm) aR hn ⟨KJ q1.1 b0,hm.le gm⟩ (by simp [marks,hd]) c3;exact rangePost_mono (λ e a w hh=>hh.le lF) key
   ·cases he
  ·rename_i lo;obtain⟨lc,rfl,jU⟩:=aU;have aF:=(AN he).1
   replace he:=(AN he).2
   obtain⟨lc',ro,e1,nR⟩:=AeM hS aF;rw [jU] at e1;cases e1;split at he
   ·rename_i v0 S2 hx;refine⟨_,_,_,_,_,f,_,_,Gs nR _ _ _ _ _,(hinv _ _).1,λ _ _=>trivial,(hinv _ _).2,λ h=>(by cases h),?_⟩;let rr:Loop:={ state:=.ready,pending:=none,fn,tmps:=a.tmps,params:=ps,assign:=Rx,body:=body,defers:=ro.defers };let g1:=up g S.nx (w.heap.size,0,rr);have hl:Le g g1:=Le.up (iL _ (AnD _)) _;have iN:Ext S.nx (S.nx+1) g g1:=⟨hl,λ i hi=>by
     show up g S.nx _ i=g i;unfold up;rw [if_neg (by omega)],by omega⟩
    have s1:Jz g1 (S.nx+Dg)=some (w.heap.size,0,rr):=Gh _ _;have b1:bk g1 (S.nx+Dg)=some w.heap.size:=Fv (DT _) s1;have jn:SX g1 w0 (w.alloc (.loop rr)) ⟨S.nx+1,.loop (S.nx+Dg) .ready none :: S.H⟩:=by
     refine⟨λ i hi=>?_,It.obj w.heap.size (.loop rr) :: L,⟨⟨_,DT _,s1,rfl⟩,MH hl hL⟩,hT.add ((Below.refl _ w).alloc (AnD _) _) _ (heap_alloc_new w _) (λ k hk=>by cases hk;exact AnD _)⟩;simp only at hi;show up g S.nx _ i=none;unfold up;rw [if_neg (by omega)];exact iL _ (by omega)
    have hy:Aic g1 ⟨S.nx+Dg,n,ps.toList,Rx,body,fr⟩:=⟨_,DT _,s1,rfl,rfl,rfl,hn,frc,aO.le hl,aR⟩;have aj:=hX _ _ _ _ _ _ hx g1 w0 _ (bX.toList++[.func (.yield w.heap.size) #[] #[]]++cG.toList) jn hG
     (F4 (F4 (GY hl _ gC) (by simp only [RL];exact⟨by simp only [R,RA,RL];exact⟨⟨_,b1,rfl⟩,trivial,trivial⟩,trivial⟩)) (GY hl _ cD))
     ((hY.le hl).cons hy)
    have cR:=(callsIn_wide (n:=k-1)).2 aj;refine CallsIn.mono (F:=FF (some lc)) ⟨trivial,λ cs _=>cR.2 cs (WN none _)⟩ ?_;rintro en w3 ⟨c3,g3,rfl,q1,q2,q3⟩;have gm:=hl.trans q1.1;have lF:=iN.trans q1;have key:=Ac7 (P:=P) (n:=n) (F:=FF (some lc)) (k:=k) he q3 (a:={ a with defers:=marks []++a.defers }) (frc:=frc) (msc:=msc) (KJ q1.1 b1) (aO.le gm) aR hn (hm.le gm) (by simp [marks,hd]) c3;exact rangePost_mono (λ e a w hh=>hh.le lF) key
   ·cases he
 ·cases he
where
 rangePost_mono {F:Fence} {k l:Nat} {Q Q':Exit->Act->World->Prop} (hq:∀ e a w,Q e a w->Q' e a w) {a:Act} {v:Value} {w:World} (h:rangePost F k P l Q a (.returned v) w):rangePost F k P l Q' a (.returned v) w:=by
  obtain⟨j,w4,h1,h2⟩:=h;refine⟨j,w4,h1,?_⟩;cases j with
  | none=>exact hq _ _ _ h2
  | some c=>exact wpIn_mono h2 hq
theorem Tw(bE:P.follows .mixedOrders=true){G:GT}{X:XF}(hX:XOK P G X)(hG:Ka G w0){m n:Nat}(c:Code):COK P n w0 c (Ej P G X m n c):=by
 induction c with
 | skip =>
  intro rd Y fr aI ms aP S S' e he g w a frc msc rdc k hS aO aR hn hm hd hY aU;simp only [Ej,An8,AnO] at he;obtain⟨rfl,rfl,rfl,rfl⟩:=he;exact wpIn_skip ⟨rfl,hn,g,frc,msc,Ext.refl _ _,aO,aR,hm,hd,hS⟩
 | label l =>
  intro rd Y fr aI ms aP S S' e he g w a frc msc rdc k hS aO aR hn hm hd hY aU;simp only [Ej,An8,AnO] at he;obtain⟨rfl,rfl,rfl,rfl⟩:=he;exact wpIn_label ⟨rfl,hn,g,frc,msc,Ext.refl _ _,aO,aR,hm,hd,hS⟩
 | exit id =>
  intro rd Y fr aI ms aP S S' e he g w a frc msc rdc k hS aO aR hn hm hd hY aU;simp only [Ej,An8,AnO] at he;obtain⟨rfl,rfl,rfl,rfl⟩:=he;exact wpIn_exit ⟨rfl,hn,g,frc,msc,Ext.refl _ _,aO,aR,hm,hd,hS⟩
 | ret =>
  intro rd Y fr aI ms aP S S' e he g w a frc msc rdc k hS aO aR hn hm hd hY aU;simp only [Ej,An8,AnO] at he;obtain⟨rfl,rfl,rfl,rfl⟩:=he;exact wpIn_ret ⟨rfl,hn,g,frc,msc,Ext.refl _ _,aO,aR,hm,hd,hS⟩
 | seq x y ihx ihy =>
  intro rd Y fr aI ms aP S S' e he g w a frc msc rdc k hS aO aR hn hm hd hY aU;simp only [Ej] at he;refine wpIn_seq ?_;split at he
  ·rename_i fH sX S1 h1;refine wpIn_mono (ihx.go h1 hS aO aR hn hm hd hY aU) ?_;rintro e2 a2 w2 ⟨rfl,q1,g2,iX,jC,q2,q3,q4,q5,q6,q7⟩;exact wpIn_mono (ihy.go he q7 q3 q4 q1 q5 q6 (hY.le q2.1) (aU.le q2.1)) λ e a w hh=>hh.le q2
  ·rename_i aQ;refine wpIn_mono (ihx.go he hS aO aR hn hm hd hY aU) ?_;rintro e2 a2 w2 dS;have:=dS.1;subst this;cases e2 with
   | normal=>exact absurd he (aQ _ _ _)
   | _=>exact dS
 | cond c x y ihx ihy =>
  intro rd Y fr aI ms aP S S' e he g w a frc msc rdc k hS aO aR hn hm hd hY aU;simp only [Ej] at he;split at he
  ·rename_i hc;obtain⟨u,hu,hr⟩:=RG aO _ _ hc;simp only [R] at hr;subst hr;exact wpIn_cond_split (aR.eval _ _ hu) (λ _=>ihx.go he hS aO aR hn hm hd hY aU) (λ h=>by cases h)
  ·rename_i hc;obtain⟨u,hu,hr⟩:=RG aO _ _ hc;simp only [R] at hr;subst hr;exact wpIn_cond_split (aR.eval _ _ hu) (λ h=>by cases h) (λ _=>ihy.go he hS aO aR hn hm hd hY aU)
  ·cases he
 | block id c ih =>
  intro rd Y fr aI ms aP S S' e he g w a frc msc rdc k hS aO aR hn hm hd hY aU;simp only [Ej] at he;refine wpIn_block ?_;split at he
  ·rename_i j fH sX S1 h1;refine wpIn_mono (ih.go h1 hS aO aR hn hm hd hY aU) ?_;rintro e2 a2 w2 ⟨rfl,q⟩;simp only [Exit.inBlock];cases hb:Nat.beq j id with
   | true =>
    have dE:j=id:=Nat.eq_of_beq_eq_true hb;rw [hb] at he;simp only [cond_true,An8,AnO] at he;obtain⟨rfl,rfl,rfl,rfl⟩:=he;rw [if_pos dE];exact⟨rfl,q⟩
   | false =>
    have dE:¬ j=id:=λ he=>by subst he;simp at hb
    rw [hb] at he;simp only [cond_false,An8,AnO] at he;obtain⟨rfl,rfl,rfl,rfl⟩:=he;rw [if_neg dE];exact⟨rfl,q⟩
  ·rename_i aQ;refine wpIn_mono (ih.go he hS aO aR hn hm hd hY aU) ?_;rintro e2 a2 w2 dS;have:=dS.1;subst this;cases e2 with
   | exit j=>exact absurd he (aQ _ _ _ _)
   | _=>exact dS
 | loop c ih =>
  intro rd Y fr aI ms aP S S' e he g w a frc msc rdc k hS aO aR hn hm hd hY aU;simp only [Ej] at he;exact wpIn_loop_rounds m (Z4 ih he hS aO aR hn hm hd hY aU)
 | scope c ih =>
  intro rd Y fr aI ms aP S S' e he g w a frc msc rdc k hS aO aR hn hm hd hY aU;simp only [Ej] at he;refine UR ?_;split at he
  ·cases he
  ·rename_i aQ;refine wpIn_mono (ih.go he hS aO aR hn hm hd hY aU) ?_;rintro e2 a2 w2 dS;have:=dS.1;subst this;cases e2 with
   | goto l=>exact absurd he (aQ _ _ _ _)
   | _=>exact dS
 | region id ops draw =>
  intro rd Y fr aI ms aP S S' e he g w a frc msc rdc k hS aO aR hn hm hd hY aU;simp only [Ej] at he;split at he
  ·rename_i fH S1 h1;simp only [An8,AnO] at he;obtain⟨rfl,rfl,rfl,rfl⟩:=he;have cq:=AbK (id:=id) (rd:=rdc) (ms:=msc) hX hG h1 hS aO hY (K:=λ e fr ms w=>e=.normal/\ms=msc/\∃ g',Ext S.nx S1.nx g g'/\FR g' fH fr/\SX g' w0 w S1) (λ g' bO w' q1 q2 q3=>⟨rfl,rfl,g',q1,q2,q3⟩);refine wpIn_mono (VU bE _ rdc k _ frc msc w a aR hn hd cq) ?_;rintro e2 a2 w2 ⟨aA,fI,fY,r1,r2,rfl,rfl,g2,r3,r4,r5⟩;exact⟨rfl,aA.size,g2,fI,fY,r3,r4,r1,hm.le r3.1,r2,r5⟩
  ·cases he
 | rangeFunc gf ps x y ihx ihy=>exact Aeq hX hG
 | goto l=>intro rd Y fr aI ms aP S S' e he;cases he
 | refuse s=>intro rd Y fr aI ms aP S S' e he;cases he
end
end Go.Dn
set_option linter.unusedVariables false
set_option maxRecDepth 100000
namespace Go.Dn
open _root_.Nat renaming beq -> Am7, blt -> Anc
open _root_.Option.some renaming injEq -> An8
open _root_.Prod.mk renaming injEq -> AnO
open Go.RowKit (Below)
/-! ## What is let go of behind a call -/
mutual
def Akz:Value->List Nat->List Nat
 | .pointer p,l=>(match p with | some a=>a.block :: l | none=>l)
 | .slice p _ _,l=>(match p with | some a=>a.block :: l | none=>l)
 | .map p,l=>(match p with | some b=>b :: l | none=>l)
 | .func _ fi ca,l=>AiD fi (AiD ca l)
 | .iface _ v,l=>Akz v l
 | .agg cs,l=>AiD cs l
 | .tuple cs,l=>AiD cs l
 | .chan _,l=>l
 | .bool _,l=>l
 | .int _ _,l=>l
 | .string _,l=>l
 | .float _ _,l=>l
 | .complex _ _ _,l=>l
 | .nilFunc,l=>l
 | .nilIface,l=>l
def AiD:Array Value->List Nat->List Nat
 | ⟨v⟩,l=>AiE v l
def AiE:List Value->List Nat->List Nat
 | [],l=>l
 | v :: vs,l=>Akz v (AiE vs l)
end
def AI.refs:AI->List Value
 | .mp _ es _=>es.map (·.2.1)
 | x=>x.Vv
def AkS(x:Nat):List Nat->Bool
 | []=>false
 | y :: ys=>bif Am7 y x then true else AkS x ys
def reach(H:List AI)(b:Nat):Nat->List Nat->List Nat->List Nat
 | 0,_,seen=>seen
 | _+1,[],seen=>seen
 | f+1,x :: todo,seen=>bif Anc x b || AkS x seen then reach H b f todo seen else
  match UW x H 0 with
  | some (_,i)=>reach H b f (AiE i.refs todo) (x :: seen)
  | none=>reach H b f todo seen
def Acg(b:Nat):List AI->List Nat->List Nat
 | [],l=>l
 | i :: r,l=>bif Anc i.id b then AiE i.refs (Acg b r l) else Acg b r l
def AmQ:AI->Bool
 | .loop _ st _=>!(match st with | .exhausted=>true | _=>false)
 | .mark _=>true
 | _=>false
def gcF(b:Nat)(v:Value)(H:List AI):List AI :=
 let s:=reach H b 100000 (Akz v (Acg b H [])) []
 H.filter λ i=>Anc i.id b || AmQ i || AkS i.id s
section
variable {P:Program}{g:Sg}{w0 w:World}
theorem VC(p:AI->Bool):∀ {xs:List AI} {ys:List It},HR g xs ys->∃ zs,HR g (xs.filter p) zs/\zs.Sublist ys
 | [],ys,h=>⟨[],rfl,List.nil_sublist _⟩
 | x :: xs,[],h=>h.elim
 | x :: xs,y :: ys,h=>by
  obtain⟨zs,h1,h2⟩:=VC p h.2;rw [List.filter_cons];split
  ·exact⟨y :: zs,⟨h.1,h1⟩,h2.cons_cons y⟩
  ·exact⟨zs,h1,h2.cons y⟩
theorem SX.filter{S:AS}(hS:SX g w0 w S)(p:AI->Bool):SX g w0 w ⟨S.nx,S.H.filter p⟩:=by
 obtain⟨h1,L,h2,h3⟩:=hS;obtain⟨zs,h4,h5⟩:=VC p h2;exact⟨h1,zs,h4,h3.sub h5⟩
theorem Yz:∀ {xs:List AI} {ys:List It} (j:Nat),HR g xs ys->HR g (xs.eraseIdx j) (ys.eraseIdx j)
 | [],ys,j,h=>by simp only [HR] at h;subst h;simp [HR]
 | x :: xs,[],j,h=>h.elim
 | x :: xs,y :: ys,0,h=>h.2
 | x :: xs,y :: ys,j+1,h=>⟨h.1,Yz j h.2⟩
/-! ## A function's end -/
def QT:List Nat->AS->Option AS
 | [],S=>some S
 | d :: ds,S=>(match UW d S.H 0 with
  | some (j,.mark _)=>QT ds ⟨S.nx,S.H.eraseIdx j⟩
  | _=>none)
theorem eraseIdx_set{α:Type}:∀(l:List α) (j:Nat) (x:α),(l.set j x).eraseIdx j=l.eraseIdx j
 | [],_,_=>rfl
 | _ :: _,0,_=>rfl
 | a :: l,j+1,x=>by simp [eraseIdx_set l j x]
theorem Zu:∀ {ms msc:List Nat} {S S':AS} {w:World},QT ms S=some S'->SX g w0 w S->MR g ms msc->∀ {k:World->Prop},(∀ w',SX g w0 w' S'->k w')->SW msc k w
 | [],msc,S,S',w,he,hS,hm,k,hk=>by
  simp only [QT,An8] at he;subst he;simp only [MR] at hm;subst hm;exact hk w hS
 | d :: ds,[],_,_,_,_,_,hm,_,_=>hm.elim
 | d :: ds,e :: es,S,S',w,he,hS,hm,k,hk=>by
  unfold QT at he;split at he
  ·rename_i j b hf;obtain⟨f1,f2⟩:=Xr hf;obtain⟨hn,L,hL,hT⟩:=hS;obtain⟨y,hy,s,s1,s2,rfl⟩:=Kb hL f1;rw [f2] at s1 s2;have hb:=hm.1;rw [Fv s1 s2] at hb;cases hb;refine⟨hT.get j hy,?_⟩;have tl:=(hT.put j hy (.deferred none)).sub (List.eraseIdx_sublist _ j);rw [eraseIdx_set] at tl;exact Zu he ⟨hn,_,Yz j hL,tl⟩ hm.2 hk
  ·cases he
theorem Zr:∀ {ms:List Nat} {S S':AS},QT ms S=some S'->S'.nx=S.nx
 | [],S,S',he=>by simp only [QT,An8] at he;rw [he]
 | d :: ds,S,S',he=>by
  unfold QT at he;split at he
  ·have:=Zr he;exact this
  ·cases he
noncomputable def AbL (P:Program) (G:GT) (fr:Ft) (S:AS):List ResultVar->Option (List Value)
 | []=>some []
 | .tmp t :: r=>(match TF fr t,AbL P G fr S r with
  | some v,some vs=>some (v :: vs)
  | _,_=>none)
 | .cell a t :: r=>(match QR P G S.H t (TF fr a),AbL P G fr S r with
  | some (v,_),some vs=>some (v :: vs)
  | _,_=>none)
theorem Xl{G:GT}(hG:Ka G w0){fr:Ft}{frc:Fr}(aO:FR g fr frc){S:AS}(hS:SX g w0 w S):∀ {rs:List ResultVar} {vs:List Value},AbL P G fr S rs=some vs->∀ {k:List Value->World->Prop},(∀ cs,RL g vs cs->k cs w)->Us P frc rs k w
 | [],vs,he,k,hk=>by simp only [AbL,An8] at he;subst he;exact hk [] (by simp [RL])
 | .tmp t :: r,vs,he,k,hk=>by
  unfold AbL at he;split at he
  ·rename_i v us h1 h2;cases he;obtain⟨c,hc,hr⟩:=aO _ _ (by rw [<- Ir];exact h1);show HT (look frc t) λ v=>Us P frc r (λ vs w=>k (v :: vs) w) w;rw [hc];exact Xl hG aO hS h2 λ cs bG=>hk (c :: cs) (by simp only [RL];exact⟨hr,bG⟩)
  ·cases he
 | .cell a t :: r,vs,he,k,hk=>by
  unfold AbL at he;split at he
  ·rename_i v hd us h1 h2;cases he;show Q6 P t (look frc a) (λ v _=>Us P frc r (λ vs w=>k (v :: vs) w) w) w;have hE:ER g (eO fr) (EY frc):=RG aO;exact Oh (e:=eO fr) (e':=EY frc) (x:=.tmp a) hG hS.2 hE h1 λ c hc hr _=>Xl hG aO hS h2 λ cs bG=>hk (c :: cs) (by simp only [RL];exact⟨hr,bG⟩)
  ·cases he
theorem Amg{vs cs:List Value}(h:RL g vs cs):R g (A8 vs) (A8 cs):=by
 match vs,cs,h with
 | [],cs,h=>simp only [RL] at h;subst h;simp [A8,R,RA,RL]
 | v :: vs,[],h=>simp [RL] at h
 | [v],[c],h=>simp only [RL] at h;exact h.1
 | [v],_ :: _ :: _,h=>simp [RL] at h
 | v :: u :: vs,[c],h=>simp [RL] at h
 | v :: u :: vs,c :: d :: cs,h=>simp only [A8,R,RA];exact h
noncomputable def Zk:Nat->List Value->Ft
 | _,[]=>.l
 | i,v :: vs=>QZ 20 (Zk (i+1) vs) i v
noncomputable def eFn (P:Program) (G:GT) (X:XF) (m:Nat) (f:FuncId) (args:List Value) (Y:YT) (S:AS):Option (Value × AS) :=
 match P.funcs[f]? with
 | some fn =>
  (match fn.body with
  | some c=>bif Nat.ble args.length fn.ntmps then (match Ej P G X m fn.ntmps c none Y (Zk 0 args) [] S with
   | some (e,fr,ms,S1)=>bif (match e with | .normal=>true | .ret=>true | _=>false) then (match QT ms S1 with
     | some S2=>(match AbL P G fr S2 fn.results.toList with
      | some vs=>some (A8 vs,bif Anc (S.nx+8) S2.nx then ⟨S2.nx,gcF (S.nx+Dg) (A8 vs) S2.H⟩ else S2)
      | none=>none)
     | none=>none) else none
   | none=>none) else none
  | none=>none)
 | none=>none
theorem calls_of_wp{f:FuncId}{fn:Func}{c:Code}{args:List Value}(hf:P.funcs[f]?=some fn)(hc:fn.body=some c)(hle:args.length<=fn.ntmps){k:Value->World->Prop}
  (h:c.wpIn (FF none) 0 P (λ e a' w'=>(e=.normal\/e=.ret)/\∃ aI aP,AO aI a'/\a'.defers=marks aP/\SW aP (λ w'=>Us P aI fn.results.toList (λ vs au=>k (A8 vs) au) w') w') ⟨(⟨args⟩:Array Value)++Array.replicate (fn.ntmps-args.length) undef,[]⟩ w) :
  Calls P f ⟨args⟩ w λ e w'=>∃ v,e=.returned v/\k v w':=by
 refine callsIn_wide.1 (callsIn_of_wp_marks (F:=Fence.wide) (n:=0) hf hc trivial ?_);refine wpIn_mono h ?_;have fin:∀(aI:Fr) (a':Act),AO aI a'->∀ w',Us P aI fn.results.toList (λ vs au=>k (A8 vs) au) w'->∃ v,(results fn a'.tmps).run P w'=.ok v w'/\∃ u,Ending.returned v=.returned u/\k u w':=by
  intro aI a' aV w' hk;obtain⟨vs,hk,_,hr⟩:=OX aV _ _ _ hk;exact⟨_,Re hr,_,rfl,hk⟩
 rintro e a' w' ⟨he,aI,aP,aV,cm,hk⟩;rcases he with rfl | rfl
 ·show LeavesInM _ _ _ _ _ _ _ _ _;rw [cm];exact FM (fin aI a' aV) aP w' hk
 ·show LeavesInM _ _ _ _ _ _ _ _ _;rw [cm];exact FM (fin aI a' aV) aP w' hk
theorem AcZ:∀ {vs cs:List Value} (i:Nat),RL g vs cs->FR g (Zk i vs) (NX i cs)
 | [],_,i,h=>by intro j v hv;cases hv
 | v :: vs,[],_,h=>by simp [RL] at h
 | v :: vs,c :: cs,i,h=>by
  simp only [RL] at h;rw [show Zk i (v :: vs)=Ot 20 (Zk (i+1) vs) i v from Iv _ _ _ _];exact (AcZ (i+1) h.2).cons i h.1
theorem Aks(bE:P.follows .mixedOrders=true){G:GT}{X:XF}(hX:XOK P G X)(hG:Ka G w0){m:Nat}{f:FuncId}{args aK:List Value}{Y:YT}{S S':AS}{v:Value}(he:eFn P G X m f args Y S=some (v,S'))(hS:SX g w0 w S)(hr:RL g args aK)(hY:WV g Y) :
  Calls P f ⟨aK⟩ w (λ e w'=>∃ c g',e=.returned c/\Ext S.nx S'.nx g g'/\R g' v c/\SX g' w0 w' S'):=by
 unfold eFn at he;split at he
 ·rename_i fn hf;split at he
  ·rename_i c hc;have h1:=(AN he).1
   replace he:=(AN he).2
   have hle:aK.length<=fn.ntmps:=by rw [Eg hr];exact Nat.le_of_ble_eq_true h1
   split at he
   ·rename_i e fr ms S1 mV;have h2:=(AN he).1
    replace he:=(AN he).2
    split at he
    ·rename_i S2 ja;split at he
     ·rename_i vs sC;simp only [An8,AnO] at he;obtain⟨rfl,rfl⟩:=he;have aR:AO (NX 0 aK) ⟨(⟨aK⟩:Array Value)++Array.replicate (fn.ntmps-aK.length) undef,[]⟩:=by
       refine IY _ aK 0 λ j v hj=>?_;have gN:j<aK.length:=(List.getElem?_eq_some_iff.1 hj).1;rw [Nat.zero_add,Array.getElem?_append_left (by simpa using gN)];simpa using hj
      have ya:=(Tw bE hX hG c).go mV (k:=0) (rdc:=none) (msc:=[]) hS (AcZ 0 hr) aR (by simp;omega) rfl rfl hY rfl;refine (calls_of_wp (k:=λ u w'=>∃ g',Ext S.nx S2.nx g g'/\R g' (A8 vs) u/\SX g' w0 w' (bif Anc (S.nx+8) S2.nx then ⟨S2.nx,gcF (S.nx+Dg) (A8 vs) S2.H⟩ else S2)) hf hc hle (wpIn_mono ya ?_)).mono ?_
      ·rintro e2 a2 w2 ⟨rfl,q1,g2,iX,jC,q2,q3,q4,q5,q6,q7⟩;refine⟨by cases e2 <;> simp_all,iX,jC,q4,q6,?_⟩;refine Zu ja q7 q5 λ w3 qN=>?_;refine Xl hG q3 qN sC λ cs bG=>⟨g2,by rw [Zr ja];exact q2,Amg bG,?_⟩;cases Anc (S.nx+8) S2.nx with
       | true=>exact qN.filter _
       | false=>exact qN
      ·rintro e2 w2 ⟨u,rfl,g2,q1,q2,q3⟩;exact⟨u,g2,rfl,by cases Anc (S.nx+8) S2.nx <;> exact q1,q2,q3⟩
     ·cases he
    ·cases he
   ·cases he
  ·cases he
 ·cases he
/-! ## A round -/
def Adc(l:Nat):YT->Option YE
 | []=>none
 | y :: r=>bif Am7 y.l l then some y else Adc l r
theorem ZB{l:Nat}:∀ {Y:YT} {y:YE},Adc l Y=some y->y∈Y/\y.l=l
 | z :: r,y,h=>by
  unfold Adc at h;cases hb:Am7 z.l l with
  | true=>rw [hb] at h;simp only [cond_true,An8] at h;subst h;exact⟨List.mem_cons_self,Nat.eq_of_beq_eq_true hb⟩
  | false=>rw [hb] at h;obtain⟨h1,h2⟩:=ZB (Y:=r) h;exact⟨List.mem_cons_of_mem _ h1,h2⟩
noncomputable def LV (n:Nat):Ft->List Nat->List Value->Ft
 | fr,p :: ps,v :: vs=>LV n (GS n fr (some p) v) ps vs
 | fr,_,_=>fr
noncomputable def AbM (P:Program) (G:GT) (X:XF) (m:Nat) (l:Nat) (args:List Value) (Y:YT) (S:AS):Option (Value × AS) :=
 match Adc l Y,UW l S.H 0 with
 | some y,some (_,.loop _ _ _)=>bif Am7 args.length y.ps.length && AR y.Rx then
   (match Ej P G X m y.n y.Rx (some l) Y (LV y.n y.fr y.ps args) [] S with
   | some (.normal,fH,[],S1)=>(match UW l S1.H 0 with
    | some (j,.loop b .ready none)=>(match Ej P G X m y.n y.body (some l) Y fH [] ⟨S1.nx,S1.H.set j (.loop b .busy none)⟩ with
     | some (e,_,_,S2)=>(match UW l S2.H 0 with
      | some (j2,.loop b2 .busy none)=>(match e with
       | .normal=>some (.bool true,⟨S2.nx,S2.H.set j2 (.loop b2 .ready none)⟩)
       | .ret=>some (.bool false,⟨S2.nx,S2.H.set j2 (.loop b2 .done (some .ret))⟩)
       | .exit i=>some (.bool false,⟨S2.nx,S2.H.set j2 (.loop b2 .done (some (.exit i)))⟩)
       | _=>none)
      | _=>none)
     | none=>none)
    | _=>none)
   | _=>none) else none
 | _,_=>none
theorem Aaq{n:Nat}:∀ {ps:List Nat} {vs cs:List Value} {fr:Ft} {frc:Fr},RL g vs cs->FR g fr frc->FR g (LV n fr ps vs) (G3 n frc ps cs)
 | [],_,_,_,_,_,h=>by simpa [G3,LV] using h
 | p :: ps,[],cs,fr,frc,hr,h=>by simp only [RL] at hr;subst hr;simpa [G3,LV] using h
 | p :: ps,v :: vs,[],fr,frc,hr,h=>by simp [RL] at hr
 | p :: ps,v :: vs,c :: cs,fr,frc,hr,h=>by
  simp only [RL] at hr;simpa [G3,LV] using Aaq (ps:=ps) hr.2 (h.put (some p) hr.1)
theorem Aet(bE:P.follows .mixedOrders=true){G:GT}{X:XF}(hX:XOK P G X)(hG:Ka G w0){m l:Nat}{args aK:List Value}{Y:YT}{S S':AS}{v:Value}(he:AbM P G X m l args Y S=some (v,S'))(hS:SX g w0 w S)(hr:RL g args aK)(hY:WV g Y){lc:Nat}(l7:bk g l=some lc) :
  GJ P lc ⟨aK⟩ (λ b w'=>∃ g',Ext S.nx S'.nx g g'/\v=.bool b/\SX g' w0 w' S') w:=by
 unfold AbM at he;split at he
 ·rename_i y j0 b0 st0 p0 hy k9;obtain⟨bB,sV⟩:=ZB hy;subst sV;obtain⟨s,s1,s2,e1,e2,e3,e4,frc,aO,aR⟩:=hY y bB;obtain⟨s',t1,t2,t3,_⟩:=Hd hS k9;rw [s2] at t1;cases t1;rw [l7] at t2;cases t2;have h1:=(AN he).1
  replace he:=(AN he).2
  simp only [Bool.and_eq_true] at h1;have hlen:=Nat.eq_of_beq_eq_true h1.1;split at he
  ·rename_i fH S1 qP;split at he
   ·rename_i j b gh;split at he
    ·rename_i e fI fY S2 mS;split at he
     ·rename_i j2 b2 iJ;have av:(⟨aK⟩:Array Value).size=s.2.2.params.size:=by
       have:=Eg hr;rw [<- Array.length_toList,<- Array.length_toList,e1,<- hlen];exact this
      refine⟨_,_,_,_,run_yield t3 av,roundIn_of_wpIn (F:=Fence.wide) trivial ?_⟩;simp only [e2,e3];have ez:(s.2.2.params.zip (⟨aK⟩:Array Value)).foldl (λ (t:Array Value) (x:Tmp × Value)=>t.setIfInBounds x.1 x.2) s.2.2.tmps=(y.ps.zip aK).foldl (λ t x=>t.setIfInBounds x.1 x.2) s.2.2.tmps:=by
       rw [<- Array.foldl_toList,Array.toList_zip,e1]
      have jX:=H5 (n:=y.n) y.ps aK frc s.2.2.tmps aR e4;rw [<- ez] at jX;refine wpIn_mono ((Tw bE hX hG y.Rx).go qP (k:=0) (rdc:=some s.1) (msc:=[]) hS (Aaq hr aO) jX.1 jX.2 rfl rfl hY ⟨_,rfl,l7⟩) ?_;rintro ea a1 w1 ⟨rfl,q1,g1,we,yo,q2,q3,q4,q5,q6,q7⟩;simp only [MR] at q5;subst q5;obtain⟨s',t1,t2,t4,t5⟩:=Hd q7 gh;rw [q2.1.at s2] at t1;cases t1;refine⟨_,run_beginRound t4 rfl,?_⟩;refine wpIn_mono ((Tw bE hX hG y.body).go mS (k:=0) (rdc:=some s.1) (msc:=[]) (t5 .busy none) q3 q4 q1 rfl q6 (hY.le q2.1) ⟨_,rfl,t2⟩) ?_;rintro eb a2 w2 ⟨rfl,r1,g2,iX,jC,r2,r3,r4,r5,r6,r7⟩;obtain⟨s',u1,u2,u4,u5⟩:=Hd r7 iJ;have bQ:=q2.trans r2;rw [bQ.1.at s2] at u1;cases u1;split at he
      ·simp only [An8,AnO] at he;obtain⟨rfl,rfl⟩:=he;exact⟨_,_,run_endRound none u4,true,rfl,g2,bQ,rfl,u5 .ready none⟩
      ·simp only [An8,AnO] at he;obtain⟨rfl,rfl⟩:=he;exact⟨_,_,run_endRound (some .ret) u4,false,rfl,g2,bQ,rfl,u5 .done (some .ret)⟩
      ·rename_i i;simp only [An8,AnO] at he;obtain⟨rfl,rfl⟩:=he;exact⟨_,_,run_endRound (some (.exit i)) u4,false,rfl,g2,bQ,rfl,u5 .done (some (.exit i))⟩
      ·cases he
     ·cases he
    ·cases he
   ·cases he
  ·cases he
 ·cases he
/-! ## All -/
abbrev OF:=FuncId->Option (List Value->AS->Option (Value × AS))
def WR(P:Program)(G:GT)(i:FuncId)(F:List Value->AS->Option (Value × AS)):Prop:=∀ args S v S',F args S=some (v,S')->∀ g w0 w aK,SX g w0 w S->Ka G w0->RL g args aK ->
 Calls P i ⟨aK⟩ w (λ e w'=>∃ c g',e=.returned c/\Ext S.nx S'.nx g g'/\R g' v c/\SX g' w0 w' S')
def OOK(P:Program)(G:GT)(O:OF):Prop:=∀ i F,O i=some F->WR P G i F
theorem SX.grown{S:AS}(hS:SX g w0 w S){w':World}(h:Below w.heap.size w w'):SX g w0 w' S:=⟨hS.1,hS.2.elim λ L h2=>⟨L,h2.1,h2.2.grown h⟩⟩
def Aao(F:List Value->Option Value):List Value->AS->Option (Value × AS):=λ args S =>
 bif XL args then (match F args with
  | some v=>bif pl v then some (v,S) else none
  | none=>none) else none
theorem Aap{G:GT}{i:FuncId}{F:List Value->Option Value}(h:∀ args v,F args=some v->∀ w,Calls P i ⟨args⟩ w (λ e w'=>e=.returned v/\Below w.heap.size w w')):WR P G i (Aao F):=by
 intro args S v S' he g w0 w aK hS hG hr;have h1:=(AN he).1
 replace he:=(AN he).2
 split at he
 ·rename_i u hu;have h2:=(AN he).1
  replace he:=(AN he).2
  simp only [An8,AnO] at he;obtain⟨rfl,rfl⟩:=he;have:=(HK _ h1).1 hr;subst this;refine (h _ _ hu w).mono ?_;rintro e w' ⟨rfl,hB⟩;exact⟨_,g,rfl,Ext.refl _ _,(RZ _ h2).2 rfl,hS.grown hB⟩
 ·cases he
noncomputable def evX (P:Program) (G:GT) (O:OF) (m:Nat):Nat->XF
 | 0,_,_,_,_=>none
 | f+1,.fn i,args,Y,S=>(match O i with
  | some F=>F args S
  | none=>eFn P G (evX P G O m f) m i args Y S)
 | f+1,.yl l,args,Y,S=>AbM P G (evX P G O m f) m l args Y S
theorem TA(bE:P.follows .mixedOrders=true){G:GT}{O:OF}(hO:OOK P G O){m:Nat}:∀(f:Nat),XOK P G (evX P G O m f)
 | 0=>by intro t args Y S v S' he;cases t <;> cases he
 | f+1=>by
  intro t args Y S v S' he g w0 w aK hS hG hr hY;cases t with
  | fn i =>
   simp only [evX] at he;split at he
   ·rename_i F hF;exact hO i F hF _ _ _ _ he g w0 w aK hS hG hr
   ·exact Aks bE (TA bE hO f) hG he hS hr hY
  | yl l=>exact λ lc l7=>Aet bE (TA bE hO f) hG he hS hr hY l7
end
end Go.Dn
set_option linter.unusedVariables false
set_option maxRecDepth 100000
namespace Go.Dn
open _root_.Bool renaming and_eq_true -> Ana
open _root_.Nat renaming beq -> Am7, eq_of_beq_eq_true -> Anb
open Go.RowKit (Below)
def AfX:List AI->List AI->Bool
 | [],l=>l.isEmpty
 | x :: xs,l=>match l with
  | []=>false
  | y :: ys=>aeq x y && AfX xs ys
theorem AcX:∀ {a b:List AI},AfX a b=true->a=b
 | [],b,h=>by simp only [AfX,List.isEmpty_iff] at h;exact h.symm
 | x :: xs,[],h=>by cases h
 | x :: xs,y :: ys,h=>by simp only [AfX,Ana] at h;rw [AfY h.1,AcX h.2]
def Aig(a b:AS):Bool:=Am7 a.nx b.nx && AfX a.H b.H
theorem Ac0{a b:AS}(h:Aig a b=true):a=b:=by
 obtain⟨n,H⟩:=a;obtain⟨m,K⟩:=b;simp only [Aig,Ana] at h;rw [Anb h.1,AcX h.2]
def XG(args:List Value)(S:AS)(r:Value × AS):List Value->AS->Option (Value × AS):=λ a T=>bif UN args a && Aig S T then some r else none
section
variable {P:Program}{G:GT}{O:OF}{m f:Nat}
theorem HJ(bE:P.follows .mixedOrders=true)(hO:OOK P G O){i:FuncId}{args:List Value}{S:AS}{r:Value × AS}(h:evX P G O m f (.fn i) args [] S=some r):WR P G i (XG args S r):=by
 intro a T v S' he g w0 w aK hS hG hr;have h1:=(AN he).1
 replace he:=(AN he).2
 simp only [Ana] at h1;have e1:=JG _ h1.1;have e2:=Ac0 h1.2;subst e1;subst e2;cases he;exact TA bE hO f _ _ _ _ _ _ h g w0 w aK hS hG hr (λ y hy=>by cases hy)
theorem Aew(bE:P.follows .mixedOrders=true)(hO:OOK P G O){i:FuncId}{v:Value}{S':AS}(h:evX P G O m f (.fn i) [] [] ⟨0,[]⟩=some (v,S'))(hp:pl v=true){w:World}(hG:Ka G w) :
  Calls P i ⟨[]⟩ w (λ e w'=>e=.returned v/\Below w.heap.size w w'):=by
 have hS:SX (λ _=>none) w w ⟨0,[]⟩:=⟨λ _ _=>rfl,[],rfl,ST.start w⟩;refine (TA bE hO f _ _ _ _ _ _ h _ w w [] hS hG (by simp [RL]) (λ y hy=>by cases hy)).mono ?_;rintro e w' ⟨c,g',rfl,_,hr,_,L,_,hT⟩;rw [(RZ _ hp).1 hr];exact⟨rfl,hT.An⟩
end
def isR(x:Option (Value × AS))(v:Value)(T:AS):Bool:=match x with
 | some r=>Pr r.1 v && Aig r.2 T
 | none=>false
theorem Jk{x:Option (Value × AS)}{v:Value}{T:AS}(h:isR x v T=true):x=some (v,T):=by
 unfold isR at h;split at h
 ·rename_i r;simp only [Ana] at h;rw [<- UO _ h.1,<- Ac0 h.2]
 ·cases h
section
variable {P:Program}{G:GT}
def Hk(O:OF)(i:FuncId)(F:List Value->AS->Option (Value × AS)):OF:=λ j=>bif Am7 j i then some F else O j
theorem Df{O:OF}(hO:OOK P G O){i:FuncId}{F:List Value->AS->Option (Value × AS)}(h:WR P G i F):OOK P G (Hk O i F):=by
 intro j K hj;unfold Hk at hj;cases hb:Am7 j i with
 | true =>
  rw [hb] at hj;simp only [cond_true,Option.some.injEq] at hj;subst hj;rw [Anb hb];exact h
 | false=>rw [hb] at hj;exact hO j K hj
def noO:OF:=λ _=>none
theorem AkW:OOK P G noO:=by intro i F h;cases h
end
section
variable {P:Program}{g:Sg}{w0 w:World}{G:GT}
theorem Ka.rd(hG:Ka G w0){b:Nat}{vs:List Value}(h:ZI G b=some vs):Rd w0 (some ⟨b,0,none⟩) vs:=by
 intro j v hj;have:=(hG b vs h).2 j v hj;refine⟨_,rfl,?_⟩;cases j with
 | zero=>simpa [Addr.add] using this
 | succ j=>simpa [Addr.add] using this
theorem SX.An{S:AS}(hS:SX g w0 w S):Below w0.heap.size w0 w:=hS.2.elim λ _ h=>h.2.An
def AaP:List Value->Option (List ByteArray)
 | []=>some []
 | v :: r=>match v with
  | .string s=>(match AaP r with
   | some l=>some (s :: l)
   | none=>none)
  | _=>none
theorem AaQ:∀ {vs cs:List Value} {l:List ByteArray},AaP vs=some l->RL g vs cs->cs=l.map Value.string
 | [],cs,l,h,hr=>by
  simp only [AaP,Option.some.injEq] at h;simp only [RL] at hr;subst h;subst hr;rfl
 | v :: r,[],l,h,hr=>by simp [RL] at hr
 | v :: r,c :: cs,l,h,hr=>by
  unfold AaP at h;split at h
  ·split at h
   ·rename_i m hm;cases h;simp only [RL] at hr;have h1:=hr.1;simp only [R] at h1;rw [h1,AaQ hm hr.2];rfl
   ·cases h
  ·cases h
theorem AdB{α:Type}(f:α->Value)(hf:∀ x,pl (f x)=true):∀ l:List α,XL (l.map f)=true
 | []=>rfl
 | x :: l=>by simp only [List.map_cons,XL,hf x,AdB f hf l,Bool.and_self]
theorem Ae2{G:GT}{H:List AI}{p p':Option Addr}{l k c' sz:Nat}{vs:List Value}(he:Vk G H p l sz=some vs)(hr:JR g p l k (.slice p' l c'))(hl:1<=l):(∃ b o,p'=some ⟨b,o,none⟩)/\l<=c':=by
 unfold Vk at he;have h0:Am7 l 0=false:=by
  cases h:Am7 l 0 with
  | false=>rfl
  | true=>have:=Anb h;omega
 rw [h0,cond_false] at he;split at he
 ·rename_i a;split at he
  ·rename_i eK;obtain⟨a',c2,e1,h1,h2,_⟩:=LG hr hl;cases e1;unfold ad at h2;obtain⟨b,_,rfl⟩:=Option.map_eq_some_iff.1 h2;exact⟨⟨b,a.off,by rw [eK]⟩,h1⟩
  ·cases he
 ·cases he
end
end Go.Dn
namespace Go.Proofs.YtoepjfblppfabaaGreatDoor
open _root_.List renaming length_map -> AnS
open _root_.Nat renaming ble -> An7, le_of_ble_eq_true -> Aoi, mul_one -> AnI
set_option maxRecDepth 100000
open Go.Dn Go.Proofs
open Go.RowKit (Below)
set_option linter.unusedVariables false
def AkA:List Value->Option Value:=λ args=>match args with
 | [.string s,.int .u8 c]=>some (.int .i64 (Lib.indexByte s.data.toList c.toNat.toUInt8))
 | _=>none
theorem AiF{G:GT}:WR Tryz.prog G f.strings_IndexByte (Aao AkA):=Aap λ args v h w=>by
 unfold AkA at h;split at h
 ·cases h;refine (Tryz.strings_IndexByte _ _ w).mono ?_;rintro _ w' ⟨rfl,rfl⟩;exact⟨rfl,.refl _ _⟩
 ·cases h
def Akk:List Value->Option Value:=λ args=>match args with
 | [.string s,.string t]=>some (.int .i64 (Lib.compareBytes s.data.toList t.data.toList))
 | _=>none
theorem Aik{G:GT}:WR Tryz.prog G f.strings_Compare (Aao Akk):=Aap λ args v h w=>by
 unfold Akk at h;split at h
 ·cases h;refine (Tryz.strings_Compare _ _ w).mono ?_;rintro _ w' ⟨rfl,rfl⟩;exact⟨rfl,.refl _ _⟩
 ·cases h
def Un(G:GT)(H:List AI):List Value->Option (List (List UInt8))
 | []=>some []
 | v :: r=>match v with
  | .slice p n _=>(match Vk G H p n 1,Un G H r with
   | some vs,some l=>(match Ij vs with
    | some b=>some (b :: l)
    | none=>none)
   | _,_=>none)
  | _=>none
theorem Wn{g:Sg}{w0 w:World}{G:GT}(hG:Ka G w0){S:AS}(hS:SQ g w0 w S.H):∀ {vs cs:List Value} {l:List (List UInt8)},Un G S.H vs=some l->RL g vs cs->∃ ps:List Hx,cs=ps.map BQ/\BJ ps=l.flatten/\∀ p∈ps,Rd w p.1 (p.2.2.map Af)
 | [],cs,l,h,hr=>by
  simp only [Un,Option.some.injEq] at h;simp only [RL] at hr;subst h;subst hr;exact⟨[],rfl,rfl,by simp⟩
 | v :: r,[],l,h,hr=>by simp [RL] at hr
 | v :: r,c :: cs,l,h,hr=>by
  unfold Un at h;split at h
  ·rename_i p n k;split at h
   ·rename_i vs l1 h1 h2;split at h
    ·rename_i b hb;cases h;simp only [RL] at hr;obtain⟨ps,rfl,e2,e3⟩:=Wn hG hS h2 hr.2;have uL:=hr.1;simp only [R] at uL;obtain⟨p',c',us,rfl,hus,aU,hlen⟩:=L5 hG hS h1 uL;have:=Kj hb hus;subst this;refine⟨(p',c',b) :: ps,?_,?_,?_⟩
     ·rw [List.map_cons];simp only [AnS,AnI] at hlen;show _=BQ (p',c',b) :: _;unfold BQ;rw [hlen]
     ·show b++BJ ps=_;rw [e2];rfl
     ·intro q hq;rcases List.mem_cons.1 hq with rfl | hq
      ·exact aU
      ·exact e3 q hq
    ·cases h
   ·cases h
  ·cases h
def Alh(G:GT):List Value->AS->Option (Value × AS):=λ args S=>match args with
 | [.slice p n _]=>(match Vk G S.H p n 1 with
  | some cs=>(match Un G S.H cs with
   | some l=>bif An7 l.flatten.length 1000000 && An7 n 1000000 then some (.agg ⟨(RF l.flatten).map Af⟩,S) else none
   | none=>none)
  | none=>none)
 | _=>none
theorem Ajf(l:List UInt8):XL (l.map Af)=true:=AdB _ (λ _=>rfl) l
theorem Ajn{G:GT}(hT:∀ w0,Ka G w0->PB w0):WR Tryz.prog G f.TL (Alh G):=by
 intro args S v S' he g w0 w aK hS hG hr;unfold Alh at he;split at he
 ·rename_i p n k
  match aK,hr with
  | [u],hr =>
   simp only [RL,R] at hr;split at he
   ·rename_i cs h1;split at he
    ·rename_i l h2;have hb:=(AN he).1
     replace he:=(AN he).2
     simp only [Bool.and_eq_true] at hb;have dC:=Aoi hb.1;have d':=Aoi hb.2;simp only [Option.some.injEq,Prod.mk.injEq] at he;obtain⟨hv,rfl⟩:=he;obtain⟨p',c',us,rfl,hus,aU,hlen⟩:=L5 hG hS.2 h1 hr.1;obtain⟨ps,rfl,e2,e3⟩:=Wn hG hS.2 h2 hus;simp only [AnS,AnI] at hlen;subst hlen;have hc:=Kx ((hT w0 hG).grown hS.An) (c:=c') ps aU e3 (by omega) (by rw [e2];omega);rw [e2] at hc;generalize RF l.flatten=dg at hc hv;have hp:pl v=true:=by
      rw [<- hv];simp only [pl,plA];exact Ajf dg
     refine hc.mono ?_;rintro _ w' ⟨_,rfl,rfl,B⟩;exact⟨_,g,rfl,Ext.refl _ _,(RZ _ hp).2 hv,hS.grown B⟩
    ·cases he
   ·cases he
  | [],hr=>simp [RL] at hr
  | _ :: _ :: _,hr=>simp [RL] at hr
 ·cases he
def AgO(G:GT):List Value->AS->Option (Value × AS):=λ args S=>match args with
 | [.slice p n _,.string sep]=>(match Vk G S.H p n 1 with
  | some cs=>(match AaP cs with
   | some l=>bif An7 (Lib.join (l.map (·.data.toList)) sep.data.toList).length 1000000 && (An7 n 1000000 && An7 1 n) then some (.string ⟨(Lib.join (l.map (·.data.toList)) sep.data.toList).toArray⟩,S) else none
   | none=>none)
  | none=>none)
 | _=>none
theorem AgP{G:GT}:WR Tryz.prog G f.strings_Join (AgO G):=by
 intro args S v S' he g w0 w aK hS hG hr;unfold AgO at he;split at he
 ·rename_i p n k sep
  match aK,hr with
  | [u,u2],hr =>
   simp only [RL,R] at hr;obtain⟨hr,j7,_⟩:=hr;subst j7;split at he
   ·rename_i cs h1;split at he
    ·rename_i l h2;have hb:=(AN he).1
     replace he:=(AN he).2
     simp only [Bool.and_eq_true] at hb;have dC:=Aoi hb.1;have d':=Aoi hb.2.1;have cf:=Aoi hb.2.2;cases he;obtain⟨p',c',us,rfl,hus,aU,hlen⟩:=L5 hG hS.2 h1 hr;have:=AaQ h2 hus;subst this;simp only [AnS,AnI] at hlen;subst hlen;obtain⟨⟨bk,o,rfl⟩,cj⟩:=Ae2 h1 hr cf;have da:∀(j:Nat) x,l[j]?=some x->w.cell? ⟨bk,o+j,none⟩=some (.string x):=by
      intro j x hj;obtain⟨q,hq,hc⟩:=aU j (.string x) (by rw [List.getElem?_map,hj];rfl);cases hq;rwa [Am] at hc
     obtain⟨x0,iN⟩:∃ x,l[0]?=some x:=⟨_,List.getElem?_eq_getElem (by omega)⟩;refine (Tryz.strings_Join bk o c' l sep w da (World.block_lt_of_cell? _ _ (da 0 _ iN)) (by omega) cj (by omega)).mono ?_;rintro _ w' ⟨rfl,B⟩;exact⟨_,g,rfl,Ext.refl _ _,by simp only [R],hS.grown B⟩
    ·cases he
   ·cases he
  | [],hr=>simp [RL] at hr
  | [_],hr=>simp [RL] at hr
  | _ :: _ :: _ :: _,hr=>simp [RL] at hr
 ·cases he
end Go.Proofs.YtoepjfblppfabaaGreatDoor
namespace Go.Proofs.YtoepjfblppfabaaGreatDoor
open Go.Dn Go.Proofs
set_option maxRecDepth 100000
namespace Ru
abbrev I(x:Int):Value:=.int .i64 x
abbrev T(l:List UInt8):Value:=.string ⟨⟨l⟩⟩
abbrev J(b o:Nat):Option Addr:=some ⟨b,o,none⟩
def Af2:List Value:=[0,0,0,0,1,2,0,2,2].map I
def Ai7:List Value:=[0,1,2,1,1,1,2,1,2].map I
def G1:GT:=[(4,UC),(6,T4),(1,Q0),(12,Af2),(13,Ai7),(0,Eu.map wV),(2,OK.map (.int .u8)),(3,FQ.map (.int .u8))]
theorem Ah5(w:World)(h:Ka G1 w):PB w:=⟨h.rd rfl,h.rd rfl,h.rd rfl⟩
def O1:OF:=Hk (Hk (Hk (Hk noO f.TL (Alh G1)) f.strings_Join (AgO G1)) f.strings_Compare (Aao Akk)) f.strings_IndexByte (Aao AkA)
theorem AjD:OOK Tryz.prog G1 O1:=Df (Df (Df (Df AkW (Ajn Ah5)) AgP) Aik) AiF
end Ru
end Go.Proofs.YtoepjfblppfabaaGreatDoor
namespace Go.Proofs.YtoepjfblppfabaaGreatDoor
open _root_.BitVec renaming ofInt -> Am6
open _root_.Bool renaming and_eq_true -> Ana, eq_iff_iff -> Aon
open _root_.List renaming all_eq_true -> An9, drop_drop -> Aop, eq_nil_of_length_eq_zero -> Anq, flatten_cons -> Aoq, getElem?_cons_zero -> Aor, getElem?_eq_getElem -> AnB, getElem?_eq_none -> Aoo, getElem?_map -> Aom, length_append -> Anp, length_cons -> AnQ, length_drop -> AnC, mem_cons_of_mem -> AnU, mem_cons_self -> AnT, mem_map -> Ang, range -> AnY
open _root_.Nat renaming add_mul -> Ann, le_of_not_lt -> Aos, mod_lt -> AnX, mul_comm -> AnN
open _root_.Option renaming map_eq_some_iff -> Aok
open _root_.Option.some renaming inj -> Aoj, injEq -> An8
open _root_.Prod renaming fst -> Aol
open _root_.UInt8 renaming ofNat -> AnG
set_option maxRecDepth 100000
open Go.Dn Go.Proofs
open Go.RowKit (Below)
set_option linter.unusedVariables false
theorem V1{f:Int->Value}{m:Nat}:∀(ff:List (List Int)) (cs:List Value),cs.length=ff.length*m->(∀ i (hi:i<ff.length),(cs.drop (i*m)).take m=ff[i].map f)->cs=ff.flatten.map f
 | [],cs,hl,_=>by
  have:cs=[]:=Anq (by simpa using hl);rw [this];rfl
 | z :: zs,cs,hl,h=>by
  have h0:=h 0 (by simp);simp only [Nat.zero_mul,List.drop_zero,List.getElem_cons_zero] at h0;have ih:=V1 (m:=m) zs (cs.drop m) (by rw [AnC,hl,AnQ,Ann];omega) (λ i hi=>by
   have:=h (i+1) (by simp;omega);rw [Aop];rw [show m+i*m=(i+1)*m by rw [Ann];omega];exact this)
  rw [Aoq,List.map_append,<- h0,<- ih,List.take_append_drop]
theorem U2{H:Type}{enc:TypeId × Value->H}{P:Program}{w:World}{base:Nat}{sp:Nat->Bool}{held:Bool}{fuel:Nat}{t e e2:TypeId}{n m:Nat}{k:IntKind}{cs:List Value}{ff:List (List Int)}{p:List MemPlace}
  (ht:P.underlying t=some (.array n e)) (he:P.underlying e=some (.array m e2)) (oM:P.underlying e2=some (.int k)) (cR:P.cellsOf e2=1) (eX:P.cellsOf e=m) (eY:P.cellsOf t=n*m)
  (h:DataW.trod enc P w base sp held fuel t cs=some (.agg (ff.map (Lib.tabData k)),p)):cs=ff.flatten.map λ z=>Value.int k z:=by
 cases fuel with
 | zero=>simp [DataW.trod] at h
 | succ fuel =>
  simp only [DataW.trod,ht,eX,eY] at h;split at h
  ·rename_i hl;obtain⟨xs,hm,hx⟩:=Aok.1 h;have bV:xs.map (·.1)=ff.map (Lib.tabData (H:=H) k):=by
    have:=congrArg Aol hx;simpa using this
   have dM:xs.length=n:=by simpa using Lib.mapM_length hm
   have yi:ff.length=n:=by
    have:=congrArg List.length bV;simp at this;omega
   refine V1 (m:=m) ff cs (by rw [hl,yi]) λ i hi=>?_;have cB:i<n:=by omega
   obtain⟨b,hb,hf⟩:=Lib.mapM_at hm i i (by simp [cB]);have h2:(xs.map (·.1))[i]?=some b.1:=by simp [hb]
   rw [bV,Aom,AnB hi] at h2;have h3:b.1=Lib.tabData k ff[i]:=(Aoj h2).symm;obtain⟨b1,b2⟩:=b;simp only at h3;subst h3;exact Lib.cells_of_tab he oM cR eX hf
  ·cases h
theorem Yk{P:Program}{W:World}{name:String}{g:Nat}{cs:List Value}(hg:P.globalNamed name=some g)(h:W.var? P name=some cs.toArray):Rd W (some ⟨g,0,none⟩) cs:=by
 intro j v hv;refine⟨_,rfl,?_⟩;rw [Am,Nat.zero_add];have:=World.var?_cell hg h j;rw [this];simpa using hv
theorem SF{P:Program}{W:World}{name:String}{k:IntKind}{ff:List (List Int)}{g:Nat}{t e e2:TypeId}{n m:Nat}{rest:List (String × DataW Unit)}
  (hg:P.globalNamed name=some g) (j6:(P.globals[g]?).map (·.type)=some t) (ht:P.underlying t=some (.array n e)) (he:P.underlying e=some (.array m e2)) (oM:P.underlying e2=some (.int k)) (cR:P.cellsOf e2=1) (eX:P.cellsOf e=m) (eY:P.cellsOf t=n*m)
  (h:laidMet P ((name,.agg (ff.map (Lib.tabData k))) :: rest) W):Rd W (some ⟨g,0,none⟩) (ff.flatten.map λ z=>Value.int k z):=by
 obtain⟨ps,⟨g',t',cs,fuel,p,q,aV,ht',hvar,hd,_,_⟩,_⟩:=h;obtain rfl:=Aoj (hg.symm.trans aV);obtain rfl:=Aoj (j6.symm.trans ht');have e:=U2 ht he oM cR eX eY hd;refine Yk hg ?_;rw [hvar,<- e]
theorem Ajp{P:Program}{W:World}{name:String}{k:IntKind}{zs:List Int}{g:Nat}{t e:TypeId}{n:Nat}{rest:List (String × DataW Unit)}
  (hg:P.globalNamed name=some g) (j6:(P.globals[g]?).map (·.type)=some t) (ht:P.underlying t=some (.array n e)) (he:P.underlying e=some (.int k)) (eX:P.cellsOf e=1) (eY:P.cellsOf t=n)
  (h:laidMet P ((name,Lib.tabData k zs) :: rest) W):Rd W (some ⟨g,0,none⟩) (zs.map λ z=>Value.int k z):=Yk hg (Lib.tabIs_of_head hg j6 ht he eX eY h)
theorem Ajq {W : World} {l : List (String × DataW Unit)} (h1 : (l.filter λ x => x.1 == "stackyard/hash.first") = [("stackyard/hash.first", Rows.laid_stackyard_hash_first)]) (h2 : (l.filter λ x => x.1 == "stackyard/hash.orders") = [("stackyard/hash.orders", Rows.laid_stackyard_hash_orders)])
  (h3 : (l.filter λ x => x.1 == "stackyard/hash.places") = [("stackyard/hash.places", Rows.laid_stackyard_hash_places)]) (h : laidMet Tryz.prog l W) : PB W := by
 have g1 := h.filter λ x => x.1 == "stackyard/hash.first"
 have g2 := h.filter λ x => x.1 == "stackyard/hash.orders"
 have g3 := h.filter λ x => x.1 == "stackyard/hash.places"
 rw [h1] at g1;rw [h2] at g2;rw [h3] at g3;have e1:(Rows.laid_stackyard_hash_first:DataW Unit)=Lib.tabData .u32 (Eu.map λ x=>(x.toNat:Int)):=by rfl
 have e2:(Rows.laid_stackyard_hash_orders:DataW Unit)=.agg (((AnY 10).map KU).map (Lib.tabData .u8)):=by rfl
 have e3:(Rows.laid_stackyard_hash_places:DataW Unit)=.agg (((AnY 8).map λ i=>(FQ.drop (i*4)).take 4).map (Lib.tabData .u8)):=by rfl
 rw [e1] at g1;rw [e2] at g2;rw [e3] at g3;have r1:=Ajp (g:=0) (t:=143) (e:=131) (n:=8) (by kernel_rfl) (by kernel_rfl) (by kernel_rfl) (by kernel_rfl) (by kernel_rfl) (by kernel_rfl) g1;have r2:=SF (g:=2) (t:=304) (e:=303) (e2:=5) (n:=10) (m:=16) (by kernel_rfl) (by kernel_rfl) (by kernel_rfl) (by kernel_rfl) (by kernel_rfl) (by kernel_rfl) (by kernel_rfl) (by kernel_rfl) g2;have r3:=SF (g:=3) (t:=306) (e:=305) (e2:=5) (n:=8) (m:=4) (by kernel_rfl) (by kernel_rfl) (by kernel_rfl) (by kernel_rfl) (by kernel_rfl) (by kernel_rfl) (by kernel_rfl) (by kernel_rfl) g3;have q2:((AnY 10).map KU).flatten=OK:=by decide
 have q3:((AnY 8).map λ i=>(FQ.drop (i*4)).take 4).flatten=FQ:=by decide
 rw [q2] at r2;rw [q3] at r3;exact⟨by rw [List.map_map] at r1;exact r1,r2,r3⟩
/-! ### cells out of data, one element after another -/
theorem AhR{H:Type}{enc:TypeId × Value->H}{P:Program}{w:World}{base:Nat}{sp:Nat->Bool}{held:Bool}{fuel:Nat}{t:TypeId}{cs:List Value}{b:List UInt8}{p:List MemPlace}(ht:P.underlying t=some .string)(h:DataW.trod enc P w base sp held fuel t cs=some (.lit (.string b),p)):cs=[.string (CA b)]:=by
 obtain⟨s,rfl,hx,_⟩:=DataW.trod_string ht h;cases hx;rw [show s.data.toList=bl s from rfl,DH]
theorem AhQ{H:Type}{enc:TypeId × Value->H}{P:Program}{w:World}{base:Nat}{sp:Nat->Bool}{held:Bool}{fuel:Nat}{t e:TypeId}{n m:Nat}{cs:List Value}{ds:List (DataW H)}{vss:List (List Value)}{p:List MemPlace}
  (ht:P.underlying t=some (.array n e)) (eX:P.cellsOf e=m) (eY:P.cellsOf t=n*m) (hv:vss.length=n) (hd:ds.length=n)
  (bM:∀(f:Nat) (i:Nat) (c:List Value) (d:DataW H) (q:List MemPlace),ds[i]?=some d->DataW.trod enc P w base sp held f e c=some (d,q)->vss[i]?=some c)
  (h:DataW.trod enc P w base sp held fuel t cs=some (.agg ds,p)):cs=vss.flatten:=by
 cases fuel with
 | zero=>simp [DataW.trod] at h
 | succ fuel =>
  simp only [DataW.trod,ht,eX,eY] at h;split at h
  ·rename_i hl;obtain⟨xs,hm,hx⟩:=Aok.1 h;have bV:xs.map (·.1)=ds:=by
    have:=congrArg Aol hx;simpa using this
   have all:∀ i,i<n->vss[i]?=some ((cs.drop (i*m)).take m):=λ i hi=>by
    obtain⟨b,hb,hf⟩:=Lib.mapM_at hm i i (by simp [hi]);exact bM _ i _ b.1 b.2 (by rw [<- bV];simp [hb]) hf
   have go:∀(l:List (List Value)) (c:List Value),c.length=l.length*m->(∀ i,i<l.length->l[i]?=some ((c.drop (i*m)).take m))->c=l.flatten:=by
    intro l
    induction l with
    | nil=>intro c hc _;exact Anq (by simpa using hc)
    | cons z l ih =>
     intro c hc hh;have h0:=hh 0 (by simp);simp only [Aor,Nat.zero_mul,List.drop_zero,An8] at h0;have:=ih (c.drop m) (by rw [AnC,hc,AnQ,Ann];omega) λ i hi=>by
      have:=hh (i+1) (by simp;omega);rw [List.getElem?_cons_succ] at this;rw [Aop,show m+i*m=(i+1)*m by rw [Ann];omega];exact this
     rw [Aoq,h0,<- this,List.take_append_drop]
   exact go vss cs (by rw [hl,hv]) λ i hi=>all i (by omega)
  ·cases h
theorem AcK{H:Type}{enc:TypeId × Value->H}{P:Program}{w:World}{base:Nat}{sp:Nat->Bool}{held:Bool}{fuel:Nat}{t i64t:TypeId}{cs:List Value}{x y z:Int}{p:List MemPlace}
  (ht:Ja P t=some [(i64t,0),(i64t,1),(i64t,2)]) (hi:P.underlying i64t=some (.int .i64)) (eV:P.cellsOf i64t=1) (hc:P.cellsOf t=3)
  (h:DataW.trod enc P w base sp held fuel t cs=some (.agg [.lit (.int .i64 x),.lit (.int .i64 y),.lit (.int .i64 z)],p)):cs=[.int .i64 x,.int .i64 y,.int .i64 z]:=by
 obtain⟨fs,hu,hfs⟩:∃ fs,P.underlying t=some (.struct fs)/\fs.toList.map (λ f=>(f.type,f.offset))=[(i64t,0),(i64t,1),(i64t,2)]:=by
  unfold Ja at ht;split at ht
  ·rename_i fs hu;exact⟨fs,hu,Aoj ht⟩
  ·cases ht
 obtain⟨xs,n,rfl,hx,hl,hn,aE⟩:=DataW.trod_struct hu h;rw [hc] at hl;have bV:xs.map (·.1)=[.lit (.int .i64 x),.lit (.int .i64 y),.lit (.int .i64 z)]:=by
  have:=congrArg Aol hx;simpa using this.symm
 have one:∀(i:Nat) (v:Int),(fs.toList.map λ f=>(f.type,f.offset))[i]?=some (i64t,i)->(xs.map (·.1))[i]?=some (.lit (.int .i64 v))->(cs.drop i).take 1=[.int .i64 v]:=by
  intro i v kE hv;rw [Aom] at kE hv;obtain⟨f,hf,hff⟩:=Aok.1 kE;obtain⟨b,hb,hbv⟩:=Aok.1 hv;have:=aE i f (by simpa using hf);rw [hb,show f.type=i64t from congrArg Aol hff,show f.offset=i from congrArg Prod.snd hff,eV] at this;obtain⟨z',bG,rfl,_⟩:=DataW.trod_int hi this;cases hbv;exact bG
 rw [hfs,bV] at one
 match cs,hl with
 | [u0,u1,u2],_ =>
  have h0:=one 0 x rfl rfl;have h1:=one 1 y rfl rfl;have h2:=one 2 z rfl rfl;simp at h0 h1 h2;rw [h0,h1,h2]
theorem Af3{P:Program}{W:World}{name:String}{g:Nat}{t e:TypeId}{n m:Nat}{ds:List (DataW Unit)}{vss:List (List Value)}{rest:List (String × DataW Unit)}
  (hg:P.globalNamed name=some g) (j6:(P.globals[g]?).map (·.type)=some t) (ht:P.underlying t=some (.array n e)) (eX:P.cellsOf e=m) (eY:P.cellsOf t=n*m) (hv:vss.length=n) (hd:ds.length=n)
  (bM:∀(H:Type) (enc:TypeId × Value->Unit) (base:Nat) (sp:Nat->Bool) (held:Bool) (f:Nat) (i:Nat) (c:List Value) (d:DataW Unit) (q:List MemPlace),ds[i]?=some d->DataW.trod enc P W base sp held f e c=some (d,q)->vss[i]?=some c)
  (h:laidMet P ((name,.agg ds) :: rest) W):Rd W (some ⟨g,0,none⟩) vss.flatten:=by
 obtain⟨ps,⟨g',t',cs,fuel,p,q,aV,ht',hvar,cm,_,_⟩,_⟩:=h;obtain rfl:=Aoj (hg.symm.trans aV);obtain rfl:=Aoj (j6.symm.trans ht');have e:=AhQ ht eX eY hv hd (λ f i c d q h1 h2=>bM Unit _ _ _ _ f i c d q h1 h2) cm;refine Yk hg ?_;rw [hvar,<- e]
theorem ZF{α β:Type}(f:α->β):∀ l:List α,(l.map λ b=>[f b]).flatten=l.map f
 | []=>rfl
 | b :: l=>by rw [List.map_cons,Aoq,ZF f l];rfl
theorem AdM{P:Program}{W:World}{name:String}{g:Nat}{t e:TypeId}{n:Nat}{bs:List ByteArray}{rest:List (String × DataW Unit)}
  (hg:P.globalNamed name=some g) (j6:(P.globals[g]?).map (·.type)=some t) (ht:P.underlying t=some (.array n e)) (he:P.underlying e=some .string) (eX:P.cellsOf e=1) (eY:P.cellsOf t=n) (hn:bs.length=n)
  (h:laidMet P ((name,.agg (bs.map λ b=>.lit (.string (bl b)))) :: rest) W):Rd W (some ⟨g,0,none⟩) (bs.map Value.string):=by
 have:=Af3 (vss:=bs.map λ b=>[Value.string b]) hg j6 ht eX (by rw [eY,Nat.mul_one]) (by simpa using hn) (by simpa using hn) (λ _ _ _ _ _ f i c d q h1 h2=>by
  rw [Aom] at h1 ⊢;obtain⟨b,hb,rfl⟩:=Aok.1 h1;rw [hb,AhR he h2,DH];rfl) h
 rwa [ZF] at this
theorem Ajr{P:Program}{W:World}{name:String}{g:Nat}{t e i64t:TypeId}{n:Nat}{xs:List (Int × Int × Int)}{rest:List (String × DataW Unit)}
  (hg:P.globalNamed name=some g) (j6:(P.globals[g]?).map (·.type)=some t) (ht:P.underlying t=some (.array n e)) (he:Ja P e=some [(i64t,0),(i64t,1),(i64t,2)]) (hi:P.underlying i64t=some (.int .i64)) (eV:P.cellsOf i64t=1) (eX:P.cellsOf e=3) (eY:P.cellsOf t=n*3) (hn:xs.length=n)
  (h:laidMet P ((name,.agg (xs.map λ x=>.agg [.lit (.int .i64 x.1),.lit (.int .i64 x.2.1),.lit (.int .i64 x.2.2)])) :: rest) W):Rd W (some ⟨g,0,none⟩) (xs.flatMap λ x=>[Value.int .i64 x.1,.int .i64 x.2.1,.int .i64 x.2.2]):=by
 have:=Af3 (vss:=xs.map λ x=>[Value.int .i64 x.1,.int .i64 x.2.1,.int .i64 x.2.2]) hg j6 ht eX eY (by simpa using hn) (by simpa using hn) (λ _ _ _ _ _ f i c d q h1 h2=>by
  rw [Aom] at h1 ⊢;obtain⟨b,hb,rfl⟩:=Aok.1 h1;rw [hb,AcK he hi eV eX h2];rfl) h
 rwa [<- List.flatMap_def] at this
theorem Ak0 {W : World} {l : List (String × DataW Unit)} (hf : (l.filter λ x => x.1 == "internal/strconv.uint64pow10") = [("internal/strconv.uint64pow10", Rows.laid_internal_strconv_uint64pow10)]) (h : laidMet Tryz.prog l W) :
  Lib.TabIs Tryz.prog W "internal/strconv.uint64pow10" .u64 Lib.pow10Tab := by
 have h1 := h.filter λ x => x.1 == "internal/strconv.uint64pow10"
 rw [hf] at h1;exact Lib.tabIs_of_head (g:=7) (t:=456) (e:=ty.uint64) (n:=20) (by kernel_rfl) (by kernel_rfl) (by kernel_rfl) (by kernel_rfl) (by kernel_rfl) (by kernel_rfl) h1
theorem AkR{W:World}(h:W.ShapedOpen Tryz.prog):∃ m,W.cell? ⟨5,0,none⟩=some (.int .i64 m) :=
 cell_of_shapedOpen_int (zero:=#[.int .i64 0]) (t:=ty.int) h (of_decide_eq_true (by kernel_rfl)) (by kernel_rfl) rfl (by kernel_rfl) (by kernel_rfl) (by kernel_rfl)
def Ajj:List (Int × Int × Int):=[(-1,0,0),(0,0,0),(0,0,0),(2,1,1),(2,1,1),(2,1,1),(2,1,1),(2,1,1),(1,1,1),(2,0,2),(2,0,2),(2,0,2),(2,2,2),(2,2,2),(1,2,2),(1,0,2),(1,3,1)]
def Al3:List ByteArray:=[⟨#[115,101,108,101,99,116]⟩,⟨#[119,104,101,114,101]⟩,⟨#[103,114,111,117,112]⟩,⟨#[98,121]⟩,⟨#[111,114,100,101,114]⟩,⟨#[108,105,109,105,116]⟩,⟨#[97,115]⟩,⟨#[97,110,100]⟩,⟨#[111,114]⟩,⟨#[110,111,116]⟩,
 ⟨#[105,115]⟩,⟨#[110,117,108,108]⟩,⟨#[116,114,117,101]⟩,⟨#[102,97,108,115,101]⟩,⟨#[108,101,110]⟩,⟨#[100,101,115,99]⟩,⟨#[99,111,117,110,116]⟩,⟨#[115,117,109]⟩,⟨#[109,105,110]⟩,⟨#[109,97,120]⟩]
def Agy:List ByteArray:=[⟨#[]⟩,⟨#[]⟩,⟨#[99,111,117,110,116]⟩,⟨#[115,117,109]⟩,⟨#[109,105,110]⟩,⟨#[109,97,120]⟩]
theorem Akx {W : World} {l : List (String × DataW Unit)} (h1 : (l.filter λ x => x.1 == "stackyard/expr.shapes") = [("stackyard/expr.shapes", Rows.laid_stackyard_expr_shapes)]) (h2 : (l.filter λ x => x.1 == "stackyard/query.keys") = [("stackyard/query.keys", Rows.laid_stackyard_query_keys)])
  (h3 : (l.filter λ x => x.1 == "stackyard/query.gathers") = [("stackyard/query.gathers", Rows.laid_stackyard_query_gathers)]) (h4 : (l.filter λ x => x.1 == "internal/strconv.uint64pow10") = [("internal/strconv.uint64pow10", Rows.laid_internal_strconv_uint64pow10)])
  (hS:W.ShapedOpen Tryz.prog) (h:laidMet Tryz.prog l W):Env W:=by
 have g1 := h.filter λ x => x.1 == "stackyard/expr.shapes"
 have g2 := h.filter λ x => x.1 == "stackyard/query.keys"
 have g3 := h.filter λ x => x.1 == "stackyard/query.gathers"
 rw [h1] at g1;rw [h2] at g2;rw [h3] at g3;have e1:(Rows.laid_stackyard_expr_shapes:DataW Unit)=.agg (Ajj.map λ x=>.agg [.lit (.int .i64 x.1),.lit (.int .i64 x.2.1),.lit (.int .i64 x.2.2)]):=by rfl
 have e2:(Rows.laid_stackyard_query_keys:DataW Unit)=.agg (Al3.map λ b=>.lit (.string (bl b))):=by rfl
 have e3:(Rows.laid_stackyard_query_gathers:DataW Unit)=.agg (Agy.map λ b=>.lit (.string (bl b))):=by rfl
 rw [e1] at g1;rw [e2] at g2;rw [e3] at g3;exact⟨AkR hS,Ak0 h4 h,Ajr (g:=4) (t:=328) (e:=327) (i64t:=ty.int) (n:=17) (by kernel_rfl) (by kernel_rfl) (by kernel_rfl) (by kernel_rfl) (by kernel_rfl) (by kernel_rfl) (by kernel_rfl) (by kernel_rfl) rfl g1,
  AdM (g:=6) (t:=410) (e:=ty.string) (n:=20) (by kernel_rfl) (by kernel_rfl) (by kernel_rfl) (by kernel_rfl) (by kernel_rfl) (by kernel_rfl) rfl g2,
  AdM (g:=1) (t:=285) (e:=ty.string) (n:=6) (by kernel_rfl) (by kernel_rfl) (by kernel_rfl) (by kernel_rfl) (by kernel_rfl) (by kernel_rfl) rfl g3⟩
theorem Ah6(w:World):Ka [] w:=λ b vs h=>by cases h
theorem FL{b:Nat}{vs:List Value}{G:GT}{w:World}(h:Rd w (some ⟨b,0,none⟩) vs)(hp:XL vs=true)(hG:Ka G w):Ka ((b,vs) :: G) w:=by
 intro c us hc;unfold ZI at hc;cases hb:Nat.beq b c with
 | true =>
  simp only [hb,cond_true,An8] at hc;have:=Nat.eq_of_beq_eq_true hb;subst this;subst hc;refine⟨hp,λ i v hi=>?_⟩;obtain⟨p,hp,aJ⟩:=h i v hi;cases hp;rwa [Am,Nat.zero_add] at aJ
 | false =>
  simp only [hb,cond_false] at hc;exact hG c us hc
structure XE(w:World):Prop where
 E:Env w
 T:PB w
 G:Ka Ru.G1 w
theorem Amw {W : World} {l : List (String × DataW Unit)} (h1 : (l.filter λ x => x.1 == "stackyard/expr.shapes") = [("stackyard/expr.shapes", Rows.laid_stackyard_expr_shapes)]) (h2 : (l.filter λ x => x.1 == "stackyard/query.keys") = [("stackyard/query.keys", Rows.laid_stackyard_query_keys)])
  (h3 : (l.filter λ x => x.1 == "stackyard/query.gathers") = [("stackyard/query.gathers", Rows.laid_stackyard_query_gathers)]) (h4 : (l.filter λ x => x.1 == "internal/strconv.uint64pow10") = [("internal/strconv.uint64pow10", Rows.laid_internal_strconv_uint64pow10)])
  (h5 : (l.filter λ x => x.1 == "stackyard/hash.first") = [("stackyard/hash.first", Rows.laid_stackyard_hash_first)]) (h6 : (l.filter λ x => x.1 == "stackyard/hash.orders") = [("stackyard/hash.orders", Rows.laid_stackyard_hash_orders)])
  (h7 : (l.filter λ x => x.1 == "stackyard/hash.places") = [("stackyard/hash.places", Rows.laid_stackyard_hash_places)])
  (h8 : (l.filter λ x => x.1 == "stackyard/expr.ands") = [("stackyard/expr.ands", Rows.laid_stackyard_expr_ands)]) (h9 : (l.filter λ x => x.1 == "stackyard/expr.ors") = [("stackyard/expr.ors", Rows.laid_stackyard_expr_ors)])
  (hS:W.ShapedOpen Tryz.prog) (h:laidMet Tryz.prog l W):XE W:=by
 have E:=Akx h1 h2 h3 h4 hS h;have T:=Ajq h5 h6 h7 h;have g1 := h.filter λ x => x.1 == "stackyard/expr.ands"
 have g2 := h.filter λ x => x.1 == "stackyard/expr.ors"
 rw [h8] at g1;rw [h9] at g2;have e1:(Rows.laid_stackyard_expr_ands:DataW Unit)=.agg ([[0,0,0],[0,1,2],[0,2,2]].map (Lib.tabData .i64)):=by rfl
 have e2:(Rows.laid_stackyard_expr_ors:DataW Unit)=.agg ([[0,1,2],[1,1,1],[2,1,2]].map (Lib.tabData .i64)):=by rfl
 rw [e1] at g1;rw [e2] at g2;have r1:=SF (g:=12) (t:=492) (e:=491) (e2:=3) (n:=3) (m:=3) (by kernel_rfl) (by kernel_rfl) (by kernel_rfl) (by kernel_rfl) (by kernel_rfl) (by kernel_rfl) (by kernel_rfl) (by kernel_rfl) g1;have r2:=SF (g:=13) (t:=492) (e:=491) (e2:=3) (n:=3) (m:=3) (by kernel_rfl) (by kernel_rfl) (by kernel_rfl) (by kernel_rfl) (by kernel_rfl) (by kernel_rfl) (by kernel_rfl) (by kernel_rfl) g2;exact⟨E,T,FL E.shp (by kernel_rfl) (FL E.key (by kernel_rfl) (FL E.gat (by kernel_rfl) (FL r1 (by kernel_rfl) (FL r2 (by kernel_rfl) (FL T.first (by kernel_rfl) (FL T.orders (by kernel_rfl) (FL T.places (by kernel_rfl) (Ah6 W))))))))⟩
inductive Ex where
 | mk (op:Int) (nm:ByteArray) (v:Ax) (ks:List Ex)
def Ex.op:Ex->Int | .mk op _ _ _=>op
def Ex.nm:Ex->ByteArray | .mk _ nm _ _=>nm
def Ex.v:Ex->Ax | .mk _ _ v _=>v
def Ex.ks:Ex->List Ex | .mk _ _ _ ks=>ks
abbrev i64(n:Int):Prop := -9223372036854775808<=n/\n<=9223372036854775807
def M5(x:Ex)(a:Option Addr)(cap:Nat):List Value:=[.int .i64 x.op,.string x.nm,.int .i64 x.v.1,.int .i64 x.v.2.1,.string x.v.2.2,.slice a x.ks.length cap]
mutual
def ExC(F:Nat->Prop)(w:World):Ex->List Value->Prop
 | .mk op nm v ks,cs=>∃ a cap rs,cs=[.int .i64 op,.string nm,.int .i64 v.1,.int .i64 v.2.1,.string v.2.2,.slice a ks.length cap] /\
   (Rd w a rs/\(∀ p,a=some p->rs≠[]->¬ F p.block)/\ks.length<=cap/\cap<=maxLen/\(a=none->cap=0)) /\
   (i64 op/\nm.size<=maxLen/\i64 v.1/\i64 v.2.1/\v.2.2.size<=maxLen)/\ExL F w ks rs
def ExL(F:Nat->Prop)(w:World):List Ex->List Value->Prop
 | [],cs=>cs=[]
 | x :: xs,cs=>∃ c r,cs=c++r/\ExC F w x c/\ExL F w xs r
end
section
variable {F G:Nat->Prop}{w w':World}
theorem ExC.len{x:Ex}{cs:List Value}(h:ExC F w x cs):cs.length=6:=by
 obtain⟨op,nm,v,ks⟩:=x;unfold ExC at h;obtain⟨a,cap,rs,rfl,_⟩:=h;rfl
theorem ExC.open{x:Ex}{cs:List Value}(h:ExC F w x cs):∃ a cap rs,cs=M5 x a cap/\Rd w a rs/\(∀ p,a=some p->rs≠[]->¬ F p.block)/\x.ks.length<=cap/\cap<=maxLen/\(a=none->cap=0) /\
  (i64 x.op/\x.nm.size<=maxLen/\i64 x.v.1/\i64 x.v.2.1/\x.v.2.2.size<=maxLen)/\ExL F w x.ks rs:=by
 obtain⟨op,nm,v,ks⟩:=x;unfold ExC at h;obtain⟨a,cap,rs,rfl,⟨h1,h2,h3,h4,h5⟩,h6,h7⟩:=h;exact⟨a,cap,rs,rfl,h1,h2,h3,h4,h5,h6,h7⟩
end
/-! ### nodes -/
mutual
def Ex.nodes:Ex->Nat->List (Nat × Ex)
 | .mk op nm v ks,d=>(d,.mk op nm v ks) :: if d<=40 then Ex.Ag4 ks (d+1) else []
def Ex.Ag4:List Ex->Nat->List (Nat × Ex)
 | [],_=>[]
 | k :: ks,d=>k.nodes d++Ex.Ag4 ks d
end
mutual
def Ex.size:Ex->Nat
 | .mk _ _ _ ks=>Ex.AjW ks+1
def Ex.AjW:List Ex->Nat
 | []=>0
 | k :: ks=>k.size+Ex.AjW ks
end
def AkQ(op:Int):Int :=
 if op=1\/op=2 then 0 else if op=8\/op=14\/op=15\/op=16 then 1 else if 3<=op/\op<=13 then 2 else -1
abbrev V0:Ax:=(0,0,E0)
def okN(x:Ex):Bool:=decide ((x.ks.length:Int)=AkQ x.op) && (decide (x.op=1) || decide (x.nm=E0)) && (decide (x.op=2) || decide (x.v=V0)) && AL x.v
mutual
def Ex.okA:Ex->Nat->Bool
 | _,0=>false
 | .mk op nm v ks,d+1=>okN (.mk op nm v ks) && Ex.okL ks d
def Ex.okL:List Ex->Nat->Bool
 | [],_=>true
 | k :: ks,d=>k.okA d && Ex.okL ks d
end
def Ex.formed(x:Ex):Bool:=x.okA 40 && decide (x.size<=400)
theorem YY{p:UInt8->Bool}(h:(AnY 256).all (λ n=>p (AnG n))=true)(c:UInt8):p c=true:=by
 have:=An9.1 h c.toNat (List.mem_range.2 c.toNat_lt);simpa using this
def Ua:ByteArray:=⟨#[97,98,99,100,101,102,103,104,105,106,107,108,109,110,111,112,113,114,115,116,117,118,119,120,121,122]⟩
def Sw:ByteArray:=⟨#[97,98,99,100,101,102,103,104,105,106,107,108,109,110,111,112,113,114,115,116,117,118,119,120,121,122,48,49,50,51,52,53,54,55,56,57,95]⟩
theorem AiX(c:UInt8):decide (Lib.indexByte Ua.data.toList c>=0)=Ab6 c:=by
 have:=YY (p:=λ c=>decide (Lib.indexByte Ua.data.toList c>=0)==Ab6 c) (by kernel_rfl) c;simpa using this
theorem Ajc(c:UInt8):(bl Sw).contains c=(Ab6 c || Ajb c):=by
 have:=YY (p:=λ c=>(bl Sw).contains c==(Ab6 c || Ajb c)) (by kernel_rfl) c;simpa using this
theorem V8{s:ByteArray}(h1:1<=s.size)(h2:s.size<=24):HH s=(Ab6 (D6 s 0) && (bl s).all λ c=>Ab6 c || Ajb c):=by
 have hl:(bl s).length=s.size:=CG s;have he:∀ i (hi:i<(bl s).length),D6 s i=(bl s)[i]:=λ i hi=>by rw [X7];simp [List.getD,hi]
 rw [Aon];simp only [HH,Ana,An9,List.mem_range,decide_eq_true_eq,h1,h2,and_true];constructor
 ·intro h;refine⟨?_,λ c hc=>?_⟩
  ·have:=h 0 (by omega);simpa [nameAt] using this
  ·obtain⟨i,hi,rfl⟩:=List.getElem_of_mem hc;have:=h i (by omega);rw [nameAt,he i hi] at this;simp only [Bool.or_eq_true,Ana] at this ⊢;rcases this with h | h
   ·exact .inl h
   ·exact .inr h.1
 ·rintro⟨h0,h⟩ i hi;have kE:i<(bl s).length:=by omega
  have:=h _ (List.getElem_mem kE);rw [nameAt];by_cases hz:i=0
  ·subst hz;simp [h0]
  ·rw [he i kE];simp only [Bool.or_eq_true,Ana] at this ⊢;rcases this with h | h
   ·exact .inl h
   ·exact .inr ⟨h,by simpa using hz⟩
theorem IC(s:ByteArray)(hs:s.size<=9223372036854775807)(w:World):Calls Tryz.prog f.Vn #[.string s] w (AB λ r w'=>r=.bool (HH s)/\Below w.heap.size w w'):=by
 apply R.Mm
 delta R.B R.Ci R.Ct R.F R.G R.T R.X;try dsimp only [R.Ps]
 refine A5 (AU (λ h=>?_) (λ h0=>?_))
 ·rw [AK] at h;have:s=⟨#[]⟩:=by simpa using h
  subst this;exact⟨rfl,.refl _ _⟩
 rw [AK] at h0;have aQ:s≠⟨#[]⟩:=by simpa using h0
 have h1:1<=s.size:=by
  rcases Nat.eq_zero_or_pos s.size with h | h
  ·exact absurd (MW (by rw [Anq ((CG s).trans h)];rfl)) aQ
  ·exact h
 refine Aa (λ h2=>?_) (λ h2=>⟨?_,.refl _ _⟩)
 case refine_2 =>
  have cH:¬ s.size<=24:=by omega
  simp [HH,cH]
 have cH:s.size<=24:=by omega
 have hb:=(D6 s 0).toNat_lt;refine⟨⟨by omega,by omega⟩,(Tryz.strings_IndexByte Ua ((D6 s 0).toNat:Int) w).mono ?_⟩;rintro _ w1 ⟨rfl,rfl⟩;refine⟨_,rfl,?_⟩;have e:((D6 s 0).toNat:Int).toNat.toUInt8=D6 s 0:=by simp
 rw [e,AiX];refine AU (λ h3=>?_) (λ h3=>⟨?_,.refl _ _⟩)
 ·refine (Sj s Sw hs (by decide) (by decide) ?_ w1).mono ?_
  ·intro j b hj;have h:Sw.data.toList.all (λ b=>decide (b.toNat<128))=true:=by decide
   exact of_decide_eq_true (An9.1 h b (List.mem_of_getElem? hj))
  rintro _ w2 ⟨_,rfl,q,rfl,hq,B⟩;refine⟨_,rfl,?_,B⟩;congr 1;rw [AK,V8 h1 cH,h3,Bool.true_and,Aon,decide_eq_true_eq,hq];simp only [An9,Ajc]
 ·rw [V8 h1 cH,h3,Bool.false_and]
def Si(f:Nat->Bool)(w:Nat):Nat->Nat->Nat
 | 0,_=>0
 | t+1,j=>if j=t / w/\f t=true then Si f w t j ||| 2 ^ (t % w) else Si f w t j
theorem SD(f:Nat->Bool){w:Nat}(hw:0<w)(t i k:Nat):(Si f w t i).testBit k=(decide (k<w/\i*w+k<t) && f (i*w+k)):=by
 induction t with
 | zero=>simp [Si]
 | succ t ih =>
  unfold Si;have hd:=Nat.div_add_mod t w;have hm:=AnX t hw;rw [AnN] at hd;split
  ·rename_i h;obtain⟨rfl,hf⟩:=h;rw [Nat.testBit_or,ih,Nat.testBit_two_pow];by_cases hk:t % w=k
   ·subst hk;rw [hd];simp [hm,hf]
   ·have:¬ (t / w*w+k=t):=by omega
    rw [Aon];simp [hk];intro _ _;omega
  ·rename_i h;rw [ih];by_cases hk:k<w/\i*w+k=t
   ·have hi:i=t / w:=by
     rw [<- hk.2,AnN,Nat.mul_add_div hw,Nat.div_eq_of_lt hk.1];rfl
    have hf:f t=false:=by
     cases cY:f t
     ·rfl
     ·exact absurd ⟨hi,cY⟩ h
    rw [hk.2,hf];simp
   ·rw [Aon];simp;intro _ _;omega
theorem Alc(f:Nat->Bool)(t j:Nat):UX f t j=Si f 8 t j:=by
 induction t with
 | zero=>rfl
 | succ t ih=>unfold UX Si;rw [ih]
theorem AhC(f:Nat->Bool){w:Nat}(hw:0<w)(t i:Nat):Si f w t i<2 ^ w:=by
 apply Nat.lt_pow_two_of_testBit;intro k hk;rw [SD f hw];simp;intro h;omega
def Fu(l:List UInt8)(t:Nat):Bool:=(l.getD (t / 8) 0).toNat.testBit (t % 8)
def BB(l:List UInt8)(n w:Nat):List Nat:=(AnY n).map (Si (Fu l) w (n*w))
theorem Dp(l:List UInt8)(n w:Nat):(BB l n w).length=n:=by simp [BB]
theorem AcM(l:List UInt8)(n w:Nat):∀ x∈BB l n w,x<2 ^ w:=by
 intro x hx;obtain⟨i,_,rfl⟩:=Ang.1 hx;by_cases hw:0<w
 ·exact AhC _ hw _ _
 ·have:w=0:=by omega
  subst this;simp [Si]
theorem YX(l:List UInt8){n w t:Nat}(ht:t<n*w):GN (BB l n w) w t=Fu l t:=by
 have hw:0<w:=Nat.pos_of_ne_zero (by rintro rfl;simp at ht);have hi:t / w<n:=(Nat.div_lt_iff_lt_mul hw).2 ht;have hd:=Nat.div_add_mod t w;have hm:=AnX t hw;rw [AnN] at hd;unfold GN;have:(BB l n w).getD (t / w) 0=Si (Fu l) w (n*w) (t / w):=by simp [BB,hi]
 rw [this,SD _ hw,hd];simp [hm,ht]
theorem NG{c:UInt8}{k:Nat}(hk:8<=k):c.toNat.testBit k=false :=
 Nat.testBit_lt_two_pow (Nat.lt_of_lt_of_le c.toNat_lt (Nat.pow_le_pow_right (by omega) hk))
theorem Aln{c d:UInt8}(h:∀ k,k<8->c.toNat.testBit k=d.toNat.testBit k):c=d:=by
 apply UInt8.toNat_inj.1;apply Nat.eq_of_testBit_eq;intro k;by_cases hk:k<8
 ·exact h k hk
 ·rw [NG (by omega),NG (by omega)]
theorem Um{xs:List Nat}{w j:Nat}(hj:j<EI xs.length w):(Ba xs w)[j]?=some (AnG (UX (GN xs w) (xs.length*w) j)):=by
 simp [Ba,hj]
theorem Ul{xs:List Nat}{w j k:Nat}(hk:k<8):(AnG (UX (GN xs w) (xs.length*w) j)).toNat.testBit k=(decide (j*8+k<xs.length*w) && GN xs w (j*8+k)):=by
 rw [D4 (AcE _ _ _),Alc,SD _ (by omega)];simp [hk]
theorem AhL{l:List UInt8}{n w:Nat}(hl:l.length=EI n w):Ba (BB l n w) w=l↔∀ t,n*w<=t->Fu l t=false:=by
 have hs:EI (BB l n w).length w=l.length:=by rw [Dp,hl]
 have hN:l.length=(n*w+7) / 8:=hl;constructor
 ·intro h t ht;by_cases hj:t / 8<l.length
  ·have h1:(Ba (BB l n w) w)[t / 8]?=l[t / 8]?:=by rw [h]
   rw [Um (by omega),AnB hj] at h1;have h2:=Aoj h1;unfold Fu;have:l.getD (t / 8) 0=l[t / 8]:=by simp [hj]
   rw [this,<- h2,Ul (AnX _ (by omega)),Dp];have:¬ (t / 8*8+t % 8<n*w):=by omega
   simp [this]
  ·unfold Fu;have:l.getD (t / 8) 0=0:=by simp [List.getD,Aoo (Aos hj)]
   rw [this];simp
 ·intro h;apply List.ext_getElem?;intro j;by_cases hj:j<l.length
  ·rw [Um (by omega),AnB hj];congr 1;apply Aln;intro k hk;rw [Ul hk,Dp];have hb:Fu l (j*8+k)=l[j].toNat.testBit k:=by
    unfold Fu;rw [show (j*8+k) / 8=j by omega,show (j*8+k) % 8=k by omega];simp [hj]
   by_cases ht:j*8+k<n*w
   ·rw [YX l ht,hb];simp [ht]
   ·have:=h _ (Aos ht);rw [<- hb,this];simp [ht]
  ·rw [Aoo (by rw [CH];omega),Aoo (by omega)]
theorem Afo{l:List UInt8}{T:Nat}(hl:l.length=(T+7) / 8):(∀ t,T<=t->Fu l t=false)↔(0<l.length->T % 8≠0->(l.getD (l.length-1) 0).toNat / 2 ^ (T % 8)=0):=by
 constructor
 ·intro h h0 h8;apply Nat.eq_of_testBit_eq;intro k;rw [Nat.testBit_div_two_pow,Nat.zero_testBit];by_cases hk:T % 8+k<8
  ·have:=h (T+k) (by omega);unfold Fu at this;rw [show (T+k) / 8=l.length-1 by omega,show (T+k) % 8=T % 8+k by omega] at this;rw [Nat.add_comm];exact this
  ·exact NG (by omega)
 ·intro h t ht;unfold Fu;by_cases hj:t / 8<l.length
  ·have h8:T % 8≠0:=by omega
   have:=h (by omega) h8;have e:t / 8=l.length-1:=by omega
   rw [e];have h2:((l.getD (l.length-1) 0).toNat / 2 ^ (T % 8)).testBit (t % 8-T % 8)=false:=by rw [this,Nat.zero_testBit]
   rw [Nat.testBit_div_two_pow] at h2;rw [show t % 8-T % 8+T % 8=t % 8 by omega] at h2;exact h2
  ·have:l.getD (t / 8) 0=0:=by simp [List.getD,Aoo (Aos hj)]
   rw [this];simp
/-! ### rows of numbers -/
def Ml(f:Nat->Bool)(w m t:Nat):Array Value:=⟨(AnY m).map λ j=>.int .u64 (Si f w t j:Int)⟩
theorem Afg(f:Nat->Bool)(w m t:Nat):(Ml f w m t).size=m:=by simp [Ml]
theorem Ahp{f:Nat->Bool}{w m t j:Nat}(h:j<m):(Ml f w m t)[j]?=some (.int .u64 (Si f w t j:Int)):=by simp [Ml,h]
theorem Ahq{f:Nat->Bool}{w m t:Nat}(v:Nat)(hv:v=Si f w (t+1) (t / w)):(Ml f w m t).setIfInBounds (t / w) (.int .u64 (v:Int))=Ml f w m (t+1):=by
 apply Array.ext';apply List.ext_getElem?;intro i;simp only [Array.toList_setIfInBounds,Ml,List.getElem?_set,List.length_map,List.length_range];by_cases h:t / w=i
 ·subst h;by_cases h2:t / w<m
  ·simp [h2,hv]
  ·simp [h2]
 ·have e:Si f w (t+1) i=Si f w t i:=by
   conv=>lhs;unfold Si
   rw [if_neg (by omega)]
  by_cases h2:i<m
  ·simp [h,h2,e]
  ·simp [h,h2]
theorem Afh(f:Nat->Bool)(w m:Nat):madeCells (Value.int .u64 0).cells (m*1)=Ml f w m 0:=by
 apply Array.ext';rw [El _ rfl];simp [Ml,Si,List.map_const']
theorem Aho(l:List UInt8)(n w:Nat):(Ml (Fu l) w n (n*w)).toList=(BB l n w).map Hr:=by
 simp [Ml,BB,Hr]
theorem AhD(f:Nat->Bool)(w t:Nat):Si f w t (t / w) ||| (f t).toNat*2 ^ (t % w)=Si f w (t+1) (t / w):=by
 conv=>rhs;unfold Si
 cases h:f t
 ·simp
 ·simp
/-! ### words -/
theorem Ad2{x k:Nat}(hx:x<256)(hk:k<8):IntKind.u8.wrap (((Am6 8 (Int.fdiv (x:Int) (2 ^ (min k 8))) &&& Am6 8 1).toNat:Int))=((x.testBit k).toNat:Int):=by
 rw [show min k 8=k by omega,fdiv_pow];have hle:x / 2 ^ k<=x:=Nat.div_le_self _ _;have e:(Am6 8 ((x / 2 ^ k:Nat):Int) &&& Am6 8 1).toNat=x / 2 ^ k % 2:=by
  rw [BitVec.toNat_and,BitVec.ofInt_natCast,BitVec.toNat_ofNat,Nat.mod_eq_of_lt (by omega)];exact Nat.and_two_pow_sub_one_eq_mod _ 1
 rw [e];have hm:x / 2 ^ k % 2<2:=AnX _ (by omega);rw [Nat.testBit_eq_decide_div_mod_eq];generalize x / 2 ^ k % 2=y at hm;rw [Bh (by omega) (by omega)];rcases (by omega:y=0\/y=1) with rfl | rfl <;> rfl
theorem Afj{b:Bool}{s:Nat}(hs:s<64):IntKind.u64.wrap (IntKind.u64.wrap (b.toNat:Int)*2 ^ (min s 64))=((b.toNat*2 ^ s:Nat):Int):=by
 have hp:2 ^ s<2 ^ 64:=Nat.pow_lt_pow_right (by omega) hs;rw [show min s 64=s by omega,show IntKind.u64.wrap (b.toNat:Int)=(b.toNat:Int) by cases b <;> decide];have e:((b.toNat:Int)*2 ^ s)=((b.toNat*2 ^ s:Nat):Int):=by norm_cast
 rw [e];cases b
 ·simp;decide
 ·simp only [Bool.toNat_true,Nat.one_mul];generalize 2 ^ s=y at hp;rw [Ar (by omega) (by omega)]
def DK(x:Int):Value:=.int .i64 x
def Hw(x:Int):Prop := -9223372036854775808<=x/\x<=9223372036854775807
theorem LN(x:Int):Hw (IntKind.i64.wrap x):=by
 rw [Co];unfold Hw;split <;> omega
def GZ(x:Nat):Nat:=if x=0 then 0 else Nat.log2 x+1
theorem XB(x:Nat):Ea x (GZ x):=by
 unfold GZ;split
 ·rename_i h;subst h;exact⟨by decide,.inl rfl⟩
 ·rename_i h;exact⟨Nat.lt_log2_self,.inr (by rw [Nat.add_sub_cancel];exact Nat.log2_self_le h)⟩
def E6(x:Int):List UInt8:=Ag (Fk x)
theorem UD{x:Int}(h:Hw x):(E6 x).length<=10:=Aq (HP h.1 h.2)
def Fq:List Int->List UInt8
 | []=>[]
 | x :: r=>Ag ((r.takeWhile (·==x)).length+1)++(E6 x++Fq (r.drop (r.takeWhile (·==x)).length))
termination_by l=>l.length
decreasing_by simp only [AnC,AnQ];omega
structure AfI(l:List Int)(k n:Nat):Prop where
 pos:0<n
 le:k+n<=l.length
 all:∀ j,j<n->l[k+j]?=l[k]?
 stop:k+n=l.length\/l[k+n]?≠l[k]?
theorem MQ{x:Int}:∀ {r:List Int} {n:Nat},n<=r.length->(∀ j,j<n->r[j]?=some x)->(n=r.length\/r[n]?≠some x)->(r.takeWhile (·==x)).length=n
 | [],n,h1,_,_=>by simp at h1;simp [h1]
 | y :: r,0,_,_,h3=>by
  rcases h3 with h3 | h3
  ·simp at h3
  ·simp only [Aor,ne_eq,An8] at h3;rw [List.takeWhile_cons_of_neg (by simpa using h3)];rfl
 | y :: r,n+1,h1,h2,h3=>by
  have h0:=h2 0 (by omega);simp only [Aor,An8] at h0;rw [List.takeWhile_cons_of_pos (by simpa using h0),AnQ];rw [MQ (r:=r) (n:=n) (by simpa using h1) (λ j hj=>by have:=h2 (j+1) (by omega);simpa using this) (by
   rcases h3 with h3 | h3
   ·exact .inl (by simpa using h3)
   ·exact .inr (by simpa using h3))]
theorem Ahu{l:List Int}{k n:Nat}(h:AfI l k n):Fq (l.drop k)=Ag n++(E6 (l.getD k 0)++Fq (l.drop (k+n))):=by
 have hp:=h.pos;have hl:=h.le;have hk:k<l.length:=by omega
 have hg:l.getD k 0=l[k]:=by simp [hk]
 have hk?:l[k]?=some l[k]:=AnB hk;rw [List.drop_eq_getElem_cons hk,hg]
 conv=>lhs;unfold Fq
 have hT:((l.drop (k+1)).takeWhile (·==l[k])).length=n-1:=by
  apply MQ
  ·rw [AnC];omega
  ·intro j hj;rw [List.getElem?_drop,<- hk?,<- h.all (j+1) (by omega)];congr 1;omega
  ·rcases h.stop with h3 | h3
   ·left;rw [AnC];omega
   ·right;rw [List.getElem?_drop,<- hk?];have e:k+1+(n-1)=k+n:=by omega
    rw [e];exact h3
 rw [hT,Aop,show n-1+1=n by omega,show k+1+(n-1)=k+n by omega]
theorem L6:Fq []=[]:=by unfold Fq;rfl
def CC(l:List Int):List Nat:=(AnY (l.length-1)).map λ i=>Fk (IntKind.i64.wrap (l.getD (i+1) 0-l.getD i 0))
def Fp(l:List Int)(k:Nat):Int:=(l.take k).foldl (λ m x=>if x<m then x else m) (l.headD 0)
def HZ(l:List Int):Int:=Fp l l.length
def CU(l:List Int):List Nat:=l.map λ x=>(x-HZ l).toNat
theorem Ue{l:List Int}{k:Nat}(hk:k<l.length):Fp l (k+1)=if l[k]<Fp l k then l[k] else Fp l k:=by
 unfold Fp;rw [List.take_succ_eq_append_getElem hk,List.foldl_append];rfl
theorem Je(l:List Int):∀ m:Int,l.foldl (λ m x=>if x<m then x else m) m<=m/\(∀ x∈l,l.foldl (λ m x=>if x<m then x else m) m<=x)/\(l.foldl (λ m x=>if x<m then x else m) m=m\/l.foldl (λ m x=>if x<m then x else m) m∈l):=by
 induction l with
 | nil=>intro m;simp
 | cons y l ih =>
  intro m;obtain⟨h1,h2,h3⟩:=ih (if y<m then y else m);rw [List.foldl_cons];refine⟨?_,?_,?_⟩
  ·refine Int.le_trans h1 ?_;split <;> omega
  ·intro x hx;rcases List.mem_cons.1 hx with rfl | hx
   ·refine Int.le_trans h1 ?_;split <;> omega
   ·exact h2 x hx
  ·rcases h3 with h3 | h3
   ·rw [h3];split
    ·right;exact AnT ..
    ·left;rfl
   ·right;exact AnU _ h3
theorem Sv{l:List Int}{x:Int}(h:x∈l):HZ l<=x:=by
 unfold HZ Fp;rw [List.take_length];exact (Je l _).2.1 x h
theorem EF{l:List Int}(h:∀ x∈l,Hw x)(h0:0<l.length)(k:Nat):Hw (Fp l k):=by
 unfold Fp;have hh:Hw (l.headD 0):=by
  cases l with
  | nil=>simp at h0
  | cons y l=>exact h y (AnT ..)
 rcases (Je (l.take k) (l.headD 0)).2.2 with e | e
 ·rw [e];exact hh
 ·exact h _ (List.mem_of_mem_take e)
theorem Qz{l:List Int}:∀ x∈CC l,x<18446744073709551616:=by
 intro x hx;obtain⟨i,_,rfl⟩:=Ang.1 hx;have:=LN (l.getD (i+1) 0-l.getD i 0);exact HP this.1 this.2
theorem PT{l:List Int}(h:∀ x∈l,Hw x):∀ x∈CU l,x<18446744073709551616:=by
 intro x hx;obtain⟨y,hy,rfl⟩:=Ang.1 hx;have h1:=h y hy;have h2:=EF h (List.length_pos_of_mem hy) l.length;have h3:=Sv hy;unfold HZ at h3 ⊢;unfold Hw at h1 h2;omega
def E4(first:Int)(s:List Nat):List UInt8:=E6 first++(AnG (GZ (Mf s)) :: Ba s (GZ (Mf s)))
def DR(form:Nat)(l:List Int):List UInt8 :=
 match form with
 | 0=>0 :: l.flatMap E6
 | 1=>1 :: Fq l
 | 2=>2 :: (if l=[] then [] else E4 (l.headD 0) (CC l))
 | _=>3 :: (if l=[] then [] else E4 (HZ l) (CU l))
theorem PZ{s:List Nat}(h:∀ x∈s,x<18446744073709551616):GZ (Mf s)<=64:=(XB _).le.2 ((Jo s 64).2 h)
theorem Ra{f:Int}{s:List Nat}(hf:Hw f)(h:∀ x∈s,x<18446744073709551616):(E4 f s).length<=12+s.length*8:=by
 have h1:=UD hf;have h2:=CH s (GZ (Mf s));have h3:=PZ h;unfold E4;simp only [Anp,AnQ];unfold EI at h2;have h4:s.length*GZ (Mf s)<=s.length*64:=Nat.mul_le_mul_left _ h3;omega
theorem QX{l:List Int}(h:∀ x∈l,Hw x):(l.flatMap E6).length<=l.length*10:=by
 induction l with
 | nil=>simp
 | cons x l ih =>
  have h1:=UD (h x (AnT ..));have h2:=ih λ y hy=>h y (AnU _ hy);simp only [List.flatMap_cons,Anp,AnQ];omega
theorem Qw:∀(n:Nat) (l:List Int),l.length<=n->n<=4096->(∀ x∈l,Hw x)->(Fq l).length<=l.length*20
 | _,[],_,_,_=>by rw [L6];simp
 | 0,x :: l,h,_,_=>by simp at h
 | n+1,x :: l,h,hn,hx=>by
  unfold Fq;have h1:=UD (hx x (AnT ..));have hT:(l.takeWhile (·==x)).length<=l.length:=(List.takeWhile_sublist _).length_le;have hl:l.length<=n:=by simpa using h
  have h2:=Aq (n:=(l.takeWhile (·==x)).length+1) (by omega);have h3:=Qw n (l.drop (l.takeWhile (·==x)).length) (by rw [AnC];omega) (by omega) (λ y hy=>hx y (AnU _ (List.mem_of_mem_drop hy)));rw [AnC] at h3;simp only [Anp,AnQ];omega
theorem AeI{l:List Int}(f:Nat)(hn:l.length<=4096)(h:∀ x∈l,Hw x):(DR f l).length<=13+l.length*20:=by
 unfold DR;split
 ·have:=QX h;simp only [AnQ];omega
 ·have:=Qw 4096 l hn (by omega) h;simp only [AnQ];omega
 ·split
  ·simp only [AnQ,List.length_nil];omega
  ·rename_i h0;have hp:0<l.length:=List.length_pos_iff.2 h0;have h1:Hw (l.headD 0):=by
    have:=EF h hp 0;simpa [Fp] using this
   have:=Ra h1 (Qz (l:=l));have e:(CC l).length=l.length-1:=by simp [CC]
   rw [e] at this;simp only [AnQ];omega
 ·split
  ·simp only [AnQ,List.length_nil];omega
  ·rename_i h0;have hp:0<l.length:=List.length_pos_iff.2 h0;have:=Ra (EF h hp l.length) (PT h);have e:(CU l).length=l.length:=by simp [CU]
   rw [e] at this;unfold HZ;simp only [AnQ];omega
end Go.Proofs.YtoepjfblppfabaaGreatDoor
