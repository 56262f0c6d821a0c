/-
  Texts of this claim, laid one behind the other by a program of mine (install.py): Dn.Ev3, Dn.Ev4, Dn.Ev5, Dn.Ev6, Dn.Ev7, Dn.Ev8, Dn.Ev9, Dn.Ev10, Dn.Ev11, Dn.Ev12, Dn.Ev13, Dn.Ev13m, Dn.Ev13c, Dn.Ev14.
-/
import Derived.Test.YtoepjfblppfabaaGreatDoorM4
set_option linter.unusedVariables false
set_option maxRecDepth 100000
namespace Go.Dn
open _root_.BitVec renaming ofInt -> Am6
open _root_.Bool renaming and_eq_true -> Ana, not_eq_true' -> Aoa
open _root_.List renaming all_eq_true -> An9
open _root_.Nat renaming beq -> Am7, ble -> An7, ble_eq -> An6, blt -> Anc, eq_of_beq_eq_true -> Anb, ne_of_beq_eq_false -> An4, zero_le -> Aob
open _root_.Option.some renaming injEq -> An8
section
variable {P:Program}{g:Sg}
theorem Bj{α β:Type}(s:Sem α)(k:α->Sem β):AH P (s >>= k)=(AH P s).bind λ a=>AH P (k a):=by
 show AH P (Sem.bind s k)=_
 induction s with
 | pure a=>rfl
 | program f ih=>simp only [Sem.bind,AH];exact ih P
 | mark m s ih=>simp only [Sem.bind,AH];exact ih
 | _=>rfl
theorem Dl{α β:Type}(f:α->β)(s:Sem α):AH P (f <$> s)=(AH P s).map f:=by
 show AH P (Sem.bind s λ a=>Sem.pure (f a))=_;have:=Bj (P:=P) s (λ a=>(pure (f a):Sem β));exact this.trans (by cases AH P s <;> rfl)
theorem CN{α:Type}(a:α):AH P (pure a)=some a:=rfl
theorem Bm(t:TypeId):AH P (underlying t)=P.underlying t:=by
 unfold underlying;rw [Bj];show AH P _=_;cases h:P.underlying t <;> simp <;> rfl
theorem Dc(t:TypeId):AH P (typeInfo t)=P.info? t:=by
 unfold typeInfo;rw [Bj];show AH P _=_;cases h:P.info? t <;> simp <;> rfl
/-! ## Operations whose operands hang on no place -/
def Q3(o:Oper):Bool :=
 match o.op with
 | .unOp _ _ _ | .field _ _ _ | .extract _ _ | .build _ _ | .convert _ _ _ | .makeInterface _ _=>true
 | .call { callee:=.builtin b,.. } =>
  match b with
  | .len | .cap | .min | .max=>true
  | _=>false
 | _=>false
theorem execOp_congr{o:Oper}(hd:Q3 o=true){ρ ρ':Operand->Value}(h:∀ x∈o.op.operands,ρ x=ρ' x):execOp ρ o=execOp ρ' o:=by
 obtain⟨dst,op,type,pos,after,guard⟩:=o;unfold Q3 at hd;cases op with
 | unOp a b x=>simp [Op.operands] at h;simp [execOp,h]
 | field a x b=>simp [Op.operands] at h;simp [execOp,h]
 | extract x b=>simp [Op.operands] at h;simp [execOp,h]
 | convert a b x=>simp [Op.operands] at h;simp [execOp,h]
 | makeInterface a x=>simp [Op.operands] at h;simp [execOp,h]
 | build t ps =>
  have e:ps.map (λ (i,x)=>(i,ρ x))=ps.map (λ (i,x)=>(i,ρ' x)):=Array.map_congr_left λ p hp=>by
   have:=h p.2 (by simp [Op.operands];exact⟨p.1,hp⟩);simp [this]
  simp only [execOp,e]
 | call c =>
  obtain⟨callee,args,ats⟩:=c;cases callee with
  | builtin b =>
   have e:args.map ρ=args.map ρ':=Array.map_congr_left λ p hp=>h p (by simp [Op.operands,Call.operands];exact hp);simp only [execOp,resolve,e]
  | _=>simp at hd
 | _=>simp at hd
def AlO(e:Operand->Option Value)(xs:List Operand):Bool:=xs.all λ x=>match e x with | some v=>pl v | none=>false
def Agk(P:Program)(e:Operand->Option Value)(o:Oper):Option Value :=
 if AlO e o.op.operands.toList then (match AH P (execOp (MI e) o) with
  | some (.value v)=>if pl v then some v else none
  | _=>none) else none
theorem Ac8{e e':Operand->Option Value}(h:ER g e e'){o:Oper}(hd:Q3 o=true){v:Value}(he:Agk P e o=some v){K:Value->Prop}(hk:∀ c,R g v c->K c):BP P e' o K:=by
 unfold Agk at he;split at he
 ·rename_i ha;have hx:∀ x∈o.op.operands,e' x=e x/\(e x).isSome:=λ x hx=>by
   have:=An9.1 ha x (by simpa using hx);cases hv:e x with
   | none=>simp [hv] at this
   | some u =>
    simp only [hv] at this;obtain⟨c,hc,hr⟩:=h x u hv;rw [(RZ u this).1 hr] at hc;exact⟨hc,rfl⟩
  have cM:known e' o=true:=An9.2 λ x hm=>by
   have:=hx x (by simpa using hm);rw [this.1];exact this.2
  have hex:execOp (MI e') o=execOp (MI e) o:=execOp_congr hd λ x hm=>by simp [MI,(hx x hm).1]
  unfold BP;rw [cM,cond_true,hex];split at he
  ·rename_i u hu;rw [hu];split at he
   ·rename_i hp;cases he;exact hk _ ((RZ _ hp).2 rfl)
   ·cases he
  ·cases he
 ·cases he
/-! ## Parts of values -/
def Og(e:Operand->Option Value)(x:Operand)(i:Nat):Option Value :=
 match e x with
 | some (.tuple vs)=>vs.toList[i]?
 | _=>none
def Agp(P:Program)(t:TypeId)(cs:List Value)(off:Nat):Option Value :=
 match P.info? t with
 | none=>none
 | some i=>(match P.underlying t with
  | some (.struct _) | some (.array _ _)=>some (.agg ⟨(cs.drop off).take i.size⟩)
  | some _=>cs[off]?
  | none=>none)
def Xa(P:Program)(e:Operand->Option Value)(t:TypeId)(x:Operand)(f:Nat):Option Value :=
 match P.underlying t,e x with
 | some (.struct fs),some (.agg cs)=>(match fs[f]? with
  | some fl=>Agp P fl.type cs.toList fl.offset
  | none=>none)
 | _,_=>none
theorem AcW{vs:Array Value}{c:Value}(h:R g (.tuple vs) c):∃ cs,c=.tuple cs/\RL g vs.toList cs.toList:=by
 cases c with
 | tuple cs=>simp only [R,F3] at h;exact⟨cs,rfl,h⟩
 | _=>simp [R] at h
theorem YN{vs:Array Value}{c:Value}(h:R g (.agg vs) c):∃ cs,c=.agg cs/\RL g vs.toList cs.toList:=by
 cases c with
 | agg cs=>simp only [R,F3] at h;exact⟨cs,rfl,h⟩
 | _=>simp [R] at h
theorem XX{t:TypeId}{cs:List Value}{off:Nat}{v:Value}(he:Agp P t cs off=some v){cc:Array Value}(hr:RL g cs cc.toList):∃ c,AH P (part t cc off)=some c/\R g v c:=by
 unfold Agp at he;split at he
 ·cases he
 ·rename_i i hi;unfold part isAgg sizeOf;split at he
  ·rename_i hu;cases he;refine⟨.agg (cc.extract off (off+i.size)),?_,?_⟩
   ·simp [Bj,Bm,hu,CN,Dl,Dc,hi]
   ·simp only [R,F3];have:=HA i.size (IW off hr);simpa [List.extract_eq_take_drop] using this
  ·rename_i hu;cases he;refine⟨.agg (cc.extract off (off+i.size)),?_,?_⟩
   ·simp [Bj,Bm,hu,CN,Dl,Dc,hi]
   ·simp only [R,F3];have:=HA i.size (IW off hr);simpa [List.extract_eq_take_drop] using this
  ·rename_i d h1 h2 hu;obtain⟨y,hy,hry⟩:=YM hr off he;refine⟨y,?_,hry⟩;have jd:cc[off]?=some y:=by simpa using hy
   simp only [Bj,Bm,hu,Option.bind_some];simp [jd,CN]
  ·cases he
theorem Zm{e e':Operand->Option Value}(h:ER g e e'){o:Oper}{x:Operand}{i:Nat}(ho:o.op=.extract x i){v:Value}(he:Og e x i=some v){K:Value->Prop}(hk:∀ c,R g v c->K c):BP P e' o K:=by
 unfold Og at he;split at he
 ·rename_i vs hv;obtain⟨c,hc,hr⟩:=h _ _ hv;obtain⟨cs,rfl,bK⟩:=AcW hr;obtain⟨y,hy,hry⟩:=YM bK i he;unfold BP;have cM:known e' o=true:=by simp [known,ho,Op.operands,hc]
  have jd:cs[i]?=some y:=by simpa using hy
  rw [cM,cond_true];have:AH P (execOp (MI e') o)=some (.value y):=by
   obtain⟨dst,op,type,pos,after,guard⟩:=o;simp only at ho;subst ho;simp [execOp,MI,hc,Instr.extract,jd,CN]
  rw [this];exact hk _ hry
 ·cases he
theorem Aem{e e':Operand->Option Value}(h:ER g e e'){o:Oper}{t:TypeId}{x:Operand}{f:Nat}(ho:o.op=.field t x f){v:Value}(he:Xa P e t x f=some v){K:Value->Prop}(hk:∀ c,R g v c->K c):BP P e' o K:=by
 unfold Xa at he;split at he
 ·rename_i fs cs hu hv;split at he
  ·rename_i fl eg;obtain⟨c,hc,hr⟩:=h _ _ hv;obtain⟨cc,rfl,bK⟩:=YN hr;obtain⟨y,hy,hry⟩:=XX he bK;unfold BP;have cM:known e' o=true:=by simp [known,ho,Op.operands,hc]
   rw [cM,cond_true];have:AH P (execOp (MI e') o)=some (.value y):=by
    obtain⟨dst,op,type,pos,after,guard⟩:=o;simp only at ho;subst ho;simp [execOp,MI,hc,Instr.field,asAgg,eg,Bj,Dl,Bm,hu,hy]
   rw [this];exact hk _ hry
  ·cases he
 ·cases he
/-! ## A value of parts -/
def bInfo(P:Program)(t:TypeId):Option (Array Value × (Nat->Option (Nat × Nat))) :=
 match P.info? t with
 | none=>none
 | some i=>(match i.zero with
  | none=>none
  | some z=>(match P.underlying t with
   | some (.struct fs)=>(match fs.toList.mapM λ f=>(P.info? f.type).map λ i=>(f.offset,i.size) with
    | some l=>some (z.cells,λ j=>l[j]?)
    | none=>none)
   | some (.array _ el)=>(match P.info? el with
    | some i=>some (z.cells,λ j=>some (j*i.size,i.size))
    | none=>none)
   | _=>none))
theorem OY{α β:Type}{f:α->Sem β}{f':α->Option β}(hf:∀ a b,f' a=some b->AH P (f a)=some b):∀ {l:List α} {bs:List β},l.mapM f'=some bs->AH P (l.mapM f)=some bs
 | [],bs,h=>by simp at h;subst h;rfl
 | a :: l,bs,h=>by
  cases ha:f' a with
  | none=>simp [ha] at h
  | some b =>
   cases hl:l.mapM f' with
   | none=>simp [ha,hl] at h
   | some r =>
    simp [ha,hl] at h;subst h;simp [Bj,hf a b ha,Dl,OY hf hl]
theorem Ad6{t:TypeId}{z:Array Value}{pf:Nat->Option (Nat × Nat)}(h:bInfo P t=some (z,pf)){ps:Array (Nat × Value)}{cs:Array Value}(hc:Instr.fill pf z ps.toList=some cs):AH P (Instr.build t ps)=some (.agg cs):=by
 unfold bInfo at h;split at h
 ·cases h
 ·rename_i i hi;split at h
  ·cases h
  ·rename_i z' hz;have lI:AH P (zeroValue t)=some z':=by
    unfold zeroValue;simp [Bj,Dc,hi,hz,CN]
   split at h
   ·rename_i fs hu;split at h
    ·rename_i l hl;cases h;have hm:AH P (fs.mapM λ f=>do pure (f.offset,<- sizeOf f.type))=some l.toArray:=by
      rw [Array.mapM_eq_mapM_toList,Dl,OY (f':=λ f=>(P.info? f.type).map λ i=>(f.offset,i.size)) _ hl]
      ·rfl
      ·intro a b mD;cases qz:P.info? a.type with
       | none=>simp [qz] at mD
       | some ia=>simp [qz] at mD;subst mD;simp [sizeOf,Dl,Dc,qz]
     have uC:=hm;simp only [bind_pure_comp,Functor.map_map,sizeOf] at uC;simp [Instr.build,Bj,lI,Bm,hu,sizeOf,uC,hc,CN]
    ·cases h
   ·rename_i n el hu;split at h
    ·rename_i ie cL;cases h;simp [Instr.build,Bj,lI,Bm,hu,sizeOf,Dc,cL,hc,CN]
    ·cases h
   ·cases h
end
section
variable {P:Program}{g:Sg}
theorem WZ:∀ {v c:Value},R g v c->RL g v.cells.toList c.cells.toList:=by
 intro v c h;cases v with
 | agg cs=>obtain⟨cc,rfl,h'⟩:=YN h;exact h'
 | _ =>
  have hc:c.cells=#[c]:=by
   cases c with
   | agg cs=>first | (simp [R] at h;done) | (simp [R,JR] at h;done) | (rename_i p;cases p <;> simp [R] at h)
   | _=>rfl
  rw [hc];simp only [Value.cells,RL];exact⟨h,trivial⟩
theorem Agw{off:Nat}:∀ {xs ys:List Value} (k:Nat) {a c:Array Value},RL g xs ys->RL g a.toList c.toList ->
  RL g ((xs.zipIdx k).foldl (λ (cs:Array Value) (p:Value × Nat)=>cs.setIfInBounds (off+p.2) p.1) a).toList ((ys.zipIdx k).foldl (λ (cs:Array Value) (p:Value × Nat)=>cs.setIfInBounds (off+p.2) p.1) c).toList
 | [],_,k,a,c,h,h'=>by simp only [RL] at h;subst h;exact h'
 | x :: xs,[],_,_,_,h,_=>by simp [RL] at h
 | x :: xs,y :: ys,k,a,c,h,h'=>by
  simp only [RL] at h;simp only [List.zipIdx_cons,List.foldl_cons];refine Agw (k+1) h.2 ?_;simp only [Array.toList_setIfInBounds];exact SU _ h' h.1
def PR(g:Sg):List (Nat × Value)->List (Nat × Value)->Prop
 | [],c=>c=[]
 | x :: xs,c=>match c with
  | []=>False
  | y :: ys=>y.1=x.1/\R g x.2 y.2/\PR g xs ys
theorem AbP{pf:Nat->Option (Nat × Nat)}:∀ {pa pc:List (Nat × Value)} {a c r:Array Value},PR g pa pc->RL g a.toList c.toList->Instr.fill pf a pa=some r->∃ r',Instr.fill pf c pc=some r'/\RL g r.toList r'.toList
 | [],_,a,c,r,h,h',hf=>by simp only [PR] at h;subst h;simp only [Instr.fill] at hf;cases hf;exact⟨c,rfl,h'⟩
 | x :: xs,[],_,_,_,h,_,_=>by simp [PR] at h
 | (i,v) :: xs,(j,u) :: ys,a,c,r,h,h',hf=>by
  simp only [PR] at h;obtain⟨rfl,hr,h⟩:=h;unfold Instr.fill at hf ⊢;split at hf
  ·cases hf
  ·rename_i off size hp;have mW:=WZ hr;have hlen:u.cells.size=v.cells.size:=by have:=Eg mW;simpa using this
   have bQ:c.size=a.size:=by have:=Eg h';simpa using this
   simp only [hlen,bQ];split at hf
   ·cases hf
   ·rename_i hb;rw [if_neg hb];refine AbP h ?_ hf;have:=Agw (off:=off) 0 mW h';rw [<- Array.foldl_toList,<- Array.foldl_toList,Array.toList_zipIdx,Array.toList_zipIdx];exact this
def LW(e:Operand->Option Value):List (Nat × Operand)->Option (List (Nat × Value))
 | []=>some []
 | x :: xs=>match e x.2,LW e xs with
  | some v,some vs=>some ((x.1,v) :: vs)
  | _,_=>none
theorem PM{e e':Operand->Option Value}(h:ER g e e'):∀ {xs:List (Nat × Operand)} {vs:List (Nat × Value)},LW e xs=some vs->PR g vs (xs.map λ p=>(p.1,MI e' p.2))/\∀ x∈xs,(e' x.2).isSome
 | [],vs,hv=>by simp [LW] at hv;subst hv;simp [PR]
 | x :: xs,vs,hv=>by
  unfold LW at hv;split at hv
  ·rename_i v us h1 h2;cases hv;obtain⟨c,hc,hr⟩:=h _ _ h1;obtain⟨ih,ih'⟩:=PM h h2;refine⟨?_,?_⟩
   ·simp only [List.map_cons,PR];exact⟨trivial,by simpa [MI,hc] using hr,ih⟩
   ·intro y hy;rcases List.mem_cons.1 hy with rfl | hy
    ·simp [hc]
    ·exact ih' y hy
  ·cases hv
def AbF(P:Program)(e:Operand->Option Value)(t:TypeId)(parts:List (Nat × Operand)):Option Value :=
 match bInfo P t with
 | none=>none
 | some (z,pf)=>if XL z.toList then (match LW e parts with
  | some ps=>(match Instr.fill pf z ps with
   | some cs=>some (.agg cs)
   | none=>none)
  | none=>none) else none
theorem Aek{e e':Operand->Option Value}(h:ER g e e'){o:Oper}{t:TypeId}{ps:Array (Nat × Operand)}(ho:o.op=.build t ps){v:Value}(he:AbF P e t ps.toList=some v){K:Value->Prop}(hk:∀ c,R g v c->K c):BP P e' o K:=by
 unfold AbF at he;split at he
 ·cases he
 ·rename_i z pf hb;split at he
  ·rename_i hz;split at he
   ·rename_i qs hq;split at he
    ·rename_i cs hf;cases he;obtain⟨h1,h2⟩:=PM h hq;obtain⟨r,hr,iM⟩:=AbP h1 ((HK _ hz).2 rfl) hf;have cM:known e' o=true:=by
      simp only [known,ho,Op.operands];refine An9.2 λ x hx=>?_;simp only [List.mem_map] at hx;obtain⟨p,hp,rfl⟩:=hx;exact h2 p hp
     unfold BP;rw [cM,cond_true];have:AH P (execOp (MI e') o)=some (.value (.agg r)):=by
      obtain⟨dst,op,type,pos,after,guard⟩:=o;simp only at ho;subst ho;have:=Ad6 hb (ps:=ps.map λ p=>(p.1,MI e' p.2)) (by simpa using hr);simp only [execOp,bind_pure_comp,Dl];rw [this];rfl
     rw [this];exact hk _ (by simp only [R,F3];exact iM)
    ·cases he
   ·cases he
  ·cases he
theorem Oj{e e':Operand->Option Value}(h:ER g e e'):∀ {xs:List Operand} {vs:List Value},Ip e xs=some vs->∃ cs,Ip e' xs=some cs/\RL g vs cs/\xs.map (MI e')=cs/\∀ x∈xs,(e' x).isSome
 | [],vs,hv=>by simp [Ip] at hv;subst hv;exact⟨[],rfl,by simp [RL],rfl,by simp⟩
 | x :: xs,vs,hv=>by
  unfold Ip at hv;split at hv
  ·rename_i v us h1 h2;cases hv;obtain⟨c,hc,hr⟩:=h _ _ h1;obtain⟨cs,ih,ih1,ih2,ih3⟩:=Oj h h2;refine⟨c :: cs,by simp [Ip,hc,ih],by simp only [RL];exact⟨hr,ih1⟩,by simp [MI,hc];simpa using ih2,?_⟩;intro y hy;rcases List.mem_cons.1 hy with rfl | hy
   ·simp [hc]
   ·exact ih3 y hy
  ·cases hv
def PL(e:Operand->Option Value)(fn:Fn)(fi ca:List Operand):Option Value :=
 match fn,Ip e fi,Ip e ca with
 | .func f,some vs,some us=>some (.func (.func f) ⟨vs⟩ ⟨us⟩)
 | _,_,_=>none
theorem Xh{e e':Operand->Option Value}(h:ER g e e'){o:Oper}{fn:Fn}{fi ca:Array Operand}(ho:o.op=.makeFunc fn fi ca){v:Value}(he:PL e fn fi.toList ca.toList=some v){K:Value->Prop}(hk:∀ c,R g v c->K c):BP P e' o K:=by
 unfold PL at he;split at he
 ·rename_i f vs us h1 h2;cases he;obtain⟨cs,_,r1,m1,k1⟩:=Oj h h1;obtain⟨ds,_,r2,m2,k2⟩:=Oj h h2;have cM:known e' o=true:=by
   simp only [known,ho,Op.operands];refine An9.2 λ x hx=>?_;rcases (by simpa using hx:x∈fi\/x∈ca) with hx | hx
   ·exact k1 x (by simpa using hx)
   ·exact k2 x (by simpa using hx)
  unfold BP;rw [cM,cond_true];have:AH P (execOp (MI e') o)=some (.value (.func (.func f) ⟨cs⟩ ⟨ds⟩)):=by
   obtain⟨dst,op,type,pos,after,guard⟩:=o;simp only at ho;subst ho;have e1:fi.map (MI e')=⟨cs⟩:=Array.ext' (by simpa using m1);have e2:ca.map (MI e')=⟨ds⟩:=Array.ext' (by simpa using m2);simp only [execOp,Instr.makeFunc,e1,e2];rfl
  rw [this];exact hk _ (by simp only [R,RA];exact⟨trivial,r1,r2⟩)
 ·cases he
def Akt(P:Program)(e:Operand->Option Value)(ts:List TypeId)(xs:List Operand):Option Value :=
 match ts,xs with
 | t :: _,[x]=>(match P.underlying t,e x with
  | some (.slice _),some (.slice _ l _)=>some (.int .i64 l)
  | _,_=>none)
 | _,_=>none
theorem Aiu{e e':Operand->Option Value}(h:ER g e e'){o:Oper}{c:Call}(ho:o.op=.call c)(hb:c.callee=.builtin .len){v:Value}(he:Akt P e c.argTypes.toList c.args.toList=some v){K:Value->Prop}(hk:∀ c,R g v c->K c):BP P e' o K:=by
 obtain⟨callee,⟨args⟩,⟨ts⟩⟩:=c;simp only at hb;subst hb;unfold Akt at he;split at he
 ·rename_i t r x h1 h2;simp only at h1 h2;subst h1;subst h2;split at he
  ·rename_i el p l k hu hx;cases he;obtain⟨c,hc,hr⟩:=h _ _ hx;cases c with
   | slice p' l' k' =>
    simp only [R,JR] at hr;obtain⟨rfl,_⟩:=hr;have cM:known e' o=true:=by simp [known,ho,Op.operands,Call.operands,hc]
    unfold BP;rw [cM,cond_true];have:AH P (execOp (MI e') o)=some (.value (.int .i64 l')):=by
     obtain⟨dst,op,type,pos,after,guard⟩:=o;simp only at ho;subst ho;simp [execOp,resolve,invoke,builtin,Builtin.len_,MI,hc,Bj,Dl,Bm,hu,CN,goInt]
    rw [this];exact hk _ (by simp [R])
   | _=>simp [R,JR] at hr
  ·cases he
 ·cases he
end
section
variable {P:Program}{g:Sg}
def Xc(op:BinOp)(k k':IntKind)(a b:Int):Option Value :=
 match op with
 | .shl=>bif decide (0<=b) then some (.int k (k.wrap (a*2 ^ (min b.toNat k.bits)))) else none
 | .shr=>bif decide (0<=b) then some (.int k (a.fdiv (2 ^ (min b.toNat k.bits)))) else none
 | op=>bif Cg k k' then
  match op with
  | .add=>some (.int k (k.wrap (a+b)))
  | .sub=>some (.int k (k.wrap (a-b)))
  | .mul=>some (.int k (k.wrap (a*b)))
  | .quo=>bif decide (b=0) then none else some (.int k (k.wrap (a.tdiv b)))
  | .rem=>bif decide (b=0) then none else some (.int k (a.tmod b))
  | .and=>some (.int k (k.wrap (Am6 k.bits a &&& Am6 k.bits b).toNat))
  | .or=>some (.int k (k.wrap (Am6 k.bits a ||| Am6 k.bits b).toNat))
  | .xor=>some (.int k (k.wrap (Am6 k.bits a ^^^ Am6 k.bits b).toNat))
  | .andNot=>some (.int k (k.wrap (Am6 k.bits a &&& ~~~(Am6 k.bits b)).toNat))
  | .eql=>some (.bool (a==b))
  | .neq=>some (.bool (a != b))
  | .lss=>some (.bool (decide (a<b)))
  | .leq=>some (.bool (decide (a<=b)))
  | .gtr=>some (.bool (decide (a > b)))
  | .geq=>some (.bool (decide (a>=b)))
  | _=>none
 else none
theorem BN{c:Bool}{x v:Value}(h:(bif c then some x else none)=some v):c=true/\x=v:=by cases c <;> simp_all
theorem Ki{c:Bool}{X:Prop}(h:c=true)(x:X):bif c then X else False:=by rw [h];exact x
theorem Tj{c:Bool}{x v:Value}(h:(bif c then none else some x)=some v):c=false/\x=v:=by cases c <;> simp_all
theorem Ac9{op:BinOp}{k k':IntKind}{a b:Int}{v:Value}(h:Xc op k k' a b=some v){K:Value->Prop}(hk:K v):MG op k k' a b K:=by
 cases op <;> first
  | (obtain⟨h1,rfl⟩:=BN h;exact⟨of_decide_eq_true h1,hk⟩)
  | (simp only [Xc] at h;cases hb:Cg k k' <;> simp only [hb,cond_true,cond_false] at h <;> simp only [MG,hb,cond_true,cond_false] <;> first | (cases h;done) | (cases h;exact hk) | (obtain⟨h1,rfl⟩:=Tj h;exact⟨of_decide_eq_false h1,hk⟩))
theorem Agl{op:BinOp}{k k':IntKind}{a b:Int}{v:Value}(h:Xc op k k' a b=some v){K:Value->Prop}(hk:K v):PW op k k' a b K:=by
 cases op <;> first
  | (obtain⟨h1,rfl⟩:=BN h;simp only [PW,h1,cond_true];exact hk)
  | (exact Ac9 h hk)
  | (simp only [Xc] at h;cases hb:Cg k k' <;> simp only [hb,cond_true,cond_false] at h <;> first | (cases h;done) | (obtain⟨h1,rfl⟩:=Tj h;simp only [PW,h1,hb,cond_true,cond_false];exact hk))
def Aiy(op:BinOp)(a b:ByteArray):Option Value :=
 match op with
 | .add=>bif decide (a.size+b.size<=9223372036854775807) then some (.string (a++b)) else none
 | .eql=>some (.bool (AJ a b))
 | .neq=>some (.bool (!AJ a b))
 | .lss=>some (.bool (Gv a b))
 | .leq=>some (.bool (Gv a b || AJ a b))
 | .gtr=>some (.bool (!(Gv a b || AJ a b)))
 | .geq=>some (.bool (!Gv a b))
 | _=>none
theorem Aiz{op:BinOp}{a b:ByteArray}{v:Value}(h:Aiy op a b=some v){K:Value->Prop}(hk:K v):AdK op a b K:=by
 cases op <;> first
  | (obtain⟨h1,rfl⟩:=BN h;exact⟨of_decide_eq_true h1,hk⟩)
  | (simp only [Aiy] at h;cases h;exact hk)
  | (simp [Aiy] at h)
def AiJ(P:Program)(t:TypeId):Bool:=match P.underlying t with | some .bool=>true | _=>false
def AiK(P:Program)(t:TypeId):Bool:=match P.underlying t with | some (.pointer _)=>true | _=>false
def Al1(P:Program)(t:TypeId):Bool:=match P.underlying t with | some (.slice _)=>true | _=>false
def AkD(P:Program)(t:TypeId):Bool:=match P.underlying t with | some (.map _ _)=>true | _=>false
def AjL(P:Program)(t:TypeId):Bool:=match P.underlying t with | some (.func _ _ _)=>true | _=>false
def Akr(P:Program)(neg:Bool)(t:TypeId)(x y:Value):Option Value :=
 match x,y with
 | .bool a,.bool b=>bif AiJ P t then some (EX neg (a==b)) else none
 | .pointer p,.pointer none=>bif AiK P t then some (EX neg p.isNone) else none
 | .slice p _ _,.slice none _ _=>bif Al1 P t then some (EX neg p.isNone) else none
 | .map p,.map none=>bif AkD P t then some (EX neg p.isNone) else none
 | .nilFunc,.nilFunc=>bif AjL P t then some (EX neg true) else none
 | .func _ _ _,.nilFunc=>bif AjL P t then some (EX neg false) else none
 | .agg xs,.agg ys=>bif plA xs && plA ys && !P.eqGuardType P.depth t then (match eqV P 5 t (.agg xs) (.agg ys) with | some b=>some (EX neg b) | none=>none) else none
 | _,_=>none
theorem Ais{op:BinOp}{neg:Bool}(hn:isNeg op=some neg){t:TypeId}{x y v x' y':Value}(h:Akr P neg t x y=some v)(hx:R g x x')(hy:R g y y'){K:Value->Prop}(hk:K v):QW P op t x' y' K:=by
 unfold QW;rw [hn];unfold Akr at h;split at h
 ·obtain⟨h1,rfl⟩:=BN h;simp only [R] at hx hy;subst hx;subst hy;exact Ki h1 hk
 ·rename_i p;obtain⟨h1,rfl⟩:=BN h;simp only [R] at hy;subst hy;cases p with
  | none=>simp only [R] at hx;subst hx;exact Ki h1 hk
  | some a=>simp only [R] at hx;obtain⟨a',_,rfl⟩:=hx;exact Ki h1 hk
 ·rename_i p l c l2 c2;obtain⟨h1,rfl⟩:=BN h;cases y' with
  | slice q l3 c3 =>
   simp only [R,JR] at hy;obtain⟨_,rfl,_⟩:=hy;cases x' with
   | slice p' l4 c4 =>
    simp only [R,JR] at hx;have e:p'.isNone=p.isNone:=by
     cases p with
     | none=>rw [hx.2.1]
     | some a =>
      have aQ:p'≠none:=by rcases hx.2.2 with ⟨_,_,h⟩ | ⟨_,_,h,_⟩ <;> exact h
      cases p' with
      | none=>exact absurd rfl aQ
      | some a'=>rfl
    rw [<- e] at hk;exact Ki h1 hk
   | _=>simp [R,JR] at hx
  | _=>simp [R,JR] at hy
 ·rename_i p;obtain⟨h1,rfl⟩:=BN h;simp only [R] at hy;subst hy;cases p with
  | none=>simp only [R] at hx;subst hx;exact Ki h1 hk
  | some a=>simp only [R] at hx;obtain⟨a',_,rfl⟩:=hx;exact Ki h1 hk
 ·obtain⟨h1,rfl⟩:=BN h;simp only [R] at hx hy;subst hx;subst hy;exact Ki h1 hk
 ·obtain⟨h1,rfl⟩:=BN h;simp only [R] at hy;subst hy;cases x' with
  | func _ _ _=>exact Ki h1 hk
  | _=>simp [R] at hx
 ·rename_i xs ys;cases hb:plA xs && plA ys && !P.eqGuardType P.depth t with
  | false=>simp [hb] at h
  | true =>
   simp only [hb,cond_true] at h;simp only [Ana,Aoa] at hb;obtain⟨cs,rfl,hx2⟩:=YN hx;obtain⟨ds,rfl,oW⟩:=YN hy;have e1:cs=xs:=(Wp xs hb.1.1).1 (F3.2 hx2);have e2:ds=ys:=(Wp ys hb.1.2).1 (F3.2 oW);subst e1;subst e2;simp only [hb.2,cond_false];split at h
   ·rename_i b gZ;rw [gZ];cases h;exact hk
   ·cases h
 ·cases h
def Xd:Value->Option Bool
 | .nilIface=>some true
 | .iface _ _=>some false
 | _=>none
def Aio(P:Program)(e:Operand->Option Value)(op:BinOp)(t:TypeId)(x y:Operand):Option Value :=
 match e x,e y with
 | some u,some .nilIface=>(match isNeg op,Xd u with
  | some neg,some b=>bif Cw y && OC P t then some (EX neg b) else none
  | _,_=>none)
 | some (.int k a),some (.int k' b)=>Xc op k k' a b
 | some (.string a),some (.string b)=>Aiy op a b
 | some u,some v=>(match isNeg op with
  | some neg=>Akr P neg t u v
  | none=>none)
 | _,_=>none
theorem Aip{e e':Operand->Option Value}(h:ER g e e'){op:BinOp}{t:TypeId}{x y:Operand}{v:Value}(he:Aio P e op t x y=some v){K:Value->Prop}(hk:K v):YW P e' op t x y K:=by
 unfold Aio at he;split at he
 ·rename_i u hu hy;obtain⟨c,hc,hr⟩:=h _ _ hu;obtain⟨d,hd,bK⟩:=h _ _ hy;simp only [R] at bK;subst bK;split at he
  ·rename_i neg b hn hb;obtain⟨h1,rfl⟩:=BN he;unfold YW;rw [hd];simp only [hc,HT,Aeu,Ag3,hn,h1,cond_true];cases u with
   | nilIface=>simp only [R] at hr;subst hr;simp only [Xd] at hb;cases hb;exact hk
   | iface t w =>
    simp only [Xd] at hb;cases hb;cases c with
    | iface _ _=>exact hk
    | _=>simp [R] at hr
   | _=>simp [Xd] at hb
  ·cases he
 ·rename_i k a k' b _ hx hy;obtain⟨c,hc,hr⟩:=h _ _ hx;obtain⟨d,hd,bK⟩:=h _ _ hy;simp only [R] at hr bK;subst hr;subst bK;unfold YW;rw [hd];simp only [VL,hc,hd];cases zl:Cw y with
  | true=>exact Agl he hk
  | false=>exact Ac9 he hk
 ·rename_i a b _ hx hy;obtain⟨c,hc,hr⟩:=h _ _ hx;obtain⟨d,hd,bK⟩:=h _ _ hy;simp only [R] at hr bK;subst hr;subst bK;unfold YW;rw [hd];simp only [VL,hc,hd];exact Aiz he hk
 ·rename_i u w h1 h2 h3 hx hy;split at he
  ·rename_i neg hn;obtain⟨c,hc,hr⟩:=h _ _ hx;obtain⟨d,hd,bK⟩:=h _ _ hy;have key:=Ais hn he hr bK hk;have tt:d≠.nilIface:=by
    rintro rfl;cases w <;> simp [R,JR] at bK <;> first | exact h1 rfl | (rename_i p;cases p <;> simp at bK)
   have e1:YW P e' op t x y K=VL P e' op t x y K:=by
    unfold YW;rw [hd];cases d <;> first | rfl | exact absurd rfl tt
   rw [e1];have e2:Aeu P (Cw y) op t c d K=QW P op t c d K:=by
    cases d <;> first | rfl | exact absurd rfl tt
   unfold VL;rw [hc,hd];split
   ·rename_i k a k' b dz j8;cases dz;cases j8;exact absurd key (by simp [QW,hn])
   ·rename_i a b dz j8;cases dz;cases j8;exact absurd key (by simp [QW,hn])
   ·rename_i u' v' _ _ dz j8;cases dz;cases j8;rw [e2];exact key
   ·rename_i h1 h2 h3;exact absurd rfl (h3 _ _ rfl)
  ·cases he
 ·cases he
end
section
variable {P:Program}{g:Sg}
theorem Ta{a a':Addr}(h:ad g a=some a')(n:Nat):ad g (a.add n)=some (a'.add n):=by
 unfold ad at *;rw [Bp];cases hb:bk g a.block with
 | none=>simp [hb] at h
 | some b =>
  simp only [hb,Option.map_some,An8] at h ⊢;subst h;unfold Addr.add;split <;> rfl
def Akw(P:Program)(x:Option Value)(n:Nat):Option Value :=
 match x with
 | some (.pointer (some a))=>some (.pointer (some (a.add n)))
 | _=>none
theorem Aix{e e':Operand->Option Value}(h:ER g e e'){x:Operand}{n:Nat}{v:Value}(he:Akw P (e x) n=some v):∃ a',e' x=some (.pointer (some a'))/\R g v (.pointer (some (a'.add n))):=by
 unfold Akw at he;split at he
 ·rename_i a ha;cases he;obtain⟨c,hc,hr⟩:=h _ _ ha;simp only [R] at hr;obtain⟨a',h1,rfl⟩:=hr;exact⟨a',hc,by simp only [R];exact⟨_,Ta h1 n,rfl⟩⟩
 ·cases he
def I5(P:Program)(e:Operand->Option Value)(s:TypeId)(x:Operand)(f:Nat):Option Value :=
 match P.underlying s with
 | some (.struct fs)=>(match fs[f]? with
  | some fl=>bif Am7 (P.cellsOf fl.type) 0 then none else Akw P (e x) fl.offset
  | none=>none)
 | _=>none
theorem U8{e e':Operand->Option Value}(h:ER g e e'){s:TypeId}{x:Operand}{f:Nat}{v:Value}(he:I5 P e s x f=some v){K:Value->Prop}(hk:∀ c,R g v c->K c):GU P e' s x f K:=by
 unfold I5 at he;unfold GU;split at he
 ·rename_i fs hu;rw [hu];split at he
  ·rename_i fl hf;simp only [hf];cases hb:Am7 (P.cellsOf fl.type) 0 with
   | true=>simp [hb] at he
   | false =>
    simp only [hb,cond_false] at he ⊢;obtain⟨a',h1,h2⟩:=Aix h he;rw [h1];exact hk _ h2
  ·cases he
 ·cases he
def eIx(e:Operand->Option Value)(i:Operand)(len:Nat):Option Nat :=
 match e i with
 | some (.int _ n)=>bif decide (0<=n) && decide (n<len) then some n.toNat else none
 | _=>none
theorem Xe{e e':Operand->Option Value}(h:ER g e e'){i:Operand}{len m:Nat}(he:eIx e i len=some m):∃ kd,∃ n:Int,e' i=some (.int kd n)/\0<=n/\n<len/\n.toNat=m:=by
 unfold eIx at he;split at he
 ·rename_i kd n hn;obtain⟨c,hc,hr⟩:=h _ _ hn;simp only [R] at hr;subst hr;cases hb:decide (0<=n) && decide (n<len) with
  | false=>simp [hb] at he
  | true =>
   simp only [hb,cond_true,An8] at he;simp only [Ana,decide_eq_true_eq] at hb;exact⟨_,n,hc,hb.1,hb.2,he⟩
 ·cases he
def I6(P:Program)(e:Operand->Option Value)(t:TypeId)(x i:Operand):Option Value :=
 match P.underlying t,e x with
 | some (.slice el),some (.slice (some a) len _)=>bif F8 P el then (match eIx e i len with
  | some n=>some (.pointer (some (a.add (n*P.cellsOf el))))
  | none=>none) else none
 | some (.array len el),some (.pointer (some a))=>bif F8 P el then (match eIx e i len with
  | some n=>some (.pointer (some (a.add (n*P.cellsOf el))))
  | none=>none) else none
 | _,_=>none
theorem LG{a:Addr}{l c:Nat}{u:Value}(h:JR g (some a) l c u)(hl:0<l):∃ a' c',u=.slice (some a') l c'/\l<=c'/\ad g a=some a'/\cp g a.block c=some c':=by
 cases u with
 | slice p' l' c' =>
  obtain⟨rfl,h1,h2⟩:=h;rcases h2 with ⟨_,h2,_⟩ | ⟨_,h2,h3,h4⟩
  ·omega
  ·cases p' with
   | none=>exact absurd rfl h3
   | some a'=>exact⟨a',c',rfl,h1,h2,h4⟩
 | _=>exact h.elim
theorem U9{e e':Operand->Option Value}(h:ER g e e'){t:TypeId}{x i:Operand}{v:Value}(he:I6 P e t x i=some v){K:Value->Prop}(hk:∀ c,R g v c->K c):GW P e' t x i K:=by
 unfold I6 at he;unfold GW;split at he
 ·rename_i el a len cap hu hx;obtain⟨bM,he⟩:F8 P el=true/\_:=by
   cases hb:F8 P el with
   | false=>simp [hb] at he
   | true=>simp only [hb,cond_true] at he;exact⟨rfl,he⟩
  split at he
  ·rename_i n hn;cases he;obtain⟨kd,m,hi,h0,h1,rfl⟩:=Xe h hn;obtain⟨c,hc,hr⟩:=h _ _ hx;simp only [R] at hr;obtain⟨a',c',rfl,_,h2,_⟩:=LG hr (by omega);rw [hu,hc];simp only [bM,cond_true,hi,UZ,As];exact⟨⟨h0,h1⟩,hk _ (by simp only [R];exact⟨_,Ta h2 _,rfl⟩)⟩
  ·cases he
 ·rename_i len el a hu hx;obtain⟨bM,he⟩:F8 P el=true/\_:=by
   cases hb:F8 P el with
   | false=>simp [hb] at he
   | true=>simp only [hb,cond_true] at he;exact⟨rfl,he⟩
  split at he
  ·rename_i n hn;cases he;obtain⟨kd,m,hi,h0,h1,rfl⟩:=Xe h hn;obtain⟨c,hc,hr⟩:=h _ _ hx;simp only [R] at hr;obtain⟨a',h2,rfl⟩:=hr;rw [hu,hc];simp only [bM,cond_true,hi,UZ,As];have:=hk (.pointer (some (a'.add (m.toNat*P.cellsOf el)))) (by simp only [R];exact⟨_,Ta h2 _,rfl⟩);cases Cw i with
   | true=>simp only [cond_true,h0,h1,and_self,decide_true];exact this
   | false=>exact⟨⟨h0,h1⟩,this⟩
  ·cases he
 ·cases he
def Xb(P:Program)(e:Operand->Option Value)(t:TypeId)(x i:Operand):Option Value :=
 match P.underlying t,e x with
 | some .string,some (.string s)=>(match eIx e i s.size with
  | some n=>some (.int .u8 (D6 s n).toNat)
  | none=>none)
 | some (.array len el),some (.agg cs)=>(match eIx e i len,zeroOf P el with
  | some n,some z=>bif Fz P el then (bif FV z.cells.toList ((cs.toList.drop (n*P.cellsOf el)).take (P.cellsOf el)) then some (.agg ⟨(cs.toList.drop (n*P.cellsOf el)).take (P.cellsOf el)⟩) else none)
   else (match cs.toList[n*P.cellsOf el]? with
    | some v=>bif (P.underlying el).isSome && Gr z v then some v else none
    | none=>none)
  | _,_=>none)
 | _,_=>none
theorem Aen{e e':Operand->Option Value}(h:ER g e e'){t:TypeId}{x i:Operand}{v:Value}(he:Xb P e t x i=some v){K:Value->Prop}(hk:∀ c,R g v c->K c):TP P e' t x i K:=by
 unfold Xb at he;unfold TP;split at he
 ·rename_i s hu hx;split at he
  ·rename_i n hn;cases he;obtain⟨kd,m,hi,h0,h1,rfl⟩:=Xe h hn;obtain⟨c,hc,hr⟩:=h _ _ hx;simp only [R] at hr;subst hr;rw [hu,hc];simp only [hi,UZ];exact⟨⟨h0,h1⟩,hk _ (by simp [R])⟩
  ·cases he
 ·rename_i len el cs hu hx;split at he
  ·rename_i n z hn hz;obtain⟨kd,m,hi,h0,h1,rfl⟩:=Xe h hn;obtain⟨c,hc,hr⟩:=h _ _ hx;obtain⟨cc,rfl,cD⟩:=YN hr;rw [hu,hc];simp only [hi,UZ];refine⟨⟨h0,h1⟩,?_⟩;unfold Adz;rw [hz];cases aR:Fz P el with
   | true =>
    simp only [aR,cond_true] at he ⊢;cases hl:FV z.cells.toList ((cs.toList.drop (m.toNat*P.cellsOf el)).take (P.cellsOf el)) with
    | false=>simp [hl] at he
    | true =>
     simp only [hl,cond_true,An8] at he;subst he;have iM:=HA (P.cellsOf el) (IW (m.toNat*P.cellsOf el) cD);exact SK (f:=λ vs=>(cc.toList.drop (m.toNat*P.cellsOf el)).take (P.cellsOf el)=vs/\K (.agg ⟨vs⟩)) (XC hl iM) ⟨rfl,hk _ (by simp only [R,RA];exact iM)⟩
   | false =>
    simp only [aR,cond_false] at he ⊢;split at he
    ·rename_i u j7;cases hb:(P.underlying el).isSome && Gr z u with
     | false=>simp [hb] at he
     | true =>
      simp only [hb,cond_true,An8] at he;subst he;simp only [Ana] at hb;rw [hb.1,cond_true];obtain⟨y,hy,hry⟩:=YM cD _ j7;exact NQ (f:=λ v=>cc.toList[m.toNat*P.cellsOf el]?=some v/\K v) (Su hb.2 hry) ⟨hy,hk _ hry⟩
    ·cases he
  ·cases he
 ·cases he
end
section
variable {P:Program}{g:Sg}
def GQ(e:Operand->Option Value)(x:Option Operand)(d:Nat):Option Int :=
 match x with
 | none=>some d
 | some o=>match e o with
  | some (.int _ n)=>some n
  | _=>none
theorem D1{e e':Operand->Option Value}(h:ER g e e'){x:Option Operand}{d:Nat}{n:Int}(he:GQ e x d=some n){k:Int->Prop}(hk:k n):Fw e' x d k:=by
 unfold GQ at he;unfold Fw;split at he
 ·cases he;exact hk
 ·rename_i o;split at he
  ·rename_i kd m hm;cases he;obtain⟨c,hc,hr⟩:=h _ _ hm;simp only [R] at hr;subst hr;simp only [hc];exact hk
  ·cases he
theorem Af6{a b:Nat}(h:Anc a b=false):¬ a<b:=λ h'=>by
 have:Anc a b=true:=by rw [Anc,An6];exact h'
 rw [this] at h;cases h
def Akq(a:Option Addr)(len cap l hh sz:Nat):Option Value :=
 match a with
 | none=>bif An7 hh cap then some (.slice (Cc none l cap sz) (hh-l) (cap-l)) else none
 | some p=>bif Am7 p.block Gu then (bif Am7 hh 0 then some (.slice (some p) 0 0) else none)
  else bif Anc cap 9223372036854775808 then (bif An7 hh cap then some (.slice (Cc (some p) l cap sz) (hh-l) (cap-l)) else none)
  else bif An7 hh len && An7 cap Pt && An7 (9223372036854775808+l) cap then
   (bif Anc l hh || Am7 l 0 then some (.slice (some (p.add (l*sz))) (hh-l) (cap-l)) else some (.slice (some ⟨Gu,0,none⟩) 0 0)) else none
theorem Akn{b c n l:Nat}(h:cp g b c=some n)(hc:¬ c<9223372036854775808)(h1:c<=Pt)(h2:9223372036854775808+l<=c):cp g b (c-l)=some (n-l):=by
 unfold cp at *;rw [if_neg hc] at h;rw [if_neg (by omega)];split
 ·rename_i hb;rw [if_pos hb] at h;cases h
 ·rename_i hb;rw [if_neg hb] at h;cases hs:Jz g b with
  | none=>simp [hs] at h
  | some s =>
   simp only [hs,Option.map_some,An8] at h ⊢;omega
theorem Ke(p:Addr)(l m sz:Nat):Cc (some p) l m sz=if m=l then some p else some (p.add (l*sz)):=by unfold Cc;split <;> rfl
theorem AfS(p:Addr)(l m sz:Nat):Cc (some p) l m sz≠none:=by rw [Ke];split <;> simp
theorem AfR{p:Addr}{p':Addr}(h:ad g p=some p')(l m sz:Nat):∃ q q',Cc (some p) l m sz=some q/\Cc (some p') l m sz=some q'/\ad g q=some q'/\q.block=p.block:=by
 rw [Ke,Ke];split
 ·exact⟨_,_,rfl,rfl,h,rfl⟩
 ·exact⟨_,_,rfl,rfl,Ta h _,Bp _ _⟩
theorem Aiq{a:Option Addr}{len cap l hh sz:Nat}{v:Value}(he:Akq a len cap l hh sz=some v)(xx:l<=hh){u:Value}(hr:JR g a len cap u) :
  ∃ a' c',u=.slice a' len c'/\hh<=c'/\R g v (.slice (Cc a' l c' sz) (hh-l) (c'-l)):=by
 cases u with
 | slice a' l' c' =>
  obtain⟨rfl,hr⟩:=hr;refine⟨a',c',rfl,?_⟩;unfold Akq at he;cases a with
  | none =>
   obtain⟨rfl,rfl⟩:=hr;obtain⟨h1,rfl⟩:=BN he;have h1:=Nat.le_of_ble_eq_true h1;refine⟨h1,?_⟩;have:Cc none l c' sz=none:=by unfold Cc;split <;> rfl
   rw [this];simp only [R,JR];exact⟨trivial,trivial,trivial⟩
  | some p =>
   simp only at hr he;cases hj:Am7 p.block Gu with
   | true =>
    have cC:=Anb hj;simp only [hj,cond_true] at he;obtain⟨h1,rfl⟩:=BN he;have h1:=Anb h1;subst h1;have hl:l=0:=by omega
    subst hl;rcases hr with ⟨hle,⟨_,h0,h2⟩ | ⟨h3,_⟩⟩
    ·refine⟨Aob _,?_⟩;simp only [R,JR];refine⟨by trivial,Aob _,.inl ⟨cC,by trivial,?_⟩⟩;cases a' with
     | none=>exact absurd rfl h2
     | some q=>exact AfS _ _ _ _
    ·exact absurd cC h3
   | false =>
    have cC:p.block≠Gu:=An4 hj;simp only [hj,cond_false] at he;rcases hr with ⟨hle,⟨h3,_⟩ | ⟨_,h2,h3,h4⟩⟩
    ·exact absurd h3 cC
    ·cases a' with
     | none=>exact absurd rfl h3
     | some p' =>
      cases hc:Anc cap 9223372036854775808 with
      | true =>
       have bh:cap<9223372036854775808:=by rw [Anc,An6] at hc;exact hc
       have fP:c'=cap:=by unfold cp at h4;rw [if_pos bh] at h4;cases h4;rfl
       subst fP;simp only [hc,cond_true] at he;obtain⟨h1,rfl⟩:=BN he;have h1:=Nat.le_of_ble_eq_true h1;refine⟨h1,?_⟩;obtain⟨q,q',e1,e2,e3,e4⟩:=AfR h2 l c' sz;rw [e1,e2];simp only [R,JR];exact⟨by trivial,by omega,.inr ⟨by rw [e4];exact cC,e3,by simp,by unfold cp;rw [if_pos (by omega)]⟩⟩
      | false =>
       have bh:¬ cap<9223372036854775808:=Af6 hc;simp only [hc,cond_false] at he;cases hb:An7 hh l' && An7 cap Pt && An7 (9223372036854775808+l) cap with
       | false=>simp [hb] at he
       | true =>
        simp only [hb,cond_true] at he;simp only [Ana,An6] at hb;obtain⟨⟨b1,b2⟩,b3⟩:=hb;refine⟨by omega,?_⟩;cases hz:Anc l hh || Am7 l 0 with
        | true =>
         simp only [hz,cond_true,An8] at he;subst he;have e1:Cc (some p') l c' sz=some (p'.add (l*sz)):=by
          rw [Ke];split
          ·rename_i bR;simp only [Bool.or_eq_true,Anc,An6] at hz;have:l=0:=by
            rcases hz with hz | hz
            ·omega
            ·exact Anb hz
           subst this;simp [Addr.add]
          ·rfl
         rw [e1];simp only [R,JR];exact⟨by trivial,by omega,.inr ⟨by rw [Bp];exact cC,Ta h2 _,by simp,by rw [Bp];exact Akn h4 bh b2 b3⟩⟩
        | false =>
         simp only [hz,cond_false,An8] at he;subst he;have rE:hh-l=0:=by
          simp only [Bool.or_eq_false_iff] at hz;have:=Af6 hz.1;omega
         rw [rE];simp only [R,JR];exact⟨by trivial,Aob _,.inl ⟨by trivial,by trivial,AfS _ _ _ _⟩⟩
 | _=>exact hr.elim
def Agi(a:Option Addr)(len cap l hh m sz:Nat):Option Value :=
 match a with
 | none=>none
 | some p=>bif !(Am7 p.block Gu) && Anc m 9223372036854775808 && (An7 m len || (Anc cap 9223372036854775808 && An7 m cap)) then some (.slice (Cc (some p) l m sz) (hh-l) (m-l)) else none
theorem Agj{a:Option Addr}{len cap l hh m sz:Nat}{v:Value}(he:Agi a len cap l hh m sz=some v)(xx:l<=hh)(hm:hh<=m){u:Value}(hr:JR g a len cap u) :
  ∃ a' c',u=.slice a' len c'/\m<=c'/\R g v (.slice (Cc a' l m sz) (hh-l) (m-l)):=by
 cases u with
 | slice a' l' c' =>
  obtain⟨rfl,hr⟩:=hr;refine⟨a',c',rfl,?_⟩;unfold Agi at he;cases a with
  | none=>cases he
  | some p =>
   simp only at hr he;obtain⟨h1,rfl⟩:=BN he;simp only [Ana,Bool.or_eq_true,Aoa,Anc,An6] at h1;obtain⟨⟨hj,hb⟩,d'⟩:=h1;have cC:p.block≠Gu:=An4 hj;rcases hr with ⟨hle,⟨h3,_⟩ | ⟨_,h2,h3,h4⟩⟩
   ·exact absurd h3 cC
   ·cases a' with
    | none=>exact absurd rfl h3
    | some p' =>
     have kI:m<=c':=by
      rcases d' with h | ⟨h5,h6⟩
      ·omega
      ·unfold cp at h4;rw [if_pos (by omega)] at h4;cases h4;exact h6
     refine⟨kI,?_⟩;obtain⟨q,q',e1,e2,e3,e4⟩:=AfR h2 l m sz;rw [e1,e2];simp only [R,JR];exact⟨by trivial,by omega,.inr ⟨by rw [e4];exact cC,e3,by simp,by unfold cp;rw [if_pos (by omega)]⟩⟩
 | _=>exact hr.elim
def Xm(P:Program)(e:Operand->Option Value)(t:TypeId)(x:Operand)(lo hi mx:Option Operand):Option Value :=
 match P.underlying t,e x,mx with
 | some .string,some (.string s),none=>(match GQ e hi s.size,GQ e lo 0 with
  | some h,some l=>bif decide (0<=l) && decide (l<=h) && decide (h<=s.size) then some (.string (s.extract l.toNat h.toNat)) else none
  | _,_=>none)
 | some (.slice el),some (.slice a len cap),none=>bif F8 P el then (match GQ e hi len,GQ e lo 0 with
  | some h,some l=>bif decide (0<=l) && decide (l<=h) then Akq a len cap l.toNat h.toNat (P.cellsOf el) else none
  | _,_=>none) else none
 | some (.slice el),some (.slice a len cap),some mo=>bif F8 P el && hi.isSome then (match GQ e (some mo) 0,GQ e hi 0,GQ e lo 0 with
  | some m,some h,some l=>bif decide (0<=l) && decide (l<=h) && decide (h<=m) then Agi a len cap l.toNat h.toNat m.toNat (P.cellsOf el) else none
  | _,_,_=>none) else none
 | some (.array n el),some (.pointer (some p)),none=>bif F8 P el && Anc n 9223372036854775808 && !(Am7 p.block Gu) then (match GQ e hi n,GQ e lo 0 with
  | some h,some l=>bif decide (0<=l) && decide (l<=h) && decide (h<=n) then some (.slice (Cc (some p) l.toNat n (P.cellsOf el)) (h.toNat-l.toNat) (n-l.toNat)) else none
  | _,_=>none) else none
 | _,_,_=>none
theorem Aer{e e':Operand->Option Value}(h:ER g e e'){t:TypeId}{x:Operand}{lo hi mx:Option Operand}{v:Value}(he:Xm P e t x lo hi mx=some v){K:Value->Prop}(hk:∀ c,R g v c->K c):UE P e' t x lo hi mx K:=by
 unfold Xm at he;unfold UE;split at he
 ·rename_i s hu hx;obtain⟨c,hc,hr⟩:=h _ _ hx;simp only [R] at hr;subst hr;rw [hu,hc];split at he
  ·rename_i hh l h1 h2;obtain⟨hb,rfl⟩:=BN he;simp only [Ana,decide_eq_true_eq] at hb;exact D1 h h1 (D1 h h2 ⟨⟨hb.1.1,hb.1.2,hb.2⟩,hk _ (by simp [R])⟩)
  ·cases he
 ·rename_i el a len cap hu hx;obtain⟨c,hc,hr⟩:=h _ _ hx;simp only [R] at hr;cases bM:F8 P el with
  | false=>simp [bM] at he
  | true =>
   simp only [bM,cond_true] at he;split at he
   ·rename_i hh l h1 h2;cases hb:decide (0<=l) && decide (l<=hh) with
    | false=>simp [hb] at he
    | true =>
     simp only [hb,cond_true] at he;simp only [Ana,decide_eq_true_eq] at hb;obtain⟨a',c',rfl,h3,h4⟩:=Aiq he (by omega) hr;rw [hu,hc];simp only [bM,cond_true];exact D1 h h1 (D1 h h2 ⟨⟨hb.1,hb.2,by omega⟩,hk _ h4⟩)
   ·cases he
 ·rename_i el a len cap mo hu hx;obtain⟨c,hc,hr⟩:=h _ _ hx;simp only [R] at hr;cases bM:F8 P el && hi.isSome with
  | false=>simp [bM] at he
  | true =>
   simp only [bM,cond_true] at he;simp only [Ana] at bM;split at he
   ·rename_i m hh l h1 h2 h3;cases hb:decide (0<=l) && decide (l<=hh) && decide (hh<=m) with
    | false=>simp [hb] at he
    | true =>
     simp only [hb,cond_true] at he;simp only [Ana,decide_eq_true_eq] at hb;obtain⟨a',c',rfl,h4,h5⟩:=Agj he (by omega) (by omega) hr;rw [hu,hc];simp only [bM.1,cond_true];cases hi with
     | none=>simp at bM
     | some ho=>exact D1 h h1 (D1 h h2 (D1 h h3 ⟨⟨hb.1.1,hb.1.2,hb.2,by omega⟩,hk _ h5⟩))
   ·cases he
 ·rename_i n el p hu hx;obtain⟨c,hc,hr⟩:=h _ _ hx;simp only [R] at hr;obtain⟨p',hp,rfl⟩:=hr;cases bM:F8 P el && Anc n 9223372036854775808 && !(Am7 p.block Gu) with
  | false=>simp [bM] at he
  | true =>
   simp only [bM,cond_true] at he;simp only [Ana,Aoa,Anc,An6] at bM;obtain⟨⟨bM,hn⟩,hj⟩:=bM;have cC:p.block≠Gu:=An4 hj;split at he
   ·rename_i hh l h1 h2;obtain⟨hb,rfl⟩:=BN he;simp only [Ana,decide_eq_true_eq] at hb;rw [hu,hc];simp only [bM,cond_true,As];refine D1 h h1 (D1 h h2 ⟨⟨hb.1.1,hb.1.2,hb.2⟩,hk _ ?_⟩);obtain⟨q,q',e1,e2,e3,e4⟩:=AfR hp l.toNat n (P.cellsOf el);rw [e1,e2];simp only [R,JR];exact⟨by trivial,by omega,.inr ⟨by rw [e4];exact cC,e3,by simp,by unfold cp;rw [if_pos (by omega)]⟩⟩
   ·cases he
 ·cases he
def Aku(x:Option Value):Option Value :=
 match x with
 | some (.pointer (some a))=>some (.pointer (some a))
 | some (.func (.func f) u c)=>some (.func (.func f) u c)
 | some (.func (.yield l) u c)=>some (.func (.yield l) u c)
 | _=>none
theorem Aiv{e e':Operand->Option Value}(h:ER g e e'){x:Operand}{v:Value}(he:Aku (e x)=some v){K:Value->Prop}(hk:∀ c,R g v c->K c):AkV (e' x) K:=by
 unfold Aku at he;split at he
 ·rename_i a hx;obtain⟨c,hc,hr⟩:=h _ _ hx;cases he;have:=hk _ hr;simp only [R] at hr;obtain⟨p',hp,rfl⟩:=hr;rw [hc];exact this
 ·rename_i f u k hx;obtain⟨c,hc,hr⟩:=h _ _ hx;cases he;have:=hk _ hr;obtain⟨_,_,rfl,_⟩:=SV hr;rw [hc];exact this
 ·rename_i f u k hx;obtain⟨c,hc,hr⟩:=h _ _ hx;cases he;have:=hk _ hr;cases c with
  | func fn _ _=>simp only [R] at hr;obtain⟨⟨l',_,rfl⟩,_⟩:=hr;rw [hc];exact this
  | _=>simp [R] at hr
 ·cases he
def AjH(e:Operand->Option Value)(c a b:Operand):Option Value :=
 match e c with
 | some (.bool true)=>e a
 | some (.bool false)=>e b
 | _=>none
def eP(P:Program)(e:Operand->Option Value)(o:Oper):Option Value :=
 match o.op with
 | .move x=>e x
 | .assign x=>e x
 | .pick c a b=>AjH e c a b
 | .nilCheck x=>Aku (e x)
 | .binOp op t x y _=>(match Aio P e op t x y with
  | some v=>if pl v then some v else none
  | none=>none)
 | .fieldAddr s x f=>I5 P e s x f
 | .indexAddr t x i=>I6 P e t x i
 | .index t x i=>Xb P e t x i
 | .slice t x lo hi mx=>Xm P e t x lo hi mx
 | .extract x i=>Og e x i
 | .field t x f=>Xa P e t x f
 | .build t ps=>AbF P e t ps.toList
 | .makeFunc fn fi ca=>PL e fn fi.toList ca.toList
 | .call c=>bif Q3 o then (match Agk P e o with
  | some v=>some v
  | none=>(match c.callee with
   | .builtin .len=>Akt P e c.argTypes.toList c.args.toList
   | _=>none)) else none
 | _=>bif Q3 o then Agk P e o else none
theorem Ago{e e':Operand->Option Value}(h:ER g e e'){o:Oper}{v:Value}(he:eP P e o=some v){K:Value->Prop}(hk:∀ c,R g v c->K c):Zc P e' o K:=by
 have bU:∀ {x:Operand},e x=some v->HT (e' x) K:=λ hx=>by
  obtain⟨c,hc,hr⟩:=h _ _ hx;rw [hc];exact hk _ hr
 have mY:∀ {o:Oper},(bif Q3 o then Agk P e o else none)=some v->BP P e' o K:=λ {o} hx=>by
  cases hb:Q3 o with
  | false=>simp [hb] at hx
  | true=>simp only [hb,cond_true] at hx;exact Ac8 h hb hx hk
 obtain⟨dst,op,type,pos,after,guard⟩:=o;cases op with
 | move x=>exact bU he
 | assign x=>exact bU he
 | pick c a b =>
  show AcQ (e' c) λ t=>VD t (HT (e' a) K) (HT (e' b) K);simp only [eP,AjH] at he;split at he
  ·rename_i hc;obtain⟨u,hu,hr⟩:=h _ _ hc;simp only [R] at hr;subst hr;rw [hu];exact bU he
  ·rename_i hc;obtain⟨u,hu,hr⟩:=h _ _ hc;simp only [R] at hr;subst hr;rw [hu];exact bU he
  ·cases he
 | nilCheck x=>exact Aiv h he hk
 | binOp op t x y _ =>
  simp only [eP] at he;split at he
  ·rename_i w hw;split at he
   ·rename_i hp;cases he;exact Aip h hw (hk _ ((RZ _ hp).2 rfl))
   ·cases he
  ·cases he
 | fieldAddr s x f=>exact U8 h he hk
 | indexAddr t x i=>exact U9 h he hk
 | index t x i=>exact Aen h he hk
 | slice t x lo hi mx=>exact Aer h he hk
 | extract x i=>exact Zm h rfl he hk
 | field t x f=>exact Aem h rfl he hk
 | build t ps=>exact Aek h rfl he hk
 | makeFunc fn fi ca=>exact Xh (P:=P) h rfl he hk
 | call c =>
  show BP P e' _ K;simp only [eP] at he;cases hb:Q3 ⟨dst,.call c,type,pos,after,guard⟩ with
  | false=>simp [hb] at he
  | true =>
   simp only [hb,cond_true] at he;split at he
   ·rename_i w hw;cases he;exact Ac8 h hb hw hk
   ·split at he
    ·rename_i bn;exact Aiu h rfl bn he hk
    ·cases he
 | _=>first | exact mY he
end
end Go.Dn
set_option linter.unusedVariables false
set_option maxRecDepth 100000
namespace Go.Dn
open _root_.Array renaming range -> Aod
open _root_.Bool renaming and_eq_true -> Ana
open _root_.List renaming all_eq_true -> An9, getElem?_eq_some_iff -> Anj, map_cons -> Aoe
open _root_.Nat renaming beq -> Am7, ble -> An7, ble_eq -> An6, blt -> Anc, div -> An5, eq_of_beq_eq_true -> Anb, le_refl -> AnD, zero_add -> Anu
open _root_.Option renaming map_some -> Aoc
open _root_.Option.some renaming injEq -> An8
open _root_.Prod.mk renaming injEq -> AnO
open Go.RowKit (Below)
inductive AI where
 | cells (b:Nat) (cs:List Value) (t:TypeId)
 | row (b:Nat) (e:TypeId) (sz n:Nat) (xs:List Value) (cx:Option Nat)
 | ro (b:Nat) (xs:List Value)
 | loop (b:Nat) (st:LoopState) (p:Option Code)
 | mark (b:Nat)
 | mp (b:Nat) (es:List (ByteArray × Value × Nat)) (ck:Nat)
def AI.id:AI->Nat
 | .cells b _ _=>b
 | .row b _ _ _ _ _=>b
 | .ro b _=>b
 | .loop b _ _=>b
 | .mark b=>b
 | .mp b _ _=>b
def AI.Vv:AI->List Value
 | .cells _ cs _=>cs
 | .row _ _ _ _ xs _=>xs
 | .ro _ xs=>xs
 | _=>[]
def FX:List (ByteArray × Value × Nat)->List Value->List MapEntry
 | x :: es,u :: us=>{ key:=.string x.1,val:=u,born:=x.2.2 } :: FX es us
 | _,_=>[]
def IR(g:Sg)(x:AI)(y:It):Prop :=
 ∃ s,Dg<=x.id/\Jz g x.id=some s/\(match x with
  | .cells _ cs t=>∃ us,RL g cs us/\y=It.cells s.1 ⟨us⟩ t
  | .row _ e sz n xs cx=>∃ us,RL g xs us/\y=It.row e sz (some ⟨s.1,0,none⟩) n s.2.1 us/\∀ k,cx=some k->s.2.1=k
  | .ro _ xs=>∃ us,RL g xs us/\y=It.rd (some ⟨s.1,0,none⟩) us
  | .loop _ st p=>y=It.obj s.1 (.loop { s.2.2 with state:=st,pending:=p })
  | .mark _=>y=It.obj s.1 (.deferred (some []))
  | .mp _ es ck=>∃ us,RL g (es.map (·.2.1)) us/\y=It.obj s.1 (.map (FX es us).toArray ck))
def HR(g:Sg):List AI->List It->Prop
 | [],l=>l=[]
 | x :: xs,l=>match l with
  | []=>False
  | y :: ys=>IR g x y/\HR g xs ys
structure AS where
 nx:Nat
 H:List AI
def SQ(g:Sg)(w0 w:World)(H:List AI):Prop:=∃ L,HR g H L/\ST w0 w L
def SR(g:Sg)(w0 w:World)(S:AS):Prop:=g S.nx=none/\SQ g w0 w S.H
abbrev GT:=List (Nat × List Value)
def ZI:GT->Nat->Option (List Value)
 | [],_=>none
 | x :: r,b=>bif Am7 x.1 b then some x.2 else ZI r b
def Ka(G:GT)(w0:World):Prop:=∀ b vs,ZI G b=some vs->XL vs=true/\∀(i:Nat) v,vs[i]?=some v->w0.cell? ⟨b,i,none⟩=some v
section
variable {g:Sg}{w0 w:World}
theorem Al7{g':Sg}(h:Le g g'){x:AI}{y:It}(hr:IR g x y):IR g' x y:=by
 obtain⟨s,h1,h2,h3⟩:=hr;refine⟨s,h1,h.at h2,?_⟩;cases x with
 | cells b cs t=>obtain⟨us,a,b⟩:=h3;exact⟨us,GY h _ a,b⟩
 | row b e sz n xs cx=>obtain⟨us,a,b⟩:=h3;exact⟨us,GY h _ a,b⟩
 | ro b xs=>obtain⟨us,a,b⟩:=h3;exact⟨us,GY h _ a,b⟩
 | loop b st p=>exact h3
 | mark b=>exact h3
 | mp b es ck=>obtain⟨us,a,b⟩:=h3;exact⟨us,GY h _ a,b⟩
theorem MH{g':Sg}(h:Le g g'):∀ {xs:List AI} {ys:List It},HR g xs ys->HR g' xs ys
 | [],_,hr=>hr
 | x :: xs,[],hr=>hr
 | x :: xs,y :: ys,hr=>⟨Al7 h hr.1,MH h hr.2⟩
theorem Kb:∀ {xs:List AI} {ys:List It},HR g xs ys->∀ {i:Nat} {x:AI},xs[i]?=some x->∃ y,ys[i]?=some y/\IR g x y
 | [],_,_,i,x,h=>by simp at h
 | x :: xs,[],hr,_,_,_=>hr.elim
 | x :: xs,y :: ys,hr,0,z,h=>by simp at h;subst h;exact⟨y,rfl,hr.1⟩
 | x :: xs,y :: ys,hr,i+1,z,h=>by simpa using Kb hr.2 (i:=i) (by simpa using h)
theorem IP:∀ {xs:List AI} {ys:List It} (i:Nat) {x:AI} {y:It},HR g xs ys->IR g x y->HR g (xs.set i x) (ys.set i y)
 | [],_,i,_,_,hr,_=>by simp only [HR] at hr;subst hr;simp [HR]
 | x :: xs,[],_,_,_,hr,_=>hr.elim
 | x :: xs,y :: ys,0,_,_,hr,h=>⟨h,hr.2⟩
 | x :: xs,y :: ys,i+1,_,_,hr,h=>⟨hr.1,IP i hr.2 h⟩
def UW(b:Nat):List AI->Nat->Option (Nat × AI)
 | [],_=>none
 | x :: xs,i=>bif Am7 x.id b then some (i,x) else UW b xs (i+1)
theorem Agv{b:Nat}:∀ {xs:List AI} {i j:Nat} {x:AI},UW b xs i=some (j,x)->i<=j/\xs[j-i]?=some x/\x.id=b
 | [],_,_,_,h=>by simp [UW] at h
 | y :: ys,i,j,x,h=>by
  unfold UW at h;cases hb:Am7 y.id b with
  | true =>
   simp only [hb,cond_true,An8,AnO] at h;obtain⟨rfl,rfl⟩:=h;exact⟨AnD _,by simp,Anb hb⟩
  | false =>
   simp only [hb,cond_false] at h;obtain⟨h1,h2,h3⟩:=Agv h;refine⟨by omega,?_,h3⟩;rw [show j-i=(j-(i+1))+1 by omega];simpa using h2
theorem Xr{b:Nat}{xs:List AI}{j:Nat}{x:AI}(h:UW b xs 0=some (j,x)):xs[j]?=some x/\x.id=b:=by
 obtain⟨_,h2,h3⟩:=Agv h;exact⟨by simpa using h2,h3⟩
theorem Fv{b:Nat}{s:Nat × Nat × Loop}(h:Dg<=b)(hs:Jz g b=some s):bk g b=some s.1:=by
 unfold bk;rw [if_neg (by unfold Gu Dg at *;omega),if_neg (by omega),hs];rfl
theorem Ah8{x:AI}{y:It}(h:IR g x y)(hy:y.ok w):∃ us s,Jz g x.id=some s/\Dg<=x.id/\RL g x.Vv us/\∀(i:Nat) c,us[i]?=some c->w.cell? ⟨s.1,i,none⟩=some c:=by
 obtain⟨s,h1,h2,h3⟩:=h;have aU:∀ {us:List Value},Rd w (some ⟨s.1,0,none⟩) us->∀(i:Nat) c,us[i]?=some c->w.cell? ⟨s.1,i,none⟩=some c:=λ hr i c hi=>by
  obtain⟨p,hp,hc⟩:=hr i c hi;cases hp;rw [Am,Anu] at hc;exact hc
 cases x with
 | cells b cs t =>
  obtain⟨us,a,rfl⟩:=h3;refine⟨us,s,h2,h1,a,aU ?_⟩;have:w.heap[s.1]?=some (.cells ⟨us⟩ t (0,0)):=hy;exact Rd.Ak this
 | row b e sz n xs cx =>
  obtain⟨us,a,rfl,_⟩:=h3;exact⟨us,s,h2,h1,a,aU (Row.rd (e:=e) (sz:=sz) (n:=n) hy)⟩
 | ro b xs =>
  obtain⟨us,a,rfl⟩:=h3;exact⟨us,s,h2,h1,a,aU hy⟩
 | loop b st p=>exact⟨[],s,h2,h1,by simp [AI.Vv,RL],by simp⟩
 | mark b=>exact⟨[],s,h2,h1,by simp [AI.Vv,RL],by simp⟩
 | mp b es ck=>exact⟨[],s,h2,h1,by simp [AI.Vv,RL],by simp⟩
def Z6(G:GT)(H:List AI)(b:Nat):Option (List Value) :=
 bif Anc b Gu then ZI G b else match UW b H 0 with
  | some (_,x)=>some x.Vv
  | none=>none
theorem LY{G:GT}(hG:Ka G w0){S:AS}(hS:SQ g w0 w S.H){b:Nat}{vs:List Value}(hm:Z6 G S.H b=some vs):∃ us c,RL g vs us/\bk g b=some c/\∀(i:Nat) v,us[i]?=some v->w.cell? ⟨c,i,none⟩=some v:=by
 obtain⟨L,hL,hT⟩:=hS;unfold Z6 at hm;cases hb:Anc b Gu with
 | true =>
  rw [hb] at hm;have gZ:b<Gu:=by rw [Anc,An6] at hb;exact hb
  obtain⟨h1,h2⟩:=hG b vs hm;refine⟨vs,b,(HK _ h1).2 rfl,by unfold bk;rw [if_pos gZ],λ i v hv=>?_⟩;have:=h2 i v hv;have aB:=World.block_lt_of_cell? _ _ this;rw [World.cell?_of_block (w:=w0) (hT.An.block _ aB)];exact this
 | false =>
  rw [hb] at hm;simp only [cond_false] at hm;split at hm
  ·rename_i j x hx;cases hm;obtain⟨h1,h2⟩:=Xr hx;obtain⟨y,hy,hr⟩:=Kb hL h1;obtain⟨us,s,h3,h4,h5,h6⟩:=Ah8 hr (hT.get _ hy);subst h2;exact⟨us,s.1,h5,Fv h4 h3,h6⟩
  ·cases hm
/-! ## Loads -/
def Nh:List Value->List Value->Bool
 | [],[]=>true
 | z :: zs,v :: vs=>Wc z v && Nh zs vs
 | _,_=>false
theorem YG:∀ {zs us cs:List Value} {a:Addr} {i:Nat} {k:List Value->Prop},Nh zs us=true->RL g us cs->(∀(j:Nat) c,cs[j]?=some c->w.cell? (a.add (i+j))=some c)->k cs->CZ zs a i k w
 | [],[],cs,a,i,k,_,hr,_,hk=>by simp only [RL] at hr;subst hr;exact hk
 | z :: zs,v :: vs,[],_,_,_,_,hr,_,_=>by simp [RL] at hr
 | z :: zs,v :: vs,c :: cs,a,i,k,h,hr,hc,hk=>by
  simp only [Nh,Ana] at h;simp only [RL] at hr;refine Ah9 h.1 hr.1 ⟨hc 0 c rfl,?_⟩;exact YG h.2 hr.2 (λ j d hd=>by rw [show i+1+j=i+(j+1) by omega];exact hc (j+1) d hd) hk
 | [],_ :: _,_,_,_,_,h,_,_,_=>by simp [Nh] at h
 | _ :: _,[],_,_,_,_,h,_,_,_=>by simp [Nh] at h
def Xf(G:GT)(H:List AI)(a:Addr)(zs:List Value):Option (List Value) :=
 match a.spot with
 | some _=>none
 | none=>(match Z6 G H a.block with
  | none=>none
  | some vs=>bif Nh zs ((vs.drop a.off).take zs.length) then some ((vs.drop a.off).take zs.length) else none)
theorem VX{G:GT}(hG:Ka G w0){S:AS}(hS:SQ g w0 w S.H){a a':Addr}(ha:ad g a=some a'){zs vs:List Value}(he:Xf G S.H a zs=some vs) :
  ∃ cs,RL g vs cs/\(∀(j:Nat) c,cs[j]?=some c->w.cell? (a'.add j)=some c)/\∀ k,k cs->CZ zs a' 0 k w:=by
 obtain⟨b,o,sp⟩:=a;unfold Xf at he;simp only at he;split at he
 ·cases he
 ·split at he
  ·cases he
  ·rename_i us hm;cases hb:Nh zs ((us.drop o).take zs.length) with
   | false=>simp [hb] at he
   | true =>
    simp only [hb,cond_true,An8] at he;subst he;obtain⟨cs,c,h1,h2,h3⟩:=LY hG hS hm;have fN:a'=⟨c,o,none⟩:=by
     unfold ad at ha;simp only [h2,Aoc,An8] at ha;exact ha.symm
    subst fN;have hr:=HA zs.length (IW o h1);have hc:∀(j:Nat) d,((cs.drop o).take zs.length)[j]?=some d->w.cell? ((⟨c,o,none⟩:Addr).add j)=some d:=λ j d hd=>by
     rw [Am];rw [List.getElem?_take] at hd;split at hd
     ·rw [List.getElem?_drop] at hd;exact h3 _ _ hd
     ·cases hd
    exact⟨_,hr,hc,λ k hk=>YG hb hr (λ j d hd=>by rw [Anu];exact hc j d hd) hk⟩
abbrev Hu:=Addr × List Value
def QR(P:Program)(G:GT)(H:List AI)(t:TypeId)(x:Option Value):Option (Value × Hu) :=
 match zeroOf P t,x with
 | some z,some (.pointer (some a)) =>
  bif Fz P t then (bif Am7 (P.cellsOf t) z.cells.toList.length then (match Xf G H a z.cells.toList with
   | some vs=>some (.agg ⟨vs⟩,a,vs)
   | none=>none) else none)
  else bif (P.underlying t).isSome then (match Xf G H a [z] with
   | some vs=>some (vs.headD undef,a,vs)
   | none=>none) else none
 | _,_=>none
def AbU(g:Sg)(w:World)(x:Hu)(h:DZ):Prop:=∃ a' cs,ad g x.1=some a'/\RL g x.2 cs/\h=Jh a' cs 0
theorem Oh{P:Program}{G:GT}(hG:Ka G w0){S:AS}(hS:SQ g w0 w S.H){e e':Operand->Option Value}(h:ER g e e'){t:TypeId}{x:Operand}{v:Value}{hd:Hu}(he:QR P G S.H t (e x)=some (v,hd)){k:Value->DZ->Prop}
  (hk:∀ c hc,R g v c->AbU g w hd hc->k c hc):Q6 P t (e' x) k w:=by
 unfold QR at he;unfold Q6;split at he
 ·rename_i z a hz hx;rw [hz];obtain⟨c,hc,hr⟩:=h _ _ hx;simp only [R] at hr;obtain⟨a',ha,rfl⟩:=hr;rw [hc];cases aR:Fz P t with
  | true =>
   simp only [aR,cond_true] at he ⊢;cases hn:Am7 (P.cellsOf t) z.cells.toList.length with
   | false=>rw [hn,cond_false] at he;cases he
   | true =>
    rw [hn,cond_true] at he;rw [cond_true];split at he
    ·rename_i vs hl;cases he;obtain⟨cs,h1,_,h3⟩:=VX hG hS ha hl;exact h3 _ (hk _ _ (by simp only [R,RA];exact h1) ⟨a',cs,ha,h1,rfl⟩)
    ·cases he
  | false =>
   simp only [aR,cond_false] at he ⊢;cases hn:(P.underlying t).isSome with
   | false=>simp [hn] at he
   | true =>
    simp only [hn,cond_true] at he ⊢;split at he
    ·rename_i vs hl;cases he;obtain⟨cs,h1,_,h3⟩:=VX hG hS ha hl;refine h3 (λ vs=>k (vs.headD undef) (Jh a' vs 0)) (hk _ _ ?_ ⟨a',cs,ha,h1,rfl⟩);cases vs with
     | nil=>simp only [RL] at h1;subst h1;simp [List.headD,undef,R,RA,RL]
     | cons v vs =>
      cases cs with
      | nil=>simp [RL] at h1
      | cons c cs=>simp only [RL] at h1;exact h1.1
    ·cases he
 ·cases he
end
section
variable {g:Sg}{w0 w:World}
def AI.Sd:AI->Nat->List Value->Option AI
 | x,_,[]=>some x
 | .cells b cs t,o,v :: vs=>bif Anc o cs.length then AI.Sd (.cells b (cs.set o v) t) (o+1) vs else none
 | .row b e sz n xs cx,o,v :: vs=>bif Anc o xs.length then AI.Sd (.row b e sz n (xs.set o v) cx) (o+1) vs else none
 | _,_,_ :: _=>none
theorem Es{a b:Nat}(h:Anc a b=true):a<b:=by rw [Anc,An6] at h;exact h
theorem Wk{v c:Value}(h:R g v c)(h1:v.oneCell'=true):c.oneCell'=true:=by
 cases v with
 | agg _=>cases h1
 | tuple _=>cases h1
 | pointer p=>cases p <;> simp only [R] at h <;> first | (subst h;rfl) | (obtain⟨_,_,rfl⟩:=h;rfl)
 | map p=>cases p <;> simp only [R] at h <;> first | (subst h;rfl) | (obtain⟨_,_,rfl⟩:=h;rfl)
 | slice p l k=>cases c <;> first | rfl | (simp [R,JR] at h)
 | func _ _ _=>cases c <;> first | rfl | (simp [R] at h)
 | iface _ _=>cases c <;> first | rfl | (simp [R] at h)
 | chan _=>simp [R] at h
 | _=>simp only [R] at h;subst h;rfl
theorem YP:∀ {vs us:List Value} {S:AS} {w:World} {j o:Nat} {x x':AI} {s:Nat × Nat × Loop},SQ g w0 w S.H->S.H[j]?=some x->Jz g x.id=some s->x.Sd o vs=some x'->RL g vs us->(∀ v∈vs,v.oneCell'=true)->∀ {p:Nat} {i:Nat},p+i=o->∀ {k:World->Prop},
  (∀ w',SQ g w0 w' (S.H.set j x')->k w')->BW us ⟨s.1,p,none⟩ i k w:=by
 intro vs
 induction vs with
 | nil =>
  intro us S w j o x x' s hS hx hs he hr h1 p i oT k hk;simp only [RL] at hr;subst hr;have:x'=x:=by cases x <;> (simp only [AI.Sd,An8] at he;exact he.symm)
  subst this;refine hk w ?_;obtain⟨L,h3,h4⟩:=hS;refine⟨L,?_,h4⟩;rwa [show S.H.set j x'=S.H from (Anj.1 hx).2 ▸ List.set_getElem_self _]
 | cons v vs ih =>
  intro us S w j o x x' s hS hx hs he hr h1 p i oT k hk;cases us with
  | nil=>simp [RL] at hr
  | cons u us =>
  simp only [RL] at hr;have gx:=Wk hr.1 (h1 v (by simp));show (bif u.oneCell' then Cd ((⟨s.1,p,none⟩:Addr).add i) u (λ w'=>BW us ⟨s.1,p,none⟩ (i+1) k w') w else False);rw [gx,cond_true,Am,oT];obtain⟨L,h3,h4⟩:=hS;obtain⟨y,hy,t,ht1,ht2,ht3⟩:=Kb h3 hx;have uN:t=s:=by rw [hs] at ht2;cases ht2;rfl
  subst uN;have aB:=(Anj.1 hx).1;cases x with
  | cells b cs ty =>
   obtain⟨cc,hc,rfl⟩:=ht3;unfold AI.Sd at he;cases hb:Anc o cs.length with
   | false=>simp [hb] at he
   | true =>
    simp only [hb,cond_true] at he;have cI:=Es hb;have bR:=Eg hc;refine h4.Cr j hy (aC:=⟨cc.set o u⟩) (i:=o) (by simpa [bR] using cI) (by simp) λ w1 S1=>?_;have jn:SQ g w0 w1 (S.H.set j (.cells b (cs.set o v) ty)):=⟨_,IP j h3 ⟨t,ht1,hs,_,SU o hc hr.1,rfl⟩,S1⟩;refine ih (S:=⟨S.nx,S.H.set j (.cells b (cs.set o v) ty)⟩) (j:=j) (x:=.cells b (cs.set o v) ty) jn (by simp [aB]) hs he hr.2 (λ v hv=>h1 v (by simp [hv])) (by omega) λ w2 qM=>?_;refine hk w2 ?_;simpa using qM
  | row b e sz n xs cx =>
   obtain⟨cc,hc,rfl,hcx⟩:=ht3;unfold AI.Sd at he;cases hb:Anc o xs.length with
   | false=>simp [hb] at he
   | true =>
    simp only [hb,cond_true] at he;have cI:=Es hb;have bR:=Eg hc;have lB:=(h4.rw j hy).len;refine h4.Alg j hy (j:=o) (by omega) λ w1 S1=>?_;have jn:SQ g w0 w1 (S.H.set j (.row b e sz n (xs.set o v) cx)):=⟨_,IP j h3 ⟨t,ht1,hs,_,SU o hc hr.1,rfl,hcx⟩,S1⟩;refine ih (S:=⟨S.nx,S.H.set j (.row b e sz n (xs.set o v) cx)⟩) (j:=j) (x:=.row b e sz n (xs.set o v) cx) jn (by simp [aB]) hs he hr.2 (λ v hv=>h1 v (by simp [hv])) (by omega) λ w2 qM=>?_;refine hk w2 ?_;simpa using qM
  | ro _ _=>simp [AI.Sd] at he
  | loop _ _ _=>simp [AI.Sd] at he
  | mark _=>simp [AI.Sd] at he
  | mp _ _ _=>simp [AI.Sd] at he
/-! ## New blocks -/
theorem Gh(n:Nat)(s:Nat × Nat × Loop):Jz (up g n s) (n+Dg)=some s:=by
 unfold Jz up;rw [if_pos (by omega)]
theorem DT(n:Nat):Dg<=n+Dg:=Nat.le_add_left _ _
theorem Adj(n:Nat):n+Dg≠Gu:=by unfold Dg Gu;omega
theorem PC(n:Nat)(s:Nat × Nat × Loop):bk (up g n s) (n+Dg)=some s.1:=Fv (DT _) (Gh n s)
theorem AdC(n:Nat)(s:Nat × Nat × Loop):R (up g n s) (.pointer (some ⟨n+Dg,0,none⟩)) (.pointer (some ⟨s.1,0,none⟩)):=by
 simp only [R];exact⟨_,by unfold ad;simp only [PC];rfl,rfl⟩
theorem AfU(n:Nat)(s:Nat × Nat × Loop)(o:Nat):ad (up g n s) ⟨n+Dg,o,none⟩=some ⟨s.1,o,none⟩:=by unfold ad;simp only [PC];rfl
theorem AdG(i:Nat)(s:Nat × Nat × Loop){n c:Nat}(h:n<=c)(hc:c<9223372036854775808):R (up g i s) (.slice (some ⟨i+Dg,0,none⟩) n c) (.slice (some ⟨s.1,0,none⟩) n c):=by
 simp only [R,JR];exact⟨trivial,h,.inr ⟨Adj _,AfU i s 0,by simp,by unfold cp;rw [if_pos hc]⟩⟩
theorem Pa(i:Nat)(s:Nat × Nat × Loop){n:Nat}(h:n<=s.2.1):R (up g i s) (.slice (some ⟨i+Dg,0,none⟩) n Pt) (.slice (some ⟨s.1,0,none⟩) n s.2.1):=by
 simp only [R,JR];refine⟨trivial,h,.inr ⟨Adj _,AfU i s 0,by simp,?_⟩⟩;unfold cp;rw [if_neg (by unfold Pt;omega),if_neg (by have:=DT i;omega),Gh];simp
theorem SR.Aj{S:AS}(hS:SR g w0 w S){vs us:List Value}(hr:RL g vs us){t:TypeId}{k:Nat->World->Prop}
  (hk:∀ b w',SQ (up g S.nx (b,0,default)) w0 w' (.cells (S.nx+Dg) vs t :: S.H)->k b w'):C0 ⟨us⟩ t k w:=by
 obtain⟨h1,L,h2,h3⟩:=hS;refine h3.Aj λ b w' _ B S'=>hk b w' ?_;exact⟨It.cells b ⟨us⟩ t :: L,⟨⟨(b,0,default),DT _,Gh _ _,us,GY (Le.up h1 _) _ hr,rfl⟩,MH (Le.up h1 _) h2⟩,S'⟩
theorem SR.newRow{S:AS}(hS:SR g w0 w S){vs us:List Value}(hr:RL g vs us){e:TypeId}{sz n:Nat}(hn:us.length=n*sz)(kL:n<=9223372036854775807){k:Nat->World->Prop}
  (hk:∀ b w',SQ (up g S.nx (b,n,default)) w0 w' (.row (S.nx+Dg) e sz n vs (some n) :: S.H)->k b w'):C0 ⟨us⟩ e k w:=by
 obtain⟨h1,L,h2,h3⟩:=hS;refine h3.Aj λ b w' _ B S'=>hk b w' ?_;have S2:=S'.IM 0 rfl (Ae.refl _ _) (It.row e sz (some ⟨b,0,none⟩) n n us) ⟨hn,.inr ⟨b,_,rfl,S'.CK 0 rfl,AnD _,kL,by simpa using hn,by rw [<- hn];simp⟩⟩ (λ k hk=>.inl hk);exact⟨It.row e sz (some ⟨b,0,none⟩) n n us :: L,⟨⟨(b,n,default),DT _,Gh _ _,us,GY (Le.up h1 _) _ hr,rfl,λ k hk=>by cases hk;rfl⟩,MH (Le.up h1 _) h2⟩,S2⟩
end
section
variable {P:Program}{g:Sg}{w0 w:World}
theorem Aj8{s:Sem Value}{z:Value}{k:Value->World->Prop}{w:World}(h:CD P s (λ v w'=>QJ z λ u=>v=u/\k u w') w):Yp P s z k w:=h
def Gl(n:Nat)(g:Sg)(w0:World)(v:Value)(H:List AI)(k:Value->World->Prop):Prop:=∀ g' c w',(g'=g\/∃ s,g'=up g n s)->R g' v c->SQ g' w0 w' H->k c w'
def AbD(P:Program)(t:TypeId)(S:AS):Option (Value × AS) :=
 match zeroOf P t with
 | some z=>bif XL z.cells.toList then some (.pointer (some ⟨S.nx+Dg,0,none⟩),⟨S.nx+1,.cells (S.nx+Dg) z.cells.toList t :: S.H⟩) else none
 | none=>none
theorem SR.Amk{S:AS}(hS:SR g w0 w S){vs us:List Value}(hr:RL g vs us){t:TypeId}{k:Value->World->Prop}(hk:Gl S.nx g w0 (.pointer (some ⟨S.nx+Dg,0,none⟩)) (.cells (S.nx+Dg) vs t :: S.H) k) :
  C0 ⟨us⟩ t (λ b w'=>k (.pointer (some ⟨b,0,none⟩)) w') w :=
 hS.Aj hr λ b w' eU=>hk _ _ w' (.inr ⟨_,rfl⟩) (AdC _ (b,0,default)) eU
theorem Aej{t:TypeId}{S S':AS}{v:Value}(he:AbD P t S=some (v,S'))(hS:SR g w0 w S){k:Value->World->Prop}(hk:Gl S.nx g w0 v S'.H k) :
  ∃ z,zeroOf P t=some z/\C0 z.cells t (λ b w'=>k (.pointer (some ⟨b,0,none⟩)) w') w:=by
 unfold AbD at he;split at he
 ·rename_i z hz;cases hp:XL z.cells.toList with
  | false=>simp [hp] at he
  | true =>
   simp only [hp,cond_true,An8,AnO] at he;obtain⟨rfl,rfl⟩:=he;exact⟨z,hz,hS.Amk ((HK _ hp).2 rfl) hk⟩
 ·cases he
def AlU(x:Option Value)(t:TypeId)(S:AS):Option (Value × AS) :=
 match x with
 | some v=>some (.pointer (some ⟨S.nx+Dg,0,none⟩),⟨S.nx+1,.cells (S.nx+Dg) v.cells.toList t :: S.H⟩)
 | none=>none
def eBS(P:Program)(e:Operand->Option Value)(t:TypeId)(len:Nat)(parts:List (Nat × Operand)):Option (TypeId × Nat × List Value) :=
 match P.underlying t with
 | some (.slice el) =>
  match P.info? el with
  | some i =>
   match i.zero with
   | some z=>bif Am7 len 0 && parts.isEmpty then some (el,i.size,[]) else bif (Anc (2 ^ 24) (len*i.size)) || (Am7 (len*i.size) 0) then none else
    (match LW e parts with
    | some ps=>bif XL ((Aod (len*i.size)).map (z.cells[· % z.cells.size]!)).toList then (match Instr.fill (λ j=>some (j*i.size,i.size)) ((Aod (len*i.size)).map (z.cells[· % z.cells.size]!)) ps with
     | some c=>some (el,i.size,c.toList)
     | none=>none) else none
    | none=>none)
   | none=>none
  | none=>none
 | _=>none
theorem Akp{e e':Operand->Option Value}(h:ER g e e'){t el:TypeId}{len sz:Nat}{parts:Array (Nat × Operand)}{vs:List Value}(he:eBS P e t len parts.toList=some (el,sz,vs)) :
  ∃ us,RL g vs us/\Dv P e' t len parts=some (el,⟨us⟩)/\∀ x∈parts.toList,(e' x.2).isSome:=by
 unfold eBS at he;unfold Dv;split at he
 ·rename_i pX hu;rw [hu];split at he
  ·rename_i i hi;simp only [hi];split at he
   ·rename_i z hz;simp only [hz];cases h0:Am7 len 0 && parts.toList.isEmpty with
    | true =>
     simp only [h0,cond_true,An8,AnO] at he;obtain⟨rfl,rfl,rfl⟩:=he;refine⟨[],by simp [RL],by simp,?_⟩;simp only [Ana,List.isEmpty_iff] at h0;rw [h0.2];simp
    | false =>
     simp only [h0,cond_false] at he ⊢;cases h1:(Anc (2 ^ 24) (len*i.size)) || (Am7 (len*i.size) 0) with
     | true=>simp only [h1,cond_true] at he;cases he
     | false =>
      simp only [h1,cond_false] at he ⊢;split at he
      ·rename_i ps cU;cases h2:XL ((Aod (len*i.size)).map (z.cells[· % z.cells.size]!)).toList with
       | false=>simp only [h2,cond_false] at he;cases he
       | true =>
        simp only [h2,cond_true] at he;split at he
        ·rename_i c hc;simp only [An8,AnO] at he;obtain⟨rfl,rfl,rfl⟩:=he;obtain⟨q1,q2⟩:=PM h cU;obtain⟨r,hr,iM⟩:=AbP q1 ((HK _ h2).2 rfl) hc;refine⟨r.toList,iM,?_,q2⟩;rw [hr];rfl
        ·cases he
      ·cases he
   ·cases he
  ·cases he
 ·cases he
def Ko(P:Program)(e:Operand->Option Value)(t:TypeId)(len:Nat)(parts:List (Nat × Operand))(S:AS):Option (Value × AS) :=
 match eBS P e t len parts with
 | some (el,sz,vs)=>bif Am7 vs.length (len*sz) && Anc len 9223372036854775808 then some (.slice (some ⟨S.nx+Dg,0,none⟩) len len,⟨S.nx+1,.row (S.nx+Dg) el sz len vs (some len) :: S.H⟩) else none
 | none=>none
theorem Tv{e e':Operand->Option Value}(h:ER g e e'){o:Oper}{t:TypeId}{len:Nat}{parts:Array (Nat × Operand)}(ho:o.op=.buildSlice t len parts){S S':AS}{v:Value}(he:Ko P e t len parts.toList S=some (v,S'))(hS:SR g w0 w S){k:Value->World->Prop}(hk:Gl S.nx g w0 v S'.H k) :
  (bif known e' o then
   (match Dv P e' t len parts with
   | some (el,c)=>C0 c el (λ b w'=>k (.slice (some ⟨b,0,none⟩) len len) w') w
   | none=>False) else False):=by
 unfold Ko at he;split at he
 ·rename_i el sz vs hb;obtain⟨us,hr,jx,cM⟩:=Akp h hb;have bH:known e' o=true:=by
   simp only [known,ho,Op.operands];refine An9.2 λ x hx=>?_;simp only [List.mem_map] at hx;obtain⟨p,hp,rfl⟩:=hx;exact cM p hp
  rw [bH,cond_true,jx];cases hc:Am7 vs.length (len*sz) && Anc len 9223372036854775808 with
  | false=>simp only [hc,cond_false] at he;cases he
  | true =>
   simp only [hc,cond_true,An8,AnO] at he;obtain⟨rfl,rfl⟩:=he;simp only [Ana] at hc;have h1:=Anb hc.1;have h2:=Es hc.2;exact hS.newRow hr (e:=el) (sz:=sz) (n:=len) (by rw [Eg hr,h1]) (by omega) λ b w' eU=>hk _ _ w' (.inr ⟨_,rfl⟩) (AdG _ (b,len,default) (AnD _) h2) eU
 ·cases he
def Ty(P:Program)(t:TypeId)(a x:Option Value)(S:AS):Option AS :=
 match a,x with
 | some (.pointer (some p)),some v =>
  bif Am7 v.cells.size (P.cellsOf t) && F8 P t && p.spot.isNone && An7 Dg p.block && v.cells.toList.all (·.oneCell') then (match UW p.block S.H 0 with
   | some (j,x)=>(match x.Sd p.off v.cells.toList with
    | some x'=>some ⟨S.nx,S.H.set j x'⟩
    | none=>none)
   | none=>none) else none
 | _,_=>none
theorem Aes{e e':Operand->Option Value}(h:ER g e e'){t:TypeId}{a x:Operand}{S S':AS}(he:Ty P t (e a) (e x) S=some S')(hS:SR g w0 w S){k:World->Prop}(hk:∀ w',SQ g w0 w' S'.H->k w') :
  HT (e' x) λ v=>YK (e' a) λ p=>bif Am7 v.cells.size (P.cellsOf t) && F8 P t then BW v.cells.toList p 0 k w else False:=by
 unfold Ty at he;split at he
 ·rename_i p v ha hx;obtain⟨c,hc,hr⟩:=h _ _ ha;obtain⟨d,hd,cD⟩:=h _ _ hx;simp only [R] at hr;obtain⟨p',hp,rfl⟩:=hr;rw [hc,hd];simp only [HT,YK,As];have mW:=WZ cD;have hlen:d.cells.size=v.cells.size:=by have:=Eg mW;simpa using this
  cases hb:Am7 v.cells.size (P.cellsOf t) && F8 P t && p.spot.isNone && An7 Dg p.block && v.cells.toList.all (·.oneCell') with
  | false=>simp only [hb,cond_false] at he;cases he
  | true =>
   simp only [hb,cond_true] at he;simp only [Ana] at hb;obtain⟨⟨⟨⟨b1,b2⟩,b3⟩,b4⟩,b5⟩:=hb;rw [hlen,b1,b2];simp only [Bool.and_self,cond_true];split at he
   ·rename_i j y hf;split at he
    ·rename_i y' hy;cases he;obtain⟨f1,f2⟩:=Xr hf;obtain⟨_,L,hL,hT⟩:=id hS;obtain⟨z,hz,s,s1,s2,_⟩:=Kb hL f1;have bj:p'=⟨s.1,p.off,none⟩:=by
      unfold ad at hp;rw [<- f2,Fv s1 s2] at hp;simp only [Aoc,An8] at hp;rw [<- hp];cases eK:p.spot with
      | none=>rfl
      | some _=>simp [eK] at b3
     rw [bj];exact YP (S:=S) hS.2 f1 s2 hy mW (λ u hu=>An9.1 b5 u hu) (Nat.add_zero _) hk
    ·cases he
   ·cases he
 ·cases he
end
section
variable {P:Program}{g:Sg}{w0 w:World}
def Vk(G:GT)(H:List AI)(p:Option Addr)(l sz:Nat):Option (List Value) :=
 bif Am7 l 0 then some [] else match p with
  | some a=>(match a.spot with
   | none=>(match Z6 G H a.block with
    | some vs=>bif Am7 ((vs.drop a.off).take (l*sz)).length (l*sz) then some ((vs.drop a.off).take (l*sz)) else none
    | none=>none)
   | some _=>none)
  | none=>none
theorem L5{G:GT}(hG:Ka G w0){S:AS}(hS:SQ g w0 w S.H){p:Option Addr}{l k:Nat}{u:Value}{sz:Nat}{vs:List Value}(he:Vk G S.H p l sz=some vs)(hr:JR g p l k u) :
  ∃ p' c' cs,u=.slice p' l c'/\RL g vs cs/\Rd w p' cs/\cs.length=l*sz:=by
 unfold Vk at he;cases u with
 | slice p' l' c' =>
  have hl:l'=l:=hr.1;subst hl;cases h0:Am7 l' 0 with
  | true =>
   simp only [h0,cond_true,An8] at he;subst he;have:=Anb h0;subst this;exact⟨p',c',[],rfl,by simp [RL],Rd.nil _ _,by simp⟩
  | false =>
   have fA:0<l':=Nat.pos_of_ne_zero (Nat.ne_of_beq_eq_false h0);simp only [h0,cond_false] at he;split at he
   ·rename_i a;split at he
    ·rename_i eK;split at he
     ·rename_i us hm;cases hb:Am7 ((us.drop a.off).take (l'*sz)).length (l'*sz) with
      | false=>simp only [hb,cond_false] at he;cases he
      | true =>
       simp only [hb,cond_true,An8] at he;subst he;have hb:=Anb hb;obtain⟨a',k',e1,_,e2,_⟩:=LG hr fA;cases e1;obtain⟨cs,cb,h1,h2,h3⟩:=LY hG hS hm;have cD:=HA (l'*sz) (IW a.off h1);have fN:a'=⟨cb,a.off,none⟩:=by
        unfold ad at e2;rw [h2] at e2;simp only [Aoc,An8] at e2;rw [<- e2,eK]
       refine⟨_,c',_,rfl,cD,?_,by rw [Eg cD];exact hb⟩;intro j x hx;refine⟨a',rfl,?_⟩;rw [fN,Am];rw [List.getElem?_take] at hx;split at hx
       ·rw [List.getElem?_drop] at hx;exact h3 _ _ hx
       ·cases hx
     ·cases he
    ·cases he
   ·cases he
 | _=>exact hr.elim
theorem Aae:∀ {vs us:List Value},RL g vs us->vs.all (·.oneCell')=true->∀ u∈us,u.oneCell'=true
 | [],_,h,_,u,hu=>by simp only [RL] at h;subst h;cases hu
 | v :: vs,[],h,_,_,_=>by simp [RL] at h
 | v :: vs,x :: xs,h,h1,u,hu=>by
  simp only [RL] at h;simp only [List.all_cons,Ana] at h1;rcases List.mem_cons.1 hu with rfl | hu
  ·exact Wk h.1 h1.1
  ·exact Aae h.2 h1.2 u hu
theorem Row.X8{e:TypeId}{sz:Nat}{a:Option Addr}{n c:Nat}{xs:List Value}(h:Row w e sz a n c xs)(hn:0<n):∃ b,a=some ⟨b,0,none⟩:=by
 rcases h.2 with ⟨_,h,_⟩ | ⟨b,_,h,_⟩
 ·omega
 ·exact⟨b,h⟩
theorem SR.rowAt{S:AS}(hS:SR g w0 w S){L:List It}(hL:HR g S.H L){j:Nat}{e:TypeId}{sz n c b:Nat}{vs us:List Value}(hr:RL g vs us){w':World}
  (hT:ST w0 w' (L.set j (It.row e sz (some ⟨b,0,none⟩) n c us))):SQ (up g S.nx (b,c,default)) w0 w' (S.H.set j (.row (S.nx+Dg) e sz n vs none)) :=
 ⟨_,IP j (MH (Le.up hS.1 _) hL) ⟨(b,c,default),DT _,Gh _ _,us,GY (Le.up hS.1 _) _ hr,rfl,λ k hk=>by cases hk⟩,hT⟩
theorem SR.Ahr{S:AS}(hS:SR g w0 w S){L:List It}(hL:HR g S.H L){e:TypeId}{sz n c b:Nat}{vs us:List Value}(hr:RL g vs us){w':World}
  (hT:ST w0 w' (It.row e sz (some ⟨b,0,none⟩) n c us :: L)):SQ (up g S.nx (b,c,default)) w0 w' (.row (S.nx+Dg) e sz n vs none :: S.H) :=
 ⟨It.row e sz (some ⟨b,0,none⟩) n c us :: L,⟨⟨(b,c,default),DT _,Gh _ _,us,GY (Le.up hS.1 _) _ hr,rfl,λ k hk=>by cases hk⟩,MH (Le.up hS.1 _) hL⟩,hT⟩
def isK(cx:Option Nat)(c:Nat):Bool:=match cx with | some k=>Am7 c k | none=>false
def rowOf(H:List AI)(p:Addr)(n c:Nat)(e:TypeId)(sz:Nat):Option (Nat × List Value) :=
 match UW p.block H 0 with
 | some (j,.row b e' dj n' xs cx)=>bif Am7 e' e && Am7 dj sz && Am7 n' n && Am7 p.off 0 && p.spot.isNone && (Am7 c Pt || isK cx c) && An7 Dg p.block then some (j,xs) else none
 | _=>none
theorem Ahn{S:AS}(hS:SQ g w0 w S.H){p:Addr}{n c:Nat}{e:TypeId}{sz j:Nat}{xs:List Value}(he:rowOf S.H p n c e sz=some (j,xs)){u:Value}(hr:JR g (some p) n c u) :
  ∃ L us b c',HR g S.H L/\ST w0 w L/\RL g xs us/\L[j]?=some (It.row e sz (some ⟨b,0,none⟩) n c' us)/\u=.slice (some ⟨b,0,none⟩) n c':=by
 unfold rowOf at he;split at he
 ·rename_i i b e' dj n' ys cx hf;cases hb:Am7 e' e && Am7 dj sz && Am7 n' n && Am7 p.off 0 && p.spot.isNone && (Am7 c Pt || isK cx c) && An7 Dg p.block with
  | false=>rw [hb] at he;cases he
  | true =>
   rw [hb] at he;simp only [cond_true,An8,AnO] at he;obtain⟨rfl,rfl⟩:=he;simp only [Ana,Bool.or_eq_true] at hb;obtain⟨⟨⟨⟨⟨⟨b1,b2⟩,b3⟩,b4⟩,b5⟩,b6⟩,b7⟩:=hb;have b1:=Anb b1;have b2:=Anb b2;have b3:=Anb b3;have b4:=Anb b4;subst b1;subst b2;subst b3;obtain⟨f1,f2⟩:=Xr hf;obtain⟨L,hL,hT⟩:=hS;obtain⟨y,hy,s,s1,s2,us,s3,rfl,s4⟩:=Kb hL f1;refine⟨L,us,s.1,s.2.1,hL,hT,s3,hy,?_⟩;cases u with
   | slice p' l' c' =>
    obtain⟨rfl,_,h2⟩:=hr;have hid:(AI.row b e' dj l' ys cx).id=p.block:=f2;rw [hid] at s1 s2;have kx:p.block≠Gu:=by unfold Dg Gu at *;omega
    rcases h2 with ⟨h3,_⟩ | ⟨_,h3,_,h4⟩
    ·exact absurd h3 kx
    ·have e1:p'=some ⟨s.1,0,none⟩:=by
      rw [<- h3];unfold ad;rw [Fv s1 s2,b4];cases eK:p.spot with
      | none=>rfl
      | some _=>simp [eK] at b5
     have e2:c'=s.2.1:=by
      rcases b6 with b6 | b6
      ·have:=Anb b6;subst this;unfold cp at h4;rw [if_neg (by unfold Pt;omega),if_neg (by omega),s2] at h4;simp only [Aoc,An8,Nat.sub_self,Nat.sub_zero] at h4;exact h4.symm
      ·cases cx with
       | none=>cases b6
       | some k =>
        have:=Anb b6;subst this;have h5:=s4 c rfl;unfold cp at h4;split at h4
        ·cases h4;exact h5.symm
        ·rename_i hc;exfalso;have:=(hT.rw i hy);rcases this.2 with ⟨hh,_⟩ | ⟨_,_,_,_,_,hh,_⟩
         ·cases hh
         ·omega
     rw [e1,e2]
   | _=>exact hr.elim
 ·cases he
end
section
variable {P:Program}{g:Sg}{w0 w:World}
theorem AN{α:Type}{c:Bool}{x:Option α}{v:α}(h:(bif c then x else none)=some v):c=true/\x=some v:=by cases c <;> simp_all
theorem Ahv{n c:Nat}{u:Value}(h:JR g none n c u):u=.slice none n c:=by
 cases u with
 | slice p l k=>obtain⟨rfl,rfl,rfl⟩:=h;rfl
 | _=>exact h.elim
def AeS(S:AS)(n:Nat):Value:=.slice (some ⟨S.nx+Dg,0,none⟩) n Pt
def Ac6(H:List AI)(a:Option Addr)(n c:Nat)(e:TypeId)(sz:Nat):Option (Option (Nat × List Value)) :=
 match a with
 | none=>bif Am7 n 0 && Am7 c 0 then some none else none
 | some p=>match rowOf H p n c e sz with
  | some r=>some (some r)
  | none=>none
theorem Zj{S:AS}(hS:SQ g w0 w S.H){a:Option Addr}{n c:Nat}{e:TypeId}{sz:Nat}{r:Option (Nat × List Value)}(he:Ac6 S.H a n c e sz=some r){u:Value}(hr:JR g a n c u) :
  (r=none/\n=0/\u=.slice none 0 0/\∃ L,HR g S.H L/\ST w0 w (It.row e sz none 0 0 [] :: L)) \/
  ∃ j xs L us b c',r=some (j,xs)/\HR g S.H L/\ST w0 w L/\RL g xs us/\L[j]?=some (It.row e sz (some ⟨b,0,none⟩) n c' us)/\u=.slice (some ⟨b,0,none⟩) n c':=by
 unfold Ac6 at he;split at he
 ·obtain⟨h1,h2⟩:=AN he;cases h2;simp only [Ana] at h1;have e1:=Anb h1.1;have e2:=Anb h1.2;subst e1;subst e2;obtain⟨L,h3,h4⟩:=hS;exact .inl ⟨rfl,rfl,Ahv hr,L,h3,h4.nil _ _⟩
 ·split at he
  ·rename_i p q hq;cases he;obtain⟨j,xs⟩:=q;obtain⟨L,us,b,c',h1,h2,h3,h4,h5⟩:=Ahn hS hq hr;exact .inr ⟨j,xs,L,us,b,c',rfl,h1,h2,h3,h4,h5⟩
  ·cases he
def WX(S:AS)(r:Option (Nat × List Value))(n:Nat)(e:TypeId)(sz:Nat)(news:List Value):AS :=
 match r with
 | none=>⟨S.nx+1,.row (S.nx+Dg) e sz n news none :: S.H⟩
 | some (j,xs)=>⟨S.nx+1,S.H.set j (.row (S.nx+Dg) e sz n (xs++news) none)⟩
def I4(P:Program)(G:GT)(ts:List TypeId)(x y:Value)(S:AS):Option (Value × AS) :=
 match ts,x with
 | [t,t'],.slice a n c =>
  (match Ia P t with
  | none=>none
  | some (e,sz,bytes,z)=>bif Anc 0 sz && Anc 0 bytes && Am7 z.cells.size sz then
   (match y with
   | .slice p m _=>bif Am7 t' t && An7 ((n+m)*bytes) 140737488355328 then (match Vk G S.H p m sz with
    | none=>none
    | some news=>bif news.all (·.oneCell') then
     (match Ac6 S.H a n c e sz with
     | some r=>bif Am7 m 0 then some (x,S) else some (AeS S (n+m),WX S r (n+m) e sz news)
     | none=>bif Anc c 9223372036854775808 && Anc c (n+m) && An7 n c && a.isSome && Anc 0 m && Anc 0 n then (match Vk G S.H a n sz with
      | some xs=>some (AeS S (n+m),WX S none (n+m) e sz (xs++news))
      | none=>none) else none) else none) else none
   | .string s=>bif isStrT P t' && Am7 sz 1 && An7 ((n+s.size)*bytes) 140737488355328 && Anc 0 (n+s.size) then (match Ac6 S.H a n c e sz with
    | some r=>some (AeS S (n+s.size),WX S r (n+s.size) e sz ((bl s).map Af))
    | none=>none) else none
   | .int .i64 m=>bif isI64T P t' && decide (0<m) && An7 (m.toNat*bytes) 140737488355328 && a.isNone && Am7 n 0 && Am7 c 0 then
     some (AeS S m.toNat,⟨S.nx+1,.row (S.nx+Dg) e sz 0 [] none :: S.H⟩) else none
   | _=>none) else none)
 | _,_=>none
where
 isStrT (P:Program) (t:TypeId):Bool:=match P.underlying t with | some .string=>true | _=>false
 isI64T (P:Program) (t:TypeId):Bool:=match P.underlying t with | some (.int .i64)=>true | _=>false
theorem AeN{t:TypeId}(h:I4.isStrT P t=true):P.underlying t=some .string:=by unfold I4.isStrT at h;split at h <;> simp_all
theorem AeL{t:TypeId}(h:I4.isI64T P t=true):P.underlying t=some (.int .i64):=by unfold I4.isI64T at h;split at h <;> simp_all
theorem VJ{S:AS}(hS:SR g w0 w S){r:Option (Nat × List Value)}{n0 n:Nat}{e:TypeId}{sz:Nat}{u:Value}{news cs:List Value}(hr:RL g news cs)
  (h:(r=none/\n0=0/\u=.slice none 0 0/\∃ L,HR g S.H L/\ST w0 w (It.row e sz none 0 0 [] :: L)) \/
   ∃ j xs L us b c',r=some (j,xs)/\HR g S.H L/\ST w0 w L/\RL g xs us/\L[j]?=some (It.row e sz (some ⟨b,0,none⟩) n0 c' us)/\u=.slice (some ⟨b,0,none⟩) n0 c') (hn:0<n)
  {f:Value->World->Prop} (hf:Gl S.nx g w0 (AeS S n) (WX S r n e sz news).H f) {s:Sem Value}
  (ha:∀ {H:List It} {i:Nat} {a:Option Addr} {c:Nat} {xs:List Value},ST w0 w H->H[i]?=some (It.row e sz a n0 c xs)->u=.slice a n0 c->(∀ a' c' w',ST w0 w' (H.set i (It.row e sz a' n c' (xs++cs)))->f (.slice a' n c') w')->CD P s f w):CD P s f w:=by
 rcases h with ⟨rfl,rfl,rfl,L,hL,hT⟩ | ⟨j,xs,L,us,b,c',rfl,hL,hT,hx,hj,rfl⟩
 ·refine ha (i:=0) hT rfl rfl λ a' c2 w' eE=>?_;simp only [List.set_cons_zero,List.nil_append] at eE;obtain⟨b,rfl⟩:=(eE.rw 0 rfl).X8 hn;have:=(eE.rw 0 rfl).le;exact hf _ _ w' (.inr ⟨_,rfl⟩) (Pa _ (b,c2,default) this) (hS.Ahr hL hr eE)
 ·refine ha hT hj rfl λ a' c2 w' eE=>?_;have gN:=(Anj.1 hj).1;have aG:=eE.rw j (List.getElem?_set_self gN);obtain⟨b2,rfl⟩:=aG.X8 hn;exact hf _ _ w' (.inr ⟨_,rfl⟩) (Pa _ (b2,c2,default) aG.le) (hS.rowAt hL (F4 hx hr) eE)
theorem ST.Akh{H:List It}(S:ST w0 w H)(n:Nat){t u ty e:TypeId}{bytes:Nat}{z:Value}{a:Option Addr}{m c:Nat}{xs:List Value}(hn:H[n]?=some (It.row e 1 a m c xs))(hT:Ia P t=some (e,1,bytes,z))(hu:P.underlying u=some .string)(hz:z.cells.size=1)(dB:0<bytes)
  (s:ByteArray) (dD:(m+s.size)*bytes<=140737488355328) {f:Value->World->Prop}
  (hf:∀ a' c' w',ST w0 w' (H.set n (It.row e 1 a' (m+s.size) c' (xs++(bl s).map Af)))->f (.slice a' (m+s.size) c') w'):CD P (Builtin.append_ #[t,u] ty #[.slice a m c,.string s]) f w:=by
 obtain⟨a',c',w',aD,aG,hk,bA⟩:=U1 (ty:=ty) hT hu hz dB (S.rw n hn) s dD;unfold CD;rw [aD];exact hf a' c' w' (S.IM n hn hk _ aG bA)
theorem WY:∀(l:List UInt8),RL g (l.map Af) (l.map Af)
 | []=>by simp [RL]
 | x :: l=>by simp only [Aoe,RL];exact⟨by simp [Af,R],WY l⟩
theorem AbE{G:GT}(hG:Ka G w0){S S':AS}(hS:SR g w0 w S){ts:List TypeId}{x y v:Value}(he:I4 P G ts x y S=some (v,S')){x' y':Value}(hx:R g x x')(hy:R g y y'){f:Value->World->Prop}(hf:Gl S.nx g w0 v S'.H f)(ty:TypeId) :
  CD P (Builtin.append_ ⟨ts⟩ ty #[x',y']) f w:=by
 unfold I4 at he;split at he
 ·rename_i t t' a n c;split at he
  ·cases he
  ·rename_i e sz bytes z hT;have h1:=(AN he).1
   replace he:=(AN he).2
   simp only [Ana] at h1;obtain⟨⟨av,fw⟩,gP⟩:=h1;have av:=Es av;have fw:=Es fw;have gP:=Anb gP;have nZ:JR g a n c x':=hx;split at he
   ·rename_i p m k;have h2:=(AN he).1
    replace he:=(AN he).2
    simp only [Ana,An6] at h2;obtain⟨sK,dD⟩:=h2;have sK:=Anb sK;subst sK;split at he
    ·cases he
    ·rename_i news nH;obtain⟨p',k',cs,rfl,bG,aU,hlen⟩:=L5 hG hS.2 nH hy;have gx:=(AN he).1
     replace he:=(AN he).2
     have pj:=Aae bG gx;split at he
     ·rename_i r hr;have key:=Zj hS.2 hr nZ;cases hm:Am7 m 0 with
      | true =>
       have fW:=Anb hm;subst fW;rw [hm] at he;simp only [cond_true,An8,AnO] at he;obtain⟨rfl,rfl⟩:=he;have ql:cs=[]:=List.eq_nil_of_length_eq_zero (by rw [hlen];simp);subst ql;rcases key with ⟨_,rfl,rfl,L,hL,dk⟩ | ⟨j,xs,L,us,b,c',_,hL,dk,bV,hj,rfl⟩
       ·obtain⟨w',aD,aG,hk⟩:=QK (P:=P) (ty:=ty) (mc:=k') hT av (Row.nil w e sz) aU hlen pj (AnD _);unfold CD;rw [aD];refine hf g _ w' (.inl rfl) hx ⟨L,hL,?_⟩;exact (dk.sub (List.sublist_cons_self _ _)).grown (hk.below (AnD _) (by simp [AG]))
       ·obtain⟨w',aD,aG,hk⟩:=QK (P:=P) (ty:=ty) (mc:=k') hT av (dk.rw j hj) aU hlen pj (dk.rw j hj).le;unfold CD;rw [aD];refine hf g _ w' (.inl rfl) hx ⟨L,hL,?_⟩;have:=dk.IM j hj (w':=w') hk (It.row e sz (some ⟨b,0,none⟩) n c' us) (by have h:=aG;simp only [Nat.add_zero,List.append_nil] at h;exact h) (λ k hk=>.inl hk);rwa [show L.set j (It.row e sz (some ⟨b,0,none⟩) n c' us)=L from (Anj.1 hj).2 ▸ List.set_getElem_self _] at this
      | false =>
       have fW:0<m:=Nat.pos_of_ne_zero (Nat.ne_of_beq_eq_false hm);rw [hm] at he;simp only [cond_false,An8,AnO] at he;obtain⟨rfl,rfl⟩:=he;refine VJ hS bG key (by omega) hf ?_;rintro H i a0 c0 xs dk hi rfl hh;exact dk.app i hi hT gP av fw aU hlen pj dD hh
     ·have h3:=(AN he).1
      replace he:=(AN he).2
      simp only [Ana,An6] at h3;obtain⟨⟨⟨⟨⟨b1,b2⟩,b3⟩,b4⟩,b5⟩,b6⟩:=h3;have b1:=Es b1;have b2:=Es b2;have b5:=Es b5;have b6:=Es b6;split at he
      ·rename_i xs bV;simp only [An8,AnO] at he;obtain⟨rfl,rfl⟩:=he;obtain⟨q',c',us,rfl,hus,hrd2,jT⟩:=L5 hG hS.2 bV nZ;have hc:q'≠none/\c'=c:=by
        cases a with
        | none=>simp at b4
        | some q =>
         obtain⟨a',c2,e1,_,e2,e3⟩:=LG nZ b6;cases e1;refine⟨by simp,?_⟩;unfold cp at e3;rw [if_pos b1] at e3;cases e3;rfl
       obtain⟨hq,rfl⟩:=hc;cases q' with
       | none=>exact absurd rfl hq
       | some q =>
        obtain⟨a',c2,w',aD,aG,hB,bA⟩:=QL (P:=P) (ty:=ty) (mc:=k') hT gP av fw hrd2 jT aU hlen b5 b2 b3 dD;unfold CD;rw [aD];obtain⟨b',rfl⟩:=aG.X8 (by omega);obtain⟨_,L,hL,dk⟩:=id hS;exact hf _ _ w' (.inr ⟨_,rfl⟩) (Pa _ (b',c2,default) aG.le) (hS.Ahr hL (F4 hus bG) (dk.add hB (It.row e sz (some ⟨b',0,none⟩) (n+m) c2 (us++cs)) aG bA))
      ·cases he
   ·rename_i s;have h2:=(AN he).1
    replace he:=(AN he).2
    simp only [Ana,An6] at h2;obtain⟨⟨⟨b1,b2⟩,b3⟩,b4⟩:=h2;have b2:=Anb b2;have b4:=Es b4;subst b2;simp only [R] at hy;subst hy;split at he
    ·rename_i r hr;simp only [An8,AnO] at he;obtain⟨rfl,rfl⟩:=he;have key:=Zj hS.2 hr nZ;refine VJ hS (WY (bl s)) key b4 hf ?_;rintro H i a0 c0 xs dk hi rfl hh;exact dk.Akh i hi hT (AeN b1) gP fw s b3 hh
    ·cases he
   ·rename_i m;have h2:=(AN he).1
    replace he:=(AN he).2
    simp only [Ana,An6,decide_eq_true_eq] at h2;obtain⟨⟨⟨⟨⟨b1,b2⟩,b3⟩,b4⟩,b5⟩,b6⟩:=h2;have b5:=Anb b5;have b6:=Anb b6;subst b5;subst b6;simp only [An8,AnO] at he;obtain⟨rfl,rfl⟩:=he;simp only [R] at hy;subst hy;cases a with
    | some _=>simp at b4
    | none =>
     have:=Ahv nZ;subst this;obtain⟨c',w',aD,aG,kI,hB⟩:=NW (P:=P) (ty:=ty) hT (AeL b1) gP av fw (w:=w) (m:=m.toNat) (by omega) b3;rw [Int.toNat_of_nonneg (by omega)] at aD;unfold CD;rw [aD];obtain⟨_,L,hL,dk⟩:=id hS;refine hf _ _ w' (.inr ⟨_,rfl⟩) (Pa _ (w.heap.size,c',default) kI) (hS.Ahr hL (by simp [RL]) (dk.add hB (It.row e sz (some ⟨w.heap.size,0,none⟩) 0 c' []) aG ?_));intro k hk;cases hk;exact AnD _
   ·cases he
 ·cases he
end
section
variable {P:Program}{g:Sg}{w0 w:World}
def Ij:List Value->Option (List UInt8)
 | []=>some []
 | .int .u8 n :: vs=>bif decide (0<=n) && decide (n<256) then (match Ij vs with
  | some l=>some (UInt8.ofNat n.toNat :: l)
  | none=>none) else none
 | _=>none
theorem Kj:∀ {vs us:List Value} {l:List UInt8},Ij vs=some l->RL g vs us->us=l.map Af
 | [],us,l,h,hr=>by simp only [Ij,An8] at h;subst h;simp only [RL] at hr;subst hr;rfl
 | v :: vs,[],l,h,hr=>by simp [RL] at hr
 | v :: vs,u :: us,l,h,hr=>by
  simp only [RL] at hr;unfold Ij at h;split at h
  ·rename_i h0;cases h0
  ·rename_i n vs' h0;cases h0;have hb:=(AN h).1
   replace h:=(AN h).2
   simp only [Ana,decide_eq_true_eq] at hb;split at h
   ·rename_i l' hl;cases h;have hu:u=.int .u8 n:=by simpa [R] using hr.1
    subst hu;rw [Kj hl hr.2];simp only [Aoe,List.cons.injEq,and_true,Af,Value.int.injEq,true_and];simp only [UInt8.toNat_ofNat'];omega
   ·cases h
  ·cases h
theorem Ak2{p:Addr}{xs:List Value}{k:Nat}(h:(It.rd (some p) xs).CK=some k):k=p.block:=by
 cases xs with
 | nil=>cases h
 | cons x xs=>cases h;rfl
def TY(P:Program)(t:TypeId):Bool:=match P.underlying t with
 | some (.slice e)=>(match P.underlying e with | some (.int .u8)=>true | _=>false)
 | _=>false
theorem ZS{t:TypeId}(h:TY P t=true):∃ e,P.underlying t=some (.slice e)/\P.underlying e=some (.int .u8):=by
 unfold TY at h;split at h
 ·rename_i e he;split at h
  ·rename_i hu;exact⟨e,he,hu⟩
  ·cases h
 ·cases h
def Agg(P:Program)(G:GT)(s d:TypeId)(x:Option Value)(S:AS):Option (Value × AS) :=
 match x with
 | some (.string b)=>bif Kk P s d then some (AeS S b.size,⟨S.nx+1,.ro (S.nx+Dg) ((bl b).map Af) :: S.H⟩) else none
 | some (.slice p l c)=>bif Kk P d s then (match Vk G S.H p l 1 with
   | some vs=>(match Ij vs with
    | some bs=>some (.string (CA bs),S)
    | none=>none)
   | none=>none)
  else bif TY P s && Am7 s d then (match p with
   | some a=>(match UW a.block S.H 0 with
    | some (j,.row b e sz n xs cx)=>bif Am7 a.off 0 && a.spot.isNone && An7 Dg a.block then some (.slice p l c,⟨S.nx,S.H.set j (.ro b xs)⟩) else none
    | _=>none)
   | none=>none) else none
 | _=>none
theorem Agh{G:GT}(hG:Ka G w0){S S':AS}(hS:SR g w0 w S){s d:TypeId}{e e':Operand->Option Value}(h:ER g e e'){x:Operand}{v:Value}(he:Agg P G s d (e x) S=some (v,S')){f:Value->World->Prop}(hf:Gl S.nx g w0 v S'.H f) :
  ∃ c,e' x=some c/\CD P (convert s d c) f w:=by
 unfold Agg at he;split at he
 ·rename_i b hb;obtain⟨c,hc,hr⟩:=h _ _ hb;simp only [R] at hr;subst hr;refine⟨_,hc,?_⟩;have h1:=(AN he).1
  replace he:=(AN he).2
  simp only [An8,AnO] at he;obtain⟨rfl,rfl⟩:=he;refine F5 h1 b w λ b0 c0 cs e0 w' dB B hg bG hle fD=>?_;obtain⟨_,L,hL,hT⟩:=id hS;refine hf _ _ w' (.inr ⟨_,rfl⟩) (Pa _ (b0,c0,default) hle) ?_;refine⟨It.rd (some ⟨b0,0,none⟩) ((bl b).map Af) :: L,⟨⟨(b0,c0,default),DT _,Gh _ _,_,WY _,rfl⟩,MH (Le.up hS.1 _) hL⟩,?_⟩;refine hT.add B _ ?_ ?_
  ·show Rd w' _ _;have:=(Rd.Ak hg).take b.size;rwa [fD] at this
  ·intro k hk;have:=Ak2 hk;simp only at this;omega
 ·rename_i p l c hx;obtain⟨u,hu,hr⟩:=h _ _ hx;refine⟨_,hu,?_⟩;have bK:JR g p l c u:=hr;cases hb:Kk P d s with
  | true =>
   rw [hb,cond_true] at he;split at he
   ·rename_i vs kS;split at he
    ·rename_i bs jx;simp only [An8,AnO] at he;obtain⟨rfl,rfl⟩:=he;obtain⟨p',c',cs,rfl,bG,aU,hlen⟩:=L5 hG hS.2 kS bK;have:=Kj jx bG;subst this;refine CI hb (by simpa using hlen.symm) aU ?_;exact hf g _ w (.inl rfl) (by simp [R]) hS.2
    ·cases he
   ·cases he
  | false =>
   rw [hb,cond_false] at he;have h1:=(AN he).1
   replace he:=(AN he).2
   simp only [Ana] at h1;have yQ:=Anb h1.2;subst yQ;obtain⟨el,hu1,j7⟩:=ZS h1.1;split at he
   ·rename_i a;split at he
    ·rename_i j b e0 sz n xs cx dq;have h2:=(AN he).1
     replace he:=(AN he).2
     simp only [An8,AnO] at he;obtain⟨rfl,rfl⟩:=he;simp only [Ana,An6] at h2;obtain⟨⟨h2,h3⟩,h4⟩:=h2;have h2:=Anb h2;obtain⟨f1,f2⟩:=Xr dq;obtain⟨iL,L,hL,hT⟩:=id hS;obtain⟨y,hy,t,t1,t2,us,bV,rfl,hcx⟩:=Kb hL f1;have hid:(AI.row b e0 sz n xs cx).id=a.block:=f2;rw [hid] at t1 t2;have kx:a.block≠Gu:=by unfold Dg Gu at *;omega
     cases u with
     | slice p' l' c' =>
      obtain⟨rfl,hle,h5⟩:=id bK;rcases h5 with ⟨h5,_⟩ | ⟨_,h5,_,h6⟩
      ·exact absurd h5 kx
      ·have ep:p'=some ⟨t.1,0,none⟩:=by
        rw [<- h5];unfold ad;rw [Fv t1 t2,h2];cases eK:a.spot with
        | none=>rfl
        | some _=>simp [eK] at h3
       subst ep;have aG:=hT.rw j hy;rcases id aG.2 with ⟨hh,_⟩ | ⟨q,cur,e1,hg,_⟩
       ·cases hh
       ·cases e1;refine Y9 hu1 j7 hg λ w' hk aV=>?_;refine hf g _ w' (.inl rfl) hr ⟨_,IP j hL ⟨t,by rw [AI.id];rw [<- hid] at t1;exact t1,by rw [AI.id];rw [<- hid] at t2;exact t2,us,bV,rfl⟩,?_⟩;refine hT.IM j hy (hk.mono λ k _ hh=>by subst hh;rfl) (It.rd (some ⟨t.1,0,none⟩) us) ?_ ?_
        ·show Rd w' _ us;rcases aG with ⟨hl,⟨hh,_⟩ | ⟨q,fu,e1,fU,_,_,_,fD⟩⟩
         ·cases hh
         ·cases e1;rw [hg] at fU;cases fU;have:=(Rd.Ak aV).take (n*sz);rwa [fD] at this
        ·intro k hk;left;cases us with
         | nil=>cases hk
         | cons x xs=>exact hk
     | _=>exact bK.elim
    ·cases he
   ·cases he
 ·cases he
def Agm(P:Program)(t:TypeId)(l c:Option Value)(S:AS):Option (Value × AS) :=
 match Ia P t,l,c with
 | some (e,sz,bytes,z),some (.int _ l),some (.int _ c) =>
  bif decide (0<=l) && decide (l<=c) && decide ((bytes:Int)*c<=281474976710656) && decide (c<9223372036854775807) && Am7 z.cells.size sz && XL z.cells.toList then
   (bif XL ((madeCells z.cells (c.toNat*sz)).toList.take (l.toNat*sz)) then some (.slice (some ⟨S.nx+Dg,0,none⟩) l.toNat c.toNat,⟨S.nx+1,.row (S.nx+Dg) e sz l.toNat ((madeCells z.cells (c.toNat*sz)).toList.take (l.toNat*sz)) (some c.toNat) :: S.H⟩) else none) else none
 | _,_,_=>none
theorem Agn{S S':AS}(hS:SR g w0 w S){t:TypeId}{e e':Operand->Option Value}(h:ER g e e'){x y:Operand}{v:Value}(he:Agm P t (e x) (e y) S=some (v,S')){f:Value->World->Prop}(hf:Gl S.nx g w0 v S'.H f) :
  ∃ c d,e' x=some c/\e' y=some d/\CD P (Instr.makeSlice t c d) f w:=by
 unfold Agm at he;split at he
 ·rename_i e0 sz bytes z kl l kc c hT hl hc;obtain⟨u,hu,hr⟩:=h _ _ hl;obtain⟨u',dz,bK⟩:=h _ _ hc;simp only [R] at hr bK;subst hr;subst bK;refine⟨_,_,hu,dz,?_⟩;have h1:=(AN he).1
  replace he:=(AN he).2
  have h2:=(AN he).1
  replace he:=(AN he).2
  simp only [An8,AnO] at he;obtain⟨rfl,rfl⟩:=he;simp only [Ana,decide_eq_true_eq] at h1;obtain⟨⟨⟨⟨⟨a1,a2⟩,a3⟩,a4⟩,a5⟩,a6⟩:=h1;refine FW hT a1 a2 a3 (by omega) λ b w' b1 b2 b3=>?_;obtain⟨iL,L,hL,dk⟩:=id hS;have aG:Row w' e0 sz (some ⟨b,0,none⟩) l.toNat c.toNat ((madeCells z.cells (c.toNat*sz)).toList.take (l.toNat*sz)):=by
   refine⟨?_,.inr ⟨b,_,rfl,b3,by omega,by omega,by rw [E2],rfl⟩⟩;rw [List.length_take,Array.length_toList,E2];exact Nat.min_eq_left (Nat.mul_le_mul_right _ (by omega))
  refine hf _ _ w' (.inr ⟨_,rfl⟩) (AdG _ (b,c.toNat,default) (by omega) (by omega)) ?_;refine⟨_ :: L,⟨⟨(b,c.toNat,default),DT _,Gh _ _,_,(HK _ h2).2 rfl,rfl,λ k hk=>by cases hk;rfl⟩,MH (Le.up iL _) hL⟩,?_⟩;exact dk.add b2 (It.row e0 sz (some ⟨b,0,none⟩) l.toNat c.toNat _) aG λ k hk=>by cases hk;exact b1
 ·cases he
end
section
variable {P:Program}{g:Sg}{w0 w:World}
def Kt(s:ByteArray):List (ByteArray × Value × Nat)->Nat->Option Nat
 | [],_=>none
 | x :: es,i=>bif AJ s x.1 then some i else Kt s es (i+1)
theorem Nb(s:ByteArray):∀(es:List (ByteArray × Value × Nat)) (us:List Value) (i:Nat),us.length=es.length ->
  Instr.findNow .string (.string s) (FX es us) i=some ((Kt s es i).map λ j=>(j,us.getD (j-i) undef))/\∀ j,Kt s es i=some j->i<=j/\j-i<es.length
 | [],us,i,h=>by simp [FX,Instr.findNow,Kt]
 | x :: es,[],i,h=>by simp at h
 | x :: es,u :: us,i,h=>by
  simp only [List.length_cons,Nat.add_right_cancel_iff] at h;obtain⟨h1,h2⟩:=Nb s es us (i+1) h;have e:(s==x.1)=AJ s x.1:=by rw [NY,AK]
  unfold Kt;simp only [FX,Instr.findNow,Instr.sameNow];rw [e];cases hb:AJ s x.1 with
  | true=>exact⟨by simp,λ j hj=>by simp only [cond_true,An8] at hj;subst hj;simp⟩
  | false =>
   simp only [cond_false];refine⟨?_,λ j hj=>?_⟩
   ·rw [h1];cases hf:Kt s es (i+1) with
    | none=>rfl
    | some j =>
     obtain⟨h3,h4⟩:=h2 j hf;simp only [Aoc];rw [show j-i=(j-(i+1))+1 by omega,List.getD_cons_succ]
   ·obtain⟨h3,h4⟩:=h2 j hj;simp only [List.length_cons];omega
def Adv(P:Program)(t:TypeId):Option (TypeId × Value) :=
 match P.underlying t with
 | some (.map k e)=>(match P.underlying k with
  | some .string=>(match zeroOf P e with
   | some z=>some (k,z)
   | none=>none)
  | _=>none)
 | _=>none
theorem Wh{t k:TypeId}{z:Value}(h:Adv P t=some (k,z)):∃ e,P.underlying t=some (.map k e)/\P.underlying k=some .string/\∀ w,(zeroValue e).run P w=.ok z w:=by
 unfold Adv at h;split at h
 ·rename_i k' e hu;split at h
  ·rename_i hk;split at h
   ·rename_i z' hz;simp only [An8,AnO] at h;obtain⟨rfl,rfl⟩:=h;refine⟨e,hu,hk,λ w=>?_⟩;unfold zeroOf at hz;split at hz
    ·rename_i i hi;simp [zeroValue,typeInfo,hi,hz]
    ·cases hz
   ·cases h
  ·cases h
 ·cases h
def Tx(S:AS):Option (Value × AS):=some (.map (some (S.nx+Dg)),⟨S.nx+1,.mp (S.nx+Dg) [] 0 :: S.H⟩)
theorem Zq{t:TypeId}{S S':AS}{v:Value}(he:Tx S=some (v,S'))(hS:SR g w0 w S){f:Value->World->Prop}(hf:Gl S.nx g w0 v S'.H f):CD P (Instr.makeMap t none) f w:=by
 simp only [Tx,An8,AnO] at he;obtain⟨rfl,rfl⟩:=he;obtain⟨hn,L,hL,hT⟩:=hS;have aD:(Instr.makeMap t none).run P w=.ok (.map (some w.heap.size)) (w.alloc (.map #[] 0)):=rfl;unfold CD;rw [aD];refine hf _ _ _ (.inr ⟨(w.heap.size,0,default),rfl⟩) (by simp only [R];exact⟨_,PC _ _,rfl⟩) ?_;exact⟨It.obj w.heap.size (.map #[] 0) :: L,⟨⟨_,DT _,Gh _ _,[],by simp [RL],rfl⟩,MH (Le.up hn _) hL⟩,hT.add ((Below.refl _ w).alloc (AnD _) _) _ (heap_alloc_new w _) (λ k hk=>by cases hk;exact AnD _)⟩
def Xg(P:Program)(t:TypeId)(x i:Option Value)(ok:Bool)(S:AS):Option (Value × AS) :=
 match Adv P t,x,i with
 | some (_,z),some (.map (some b)),some (.string s)=>(match UW b S.H 0 with
  | some (_,.mp _ es _)=>(match Kt s es 0 with
   | some j=>(match es[j]? with
    | some y=>some (bif ok then .tuple ⟨[y.2.1,.bool true]⟩ else y.2.1,S)
    | none=>none)
   | none=>bif pl z then some (bif ok then .tuple ⟨[z,.bool false]⟩ else z,S) else none)
  | _=>none)
 | _,_,_=>none
theorem AjS{S:AS}(hS:SQ g w0 w S.H){b j:Nat}{b':Nat}{es:List (ByteArray × Value × Nat)}{ck:Nat}(hf:UW b S.H 0=some (j,.mp b' es ck)){c:Value}(hr:R g (.map (some b)) c) :
  ∃ s us L,Dg<=b/\Jz g b=some s/\b'=b/\c=.map (some s.1)/\RL g (es.map (·.2.1)) us/\w.heap[s.1]?=some (.map (FX es us).toArray ck)/\HR g S.H L/\ST w0 w L/\L[j]?=some (It.obj s.1 (.map (FX es us).toArray ck)):=by
 obtain⟨f1,f2⟩:=Xr hf;obtain⟨L,hL,hT⟩:=hS;obtain⟨y,hy,s,s1,s2,us,hus,rfl⟩:=Kb hL f1;rw [f2] at s1 s2;simp only [R] at hr;obtain⟨c',hc,rfl⟩:=hr;rw [Fv s1 s2] at hc;cases hc;exact⟨s,us,L,s1,s2,f2,rfl,hus,hT.get j hy,hL,hT,hy⟩
theorem Wy{n:Nat}{e:Bool}{k:TypeId}(hk:P.underlying k=some .string)(s:ByteArray)(w:World):(Instr.checkKey e (n+1) k (.string s)).run P w=.ok () w:=by
 simp [Instr.checkKey,underlying,hk]
theorem run_findKey{k:TypeId}(hk:P.underlying k=some .string){s:ByteArray}{l:List MapEntry}{r:Option (Nat × Value)}(h:Instr.findNow .string (.string s) l 0=some r)(w:World):(Instr.findKey k (.string s) l).run P w=.ok r w:=by
 simp [Instr.findKey,underlying,hk,h]
theorem SC{b ck:Nat}{es:Array MapEntry}(h:w.heap[b]?=some (.map es ck)):(getObj b).run P w=.ok (.map es ck) w:=by
 simp [getObj,Sem.run,h]
theorem AbH{t:TypeId}{ok:Bool}{S S':AS}{v:Value}{e e':Operand->Option Value}(h:ER g e e'){x i:Operand}(he:Xg P t (e x) (e i) ok S=some (v,S'))(hS:SR g w0 w S){f:Value->World->Prop}(hf:Gl S.nx g w0 v S'.H f) :
  ∃ c d,e' x=some c/\e' i=some d/\CD P (Instr.lookup t c d ok) f w:=by
 unfold Xg at he;split at he
 ·rename_i k z b s rN hx hi;obtain⟨c,hc,hr⟩:=h _ _ hx;obtain⟨d,hd,cD⟩:=h _ _ hi;simp only [R] at cD;subst cD;refine⟨c,_,hc,hd,?_⟩;obtain⟨el,hu,hk,hz⟩:=Wh rN;split at he
  ·rename_i j b' es ck dq;obtain⟨sg,us,L,s1,s2,rfl,rfl,hus,cK,_⟩:=AjS hS.2 dq hr;have hlen:us.length=es.length:=by have:=Eg hus;simpa using this
   obtain⟨h1,h2⟩:=Nb s es us 0 hlen;have aD:∀ r,(Kt s es 0).map (λ j=>(j,us.getD (j-0) undef))=r->(Instr.lookup t (.map (some sg.1)) (.string s) ok).run P w=.ok (match r with
     | some (_,v)=>(if ok then .tuple #[v,.bool true] else v)
     | none=>(if ok then .tuple #[z,.bool false] else z)) w:=by
    intro r hr;rw [hr] at h1;unfold Instr.lookup;have kq:(Instr.checkKey (FX es us).isEmpty 10000 k (.string s)).run P w=.ok () w:=Wy (n:=9999) hk s w;have jO:(Instr.findKey k (.string s) (FX es us)).run P w=_:=run_findKey (P:=P) hk (by simpa using h1) w;cases r with
    | none=>simp [underlying,hu,SC cK,kq,jO,hz]
    | some p=>simp [underlying,hu,SC cK,kq,jO]
   unfold CD;split at he
   ·rename_i jj hj;split at he
    ·rename_i y hy;simp only [An8,AnO] at he;obtain⟨rfl,rfl⟩:=he;obtain⟨u,j7,j'⟩:=YM hus jj (x:=y.2.1) (by simp [hy]);rw [aD _ rfl,hj];have yY:us.getD (jj-0) undef=u:=by simp [List.getD_eq_getElem?_getD,j7]
     simp only [Aoc,yY];refine hf g _ w (.inl rfl) ?_ hS.2;cases ok with
     | true=>simp only [cond_true,if_true,R,RA,RL];exact⟨j',trivial,trivial⟩
     | false=>simpa using j'
    ·cases he
   ·rename_i hj;have hp:=(AN he).1
    replace he:=(AN he).2
    simp only [An8,AnO] at he;obtain⟨rfl,rfl⟩:=he;rw [aD _ rfl,hj];simp only [Option.map_none];refine hf g _ w (.inl rfl) ?_ hS.2;cases ok with
    | true=>simp only [cond_true,if_true,R,RA,RL];exact⟨(RZ _ hp).2 rfl,trivial,trivial⟩
    | false=>simpa using (RZ _ hp).2 rfl
  ·cases he
 ·cases he
def Xi(P:Program)(t:TypeId)(m i x:Option Value)(S:AS):Option AS :=
 match Adv P t,m,i,x with
 | some _,some (.map (some b)),some (.string s),some v=>(match UW b S.H 0 with
  | some (j,.mp _ es ck)=>(match Kt s es 0 with
   | some n=>(match es[n]? with
    | some y=>some ⟨S.nx,S.H.set j (.mp b (es.set n (s,v,y.2.2)) ck)⟩
    | none=>none)
   | none=>some ⟨S.nx,S.H.set j (.mp b (es++[(s,v,ck)]) (ck+1))⟩)
  | _=>none)
 | _,_,_,_=>none
theorem Z7:∀ {es:List (ByteArray × Value × Nat)} {us:List Value} (s:ByteArray) (v u:Value) (n:Nat),us.length=es.length->FX (es++[(s,v,n)]) (us++[u])=FX es us++[{ key:=.string s,val:=u,born:=n }]
 | [],[],_,_,_,_,_=>rfl
 | [],_ :: _,_,_,_,_,h=>by simp at h
 | _ :: _,[],_,_,_,_,h=>by simp at h
 | x :: es,y :: us,s,v,u,n,h=>by
  simp only [List.cons_append,FX,List.cons.injEq,true_and];exact Z7 s v u n (by simpa using h)
theorem Z8:∀ {es:List (ByteArray × Value × Nat)} {us:List Value} (n:Nat) (s:ByteArray) (v u:Value) {y:ByteArray × Value × Nat},us.length=es.length->es[n]?=some y ->
  FX (es.set n (s,v,y.2.2)) (us.set n u)=(FX es us).modify n (λ e=>{ e with key:=.string s,val:=u })/\((FX es us)[n]?).map (·.key)=some (.string y.1)
 | [],_,n,_,_,_,_,_,hy=>by simp at hy
 | _ :: _,[],_,_,_,_,_,h,_=>by simp at h
 | x :: es,z :: us,0,s,v,u,y,h,hy=>by simp at hy;subst hy;simp [FX]
 | x :: es,z :: us,n+1,s,v,u,y,h,hy=>by
  have:=Z8 (es:=es) (us:=us) n s v u (by simpa using h) (by simpa using hy);simp [FX];exact⟨by simpa using this.1,by simpa using this.2⟩
theorem ZA(s:ByteArray):∀ {es:List (ByteArray × Value × Nat)} {i n:Nat},Kt s es i=some n->i<=n/\∃ y,es[n-i]?=some y/\y.1=s
 | [],_,_,h=>by cases h
 | x :: es,i,n,h=>by
  unfold Kt at h;cases hb:AJ s x.1 with
  | true =>
   rw [hb] at h;simp only [cond_true,An8] at h;subst h;rw [AK,decide_eq_true_eq] at hb;exact⟨AnD _,x,by simp,hb.symm⟩
  | false =>
   rw [hb] at h;obtain⟨h1,y,h2,h3⟩:=ZA s h;refine⟨by omega,y,?_,h3⟩;rw [show n-i=(n-(i+1))+1 by omega];simpa using h2
theorem AbI{t:TypeId}{S S':AS}{e e':Operand->Option Value}(h:ER g e e'){m i x:Operand}(he:Xi P t (e m) (e i) (e x) S=some S')(hS:SR g w0 w S){k:World->Prop}(hk:∀ w',SQ g w0 w' S'.H->k w') :
  HT (e' m) λ u=>HT (e' i) λ v=>HT (e' x) λ y=>OPU P (Instr.mapUpdate t u v y) k w:=by
 unfold Xi at he;split at he
 ·rename_i kz b s v rN hm hi hx;obtain⟨c,hc,hr⟩:=h _ _ hm;obtain⟨d,hd,cD⟩:=h _ _ hi;obtain⟨u,hu,j'⟩:=h _ _ hx;simp only [R] at cD;subst cD;rw [hc,hd,hu];simp only [HT];obtain⟨kt,z⟩:=kz;obtain⟨el,hut,hkt,hz⟩:=Wh rN;split at he
  ·rename_i j b' es ck dq;obtain⟨sg,us,L,s1,s2,rfl,rfl,hus,cK,hL,hT,hj⟩:=AjS hS.2 dq hr;have hlen:us.length=es.length:=by have:=Eg hus;simpa using this
   obtain⟨h1,h2⟩:=Nb s es us 0 hlen;have kq:=Wy (P:=P) (n:=9999) (e:=false) hkt s w;have dy:∀(o:Obj),(setObj sg.1 o).run P w=.ok () (w.putObj sg.1 o):=by
    intro o;simp [setObj,Sem.run,cK,World.putObj]
   unfold OPU;split at he
   ·rename_i n hn;split at he
    ·rename_i y hy;simp only [An8] at he;subst he;obtain⟨_,y',jd,lH⟩:=ZA s hn;rw [Nat.sub_zero,hy] at jd;cases jd;obtain⟨q1,q2⟩:=Z8 (us:=us) n s v u hlen hy;have jO:=run_findKey (P:=P) hkt (l:=(FX es us).toArray.toList) (by simpa using h1) w;rw [hn] at jO;have im:(Instr.keyThatStays (.string y.1) (.string s)).run P w=.ok (.string s) w:=by
      have:Instr.sameBits 10000 (.string y.1) (.string s)=true:=by
       rw [lH];simp [Instr.sameBits,NY]
      simp [Instr.keyThatStays,this]
     have aD:(Instr.mapUpdate t (.map (some sg.1)) (.string s) u).run P w=.ok () (w.putObj sg.1 (.map (FX (es.set n (s,v,y.2.2)) (us.set n u)).toArray ck)):=by
      unfold Instr.mapUpdate;have e1:(((FX es us).toArray[n]?).map (·.key)).getD (.string s)=.string y.1:=by simp [q2]
      have e2:(FX es us).toArray.modify n (λ e=>{ e with key:=.string s,val:=u })=(FX (es.set n (s,v,y.2.2)) (us.set n u)).toArray:=by rw [q1];simp
      simp only [Sem.run_bind,run_underlying hut,Result.andThen_ok,SC cK,kq,jO,Aoc,e1,im,e2,dy]
     rw [aD];refine hk _ ⟨_,IP j hL ⟨sg,s1,s2,us.set n u,?_,rfl⟩,hT.put j hj _⟩;rw [List.map_set];exact SU n hus j'
    ·cases he
   ·rename_i hn;simp only [An8] at he;subst he;have jO:=run_findKey (P:=P) hkt (l:=(FX es us).toArray.toList) (by simpa using h1) w;rw [hn] at jO;have aD:(Instr.mapUpdate t (.map (some sg.1)) (.string s) u).run P w=.ok () (w.putObj sg.1 (.map (FX (es++[(s,v,ck)]) (us++[u])).toArray (ck+1))):=by
     unfold Instr.mapUpdate;have e2:(FX es us).toArray.push { key:=.string s,val:=u,born:=ck }=(FX (es++[(s,v,ck)]) (us++[u])).toArray:=by rw [Z7 s v u ck hlen];simp
     simp only [Sem.run_bind,run_underlying hut,Result.andThen_ok,SC cK,kq,jO,Option.map_none,e2,dy]
    rw [aD];refine hk _ ⟨_,IP j hL ⟨sg,s1,s2,us++[u],?_,rfl⟩,hT.put j hj _⟩;rw [List.map_append];exact F4 hus (by simp only [Aoe,List.map_nil,RL];exact⟨j',trivial⟩)
  ·cases he
 ·cases he
end
section
variable {P:Program}{g:Sg}{w0 w:World}
def AbG(P:Program)(ts:List TypeId)(x:Value)(S:AS):Option (Value × AS) :=
 match ts,x with
 | [t],.slice (some p) l c=>(match Ia P t,UW p.block S.H 0 with
  | some (e,sz,_,z),some (j,.row b e' dj n xs cx) =>
   bif Anc 0 l && Anc 0 sz && Am7 e' e && Am7 dj sz && Am7 p.off (An5 p.off sz*sz) && p.spot.isNone && An7 Dg p.block && An7 (An5 p.off sz+l) n && Am7 c (Pt-An5 p.off sz) && Am7 z.cells.size sz && z.cells.toList.all (·.oneCell') then
    some (.tuple ⟨[]⟩,⟨S.nx,S.H.set j (.row b e sz (An5 p.off sz) (xs.take (An5 p.off sz*sz)) cx)⟩) else none
  | _,_=>none)
 | _,_=>none
theorem Ael{S S':AS}(hS:SR g w0 w S){ts:List TypeId}{x v:Value}(he:AbG P ts x S=some (v,S')){u:Value}(hr:R g x u){f:Value->World->Prop}(hf:Gl S.nx g w0 v S'.H f)(ty:TypeId) :
  CD P (Builtin.clear_ ⟨ts⟩ ty #[u]) f w:=by
 unfold AbG at he;split at he
 ·rename_i t p l c;split at he
  ·rename_i e sz bytes z j b e' dj n xs cx hT dq;have h1:=(AN he).1
   replace he:=(AN he).2
   simp only [An8,AnO] at he;obtain⟨rfl,rfl⟩:=he;simp only [Ana,An6] at h1;obtain⟨⟨⟨⟨⟨⟨⟨⟨⟨⟨b1,b2⟩,b3⟩,b4⟩,b5⟩,b6⟩,b7⟩,b8⟩,b9⟩,bW⟩,iU⟩:=h1;have b1:=Es b1;have b2:=Es b2;have b3:=Anb b3;have b4:=Anb b4;have b5:=Anb b5;have b9:=Anb b9;have bW:=Anb bW;subst b3;subst b4;generalize rC:An5 p.off dj=k at *;obtain⟨f1,f2⟩:=Xr dq;obtain⟨_,L,hL,dk⟩:=id hS;obtain⟨y,hy,s,s1,s2,us,s3,rfl,s4⟩:=Kb hL f1;have hid:(AI.row b e' dj n xs cx).id=p.block:=f2;obtain⟨a',c',rfl,_,had,dS⟩:=LG (show JR g (some p) l c u from hr) b1;have aG:=dk.rw j hy;have cj:n<=s.2.1/\s.2.1<=9223372036854775807:=by
    rcases aG.2 with ⟨hh,_⟩ | ⟨_,_,_,_,h5,h6,_⟩
    ·cases hh
    ·exact⟨h5,h6⟩
   rw [hid] at s1 s2;have ea:a'=⟨s.1,k*dj,none⟩:=by
    unfold ad at had;rw [Fv s1 s2] at had;simp only [Aoc,An8] at had;rw [<- had,b5];cases eK:p.spot with
    | none=>rfl
    | some _=>simp [eK] at b6
   have ec:c'=s.2.1-k:=by
    unfold cp at dS;rw [b9,if_neg (by unfold Pt;omega),if_neg (by omega),s2] at dS;simp only [Aoc,An8] at dS;rw [<- dS];unfold Pt;omega
   obtain⟨w',aD,hrow',fV⟩:=W4 (P:=P) hT bW (λ v hv=>An9.1 iU v hv) (aG.front (i:=k) (by omega)) (h:=k+l) (by omega) (by omega);have sH:Cc (some ⟨s.1,0,none⟩) k s.2.1 dj=some ⟨s.1,k*dj,none⟩:=by
    rw [Ke,if_neg (by omega),Am,Anu]
   rw [sH,show k+l-k=l by omega] at aD;rw [ea,ec];unfold CD;rw [show (Builtin.clear_ (⟨[t]⟩:Array TypeId) ty #[Value.slice (some ⟨s.1,k*dj,none⟩) l (s.2.1-k)])=Builtin.clear_ #[t] 0 #[Value.slice (some ⟨s.1,k*dj,none⟩) l (s.2.1-k)] from rfl,aD];refine hf g _ w' (.inl rfl) (by simp only [R,RA,RL]) ⟨_,IP j hL ⟨s,?_,?_,us.take (k*dj),HA _ s3,rfl,s4⟩,dk.IM j hy fV (It.row e' dj (some ⟨s.1,0,none⟩) k s.2.1 (us.take (k*dj))) hrow' (λ k hk=>.inl hk)⟩
   ·rw [<- hid] at s1;exact s1
   ·rw [<- hid] at s2;exact s2
  ·cases he
 ·cases he
end
inductive Tgt where
 | fn (f:FuncId)
 | yl (l:Nat)
structure YE where
 l:Nat
 n:Nat
 ps:List Nat
 Rx:Code
 body:Code
 fr:Ft
abbrev YT:=List YE
abbrev XF:=Tgt->List Value->YT->AS->Option (Value × AS)
def Aic(g:Sg)(y:YE):Prop:=∃ s:Nat × Nat × Loop,Dg<=y.l/\Jz g y.l=some s/\s.2.2.params.toList=y.ps/\s.2.2.assign=y.Rx/\s.2.2.body=y.body/\s.2.2.tmps.size=y.n/\∃ frc,FR g y.fr frc/\AO frc ⟨s.2.2.tmps,[]⟩
def WV(g:Sg)(Y:YT):Prop:=∀ y∈Y,Aic g y
def Ext(n n':Nat)(g g':Sg):Prop:=Le g g'/\(∀ i,i<n->g' i=g i)/\n<=n'
theorem Ext.refl(n:Nat)(g:Sg):Ext n n g g:=⟨Le.refl _,λ _ _=>rfl,AnD _⟩
theorem Ext.trans{n m k:Nat}{a b c:Sg}(h:Ext n m a b)(h':Ext m k b c):Ext n k a c:=⟨h.1.trans h'.1,λ i hi=>(h'.2.1 i (Nat.lt_of_lt_of_le hi h.2.2)).trans (h.2.1 i hi),Nat.le_trans h.2.2 h'.2.2⟩
def SX(g:Sg)(w0 w:World)(S:AS):Prop:=(∀ i,S.nx<=i->g i=none)/\SQ g w0 w S.H
theorem SX.sr{g:Sg}{w0 w:World}{S:AS}(h:SX g w0 w S):SR g w0 w S:=⟨h.1 _ (AnD _),h.2⟩
theorem SX.up{g:Sg}{w0 w w':World}{S:AS}(h:SX g w0 w S){g':Sg}(hg:g'=g\/∃ s,g'=up g S.nx s){H:List AI}(hq:SQ g' w0 w' H):SX g' w0 w' ⟨S.nx+1,H⟩/\Ext S.nx (S.nx+1) g g':=by
 rcases hg with rfl | ⟨s,rfl⟩
 ·exact⟨⟨λ i hi=>h.1 i (by simp only at hi;omega),hq⟩,Le.refl _,λ _ _=>rfl,Nat.le_succ _⟩
 ·refine⟨⟨λ i hi=>?_,hq⟩,Le.up h.sr.1 s,λ i hi=>by unfold Dn.up;rw [if_neg (by omega)],Nat.le_succ _⟩;simp only at hi;unfold Dn.up;rw [if_neg (by omega)];exact h.1 i (by omega)
def XOK(P:Program)(G:GT)(X:XF):Prop:=∀ t args Y S v S',X t args Y S=some (v,S')->∀ g w0 w aK,SX g w0 w S->Ka G w0->RL g args aK->WV g Y ->
 (match t with
 | .fn f=>Calls P f ⟨aK⟩ w (λ e w'=>∃ c g',e=.returned c/\Ext S.nx S'.nx g g'/\R g' v c/\SX g' w0 w' S')
 | .yl l=>∀ lc,bk g l=some lc->GJ P lc ⟨aK⟩ (λ b w'=>∃ g',Ext S.nx S'.nx g g'/\v=.bool b/\SX g' w0 w' S') w)
section
variable {P:Program}{g:Sg}{w0 w:World}
theorem WV.le{g':Sg}{Y:YT}(h:WV g Y)(hl:Le g g'):WV g' Y:=λ y hy=>by
 obtain⟨s,h1,h2,h3,h4,h5,h6,frc,h9,pd⟩:=h y hy;exact⟨s,h1,hl.at h2,h3,h4,h5,h6,frc,h9.le hl,pd⟩
def chk(z:Option Value)(r:Option (Value × AS)):Option (Value × AS) :=
 match z,r with
 | some z,some (v,S)=>bif Ix z v then some (v,S) else none
 | _,_=>none
theorem Il{z:Option Value}{r:Option (Value × AS)}{v:Value}{S:AS}(h:chk z r=some (v,S)):∃ zz,z=some zz/\r=some (v,S)/\Ix zz v=true:=by
 unfold chk at h;split at h
 ·rename_i zz v' S';cases hb:Ix zz v' with
  | false=>rw [hb] at h;cases h
  | true=>rw [hb] at h;simp only [cond_true,An8,AnO] at h;obtain⟨rfl,rfl⟩:=h;exact⟨zz,rfl,rfl,hb⟩
 ·cases h
def AbC(P:Program)(G:GT)(e:Operand->Option Value)(o:Oper)(S:AS):Option (Value × AS) :=
 match o.op with
 | .alloc t=>AbD P t S
 | .box t x=>AlU (e x) t S
 | .buildSlice t len parts=>Ko P e t len parts.toList S
 | .store t a x=>(match Ty P t (e a) (e x) S with
  | some S'=>some (undef,S')
  | none=>none)
 | .call c=>(match c.callee with
  | .builtin .append=>(match c.args.toList with
   | [x,y]=>(match e x,e y with
    | some u,some v=>chk (zeroOf P o.type) (I4 P G c.argTypes.toList u v S)
    | _,_=>none)
   | _=>none)
  | .builtin .clear=>(match c.args.toList with
   | [x]=>(match e x with
    | some u=>chk (zeroOf P o.type) (AbG P c.argTypes.toList u S)
    | _=>none)
   | _=>none)
  | _=>none)
 | .convert s d x=>chk (zeroOf P o.type) (Agg P G s d (e x) S)
 | .makeSlice t l c=>chk (zeroOf P o.type) (Agm P t (e l) (e c) S)
 | .makeMap _ none=>chk (zeroOf P o.type) (Tx S)
 | .lookup t x i ok=>chk (zeroOf P o.type) (Xg P t (e x) (e i) ok S)
 | .mapUpdate t m i x=>(match Xi P t (e m) (e i) (e x) S with
  | some S'=>some (undef,S')
  | none=>none)
 | _=>none
def AlV(P:Program)(d:Bool)(f:FuncId)(args:List Value)(z:Value)(S:AS):Option (Value × AS) :=
 bif d then none else bif XL args then (match AH P (callFunc f ⟨args⟩) with
  | some (.value v)=>bif pl v && Ub false z v then some (v,S) else none
  | _=>none) else none
def VW(P:Program)(X:XF)(e:Operand->Option Value)(o:Oper)(Y:YT)(S:AS):Option (Value × AS) :=
 match o.op with
 | .call c=>(match c.callee with
  | .value f=>(match Ip e c.args.toList,zeroOf P o.type,e f with
   | some vs,some z,some (.func (.func fn) fi ca)=>bif enters P fn then (match X (.fn fn) (fi.toList++vs++ca.toList) Y S with
    | some (v,S')=>bif Ub (T0 f) z v then some (v,S') else none
    | none=>none) else AlV P (T0 f) fn (fi.toList++vs++ca.toList) z S
   | some vs,some _,some (.func (.yield l) fi ca)=>bif fi.toList.isEmpty && ca.toList.isEmpty then X (.yl l) vs Y S else none
   | _,_,_=>none)
  | _=>none)
 | _=>none
def KH(o:Oper):Bool :=
 match o.op with
 | .call c=>(match c.callee with | .value _=>true | _=>false)
 | _=>false
def QS(P:Program)(G:GT)(X:XF)(e:Operand->Option Value)(o:Oper)(Y:YT)(S:AS):Option (Value × AS) :=
 bif KH o then VW P X e o Y S else match AbC P G e o S with
  | some (v,S')=>some (v,⟨S.nx+1,S'.H⟩)
  | none=>none
theorem VH{s:Sem Value}{z v:Value}{n:Nat}{H:List AI}{k:Value->World->Prop}(hz:Ix z v=true)(hk:Gl n g w0 v H k)(h:∀ f,Gl n g w0 v H f->CD P s f w):Yp P s z k w :=
 Aj8 (h _ λ g' c w' h1 h2 h3=>AcT hz h2 ⟨rfl,hk g' c w' h1 h2 h3⟩)
theorem Ac5{G:GT}(hG:Ka G w0){e e':Operand->Option Value}(h:ER g e e'){o:Oper}{S S':AS}{v:Value}(he:AbC P G e o S=some (v,S'))(hS:SR g w0 w S){k:Value->World->Prop}(hk:Gl S.nx g w0 v S'.H k) :
  MA P none e' o k w:=by
 obtain⟨dst,op,type,pos,after,guard⟩:=o;unfold AbC at he;unfold MA;cases op with
 | alloc t =>
  obtain⟨z,hz,hn⟩:=Aej he hS hk;simp only [hz];exact hn
 | box t x =>
  simp only [AlU] at he;split at he
  ·rename_i u hu;simp only [An8,AnO] at he;obtain⟨rfl,rfl⟩:=he;obtain⟨c,hc,hr⟩:=h _ _ hu;simp only [hc,HT];exact hS.Amk (WZ hr) hk
  ·cases he
 | buildSlice t len parts=>exact Tv h rfl he hS hk
 | store t a x =>
  simp only at he;split at he
  ·rename_i S2 hs;simp only [An8,AnO] at he;obtain⟨rfl,rfl⟩:=he;exact Aes h hs hS λ w' eU=>hk g _ w' (.inl rfl) (by simp [undef,R,RA,RL]) eU
  ·cases he
 | call c =>
  obtain⟨callee,args,ats⟩:=c;simp only at he ⊢;split at he
  ·split at he
   ·rename_i x y ye;split at he
    ·rename_i u v' hu hv;obtain⟨z,hz,he,eH⟩:=Il he;obtain⟨c,hc,hr⟩:=h _ _ hu;obtain⟨d,hd,bK⟩:=h _ _ hv;have ea:args=#[x,y]:=by cases args;simp_all
     subst ea;have cM:known e' ⟨dst,.call ⟨.builtin .append,#[x,y],ats⟩,type,pos,after,guard⟩=true:=by simp [known,Op.operands,Call.operands,hc,hd]
     simp only [cM,cond_true,hz];refine VH eH hk λ f hf=>?_;have:=AbE hG hS he hr bK hf type;simpa [MI,hc,hd] using this
    ·cases he
   ·cases he
  ·split at he
   ·rename_i x ye;split at he
    ·rename_i u hu;obtain⟨z,hz,he,eH⟩:=Il he;obtain⟨c,hc,hr⟩:=h _ _ hu;have ea:args=#[x]:=by cases args;simp_all
     subst ea;have cM:known e' ⟨dst,.call ⟨.builtin .clear,#[x],ats⟩,type,pos,after,guard⟩=true:=by simp [known,Op.operands,Call.operands,hc]
     simp only [cM,cond_true,hz];refine VH eH hk λ f hf=>?_;have:=Ael hS he hr hf type;simpa [MI,hc] using this
    ·cases he
   ·cases he
  ·cases he
 | convert s d x =>
  obtain⟨z,hz,he,eH⟩:=Il he;simp only at hz;have key:∀ f,Gl S.nx g w0 v S'.H f->∃ c,e' x=some c/\CD P (convert s d c) f w:=λ f hf=>Agh hG hS h he hf;obtain⟨c,hc,_⟩:=key (λ _ _=>True) (λ _ _ _ _ _ _=>trivial);simp only [hc,HT,hz];refine VH eH hk λ f hf=>?_;obtain⟨c',bh,hh⟩:=key f hf;rw [hc] at bh;cases bh;exact hh
 | makeSlice t l c =>
  obtain⟨z,hz,he,eH⟩:=Il he;simp only at hz;have key:∀ f,Gl S.nx g w0 v S'.H f->∃ a b,e' l=some a/\e' c=some b/\CD P (Instr.makeSlice t a b) f w:=λ f hf=>Agn hS h he hf;obtain⟨a,b,ha,hb,_⟩:=key (λ _ _=>True) (λ _ _ _ _ _ _=>trivial);simp only [ha,hb,HT,hz];refine VH eH hk λ f hf=>?_;obtain⟨a',b',fN,gZ,hh⟩:=key f hf;rw [ha] at fN;rw [hb] at gZ;cases fN;cases gZ;exact hh
 | makeMap t r =>
  cases r with
  | some _=>simp at he
  | none =>
   obtain⟨z,hz,he,eH⟩:=Il he;simp only at hz;simp only [hz];exact VH eH hk λ f hf=>Zq he hS hf
 | lookup t x i ok =>
  obtain⟨z,hz,he,eH⟩:=Il he;simp only at hz;have key:∀ f,Gl S.nx g w0 v S'.H f->∃ a b,e' x=some a/\e' i=some b/\CD P (Instr.lookup t a b ok) f w:=λ f hf=>AbH h he hS hf;obtain⟨a,b,ha,hb,_⟩:=key (λ _ _=>True) (λ _ _ _ _ _ _=>trivial);simp only [ha,hb,HT,hz];refine VH eH hk λ f hf=>?_;obtain⟨a',b',fN,gZ,hh⟩:=key f hf;rw [ha] at fN;rw [hb] at gZ;cases fN;cases gZ;exact hh
 | mapUpdate t m i x =>
  simp only at he;split at he
  ·rename_i S2 hs;simp only [An8,AnO] at he;obtain⟨rfl,rfl⟩:=he;exact AbI h hs hS λ w' eU=>hk g _ w' (.inl rfl) (by simp [undef,R,RA,RL]) eU
  ·cases he
 | _=>simp at he
def Abf(n:Nat)(g:Sg)(w0:World)(v:Value)(S:AS)(k:Value->World->Prop):Prop:=∀ g' c w',Ext n S.nx g g'->R g' v c->SX g' w0 w' S->k c w'
theorem Zl{G:GT}{X:XF}(hX:XOK P G X)(hG:Ka G w0){e e':Operand->Option Value}(h:ER g e e'){o:Oper}{Y:YT}{S S':AS}{v:Value}(he:VW P X e o Y S=some (v,S'))(hS:SX g w0 w S)(hY:WV g Y){k:Value->World->Prop}(hk:Abf S.nx g w0 v S' k) :
  MA P none e' o k w:=by
 obtain⟨dst,op,type,pos,after,guard⟩:=o;unfold VW at he;unfold MA;cases op with
 | call c =>
  obtain⟨callee,args,ats⟩:=c;simp only at he ⊢;split at he
  ·rename_i fo;simp only at he ⊢;split at he
   ·rename_i vs z fn fi ca h1 h2 h3;obtain⟨cs,bG,hr,_,_⟩:=Oj h h1;obtain⟨c,hc,fX⟩:=h _ _ h3;obtain⟨bX,cG,rfl,gC,cD⟩:=SV fX;cases bP:enters P fn with
    | false =>
     rw [bP,cond_false] at he;unfold AlV at he;cases hd:T0 fo with
     | true=>rw [hd,cond_true] at he;cases he
     | false =>
     rw [hd,cond_false] at he;have jX:=(AN he).1
     replace he:=(AN he).2
     have xe:=(HK _ jX).1 (F4 (F4 gC hr) cD);split at he
     ·rename_i u hu;have bS:=(AN he).1
      replace he:=(AN he).2
      simp only [Ana] at bS;simp only [An8,AnO] at he;obtain⟨rfl,rfl⟩:=he;simp only [bG,h2,hc,AdY,bP,cond_false,Aj7,hd];rw [xe,Rg _ hu w];have j':R g u u:=(RZ _ bS.1).2 rfl;exact AcS bS.2 j' ⟨rfl,hk g u w (Ext.refl _ _) j' hS⟩
     ·cases he
    | true =>
    rw [bP,cond_true] at he;split at he
    ·rename_i v' S2 hx;have eH:=(AN he).1
     replace he:=(AN he).2
     simp only [An8,AnO] at he;obtain⟨rfl,rfl⟩:=he;have:=hX _ _ _ _ _ _ hx g w0 w (bX.toList++cs++cG.toList) hS hG (F4 (F4 gC hr) cD) hY;simp only [bG,h2,hc,AdY,bP,cond_true,AjA];refine Calls.mono this ?_;rintro en w' ⟨c,g',rfl,hl,lC,eU⟩;exact AcS eH lC ⟨rfl,hk g' c w' hl lC eU⟩
    ·cases he
   ·rename_i vs z l fi ca h1 h2 h3;obtain⟨cs,bG,hr,_,_⟩:=Oj h h1;obtain⟨c,hc,fX⟩:=h _ _ h3;have bP:=(AN he).1
    replace he:=(AN he).2
    simp only [Ana,List.isEmpty_iff] at bP;cases c with
    | func fn' bX cG =>
     simp only [R,F3,bP.1,bP.2,RL] at fX;obtain⟨⟨l',eG,rfl⟩,e1,e2⟩:=fX;have:=hX _ _ _ _ _ _ he g w0 w cs hS hG hr hY l' eG;simp only [bG,h2,hc,AdY,e1,e2,List.isEmpty_nil,Bool.and_self,cond_true];refine this.mono ?_;rintro b w' ⟨g',hl,rfl,eU⟩;exact hk g' _ w' hl (by simp [R]) eU
    | _=>simp [R] at fX
   ·cases he
  ·cases he
 | _=>simp at he
theorem Zo{G:GT}{X:XF}(hX:XOK P G X)(hG:Ka G w0){e e':Operand->Option Value}(h:ER g e e'){o:Oper}{Y:YT}{S S':AS}{v:Value}(he:QS P G X e o Y S=some (v,S'))(hS:SX g w0 w S)(hY:WV g Y){k:Value->World->Prop}(hk:Abf S.nx g w0 v S' k) :
  MA P none e' o k w:=by
 unfold QS at he;cases hc:KH o with
 | true=>rw [hc,cond_true] at he;exact Zl hX hG h he hS hY hk
 | false =>
  rw [hc,cond_false] at he;split at he
  ·rename_i v2 S2 ha;simp only [An8,AnO] at he;obtain⟨rfl,rfl⟩:=he;exact Ac5 hG h ha hS.sr λ g' c w' h1 h2 h3=>hk g' c w' (hS.up h1 h3).2 h2 (hS.up h1 h3).1
  ·cases he
end
end Go.Dn
