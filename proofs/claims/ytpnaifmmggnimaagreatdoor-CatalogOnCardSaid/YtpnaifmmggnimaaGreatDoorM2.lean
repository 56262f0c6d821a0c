/- Texts of this claim, laid one behind the other by a program of mine. -/
import Derived.Test.YtpnaifmmggnimaaGreatDoorM1
import Derived.Scope
import Derived.RangeFuncRecord
/-
  The reading of a whole function: what it asks suffices for the call.
-/
namespace Go.Dn
open _root_.Bool renaming and_eq_true -> Ah1
section
variable {P:Program}{n:Nat}{L C:Hints}
theorem St.refl{a:Act}{W:Nat->Bool}{nr:Bool}(hn:a.tmps.size=n):St n a W nr a:=⟨hn,λ _=>rfl,λ _ _=>rfl⟩
theorem St.trans{a b c:Act}{W W' V:Nat->Bool}{r r' q:Bool}(h:St n a W r b)(h':St n b W' r' c)(hv:∀ i,V i=false->W i=false/\W' i=false)(hq:q=true->r=true/\r'=true):St n a V q c :=
 ⟨h'.size,λ e=>(h'.defers (hq e).2).trans (h.defers (hq e).1),λ i hi=>(h'.same i (hv i hi).2).trans (h.same i (hv i hi).1)⟩
theorem St.weaken{a b:Act}{W V:Nat->Bool}{r q:Bool}(h:St n a W r b)(hv:∀ i,V i=false->W i=false)(hq:q=true->r=true):St n a V q b:=⟨h.size,λ e=>h.defers (hq e),λ i hi=>h.same i (hv i hi)⟩
theorem U9{z:Value}{f:Value->Prop}(h:AeR z f){v:Value}(hl:Ys z v=true):f v:=by
 cases z <;> first
  | exact h v
  | (cases v <;> first | (simp [Ys] at hl;done) | exact h _ | exact h _ _ _ | (have:=Kw hl;subst this;exact h _) | (rename_i fn _ _;cases fn <;> first | (simp [Ys] at hl;done) | exact h _ _ _))
theorem Va:∀ {zs vs:List Value} {f:List Value->Prop},AeS zs f->VJ zs vs=true->f vs
 | [],[],_,h,_=>h
 | z :: zs,v :: vs,f,h,hl=>by
  simp only [VJ,Ah1] at hl;exact Va (f:=λ vs=>f (v :: vs)) (U9 h hl.1) hl.2
 | [],_ :: _,_,_,hl=>by simp [VJ] at hl
 | _ :: _,[],_,_,hl=>by simp [VJ] at hl
theorem Abx{z:Value}{f:Value->Prop}(h:AcY z f){v:Value}(hl:Ad1 z v=true):f v:=by
 unfold AcY at h;unfold Ad1 at hl;split at h
 ·rename_i zs;simp only at hl;split at hl
  ·rename_i vs;have:=Va h hl;simpa using this
  ·cases hl
 ·rename_i aQ;split at hl
  ·rename_i zs;exact absurd rfl (aQ zs)
  ·exact U9 h hl
theorem Is:∀ {zs vs:List Value} {f:List Value->Prop},Wl zs f->Mr zs vs=true->f vs
 | [],[],_,h,_=>h
 | z :: zs,v :: vs,f,h,hl=>by
  simp only [Mr,Ah1] at hl;exact Is (f:=λ vs=>f (v :: vs)) (Abx h hl.1) hl.2
 | [],_ :: _,_,_,hl=>by simp [Mr] at hl
 | _ :: _,[],_,_,hl=>by simp [Mr] at hl
def KI(a:Act):List (Nat × Value)->Option (List Value)
 | []=>some []
 | x :: r=>match a.tmps[x.1]?,KI a r with
  | some v,some vs=>some (v :: vs)
  | _,_=>none
theorem VK{fr:Fr}{a:Act}(hg:BQ fr a):∀ {DD:List (Nat × Value)} {s:List Value},OI fr DD=some s->KI a DD=some s
 | [],s,h=>by simpa [OI,KI] using h
 | x :: r,s,h=>by
  unfold OI at h;split at h
  ·rename_i v vs hv rJ;simp at h;subst h;simp [KI,hg _ _ hv,VK hg rJ]
  ·cases h
theorem LD{DD:List (Nat × Value)}{fr:Fr}{k:List Value->Prop}{a:Act}(hg:BQ fr a)(h:ENT DD fr k):∃ s,KI a DD=some s/\Mr (DD.map (·.2)) s=true/\k s:=by
 unfold ENT at h;split at h
 ·rename_i s hs;cases hl:Mr (DD.map (·.2)) s with
  | false=>rw [hl] at h;exact h.elim
  | true=>rw [hl] at h;exact⟨s,VK hg hs,hl,h⟩
 ·exact h.elim
theorem D4{fr:Fr}{a a':Act}{c:Code}(hg:BQ fr a)(jz:∀ i,writes i c=false->a'.tmps[i]?=a.tmps[i]?):∀ {keep:List Nat},MY c keep=true->BQ (Ji fr keep) a'
 | [],_=>by intro i v h;simp [Ji,look] at h
 | i :: r,hk=>by
  have dY:writes i c=false/\MY c r=true:=by simpa [MY] using hk
  unfold Ji;split
  ·rename_i v hv;intro j u hu;rw [IH] at hu;by_cases dQ:i=j
   ·subst dQ;simp at hu;subst hu;rw [jz i dY.1];exact hg _ _ hv
   ·simp only [dQ,if_false] at hu;exact D4 hg jz dY.2 j u hu
  ·exact D4 hg jz dY.2
theorem Eo{a:Act}{rest:Fr}(hr:BQ rest a):∀ {DD:List (Nat × Value)} {s:List Value},KI a DD=some s->BQ (HV DD s rest) a
 | [],s,_=>by simpa [HV] using hr
 | x :: r,s,h=>by
  unfold KI at h;split at h
  ·rename_i v vs hv rJ;simp at h;subst h;intro j u hu;simp only [HV] at hu;rw [IH] at hu;by_cases dQ:x.1=j
   ·subst dQ;simp at hu;subst hu;exact hv
   ·simp only [dQ,if_false] at hu;exact Eo hr rJ j u hu
  ·cases h
theorem Xn{z:Value}{f:Value->Prop}(h:∀ v,f v):AeR z f:=by
 cases z <;> first | exact λ _=>h _ | exact λ _ _ _=>h _
theorem Xo:∀ {zs:List Value} {f:List Value->Prop},(∀ vs,vs.length=zs.length->f vs)->AeS zs f
 | [],_,h=>h [] rfl
 | z :: zs,_,h=>Xn λ v=>Xo λ vs hl=>h (v :: vs) (by simp [hl])
theorem AcZ{z:Value}{f:Value->Prop}(h:∀ v,f v):AcY z f:=by
 unfold AcY;split
 ·exact Xo λ _ _=>h _
 ·exact Xn h
theorem Xp:∀ {zs:List Value} {f:List Value->Prop},(∀ vs,vs.length=zs.length->f vs)->Wl zs f
 | [],_,h=>h [] rfl
 | z :: zs,_,h=>AcZ λ v=>Xp λ vs hl=>h (v :: vs) (by simp [hl])
theorem Aba{j:Option Code}{f:Exit->Prop}:∀ {l:List (Option Code × Exit)},orJ j f l->∃ x∈l,j=x.1/\f x.2
 | [x],h=>⟨x,List.mem_cons_self,h⟩
 | x :: y :: r,h=>by
  rcases h with h | h
  ·exact⟨x,List.mem_cons_self,h⟩
  ·obtain⟨z,hz,h⟩:=Aba h;exact⟨z,List.mem_cons_of_mem _ hz,h⟩
theorem Ym{c:Code}{x:Option Code × Exit}(h:x∈Sv c):x=(none,.normal)\/x=(some .ret,.ret)\/∃ i,x=(some (.exit i),.exit i):=by
 unfold Sv at h;rcases List.mem_cons.1 h with h | h
 ·exact .inl h
 ·rcases List.mem_append.1 h with h | h
  ·cases hr:Ib c with
   | true=>rw [hr] at h;exact .inr (.inl (by simpa using h))
   | false=>rw [hr] at h;simp at h
  ·obtain⟨i,_,e⟩:=List.mem_map.1 h;exact .inr (.inr ⟨i,e.symm⟩)
theorem Ms:∀(ps:List Nat) (vs:List Value) (fr:Fr) (t:Array Value),BQ fr ⟨t,[]⟩->t.size=n ->
  BQ (M5 n fr ps vs) ⟨(ps.zip vs).foldl (λ t x=>t.setIfInBounds x.1 x.2) t,[]⟩/\((ps.zip vs).foldl (λ t x=>t.setIfInBounds x.1 x.2) t).size=n
 | [],_,fr,t,h,hn=>by simpa [M5] using ⟨h,hn⟩
 | _ :: _,[],fr,t,h,hn=>by simpa [M5] using ⟨h,hn⟩
 | p :: ps,v :: vs,fr,t,h,hn=>by
  have:=Ms ps vs (put n fr (some p) v) (t.setIfInBounds p v) (h.put hn (some p) v) (by simpa using hn);simpa [M5] using this
theorem Yw:∀ {a b:List Nat},TT a b=true->a=b
 | [],[],_=>rfl
 | x :: r,y :: s,h=>by
  simp only [TT,Ah1] at h;rw [Nat.eq_of_beq_eq_true h.1,Yw h.2]
 | [],_ :: _,h=>by simp [TT] at h
 | _ :: _,[],h=>by simp [TT] at h
theorem Mb{w:World}{lo:Nat}{ro:Loop}(h:w.heap[lo]?=some (.loop ro))(fn:FuncId)(tmps:Array Value)(ps:Array Tmp)(assign body:Code) :
  (Instr.enterLoop fn tmps ps assign body (some lo)).run P w =
   .ok (w.heap.size,[]) (w.alloc (.loop { state:=.ready,pending:=none,fn,tmps,params:=ps,assign,body,defers:=ro.defers })):=by
 unfold Instr.enterLoop;simp only [Sem.run_bind,run_getLoop h,run_newObj_alloc,Result.andThen,Sem.run_pure]
section scope
variable {b:Frame}{a:Act}{k:List Item}{cs:List Frame}{w:World}{Q:Exit->Act->World->Prop}{F:Fence}{m:Nat}
theorem Fl{c:Code}:step P (lone (b.atR a (.code (.scope c) :: k)) cs w)=.next (lone (b.atR a (.code c :: .inScope c :: k)) cs w) :=
 step_lone_go (by simp [stepG,stepG.exec,Frame.atR])
theorem U7{c:Code}:step P (lone (b.atR a (.inScope c :: k)) cs w)=.next (lone (b.atR a k) cs w) :=
 step_lone_go (by simp [stepG,stepG.exec,Frame.atR])
theorem AaG{c:Code}(h:c.wpIn F m P (Exit.noGoto Q) a w):(Code.scope c).wpIn F m P Q a w:=by
 intro b k cs xL hb hr;have h0:(lone (b.atR a (.code (.scope c) :: k)) cs w).fenced P F:=fenced_calm hb hr rfl;obtain⟨e,a₁,w₁,hq,harr⟩:=h b (.inScope c :: k) cs xL hb hr;cases e with
 | normal=>exact⟨.normal,a₁,w₁,hq,.head h0 Fl (StepsIn.trans harr (.one (fenced_calm hb hr rfl) U7))⟩
 | exit id =>
  have hx:exitTo id (.inScope c :: k)=exitTo id k:=by simp [exitTo]
  exact⟨.exit id,a₁,w₁,hq,λ k' hk=>.head h0 Fl (harr.1 k' (by rw [hx];exact hk)),
   λ gV hk=>let ⟨k₁,h1,h2⟩:=harr.2 gV (by rw [hx];exact hk);⟨k₁,h1,.head h0 Fl h2⟩⟩
 | goto l=>exact hq.elim
 | ret=>exact⟨_,a₁,w₁,hq,.of_steps (.one h0 Fl) harr⟩
 | panic ch=>exact⟨_,a₁,w₁,hq,.of_steps (.one h0 Fl) harr⟩
 | outgrown=>exact⟨_,a₁,w₁,hq,.of_steps (.one h0 Fl) harr⟩
end scope
theorem Ab2(o6:P.follows .mixedOrders=true)(c:Code):∀(rd:Option Nat) (m:Nat) (K:Exit->Fr->List Nat->World->Prop) (fr:Fr) (ms:List Nat) (w:World) (a:Act),BQ fr a->a.tmps.size=n->a.defers=marks ms ->
  den P n L C c rd K fr ms w->c.wpIn (FF rd) m P (Ada n a (λ i=>writes i c) (Bi c) K) a w:=by
 induction c with
 | skip=>intro rd m K fr ms w a hg hn hd h;exact wpIn_skip ⟨.refl hn,fr,ms,hg,hd,h⟩
 | label l=>intro rd m K fr ms w a hg hn hd h;exact wpIn_label ⟨.refl hn,fr,ms,hg,hd,h⟩
 | exit id=>intro rd m K fr ms w a hg hn hd h;exact wpIn_exit ⟨.refl hn,fr,ms,hg,hd,h⟩
 | ret=>intro rd m K fr ms w a hg hn hd h;exact wpIn_ret ⟨.refl hn,fr,ms,hg,hd,h⟩
 | seq x y ihx ihy =>
  intro rd m K fr ms w a hg hn hd h;have hV:∀ i,writes i (Code.seq x y)=false->writes i x=false/\writes i y=false:=λ i hi=>by simpa [writes] using hi
  have hR:Bi (Code.seq x y)=true->Bi x=true/\Bi y=true:=λ hi=>by simpa [Bi] using hi
  unfold den at h;split at h
  ·refine wpIn_seq (wpIn_mono (ihx rd m _ fr ms w a hg hn hd h) ?_);rintro e a' w' ⟨aA,ag,aw,bD,dw,hk⟩;cases e with
   | normal =>
    refine wpIn_mono (ihy rd m K ag aw w' a' bD aA.size dw hk) ?_;rintro e2 a2 w2 ⟨fC,kJ,kB,eL,gC,ay⟩;exact⟨aA.trans fC hV hR,kJ,kB,eL,gC,ay⟩
   | _=>exact⟨aA.weaken (λ i hi=>(hV i hi).1) (λ hi=>(hR hi).1),ag,aw,bD,dw,hk⟩
  ·rename_i hint hh;cases iR:MY x hint.keep with
   | false=>rw [iR] at h;exact h.elim
   | true =>
    rw [iR] at h;cases o9:Bi x with
    | true =>
     rw [o9] at h;obtain⟨Y,hbefore,hbehind⟩:=h;refine wpIn_seq (wpIn_mono (ihx rd m _ fr ms w a hg hn hd hbefore) ?_);rintro e a' w' ⟨aA,ag,aw,bD,dw,hk⟩;cases e with
     | normal =>
      obtain⟨s,hs,hl,hY⟩:=LD bD hk;have eo:=Is hbehind hl w' hY;have cU:=Eo (D4 (keep:=hint.keep) hg aA.same iR) hs;refine wpIn_mono (ihy rd m K _ ms w' a' cU aA.size ((aA.defers o9).trans hd) eo) ?_;rintro e2 a2 w2 ⟨fC,kJ,kB,eL,gC,ay⟩;exact⟨aA.trans fC hV hR,kJ,kB,eL,gC,ay⟩
     | _=>exact⟨aA.weaken (λ i hi=>(hV i hi).1) (λ hi=>(hR hi).1),ag,aw,bD,dw,hk⟩
    | false =>
     rw [o9] at h;obtain⟨Y,hbefore,hbehind⟩:=h;refine wpIn_seq (wpIn_mono (ihx rd m _ fr ms w a hg hn hd hbefore) ?_);rintro e a' w' ⟨aA,ag,aw,bD,dw,hk⟩;cases e with
     | normal =>
      obtain⟨s,hs,hl,hY⟩:=LD bD hk;have eo:=Is hbehind hl aw w' hY;have cU:=Eo (D4 (keep:=hint.keep) hg aA.same iR) hs;refine wpIn_mono (ihy rd m K _ aw w' a' cU aA.size dw eo) ?_;rintro e2 a2 w2 ⟨fC,kJ,kB,eL,gC,ay⟩;exact⟨aA.trans fC hV hR,kJ,kB,eL,gC,ay⟩
     | _=>exact⟨aA.weaken (λ i hi=>(hV i hi).1) (λ hi=>(hR hi).1),ag,aw,bD,dw,hk⟩
 | cond c x y ihx ihy =>
  intro rd m K fr ms w a hg hn hd h;have hV:∀ i,writes i (Code.cond c x y)=false->writes i x=false/\writes i y=false:=λ i hi=>by simpa [writes] using hi
  have hR:Bi (Code.cond c x y)=true->Bi x=true/\Bi y=true:=λ hi=>by simpa [Bi] using hi
  unfold den at h;split at h
  ·rename_i t ht;have hc:=hg.eval _ _ ht;have key:(t=true->∃ ag,BQ ag a/\den P n L C x rd K ag ms w)/\(t=false->∃ ag,BQ ag a/\den P n L C y rd K ag ms w):=by
    split at h
    ·rename_i i;have cU:=hg.again (show look fr i=some (.bool t) from ht);cases t with
     | true=>exact⟨λ _=>⟨_,cU,h⟩,Osi⟩
     | false=>exact⟨Osi,λ _=>⟨_,cU,h⟩⟩
    ·cases t with
     | true=>exact⟨λ _=>⟨_,hg,h⟩,Osi⟩
     | false=>exact⟨Osi,λ _=>⟨_,hg,h⟩⟩
   refine wpIn_cond_split hc (λ ht=>?_) (λ hf=>?_)
   ·obtain⟨ag,bD,h'⟩:=key.1 ht;refine wpIn_mono (ihx rd m K ag ms w a bD hn hd h') ?_;rintro e a' w' ⟨aA,r⟩;exact⟨aA.weaken (λ i hi=>(hV i hi).1) (λ hi=>(hR hi).1),r⟩
   ·obtain⟨ag,bD,h'⟩:=key.2 hf;refine wpIn_mono (ihy rd m K ag ms w a bD hn hd h') ?_;rintro e a' w' ⟨aA,r⟩;exact⟨aA.weaken (λ i hi=>(hV i hi).2) (λ hi=>(hR hi).2),r⟩
  ·exact h.elim
 | block id c ih =>
  intro rd m K fr ms w a hg hn hd h;unfold den at h;refine wpIn_block (wpIn_mono (ih rd m _ fr ms w a hg hn hd h) ?_);rintro e a' w' ⟨aA,ag,aw,bD,dw,hk⟩;cases e with
  | exit j =>
   simp only [Exit.inBlock]
   replace hk:bif Nat.beq j id then K .normal ag aw w' else K (.exit j) ag aw w':=hk
   cases hb:Nat.beq j id with
   | true =>
    have dX:j=id:=Nat.eq_of_beq_eq_true hb;rw [if_pos dX];rw [hb] at hk;exact⟨aA,ag,aw,bD,dw,hk⟩
   | false =>
    have dX:¬ j=id:=λ he=>by subst he;simp at hb
    rw [if_neg dX];rw [hb] at hk;exact⟨aA,ag,aw,bD,dw,hk⟩
  | _=>exact⟨aA,ag,aw,bD,dw,hk⟩
 | loop c ih =>
  intro rd m K fr ms w a hg hn hd h;unfold den at h;split at h
  ·exact h.elim
  ·rename_i hint hh;cases iR:MY c hint.keep with
   | false=>rw [iR] at h;exact h.elim
   | true =>
    rw [iR] at h;cases o9:Bi c with
    | true =>
     rw [o9] at h;obtain⟨Inv,mu,hent,aF⟩:=h;refine wpIn_loop (λ a' w'=>St n a (λ i=>writes i c) (Bi c) a'/\∃ s,KI a' hint.DD=some s/\Mr (hint.DD.map (·.2)) s=true/\Inv s w')
      (λ a' w'=>mu ((KI a' hint.DD).getD []) w') ?_ ?_
     ·obtain⟨s,hs,hl,hi⟩:=LD hg hent;exact⟨.refl hn,s,hs,hl,hi⟩
     ·rintro a' w' ⟨aA,s,hs,hl,hi⟩;have eo:=Is aF hl w' hi;have cU:=Eo (D4 (keep:=hint.keep) hg aA.same iR) hs;refine wpIn_mono (ih rd m _ _ ms w' a' cU aA.size ((aA.defers o9).trans hd) eo) ?_;rintro e a2 w2 ⟨fC,kJ,kB,eL,gC,ay⟩;have k7:St n a (λ i=>writes i c) (Bi c) a2:=aA.trans fC (λ i hi=>⟨hi,hi⟩) (λ hi=>⟨hi,hi⟩);cases e with
      | normal =>
       obtain⟨s2,eS,bA,hi2,aB⟩:=LD eL ay;exact⟨⟨k7,s2,eS,bA,hi2⟩,by simpa [hs,eS] using aB⟩
      | _=>exact⟨k7,kJ,kB,eL,gC,ay⟩
    | false =>
     rw [o9] at h;obtain⟨Inv,mu,hent,aF⟩:=h;refine wpIn_loop (λ a' w'=>St n a (λ i=>writes i c) (Bi c) a'/\∃ s aw,KI a' hint.DD=some s/\Mr (hint.DD.map (·.2)) s=true/\a'.defers=marks aw/\Inv s aw w')
      (λ a' w'=>mu ((KI a' hint.DD).getD []) w') ?_ ?_
     ·obtain⟨s,hs,hl,hi⟩:=LD hg hent;exact⟨.refl hn,s,ms,hs,hl,hd,hi⟩
     ·rintro a' w' ⟨aA,s,aw,hs,hl,dw,hi⟩;have eo:=Is aF hl aw w' hi;have cU:=Eo (D4 (keep:=hint.keep) hg aA.same iR) hs;refine wpIn_mono (ih rd m _ _ aw w' a' cU aA.size dw eo) ?_;rintro e a2 w2 ⟨fC,kJ,kB,eL,gC,ay⟩;have k7:St n a (λ i=>writes i c) (Bi c) a2:=aA.trans fC (λ i hi=>⟨hi,hi⟩) (λ hi=>⟨hi,hi⟩);cases e with
      | normal =>
       obtain⟨s2,eS,bA,hi2,aB⟩:=LD eL ay;exact⟨⟨k7,s2,kB,eS,bA,gC,hi2⟩,by simpa [hs,eS] using aB⟩
      | _=>exact⟨k7,kJ,kB,eL,gC,ay⟩
 | region id ops draw =>
  intro rd m K fr ms w a hg hn hd h;have hQ:∀ a' w',Adb n a (λ i=>CB i ops.toList) (λ ag w'=>K .normal ag ms w') a' w'->Ada n a (λ i=>writes i (Code.region id ops draw)) (Bi (Code.region id ops draw)) K .normal a' w':=by
   rintro a' w' ⟨aA,ag,bD,hk⟩;exact⟨⟨aA.size,λ _=>aA.defers rfl,λ i hi=>aA.same i (by simpa [writes] using hi)⟩,ag,ms,bD,(aA.defers rfl).trans hd,hk⟩
  have hP:∀ a' ch w',St n a (λ i=>CB i ops.toList) true a'->Aai (VO C λ ch w'=>K (.panic ch) [] ms w') ch w'->Ada n a (λ i=>writes i (Code.region id ops draw)) (Bi (Code.region id ops draw)) K (.panic ch) a' w':=by
   intro a' ch w' aA hk;refine⟨⟨aA.size,λ _=>aA.defers rfl,λ i hi=>aA.same i (by simpa [writes] using hi)⟩,[],ms,(by intro i v h;simp [look] at h),(aA.defers rfl).trans hd,?_⟩;unfold VO at hk;split at hk
   ·exact hk.elim
   ·exact hk
  cases draw with
  | false =>
   refine wpIn_region (GZ rd m hQ hP _ _ _ (.refl hn) ?_);have:=MS (P:=P) (kp:=VO C λ ch w'=>K (.panic ch) [] ms w') (n:=n) (ops:=ops) (a0:=a) (K:=λ ag w'=>K .normal ag ms w') ops.toList 0 rfl fr w a hg (.refl hn) h;rw [List.range_eq_range'];rw [Array.length_toList] at this;exact this
  | true =>
   unfold den at h;cases bW:Region.noSelect ops with
   | false=>rw [bW] at h;exact h.elim
   | true =>
    rw [bW] at h;have:=XT (P:=P) (kp:=VO C λ ch w'=>K (.panic ch) [] ms w') (n:=n) (ops:=ops) (a0:=a) bW (K:=λ ag w'=>K .normal ag ms w') ops.size _ [] fr w.drew a hg (.refl hn) H4.start Osi h;exact wpIn_region_any o6 (GX rd m hQ hP _ _ _ _ _ (.refl hn) this)
 | scope c ih =>
  intro rd m K fr ms w a hg hn hd h;unfold den at h;refine AaG (wpIn_mono (ih rd m _ fr ms w a hg hn hd h) ?_);rintro e a' w' ⟨aA,ag,aw,bD,dw,hk⟩;cases e with
  | goto l=>exact hk.elim
  | _=>exact⟨aA,ag,aw,bD,dw,hk⟩
 | rangeFunc g ps x y ihx ihy =>
  intro rd m K fr ms w a hg hn hd h;unfold den at h;split at h
  ·exact h.elim
  ·rename_i hint hh;cases aK:TT (hint.DD.map (·.1)) ps.toList && Bi x with
   | false=>rw [aK] at h;exact h.elim
   | true =>
    rw [aK] at h;simp only [Ah1] at aK;have dr:=Yw aK.1;have bM:ps.size=(hint.DD.map (·.2)).length:=by rw [<- Array.length_toList,<- dr];simp
    obtain⟨f,fi,ca,hv,nR,hr⟩:=Ac4 h;have vm:=hg.eval _ _ hv;have round:∀(rr:Loop) (l:Nat),rr.state=.ready->rr.pending=none->rr.params=ps->rr.tmps=a.tmps->rr.assign=x->rr.body=y ->
      Wl (hint.DD.map (·.2)) λ vs=>∀(k:Bool->World->Prop) (w:World),w.heap[l]?=some (.loop rr)->den P n L C x (some l) (λ e pw _ w1=>match e with
       | .normal=>PD rr l (λ w2=>den P n L C y (some l) (λ e _ _ w3=>match e with
        | .normal=>FO rr l k none w3
        | .ret=>FO rr l k (some .ret) w3
        | .exit i=>FO rr l k (some (.exit i)) w3
        | _=>False) pw [] w2) w1
       | _=>False) (M5 n fr ps.toList vs) [] w->N0 P l ⟨vs⟩ k w:=by
     intro rr l aA dZ yw iE has fW;refine Xp λ vs iY k wx xK eo=>?_;have ao:(⟨vs⟩:Array Value).size=rr.params.size:=by rw [yw,bM];exact iY
     refine⟨_,_,_,_,run_yield xK ao,roundIn_of_wpIn (F:=Fence.wide) trivial ?_⟩;rw [yw,iE,has,fW];have ez:(ps.zip (⟨vs⟩:Array Value)).foldl (λ (t:Array Value) (x:Tmp × Value)=>t.setIfInBounds x.1 x.2) a.tmps=(ps.toList.zip vs).foldl (λ t x=>t.setIfInBounds x.1 x.2) a.tmps:=by
      rw [<- Array.foldl_toList];simp
     have cU:=Ms (n:=n) ps.toList vs fr a.tmps hg hn;rw [<- ez] at cU;refine wpIn_mono (ihx (some l) 0 _ _ [] wx _ cU.1 cU.2 rfl eo) ?_;rintro e a1 w1 ⟨k6,pw,ms1,jf,ja,cu⟩;cases e with
     | normal =>
      obtain⟨cK,cu⟩:=cu;refine⟨_,run_beginRound cK aA,?_⟩;have vW:a1.defers=marks []:=k6.defers aK.2;refine wpIn_mono (ihy (some l) 0 _ pw [] _ a1 jf k6.size vW cu) ?_;rintro e2 a2 w2 ⟨_,kJ,kB,_,_,ay⟩;cases e2 with
      | normal=>exact⟨_,_,run_endRound none ay.1,true,rfl,ay.2⟩
      | ret=>exact⟨_,_,run_endRound (some .ret) ay.1,false,rfl,ay.2⟩
      | exit i=>exact⟨_,_,run_endRound (some (.exit i)) ay.1,false,rfl,ay.2⟩
      | _=>exact ay.elim
     | _=>exact cu.elim
    have post:∀(rr:Loop) (l:Nat) (aw:List Nat) (w3:World),PG rr l (λ j w'=>orJ j (λ e=>K e fr (aw++ms) w') (Sv y)) w3->∀ v,
      rangePost (FF rd) m P l (Ada n a (λ i=>writes i (Code.rangeFunc g ps x y)) (Bi (Code.rangeFunc g ps x y)) K) { a with defers:=marks aw++a.defers } (.returned v) w3:=by
     rintro rr l aw w3 ⟨j,hj,hk⟩ v;have kT:(if j.isNone then LoopState.ready else .done)≠.busy:=by split <;> simp
     refine⟨_,_,run_endLoop hj kT,?_⟩;have hl:∀ {e w'},K e fr (aw++ms) w'->Ada n a (λ i=>writes i (Code.rangeFunc g ps x y)) (Bi (Code.rangeFunc g ps x y)) K e { a with defers:=marks aw++a.defers } w':=by
      intro e w' hK;exact⟨⟨hn,λ h=>(by cases h),λ _ _=>rfl⟩,fr,aw++ms,hg,by simp [marks,hd],hK⟩
     obtain⟨z,hz,e1,e2⟩:=Aba hk;rcases Ym hz with rfl | rfl | ⟨i,rfl⟩
     ·subst e1;exact hl e2
     ·subst e1;exact wpIn_ret (hl e2)
     ·subst e1;exact wpIn_exit (hl e2)
    refine wpIn_rangeFunc λ fn _=>?_;have hinv:∀(l:Nat) (w1:World),(resolve a.eval (rangeCall g l) 0).run P w1=.ok { target:=.fn (.func f) ca,args:=fi++#[.func (.yield l) #[] #[]] } w1 /\
      (invoke (.fn (.func f) ca) (fi++#[.func (.yield l) #[] #[]])).run P w1=.ok (.enter f ⟨fi.toList++[.func (.yield l) #[] #[]]++ca.toList⟩) w1:=by
     intro l w1;constructor
     ·simp only [resolve,vm,Deferred.ofValue];simp [Act.eval]
     ·have ha:fi++#[.func (.yield l) #[] #[]]++ca=⟨fi.toList++[.func (.yield l) #[] #[]]++ca.toList⟩:=Array.ext' Osi;simp only [invoke,Tp nR,ha]
    cases rd with
    | none =>
     have hc:=hr _ rfl rfl (round { state:=.ready,pending:=none,fn,tmps:=a.tmps,params:=ps,assign:=x,body:=y,defers:=w.heap.size } (w.heap.size+1) rfl rfl rfl rfl rfl rfl);refine⟨_,_,_,_,_,f,_,_,run_enterLoop_outer _ _ _ _ _,(hinv _ _).1,λ _ _=>trivial,(hinv _ _).2,λ h=>(by cases h),?_⟩;refine CallsIn.mono (F:=FF none) (callsIn_wide.2 hc) ?_;rintro e w3 ⟨⟨v,rfl⟩,he⟩;exact post _ _ [w.heap.size] w3 he v
    | some lo =>
     obtain⟨⟨ro,xL⟩,hr⟩:=hr;have hc:=hr _ rfl rfl (round { state:=.ready,pending:=none,fn,tmps:=a.tmps,params:=ps,assign:=x,body:=y,defers:=ro.defers } w.heap.size rfl rfl rfl rfl rfl rfl);refine⟨_,_,_,_,_,f,_,_,Mb xL _ _ _ _ _,(hinv _ _).1,λ _ _=>trivial,(hinv _ _).2,λ h=>(by cases h),?_⟩;have cI:=(callsIn_wide (n:=m-1)).2 hc;refine CallsIn.mono (F:=FF (some lo)) ⟨trivial,λ cs _=>cI.2 cs (AaL none _)⟩ ?_;rintro e w3 ⟨⟨v,rfl⟩,he⟩;exact post _ _ [] w3 he v
 | goto l=>intro rd m K fr ms w a hg hn hd h;exact h.elim
 | refuse s=>intro rd m K fr ms w a hg hn hd h;exact h.elim
theorem Oc(tmps:Array Value):∀(args:List Value) (i:Nat),(∀ j v,args[j]?=some v->tmps[i+j]?=some v)->BQ (SY i args) ⟨tmps,[]⟩
 | [],_,_=>by intro j v h;simp [SY,look] at h
 | x :: r,i,h=>by
  intro j u hu;simp only [SY] at hu;rw [IH] at hu;by_cases dQ:i=j
  ·subst dQ;simp at hu;subst hu;exact h 0 x rfl
  ·simp only [dQ,if_false] at hu;exact Oc tmps r (i+1) (λ k v hk=>by have:=h (k+1) v (by simpa using hk);rwa [show i+(k+1)=i+1+k by omega] at this) j u hu
def QO(tmps:Array Value):ResultVar->Sem Value
 | .tmp t=>pure (tmps.getD t undef)
 | .cell a t=>do loadVar t (<- asAddr (tmps.getD a undef))
theorem Ub{fr:Fr}{a:Act}(hg:BQ fr a):∀(rs:List ResultVar) (k:List Value->World->Prop) (w:World),AcB P fr rs k w ->
  ∃ vs,k vs w/\vs.length=rs.length/\(rs.mapM (QO a.tmps)).run P w=.ok vs w
 | [],k,w,h=>⟨[],h,rfl,Osi⟩
 | .tmp t :: r,k,w,h=>by
  obtain⟨v,hv,h⟩:=BI h;obtain⟨vs,hk,hl,hr⟩:=Ub hg r _ w h;refine⟨v :: vs,hk,by simp [hl],?_⟩;have:=hg _ _ hv;simp [QO,this,hr]
 | .cell ad t :: r,k,w,h=>by
  obtain⟨p,v,hh,hx,hk0,hholds,aG⟩:=Qg h;obtain⟨vs,hk,hl,hr⟩:=Ub hg r _ w hk0;refine⟨v :: vs,hk,by simp [hl],?_⟩;have h1:=hg _ _ hx;have h2:=aG w hholds;simp only [Instr.loadAt,Instr.sureAddr,Sem.run_bind,Sem.run_pure,Result.andThen_ok] at h2;simp [QO,h1,asAddr,h2,hr]
theorem YK{fn:Func}{tmps:Array Value}{vs:List Value}{w:World}(h:(fn.results.toList.mapM (QO tmps)).run P w=.ok vs w) :
  (results fn tmps).run P w=.ok (Fc vs) w:=by
 have e:results fn tmps=(do let vs <- fn.results.mapM (QO tmps);pure (if h:vs.size=1 then vs[0] else .tuple vs)):=by
  rfl
 rw [e];have h2:(fn.results.mapM (QO tmps)).run P w=.ok vs.toArray w:=by
  rw [Array.mapM_eq_mapM_toList];simp [h]
 simp only [Sem.run_bind,h2,Result.andThen_ok,Sem.run_pure];congr 1
 match vs with
 | []=>simp [Fc]
 | [v]=>simp [Fc]
 | _ :: _ :: _=>simp [Fc]
theorem Ka{fn:Func}{tmps:Array Value}{k:World->Prop}{R:Ending->World->Prop}(hk:∀ w,k w->∃ v,(results fn tmps).run P w=.ok v w/\R (.returned v) w) :
  ∀(ms:List Nat) (w:World),Ae1 ms k w->LeavesInM Fence.wide 0 P fn tmps R (marks ms) .returning w
 | [],w,h=>hk w h
 | d :: ds,w,h=>⟨Osi,.inl ⟨d,_,rfl,run_takeDeferred h.1,Ka hk ds _ h.2⟩⟩
theorem ZT(o6:P.follows .mixedOrders=true){f:FuncId}{args:List Value}{k:Value->World->Prop}{w:World}(h:Agi P L C f args k w) :
  Calls P f ⟨args⟩ w λ e w'=>∃ v,e=.returned v/\k v w':=by
 unfold Agi at h;split at h
 ·rename_i fn hf;split at h
  ·rename_i c hc;cases hl:Nat.ble args.length fn.ntmps with
   | false=>rw [hl] at h;exact h.elim
   | true =>
    rw [hl] at h;simp only [cond_true] at h;have hle:args.length<=fn.ntmps:=Nat.le_of_ble_eq_true hl;refine callsIn_wide.1 (callsIn_of_wp_marks (F:=Fence.wide) (n:=0) hf hc trivial ?_);have cU:BQ (SY 0 args) ⟨(⟨args⟩:Array Value)++Array.replicate (fn.ntmps-args.length) undef,[]⟩:=by
     refine Oc _ args 0 λ j v hj=>?_;have f':j<args.length:=(List.getElem?_eq_some_iff.1 hj).1;rw [Nat.zero_add,Array.getElem?_append_left (by simpa using f')];simpa using hj
    refine wpIn_mono (Ab2 (n:=fn.ntmps) o6 c none 0 _ (SY 0 args) [] w _ cU (by simp;omega) rfl h) ?_;have fin:∀(ag:Fr) (a':Act),BQ ag a'->∀ w',AcB P ag fn.results.toList (λ vs cQ=>k (Fc vs) cQ) w'->∃ v,(results fn a'.tmps).run P w'=.ok v w'/\∃ u,Ending.returned v=.returned u/\k u w':=by
     intro ag a' bD w' hk;obtain⟨vs,hk,_,hr⟩:=Ub bD _ _ _ hk;exact⟨_,YK hr,_,rfl,hk⟩
    rintro e a' w' ⟨aA,ag,aw,bD,dw,hk⟩;cases e with
    | normal =>
     show LeavesInM _ _ _ _ _ _ _ _ _;rw [dw];exact Ka (fin ag a' bD) aw w' hk
    | ret =>
     show LeavesInM _ _ _ _ _ _ _ _ _;rw [dw];exact Ka (fin ag a' bD) aw w' hk
    | _=>exact hk.elim
  ·exact h.elim
 ·exact h.elim
end
end Go.Dn
