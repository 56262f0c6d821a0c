/-
  Texts of this claim, laid one behind the other by a program of mine (install.py): Dn.Main.
-/
import Derived.Test.YtegnhfeclchlmaaGreatDoorM1
import Derived.Scope
import Derived.RangeFuncRecord
/-
  The reading of a whole function: what it asks suffices for the call.
-/
namespace Go.Dn
open _root_.Bool renaming and_eq_true -> Ai6
section
variable {P:Program}{n:Nat}{L C:Hints}
theorem St.refl{a:Act}{W:Nat->Bool}{nr:Bool}(hn:a.tmps.size=n):St n a W nr a:=⟨hn,λ _=>rfl,λ _ _=>rfl⟩
theorem St.trans{a b c:Act}{W W' V:Nat->Bool}{r r' q:Bool}(h:St n a W r b)(h':St n b W' r' c)(hv:∀ i,V i=false->W i=false/\W' i=false)(hq:q=true->r=true/\r'=true):St n a V q c :=
 ⟨h'.size,λ e=>(h'.defers (hq e).2).trans (h.defers (hq e).1),λ i hi=>(h'.same i (hv i hi).2).trans (h.same i (hv i hi).1)⟩
theorem St.weaken{a b:Act}{W V:Nat->Bool}{r q:Bool}(h:St n a W r b)(hv:∀ i,V i=false->W i=false)(hq:q=true->r=true):St n a V q b:=⟨h.size,λ e=>h.defers (hq e),λ i hi=>h.same i (hv i hi)⟩
theorem Tm{z:Value}{f:Value->Prop}(h:AeO z f){v:Value}(hl:FD z v=true):f v:=by
 cases z <;> first
  | exact h v
  | (cases v <;> first | (simp [FD] at hl;done) | exact h _ | exact h _ _ _ | (have:=E2 hl;subst this;exact h _) | (rename_i fn _ _;cases fn <;> first | (simp [FD] at hl;done) | exact h _ _ _))
theorem Tn:∀ {zs vs:List Value} {f:List Value->Prop},AeP zs f->E4 zs vs=true->f vs
 | [],[],_,h,_=>h
 | z :: zs,v :: vs,f,h,hl=>by
  simp only [E4,Ai6] at hl;exact Tn (f:=λ vs=>f (v :: vs)) (Tm h hl.1) hl.2
 | [],_ :: _,_,_,hl=>by simp [E4] at hl
 | _ :: _,[],_,_,hl=>by simp [E4] at hl
theorem Abk{z:Value}{f:Value->Prop}(h:AcR z f){v:Value}(hl:Jo z v=true):f v:=by
 unfold AcR at h;unfold Jo at hl;split at h
 ·rename_i zs;simp only at hl;split at hl
  ·rename_i vs;have:=Tn h hl;simpa using this
  ·cases hl
 ·rename_i aV;split at hl
  ·rename_i zs;exact absurd rfl (aV zs)
  ·exact Tm h hl
theorem Hc:∀ {zs vs:List Value} {f:List Value->Prop},Uv zs f->DY zs vs=true->f vs
 | [],[],_,h,_=>h
 | z :: zs,v :: vs,f,h,hl=>by
  simp only [DY,Ai6] at hl;exact Hc (f:=λ vs=>f (v :: vs)) (Abk h hl.1) hl.2
 | [],_ :: _,_,_,hl=>by simp [DY] at hl
 | _ :: _,[],_,_,hl=>by simp [DY] at hl
def Jp(a:Act):List (Nat × Value)->Option (List Value)
 | []=>some []
 | x :: r=>match a.tmps[x.1]?,Jp a r with
  | some v,some vs=>some (v :: vs)
  | _,_=>none
theorem TV{fr:Fr}{a:Act}(hg:AF fr a):∀ {BW:List (Nat × Value)} {s:List Value},MH fr BW=some s->Jp a BW=some s
 | [],s,h=>by simpa [MH,Jp] using h
 | x :: r,s,h=>by
  unfold MH at h;split at h
  ·rename_i v vs hv iq;simp at h;subst h;simp [Jp,hg _ _ hv,TV hg iq]
  ·cases h
theorem JQ{BW:List (Nat × Value)}{fr:Fr}{k:List Value->Prop}{a:Act}(hg:AF fr a)(h:ENT BW fr k):∃ s,Jp a BW=some s/\DY (BW.map (·.2)) s=true/\k s:=by
 unfold ENT at h;split at h
 ·rename_i s hs;cases hl:DY (BW.map (·.2)) s with
  | false=>rw [hl] at h;exact h.elim
  | true=>rw [hl] at h;exact⟨s,TV hg hs,hl,h⟩
 ·exact h.elim
theorem CJ{fr:Fr}{a a':Act}{c:Code}(hg:AF fr a)(fO:∀ i,writes i c=false->a'.tmps[i]?=a.tmps[i]?):∀ {keep:List Nat},Lg c keep=true->AF (H8 fr keep) a'
 | [],_=>by intro i v h;simp [H8,look] at h
 | i :: r,hk=>by
  have cG:writes i c=false/\Lg c r=true:=by simpa [Lg] using hk
  unfold H8;split
  ·rename_i v hv;intro j u hu;rw [Hs] at hu;by_cases cV:i=j
   ·subst cV;simp at hu;subst hu;rw [fO i cG.1];exact hg _ _ hv
   ·simp only [cV,if_false] at hu;exact CJ hg fO cG.2 j u hu
  ·exact CJ hg fO cG.2
theorem CY{a:Act}{rest:Fr}(hr:AF rest a):∀ {BW:List (Nat × Value)} {s:List Value},Jp a BW=some s->AF (GN BW s rest) a
 | [],s,_=>by simpa [GN] using hr
 | x :: r,s,h=>by
  unfold Jp at h;split at h
  ·rename_i v vs hv iq;simp at h;subst h;intro j u hu;simp only [GN] at hu;rw [Hs] at hu;by_cases cV:x.1=j
   ·subst cV;simp at hu;subst hu;exact hv
   ·simp only [cV,if_false] at hu;exact CY hr iq j u hu
  ·cases h
theorem V6{z:Value}{f:Value->Prop}(h:∀ v,f v):AeO z f:=by
 cases z <;> first | exact λ _=>h _ | exact λ _ _ _=>h _
theorem V7:∀ {zs:List Value} {f:List Value->Prop},(∀ vs,vs.length=zs.length->f vs)->AeP zs f
 | [],_,h=>h [] rfl
 | z :: zs,_,h=>V6 λ v=>V7 λ vs hl=>h (v :: vs) (by simp [hl])
theorem AcS{z:Value}{f:Value->Prop}(h:∀ v,f v):AcR z f:=by
 unfold AcR;split
 ·exact V7 λ _ _=>h _
 ·exact V6 h
theorem V8:∀ {zs:List Value} {f:List Value->Prop},(∀ vs,vs.length=zs.length->f vs)->Uv zs f
 | [],_,h=>h [] rfl
 | z :: zs,_,h=>AcS λ v=>V8 λ vs hl=>h (v :: vs) (by simp [hl])
theorem Aa5{j:Option Code}{f:Exit->Prop}:∀ {l:List (Option Code × Exit)},orJ j f l->∃ x∈l,j=x.1/\f x.2
 | [x],h=>⟨x,List.mem_cons_self,h⟩
 | x :: y :: r,h=>by
  rcases h with h | h
  ·exact⟨x,List.mem_cons_self,h⟩
  ·obtain⟨z,hz,h⟩:=Aa5 h;exact⟨z,List.mem_cons_of_mem _ hz,h⟩
theorem Xk{c:Code}{x:Option Code × Exit}(h:x∈Qc c):x=(none,.normal)\/x=(some .ret,.ret)\/∃ i,x=(some (.exit i),.exit i):=by
 unfold Qc at h;rcases List.mem_cons.1 h with h | h
 ·exact .inl h
 ·rcases List.mem_append.1 h with h | h
  ·cases hr:G3 c with
   | true=>rw [hr] at h;exact .inr (.inl (by simpa using h))
   | false=>rw [hr] at h;simp at h
  ·obtain⟨i,_,e⟩:=List.mem_map.1 h;exact .inr (.inr ⟨i,e.symm⟩)
theorem G8:∀(ps:List Nat) (vs:List Value) (fr:Fr) (t:Array Value),AF fr ⟨t,[]⟩->t.size=n ->
  AF (Gl n fr ps vs) ⟨(ps.zip vs).foldl (λ t x=>t.setIfInBounds x.1 x.2) t,[]⟩/\((ps.zip vs).foldl (λ t x=>t.setIfInBounds x.1 x.2) t).size=n
 | [],_,fr,t,h,hn=>by simpa [Gl] using ⟨h,hn⟩
 | _ :: _,[],fr,t,h,hn=>by simpa [Gl] using ⟨h,hn⟩
 | p :: ps,v :: vs,fr,t,h,hn=>by
  have:=G8 ps vs (put n fr (some p) v) (t.setIfInBounds p v) (h.put hn (some p) v) (by simpa using hn);simpa [Gl] using this
theorem XB:∀ {a b:List Nat},Rx a b=true->a=b
 | [],[],_=>rfl
 | x :: r,y :: s,h=>by
  simp only [Rx,Ai6] at h;rw [Nat.eq_of_beq_eq_true h.1,XB h.2]
 | [],_ :: _,h=>by simp [Rx] at h
 | _ :: _,[],h=>by simp [Rx] at h
theorem FE{w:World}{lo:Nat}{ro:Loop}(h:w.heap[lo]?=some (.loop ro))(fn:FuncId)(tmps:Array Value)(ps:Array Tmp)(assign body:Code) :
  (Instr.enterLoop fn tmps ps assign body (some lo)).run P w =
   .ok (w.heap.size,[]) (w.alloc (.loop { state:=.ready,pending:=none,fn,tmps,params:=ps,assign,body,defers:=ro.defers })):=by
 unfold Instr.enterLoop;simp only [Sem.run_bind,run_getLoop h,run_newObj_alloc,Result.andThen,Sem.run_pure]
section scope
variable {b:Frame}{a:Act}{k:List Item}{cs:List Frame}{w:World}{Q:Exit->Act->World->Prop}{F:Fence}{m:Nat}
theorem D1{c:Code}:step P (lone (b.atR a (.code (.scope c) :: k)) cs w)=.next (lone (b.atR a (.code c :: .inScope c :: k)) cs w) :=
 step_lone_go (by simp [stepG,stepG.exec,Frame.atR])
theorem Ti{c:Code}:step P (lone (b.atR a (.inScope c :: k)) cs w)=.next (lone (b.atR a k) cs w) :=
 step_lone_go (by simp [stepG,stepG.exec,Frame.atR])
theorem Sq{c:Code}(h:c.wpIn F m P (Exit.noGoto Q) a w):(Code.scope c).wpIn F m P Q a w:=by
 intro b k cs eo hb hr;have h0:(lone (b.atR a (.code (.scope c) :: k)) cs w).fenced P F:=fenced_calm hb hr rfl;obtain⟨e,a₁,w₁,hq,harr⟩:=h b (.inScope c :: k) cs eo hb hr;cases e with
 | normal=>exact⟨.normal,a₁,w₁,hq,.head h0 D1 (StepsIn.trans harr (.one (fenced_calm hb hr rfl) Ti))⟩
 | exit id =>
  have hx:exitTo id (.inScope c :: k)=exitTo id k:=by simp [exitTo]
  exact⟨.exit id,a₁,w₁,hq,λ k' hk=>.head h0 D1 (harr.1 k' (by rw [hx];exact hk)),
   λ bE hk=>let ⟨k₁,h1,h2⟩:=harr.2 bE (by rw [hx];exact hk);⟨k₁,h1,.head h0 D1 h2⟩⟩
 | goto l=>exact hq.elim
 | ret=>exact⟨_,a₁,w₁,hq,.of_steps (.one h0 D1) harr⟩
 | panic ch=>exact⟨_,a₁,w₁,hq,.of_steps (.one h0 D1) harr⟩
 | outgrown=>exact⟨_,a₁,w₁,hq,.of_steps (.one h0 D1) harr⟩
end scope
theorem TD(ax:P.follows .mixedOrders=true)(c:Code):∀(rd:Option Nat) (m:Nat) (K:Exit->Fr->List Nat->World->Prop) (fr:Fr) (ms:List Nat) (w:World) (a:Act),AF fr a->a.tmps.size=n->a.defers=marks ms ->
  den P n L C c rd K fr ms w->c.wpIn (FF rd) m P (Ac1 n a (λ i=>writes i c) (AH c) K) a w:=by
 induction c with
 | skip=>intro rd m K fr ms w a hg hn hd h;exact wpIn_skip ⟨.refl hn,fr,ms,hg,hd,h⟩
 | label l=>intro rd m K fr ms w a hg hn hd h;exact wpIn_label ⟨.refl hn,fr,ms,hg,hd,h⟩
 | exit id=>intro rd m K fr ms w a hg hn hd h;exact wpIn_exit ⟨.refl hn,fr,ms,hg,hd,h⟩
 | ret=>intro rd m K fr ms w a hg hn hd h;exact wpIn_ret ⟨.refl hn,fr,ms,hg,hd,h⟩
 | seq x y ihx ihy =>
  intro rd m K fr ms w a hg hn hd h;have hV:∀ i,writes i (Code.seq x y)=false->writes i x=false/\writes i y=false:=λ i hi=>by simpa [writes] using hi
  have hR:AH (Code.seq x y)=true->AH x=true/\AH y=true:=λ hi=>by simpa [AH] using hi
  unfold den at h;split at h
  ·refine wpIn_seq (wpIn_mono (ihx rd m _ fr ms w a hg hn hd h) ?_);rintro e a' w' ⟨aA,aG,aK,aS,bZ,hk⟩;cases e with
   | normal =>
    refine wpIn_mono (ihy rd m K aG aK w' a' aS aA.size bZ hk) ?_;rintro e2 a2 w2 ⟨bL,dt,eD,dG,fe,bB⟩;exact⟨aA.trans bL hV hR,dt,eD,dG,fe,bB⟩
   | _=>exact⟨aA.weaken (λ i hi=>(hV i hi).1) (λ hi=>(hR hi).1),aG,aK,aS,bZ,hk⟩
  ·rename_i hint hh;cases gJ:Lg x hint.keep with
   | false=>rw [gJ] at h;exact h.elim
   | true =>
    rw [gJ] at h;cases ig:AH x with
    | true =>
     rw [ig] at h;obtain⟨Y,hbefore,hbehind⟩:=h;refine wpIn_seq (wpIn_mono (ihx rd m _ fr ms w a hg hn hd hbefore) ?_);rintro e a' w' ⟨aA,aG,aK,aS,bZ,hk⟩;cases e with
     | normal =>
      obtain⟨s,hs,hl,hY⟩:=JQ aS hk;have cK:=Hc hbehind hl w' hY;have aO:=CY (CJ (keep:=hint.keep) hg aA.same gJ) hs;refine wpIn_mono (ihy rd m K _ ms w' a' aO aA.size ((aA.defers ig).trans hd) cK) ?_;rintro e2 a2 w2 ⟨bL,dt,eD,dG,fe,bB⟩;exact⟨aA.trans bL hV hR,dt,eD,dG,fe,bB⟩
     | _=>exact⟨aA.weaken (λ i hi=>(hV i hi).1) (λ hi=>(hR hi).1),aG,aK,aS,bZ,hk⟩
    | false =>
     rw [ig] at h;obtain⟨Y,hbefore,hbehind⟩:=h;refine wpIn_seq (wpIn_mono (ihx rd m _ fr ms w a hg hn hd hbefore) ?_);rintro e a' w' ⟨aA,aG,aK,aS,bZ,hk⟩;cases e with
     | normal =>
      obtain⟨s,hs,hl,hY⟩:=JQ aS hk;have cK:=Hc hbehind hl aK w' hY;have aO:=CY (CJ (keep:=hint.keep) hg aA.same gJ) hs;refine wpIn_mono (ihy rd m K _ aK w' a' aO aA.size bZ cK) ?_;rintro e2 a2 w2 ⟨bL,dt,eD,dG,fe,bB⟩;exact⟨aA.trans bL hV hR,dt,eD,dG,fe,bB⟩
     | _=>exact⟨aA.weaken (λ i hi=>(hV i hi).1) (λ hi=>(hR hi).1),aG,aK,aS,bZ,hk⟩
 | cond c x y ihx ihy =>
  intro rd m K fr ms w a hg hn hd h;have hV:∀ i,writes i (Code.cond c x y)=false->writes i x=false/\writes i y=false:=λ i hi=>by simpa [writes] using hi
  have hR:AH (Code.cond c x y)=true->AH x=true/\AH y=true:=λ hi=>by simpa [AH] using hi
  unfold den at h;split at h
  ·rename_i t ht;have hc:=hg.eval _ _ ht;have key:(t=true->∃ aG,AF aG a/\den P n L C x rd K aG ms w)/\(t=false->∃ aG,AF aG a/\den P n L C y rd K aG ms w):=by
    split at h
    ·rename_i i;have aO:=hg.again (show look fr i=some (.bool t) from ht);cases t with
     | true=>exact⟨λ _=>⟨_,aO,h⟩,by simp⟩
     | false=>exact⟨by simp,λ _=>⟨_,aO,h⟩⟩
    ·cases t with
     | true=>exact⟨λ _=>⟨_,hg,h⟩,by simp⟩
     | false=>exact⟨by simp,λ _=>⟨_,hg,h⟩⟩
   refine wpIn_cond_split hc (λ ht=>?_) (λ hf=>?_)
   ·obtain⟨aG,aS,h'⟩:=key.1 ht;refine wpIn_mono (ihx rd m K aG ms w a aS hn hd h') ?_;rintro e a' w' ⟨aA,r⟩;exact⟨aA.weaken (λ i hi=>(hV i hi).1) (λ hi=>(hR hi).1),r⟩
   ·obtain⟨aG,aS,h'⟩:=key.2 hf;refine wpIn_mono (ihy rd m K aG ms w a aS hn hd h') ?_;rintro e a' w' ⟨aA,r⟩;exact⟨aA.weaken (λ i hi=>(hV i hi).2) (λ hi=>(hR hi).2),r⟩
  ·exact h.elim
 | block id c ih =>
  intro rd m K fr ms w a hg hn hd h;unfold den at h;refine wpIn_block (wpIn_mono (ih rd m _ fr ms w a hg hn hd h) ?_);rintro e a' w' ⟨aA,aG,aK,aS,bZ,hk⟩;cases e with
  | exit j =>
   simp only [Exit.inBlock]
   replace hk:bif Nat.beq j id then K .normal aG aK w' else K (.exit j) aG aK w':=hk
   cases hb:Nat.beq j id with
   | true =>
    have cQ:j=id:=Nat.eq_of_beq_eq_true hb;rw [if_pos cQ];rw [hb] at hk;exact⟨aA,aG,aK,aS,bZ,hk⟩
   | false =>
    have cQ:¬ j=id:=λ he=>by subst he;simp at hb
    rw [if_neg cQ];rw [hb] at hk;exact⟨aA,aG,aK,aS,bZ,hk⟩
  | _=>exact⟨aA,aG,aK,aS,bZ,hk⟩
 | loop c ih =>
  intro rd m K fr ms w a hg hn hd h;unfold den at h;split at h
  ·exact h.elim
  ·rename_i hint hh;cases gJ:Lg c hint.keep with
   | false=>rw [gJ] at h;exact h.elim
   | true =>
    rw [gJ] at h;cases ig:AH c with
    | true =>
     rw [ig] at h;obtain⟨Inv,mu,hent,aC⟩:=h;refine wpIn_loop (λ a' w'=>St n a (λ i=>writes i c) (AH c) a'/\∃ s,Jp a' hint.BW=some s/\DY (hint.BW.map (·.2)) s=true/\Inv s w')
      (λ a' w'=>mu ((Jp a' hint.BW).getD []) w') ?_ ?_
     ·obtain⟨s,hs,hl,hi⟩:=JQ hg hent;exact⟨.refl hn,s,hs,hl,hi⟩
     ·rintro a' w' ⟨aA,s,hs,hl,hi⟩;have cK:=Hc aC hl w' hi;have aO:=CY (CJ (keep:=hint.keep) hg aA.same gJ) hs;refine wpIn_mono (ih rd m _ _ ms w' a' aO aA.size ((aA.defers ig).trans hd) cK) ?_;rintro e a2 w2 ⟨bL,dt,eD,dG,fe,bB⟩;have fQ:St n a (λ i=>writes i c) (AH c) a2:=aA.trans bL (λ i hi=>⟨hi,hi⟩) (λ hi=>⟨hi,hi⟩);cases e with
      | normal =>
       obtain⟨s2,fN,bC,iV,aB⟩:=JQ dG bB;exact⟨⟨fQ,s2,fN,bC,iV⟩,by simpa [hs,fN] using aB⟩
      | _=>exact⟨fQ,dt,eD,dG,fe,bB⟩
    | false =>
     rw [ig] at h;obtain⟨Inv,mu,hent,aC⟩:=h;refine wpIn_loop (λ a' w'=>St n a (λ i=>writes i c) (AH c) a'/\∃ s aK,Jp a' hint.BW=some s/\DY (hint.BW.map (·.2)) s=true/\a'.defers=marks aK/\Inv s aK w')
      (λ a' w'=>mu ((Jp a' hint.BW).getD []) w') ?_ ?_
     ·obtain⟨s,hs,hl,hi⟩:=JQ hg hent;exact⟨.refl hn,s,ms,hs,hl,hd,hi⟩
     ·rintro a' w' ⟨aA,s,aK,hs,hl,bZ,hi⟩;have cK:=Hc aC hl aK w' hi;have aO:=CY (CJ (keep:=hint.keep) hg aA.same gJ) hs;refine wpIn_mono (ih rd m _ _ aK w' a' aO aA.size bZ cK) ?_;rintro e a2 w2 ⟨bL,dt,eD,dG,fe,bB⟩;have fQ:St n a (λ i=>writes i c) (AH c) a2:=aA.trans bL (λ i hi=>⟨hi,hi⟩) (λ hi=>⟨hi,hi⟩);cases e with
      | normal =>
       obtain⟨s2,fN,bC,iV,aB⟩:=JQ dG bB;exact⟨⟨fQ,s2,eD,fN,bC,fe,iV⟩,by simpa [hs,fN] using aB⟩
      | _=>exact⟨fQ,dt,eD,dG,fe,bB⟩
 | region id ops draw =>
  intro rd m K fr ms w a hg hn hd h;have hQ:∀ a' w',Ac2 n a (λ i=>Bb i ops.toList) (λ aG w'=>K .normal aG ms w') a' w'->Ac1 n a (λ i=>writes i (Code.region id ops draw)) (AH (Code.region id ops draw)) K .normal a' w':=by
   rintro a' w' ⟨aA,aG,aS,hk⟩;exact⟨⟨aA.size,λ _=>aA.defers rfl,λ i hi=>aA.same i (by simpa [writes] using hi)⟩,aG,ms,aS,(aA.defers rfl).trans hd,hk⟩
  have hP:∀ a' ch w',St n a (λ i=>Bb i ops.toList) true a'->ZN (T9 C λ ch w'=>K (.panic ch) [] ms w') ch w'->Ac1 n a (λ i=>writes i (Code.region id ops draw)) (AH (Code.region id ops draw)) K (.panic ch) a' w':=by
   intro a' ch w' aA hk;refine⟨⟨aA.size,λ _=>aA.defers rfl,λ i hi=>aA.same i (by simpa [writes] using hi)⟩,[],ms,(by intro i v h;simp [look] at h),(aA.defers rfl).trans hd,?_⟩;unfold T9 at hk;split at hk
   ·exact hk.elim
   ·exact hk
  cases draw with
  | false =>
   refine wpIn_region (FY rd m hQ hP _ _ _ (.refl hn) ?_);have:=KV (P:=P) (kp:=T9 C λ ch w'=>K (.panic ch) [] ms w') (n:=n) (ops:=ops) (a0:=a) (K:=λ aG w'=>K .normal aG ms w') ops.toList 0 rfl fr w a hg (.refl hn) h;rw [List.range_eq_range'];rw [Array.length_toList] at this;exact this
  | true =>
   unfold den at h;cases dS:Region.noSelect ops with
   | false=>rw [dS] at h;exact h.elim
   | true =>
    rw [dS] at h;have:=WK (P:=P) (kp:=T9 C λ ch w'=>K (.panic ch) [] ms w') (n:=n) (ops:=ops) (a0:=a) dS (K:=λ aG w'=>K .normal aG ms w') ops.size _ [] fr w.drew a hg (.refl hn) GV.start (by simp) h;exact wpIn_region_any ax (FW rd m hQ hP _ _ _ _ _ (.refl hn) this)
 | scope c ih =>
  intro rd m K fr ms w a hg hn hd h;unfold den at h;refine Sq (wpIn_mono (ih rd m _ fr ms w a hg hn hd h) ?_);rintro e a' w' ⟨aA,aG,aK,aS,bZ,hk⟩;cases e with
  | goto l=>exact hk.elim
  | _=>exact⟨aA,aG,aK,aS,bZ,hk⟩
 | rangeFunc g ps x y ihx ihy =>
  intro rd m K fr ms w a hg hn hd h;unfold den at h;split at h
  ·exact h.elim
  ·rename_i hint hh;cases aZ:Rx (hint.BW.map (·.1)) ps.toList && AH x with
   | false=>rw [aZ] at h;exact h.elim
   | true =>
    rw [aZ] at h;simp only [Ai6] at aZ;have e7:=XB aZ.1;have cr:ps.size=(hint.BW.map (·.2)).length:=by rw [<- Array.length_toList,<- e7];simp
    obtain⟨f,fi,ca,hv,aY,hr⟩:=AcW h;have nB:=hg.eval _ _ hv;have round:∀(rr:Loop) (l:Nat),rr.state=.ready->rr.pending=none->rr.params=ps->rr.tmps=a.tmps->rr.assign=x->rr.body=y ->
      Uv (hint.BW.map (·.2)) λ vs=>∀(k:Bool->World->Prop) (w:World),w.heap[l]?=some (.loop rr)->den P n L C x (some l) (λ e dr _ w1=>match e with
       | .normal=>LQ rr l (λ w2=>den P n L C y (some l) (λ e _ _ w3=>match e with
        | .normal=>Bk rr l k none w3
        | .ret=>Bk rr l k (some .ret) w3
        | .exit i=>Bk rr l k (some (.exit i)) w3
        | _=>False) dr [] w2) w1
       | _=>False) (Gl n fr ps.toList vs) [] w->J3 P l ⟨vs⟩ k w:=by
     intro rr l aA bT ej sk has lM;refine V8 λ vs o7 k wx nw cK=>?_;have aU:(⟨vs⟩:Array Value).size=rr.params.size:=by rw [ej,cr];exact o7
     refine⟨_,_,_,_,run_yield nw aU,roundIn_of_wpIn (F:=Fence.wide) trivial ?_⟩;rw [ej,sk,has,lM];have ez:(ps.zip (⟨vs⟩:Array Value)).foldl (λ (t:Array Value) (x:Tmp × Value)=>t.setIfInBounds x.1 x.2) a.tmps=(ps.toList.zip vs).foldl (λ t x=>t.setIfInBounds x.1 x.2) a.tmps:=by
      rw [<- Array.foldl_toList];simp
     have aO:=G8 (n:=n) ps.toList vs fr a.tmps hg hn;rw [<- ez] at aO;refine wpIn_mono (ihx (some l) 0 _ _ [] wx _ aO.1 aO.2 rfl cK) ?_;rintro e a1 w1 ⟨fP,dr,oB,iR,uF,dz⟩;cases e with
     | normal =>
      obtain⟨iM,dz⟩:=dz;refine⟨_,run_beginRound iM aA,?_⟩;have mq:a1.defers=marks []:=fP.defers aZ.2;refine wpIn_mono (ihy (some l) 0 _ dr [] _ a1 iR fP.size mq dz) ?_;rintro e2 a2 w2 ⟨_,dt,eD,_,_,bB⟩;cases e2 with
      | normal=>exact⟨_,_,run_endRound none bB.1,true,rfl,bB.2⟩
      | ret=>exact⟨_,_,run_endRound (some .ret) bB.1,false,rfl,bB.2⟩
      | exit i=>exact⟨_,_,run_endRound (some (.exit i)) bB.1,false,rfl,bB.2⟩
      | _=>exact bB.elim
     | _=>exact dz.elim
    have post:∀(rr:Loop) (l:Nat) (aK:List Nat) (w3:World),LU rr l (λ j w'=>orJ j (λ e=>K e fr (aK++ms) w') (Qc y)) w3->∀ v,
      rangePost (FF rd) m P l (Ac1 n a (λ i=>writes i (Code.rangeFunc g ps x y)) (AH (Code.rangeFunc g ps x y)) K) { a with defers:=marks aK++a.defers } (.returned v) w3:=by
     rintro rr l aK w3 ⟨j,hj,hk⟩ v;have nR:(if j.isNone then LoopState.ready else .done)≠.busy:=by split <;> simp
     refine⟨_,_,run_endLoop hj nR,?_⟩;have hl:∀ {e w'},K e fr (aK++ms) w'->Ac1 n a (λ i=>writes i (Code.rangeFunc g ps x y)) (AH (Code.rangeFunc g ps x y)) K e { a with defers:=marks aK++a.defers } w':=by
      intro e w' hK;exact⟨⟨hn,λ h=>(by cases h),λ _ _=>rfl⟩,fr,aK++ms,hg,by simp [marks,hd],hK⟩
     obtain⟨z,hz,e1,e2⟩:=Aa5 hk;rcases Xk hz with rfl | rfl | ⟨i,rfl⟩
     ·subst e1;exact hl e2
     ·subst e1;exact wpIn_ret (hl e2)
     ·subst e1;exact wpIn_exit (hl e2)
    refine wpIn_rangeFunc λ fn _=>?_;have hinv:∀(l:Nat) (w1:World),(resolve a.eval (rangeCall g l) 0).run P w1=.ok { target:=.fn (.func f) ca,args:=fi++#[.func (.yield l) #[] #[]] } w1 /\
      (invoke (.fn (.func f) ca) (fi++#[.func (.yield l) #[] #[]])).run P w1=.ok (.enter f ⟨fi.toList++[.func (.yield l) #[] #[]]++ca.toList⟩) w1:=by
     intro l w1;constructor
     ·simp only [resolve,nB,Deferred.ofValue];simp [Act.eval]
     ·have ha:fi++#[.func (.yield l) #[] #[]]++ca=⟨fi.toList++[.func (.yield l) #[] #[]]++ca.toList⟩:=Array.ext' (by simp);simp only [invoke,KW aY,ha]
    cases rd with
    | none =>
     have hc:=hr _ rfl rfl (round { state:=.ready,pending:=none,fn,tmps:=a.tmps,params:=ps,assign:=x,body:=y,defers:=w.heap.size } (w.heap.size+1) rfl rfl rfl rfl rfl rfl);refine⟨_,_,_,_,_,f,_,_,run_enterLoop_outer _ _ _ _ _,(hinv _ _).1,λ _ _=>trivial,(hinv _ _).2,λ h=>(by cases h),?_⟩;refine CallsIn.mono (F:=FF none) (callsIn_wide.2 hc) ?_;rintro e w3 ⟨⟨v,rfl⟩,he⟩;exact post _ _ [w.heap.size] w3 he v
    | some lo =>
     obtain⟨⟨ro,eo⟩,hr⟩:=hr;have hc:=hr _ rfl rfl (round { state:=.ready,pending:=none,fn,tmps:=a.tmps,params:=ps,assign:=x,body:=y,defers:=ro.defers } w.heap.size rfl rfl rfl rfl rfl rfl);refine⟨_,_,_,_,_,f,_,_,FE eo _ _ _ _ _,(hinv _ _).1,λ _ _=>trivial,(hinv _ _).2,λ h=>(by cases h),?_⟩;have dN:=(callsIn_wide (n:=m-1)).2 hc;refine CallsIn.mono (F:=FF (some lo)) ⟨trivial,λ cs _=>dN.2 cs (Uy none _)⟩ ?_;rintro e w3 ⟨⟨v,rfl⟩,he⟩;exact post _ _ [] w3 he v
 | goto l=>intro rd m K fr ms w a hg hn hd h;exact h.elim
 | refuse s=>intro rd m K fr ms w a hg hn hd h;exact h.elim
theorem HJ(tmps:Array Value):∀(args:List Value) (i:Nat),(∀ j v,args[j]?=some v->tmps[i+j]?=some v)->AF (L9 i args) ⟨tmps,[]⟩
 | [],_,_=>by intro j v h;simp [L9,look] at h
 | x :: r,i,h=>by
  intro j u hu;simp only [L9] at hu;rw [Hs] at hu;by_cases cV:i=j
  ·subst cV;simp at hu;subst hu;exact h 0 x rfl
  ·simp only [cV,if_false] at hu;exact HJ tmps r (i+1) (λ k v hk=>by have:=h (k+1) v (by simpa using hk);rwa [show i+(k+1)=i+1+k by omega] at this) j u hu
def Ot(tmps:Array Value):ResultVar->Sem Value
 | .tmp t=>pure (tmps.getD t undef)
 | .cell a t=>do loadVar t (<- asAddr (tmps.getD a undef))
theorem M7{fr:Fr}{a:Act}(hg:AF fr a):∀(rs:List ResultVar) (k:List Value->World->Prop) (w:World),RR P fr rs k w ->
  ∃ vs,k vs w/\vs.length=rs.length/\(rs.mapM (Ot a.tmps)).run P w=.ok vs w
 | [],k,w,h=>⟨[],h,rfl,by simp⟩
 | .tmp t :: r,k,w,h=>by
  obtain⟨v,hv,h⟩:=AV h;obtain⟨vs,hk,hl,hr⟩:=M7 hg r _ w h;refine⟨v :: vs,hk,by simp [hl],?_⟩;have:=hg _ _ hv;simp [Ot,this,hr]
 | .cell ad t :: r,k,w,h=>by
  obtain⟨p,v,hh,hx,nI,hholds,aF⟩:=N6 h;obtain⟨vs,hk,hl,hr⟩:=M7 hg r _ w nI;refine⟨v :: vs,hk,by simp [hl],?_⟩;have h1:=hg _ _ hx;have h2:=aF w hholds;simp only [Instr.loadAt,Instr.sureAddr,Sem.run_bind,Sem.run_pure,Result.andThen_ok] at h2;simp [Ot,h1,asAddr,h2,hr]
theorem O8{fn:Func}{tmps:Array Value}{vs:List Value}{w:World}(h:(fn.results.toList.mapM (Ot tmps)).run P w=.ok vs w) :
  (results fn tmps).run P w=.ok (AU vs) w:=by
 have e:results fn tmps=(do let vs <- fn.results.mapM (Ot tmps);pure (if h:vs.size=1 then vs[0] else .tuple vs)):=by
  rfl
 rw [e];have h2:(fn.results.mapM (Ot tmps)).run P w=.ok vs.toArray w:=by
  rw [Array.mapM_eq_mapM_toList];simp [h]
 simp only [Sem.run_bind,h2,Result.andThen_ok,Sem.run_pure];congr 1
 match vs with
 | []=>simp [AU]
 | [v]=>simp [AU]
 | _ :: _ :: _=>simp [AU]
theorem EV{fn:Func}{tmps:Array Value}{k:World->Prop}{R:Ending->World->Prop}(hk:∀ w,k w->∃ v,(results fn tmps).run P w=.ok v w/\R (.returned v) w) :
  ∀(ms:List Nat) (w:World),Qz ms k w->LeavesInM Fence.wide 0 P fn tmps R (marks ms) .returning w
 | [],w,h=>hk w h
 | d :: ds,w,h=>⟨by simp,.inl ⟨d,_,rfl,run_takeDeferred h.1,EV hk ds _ h.2⟩⟩
theorem KU(ax:P.follows .mixedOrders=true){f:FuncId}{args:List Value}{k:Value->World->Prop}{w:World}(h:AgP P L C f args k w) :
  Calls P f ⟨args⟩ w λ e w'=>∃ v,e=.returned v/\k v w':=by
 unfold AgP at h;split at h
 ·rename_i fn hf;split at h
  ·rename_i c hc;cases hl:Nat.ble args.length fn.ntmps with
   | false=>rw [hl] at h;exact h.elim
   | true =>
    rw [hl] at h;simp only [cond_true] at h;have hle:args.length<=fn.ntmps:=Nat.le_of_ble_eq_true hl;refine callsIn_wide.1 (callsIn_of_wp_marks (F:=Fence.wide) (n:=0) hf hc trivial ?_);have aO:AF (L9 0 args) ⟨(⟨args⟩:Array Value)++Array.replicate (fn.ntmps-args.length) undef,[]⟩:=by
     refine HJ _ args 0 λ j v hj=>?_;have eZ:j<args.length:=(List.getElem?_eq_some_iff.1 hj).1;rw [Nat.zero_add,Array.getElem?_append_left (by simpa using eZ)];simpa using hj
    refine wpIn_mono (TD (n:=fn.ntmps) ax c none 0 _ (L9 0 args) [] w _ aO (by simp;omega) rfl h) ?_;have fin:∀(aG:Fr) (a':Act),AF aG a'->∀ w',RR P aG fn.results.toList (λ vs aR=>k (AU vs) aR) w'->∃ v,(results fn a'.tmps).run P w'=.ok v w'/\∃ u,Ending.returned v=.returned u/\k u w':=by
     intro aG a' aS w' hk;obtain⟨vs,hk,_,hr⟩:=M7 aS _ _ _ hk;exact⟨_,O8 hr,_,rfl,hk⟩
    rintro e a' w' ⟨aA,aG,aK,aS,bZ,hk⟩;cases e with
    | normal =>
     show LeavesInM _ _ _ _ _ _ _ _ _;rw [bZ];exact EV (fin aG a' aS) aK w' hk
    | ret =>
     show LeavesInM _ _ _ _ _ _ _ _ _;rw [bZ];exact EV (fin aG a' aS) aK w' hk
    | _=>exact hk.elim
  ·exact h.elim
 ·exact h.elim
end
end Go.Dn
