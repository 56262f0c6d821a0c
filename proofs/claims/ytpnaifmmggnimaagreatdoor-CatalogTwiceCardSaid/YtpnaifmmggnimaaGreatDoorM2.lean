/-
  Texts of this claim, laid one behind the other by a program of mine (install.py): Dn.Main.
-/
import Derived.Test.YtpnaifmmggnimaaGreatDoorM1
import Derived.Scope
import Derived.RangeFuncRecord
/-
  The reading of a whole function: what it asks suffices for the call.
-/
namespace Go.Dn
open _root_.Bool renaming and_eq_true -> AkM
section
variable {P:Program}{n:Nat}{L C:Hints}
theorem St.refl{a:Act}{W:Nat->Bool}{nr:Bool}(hn:a.tmps.size=n):St n a W nr a:=⟨hn,λ _=>rfl,λ _ _=>rfl⟩
theorem St.trans{a b c:Act}{W W' V:Nat->Bool}{r r' q:Bool}(h:St n a W r b)(h':St n b W' r' c)(hv:∀ i,V i=false->W i=false/\W' i=false)(hq:q=true->r=true/\r'=true):St n a V q c :=
 ⟨h'.size,λ e=>(h'.defers (hq e).2).trans (h.defers (hq e).1),λ i hi=>(h'.same i (hv i hi).2).trans (h.same i (hv i hi).1)⟩
theorem St.weaken{a b:Act}{W V:Nat->Bool}{r q:Bool}(h:St n a W r b)(hv:∀ i,V i=false->W i=false)(hq:q=true->r=true):St n a V q b:=⟨h.size,λ e=>h.defers (hq e),λ i hi=>h.same i (hv i hi)⟩
theorem WB{z:Value}{f:Value->Prop}(h:AhD z f){v:Value}(hl:Aaq z v=true):f v:=by
 cases z <;> first
  | exact h v
  | (cases v <;> first | (simp [Aaq] at hl;done) | exact h _ | exact h _ _ _ | (have:=LF hl;subst this;exact h _) | (rename_i fn _ _;cases fn <;> first | (simp [Aaq] at hl;done) | exact h _ _ _))
theorem WC:∀ {zs vs:List Value} {f:List Value->Prop},AhE zs f->Xb zs vs=true->f vs
 | [],[],_,h,_=>h
 | z :: zs,v :: vs,f,h,hl=>by
  simp only [Xb,AkM] at hl;exact WC (f:=λ vs=>f (v :: vs)) (WB h hl.1) hl.2
 | [],_ :: _,_,_,hl=>by simp [Xb] at hl
 | _ :: _,[],_,_,hl=>by simp [Xb] at hl
theorem Aea{z:Value}{f:Value->Prop}(h:AfI z f){v:Value}(hl:AgJ z v=true):f v:=by
 unfold AfI at h;unfold AgJ at hl;split at h
 ·rename_i zs;simp only at hl;split at hl
  ·rename_i vs;have:=WC h hl;simpa using this
  ·cases hl
 ·rename_i aQ;split at hl
  ·rename_i zs;exact absurd rfl (aQ zs)
  ·exact WB h hl
theorem I3:∀ {zs vs:List Value} {f:List Value->Prop},XJ zs f->Nt zs vs=true->f vs
 | [],[],_,h,_=>h
 | z :: zs,v :: vs,f,h,hl=>by
  simp only [Nt,AkM] at hl;exact I3 (f:=λ vs=>f (v :: vs)) (Aea h hl.1) hl.2
 | [],_ :: _,_,_,hl=>by simp [Nt] at hl
 | _ :: _,[],_,_,hl=>by simp [Nt] at hl
def LO(a:Act):List (Nat × Value)->Option (List Value)
 | []=>some []
 | x :: r=>match a.tmps[x.1]?,LO a r with
  | some v,some vs=>some (v :: vs)
  | _,_=>none
theorem Xc{fr:Fr}{a:Act}(hg:BS fr a):∀ {DU:List (Nat × Value)} {s:List Value},PG fr DU=some s->LO a DU=some s
 | [],s,h=>by simpa [PG,LO] using h
 | x :: r,s,h=>by
  unfold PG at h;split at h
  ·rename_i v vs hv qi;simp at h;subst h;simp [LO,hg _ _ hv,Xc hg qi]
  ·cases h
theorem Mt{DU:List (Nat × Value)}{fr:Fr}{k:List Value->Prop}{a:Act}(hg:BS fr a)(h:ENT DU fr k):∃ s,LO a DU=some s/\Nt (DU.map (·.2)) s=true/\k s:=by
 unfold ENT at h;split at h
 ·rename_i s hs;cases hl:Nt (DU.map (·.2)) s with
  | false=>rw [hl] at h;exact h.elim
  | true=>rw [hl] at h;exact⟨s,Xc hg hs,hl,h⟩
 ·exact h.elim
theorem Ek{fr:Fr}{a a':Act}{c:Code}(hg:BS fr a)(jf:∀ i,writes i c=false->a'.tmps[i]?=a.tmps[i]?):∀ {keep:List Nat},NW c keep=true->BS (JM fr keep) a'
 | [],_=>by intro i v h;simp [JM,look] at h
 | i :: r,hk=>by
  have dV:writes i c=false/\NW c r=true:=by simpa [NW] using hk
  unfold JM;split
  ·rename_i v hv;intro j u hu;rw [Je] at hu;by_cases dO:i=j
   ·subst dO;simp at hu;subst hu;rw [jf i dV.1];exact hg _ _ hv
   ·simp only [dO,if_false] at hu;exact Ek hg jf dV.2 j u hu
  ·exact Ek hg jf dV.2
theorem ED{a:Act}{rest:Fr}(hr:BS rest a):∀ {DU:List (Nat × Value)} {s:List Value},LO a DU=some s->BS (Ip DU s rest) a
 | [],s,_=>by simpa [Ip] using hr
 | x :: r,s,h=>by
  unfold LO at h;split at h
  ·rename_i v vs hv qi;simp at h;subst h;intro j u hu;simp only [Ip] at hu;rw [Je] at hu;by_cases dO:x.1=j
   ·subst dO;simp at hu;subst hu;exact hv
   ·simp only [dO,if_false] at hu;exact ED hr qi j u hu
  ·cases h
theorem Zj{z:Value}{f:Value->Prop}(h:∀ v,f v):AhD z f:=by
 cases z <;> first | exact λ _=>h _ | exact λ _ _ _=>h _
theorem Zk:∀ {zs:List Value} {f:List Value->Prop},(∀ vs,vs.length=zs.length->f vs)->AhE zs f
 | [],_,h=>h [] rfl
 | z :: zs,_,h=>Zj λ v=>Zk λ vs hl=>h (v :: vs) (by simp [hl])
theorem AfJ{z:Value}{f:Value->Prop}(h:∀ v,f v):AfI z f:=by
 unfold AfI;split
 ·exact Zk λ _ _=>h _
 ·exact Zj h
theorem Zl:∀ {zs:List Value} {f:List Value->Prop},(∀ vs,vs.length=zs.length->f vs)->XJ zs f
 | [],_,h=>h [] rfl
 | z :: zs,_,h=>AfJ λ v=>Zl λ vs hl=>h (v :: vs) (by simp [hl])
theorem AdO{j:Option Code}{f:Exit->Prop}:∀ {l:List (Option Code × Exit)},orJ j f l->∃ x∈l,j=x.1/\f x.2
 | [x],h=>⟨x,List.mem_cons_self,h⟩
 | x :: y :: r,h=>by
  rcases h with h | h
  ·exact⟨x,List.mem_cons_self,h⟩
  ·obtain⟨z,hz,h⟩:=AdO h;exact⟨z,List.mem_cons_of_mem _ hz,h⟩
theorem Aaj{c:Code}{x:Option Code × Exit}(h:x∈T0 c):x=(none,.normal)\/x=(some .ret,.ret)\/∃ i,x=(some (.exit i),.exit i):=by
 unfold T0 at h;rcases List.mem_cons.1 h with h | h
 ·exact .inl h
 ·rcases List.mem_append.1 h with h | h
  ·cases hr:IG c with
   | true=>rw [hr] at h;exact .inr (.inl (by simpa using h))
   | false=>rw [hr] at h;simp at h
  ·obtain⟨i,_,e⟩:=List.mem_map.1 h;exact .inr (.inr ⟨i,e.symm⟩)
theorem Nu:∀(ps:List Nat) (vs:List Value) (fr:Fr) (t:Array Value),BS fr ⟨t,[]⟩->t.size=n ->
  BS (Oc n fr ps vs) ⟨(ps.zip vs).foldl (λ t x=>t.setIfInBounds x.1 x.2) t,[]⟩/\((ps.zip vs).foldl (λ t x=>t.setIfInBounds x.1 x.2) t).size=n
 | [],_,fr,t,h,hn=>by simpa [Oc] using ⟨h,hn⟩
 | _ :: _,[],fr,t,h,hn=>by simpa [Oc] using ⟨h,hn⟩
 | p :: ps,v :: vs,fr,t,h,hn=>by
  have:=Nu ps vs (put n fr (some p) v) (t.setIfInBounds p v) (h.put hn (some p) v) (by simpa using hn);simpa [Oc] using this
theorem Aau:∀ {a b:List Nat},U4 a b=true->a=b
 | [],[],_=>rfl
 | x :: r,y :: s,h=>by
  simp only [U4,AkM] at h;rw [Nat.eq_of_beq_eq_true h.1,Aau h.2]
 | [],_ :: _,h=>by simp [U4] at h
 | _ :: _,[],h=>by simp [U4] at h
theorem M1{w:World}{lo:Nat}{ro:Loop}(h:w.heap[lo]?=some (.loop ro))(fn:FuncId)(tmps:Array Value)(ps:Array Tmp)(assign body:Code) :
  (Instr.enterLoop fn tmps ps assign body (some lo)).run P w =
   .ok (w.heap.size,[]) (w.alloc (.loop { state:=.ready,pending:=none,fn,tmps,params:=ps,assign,body,defers:=ro.defers })):=by
 unfold Instr.enterLoop;simp only [Sem.run_bind,run_getLoop h,run_newObj_alloc,Result.andThen,Sem.run_pure]
section scope
variable {b:Frame}{a:Act}{k:List Item}{cs:List Frame}{w:World}{Q:Exit->Act->World->Prop}{F:Fence}{m:Nat}
theorem FI{c:Code}:step P (lone (b.atR a (.code (.scope c) :: k)) cs w)=.next (lone (b.atR a (.code c :: .inScope c :: k)) cs w) :=
 step_lone_go (by simp [stepG,stepG.exec,Frame.atR])
theorem Ww{c:Code}:step P (lone (b.atR a (.inScope c :: k)) cs w)=.next (lone (b.atR a k) cs w) :=
 step_lone_go (by simp [stepG,stepG.exec,Frame.atR])
theorem Adl{c:Code}(h:c.wpIn F m P (Exit.noGoto Q) a w):(Code.scope c).wpIn F m P Q a w:=by
 intro b k cs wb hb hr;have h0:(lone (b.atR a (.code (.scope c) :: k)) cs w).fenced P F:=fenced_calm hb hr rfl;obtain⟨e,a₁,w₁,hq,harr⟩:=h b (.inScope c :: k) cs wb hb hr;cases e with
 | normal=>exact⟨.normal,a₁,w₁,hq,.head h0 FI (StepsIn.trans harr (.one (fenced_calm hb hr rfl) Ww))⟩
 | exit id =>
  have hx:exitTo id (.inScope c :: k)=exitTo id k:=by simp [exitTo]
  exact⟨.exit id,a₁,w₁,hq,λ k' hk=>.head h0 FI (harr.1 k' (by rw [hx];exact hk)),
   λ gK hk=>let ⟨k₁,h1,h2⟩:=harr.2 gK (by rw [hx];exact hk);⟨k₁,h1,.head h0 FI h2⟩⟩
 | goto l=>exact hq.elim
 | ret=>exact⟨_,a₁,w₁,hq,.of_steps (.one h0 FI) harr⟩
 | panic ch=>exact⟨_,a₁,w₁,hq,.of_steps (.one h0 FI) harr⟩
 | outgrown=>exact⟨_,a₁,w₁,hq,.of_steps (.one h0 FI) harr⟩
end scope
theorem AeC(nQ:P.follows .mixedOrders=true)(c:Code):∀(rd:Option Nat) (m:Nat) (K:Exit->Fr->List Nat->World->Prop) (fr:Fr) (ms:List Nat) (w:World) (a:Act),BS fr a->a.tmps.size=n->a.defers=marks ms ->
  den P n L C c rd K fr ms w->c.wpIn (FF rd) m P (AfT n a (λ i=>writes i c) (Bl c) K) a w:=by
 induction c with
 | skip=>intro rd m K fr ms w a hg hn hd h;exact wpIn_skip ⟨.refl hn,fr,ms,hg,hd,h⟩
 | label l=>intro rd m K fr ms w a hg hn hd h;exact wpIn_label ⟨.refl hn,fr,ms,hg,hd,h⟩
 | exit id=>intro rd m K fr ms w a hg hn hd h;exact wpIn_exit ⟨.refl hn,fr,ms,hg,hd,h⟩
 | ret=>intro rd m K fr ms w a hg hn hd h;exact wpIn_ret ⟨.refl hn,fr,ms,hg,hd,h⟩
 | seq x y ihx ihy =>
  intro rd m K fr ms w a hg hn hd h;have hV:∀ i,writes i (Code.seq x y)=false->writes i x=false/\writes i y=false:=λ i hi=>by simpa [writes] using hi
  have hR:Bl (Code.seq x y)=true->Bl x=true/\Bl y=true:=λ hi=>by simpa [Bl] using hi
  unfold den at h;split at h
  ·refine wpIn_seq (wpIn_mono (ihx rd m _ fr ms w a hg hn hd h) ?_);rintro e a' w' ⟨aA,af,av,bC,fA,hk⟩;cases e with
   | normal =>
    refine wpIn_mono (ihy rd m K af av w' a' bC aA.size fA hk) ?_;rintro e2 a2 w2 ⟨eT,jv,jm,eP,fh,bA⟩;exact⟨aA.trans eT hV hR,jv,jm,eP,fh,bA⟩
   | _=>exact⟨aA.weaken (λ i hi=>(hV i hi).1) (λ hi=>(hR hi).1),af,av,bC,fA,hk⟩
  ·rename_i hint hh;cases iC:NW x hint.keep with
   | false=>rw [iC] at h;exact h.elim
   | true =>
    rw [iC] at h;cases nV:Bl x with
    | true =>
     rw [nV] at h;obtain⟨Y,hbefore,hbehind⟩:=h;refine wpIn_seq (wpIn_mono (ihx rd m _ fr ms w a hg hn hd hbefore) ?_);rintro e a' w' ⟨aA,af,av,bC,fA,hk⟩;cases e with
     | normal =>
      obtain⟨s,hs,hl,hY⟩:=Mt bC hk;have eO:=I3 hbehind hl w' hY;have cR:=ED (Ek (keep:=hint.keep) hg aA.same iC) hs;refine wpIn_mono (ihy rd m K _ ms w' a' cR aA.size ((aA.defers nV).trans hd) eO) ?_;rintro e2 a2 w2 ⟨eT,jv,jm,eP,fh,bA⟩;exact⟨aA.trans eT hV hR,jv,jm,eP,fh,bA⟩
     | _=>exact⟨aA.weaken (λ i hi=>(hV i hi).1) (λ hi=>(hR hi).1),af,av,bC,fA,hk⟩
    | false =>
     rw [nV] at h;obtain⟨Y,hbefore,hbehind⟩:=h;refine wpIn_seq (wpIn_mono (ihx rd m _ fr ms w a hg hn hd hbefore) ?_);rintro e a' w' ⟨aA,af,av,bC,fA,hk⟩;cases e with
     | normal =>
      obtain⟨s,hs,hl,hY⟩:=Mt bC hk;have eO:=I3 hbehind hl av w' hY;have cR:=ED (Ek (keep:=hint.keep) hg aA.same iC) hs;refine wpIn_mono (ihy rd m K _ av w' a' cR aA.size fA eO) ?_;rintro e2 a2 w2 ⟨eT,jv,jm,eP,fh,bA⟩;exact⟨aA.trans eT hV hR,jv,jm,eP,fh,bA⟩
     | _=>exact⟨aA.weaken (λ i hi=>(hV i hi).1) (λ hi=>(hR hi).1),af,av,bC,fA,hk⟩
 | cond c x y ihx ihy =>
  intro rd m K fr ms w a hg hn hd h;have hV:∀ i,writes i (Code.cond c x y)=false->writes i x=false/\writes i y=false:=λ i hi=>by simpa [writes] using hi
  have hR:Bl (Code.cond c x y)=true->Bl x=true/\Bl y=true:=λ hi=>by simpa [Bl] using hi
  unfold den at h;split at h
  ·rename_i t ht;have hc:=hg.eval _ _ ht;have key:(t=true->∃ af,BS af a/\den P n L C x rd K af ms w)/\(t=false->∃ af,BS af a/\den P n L C y rd K af ms w):=by
    split at h
    ·rename_i i;have cR:=hg.again (show look fr i=some (.bool t) from ht);cases t with
     | true=>exact⟨λ _=>⟨_,cR,h⟩,by simp⟩
     | false=>exact⟨by simp,λ _=>⟨_,cR,h⟩⟩
    ·cases t with
     | true=>exact⟨λ _=>⟨_,hg,h⟩,by simp⟩
     | false=>exact⟨by simp,λ _=>⟨_,hg,h⟩⟩
   refine wpIn_cond_split hc (λ ht=>?_) (λ hf=>?_)
   ·obtain⟨af,bC,h'⟩:=key.1 ht;refine wpIn_mono (ihx rd m K af ms w a bC hn hd h') ?_;rintro e a' w' ⟨aA,r⟩;exact⟨aA.weaken (λ i hi=>(hV i hi).1) (λ hi=>(hR hi).1),r⟩
   ·obtain⟨af,bC,h'⟩:=key.2 hf;refine wpIn_mono (ihy rd m K af ms w a bC hn hd h') ?_;rintro e a' w' ⟨aA,r⟩;exact⟨aA.weaken (λ i hi=>(hV i hi).2) (λ hi=>(hR hi).2),r⟩
  ·exact h.elim
 | block id c ih =>
  intro rd m K fr ms w a hg hn hd h;unfold den at h;refine wpIn_block (wpIn_mono (ih rd m _ fr ms w a hg hn hd h) ?_);rintro e a' w' ⟨aA,af,av,bC,fA,hk⟩;cases e with
  | exit j =>
   simp only [Exit.inBlock]
   replace hk:bif Nat.beq j id then K .normal af av w' else K (.exit j) af av w':=hk
   cases hb:Nat.beq j id with
   | true =>
    have dU:j=id:=Nat.eq_of_beq_eq_true hb;rw [if_pos dU];rw [hb] at hk;exact⟨aA,af,av,bC,fA,hk⟩
   | false =>
    have dU:¬ j=id:=λ he=>by subst he;simp at hb
    rw [if_neg dU];rw [hb] at hk;exact⟨aA,af,av,bC,fA,hk⟩
  | _=>exact⟨aA,af,av,bC,fA,hk⟩
 | loop c ih =>
  intro rd m K fr ms w a hg hn hd h;unfold den at h;split at h
  ·exact h.elim
  ·rename_i hint hh;cases iC:NW c hint.keep with
   | false=>rw [iC] at h;exact h.elim
   | true =>
    rw [iC] at h;cases nV:Bl c with
    | true =>
     rw [nV] at h;obtain⟨Inv,mu,hent,aF⟩:=h;refine wpIn_loop (λ a' w'=>St n a (λ i=>writes i c) (Bl c) a'/\∃ s,LO a' hint.DU=some s/\Nt (hint.DU.map (·.2)) s=true/\Inv s w')
      (λ a' w'=>mu ((LO a' hint.DU).getD []) w') ?_ ?_
     ·obtain⟨s,hs,hl,hi⟩:=Mt hg hent;exact⟨.refl hn,s,hs,hl,hi⟩
     ·rintro a' w' ⟨aA,s,hs,hl,hi⟩;have eO:=I3 aF hl w' hi;have cR:=ED (Ek (keep:=hint.keep) hg aA.same iC) hs;refine wpIn_mono (ih rd m _ _ ms w' a' cR aA.size ((aA.defers nV).trans hd) eO) ?_;rintro e a2 w2 ⟨eT,jv,jm,eP,fh,bA⟩;have ji:St n a (λ i=>writes i c) (Bl c) a2:=aA.trans eT (λ i hi=>⟨hi,hi⟩) (λ hi=>⟨hi,hi⟩);cases e with
      | normal =>
       obtain⟨s2,eJ,ax,hi2,aB⟩:=Mt eP bA;exact⟨⟨ji,s2,eJ,ax,hi2⟩,by simpa [hs,eJ] using aB⟩
      | _=>exact⟨ji,jv,jm,eP,fh,bA⟩
    | false =>
     rw [nV] at h;obtain⟨Inv,mu,hent,aF⟩:=h;refine wpIn_loop (λ a' w'=>St n a (λ i=>writes i c) (Bl c) a'/\∃ s av,LO a' hint.DU=some s/\Nt (hint.DU.map (·.2)) s=true/\a'.defers=marks av/\Inv s av w')
      (λ a' w'=>mu ((LO a' hint.DU).getD []) w') ?_ ?_
     ·obtain⟨s,hs,hl,hi⟩:=Mt hg hent;exact⟨.refl hn,s,ms,hs,hl,hd,hi⟩
     ·rintro a' w' ⟨aA,s,av,hs,hl,fA,hi⟩;have eO:=I3 aF hl av w' hi;have cR:=ED (Ek (keep:=hint.keep) hg aA.same iC) hs;refine wpIn_mono (ih rd m _ _ av w' a' cR aA.size fA eO) ?_;rintro e a2 w2 ⟨eT,jv,jm,eP,fh,bA⟩;have ji:St n a (λ i=>writes i c) (Bl c) a2:=aA.trans eT (λ i hi=>⟨hi,hi⟩) (λ hi=>⟨hi,hi⟩);cases e with
      | normal =>
       obtain⟨s2,eJ,ax,hi2,aB⟩:=Mt eP bA;exact⟨⟨ji,s2,jm,eJ,ax,fh,hi2⟩,by simpa [hs,eJ] using aB⟩
      | _=>exact⟨ji,jv,jm,eP,fh,bA⟩
 | region id ops draw =>
  intro rd m K fr ms w a hg hn hd h;have hQ:∀ a' w',AfU n a (λ i=>CH i ops.toList) (λ af w'=>K .normal af ms w') a' w'->AfT n a (λ i=>writes i (Code.region id ops draw)) (Bl (Code.region id ops draw)) K .normal a' w':=by
   rintro a' w' ⟨aA,af,bC,hk⟩;exact⟨⟨aA.size,λ _=>aA.defers rfl,λ i hi=>aA.same i (by simpa [writes] using hi)⟩,af,ms,bC,(aA.defers rfl).trans hd,hk⟩
  have hP:∀ a' ch w',St n a (λ i=>CH i ops.toList) true a'->AcD (Xg C λ ch w'=>K (.panic ch) [] ms w') ch w'->AfT n a (λ i=>writes i (Code.region id ops draw)) (Bl (Code.region id ops draw)) K (.panic ch) a' w':=by
   intro a' ch w' aA hk;refine⟨⟨aA.size,λ _=>aA.defers rfl,λ i hi=>aA.same i (by simpa [writes] using hi)⟩,[],ms,(by intro i v h;simp [look] at h),(aA.defers rfl).trans hd,?_⟩;unfold Xg at hk;split at hk
   ·exact hk.elim
   ·exact hk
  cases draw with
  | false =>
   refine wpIn_region (Hu rd m hQ hP _ _ _ (.refl hn) ?_);have:=NQ (P:=P) (kp:=Xg C λ ch w'=>K (.panic ch) [] ms w') (n:=n) (ops:=ops) (a0:=a) (K:=λ af w'=>K .normal af ms w') ops.toList 0 rfl fr w a hg (.refl hn) h;rw [List.range_eq_range'];rw [Array.length_toList] at this;exact this
  | true =>
   unfold den at h;cases bT:Region.noSelect ops with
   | false=>rw [bT] at h;exact h.elim
   | true =>
    rw [bT] at h;have:=ZV (P:=P) (kp:=Xg C λ ch w'=>K (.panic ch) [] ms w') (n:=n) (ops:=ops) (a0:=a) bT (K:=λ af w'=>K .normal af ms w') ops.size _ [] fr w.drew a hg (.refl hn) Iz.start (by simp) h;exact wpIn_region_any nQ (Hs rd m hQ hP _ _ _ _ _ (.refl hn) this)
 | scope c ih =>
  intro rd m K fr ms w a hg hn hd h;unfold den at h;refine Adl (wpIn_mono (ih rd m _ fr ms w a hg hn hd h) ?_);rintro e a' w' ⟨aA,af,av,bC,fA,hk⟩;cases e with
  | goto l=>exact hk.elim
  | _=>exact⟨aA,af,av,bC,fA,hk⟩
 | rangeFunc g ps x y ihx ihy =>
  intro rd m K fr ms w a hg hn hd h;unfold den at h;split at h
  ·exact h.elim
  ·rename_i hint hh;cases aK:U4 (hint.DU.map (·.1)) ps.toList && Bl x with
   | false=>rw [aK] at h;exact h.elim
   | true =>
    rw [aK] at h;simp only [AkM] at aK;have dz:=Aau aK.1;have bM:ps.size=(hint.DU.map (·.2)).length:=by rw [<- Array.length_toList,<- dz];simp
    obtain⟨f,fi,ca,hv,mr,hr⟩:=AfO h;have vL:=hg.eval _ _ hv;have round:∀(rr:Loop) (l:Nat),rr.state=.ready->rr.pending=none->rr.params=ps->rr.tmps=a.tmps->rr.assign=x->rr.body=y ->
      XJ (hint.DU.map (·.2)) λ vs=>∀(k:Bool->World->Prop) (w:World),w.heap[l]?=some (.loop rr)->den P n L C x (some l) (λ e pJ _ w1=>match e with
       | .normal=>QG rr l (λ w2=>den P n L C y (some l) (λ e _ _ w3=>match e with
        | .normal=>Gb rr l k none w3
        | .ret=>Gb rr l k (some .ret) w3
        | .exit i=>Gb rr l k (some (.exit i)) w3
        | _=>False) pJ [] w2) w1
       | _=>False) (Oc n fr ps.toList vs) [] w->O8 P l ⟨vs⟩ k w:=by
     intro rr l aA dW yU gn has fO;refine Zl λ vs iI k wx wa eO=>?_;have aw:(⟨vs⟩:Array Value).size=rr.params.size:=by rw [yU,bM];exact iI
     refine⟨_,_,_,_,run_yield wa aw,roundIn_of_wpIn (F:=Fence.wide) trivial ?_⟩;rw [yU,gn,has,fO];have ez:(ps.zip (⟨vs⟩:Array Value)).foldl (λ (t:Array Value) (x:Tmp × Value)=>t.setIfInBounds x.1 x.2) a.tmps=(ps.toList.zip vs).foldl (λ t x=>t.setIfInBounds x.1 x.2) a.tmps:=by
      rw [<- Array.foldl_toList];simp
     have cR:=Nu (n:=n) ps.toList vs fr a.tmps hg hn;rw [<- ez] at cR;refine wpIn_mono (ihx (some l) 0 _ _ [] wx _ cR.1 cR.2 rfl eO) ?_;rintro e a1 w1 ⟨jh,pJ,ms1,jQ,jL,cg⟩;cases e with
     | normal =>
      obtain⟨cI,cg⟩:=cg;refine⟨_,run_beginRound cI aA,?_⟩;have ux:a1.defers=marks []:=jh.defers aK.2;refine wpIn_mono (ihy (some l) 0 _ pJ [] _ a1 jQ jh.size ux cg) ?_;rintro e2 a2 w2 ⟨_,jv,jm,_,_,bA⟩;cases e2 with
      | normal=>exact⟨_,_,run_endRound none bA.1,true,rfl,bA.2⟩
      | ret=>exact⟨_,_,run_endRound (some .ret) bA.1,false,rfl,bA.2⟩
      | exit i=>exact⟨_,_,run_endRound (some (.exit i)) bA.1,false,rfl,bA.2⟩
      | _=>exact bA.elim
     | _=>exact cg.elim
    have post:∀(rr:Loop) (l:Nat) (av:List Nat) (w3:World),QJ rr l (λ j w'=>orJ j (λ e=>K e fr (av++ms) w') (T0 y)) w3->∀ v,
      rangePost (FF rd) m P l (AfT n a (λ i=>writes i (Code.rangeFunc g ps x y)) (Bl (Code.rangeFunc g ps x y)) K) { a with defers:=marks av++a.defers } (.returned v) w3:=by
     rintro rr l av w3 ⟨j,hj,hk⟩ v;have nT:(if j.isNone then LoopState.ready else .done)≠.busy:=by split <;> simp
     refine⟨_,_,run_endLoop hj nT,?_⟩;have hl:∀ {e w'},K e fr (av++ms) w'->AfT n a (λ i=>writes i (Code.rangeFunc g ps x y)) (Bl (Code.rangeFunc g ps x y)) K e { a with defers:=marks av++a.defers } w':=by
      intro e w' hK;exact⟨⟨hn,λ h=>(by cases h),λ _ _=>rfl⟩,fr,av++ms,hg,by simp [marks,hd],hK⟩
     obtain⟨z,hz,e1,e2⟩:=AdO hk;rcases Aaj hz with rfl | rfl | ⟨i,rfl⟩
     ·subst e1;exact hl e2
     ·subst e1;exact wpIn_ret (hl e2)
     ·subst e1;exact wpIn_exit (hl e2)
    refine wpIn_rangeFunc λ fn _=>?_;have hinv:∀(l:Nat) (w1:World),(resolve a.eval (rangeCall g l) 0).run P w1=.ok { target:=.fn (.func f) ca,args:=fi++#[.func (.yield l) #[] #[]] } w1 /\
      (invoke (.fn (.func f) ca) (fi++#[.func (.yield l) #[] #[]])).run P w1=.ok (.enter f ⟨fi.toList++[.func (.yield l) #[] #[]]++ca.toList⟩) w1:=by
     intro l w1;constructor
     ·simp only [resolve,vL,Deferred.ofValue];simp [Act.eval]
     ·have ha:fi++#[.func (.yield l) #[] #[]]++ca=⟨fi.toList++[.func (.yield l) #[] #[]]++ca.toList⟩:=Array.ext' (by simp);simp only [invoke,UD mr,ha]
    cases rd with
    | none =>
     have hc:=hr _ rfl rfl (round { state:=.ready,pending:=none,fn,tmps:=a.tmps,params:=ps,assign:=x,body:=y,defers:=w.heap.size } (w.heap.size+1) rfl rfl rfl rfl rfl rfl);refine⟨_,_,_,_,_,f,_,_,run_enterLoop_outer _ _ _ _ _,(hinv _ _).1,λ _ _=>trivial,(hinv _ _).2,λ h=>(by cases h),?_⟩;refine CallsIn.mono (F:=FF none) (callsIn_wide.2 hc) ?_;rintro e w3 ⟨⟨v,rfl⟩,he⟩;exact post _ _ [w.heap.size] w3 he v
    | some lo =>
     obtain⟨⟨ro,wb⟩,hr⟩:=hr;have hc:=hr _ rfl rfl (round { state:=.ready,pending:=none,fn,tmps:=a.tmps,params:=ps,assign:=x,body:=y,defers:=ro.defers } w.heap.size rfl rfl rfl rfl rfl rfl);refine⟨_,_,_,_,_,f,_,_,M1 wb _ _ _ _ _,(hinv _ _).1,λ _ _=>trivial,(hinv _ _).2,λ h=>(by cases h),?_⟩;have cG:=(callsIn_wide (n:=m-1)).2 hc;refine CallsIn.mono (F:=FF (some lo)) ⟨trivial,λ cs _=>cG.2 cs (Adq none _)⟩ ?_;rintro e w3 ⟨⟨v,rfl⟩,he⟩;exact post _ _ [] w3 he v
 | goto l=>intro rd m K fr ms w a hg hn hd h;exact h.elim
 | refuse s=>intro rd m K fr ms w a hg hn hd h;exact h.elim
theorem Pc(tmps:Array Value):∀(args:List Value) (i:Nat),(∀ j v,args[j]?=some v->tmps[i+j]?=some v)->BS (Uj i args) ⟨tmps,[]⟩
 | [],_,_=>by intro j v h;simp [Uj,look] at h
 | x :: r,i,h=>by
  intro j u hu;simp only [Uj] at hu;rw [Je] at hu;by_cases dO:i=j
  ·subst dO;simp at hu;subst hu;exact h 0 x rfl
  ·simp only [dO,if_false] at hu;exact Pc tmps r (i+1) (λ k v hk=>by have:=h (k+1) v (by simpa using hk);rwa [show i+(k+1)=i+1+k by omega] at this) j u hu
def RT(tmps:Array Value):ResultVar->Sem Value
 | .tmp t=>pure (tmps.getD t undef)
 | .cell a t=>do loadVar t (<- asAddr (tmps.getD a undef))
theorem Vk{fr:Fr}{a:Act}(hg:BS fr a):∀(rs:List ResultVar) (k:List Value->World->Prop) (w:World),Afm P fr rs k w ->
  ∃ vs,k vs w/\vs.length=rs.length/\(rs.mapM (RT a.tmps)).run P w=.ok vs w
 | [],k,w,h=>⟨[],h,rfl,by simp⟩
 | .tmp t :: r,k,w,h=>by
  obtain⟨v,hv,h⟩:=BG h;obtain⟨vs,hk,hl,hr⟩:=Vk hg r _ w h;refine⟨v :: vs,hk,by simp [hl],?_⟩;have:=hg _ _ hv;simp [RT,this,hr]
 | .cell ad t :: r,k,w,h=>by
  obtain⟨p,v,hh,hx,hk0,hholds,aH⟩:=Rg h;obtain⟨vs,hk,hl,hr⟩:=Vk hg r _ w hk0;refine⟨v :: vs,hk,by simp [hl],?_⟩;have h1:=hg _ _ hx;have h2:=aH w hholds;simp only [Instr.loadAt,Instr.sureAddr,Sem.run_bind,Sem.run_pure,Result.andThen_ok] at h2;simp [RT,h1,asAddr,h2,hr]
theorem Aa2{fn:Func}{tmps:Array Value}{vs:List Value}{w:World}(h:(fn.results.toList.mapM (RT tmps)).run P w=.ok vs w) :
  (results fn tmps).run P w=.ok (Fx vs) w:=by
 have e:results fn tmps=(do let vs <- fn.results.mapM (RT tmps);pure (if h:vs.size=1 then vs[0] else .tuple vs)):=by
  rfl
 rw [e];have h2:(fn.results.mapM (RT tmps)).run P w=.ok vs.toArray w:=by
  rw [Array.mapM_eq_mapM_toList];simp [h]
 simp only [Sem.run_bind,h2,Result.andThen_ok,Sem.run_pure];congr 1
 match vs with
 | []=>simp [Fx]
 | [v]=>simp [Fx]
 | _ :: _ :: _=>simp [Fx]
theorem KX{fn:Func}{tmps:Array Value}{k:World->Prop}{R:Ending->World->Prop}(hk:∀ w,k w->∃ v,(results fn tmps).run P w=.ok v w/\R (.returned v) w) :
  ∀(ms:List Nat) (w:World),AhL ms k w->LeavesInM Fence.wide 0 P fn tmps R (marks ms) .returning w
 | [],w,h=>hk w h
 | d :: ds,w,h=>⟨by simp,.inl ⟨d,_,rfl,run_takeDeferred h.1,KX hk ds _ h.2⟩⟩
theorem Ab9(nQ:P.follows .mixedOrders=true){f:FuncId}{args:List Value}{k:Value->World->Prop}{w:World}(h:Ai0 P L C f args k w) :
  Calls P f ⟨args⟩ w λ e w'=>∃ v,e=.returned v/\k v w':=by
 unfold Ai0 at h;split at h
 ·rename_i fn hf;split at h
  ·rename_i c hc;cases hl:Nat.ble args.length fn.ntmps with
   | false=>rw [hl] at h;exact h.elim
   | true =>
    rw [hl] at h;simp only [cond_true] at h;have hle:args.length<=fn.ntmps:=Nat.le_of_ble_eq_true hl;refine callsIn_wide.1 (callsIn_of_wp_marks (F:=Fence.wide) (n:=0) hf hc trivial ?_);have cR:BS (Uj 0 args) ⟨(⟨args⟩:Array Value)++Array.replicate (fn.ntmps-args.length) undef,[]⟩:=by
     refine Pc _ args 0 λ j v hj=>?_;have fR:j<args.length:=(List.getElem?_eq_some_iff.1 hj).1;rw [Nat.zero_add,Array.getElem?_append_left (by simpa using fR)];simpa using hj
    refine wpIn_mono (AeC (n:=fn.ntmps) nQ c none 0 _ (Uj 0 args) [] w _ cR (by simp;omega) rfl h) ?_;have fin:∀(af:Fr) (a':Act),BS af a'->∀ w',Afm P af fn.results.toList (λ vs cO=>k (Fx vs) cO) w'->∃ v,(results fn a'.tmps).run P w'=.ok v w'/\∃ u,Ending.returned v=.returned u/\k u w':=by
     intro af a' bC w' hk;obtain⟨vs,hk,_,hr⟩:=Vk bC _ _ _ hk;exact⟨_,Aa2 hr,_,rfl,hk⟩
    rintro e a' w' ⟨aA,af,av,bC,fA,hk⟩;cases e with
    | normal =>
     show LeavesInM _ _ _ _ _ _ _ _ _;rw [fA];exact KX (fin af a' bC) av w' hk
    | ret =>
     show LeavesInM _ _ _ _ _ _ _ _ _;rw [fA];exact KX (fin af a' bC) av w' hk
    | _=>exact hk.elim
  ·exact h.elim
 ·exact h.elim
end
end Go.Dn
