/-
  Texts of this claim, laid one behind the other by a program of mine (install.py): Dn.Main.
-/
import Derived.Test.YtpnaifmmggnimaaGreatDoorM1
import Derived.Scope
import Derived.RangeFuncRecord
/-
  The reading of a whole function: what it asks suffices for the call.
-/
namespace Go.Dn
open _root_.Bool renaming and_eq_true -> AkC
section
variable {P:Program}{n:Nat}{L C:Hints}
theorem St.refl{a:Act}{W:Nat->Bool}{nr:Bool}(hn:a.tmps.size=n):St n a W nr a:=⟨hn,λ _=>rfl,λ _ _=>rfl⟩
theorem St.trans{a b c:Act}{W W' V:Nat->Bool}{r r' q:Bool}(h:St n a W r b)(h':St n b W' r' c)(hv:∀ i,V i=false->W i=false/\W' i=false)(hq:q=true->r=true/\r'=true):St n a V q c :=
 ⟨h'.size,λ e=>(h'.defers (hq e).2).trans (h.defers (hq e).1),λ i hi=>(h'.same i (hv i hi).2).trans (h.same i (hv i hi).1)⟩
theorem St.weaken{a b:Act}{W V:Nat->Bool}{r q:Bool}(h:St n a W r b)(hv:∀ i,V i=false->W i=false)(hq:q=true->r=true):St n a V q b:=⟨h.size,λ e=>h.defers (hq e),λ i hi=>h.same i (hv i hi)⟩
theorem Xf{z:Value}{f:Value->Prop}(h:Aij z f){v:Value}(hl:AaS z v=true):f v:=by
 cases z <;> first
  | exact h v
  | (cases v <;> first | (simp [AaS] at hl;done) | exact h _ | exact h _ _ _ | (have:=La hl;subst this;exact h _) | (rename_i fn _ _;cases fn <;> first | (simp [AaS] at hl;done) | exact h _ _ _))
theorem WJ:∀ {zs vs:List Value} {f:List Value->Prop},Aht zs f->Xv zs vs=true->f vs
 | [],[],_,h,_=>h
 | z :: zs,v :: vs,f,h,hl=>by
  simp only [Xv,AkC] at hl;exact WJ (f:=λ vs=>f (v :: vs)) (Xf h hl.1) hl.2
 | [],_ :: _,_,_,hl=>by simp [Xv] at hl
 | _ :: _,[],_,_,hl=>by simp [Xv] at hl
theorem Aew{z:Value}{f:Value->Prop}(h:Aho z f){v:Value}(hl:AgQ z v=true):f v:=by
 unfold Aho at h;unfold AgQ at hl;split at h
 ·rename_i zs;simp only at hl;split at hl
  ·rename_i vs;have:=WJ h hl;simpa using this
  ·cases hl
 ·rename_i aQ;split at hl
  ·rename_i zs;exact absurd rfl (aQ zs)
  ·exact Xf h hl
theorem I9:∀ {zs vs:List Value} {f:List Value->Prop},Yu zs f->Nk zs vs=true->f vs
 | [],[],_,h,_=>h
 | z :: zs,v :: vs,f,h,hl=>by
  simp only [Nk,AkC] at hl;exact I9 (f:=λ vs=>f (v :: vs)) (Aew h hl.1) hl.2
 | [],_ :: _,_,_,hl=>by simp [Nk] at hl
 | _ :: _,[],_,_,hl=>by simp [Nk] at hl
def L8(a:Act):List (Nat × Value)->Option (List Value)
 | []=>some []
 | x :: r=>match a.tmps[x.1]?,L8 a r with
  | some v,some vs=>some (v :: vs)
  | _,_=>none
theorem WD{fr:Fr}{a:Act}(hg:BU fr a):∀ {DK:List (Nat × Value)} {s:List Value},Pw fr DK=some s->L8 a DK=some s
 | [],s,h=>by simpa [Pw,L8] using h
 | x :: r,s,h=>by
  unfold Pw at h;split at h
  ·rename_i v vs hv oy;simp at h;subst h;simp [L8,hg _ _ hv,WD hg oy]
  ·cases h
theorem MA{DK:List (Nat × Value)}{fr:Fr}{k:List Value->Prop}{a:Act}(hg:BU fr a)(h:ENT DK fr k):∃ s,L8 a DK=some s/\Nk (DK.map (·.2)) s=true/\k s:=by
 unfold ENT at h;split at h
 ·rename_i s hs;cases hl:Nk (DK.map (·.2)) s with
  | false=>rw [hl] at h;exact h.elim
  | true=>rw [hl] at h;exact⟨s,WD hg hs,hl,h⟩
 ·exact h.elim
theorem Eh{fr:Fr}{a a':Act}{c:Code}(hg:BU fr a)(iu:∀ i,writes i c=false->a'.tmps[i]?=a.tmps[i]?):∀ {keep:List Nat},NS c keep=true->BU (Jr fr keep) a'
 | [],_=>by intro i v h;simp [Jr,look] at h
 | i :: r,hk=>by
  have dV:writes i c=false/\NS c r=true:=by simpa [NS] using hk
  unfold Jr;split
  ·rename_i v hv;intro j u hu;rw [Jb] at hu;by_cases dM:i=j
   ·subst dM;simp at hu;subst hu;rw [iu i dV.1];exact hg _ _ hv
   ·simp only [dM,if_false] at hu;exact Eh hg iu dV.2 j u hu
  ·exact Eh hg iu dV.2
theorem EB{a:Act}{rest:Fr}(hr:BU rest a):∀ {DK:List (Nat × Value)} {s:List Value},L8 a DK=some s->BU (Im DK s rest) a
 | [],s,_=>by simpa [Im] using hr
 | x :: r,s,h=>by
  unfold L8 at h;split at h
  ·rename_i v vs hv oy;simp at h;subst h;intro j u hu;simp only [Im] at hu;rw [Jb] at hu;by_cases dM:x.1=j
   ·subst dM;simp at hu;subst hu;exact hv
   ·simp only [dM,if_false] at hu;exact EB hr oy j u hu
  ·cases h
theorem Z7{z:Value}{f:Value->Prop}(h:∀ v,f v):Aij z f:=by
 cases z <;> first | exact λ _=>h _ | exact λ _ _ _=>h _
theorem Zz:∀ {zs:List Value} {f:List Value->Prop},(∀ vs,vs.length=zs.length->f vs)->Aht zs f
 | [],_,h=>h [] rfl
 | z :: zs,_,h=>Z7 λ v=>Zz λ vs hl=>h (v :: vs) (by simp [hl])
theorem AfP{z:Value}{f:Value->Prop}(h:∀ v,f v):Aho z f:=by
 unfold Aho;split
 ·exact Zz λ _ _=>h _
 ·exact Z7 h
theorem Aa6:∀ {zs:List Value} {f:List Value->Prop},(∀ vs,vs.length=zs.length->f vs)->Yu zs f
 | [],_,h=>h [] rfl
 | z :: zs,_,h=>AfP λ v=>Aa6 λ vs hl=>h (v :: vs) (by simp [hl])
theorem Adw{j:Option Code}{f:Exit->Prop}:∀ {l:List (Option Code × Exit)},orJ j f l->∃ x∈l,j=x.1/\f x.2
 | [x],h=>⟨x,List.mem_cons_self,h⟩
 | x :: y :: r,h=>by
  rcases h with h | h
  ·exact⟨x,List.mem_cons_self,h⟩
  ·obtain⟨z,hz,h⟩:=Adw h;exact⟨z,List.mem_cons_of_mem _ hz,h⟩
theorem AaR{c:Code}{x:Option Code × Exit}(h:x∈TZ c):x=(none,.normal)\/x=(some .ret,.ret)\/∃ i,x=(some (.exit i),.exit i):=by
 unfold TZ at h;rcases List.mem_cons.1 h with h | h
 ·exact .inl h
 ·rcases List.mem_append.1 h with h | h
  ·cases hr:II c with
   | true=>rw [hr] at h;exact .inr (.inl (by simpa using h))
   | false=>rw [hr] at h;simp at h
  ·obtain⟨i,_,e⟩:=List.mem_map.1 h;exact .inr (.inr ⟨i,e.symm⟩)
theorem Ns:∀(ps:List Nat) (vs:List Value) (fr:Fr) (t:Array Value),BU fr ⟨t,[]⟩->t.size=n ->
  BU (NJ n fr ps vs) ⟨(ps.zip vs).foldl (λ t x=>t.setIfInBounds x.1 x.2) t,[]⟩/\((ps.zip vs).foldl (λ t x=>t.setIfInBounds x.1 x.2) t).size=n
 | [],_,fr,t,h,hn=>by simpa [NJ] using ⟨h,hn⟩
 | _ :: _,[],fr,t,h,hn=>by simpa [NJ] using ⟨h,hn⟩
 | p :: ps,v :: vs,fr,t,h,hn=>by
  have:=Ns ps vs (put n fr (some p) v) (t.setIfInBounds p v) (h.put hn (some p) v) (by simpa using hn);simpa [NJ] using this
theorem AaX:∀ {a b:List Nat},Vl a b=true->a=b
 | [],[],_=>rfl
 | x :: r,y :: s,h=>by
  simp only [Vl,AkC] at h;rw [Nat.eq_of_beq_eq_true h.1,AaX h.2]
 | [],_ :: _,h=>by simp [Vl] at h
 | _ :: _,[],h=>by simp [Vl] at h
theorem Nb{w:World}{lo:Nat}{ro:Loop}(h:w.heap[lo]?=some (.loop ro))(fn:FuncId)(tmps:Array Value)(ps:Array Tmp)(assign body:Code) :
  (Instr.enterLoop fn tmps ps assign body (some lo)).run P w =
   .ok (w.heap.size,[]) (w.alloc (.loop { state:=.ready,pending:=none,fn,tmps,params:=ps,assign,body,defers:=ro.defers })):=by
 unfold Instr.enterLoop;simp only [Sem.run_bind,run_getLoop h,run_newObj_alloc,Result.andThen,Sem.run_pure]
section scope
variable {b:Frame}{a:Act}{k:List Item}{cs:List Frame}{w:World}{Q:Exit->Act->World->Prop}{F:Fence}{m:Nat}
theorem FH{c:Code}:step P (lone (b.atR a (.code (.scope c) :: k)) cs w)=.next (lone (b.atR a (.code c :: .inScope c :: k)) cs w) :=
 step_lone_go (by simp [stepG,stepG.exec,Frame.atR])
theorem Wp{c:Code}:step P (lone (b.atR a (.inScope c :: k)) cs w)=.next (lone (b.atR a k) cs w) :=
 step_lone_go (by simp [stepG,stepG.exec,Frame.atR])
theorem Ac4{c:Code}(h:c.wpIn F m P (Exit.noGoto Q) a w):(Code.scope c).wpIn F m P Q a w:=by
 intro b k cs s6 hb hr;have h0:(lone (b.atR a (.code (.scope c) :: k)) cs w).fenced P F:=fenced_calm hb hr rfl;obtain⟨e,a₁,w₁,hq,harr⟩:=h b (.inScope c :: k) cs s6 hb hr;cases e with
 | normal=>exact⟨.normal,a₁,w₁,hq,.head h0 FH (StepsIn.trans harr (.one (fenced_calm hb hr rfl) Wp))⟩
 | exit id =>
  have hx:exitTo id (.inScope c :: k)=exitTo id k:=by simp [exitTo]
  exact⟨.exit id,a₁,w₁,hq,λ k' hk=>.head h0 FH (harr.1 k' (by rw [hx];exact hk)),
   λ fx hk=>let ⟨k₁,h1,h2⟩:=harr.2 fx (by rw [hx];exact hk);⟨k₁,h1,.head h0 FH h2⟩⟩
 | goto l=>exact hq.elim
 | ret=>exact⟨_,a₁,w₁,hq,.of_steps (.one h0 FH) harr⟩
 | panic ch=>exact⟨_,a₁,w₁,hq,.of_steps (.one h0 FH) harr⟩
 | outgrown=>exact⟨_,a₁,w₁,hq,.of_steps (.one h0 FH) harr⟩
end scope
theorem Afc(nh:P.follows .mixedOrders=true)(c:Code):∀(rd:Option Nat) (m:Nat) (K:Exit->Fr->List Nat->World->Prop) (fr:Fr) (ms:List Nat) (w:World) (a:Act),BU fr a->a.tmps.size=n->a.defers=marks ms ->
  den P n L C c rd K fr ms w->c.wpIn (FF rd) m P (AgA n a (λ i=>writes i c) (Bm c) K) a w:=by
 induction c with
 | skip=>intro rd m K fr ms w a hg hn hd h;exact wpIn_skip ⟨.refl hn,fr,ms,hg,hd,h⟩
 | label l=>intro rd m K fr ms w a hg hn hd h;exact wpIn_label ⟨.refl hn,fr,ms,hg,hd,h⟩
 | exit id=>intro rd m K fr ms w a hg hn hd h;exact wpIn_exit ⟨.refl hn,fr,ms,hg,hd,h⟩
 | ret=>intro rd m K fr ms w a hg hn hd h;exact wpIn_ret ⟨.refl hn,fr,ms,hg,hd,h⟩
 | seq x y ihx ihy =>
  intro rd m K fr ms w a hg hn hd h;have hV:∀ i,writes i (Code.seq x y)=false->writes i x=false/\writes i y=false:=λ i hi=>by simpa [writes] using hi
  have hR:Bm (Code.seq x y)=true->Bm x=true/\Bm y=true:=λ hi=>by simpa [Bm] using hi
  unfold den at h;split at h
  ·refine wpIn_seq (wpIn_mono (ihx rd m _ fr ms w a hg hn hd h) ?_);rintro e a' w' ⟨aA,af,av,bC,eZ,hk⟩;cases e with
   | normal =>
    refine wpIn_mono (ihy rd m K af av w' a' bC aA.size eZ hk) ?_;rintro e2 a2 w2 ⟨eV,k9,jL,eL,fZ,ax⟩;exact⟨aA.trans eV hV hR,k9,jL,eL,fZ,ax⟩
   | _=>exact⟨aA.weaken (λ i hi=>(hV i hi).1) (λ hi=>(hR hi).1),af,av,bC,eZ,hk⟩
  ·rename_i hint hh;cases iI:NS x hint.keep with
   | false=>rw [iI] at h;exact h.elim
   | true =>
    rw [iI] at h;cases nL:Bm x with
    | true =>
     rw [nL] at h;obtain⟨Y,hbefore,hbehind⟩:=h;refine wpIn_seq (wpIn_mono (ihx rd m _ fr ms w a hg hn hd hbefore) ?_);rintro e a' w' ⟨aA,af,av,bC,eZ,hk⟩;cases e with
     | normal =>
      obtain⟨s,hs,hl,hY⟩:=MA bC hk;have eU:=I9 hbehind hl w' hY;have cR:=EB (Eh (keep:=hint.keep) hg aA.same iI) hs;refine wpIn_mono (ihy rd m K _ ms w' a' cR aA.size ((aA.defers nL).trans hd) eU) ?_;rintro e2 a2 w2 ⟨eV,k9,jL,eL,fZ,ax⟩;exact⟨aA.trans eV hV hR,k9,jL,eL,fZ,ax⟩
     | _=>exact⟨aA.weaken (λ i hi=>(hV i hi).1) (λ hi=>(hR hi).1),af,av,bC,eZ,hk⟩
    | false =>
     rw [nL] at h;obtain⟨Y,hbefore,hbehind⟩:=h;refine wpIn_seq (wpIn_mono (ihx rd m _ fr ms w a hg hn hd hbefore) ?_);rintro e a' w' ⟨aA,af,av,bC,eZ,hk⟩;cases e with
     | normal =>
      obtain⟨s,hs,hl,hY⟩:=MA bC hk;have eU:=I9 hbehind hl av w' hY;have cR:=EB (Eh (keep:=hint.keep) hg aA.same iI) hs;refine wpIn_mono (ihy rd m K _ av w' a' cR aA.size eZ eU) ?_;rintro e2 a2 w2 ⟨eV,k9,jL,eL,fZ,ax⟩;exact⟨aA.trans eV hV hR,k9,jL,eL,fZ,ax⟩
     | _=>exact⟨aA.weaken (λ i hi=>(hV i hi).1) (λ hi=>(hR hi).1),af,av,bC,eZ,hk⟩
 | cond c x y ihx ihy =>
  intro rd m K fr ms w a hg hn hd h;have hV:∀ i,writes i (Code.cond c x y)=false->writes i x=false/\writes i y=false:=λ i hi=>by simpa [writes] using hi
  have hR:Bm (Code.cond c x y)=true->Bm x=true/\Bm y=true:=λ hi=>by simpa [Bm] using hi
  unfold den at h;split at h
  ·rename_i t ht;have hc:=hg.eval _ _ ht;have key:(t=true->∃ af,BU af a/\den P n L C x rd K af ms w)/\(t=false->∃ af,BU af a/\den P n L C y rd K af ms w):=by
    split at h
    ·rename_i i;have cR:=hg.again (show look fr i=some (.bool t) from ht);cases t with
     | true=>exact⟨λ _=>⟨_,cR,h⟩,by simp⟩
     | false=>exact⟨by simp,λ _=>⟨_,cR,h⟩⟩
    ·cases t with
     | true=>exact⟨λ _=>⟨_,hg,h⟩,by simp⟩
     | false=>exact⟨by simp,λ _=>⟨_,hg,h⟩⟩
   refine wpIn_cond_split hc (λ ht=>?_) (λ hf=>?_)
   ·obtain⟨af,bC,h'⟩:=key.1 ht;refine wpIn_mono (ihx rd m K af ms w a bC hn hd h') ?_;rintro e a' w' ⟨aA,r⟩;exact⟨aA.weaken (λ i hi=>(hV i hi).1) (λ hi=>(hR hi).1),r⟩
   ·obtain⟨af,bC,h'⟩:=key.2 hf;refine wpIn_mono (ihy rd m K af ms w a bC hn hd h') ?_;rintro e a' w' ⟨aA,r⟩;exact⟨aA.weaken (λ i hi=>(hV i hi).2) (λ hi=>(hR hi).2),r⟩
  ·exact h.elim
 | block id c ih =>
  intro rd m K fr ms w a hg hn hd h;unfold den at h;refine wpIn_block (wpIn_mono (ih rd m _ fr ms w a hg hn hd h) ?_);rintro e a' w' ⟨aA,af,av,bC,eZ,hk⟩;cases e with
  | exit j =>
   simp only [Exit.inBlock]
   replace hk:bif Nat.beq j id then K .normal af av w' else K (.exit j) af av w':=hk
   cases hb:Nat.beq j id with
   | true =>
    have dU:j=id:=Nat.eq_of_beq_eq_true hb;rw [if_pos dU];rw [hb] at hk;exact⟨aA,af,av,bC,eZ,hk⟩
   | false =>
    have dU:¬ j=id:=λ he=>by subst he;simp at hb
    rw [if_neg dU];rw [hb] at hk;exact⟨aA,af,av,bC,eZ,hk⟩
  | _=>exact⟨aA,af,av,bC,eZ,hk⟩
 | loop c ih =>
  intro rd m K fr ms w a hg hn hd h;unfold den at h;split at h
  ·exact h.elim
  ·rename_i hint hh;cases iI:NS c hint.keep with
   | false=>rw [iI] at h;exact h.elim
   | true =>
    rw [iI] at h;cases nL:Bm c with
    | true =>
     rw [nL] at h;obtain⟨Inv,mu,hent,aF⟩:=h;refine wpIn_loop (λ a' w'=>St n a (λ i=>writes i c) (Bm c) a'/\∃ s,L8 a' hint.DK=some s/\Nk (hint.DK.map (·.2)) s=true/\Inv s w')
      (λ a' w'=>mu ((L8 a' hint.DK).getD []) w') ?_ ?_
     ·obtain⟨s,hs,hl,hi⟩:=MA hg hent;exact⟨.refl hn,s,hs,hl,hi⟩
     ·rintro a' w' ⟨aA,s,hs,hl,hi⟩;have eU:=I9 aF hl w' hi;have cR:=EB (Eh (keep:=hint.keep) hg aA.same iI) hs;refine wpIn_mono (ih rd m _ _ ms w' a' cR aA.size ((aA.defers nL).trans hd) eU) ?_;rintro e a2 w2 ⟨eV,k9,jL,eL,fZ,ax⟩;have jB:St n a (λ i=>writes i c) (Bm c) a2:=aA.trans eV (λ i hi=>⟨hi,hi⟩) (λ hi=>⟨hi,hi⟩);cases e with
      | normal =>
       obtain⟨s2,eB,ay,hi2,aB⟩:=MA eL ax;exact⟨⟨jB,s2,eB,ay,hi2⟩,by simpa [hs,eB] using aB⟩
      | _=>exact⟨jB,k9,jL,eL,fZ,ax⟩
    | false =>
     rw [nL] at h;obtain⟨Inv,mu,hent,aF⟩:=h;refine wpIn_loop (λ a' w'=>St n a (λ i=>writes i c) (Bm c) a'/\∃ s av,L8 a' hint.DK=some s/\Nk (hint.DK.map (·.2)) s=true/\a'.defers=marks av/\Inv s av w')
      (λ a' w'=>mu ((L8 a' hint.DK).getD []) w') ?_ ?_
     ·obtain⟨s,hs,hl,hi⟩:=MA hg hent;exact⟨.refl hn,s,ms,hs,hl,hd,hi⟩
     ·rintro a' w' ⟨aA,s,av,hs,hl,eZ,hi⟩;have eU:=I9 aF hl av w' hi;have cR:=EB (Eh (keep:=hint.keep) hg aA.same iI) hs;refine wpIn_mono (ih rd m _ _ av w' a' cR aA.size eZ eU) ?_;rintro e a2 w2 ⟨eV,k9,jL,eL,fZ,ax⟩;have jB:St n a (λ i=>writes i c) (Bm c) a2:=aA.trans eV (λ i hi=>⟨hi,hi⟩) (λ hi=>⟨hi,hi⟩);cases e with
      | normal =>
       obtain⟨s2,eB,ay,hi2,aB⟩:=MA eL ax;exact⟨⟨jB,s2,jL,eB,ay,fZ,hi2⟩,by simpa [hs,eB] using aB⟩
      | _=>exact⟨jB,k9,jL,eL,fZ,ax⟩
 | region id ops draw =>
  intro rd m K fr ms w a hg hn hd h;have hQ:∀ a' w',Ag2 n a (λ i=>CI i ops.toList) (λ af w'=>K .normal af ms w') a' w'->AgA n a (λ i=>writes i (Code.region id ops draw)) (Bm (Code.region id ops draw)) K .normal a' w':=by
   rintro a' w' ⟨aA,af,bC,hk⟩;exact⟨⟨aA.size,λ _=>aA.defers rfl,λ i hi=>aA.same i (by simpa [writes] using hi)⟩,af,ms,bC,(aA.defers rfl).trans hd,hk⟩
  have hP:∀ a' ch w',St n a (λ i=>CI i ops.toList) true a'->AcG (Xc C λ ch w'=>K (.panic ch) [] ms w') ch w'->AgA n a (λ i=>writes i (Code.region id ops draw)) (Bm (Code.region id ops draw)) K (.panic ch) a' w':=by
   intro a' ch w' aA hk;refine⟨⟨aA.size,λ _=>aA.defers rfl,λ i hi=>aA.same i (by simpa [writes] using hi)⟩,[],ms,(by intro i v h;simp [look] at h),(aA.defers rfl).trans hd,?_⟩;unfold Xc at hk;split at hk
   ·exact hk.elim
   ·exact hk
  cases draw with
  | false =>
   refine wpIn_region (Hr rd m hQ hP _ _ _ (.refl hn) ?_);have:=NL (P:=P) (kp:=Xc C λ ch w'=>K (.panic ch) [] ms w') (n:=n) (ops:=ops) (a0:=a) (K:=λ af w'=>K .normal af ms w') ops.toList 0 rfl fr w a hg (.refl hn) h;rw [List.range_eq_range'];rw [Array.length_toList] at this;exact this
  | true =>
   unfold den at h;cases bT:Region.noSelect ops with
   | false=>rw [bT] at h;exact h.elim
   | true =>
    rw [bT] at h;have:=Abn (P:=P) (kp:=Xc C λ ch w'=>K (.panic ch) [] ms w') (n:=n) (ops:=ops) (a0:=a) bT (K:=λ af w'=>K .normal af ms w') ops.size _ [] fr w.drew a hg (.refl hn) IM.start (by simp) h;exact wpIn_region_any nh (Hs rd m hQ hP _ _ _ _ _ (.refl hn) this)
 | scope c ih =>
  intro rd m K fr ms w a hg hn hd h;unfold den at h;refine Ac4 (wpIn_mono (ih rd m _ fr ms w a hg hn hd h) ?_);rintro e a' w' ⟨aA,af,av,bC,eZ,hk⟩;cases e with
  | goto l=>exact hk.elim
  | _=>exact⟨aA,af,av,bC,eZ,hk⟩
 | rangeFunc g ps x y ihx ihy =>
  intro rd m K fr ms w a hg hn hd h;unfold den at h;split at h
  ·exact h.elim
  ·rename_i hint hh;cases aK:Vl (hint.DK.map (·.1)) ps.toList && Bm x with
   | false=>rw [aK] at h;exact h.elim
   | true =>
    rw [aK] at h;simp only [AkC] at aK;have dk:=AaX aK.1;have bL:ps.size=(hint.DK.map (·.2)).length:=by rw [<- Array.length_toList,<- dk];simp
    obtain⟨f,fi,ca,hv,ny,hr⟩:=AgC h;have tZ:=hg.eval _ _ hv;have round:∀(rr:Loop) (l:Nat),rr.state=.ready->rr.pending=none->rr.params=ps->rr.tmps=a.tmps->rr.assign=x->rr.body=y ->
      Yu (hint.DK.map (·.2)) λ vs=>∀(k:Bool->World->Prop) (w:World),w.heap[l]?=some (.loop rr)->den P n L C x (some l) (λ e qm _ w1=>match e with
       | .normal=>QW rr l (λ w2=>den P n L C y (some l) (λ e _ _ w3=>match e with
        | .normal=>Gk rr l k none w3
        | .ret=>Gk rr l k (some .ret) w3
        | .exit i=>Gk rr l k (some (.exit i)) w3
        | _=>False) qm [] w2) w1
       | _=>False) (NJ n fr ps.toList vs) [] w->PQ P l ⟨vs⟩ k w:=by
     intro rr l aA dR xI gR has fN;refine Aa6 λ vs gr k wx vj eU=>?_;have aw:(⟨vs⟩:Array Value).size=rr.params.size:=by rw [xI,bL];exact gr
     refine⟨_,_,_,_,run_yield vj aw,roundIn_of_wpIn (F:=Fence.wide) trivial ?_⟩;rw [xI,gR,has,fN];have ez:(ps.zip (⟨vs⟩:Array Value)).foldl (λ (t:Array Value) (x:Tmp × Value)=>t.setIfInBounds x.1 x.2) a.tmps=(ps.toList.zip vs).foldl (λ t x=>t.setIfInBounds x.1 x.2) a.tmps:=by
      rw [<- Array.foldl_toList];simp
     have cR:=Ns (n:=n) ps.toList vs fr a.tmps hg hn;rw [<- ez] at cR;refine wpIn_mono (ihx (some l) 0 _ _ [] wx _ cR.1 cR.2 rfl eU) ?_;rintro e a1 w1 ⟨jY,qm,ms1,jW,gw,cm⟩;cases e with
     | normal =>
      obtain⟨cJ,cm⟩:=cm;refine⟨_,run_beginRound cJ aA,?_⟩;have uM:a1.defers=marks []:=jY.defers aK.2;refine wpIn_mono (ihy (some l) 0 _ qm [] _ a1 jW jY.size uM cm) ?_;rintro e2 a2 w2 ⟨_,k9,jL,_,_,ax⟩;cases e2 with
      | normal=>exact⟨_,_,run_endRound none ax.1,true,rfl,ax.2⟩
      | ret=>exact⟨_,_,run_endRound (some .ret) ax.1,false,rfl,ax.2⟩
      | exit i=>exact⟨_,_,run_endRound (some (.exit i)) ax.1,false,rfl,ax.2⟩
      | _=>exact ax.elim
     | _=>exact cm.elim
    have post:∀(rr:Loop) (l:Nat) (av:List Nat) (w3:World),RP rr l (λ j w'=>orJ j (λ e=>K e fr (av++ms) w') (TZ y)) w3->∀ v,
      rangePost (FF rd) m P l (AgA n a (λ i=>writes i (Code.rangeFunc g ps x y)) (Bm (Code.rangeFunc g ps x y)) K) { a with defers:=marks av++a.defers } (.returned v) w3:=by
     rintro rr l av w3 ⟨j,hj,hk⟩ v;have mj:(if j.isNone then LoopState.ready else .done)≠.busy:=by split <;> simp
     refine⟨_,_,run_endLoop hj mj,?_⟩;have hl:∀ {e w'},K e fr (av++ms) w'->AgA n a (λ i=>writes i (Code.rangeFunc g ps x y)) (Bm (Code.rangeFunc g ps x y)) K e { a with defers:=marks av++a.defers } w':=by
      intro e w' hK;exact⟨⟨hn,λ h=>(by cases h),λ _ _=>rfl⟩,fr,av++ms,hg,by simp [marks,hd],hK⟩
     obtain⟨z,hz,e1,e2⟩:=Adw hk;rcases AaR hz with rfl | rfl | ⟨i,rfl⟩
     ·subst e1;exact hl e2
     ·subst e1;exact wpIn_ret (hl e2)
     ·subst e1;exact wpIn_exit (hl e2)
    refine wpIn_rangeFunc λ fn _=>?_;have hinv:∀(l:Nat) (w1:World),(resolve a.eval (rangeCall g l) 0).run P w1=.ok { target:=.fn (.func f) ca,args:=fi++#[.func (.yield l) #[] #[]] } w1 /\
      (invoke (.fn (.func f) ca) (fi++#[.func (.yield l) #[] #[]])).run P w1=.ok (.enter f ⟨fi.toList++[.func (.yield l) #[] #[]]++ca.toList⟩) w1:=by
     intro l w1;constructor
     ·simp only [resolve,tZ,Deferred.ofValue];simp [Act.eval]
     ·have ha:fi++#[.func (.yield l) #[] #[]]++ca=⟨fi.toList++[.func (.yield l) #[] #[]]++ca.toList⟩:=Array.ext' (by simp);simp only [invoke,Uq ny,ha]
    cases rd with
    | none =>
     have hc:=hr _ rfl rfl (round { state:=.ready,pending:=none,fn,tmps:=a.tmps,params:=ps,assign:=x,body:=y,defers:=w.heap.size } (w.heap.size+1) rfl rfl rfl rfl rfl rfl);refine⟨_,_,_,_,_,f,_,_,run_enterLoop_outer _ _ _ _ _,(hinv _ _).1,λ _ _=>trivial,(hinv _ _).2,λ h=>(by cases h),?_⟩;refine CallsIn.mono (F:=FF none) (callsIn_wide.2 hc) ?_;rintro e w3 ⟨⟨v,rfl⟩,he⟩;exact post _ _ [w.heap.size] w3 he v
    | some lo =>
     obtain⟨⟨ro,s6⟩,hr⟩:=hr;have hc:=hr _ rfl rfl (round { state:=.ready,pending:=none,fn,tmps:=a.tmps,params:=ps,assign:=x,body:=y,defers:=ro.defers } w.heap.size rfl rfl rfl rfl rfl rfl);refine⟨_,_,_,_,_,f,_,_,Nb s6 _ _ _ _ _,(hinv _ _).1,λ _ _=>trivial,(hinv _ _).2,λ h=>(by cases h),?_⟩;have cG:=(callsIn_wide (n:=m-1)).2 hc;refine CallsIn.mono (F:=FF (some lo)) ⟨trivial,λ cs _=>cG.2 cs (AdK none _)⟩ ?_;rintro e w3 ⟨⟨v,rfl⟩,he⟩;exact post _ _ [] w3 he v
 | goto l=>intro rd m K fr ms w a hg hn hd h;exact h.elim
 | refuse s=>intro rd m K fr ms w a hg hn hd h;exact h.elim
theorem Qx(tmps:Array Value):∀(args:List Value) (i:Nat),(∀ j v,args[j]?=some v->tmps[i+j]?=some v)->BU (UG i args) ⟨tmps,[]⟩
 | [],_,_=>by intro j v h;simp [UG,look] at h
 | x :: r,i,h=>by
  intro j u hu;simp only [UG] at hu;rw [Jb] at hu;by_cases dM:i=j
  ·subst dM;simp at hu;subst hu;exact h 0 x rfl
  ·simp only [dM,if_false] at hu;exact Qx tmps r (i+1) (λ k v hk=>by have:=h (k+1) v (by simpa using hk);rwa [show i+(k+1)=i+1+k by omega] at this) j u hu
def RF(tmps:Array Value):ResultVar->Sem Value
 | .tmp t=>pure (tmps.getD t undef)
 | .cell a t=>do loadVar t (<- asAddr (tmps.getD a undef))
theorem Vy{fr:Fr}{a:Act}(hg:BU fr a):∀(rs:List ResultVar) (k:List Value->World->Prop) (w:World),AeZ P fr rs k w ->
  ∃ vs,k vs w/\vs.length=rs.length/\(rs.mapM (RF a.tmps)).run P w=.ok vs w
 | [],k,w,h=>⟨[],h,rfl,by simp⟩
 | .tmp t :: r,k,w,h=>by
  obtain⟨v,hv,h⟩:=BF h;obtain⟨vs,hk,hl,hr⟩:=Vy hg r _ w h;refine⟨v :: vs,hk,by simp [hl],?_⟩;have:=hg _ _ hv;simp [RF,this,hr]
 | .cell ad t :: r,k,w,h=>by
  obtain⟨p,v,hh,hx,hk0,hholds,aH⟩:=QX h;obtain⟨vs,hk,hl,hr⟩:=Vy hg r _ w hk0;refine⟨v :: vs,hk,by simp [hl],?_⟩;have h1:=hg _ _ hx;have h2:=aH w hholds;simp only [Instr.loadAt,Instr.sureAddr,Sem.run_bind,Sem.run_pure,Result.andThen_ok] at h2;simp [RF,h1,asAddr,h2,hr]
theorem AaD{fn:Func}{tmps:Array Value}{vs:List Value}{w:World}(h:(fn.results.toList.mapM (RF tmps)).run P w=.ok vs w) :
  (results fn tmps).run P w=.ok (Fy vs) w:=by
 have e:results fn tmps=(do let vs <- fn.results.mapM (RF tmps);pure (if h:vs.size=1 then vs[0] else .tuple vs)):=by
  rfl
 rw [e];have h2:(fn.results.mapM (RF tmps)).run P w=.ok vs.toArray w:=by
  rw [Array.mapM_eq_mapM_toList];simp [h]
 simp only [Sem.run_bind,h2,Result.andThen_ok,Sem.run_pure];congr 1
 match vs with
 | []=>simp [Fy]
 | [v]=>simp [Fy]
 | _ :: _ :: _=>simp [Fy]
theorem Lw{fn:Func}{tmps:Array Value}{k:World->Prop}{R:Ending->World->Prop}(hk:∀ w,k w->∃ v,(results fn tmps).run P w=.ok v w/\R (.returned v) w) :
  ∀(ms:List Nat) (w:World),Ahu ms k w->LeavesInM Fence.wide 0 P fn tmps R (marks ms) .returning w
 | [],w,h=>hk w h
 | d :: ds,w,h=>⟨by simp,.inl ⟨d,_,rfl,run_takeDeferred h.1,Lw hk ds _ h.2⟩⟩
theorem AcT(nh:P.follows .mixedOrders=true){f:FuncId}{args:List Value}{k:Value->World->Prop}{w:World}(h:AiW P L C f args k w) :
  Calls P f ⟨args⟩ w λ e w'=>∃ v,e=.returned v/\k v w':=by
 unfold AiW at h;split at h
 ·rename_i fn hf;split at h
  ·rename_i c hc;cases hl:Nat.ble args.length fn.ntmps with
   | false=>rw [hl] at h;exact h.elim
   | true =>
    rw [hl] at h;simp only [cond_true] at h;have hle:args.length<=fn.ntmps:=Nat.le_of_ble_eq_true hl;refine callsIn_wide.1 (callsIn_of_wp_marks (F:=Fence.wide) (n:=0) hf hc trivial ?_);have cR:BU (UG 0 args) ⟨(⟨args⟩:Array Value)++Array.replicate (fn.ntmps-args.length) undef,[]⟩:=by
     refine Qx _ args 0 λ j v hj=>?_;have fV:j<args.length:=(List.getElem?_eq_some_iff.1 hj).1;rw [Nat.zero_add,Array.getElem?_append_left (by simpa using fV)];simpa using hj
    refine wpIn_mono (Afc (n:=fn.ntmps) nh c none 0 _ (UG 0 args) [] w _ cR (by simp;omega) rfl h) ?_;have fin:∀(af:Fr) (a':Act),BU af a'->∀ w',AeZ P af fn.results.toList (λ vs cK=>k (Fy vs) cK) w'->∃ v,(results fn a'.tmps).run P w'=.ok v w'/\∃ u,Ending.returned v=.returned u/\k u w':=by
     intro af a' bC w' hk;obtain⟨vs,hk,_,hr⟩:=Vy bC _ _ _ hk;exact⟨_,AaD hr,_,rfl,hk⟩
    rintro e a' w' ⟨aA,af,av,bC,eZ,hk⟩;cases e with
    | normal =>
     show LeavesInM _ _ _ _ _ _ _ _ _;rw [eZ];exact Lw (fin af a' bC) av w' hk
    | ret =>
     show LeavesInM _ _ _ _ _ _ _ _ _;rw [eZ];exact Lw (fin af a' bC) av w' hk
    | _=>exact hk.elim
  ·exact h.elim
 ·exact h.elim
end
end Go.Dn
