/-
  Texts of this claim, laid one behind the other by a program of mine (install.py): Dn.Main.
-/
import Derived.Test.YtoepjfblppfabaaGreatDoorM1
import Derived.Scope
import Derived.RangeFuncRecord
/-
  The reading of a whole function: what it asks suffices for the call.
-/
namespace Go.Dn
open _root_.Bool renaming and_eq_true -> Ana
section
variable {P:Program}{n:Nat}{L C:Hints}
theorem St.refl{a:Act}{W:Nat->Bool}{nr:Bool}(hn:a.tmps.size=n):St n a W nr a:=⟨hn,λ _=>rfl,λ _ _=>rfl⟩
theorem St.trans{a b c:Act}{W W' V:Nat->Bool}{r r' q:Bool}(h:St n a W r b)(h':St n b W' r' c)(hv:∀ i,V i=false->W i=false/\W' i=false)(hq:q=true->r=true/\r'=true):St n a V q c :=
 ⟨h'.size,λ e=>(h'.defers (hq e).2).trans (h.defers (hq e).1),λ i hi=>(h'.same i (hv i hi).2).trans (h.same i (hv i hi).1)⟩
theorem St.weaken{a b:Act}{W V:Nat->Bool}{r q:Bool}(h:St n a W r b)(hv:∀ i,V i=false->W i=false)(hq:q=true->r=true):St n a V q b:=⟨h.size,λ e=>h.defers (hq e),λ i hi=>h.same i (hv i hi)⟩
theorem Vy{z:Value}{f:Value->Prop}(h:Ah1 z f){v:Value}(hl:Gr z v=true):f v:=by
 cases z <;> first
  | exact h v
  | (cases v <;> first | (simp [Gr] at hl;done) | exact h _ | exact h _ _ _ | (have:=FT hl;subst this;exact h _) | (rename_i fn _ _;cases fn <;> first | (simp [Gr] at hl;done) | exact h _ _ _))
theorem Vz:∀ {zs vs:List Value} {f:List Value->Prop},Ah2 zs f->FV zs vs=true->f vs
 | [],[],_,h,_=>h
 | z :: zs,v :: vs,f,h,hl=>by
  simp only [FV,Ana] at hl;exact Vz (f:=λ vs=>f (v :: vs)) (Vy h hl.1) hl.2
 | [],_ :: _,_,_,hl=>by simp [FV] at hl
 | _ :: _,[],_,_,hl=>by simp [FV] at hl
theorem AdS{z:Value}{f:Value->Prop}(h:AfD z f){v:Value}(hl:KM z v=true):f v:=by
 unfold AfD at h;unfold KM at hl;split at h
 ·rename_i zs;simp only at hl;split at hl
  ·rename_i vs;have:=Vz h hl;simpa using this
  ·cases hl
 ·rename_i aQ;split at hl
  ·rename_i zs;exact absurd rfl (aQ zs)
  ·exact Vy h hl
theorem Ib:∀ {zs vs:List Value} {f:List Value->Prop},WK zs f->EE zs vs=true->f vs
 | [],[],_,h,_=>h
 | z :: zs,v :: vs,f,h,hl=>by
  simp only [EE,Ana] at hl;exact Ib (f:=λ vs=>f (v :: vs)) (AdS h hl.1) hl.2
 | [],_ :: _,_,_,hl=>by simp [EE] at hl
 | _ :: _,[],_,_,hl=>by simp [EE] at hl
def KR(a:Act):List (Nat × Value)->Option (List Value)
 | []=>some []
 | x :: r=>match a.tmps[x.1]?,KR a r with
  | some v,some vs=>some (v :: vs)
  | _,_=>none
theorem We{fr:Fr}{a:Act}(hg:AO fr a):∀ {Db:List (Nat × Value)} {s:List Value},OE fr Db=some s->KR a Db=some s
 | [],s,h=>by simpa [OE,KR] using h
 | x :: r,s,h=>by
  unfold OE at h;split at h
  ·rename_i v vs hv kS;simp at h;subst h;simp [KR,hg _ _ hv,We hg kS]
  ·cases h
theorem LR{Db:List (Nat × Value)}{fr:Fr}{k:List Value->Prop}{a:Act}(hg:AO fr a)(h:ENT Db fr k):∃ s,KR a Db=some s/\EE (Db.map (·.2)) s=true/\k s:=by
 unfold ENT at h;split at h
 ·rename_i s hs;cases hl:EE (Db.map (·.2)) s with
  | false=>rw [hl] at h;exact h.elim
  | true=>rw [hl] at h;exact⟨s,We hg hs,hl,h⟩
 ·exact h.elim
theorem DD{fr:Fr}{a a':Act}{c:Code}(hg:AO fr a)(gz:∀ i,writes i c=false->a'.tmps[i]?=a.tmps[i]?):∀ {keep:List Nat},Ng c keep=true->AO (Jl fr keep) a'
 | [],_=>by intro i v h;simp [Jl,look] at h
 | i :: r,hk=>by
  have cr:writes i c=false/\Ng c r=true:=by simpa [Ng] using hk
  unfold Jl;split
  ·rename_i v hv;intro j u hu;rw [Iy] at hu;by_cases dc:i=j
   ·subst dc;simp at hu;subst hu;rw [gz i cr.1];exact hg _ _ hv
   ·simp only [dc,if_false] at hu;exact DD hg gz cr.2 j u hu
  ·exact DD hg gz cr.2
theorem DQ{a:Act}{rest:Fr}(hr:AO rest a):∀ {Db:List (Nat × Value)} {s:List Value},KR a Db=some s->AO (HG Db s rest) a
 | [],s,_=>by simpa [HG] using hr
 | x :: r,s,h=>by
  unfold KR at h;split at h
  ·rename_i v vs hv kS;simp at h;subst h;intro j u hu;simp only [HG] at hu;rw [Iy] at hu;by_cases dc:x.1=j
   ·subst dc;simp at hu;subst hu;exact hv
   ·simp only [dc,if_false] at hu;exact DQ hr kS j u hu
  ·cases h
theorem Ys{z:Value}{f:Value->Prop}(h:∀ v,f v):Ah1 z f:=by
 cases z <;> first | exact λ _=>h _ | exact λ _ _ _=>h _
theorem Yt:∀ {zs:List Value} {f:List Value->Prop},(∀ vs,vs.length=zs.length->f vs)->Ah2 zs f
 | [],_,h=>h [] rfl
 | z :: zs,_,h=>Ys λ v=>Yt λ vs hl=>h (v :: vs) (by simp [hl])
theorem AfE{z:Value}{f:Value->Prop}(h:∀ v,f v):AfD z f:=by
 unfold AfD;split
 ·exact Yt λ _ _=>h _
 ·exact Ys h
theorem Yu:∀ {zs:List Value} {f:List Value->Prop},(∀ vs,vs.length=zs.length->f vs)->WK zs f
 | [],_,h=>h [] rfl
 | z :: zs,_,h=>AfE λ v=>Yu λ vs hl=>h (v :: vs) (by simp [hl])
theorem Adw{j:Option Code}{f:Exit->Prop}:∀ {l:List (Option Code × Exit)},orJ j f l->∃ x∈l,j=x.1/\f x.2
 | [x],h=>⟨x,List.mem_cons_self,h⟩
 | x :: y :: r,h=>by
  rcases h with h | h
  ·exact⟨x,List.mem_cons_self,h⟩
  ·obtain⟨z,hz,h⟩:=Adw h;exact⟨z,List.mem_cons_of_mem _ hz,h⟩
theorem ZT{c:Code}{x:Option Code × Exit}(h:x∈Sq c):x=(none,.normal)\/x=(some .ret,.ret)\/∃ i,x=(some (.exit i),.exit i):=by
 unfold Sq at h;rcases List.mem_cons.1 h with h | h
 ·exact .inl h
 ·rcases List.mem_append.1 h with h | h
  ·cases hr:HY c with
   | true=>rw [hr] at h;exact .inr (.inl (by simpa using h))
   | false=>rw [hr] at h;simp at h
  ·obtain⟨i,_,e⟩:=List.mem_map.1 h;exact .inr (.inr ⟨i,e.symm⟩)
theorem H5:∀(ps:List Nat) (vs:List Value) (fr:Fr) (t:Array Value),AO fr ⟨t,[]⟩->t.size=n ->
  AO (G3 n fr ps vs) ⟨(ps.zip vs).foldl (λ t x=>t.setIfInBounds x.1 x.2) t,[]⟩/\((ps.zip vs).foldl (λ t x=>t.setIfInBounds x.1 x.2) t).size=n
 | [],_,fr,t,h,hn=>by simpa [G3] using ⟨h,hn⟩
 | _ :: _,[],fr,t,h,hn=>by simpa [G3] using ⟨h,hn⟩
 | p :: ps,v :: vs,fr,t,h,hn=>by
  have:=H5 ps vs (put n fr (some p) v) (t.setIfInBounds p v) (h.put hn (some p) v) (by simpa using hn);simpa [G3] using this
theorem Z9:∀ {a b:List Nat},Uf a b=true->a=b
 | [],[],_=>rfl
 | x :: r,y :: s,h=>by
  simp only [Uf,Ana] at h;rw [Nat.eq_of_beq_eq_true h.1,Z9 h.2]
 | [],_ :: _,h=>by simp [Uf] at h
 | _ :: _,[],h=>by simp [Uf] at h
theorem Gs{w:World}{lo:Nat}{ro:Loop}(h:w.heap[lo]?=some (.loop ro))(fn:FuncId)(tmps:Array Value)(ps:Array Tmp)(assign body:Code) :
  (Instr.enterLoop fn tmps ps assign body (some lo)).run P w =
   .ok (w.heap.size,[]) (w.alloc (.loop { state:=.ready,pending:=none,fn,tmps,params:=ps,assign,body,defers:=ro.defers })):=by
 unfold Instr.enterLoop;simp only [Sem.run_bind,run_getLoop h,run_newObj_alloc,Result.andThen,Sem.run_pure]
section scope
variable {b:Frame}{a:Act}{k:List Item}{cs:List Frame}{w:World}{Q:Exit->Act->World->Prop}{F:Fence}{m:Nat}
theorem EJ{c:Code}:step P (lone (b.atR a (.code (.scope c) :: k)) cs w)=.next (lone (b.atR a (.code c :: .inScope c :: k)) cs w) :=
 step_lone_go (by simp [stepG,stepG.exec,Frame.atR])
theorem Vr{c:Code}:step P (lone (b.atR a (.inScope c :: k)) cs w)=.next (lone (b.atR a k) cs w) :=
 step_lone_go (by simp [stepG,stepG.exec,Frame.atR])
theorem UR{c:Code}(h:c.wpIn F m P (Exit.noGoto Q) a w):(Code.scope c).wpIn F m P Q a w:=by
 intro b k cs nR hb hr;have h0:(lone (b.atR a (.code (.scope c) :: k)) cs w).fenced P F:=fenced_calm hb hr rfl;obtain⟨e,a₁,w₁,hq,harr⟩:=h b (.inScope c :: k) cs nR hb hr;cases e with
 | normal=>exact⟨.normal,a₁,w₁,hq,.head h0 EJ (StepsIn.trans harr (.one (fenced_calm hb hr rfl) Vr))⟩
 | exit id =>
  have hx:exitTo id (.inScope c :: k)=exitTo id k:=by simp [exitTo]
  exact⟨.exit id,a₁,w₁,hq,λ k' hk=>.head h0 EJ (harr.1 k' (by rw [hx];exact hk)),
   λ bK hk=>let ⟨k₁,h1,h2⟩:=harr.2 bK (by rw [hx];exact hk);⟨k₁,h1,.head h0 EJ h2⟩⟩
 | goto l=>exact hq.elim
 | ret=>exact⟨_,a₁,w₁,hq,.of_steps (.one h0 EJ) harr⟩
 | panic ch=>exact⟨_,a₁,w₁,hq,.of_steps (.one h0 EJ) harr⟩
 | outgrown=>exact⟨_,a₁,w₁,hq,.of_steps (.one h0 EJ) harr⟩
end scope
theorem VU(bE:P.follows .mixedOrders=true)(c:Code):∀(rd:Option Nat) (m:Nat) (K:Exit->Fr->List Nat->World->Prop) (fr:Fr) (ms:List Nat) (w:World) (a:Act),AO fr a->a.tmps.size=n->a.defers=marks ms ->
  den P n L C c rd K fr ms w->c.wpIn (FF rd) m P (AfM n a (λ i=>writes i c) (AR c) K) a w:=by
 induction c with
 | skip=>intro rd m K fr ms w a hg hn hd h;exact wpIn_skip ⟨.refl hn,fr,ms,hg,hd,h⟩
 | label l=>intro rd m K fr ms w a hg hn hd h;exact wpIn_label ⟨.refl hn,fr,ms,hg,hd,h⟩
 | exit id=>intro rd m K fr ms w a hg hn hd h;exact wpIn_exit ⟨.refl hn,fr,ms,hg,hd,h⟩
 | ret=>intro rd m K fr ms w a hg hn hd h;exact wpIn_ret ⟨.refl hn,fr,ms,hg,hd,h⟩
 | seq x y ihx ihy =>
  intro rd m K fr ms w a hg hn hd h;have hV:∀ i,writes i (Code.seq x y)=false->writes i x=false/\writes i y=false:=λ i hi=>by simpa [writes] using hi
  have hR:AR (Code.seq x y)=true->AR x=true/\AR y=true:=λ hi=>by simpa [AR] using hi
  unfold den at h;split at h
  ·refine wpIn_seq (wpIn_mono (ihx rd m _ fr ms w a hg hn hd h) ?_);rintro e a' w' ⟨aA,aI,aP,aV,cm,hk⟩;cases e with
   | normal =>
    refine wpIn_mono (ihy rd m K aI aP w' a' aV aA.size cm hk) ?_;rintro e2 a2 w2 ⟨df,fI,fY,fU,eZ,bH⟩;exact⟨aA.trans df hV hR,fI,fY,fU,eZ,bH⟩
   | _=>exact⟨aA.weaken (λ i hi=>(hV i hi).1) (λ hi=>(hR hi).1),aI,aP,aV,cm,hk⟩
  ·rename_i hint hh;cases gk:Ng x hint.keep with
   | false=>rw [gk] at h;exact h.elim
   | true =>
    rw [gk] at h;cases kO:AR x with
    | true =>
     rw [kO] at h;obtain⟨Y,hbefore,hbehind⟩:=h;refine wpIn_seq (wpIn_mono (ihx rd m _ fr ms w a hg hn hd hbefore) ?_);rintro e a' w' ⟨aA,aI,aP,aV,cm,hk⟩;cases e with
     | normal =>
      obtain⟨s,hs,hl,hY⟩:=LR aV hk;have cq:=Ib hbehind hl w' hY;have aR:=DQ (DD (keep:=hint.keep) hg aA.same gk) hs;refine wpIn_mono (ihy rd m K _ ms w' a' aR aA.size ((aA.defers kO).trans hd) cq) ?_;rintro e2 a2 w2 ⟨df,fI,fY,fU,eZ,bH⟩;exact⟨aA.trans df hV hR,fI,fY,fU,eZ,bH⟩
     | _=>exact⟨aA.weaken (λ i hi=>(hV i hi).1) (λ hi=>(hR hi).1),aI,aP,aV,cm,hk⟩
    | false =>
     rw [kO] at h;obtain⟨Y,hbefore,hbehind⟩:=h;refine wpIn_seq (wpIn_mono (ihx rd m _ fr ms w a hg hn hd hbefore) ?_);rintro e a' w' ⟨aA,aI,aP,aV,cm,hk⟩;cases e with
     | normal =>
      obtain⟨s,hs,hl,hY⟩:=LR aV hk;have cq:=Ib hbehind hl aP w' hY;have aR:=DQ (DD (keep:=hint.keep) hg aA.same gk) hs;refine wpIn_mono (ihy rd m K _ aP w' a' aR aA.size cm cq) ?_;rintro e2 a2 w2 ⟨df,fI,fY,fU,eZ,bH⟩;exact⟨aA.trans df hV hR,fI,fY,fU,eZ,bH⟩
     | _=>exact⟨aA.weaken (λ i hi=>(hV i hi).1) (λ hi=>(hR hi).1),aI,aP,aV,cm,hk⟩
 | cond c x y ihx ihy =>
  intro rd m K fr ms w a hg hn hd h;have hV:∀ i,writes i (Code.cond c x y)=false->writes i x=false/\writes i y=false:=λ i hi=>by simpa [writes] using hi
  have hR:AR (Code.cond c x y)=true->AR x=true/\AR y=true:=λ hi=>by simpa [AR] using hi
  unfold den at h;split at h
  ·rename_i t ht;have hc:=hg.eval _ _ ht;have key:(t=true->∃ aI,AO aI a/\den P n L C x rd K aI ms w)/\(t=false->∃ aI,AO aI a/\den P n L C y rd K aI ms w):=by
    split at h
    ·rename_i i;have aR:=hg.again (show look fr i=some (.bool t) from ht);cases t with
     | true=>exact⟨λ _=>⟨_,aR,h⟩,by simp⟩
     | false=>exact⟨by simp,λ _=>⟨_,aR,h⟩⟩
    ·cases t with
     | true=>exact⟨λ _=>⟨_,hg,h⟩,by simp⟩
     | false=>exact⟨by simp,λ _=>⟨_,hg,h⟩⟩
   refine wpIn_cond_split hc (λ ht=>?_) (λ hf=>?_)
   ·obtain⟨aI,aV,h'⟩:=key.1 ht;refine wpIn_mono (ihx rd m K aI ms w a aV hn hd h') ?_;rintro e a' w' ⟨aA,r⟩;exact⟨aA.weaken (λ i hi=>(hV i hi).1) (λ hi=>(hR hi).1),r⟩
   ·obtain⟨aI,aV,h'⟩:=key.2 hf;refine wpIn_mono (ihy rd m K aI ms w a aV hn hd h') ?_;rintro e a' w' ⟨aA,r⟩;exact⟨aA.weaken (λ i hi=>(hV i hi).2) (λ hi=>(hR hi).2),r⟩
  ·exact h.elim
 | block id c ih =>
  intro rd m K fr ms w a hg hn hd h;unfold den at h;refine wpIn_block (wpIn_mono (ih rd m _ fr ms w a hg hn hd h) ?_);rintro e a' w' ⟨aA,aI,aP,aV,cm,hk⟩;cases e with
  | exit j =>
   simp only [Exit.inBlock]
   replace hk:bif Nat.beq j id then K .normal aI aP w' else K (.exit j) aI aP w':=hk
   cases hb:Nat.beq j id with
   | true =>
    have dE:j=id:=Nat.eq_of_beq_eq_true hb;rw [if_pos dE];rw [hb] at hk;exact⟨aA,aI,aP,aV,cm,hk⟩
   | false =>
    have dE:¬ j=id:=λ he=>by subst he;simp at hb
    rw [if_neg dE];rw [hb] at hk;exact⟨aA,aI,aP,aV,cm,hk⟩
  | _=>exact⟨aA,aI,aP,aV,cm,hk⟩
 | loop c ih =>
  intro rd m K fr ms w a hg hn hd h;unfold den at h;split at h
  ·exact h.elim
  ·rename_i hint hh;cases gk:Ng c hint.keep with
   | false=>rw [gk] at h;exact h.elim
   | true =>
    rw [gk] at h;cases kO:AR c with
    | true =>
     rw [kO] at h;obtain⟨Inv,mu,hent,aE⟩:=h;refine wpIn_loop (λ a' w'=>St n a (λ i=>writes i c) (AR c) a'/\∃ s,KR a' hint.Db=some s/\EE (hint.Db.map (·.2)) s=true/\Inv s w')
      (λ a' w'=>mu ((KR a' hint.Db).getD []) w') ?_ ?_
     ·obtain⟨s,hs,hl,hi⟩:=LR hg hent;exact⟨.refl hn,s,hs,hl,hi⟩
     ·rintro a' w' ⟨aA,s,hs,hl,hi⟩;have cq:=Ib aE hl w' hi;have aR:=DQ (DD (keep:=hint.keep) hg aA.same gk) hs;refine wpIn_mono (ih rd m _ _ ms w' a' aR aA.size ((aA.defers kO).trans hd) cq) ?_;rintro e a2 w2 ⟨df,fI,fY,fU,eZ,bH⟩;have iA:St n a (λ i=>writes i c) (AR c) a2:=aA.trans df (λ i hi=>⟨hi,hi⟩) (λ hi=>⟨hi,hi⟩);cases e with
      | normal =>
       obtain⟨s2,gy,bQ,gM,aB⟩:=LR fU bH;exact⟨⟨iA,s2,gy,bQ,gM⟩,by simpa [hs,gy] using aB⟩
      | _=>exact⟨iA,fI,fY,fU,eZ,bH⟩
    | false =>
     rw [kO] at h;obtain⟨Inv,mu,hent,aE⟩:=h;refine wpIn_loop (λ a' w'=>St n a (λ i=>writes i c) (AR c) a'/\∃ s aP,KR a' hint.Db=some s/\EE (hint.Db.map (·.2)) s=true/\a'.defers=marks aP/\Inv s aP w')
      (λ a' w'=>mu ((KR a' hint.Db).getD []) w') ?_ ?_
     ·obtain⟨s,hs,hl,hi⟩:=LR hg hent;exact⟨.refl hn,s,ms,hs,hl,hd,hi⟩
     ·rintro a' w' ⟨aA,s,aP,hs,hl,cm,hi⟩;have cq:=Ib aE hl aP w' hi;have aR:=DQ (DD (keep:=hint.keep) hg aA.same gk) hs;refine wpIn_mono (ih rd m _ _ aP w' a' aR aA.size cm cq) ?_;rintro e a2 w2 ⟨df,fI,fY,fU,eZ,bH⟩;have iA:St n a (λ i=>writes i c) (AR c) a2:=aA.trans df (λ i hi=>⟨hi,hi⟩) (λ hi=>⟨hi,hi⟩);cases e with
      | normal =>
       obtain⟨s2,gy,bQ,gM,aB⟩:=LR fU bH;exact⟨⟨iA,s2,fY,gy,bQ,eZ,gM⟩,by simpa [hs,gy] using aB⟩
      | _=>exact⟨iA,fI,fY,fU,eZ,bH⟩
 | region id ops draw =>
  intro rd m K fr ms w a hg hn hd h;have hQ:∀ a' w',AfN n a (λ i=>BF i ops.toList) (λ aI w'=>K .normal aI ms w') a' w'->AfM n a (λ i=>writes i (Code.region id ops draw)) (AR (Code.region id ops draw)) K .normal a' w':=by
   rintro a' w' ⟨aA,aI,aV,hk⟩;exact⟨⟨aA.size,λ _=>aA.defers rfl,λ i hi=>aA.same i (by simpa [writes] using hi)⟩,aI,ms,aV,(aA.defers rfl).trans hd,hk⟩
  have hP:∀ a' ch w',St n a (λ i=>BF i ops.toList) true a'->Acj (Wl C λ ch w'=>K (.panic ch) [] ms w') ch w'->AfM n a (λ i=>writes i (Code.region id ops draw)) (AR (Code.region id ops draw)) K (.panic ch) a' w':=by
   intro a' ch w' aA hk;refine⟨⟨aA.size,λ _=>aA.defers rfl,λ i hi=>aA.same i (by simpa [writes] using hi)⟩,[],ms,(by intro i v h;simp [look] at h),(aA.defers rfl).trans hd,?_⟩;unfold Wl at hk;split at hk
   ·exact hk.elim
   ·exact hk
  cases draw with
  | false =>
   refine wpIn_region (GI rd m hQ hP _ _ _ (.refl hn) ?_);have:=M3 (P:=P) (kp:=Wl C λ ch w'=>K (.panic ch) [] ms w') (n:=n) (ops:=ops) (a0:=a) (K:=λ aI w'=>K .normal aI ms w') ops.toList 0 rfl fr w a hg (.refl hn) h;rw [List.range_eq_range'];rw [Array.length_toList] at this;exact this
  | true =>
   unfold den at h;cases dx:Region.noSelect ops with
   | false=>rw [dx] at h;exact h.elim
   | true =>
    rw [dx] at h;have:=Za (P:=P) (kp:=Wl C λ ch w'=>K (.panic ch) [] ms w') (n:=n) (ops:=ops) (a0:=a) dx (K:=λ aI w'=>K .normal aI ms w') ops.size _ [] fr w.drew a hg (.refl hn) HQ.start (by simp) h;exact wpIn_region_any bE (GG rd m hQ hP _ _ _ _ _ (.refl hn) this)
 | scope c ih =>
  intro rd m K fr ms w a hg hn hd h;unfold den at h;refine UR (wpIn_mono (ih rd m _ fr ms w a hg hn hd h) ?_);rintro e a' w' ⟨aA,aI,aP,aV,cm,hk⟩;cases e with
  | goto l=>exact hk.elim
  | _=>exact⟨aA,aI,aP,aV,cm,hk⟩
 | rangeFunc g ps x y ihx ihy =>
  intro rd m K fr ms w a hg hn hd h;unfold den at h;split at h
  ·exact h.elim
  ·rename_i hint hh;cases ar:Uf (hint.Db.map (·.1)) ps.toList && AR x with
   | false=>rw [ar] at h;exact h.elim
   | true =>
    rw [ar] at h;simp only [Ana] at ar;have cU:=Z9 ar.1;have bS:ps.size=(hint.Db.map (·.2)).length:=by rw [<- Array.length_toList,<- cU];simp
    obtain⟨f,fi,ca,hv,bP,hr⟩:=AfG h;have mj:=hg.eval _ _ hv;have round:∀(rr:Loop) (l:Nat),rr.state=.ready->rr.pending=none->rr.params=ps->rr.tmps=a.tmps->rr.assign=x->rr.body=y ->
      WK (hint.Db.map (·.2)) λ vs=>∀(k:Bool->World->Prop) (w:World),w.heap[l]?=some (.loop rr)->den P n L C x (some l) (λ e fH _ w1=>match e with
       | .normal=>Ic rr l (λ w2=>den P n L C y (some l) (λ e _ _ w3=>match e with
        | .normal=>Bv rr l k none w3
        | .ret=>Bv rr l k (some .ret) w3
        | .exit i=>Bv rr l k (some (.exit i)) w3
        | _=>False) fH [] w2) w1
       | _=>False) (G3 n fr ps.toList vs) [] w->GJ P l ⟨vs⟩ k w:=by
     intro rr l aA bJ jX jb has iH;refine Yu λ vs nW k wx sA cq=>?_;have av:(⟨vs⟩:Array Value).size=rr.params.size:=by rw [jX,bS];exact nW
     refine⟨_,_,_,_,run_yield sA av,roundIn_of_wpIn (F:=Fence.wide) trivial ?_⟩;rw [jX,jb,has,iH];have ez:(ps.zip (⟨vs⟩:Array Value)).foldl (λ (t:Array Value) (x:Tmp × Value)=>t.setIfInBounds x.1 x.2) a.tmps=(ps.toList.zip vs).foldl (λ t x=>t.setIfInBounds x.1 x.2) a.tmps:=by
      rw [<- Array.foldl_toList];simp
     have aR:=H5 (n:=n) ps.toList vs fr a.tmps hg hn;rw [<- ez] at aR;refine wpIn_mono (ihx (some l) 0 _ _ [] wx _ aR.1 aR.2 rfl cq) ?_;rintro e a1 w1 ⟨hJ,fH,sX,qw,il,dd⟩;cases e with
     | normal =>
      obtain⟨dC,dd⟩:=dd;refine⟨_,run_beginRound dC aA,?_⟩;have qo:a1.defers=marks []:=hJ.defers ar.2;refine wpIn_mono (ihy (some l) 0 _ fH [] _ a1 qw hJ.size qo dd) ?_;rintro e2 a2 w2 ⟨_,fI,fY,_,_,bH⟩;cases e2 with
      | normal=>exact⟨_,_,run_endRound none bH.1,true,rfl,bH.2⟩
      | ret=>exact⟨_,_,run_endRound (some .ret) bH.1,false,rfl,bH.2⟩
      | exit i=>exact⟨_,_,run_endRound (some (.exit i)) bH.1,false,rfl,bH.2⟩
      | _=>exact bH.elim
     | _=>exact dd.elim
    have post:∀(rr:Loop) (l:Nat) (aP:List Nat) (w3:World),Ie rr l (λ j w'=>orJ j (λ e=>K e fr (aP++ms) w') (Sq y)) w3->∀ v,
      rangePost (FF rd) m P l (AfM n a (λ i=>writes i (Code.rangeFunc g ps x y)) (AR (Code.rangeFunc g ps x y)) K) { a with defers:=marks aP++a.defers } (.returned v) w3:=by
     rintro rr l aP w3 ⟨j,hj,hk⟩ v;have rP:(if j.isNone then LoopState.ready else .done)≠.busy:=by split <;> simp
     refine⟨_,_,run_endLoop hj rP,?_⟩;have hl:∀ {e w'},K e fr (aP++ms) w'->AfM n a (λ i=>writes i (Code.rangeFunc g ps x y)) (AR (Code.rangeFunc g ps x y)) K e { a with defers:=marks aP++a.defers } w':=by
      intro e w' hK;exact⟨⟨hn,λ h=>(by cases h),λ _ _=>rfl⟩,fr,aP++ms,hg,by simp [marks,hd],hK⟩
     obtain⟨z,hz,e1,e2⟩:=Adw hk;rcases ZT hz with rfl | rfl | ⟨i,rfl⟩
     ·subst e1;exact hl e2
     ·subst e1;exact wpIn_ret (hl e2)
     ·subst e1;exact wpIn_exit (hl e2)
    refine wpIn_rangeFunc λ fn _=>?_;have hinv:∀(l:Nat) (w1:World),(resolve a.eval (rangeCall g l) 0).run P w1=.ok { target:=.fn (.func f) ca,args:=fi++#[.func (.yield l) #[] #[]] } w1 /\
      (invoke (.fn (.func f) ca) (fi++#[.func (.yield l) #[] #[]])).run P w1=.ok (.enter f ⟨fi.toList++[.func (.yield l) #[] #[]]++ca.toList⟩) w1:=by
     intro l w1;constructor
     ·simp only [resolve,mj,Deferred.ofValue];simp [Act.eval]
     ·have ha:fi++#[.func (.yield l) #[] #[]]++ca=⟨fi.toList++[.func (.yield l) #[] #[]]++ca.toList⟩:=Array.ext' (by simp);simp only [invoke,M4 bP,ha]
    cases rd with
    | none =>
     have hc:=hr _ rfl rfl (round { state:=.ready,pending:=none,fn,tmps:=a.tmps,params:=ps,assign:=x,body:=y,defers:=w.heap.size } (w.heap.size+1) rfl rfl rfl rfl rfl rfl);refine⟨_,_,_,_,_,f,_,_,run_enterLoop_outer _ _ _ _ _,(hinv _ _).1,λ _ _=>trivial,(hinv _ _).2,λ h=>(by cases h),?_⟩;refine CallsIn.mono (F:=FF none) (callsIn_wide.2 hc) ?_;rintro e w3 ⟨⟨v,rfl⟩,he⟩;exact post _ _ [w.heap.size] w3 he v
    | some lo =>
     obtain⟨⟨ro,nR⟩,hr⟩:=hr;have hc:=hr _ rfl rfl (round { state:=.ready,pending:=none,fn,tmps:=a.tmps,params:=ps,assign:=x,body:=y,defers:=ro.defers } w.heap.size rfl rfl rfl rfl rfl rfl);refine⟨_,_,_,_,_,f,_,_,Gs nR _ _ _ _ _,(hinv _ _).1,λ _ _=>trivial,(hinv _ _).2,λ h=>(by cases h),?_⟩;have cR:=(callsIn_wide (n:=m-1)).2 hc;refine CallsIn.mono (F:=FF (some lo)) ⟨trivial,λ cs _=>cR.2 cs (WN none _)⟩ ?_;rintro e w3 ⟨⟨v,rfl⟩,he⟩;exact post _ _ [] w3 he v
 | goto l=>intro rd m K fr ms w a hg hn hd h;exact h.elim
 | refuse s=>intro rd m K fr ms w a hg hn hd h;exact h.elim
theorem IY(tmps:Array Value):∀(args:List Value) (i:Nat),(∀ j v,args[j]?=some v->tmps[i+j]?=some v)->AO (NX i args) ⟨tmps,[]⟩
 | [],_,_=>by intro j v h;simp [NX,look] at h
 | x :: r,i,h=>by
  intro j u hu;simp only [NX] at hu;rw [Iy] at hu;by_cases dc:i=j
  ·subst dc;simp at hu;subst hu;exact h 0 x rfl
  ·simp only [dc,if_false] at hu;exact IY tmps r (i+1) (λ k v hk=>by have:=h (k+1) v (by simpa using hk);rwa [show i+(k+1)=i+1+k by omega] at this) j u hu
def Qs(tmps:Array Value):ResultVar->Sem Value
 | .tmp t=>pure (tmps.getD t undef)
 | .cell a t=>do loadVar t (<- asAddr (tmps.getD a undef))
theorem OX{fr:Fr}{a:Act}(hg:AO fr a):∀(rs:List ResultVar) (k:List Value->World->Prop) (w:World),Us P fr rs k w ->
  ∃ vs,k vs w/\vs.length=rs.length/\(rs.mapM (Qs a.tmps)).run P w=.ok vs w
 | [],k,w,h=>⟨[],h,rfl,by simp⟩
 | .tmp t :: r,k,w,h=>by
  obtain⟨v,hv,h⟩:=Bd h;obtain⟨vs,hk,hl,hr⟩:=OX hg r _ w h;refine⟨v :: vs,hk,by simp [hl],?_⟩;have:=hg _ _ hv;simp [Qs,this,hr]
 | .cell ad t :: r,k,w,h=>by
  obtain⟨p,v,hh,hx,rC,hholds,aD⟩:=P0 h;obtain⟨vs,hk,hl,hr⟩:=OX hg r _ w rC;refine⟨v :: vs,hk,by simp [hl],?_⟩;have h1:=hg _ _ hx;have h2:=aD w hholds;simp only [Instr.loadAt,Instr.sureAddr,Sem.run_bind,Sem.run_pure,Result.andThen_ok] at h2;simp [Qs,h1,asAddr,h2,hr]
theorem Re{fn:Func}{tmps:Array Value}{vs:List Value}{w:World}(h:(fn.results.toList.mapM (Qs tmps)).run P w=.ok vs w) :
  (results fn tmps).run P w=.ok (A8 vs) w:=by
 have e:results fn tmps=(do let vs <- fn.results.mapM (Qs tmps);pure (if h:vs.size=1 then vs[0] else .tuple vs)):=by
  rfl
 rw [e];have h2:(fn.results.mapM (Qs tmps)).run P w=.ok vs.toArray w:=by
  rw [Array.mapM_eq_mapM_toList];simp [h]
 simp only [Sem.run_bind,h2,Result.andThen_ok,Sem.run_pure];congr 1
 match vs with
 | []=>simp [A8]
 | [v]=>simp [A8]
 | _ :: _ :: _=>simp [A8]
theorem FM{fn:Func}{tmps:Array Value}{k:World->Prop}{R:Ending->World->Prop}(hk:∀ w,k w->∃ v,(results fn tmps).run P w=.ok v w/\R (.returned v) w) :
  ∀(ms:List Nat) (w:World),SW ms k w->LeavesInM Fence.wide 0 P fn tmps R (marks ms) .returning w
 | [],w,h=>hk w h
 | d :: ds,w,h=>⟨by simp,.inl ⟨d,_,rfl,run_takeDeferred h.1,FM hk ds _ h.2⟩⟩
theorem Aby(bE:P.follows .mixedOrders=true){f:FuncId}{args:List Value}{k:Value->World->Prop}{w:World}(h:Ako P L C f args k w) :
  Calls P f ⟨args⟩ w λ e w'=>∃ v,e=.returned v/\k v w':=by
 unfold Ako at h;split at h
 ·rename_i fn hf;split at h
  ·rename_i c hc;cases hl:Nat.ble args.length fn.ntmps with
   | false=>rw [hl] at h;exact h.elim
   | true =>
    rw [hl] at h;simp only [cond_true] at h;have hle:args.length<=fn.ntmps:=Nat.le_of_ble_eq_true hl;refine callsIn_wide.1 (callsIn_of_wp_marks (F:=Fence.wide) (n:=0) hf hc trivial ?_);have aR:AO (NX 0 args) ⟨(⟨args⟩:Array Value)++Array.replicate (fn.ntmps-args.length) undef,[]⟩:=by
     refine IY _ args 0 λ j v hj=>?_;have gN:j<args.length:=(List.getElem?_eq_some_iff.1 hj).1;rw [Nat.zero_add,Array.getElem?_append_left (by simpa using gN)];simpa using hj
    refine wpIn_mono (VU (n:=fn.ntmps) bE c none 0 _ (NX 0 args) [] w _ aR (by simp;omega) rfl h) ?_;have fin:∀(aI:Fr) (a':Act),AO aI a'->∀ w',Us P aI fn.results.toList (λ vs au=>k (A8 vs) au) w'->∃ v,(results fn a'.tmps).run P w'=.ok v w'/\∃ u,Ending.returned v=.returned u/\k u w':=by
     intro aI a' aV w' hk;obtain⟨vs,hk,_,hr⟩:=OX aV _ _ _ hk;exact⟨_,Re hr,_,rfl,hk⟩
    rintro e a' w' ⟨aA,aI,aP,aV,cm,hk⟩;cases e with
    | normal =>
     show LeavesInM _ _ _ _ _ _ _ _ _;rw [cm];exact FM (fin aI a' aV) aP w' hk
    | ret =>
     show LeavesInM _ _ _ _ _ _ _ _ _;rw [cm];exact FM (fin aI a' aV) aP w' hk
    | _=>exact hk.elim
  ·exact h.elim
 ·exact h.elim
end
end Go.Dn
