/-
  Texts of this claim, laid one behind the other by a program of mine (install.py): Dn.Ev17, Dn.Ev18, Dn.Ev19, Dn.Ev20, Dn.Ev21, Dn.Ev22, Dn.Ev23, Z.Sh0, Z.ShG, Z.XEnv, Z.Ex, Z.Sch5, Z.Bits, Z.IntsL, Z.Sig2, Z.Laid, Z.Enc, Z.Enc2, Z.IntsR, Z.IntsP, Z.IntsE, Z.IntsB, Z.RefEnc, Z.RefEnc2, Z.RefEnc3, Z.Best, Dn.Crc, Z.Sum, Z.Ch1, Z.Sch6, Z.Kd.
-/
import Derived.Test.YtegnhfeclchlmaaGreatDoorM5
import Derived.LoopNIn
import Derived.Test.YtegnhfeclchlmaaGreatDoorM4
import Derived.Test.YtegnhfeclchlmaaGreatDoorM3
import Derived.Test.YtegnhfeclchlmaaGreatDoorM1
import Derived.Test.YtegnhfeclchlmaaGreatDoorRows
import Derived.Lib.ItoaLen
set_option linter.unusedVariables false
set_option maxRecDepth 100000
namespace Go.Dn
open _root_.Nat renaming le_refl -> Ajx
open _root_.Option.some renaming injEq -> AjY
open _root_.Prod.mk renaming injEq -> AjI
open Go.RowKit (Below)
section
variable {P:Program}{g:Sg}{w0 w:World}
def Agr(a b:Ft × Nat × List AI):Bool:=Mw a.1 b.1 && Nat.beq a.2.1 b.2.1 && Uc a.2.2 b.2.2
noncomputable def FB (P:Program) (G:GT) (X:XF) (n:Nat) (ops:Array Oper) (Y:YT) (base:Nat):Nat->List Nat->Array Bool->List (Nat × GI)->Ft->Nat->List AI->Option (Ft × Nat × List AI)
 | 0,_,listed,_,fr,nx,H=>bif (Acr ops listed).isEmpty then some (fr,nx,H) else none
 | f+1,used,listed,held,fr,nx,H =>
  match Acr ops listed with
  | []=>some (fr,nx,H)
  | i0 :: rs =>
   match (i0 :: rs).find? (OU P ops .pure) with
   | some i=>(match ops[i]? with
    | some o=>bif Region.free .any ops listed i then
      Fi ops o fr (λ fr=>match eP P (eO fr) o with
       | some v=>FB P G X n ops Y base f used (listed.setIfInBounds i true) held (F9 n fr o.dst v) nx H
       | none=>none) (λ fr=>FB P G X n ops Y base f used (listed.setIfInBounds i true) held (F9 n fr o.dst undef) nx H) else none
    | none=>none)
   | none =>
    match (i0 :: rs).find? (OU P ops .read) with
    | some i=>(match ops[i]? with
     | some o=>bif Region.free .any ops listed i then
       Fi ops o fr (λ fr=>match o.op with
        | .load t a=>(match OO P G H t (eO fr a) with
         | some (v,hd)=>FB P G X n ops Y base f used (listed.setIfInBounds i true) ((i,hd) :: held) (F9 n fr o.dst v) nx H
         | none=>none)
        | _=>none) (λ fr=>FB P G X n ops Y base f used (listed.setIfInBounds i true) held (F9 n fr o.dst undef) nx H) else none
     | none=>none)
    | none =>
     let one:=λ j=>match ops[j]? with
      | some o=>bif Jl o then
        Fi ops o fr (λ fr=>match TF P X (eO fr) o Y ⟨nx,H⟩ with
         | some (v,S')=>bif GM G S'.H (Ay ops j) held then FB P G X n ops Y base f used (listed.setIfInBounds j true) (held.filter λ s=>!(Ay ops j).contains s.1) (F9 n fr o.dst v) S'.nx S'.H else none
         | none=>none) (λ fr=>FB P G X n ops Y base f used (listed.setIfInBounds j true) (held.filter λ s=>!(Ay ops j).contains s.1) (F9 n fr o.dst undef) nx H)
       else bif used.contains j then none else
        Fi ops o fr (λ fr=>match Y6 P G (eO fr) o ⟨base+j,H⟩ with
         | some (v,S')=>bif GM G S'.H (Ay ops j) held then FB P G X n ops Y base f (j :: used) (listed.setIfInBounds j true) (held.filter λ s=>!(Ay ops j).contains s.1) (F9 n fr o.dst v) nx S'.H else none
         | none=>none) (λ fr=>FB P G X n ops Y base f (j :: used) (listed.setIfInBounds j true) (held.filter λ s=>!(Ay ops j).contains s.1) (F9 n fr o.dst undef) nx H)
      | none=>none
     match one i0 with
     | some r=>bif rs.all λ j=>match one j with
       | some r'=>Agr r r'
       | none=>false then some r else none
     | none=>none
theorem Aax{f:Nat->Prop}:∀ {l:List Nat},(∀ i∈l,f i)->Adh l f
 | [],_=>trivial
 | [i],h=>h i (by simp)
 | i :: j :: r,h=>⟨h i (by simp),Aax (l:=j :: r) λ k hk=>h k (by simp at hk ⊢;exact .inr hk)⟩
def SL(base sz nx:Nat)(used:List Nat)(g:Sg):Prop:=(∀ j,j<sz->j∉used->g (base+j)=none)/\(∀ i,nx<=i->g i=none)/\base+sz<=nx
theorem Ext.low{n m b:Nat}{g g':Sg}(h:Ext n m g g')(hb:b<=n):Ext b b g g':=⟨h.1,λ i hi=>h.2.1 i (Nat.lt_of_lt_of_le hi hb),Ajx _⟩
theorem SL.act{base sz nx j:Nat}{used:List Nat}{g g':Sg}(h:SL base sz nx used g)(hj:j<sz)(hu:j∉used)(hg:g'=g\/∃ s,g'=up g (base+j) s):SL base sz nx (j :: used) g'/\Ext base base g g':=by
 obtain⟨h1,h2,h3⟩:=h;rcases hg with rfl | ⟨s,rfl⟩
 ·exact⟨⟨λ i hi hn=>h1 i hi (λ h=>hn (List.mem_cons_of_mem _ h)),h2,h3⟩,Ext.refl _ _⟩
 ·refine⟨⟨λ i hi hn=>?_,λ i hi=>?_,h3⟩,Le.up (h1 j hj hu) s,λ i hi=>?_,Ajx _⟩
  ·unfold up;rw [if_neg (λ h=>hn (by rw [show i=j by omega];exact List.mem_cons_self))];exact h1 i hi (λ h=>hn (List.mem_cons_of_mem _ h))
  ·unfold up;rw [if_neg (by omega)];exact h2 i hi
  ·unfold up;rw [if_neg (by omega)]
theorem D6{G:GT}{X:XF}(hX:XOK P G X)(hG:IE G w0){n:Nat}{ops:Array Oper}{Y:YT}{base:Nat}:∀(f:Nat) {used:List Nat} {listed:Array Bool} {held:List (Nat × GI)} {heldc:List (Nat × Et)} {fr aG:Ft} {frc:Fr} {nx iu:Nat} {H H':List AI} {g:Sg} {w:World},
  FB P G X n ops Y base f used listed held fr nx H=some (aG,iu,H')->SQ g w0 w H->SL base ops.size nx used g->FR g fr frc->HD g held heldc->UE g Y->∀ {K:Fr->World->Prop},
  (∀ g' bD w',Ext base iu g g'->FR g' aG bD->SX g' w0 w' ⟨iu,H'⟩->K bD w')->Dr P none n ops f listed heldc frc K w
 | 0,used,listed,held,heldc,fr,aG,frc,nx,iu,H,H',g,w,he,hS,hu,aL,hh,hY,K,hK=>by
  unfold FB at he;rw [Qg] at he;unfold Dr;have h1:=(AJ he).1
  replace he:=(AJ he).2
  simp only [AjY,AjI] at he;obtain⟨rfl,rfl,rfl⟩:=he;rw [h1];exact hK g frc w ⟨Le.refl _,λ _ _=>rfl,by have:=hu.2.2;omega⟩ aL ⟨hu.2.1,hS⟩
 | f+1,used,listed,held,heldc,fr,aG,frc,nx,iu,H,H',g,w,he,hS,hu,aL,hh,hY,K,hK=>by
  unfold FB at he;rw [Qg] at he;unfold Dr;split at he
  ·rename_i hr;simp only [hr];simp only [AjY,AjI] at he;obtain⟨rfl,rfl,rfl⟩:=he;exact hK g frc w ⟨Le.refl _,λ _ _=>rfl,by have:=hu.2.2;omega⟩ aL ⟨hu.2.1,hS⟩
  ·rename_i i0 rs hr;simp only [hr];split at he
   ·rename_i i hf;simp only [hf];split at he
    ·rename_i o ho;simp only [ho];have h1:=(AJ he).1
     replace he:=(AJ he).2
     rw [h1,cond_true];refine DX he aL (λ a a' ha hA=>?_) (λ a a' ha hB=>?_)
     ·split at hA
      ·rename_i v hv;exact AdC (Pq ha) hv λ c hc=>D6 hX hG f hA hS hu (ha.put _ hc) hh hY hK
      ·cases hA
     ·exact D6 hX hG f hB hS hu (ha.put _ (by simp [undef,R,RA,RL])) hh hY hK
    ·cases he
   ·rename_i hf;simp only [hf];split at he
    ·rename_i i gG;simp only [gG];split at he
     ·rename_i o ho;simp only [ho];have h1:=(AJ he).1
      replace he:=(AJ he).2
      rw [h1,cond_true];refine DX he aL (λ a a' ha hA=>?_) (λ a a' ha hB=>?_)
      ·split at hA
       ·rename_i t x cq;simp only [cq];split at hA
        ·rename_i v hd hl;exact Mh (S:=⟨0,H⟩) hG hS (Pq ha) hl λ c hc dh bU=>D6 hX hG f (heldc:=(i,hc) :: heldc) hA hS hu (ha.put _ dh) ⟨rfl,bU,hh⟩ hY hK
        ·cases hA
       ·cases hA
      ·exact D6 hX hG f hB hS hu (ha.put _ (by simp [undef,R,RA,RL])) hh hY hK
     ·cases he
    ·rename_i gG;simp only [gG];have one:∀(j:Nat) (r:Ft × Nat × List AI),(match ops[j]? with
       | some o=>bif Jl o then
         Fi ops o fr (λ fr=>match TF P X (eO fr) o Y ⟨nx,H⟩ with
          | some (v,S')=>bif GM G S'.H (Ay ops j) held then FB P G X n ops Y base f used (listed.setIfInBounds j true) (held.filter λ s=>!(Ay ops j).contains s.1) (F9 n fr o.dst v) S'.nx S'.H else none
          | none=>none) (λ fr=>FB P G X n ops Y base f used (listed.setIfInBounds j true) (held.filter λ s=>!(Ay ops j).contains s.1) (F9 n fr o.dst undef) nx H)
        else bif used.contains j then none else
         Fi ops o fr (λ fr=>match Y6 P G (eO fr) o ⟨base+j,H⟩ with
          | some (v,S')=>bif GM G S'.H (Ay ops j) held then FB P G X n ops Y base f (j :: used) (listed.setIfInBounds j true) (held.filter λ s=>!(Ay ops j).contains s.1) (F9 n fr o.dst v) nx S'.H else none
          | none=>none) (λ fr=>FB P G X n ops Y base f (j :: used) (listed.setIfInBounds j true) (held.filter λ s=>!(Ay ops j).contains s.1) (F9 n fr o.dst undef) nx H)
       | none=>none)=some r->(∀ g' bD w',Ext base r.2.1 g g'->FR g' r.1 bD->SX g' w0 w' ⟨r.2.1,r.2.2⟩->K bD w') ->
       (match ops[j]? with
       | some o =>
        H0 ops o frc (λ fr=>Ko P none (D8 fr) o (λ v w' =>
          stands (Ay ops j) heldc w' (Dr P none n ops f (listed.setIfInBounds j true) (Dn.kept (Ay ops j) heldc) (put n fr o.dst v) K w')) w)
         (λ fr=>Dr P none n ops f (listed.setIfInBounds j true) (Dn.kept (Ay ops j) heldc) (put n fr o.dst undef) K w)
       | none=>False):=by
      intro j r h0 lK;obtain⟨dr,nx1,H1⟩:=r;split at h0
      ·rename_i o ho
       try simp only [ho]
       have nG:j<ops.size:=(Array.getElem?_eq_some_iff.1 ho).1;cases bR:Jl o with
       | true =>
        rw [bR,cond_true] at h0;refine DX h0 aL (λ a a' ha hA=>?_) (λ a a' ha hB=>?_)
        ·split at hA
         ·rename_i v S2 fF;have h1:=(AJ hA).1
          replace hA:=(AJ hA).2
          refine WR hX hG (Pq ha) fF ⟨hu.2.1,hS⟩ hY λ g2 c w2 q1 q2 q3=>?_;refine HS (S:=S2) hG q3.2 ?_ (hh.le q1.1) h1;have gR:SL base ops.size S2.nx used g2:=by
           have h3:=hu.2.2;have h4:=q1.2.2;simp only at h4;refine⟨λ i hi hn=>?_,q3.1,by omega⟩;rw [q1.2.1 (base+i) (by simp only;omega)];exact hu.1 i hi hn
          exact D6 hX hG f hA q3.2 gR ((ha.le q1.1).put _ q2) ((hh.le q1.1).kept) (hY.le q1.1) λ g3 db w3 p1 p2 p3=>lK g3 db w3 ((q1.low (by have:=hu.2.2;simp only;omega)).trans p1) p2 p3
         ·cases hA
        ·exact D6 hX hG f hB hS hu (ha.put _ (by simp [undef,R,RA,RL])) hh.kept hY lK
       | false =>
        rw [bR,cond_false] at h0;cases hc:used.contains j with
        | true=>rw [hc,cond_true] at h0;cases h0
        | false =>
         rw [hc,cond_false] at h0;have nH:j∉used:=by simpa using hc
         refine DX h0 aL (λ a a' ha hA=>?_) (λ a a' ha hB=>?_)
         ·split at hA
          ·rename_i v S2 fF;have h1:=(AJ hA).1
           replace hA:=(AJ hA).2
           refine AaF hG (Pq ha) fF ⟨hu.1 j nG nH,hS⟩ λ g2 c w2 q1 q2 q3=>?_;obtain⟨m1,m2⟩:=hu.act nG nH q1;refine HS (S:=S2) hG q3 ?_ (hh.le m2.1) h1;exact D6 hX hG f hA q3 m1 ((ha.le m2.1).put _ q2) ((hh.le m2.1).kept) (hY.le m2.1) λ g3 db w3 p1 p2 p3=>lK g3 db w3 (m2.trans p1) p2 p3
          ·cases hA
         ·exact D6 hX hG f hB hS (hu.act nG nH (.inl rfl)).1 (ha.put _ (by simp [undef,R,RA,RL])) hh.kept hY lK
      ·cases h0
     simp only at he;split at he
     ·rename_i r pY;have h1:=(AJ he).1
      replace he:=(AJ he).2
      simp only [AjY] at he;subst he;refine Aax λ j hj=>?_;rcases List.mem_cons.1 hj with rfl | hj
      ·exact one j _ pY hK
      ·have h2:=List.all_eq_true.1 h1 j hj;split at h2
       ·rename_i r' bE;refine one j r' bE λ g' bD w' q1 q2 q3=>?_;simp only [Agr,Bool.and_eq_true] at h2;have fg:=Nat.eq_of_beq_eq_true h2.1.2;rw [<- fg] at q1 q3;exact hK g' bD w' q1 (q2.sub h2.1.1) ⟨q3.1,q3.2.perm h2.2⟩
       ·cases h2
     ·cases he
end
section
variable {P:Program}{g:Sg}{w0 w:World}
noncomputable def Kp (P:Program) (G:GT) (X:XF) (n:Nat) (ops:Array Oper) (Y:YT):Nat->Array Bool->List (Nat × GI)->Ft->AS->Option (Ft × AS)
 | 0,listed,_,fr,S=>bif (Acr ops listed).isEmpty then some (fr,S) else none
 | f+1,listed,held,fr,S =>
  match Acr ops listed with
  | []=>some (fr,S)
  | i0 :: rs =>
   match (i0 :: rs).find? (OU P ops .pure) with
   | some i=>(match ops[i]? with
    | some o=>bif Region.free .any ops listed i then
      Fi ops o fr (λ fr=>match eP P (eO fr) o with
       | some v=>Kp P G X n ops Y f (listed.setIfInBounds i true) held (F9 n fr o.dst v) S
       | none=>none) (λ fr=>Kp P G X n ops Y f (listed.setIfInBounds i true) held (F9 n fr o.dst undef) S) else none
    | none=>none)
   | none =>
    match (i0 :: rs).find? (OU P ops .read) with
    | some i=>(match ops[i]? with
     | some o=>bif Region.free .any ops listed i then
       Fi ops o fr (λ fr=>match o.op with
        | .load t a=>(match OO P G S.H t (eO fr a) with
         | some (v,hd)=>Kp P G X n ops Y f (listed.setIfInBounds i true) ((i,hd) :: held) (F9 n fr o.dst v) S
         | none=>none)
        | _=>none) (λ fr=>Kp P G X n ops Y f (listed.setIfInBounds i true) held (F9 n fr o.dst undef) S) else none
     | none=>none)
    | none =>
     match rs with
     | []=>(match ops[i0]? with
      | some o =>
        Fi ops o fr (λ fr=>match OP P G X (eO fr) o Y S with
         | some (v,S')=>bif GM G S'.H (Ay ops i0) held then Kp P G X n ops Y f (listed.setIfInBounds i0 true) (held.filter λ s=>!(Ay ops i0).contains s.1) (F9 n fr o.dst v) S' else none
         | none=>none) (λ fr=>Kp P G X n ops Y f (listed.setIfInBounds i0 true) (held.filter λ s=>!(Ay ops i0).contains s.1) (F9 n fr o.dst undef) S)
      | none=>none)
     | _ :: _=>(match FB P G X n ops Y S.nx (f+1) [] listed held fr (S.nx+ops.size) S.H with
      | some (aG,iu,H')=>some (aG,⟨iu,H'⟩)
      | none=>none)
theorem F8{G:GT}{X:XF}(hX:XOK P G X)(hG:IE G w0){n:Nat}{ops:Array Oper}{Y:YT}:∀(f:Nat) {listed:Array Bool} {held:List (Nat × GI)} {heldc:List (Nat × Et)} {fr aG:Ft} {frc:Fr} {S S':AS} {g:Sg} {w:World},
  Kp P G X n ops Y f listed held fr S=some (aG,S')->SX g w0 w S->FR g fr frc->HD g held heldc->UE g Y->∀ {K:Fr->World->Prop},
  (∀ g' bD w',Ext S.nx S'.nx g g'->FR g' aG bD->SX g' w0 w' S'->K bD w')->Dr P none n ops f listed heldc frc K w
 | 0,listed,held,heldc,fr,aG,frc,S,S',g,w,he,hS,aL,hh,hY,K,hK=>by
  unfold Kp at he;rw [Qg] at he;unfold Dr;have h1:=(AJ he).1
  replace he:=(AJ he).2
  simp only [AjY,AjI] at he;obtain⟨rfl,rfl⟩:=he;rw [h1];exact hK g frc w (Ext.refl _ _) aL hS
 | f+1,listed,held,heldc,fr,aG,frc,S,S',g,w,he,hS,aL,hh,hY,K,hK=>by
  unfold Kp at he;rw [Qg] at he;split at he
  ·rename_i hr;unfold Dr;simp only [hr];simp only [AjY,AjI] at he;obtain⟨rfl,rfl⟩:=he;exact hK g frc w (Ext.refl _ _) aL hS
  ·rename_i i0 rs hr;split at he
   ·rename_i i hf;unfold Dr;simp only [hr,hf];split at he
    ·rename_i o ho;simp only [ho];have h1:=(AJ he).1
     replace he:=(AJ he).2
     rw [h1,cond_true];refine DX he aL (λ a a' ha hA=>?_) (λ a a' ha hB=>?_)
     ·split at hA
      ·rename_i v hv;exact AdC (Pq ha) hv λ c hc=>F8 hX hG f hA hS (ha.put _ hc) hh hY hK
      ·cases hA
     ·exact F8 hX hG f hB hS (ha.put _ (by simp [undef,R,RA,RL])) hh hY hK
    ·cases he
   ·rename_i hf;split at he
    ·rename_i i gG;unfold Dr;simp only [hr,hf,gG];split at he
     ·rename_i o ho;simp only [ho];have h1:=(AJ he).1
      replace he:=(AJ he).2
      rw [h1,cond_true];refine DX he aL (λ a a' ha hA=>?_) (λ a a' ha hB=>?_)
      ·split at hA
       ·rename_i t x cq;simp only [cq];split at hA
        ·rename_i v hd hl;exact Mh hG hS.2 (Pq ha) hl λ c hc dh bU=>F8 hX hG f (heldc:=(i,hc) :: heldc) hA hS (ha.put _ dh) ⟨rfl,bU,hh⟩ hY hK
        ·cases hA
       ·cases hA
      ·exact F8 hX hG f hB hS (ha.put _ (by simp [undef,R,RA,RL])) hh hY hK
     ·cases he
    ·rename_i gG;split at he
     ·unfold Dr;simp only [hr,hf,gG,Adh];split at he
      ·rename_i o ho;simp only [ho];refine DX he aL (λ a a' ha hA=>?_) (λ a a' ha hB=>?_)
       ·split at hA
        ·rename_i v S2 fF;have h1:=(AJ hA).1
         replace hA:=(AJ hA).2
         refine WU hX hG (Pq ha) fF hS hY λ g2 c w2 q1 q2 q3=>?_;refine HS (S:=S2) hG q3.2 ?_ (hh.le q1.1) h1;exact F8 hX hG f hA q3 ((ha.le q1.1).put _ q2) ((hh.le q1.1).kept) (hY.le q1.1) λ g3 db w3 p1 p2 p3=>hK g3 db w3 (q1.trans p1) p2 p3
        ·cases hA
       ·exact F8 hX hG f hB hS (ha.put _ (by simp [undef,R,RA,RL])) hh.kept hY hK
      ·cases he
     ·split at he
      ·rename_i dt uO H2 hs;simp only [AjY,AjI] at he;obtain⟨rfl,rfl⟩:=he;exact D6 hX hG (f+1) hs hS.2 ⟨λ j _ _=>hS.1 _ (Nat.le_add_right _ _),λ i hi=>hS.1 i (by omega),Ajx _⟩ aL hh hY hK
      ·cases he
noncomputable def U4 (P:Program) (G:GT) (X:XF) (n:Nat) (ops:Array Oper) (draw:Bool) (Y:YT) (fr:Ft) (S:AS):Option (Ft × AS) :=
 match draw with
 | false=>AbM P G X n ops Y ops.toList fr S
 | true=>bif Region.noSelect ops then Kp P G X n ops Y ops.size (Array.replicate ops.size false) [] fr S else none
theorem Zf{G:GT}{X:XF}(hX:XOK P G X)(hG:IE G w0){n id:Nat}{ops:Array Oper}{draw:Bool}{Y:YT}{fr aG:Ft}{frc:Fr}{S S':AS}(he:U4 P G X n ops draw Y fr S=some (aG,S'))(hS:SX g w0 w S)(aL:FR g fr frc)(hY:UE g Y){rd:Option Nat}{ms:List Nat}{K:Exit->Fr->List Nat->World->Prop}
  (hK:∀ g' bD w',Ext S.nx S'.nx g g'->FR g' aG bD->SX g' w0 w' S'->K .normal bD ms w'):den P n [] [] (.region id ops draw) rd K frc ms w:=by
 cases draw with
 | false =>
  show Y3 P none n ops ops.toList frc (λ aG w'=>K .normal aG ms w') w;exact U3 hX hG he hS aL hY hK
 | true =>
  unfold den;simp only [U4] at he;have h1:=(AJ he).1
  replace he:=(AJ he).2
  rw [h1,cond_true];obtain⟨hn,L,hL,hT⟩:=hS;refine hT.draw λ w' _ gD=>?_;show Dr P none n ops ops.size (Array.replicate ops.size false) [] frc (λ aG aR=>K .normal aG ms aR) w';exact F8 hX hG _ he ⟨hn,L,hL,gD⟩ aL rfl hY hK
end
abbrev CR:=Exit × Ft × List Nat × AS
def Aa3(F:Ft->List Nat->AS->Option CR):Nat->Ft->List Nat->AS->Option CR
 | 0,_,_,_=>none
 | k+1,fr,ms,S=>match F fr ms S with
  | some (.normal,fr,ms,S)=>Aa3 F k fr ms S
  | r=>r
def Ae9(l:Nat)(fr:Ft)(ms:List Nat)(S:AS):Option CR :=
 match SM l S.H 0 with
 | some (j,.loop b st p)=>(match st,p with
  | .ready,none=>some (.normal,fr,ms,⟨S.nx,S.H.set j (.loop b .exhausted none)⟩)
  | .done,some .ret=>some (.ret,fr,ms,⟨S.nx,S.H.set j (.loop b .exhausted (some .ret))⟩)
  | .done,some (.exit i)=>some (.exit i,fr,ms,⟨S.nx,S.H.set j (.loop b .exhausted (some (.exit i)))⟩)
  | _,_=>none)
 | _=>none
def Zy(H:List AI)(l:Nat):Bool :=
 match SM l H 0 with
 | some (_,.loop _ _ _)=>true
 | _=>false
noncomputable def Ze (P:Program) (X:XF) (n:Nat) (gf:Operand) (ps:Array Tmp) (UH body:Code) (rd:Option Nat) (Y:YT) (fr:Ft) (ms:List Nat) (S:AS):Option CR :=
 match eO fr gf with
 | some (.func (.func f) fi ca)=>bif enters P f && AH UH then
   (match rd with
   | none=>(match X (.fn f) (fi.toList++[.func (.yield (S.nx+1+CV)) #[] #[]]++ca.toList) (⟨S.nx+1+CV,n,ps.toList,UH,body,fr⟩ :: Y) ⟨S.nx+2,.loop (S.nx+1+CV) .ready none :: .mark (S.nx+CV) :: S.H⟩ with
    | some (_,S2)=>Ae9 (S.nx+1+CV) fr ((S.nx+CV) :: ms) S2
    | none=>none)
   | some lo=>bif Zy S.H lo then (match X (.fn f) (fi.toList++[.func (.yield (S.nx+CV)) #[] #[]]++ca.toList) (⟨S.nx+CV,n,ps.toList,UH,body,fr⟩ :: Y) ⟨S.nx+1,.loop (S.nx+CV) .ready none :: S.H⟩ with
    | some (_,S2)=>Ae9 (S.nx+CV) fr ms S2
    | none=>none) else none) else none
 | _=>none
noncomputable def DA (P:Program) (G:GT) (X:XF) (m n:Nat):Code->Option Nat->YT->Ft->List Nat->AS->Option CR
 | .skip,_,_,fr,ms,S=>some (.normal,fr,ms,S)
 | .label _,_,_,fr,ms,S=>some (.normal,fr,ms,S)
 | .exit id,_,_,fr,ms,S=>some (.exit id,fr,ms,S)
 | .ret,_,_,fr,ms,S=>some (.ret,fr,ms,S)
 | .seq a b,rd,Y,fr,ms,S=>(match DA P G X m n a rd Y fr ms S with
  | some (.normal,fr,ms,S)=>DA P G X m n b rd Y fr ms S
  | r=>r)
 | .cond c a b,rd,Y,fr,ms,S=>(match eO fr c with
  | some (.bool true)=>DA P G X m n a rd Y fr ms S
  | some (.bool false)=>DA P G X m n b rd Y fr ms S
  | _=>none)
 | .block id c,rd,Y,fr,ms,S=>(match DA P G X m n c rd Y fr ms S with
  | some (.exit j,fr,ms,S)=>bif Nat.beq j id then some (.normal,fr,ms,S) else some (.exit j,fr,ms,S)
  | r=>r)
 | .loop c,rd,Y,fr,ms,S=>Aa3 (λ fr ms S=>DA P G X m n c rd Y fr ms S) m fr ms S
 | .scope c,rd,Y,fr,ms,S=>(match DA P G X m n c rd Y fr ms S with
  | some (.goto _,_,_,_)=>none
  | r=>r)
 | .region _ ops draw,_,Y,fr,ms,S=>(match U4 P G X n ops draw Y fr S with
  | some (fr,S)=>some (.normal,fr,ms,S)
  | none=>none)
 | .rangeFunc gf ps UH body,rd,Y,fr,ms,S=>Ze P X n gf ps UH body rd Y fr ms S
 | _,_,_,_,_,_=>none
section
variable {P:Program}{g:Sg}{w0 w:World}
def MR(g:Sg):List Nat->List Nat->Prop
 | [],c=>c=[]
 | d :: ds,c=>match c with
  | []=>False
  | e :: es=>bk g d=some e/\MR g ds es
theorem MR.le{g':Sg}(hl:Le g g'):∀ {a b:List Nat},MR g a b->MR g' a b
 | [],_,h=>h
 | _ :: _,[],h=>h.elim
 | _ :: _,_ :: _,h=>⟨O0 hl h.1,MR.le hl h.2⟩
def RDR(g:Sg):Option Nat->Option Nat->Prop
 | none,c=>c=none
 | some l,c=>∃ lc,c=some lc/\bk g l=some lc
theorem RDR.le{g':Sg}(hl:Le g g'):∀ {a b:Option Nat},RDR g a b->RDR g' a b
 | none,_,h=>h
 | some _,_,⟨lc,h1,h2⟩=>⟨lc,h1,O0 hl h2⟩
def CP(n n0:Nat)(g:Sg)(w0:World)(e:Exit)(fr:Ft)(ms:List Nat)(S:AS)(e':Exit)(a:Act)(w:World):Prop :=
 e'=e/\a.tmps.size=n/\∃ g' frc msc,Ext n0 S.nx g g'/\FR g' fr frc/\AF frc a/\MR g' ms msc/\a.defers=marks msc/\SX g' w0 w S
theorem CP.le{n n0 n1:Nat}{g g':Sg}{e:Exit}{fr:Ft}{ms:List Nat}{S:AS}{e':Exit}{a:Act}{w:World}(hl:Ext n0 n1 g g')(h:CP n n1 g' w0 e fr ms S e' a w):CP n n0 g w0 e fr ms S e' a w:=by
 obtain⟨h1,h2,g2,frc,msc,h3,h4⟩:=h;exact⟨h1,h2,g2,frc,msc,hl.trans h3,h4⟩
def COK(P:Program)(n:Nat)(w0:World)(c:Code)(F:Option Nat->YT->Ft->List Nat->AS->Option CR):Prop :=
 ∀(rd:Option Nat) (Y:YT) (fr aG:Ft) (ms aK:List Nat) (S S':AS) (e:Exit),F rd Y fr ms S=some (e,aG,aK,S')->∀(g:Sg) (w:World) (a:Act) (frc:Fr) (msc:List Nat) (rdc:Option Nat) (k:Nat),
  SX g w0 w S->FR g fr frc->AF frc a->a.tmps.size=n->MR g ms msc->a.defers=marks msc->UE g Y->RDR g rd rdc->c.wpIn (FF rdc) k P (CP n S.nx g w0 e aG aK S') a w
theorem COK.go{n:Nat}{c:Code}{F:Option Nat->YT->Ft->List Nat->AS->Option CR}(h:COK P n w0 c F){rd:Option Nat}{Y:YT}{fr aG:Ft}{ms aK:List Nat}{S S':AS}{e:Exit}(he:F rd Y fr ms S=some (e,aG,aK,S')){g:Sg}{w:World}{a:Act}{frc:Fr}{msc:List Nat}{rdc:Option Nat}{k:Nat}
  (hS:SX g w0 w S) (aL:FR g fr frc) (aO:AF frc a) (hn:a.tmps.size=n) (hm:MR g ms msc) (hd:a.defers=marks msc) (hY:UE g Y) (aP:RDR g rd rdc):c.wpIn (FF rdc) k P (CP n S.nx g w0 e aG aK S') a w :=
 h _ _ _ _ _ _ _ _ _ he _ _ _ _ _ _ _ hS aL aO hn hm hd hY aP
theorem KM{F:Fence}{k:Nat}{c:Code}{Q Q':Exit->Act->World->Prop}(hq:∀ e a w,Q e a w->Q' e a w):∀ {m:Nat} {a:Act} {w:World},Code.roundsIn F k P c Q m a w->Code.roundsIn F k P c Q' m a w
 | 0,_,_,h=>h.elim
 | m+1,a,w,h=>by
  rw [roundsIn_succ] at h ⊢;refine wpIn_mono h ?_;intro e a w hh;cases e with
  | normal=>exact KM hq hh
  | _=>exact hq _ _ _ hh
theorem Xx{n:Nat}{c:Code}{F:Option Nat->YT->Ft->List Nat->AS->Option CR}(hF:COK P n w0 c F){rd:Option Nat}{Y:YT}:∀ {m:Nat} {fr aG:Ft} {ms aK:List Nat} {S S':AS} {e:Exit},Aa3 (λ fr ms S=>F rd Y fr ms S) m fr ms S=some (e,aG,aK,S')->∀ {g:Sg} {w:World} {a:Act} {frc:Fr} {msc:List Nat} {rdc:Option Nat} {k:Nat},
  SX g w0 w S->FR g fr frc->AF frc a->a.tmps.size=n->MR g ms msc->a.defers=marks msc->UE g Y->RDR g rd rdc->Code.roundsIn (FF rdc) k P c (CP n S.nx g w0 e aG aK S') m a w
 | 0,_,_,_,_,_,_,_,h=>by cases h
 | m+1,fr,aG,ms,aK,S,S',e,h=>by
  intro hS aL aO hn hm hd hY aP;rw [roundsIn_succ];unfold Aa3 at h;split at h
  ·rename_i dr oB S1 h1;refine wpIn_mono (hF.go h1 hS aL aO hn hm hd hY aP) ?_;rintro e2 a2 w2 ⟨rfl,q1,g2,gB,gU,q2,q3,q4,q5,q6,q7⟩;exact KM (λ e a w hh=>hh.le q2) (Xx hF h q7 q3 q4 q1 q5 q6 (hY.le q2.1) (aP.le q2.1))
  ·rename_i aV;refine wpIn_mono (hF.go h hS aL aO hn hm hd hY aP) ?_;rintro e2 a2 w2 dY;have:=dY.1;subst this;cases e2 with
   | normal=>exact absurd h (aV _ _ _)
   | _=>exact dY
theorem Gw{S:AS}(hS:SX g w0 w S){l j b:Nat}{st:LoopState}{p:Option Code}(hf:SM l S.H 0=some (j,.loop b st p)) :
  ∃ s:Nat × Nat × Loop,Ij g l=some s/\bk g l=some s.1/\w.heap[s.1]?=some (.loop { s.2.2 with state:=st,pending:=p }) /\
   ∀ kq p',SX g w0 (w.putObj s.1 (.loop { s.2.2 with state:=kq,pending:=p' })) ⟨S.nx,S.H.set j (.loop b kq p')⟩:=by
 obtain⟨f1,f2⟩:=W7 hf;obtain⟨hn,L,hL,hT⟩:=hS;obtain⟨y,hy,s,s1,s2,rfl⟩:=Kj hL f1;rw [f2] at s1 s2;refine⟨s,s2,Ff s1 s2,hT.get j hy,λ kq p'=>⟨hn,_,HB j hL ⟨s,?_,?_,rfl⟩,hT.put j hy _⟩⟩
 ·have:b=l:=f2;rw [AI.id,this];exact s1
 ·have:b=l:=f2;rw [AI.id,this];exact s2
end
section
variable {P:Program}{g:Sg}{w0 w:World}
theorem UE.cons{y:YE}{Y:YT}(h:UE g Y)(hy:AeX g y):UE g (y :: Y):=λ z hz=>by
 rcases List.mem_cons.1 hz with rfl | hz
 ·exact hy
 ·exact h z hz
theorem Ab8{S:AS}(hS:SX g w0 w S){l:Nat}(h:Zy S.H l=true):∃ lc ro,bk g l=some lc/\w.heap[lc]?=some (.loop ro):=by
 unfold Zy at h;split at h
 ·rename_i j b st p hf;obtain⟨s,_,h2,h3,_⟩:=Gw hS hf;exact⟨_,_,h2,h3⟩
 ·cases h
theorem AaH{n l:Nat}{fr aG:Ft}{ms aK:List Nat}{S S':AS}{e:Exit}(he:Ae9 l fr ms S=some (e,aG,aK,S'))(hS:SX g w0 w S){a:Act}{frc:Fr}{msc:List Nat}{lc:Nat}(hl:bk g l=some lc)
  (aL:FR g fr frc) (aO:AF frc a) (hn:a.tmps.size=n) (hm:MR g ms msc) (hd:a.defers=marks msc) {F:Fence} {k:Nat}:∀ v,rangePost F k P lc (CP n S.nx g w0 e aG aK S') a (.returned v) w:=by
 intro v;unfold Ae9 at he;split at he
 ·rename_i j b st p hf;obtain⟨s,_,h2,h3,h4⟩:=Gw hS hf;rw [hl] at h2;cases h2;have fin:∀ {e:Exit} {p':Option Code} {w':World},SX g w0 w' ⟨S.nx,S.H.set j (.loop b .exhausted p')⟩->CP n S.nx g w0 e fr ms ⟨S.nx,S.H.set j (.loop b .exhausted p')⟩ e a w':=λ dc=>⟨rfl,hn,g,frc,msc,Ext.refl _ _,aL,aO,hm,hd,dc⟩;split at he
  ·simp only [AjY,AjI] at he;obtain⟨rfl,rfl,rfl,rfl⟩:=he;exact⟨_,_,run_endLoop h3 (by simp),fin (h4 .exhausted none)⟩
  ·simp only [AjY,AjI] at he;obtain⟨rfl,rfl,rfl,rfl⟩:=he;exact⟨_,_,run_endLoop h3 (by simp),wpIn_ret (fin (h4 .exhausted (some .ret)))⟩
  ·rename_i i;simp only [AjY,AjI] at he;obtain⟨rfl,rfl,rfl,rfl⟩:=he;exact⟨_,_,run_endLoop h3 (by simp),wpIn_exit (fin (h4 .exhausted (some (.exit i))))⟩
  ·cases he
 ·cases he
theorem AbN{G:GT}{X:XF}(hX:XOK P G X)(hG:IE G w0){n:Nat}{gf:Operand}{ps:Array Tmp}{UH body:Code}:COK P n w0 (.rangeFunc gf ps UH body) (Ze P X n gf ps UH body):=by
 intro rd Y fr aG ms aK S S' e he g w a frc msc rdc k hS aL aO hn hm hd hY aP;unfold Ze at he;split at he
 ·rename_i f fi ca rm;obtain⟨c,hc,hr⟩:=Pq aL _ _ rm;obtain⟨bu,br,rfl,dh,bU⟩:=Qy hr;have nB:=aO.eval _ _ hc;have aY:=(AJ he).1
  replace he:=(AJ he).2
  simp only [Bool.and_eq_true] at aY;refine wpIn_rangeFunc λ fn _=>?_;have hinv:∀(l:Nat) (w1:World),(resolve a.eval (rangeCall gf l) 0).run P w1=.ok { target:=.fn (.func f) br,args:=bu++#[.func (.yield l) #[] #[]] } w1 /\
    (invoke (.fn (.func f) br) (bu++#[.func (.yield l) #[] #[]])).run P w1=.ok (.enter f ⟨bu.toList++[.func (.yield l) #[] #[]]++br.toList⟩) w1:=by
   intro l w1;constructor
   ·simp only [resolve,nB,Deferred.ofValue];simp [Act.eval]
   ·have ha:bu++#[.func (.yield l) #[] #[]]++br=⟨bu.toList++[.func (.yield l) #[] #[]]++br.toList⟩:=Array.ext' (by simp);simp only [invoke,KW aY.1,ha]
  obtain⟨fg,L,hL,hT⟩:=id hS;split at he
  ·have nt:rdc=none:=aP;subst nt;split at he
   ·rename_i v0 S2 hx;refine⟨_,_,_,_,_,f,_,_,run_enterLoop_outer _ _ _ _ _,(hinv _ _).1,λ _ _=>trivial,(hinv _ _).2,λ h=>(by cases h),?_⟩;let rr:Loop:={ state:=.ready,pending:=none,fn,tmps:=a.tmps,params:=ps,assign:=UH,body:=body,defers:=w.heap.size };let g1:=up g S.nx (w.heap.size,0,default);let g2:=up g1 (S.nx+1) (w.heap.size+1,0,rr);have l1:Le g g1:=Le.up (fg _ (Ajx _)) _;have n1:g1 (S.nx+1)=none:=by
     show up g S.nx _ (S.nx+1)=none;unfold up;rw [if_neg (by omega)];exact fg _ (by omega)
    have l2:Le g1 g2:=Le.up n1 _;have hl:=l1.trans l2;have fh:Ext S.nx (S.nx+2) g g2:=⟨hl,λ i hi=>by
     show up g1 (S.nx+1) _ i=g i;unfold up;rw [if_neg (by omega)];show up g S.nx _ i=g i;unfold up;rw [if_neg (by omega)],by omega⟩
    have s1:Ij g2 (S.nx+1+CV)=some (w.heap.size+1,0,rr):=Fo _ _;have s0:Ij g2 (S.nx+CV)=some (w.heap.size,0,default):=l2.at (Fo _ _);have b1:bk g2 (S.nx+1+CV)=some (w.heap.size+1):=Ff (C0 _) s1;have b0:bk g2 (S.nx+CV)=some w.heap.size:=Ff (C0 _) s0;have iJ:SX g2 w0 ((w.alloc (.deferred (some []))).alloc (.loop rr)) ⟨S.nx+2,.loop (S.nx+1+CV) .ready none :: .mark (S.nx+CV) :: S.H⟩:=by
     refine⟨λ i hi=>?_,It.obj (w.heap.size+1) (.loop rr) :: It.obj w.heap.size (.deferred (some [])) :: L,⟨⟨_,C0 _,s1,rfl⟩,⟨_,C0 _,s0,rfl⟩,Kx hl hL⟩,hT.range rr⟩;simp only at hi;show up g1 (S.nx+1) _ i=none;unfold up;rw [if_neg (by omega)];show up g S.nx _ i=none;unfold up;rw [if_neg (by omega)];exact fg _ (by omega)
    have hy:AeX g2 ⟨S.nx+1+CV,n,ps.toList,UH,body,fr⟩:=⟨_,C0 _,s1,rfl,rfl,rfl,hn,frc,aL.le hl,aO⟩;have aT:=hX _ _ _ _ _ _ hx g2 w0 _ (bu.toList++[.func (.yield (w.heap.size+1)) #[] #[]]++br.toList) iJ hG
     (Fc (Fc (Ge hl _ dh) (by simp only [RL];exact⟨by simp only [R,RA,RL];exact⟨⟨_,b1,rfl⟩,trivial,trivial⟩,trivial⟩)) (Ge hl _ bU))
     ((hY.le hl).cons hy)
    refine CallsIn.mono (F:=FF none) (callsIn_wide.2 aT) ?_;rintro en w3 ⟨c3,g3,rfl,q1,q2,q3⟩;have gp:=hl.trans q1.1;have jT:=fh.trans q1;have key:=AaH (P:=P) (n:=n) (F:=FF none) (k:=k) he q3 (a:={ a with defers:=marks [w.heap.size]++a.defers }) (frc:=frc) (msc:=w.heap.size :: msc) (O0 q1.1 b1) (aL.le gp) aO hn ⟨O0 q1.1 b0,hm.le gp⟩ (by simp [marks,hd]) c3;exact rangePost_mono (λ e a w hh=>hh.le jT) key
   ·cases he
  ·rename_i lo;obtain⟨lc,rfl,nO⟩:=aP;have aE:=(AJ he).1
   replace he:=(AJ he).2
   obtain⟨lc',ro,e1,eo⟩:=Ab8 hS aE;rw [nO] at e1;cases e1;split at he
   ·rename_i v0 S2 hx;refine⟨_,_,_,_,_,f,_,_,FE eo _ _ _ _ _,(hinv _ _).1,λ _ _=>trivial,(hinv _ _).2,λ h=>(by cases h),?_⟩;let rr:Loop:={ state:=.ready,pending:=none,fn,tmps:=a.tmps,params:=ps,assign:=UH,body:=body,defers:=ro.defers };let g1:=up g S.nx (w.heap.size,0,rr);have hl:Le g g1:=Le.up (fg _ (Ajx _)) _;have fh:Ext S.nx (S.nx+1) g g1:=⟨hl,λ i hi=>by
     show up g S.nx _ i=g i;unfold up;rw [if_neg (by omega)],by omega⟩
    have s1:Ij g1 (S.nx+CV)=some (w.heap.size,0,rr):=Fo _ _;have b1:bk g1 (S.nx+CV)=some w.heap.size:=Ff (C0 _) s1;have iJ:SX g1 w0 (w.alloc (.loop rr)) ⟨S.nx+1,.loop (S.nx+CV) .ready none :: S.H⟩:=by
     refine⟨λ i hi=>?_,It.obj w.heap.size (.loop rr) :: L,⟨⟨_,C0 _,s1,rfl⟩,Kx hl hL⟩,hT.add ((Below.refl _ w).alloc (Ajx _) _) _ (heap_alloc_new w _) (λ k hk=>by cases hk;exact Ajx _)⟩;simp only at hi;show up g S.nx _ i=none;unfold up;rw [if_neg (by omega)];exact fg _ (by omega)
    have hy:AeX g1 ⟨S.nx+CV,n,ps.toList,UH,body,fr⟩:=⟨_,C0 _,s1,rfl,rfl,rfl,hn,frc,aL.le hl,aO⟩;have aT:=hX _ _ _ _ _ _ hx g1 w0 _ (bu.toList++[.func (.yield w.heap.size) #[] #[]]++br.toList) iJ hG
     (Fc (Fc (Ge hl _ dh) (by simp only [RL];exact⟨by simp only [R,RA,RL];exact⟨⟨_,b1,rfl⟩,trivial,trivial⟩,trivial⟩)) (Ge hl _ bU))
     ((hY.le hl).cons hy)
    have dN:=(callsIn_wide (n:=k-1)).2 aT;refine CallsIn.mono (F:=FF (some lc)) ⟨trivial,λ cs _=>dN.2 cs (Uy none _)⟩ ?_;rintro en w3 ⟨c3,g3,rfl,q1,q2,q3⟩;have gp:=hl.trans q1.1;have jT:=fh.trans q1;have key:=AaH (P:=P) (n:=n) (F:=FF (some lc)) (k:=k) he q3 (a:={ a with defers:=marks []++a.defers }) (frc:=frc) (msc:=msc) (O0 q1.1 b1) (aL.le gp) aO hn (hm.le gp) (by simp [marks,hd]) c3;exact rangePost_mono (λ e a w hh=>hh.le jT) key
   ·cases he
 ·cases he
where
 rangePost_mono {F:Fence} {k l:Nat} {Q Q':Exit->Act->World->Prop} (hq:∀ e a w,Q e a w->Q' e a w) {a:Act} {v:Value} {w:World} (h:rangePost F k P l Q a (.returned v) w):rangePost F k P l Q' a (.returned v) w:=by
  obtain⟨j,w4,h1,h2⟩:=h;refine⟨j,w4,h1,?_⟩;cases j with
  | none=>exact hq _ _ _ h2
  | some c=>exact wpIn_mono h2 hq
theorem QR(ax:P.follows .mixedOrders=true){G:GT}{X:XF}(hX:XOK P G X)(hG:IE G w0){m n:Nat}(c:Code):COK P n w0 c (DA P G X m n c):=by
 induction c with
 | skip =>
  intro rd Y fr aG ms aK S S' e he g w a frc msc rdc k hS aL aO hn hm hd hY aP;simp only [DA,AjY,AjI] at he;obtain⟨rfl,rfl,rfl,rfl⟩:=he;exact wpIn_skip ⟨rfl,hn,g,frc,msc,Ext.refl _ _,aL,aO,hm,hd,hS⟩
 | label l =>
  intro rd Y fr aG ms aK S S' e he g w a frc msc rdc k hS aL aO hn hm hd hY aP;simp only [DA,AjY,AjI] at he;obtain⟨rfl,rfl,rfl,rfl⟩:=he;exact wpIn_label ⟨rfl,hn,g,frc,msc,Ext.refl _ _,aL,aO,hm,hd,hS⟩
 | exit id =>
  intro rd Y fr aG ms aK S S' e he g w a frc msc rdc k hS aL aO hn hm hd hY aP;simp only [DA,AjY,AjI] at he;obtain⟨rfl,rfl,rfl,rfl⟩:=he;exact wpIn_exit ⟨rfl,hn,g,frc,msc,Ext.refl _ _,aL,aO,hm,hd,hS⟩
 | ret =>
  intro rd Y fr aG ms aK S S' e he g w a frc msc rdc k hS aL aO hn hm hd hY aP;simp only [DA,AjY,AjI] at he;obtain⟨rfl,rfl,rfl,rfl⟩:=he;exact wpIn_ret ⟨rfl,hn,g,frc,msc,Ext.refl _ _,aL,aO,hm,hd,hS⟩
 | seq x y ihx ihy =>
  intro rd Y fr aG ms aK S S' e he g w a frc msc rdc k hS aL aO hn hm hd hY aP;simp only [DA] at he;refine wpIn_seq ?_;split at he
  ·rename_i dr oB S1 h1;refine wpIn_mono (ihx.go h1 hS aL aO hn hm hd hY aP) ?_;rintro e2 a2 w2 ⟨rfl,q1,g2,gB,gU,q2,q3,q4,q5,q6,q7⟩;exact wpIn_mono (ihy.go he q7 q3 q4 q1 q5 q6 (hY.le q2.1) (aP.le q2.1)) λ e a w hh=>hh.le q2
  ·rename_i aV;refine wpIn_mono (ihx.go he hS aL aO hn hm hd hY aP) ?_;rintro e2 a2 w2 dY;have:=dY.1;subst this;cases e2 with
   | normal=>exact absurd he (aV _ _ _)
   | _=>exact dY
 | cond c x y ihx ihy =>
  intro rd Y fr aG ms aK S S' e he g w a frc msc rdc k hS aL aO hn hm hd hY aP;simp only [DA] at he;split at he
  ·rename_i hc;obtain⟨u,hu,hr⟩:=Pq aL _ _ hc;simp only [R] at hr;subst hr;exact wpIn_cond_split (aO.eval _ _ hu) (λ _=>ihx.go he hS aL aO hn hm hd hY aP) (λ h=>by cases h)
  ·rename_i hc;obtain⟨u,hu,hr⟩:=Pq aL _ _ hc;simp only [R] at hr;subst hr;exact wpIn_cond_split (aO.eval _ _ hu) (λ h=>by cases h) (λ _=>ihy.go he hS aL aO hn hm hd hY aP)
  ·cases he
 | block id c ih =>
  intro rd Y fr aG ms aK S S' e he g w a frc msc rdc k hS aL aO hn hm hd hY aP;simp only [DA] at he;refine wpIn_block ?_;split at he
  ·rename_i j dr oB S1 h1;refine wpIn_mono (ih.go h1 hS aL aO hn hm hd hY aP) ?_;rintro e2 a2 w2 ⟨rfl,q⟩;simp only [Exit.inBlock];cases hb:Nat.beq j id with
   | true =>
    have cQ:j=id:=Nat.eq_of_beq_eq_true hb;rw [hb] at he;simp only [cond_true,AjY,AjI] at he;obtain⟨rfl,rfl,rfl,rfl⟩:=he;rw [if_pos cQ];exact⟨rfl,q⟩
   | false =>
    have cQ:¬ j=id:=λ he=>by subst he;simp at hb
    rw [hb] at he;simp only [cond_false,AjY,AjI] at he;obtain⟨rfl,rfl,rfl,rfl⟩:=he;rw [if_neg cQ];exact⟨rfl,q⟩
  ·rename_i aV;refine wpIn_mono (ih.go he hS aL aO hn hm hd hY aP) ?_;rintro e2 a2 w2 dY;have:=dY.1;subst this;cases e2 with
   | exit j=>exact absurd he (aV _ _ _ _)
   | _=>exact dY
 | loop c ih =>
  intro rd Y fr aG ms aK S S' e he g w a frc msc rdc k hS aL aO hn hm hd hY aP;simp only [DA] at he;exact wpIn_loop_rounds m (Xx ih he hS aL aO hn hm hd hY aP)
 | scope c ih =>
  intro rd Y fr aG ms aK S S' e he g w a frc msc rdc k hS aL aO hn hm hd hY aP;simp only [DA] at he;refine Sq ?_;split at he
  ·cases he
  ·rename_i aV;refine wpIn_mono (ih.go he hS aL aO hn hm hd hY aP) ?_;rintro e2 a2 w2 dY;have:=dY.1;subst this;cases e2 with
   | goto l=>exact absurd he (aV _ _ _ _)
   | _=>exact dY
 | region id ops draw =>
  intro rd Y fr aG ms aK S S' e he g w a frc msc rdc k hS aL aO hn hm hd hY aP;simp only [DA] at he;split at he
  ·rename_i dr S1 h1;simp only [AjY,AjI] at he;obtain⟨rfl,rfl,rfl,rfl⟩:=he;have cK:=Zf (id:=id) (rd:=rdc) (ms:=msc) hX hG h1 hS aL hY (K:=λ e fr ms w=>e=.normal/\ms=msc/\∃ g',Ext S.nx S1.nx g g'/\FR g' dr fr/\SX g' w0 w S1) (λ g' bD w' q1 q2 q3=>⟨rfl,rfl,g',q1,q2,q3⟩);refine wpIn_mono (TD ax _ rdc k _ frc msc w a aO hn hd cK) ?_;rintro e2 a2 w2 ⟨aA,dt,eD,r1,r2,rfl,rfl,g2,r3,r4,r5⟩;exact⟨rfl,aA.size,g2,dt,eD,r3,r4,r1,hm.le r3.1,r2,r5⟩
  ·cases he
 | rangeFunc gf ps x y ihx ihy=>exact AbN hX hG
 | goto l=>intro rd Y fr aG ms aK S S' e he;cases he
 | refuse s=>intro rd Y fr aG ms aK S S' e he;cases he
end
end Go.Dn
set_option linter.unusedVariables false
set_option maxRecDepth 100000
namespace Go.Dn
open _root_.Nat renaming beq -> Ai3, blt -> Ai8
open _root_.Option.some renaming injEq -> AjY
open _root_.Prod.mk renaming injEq -> AjI
open Go.RowKit (Below)
/-! ## What is let go of behind a call -/
mutual
def Ag1:Value->List Nat->List Nat
 | .pointer p,l=>(match p with | some a=>a.block :: l | none=>l)
 | .slice p _ _,l=>(match p with | some a=>a.block :: l | none=>l)
 | .map p,l=>(match p with | some b=>b :: l | none=>l)
 | .func _ fi ca,l=>Afq fi (Afq ca l)
 | .iface _ v,l=>Ag1 v l
 | .agg cs,l=>Afq cs l
 | .tuple cs,l=>Afq cs l
 | .chan _,l=>l
 | .bool _,l=>l
 | .int _ _,l=>l
 | .string _,l=>l
 | .float _ _,l=>l
 | .complex _ _ _,l=>l
 | .nilFunc,l=>l
 | .nilIface,l=>l
def Afq:Array Value->List Nat->List Nat
 | ⟨v⟩,l=>Afr v l
def Afr:List Value->List Nat->List Nat
 | [],l=>l
 | v :: vs,l=>Ag1 v (Afr vs l)
end
def AI.refs:AI->List Value
 | .mp _ es _=>es.map (·.2.1)
 | x=>x.VY
def Ahd(x:Nat):List Nat->Bool
 | []=>false
 | y :: ys=>bif Ai3 y x then true else Ahd x ys
def reach(H:List AI)(b:Nat):Nat->List Nat->List Nat->List Nat
 | 0,_,seen=>seen
 | _+1,[],seen=>seen
 | f+1,x :: todo,seen=>bif Ai8 x b || Ahd x seen then reach H b f todo seen else
  match SM x H 0 with
  | some (_,i)=>reach H b f (Afr i.refs todo) (x :: seen)
  | none=>reach H b f todo seen
def ZK(b:Nat):List AI->List Nat->List Nat
 | [],l=>l
 | i :: r,l=>bif Ai8 i.id b then Afr i.refs (ZK b r l) else ZK b r l
def AiO:AI->Bool
 | .loop _ st _=>!(match st with | .exhausted=>true | _=>false)
 | .mark _=>true
 | _=>false
def gcF(b:Nat)(v:Value)(H:List AI):List AI :=
 let s:=reach H b 100000 (Ag1 v (ZK b H [])) []
 H.filter λ i=>Ai8 i.id b || AiO i || Ahd i.id s
section
variable {P:Program}{g:Sg}{w0 w:World}
theorem To(p:AI->Bool):∀ {xs:List AI} {ys:List It},HR g xs ys->∃ zs,HR g (xs.filter p) zs/\zs.Sublist ys
 | [],ys,h=>⟨[],rfl,List.nil_sublist _⟩
 | x :: xs,[],h=>h.elim
 | x :: xs,y :: ys,h=>by
  obtain⟨zs,h1,h2⟩:=To p h.2;rw [List.filter_cons];split
  ·exact⟨y :: zs,⟨h.1,h1⟩,h2.cons_cons y⟩
  ·exact⟨zs,h1,h2.cons y⟩
theorem SX.filter{S:AS}(hS:SX g w0 w S)(p:AI->Bool):SX g w0 w ⟨S.nx,S.H.filter p⟩:=by
 obtain⟨h1,L,h2,h3⟩:=hS;obtain⟨zs,h4,h5⟩:=To p h2;exact⟨h1,zs,h4,h3.sub h5⟩
theorem Wa:∀ {xs:List AI} {ys:List It} (j:Nat),HR g xs ys->HR g (xs.eraseIdx j) (ys.eraseIdx j)
 | [],ys,j,h=>by simp only [HR] at h;subst h;simp [HR]
 | x :: xs,[],j,h=>h.elim
 | x :: xs,y :: ys,0,h=>h.2
 | x :: xs,y :: ys,j+1,h=>⟨h.1,Wa j h.2⟩
/-! ## A function's end -/
def OQ:List Nat->AS->Option AS
 | [],S=>some S
 | d :: ds,S=>(match SM d S.H 0 with
  | some (j,.mark _)=>OQ ds ⟨S.nx,S.H.eraseIdx j⟩
  | _=>none)
theorem eraseIdx_set{α:Type}:∀(l:List α) (j:Nat) (x:α),(l.set j x).eraseIdx j=l.eraseIdx j
 | [],_,_=>rfl
 | _ :: _,0,_=>rfl
 | a :: l,j+1,x=>by simp [eraseIdx_set l j x]
theorem WX:∀ {ms msc:List Nat} {S S':AS} {w:World},OQ ms S=some S'->SX g w0 w S->MR g ms msc->∀ {k:World->Prop},(∀ w',SX g w0 w' S'->k w')->Qz msc k w
 | [],msc,S,S',w,he,hS,hm,k,hk=>by
  simp only [OQ,AjY] at he;subst he;simp only [MR] at hm;subst hm;exact hk w hS
 | d :: ds,[],_,_,_,_,_,hm,_,_=>hm.elim
 | d :: ds,e :: es,S,S',w,he,hS,hm,k,hk=>by
  unfold OQ at he;split at he
  ·rename_i j b hf;obtain⟨f1,f2⟩:=W7 hf;obtain⟨hn,L,hL,hT⟩:=hS;obtain⟨y,hy,s,s1,s2,rfl⟩:=Kj hL f1;rw [f2] at s1 s2;have hb:=hm.1;rw [Ff s1 s2] at hb;cases hb;refine⟨hT.get j hy,?_⟩;have oz:=(hT.put j hy (.deferred none)).sub (List.eraseIdx_sublist _ j);rw [eraseIdx_set] at oz;exact WX he ⟨hn,_,Wa j hL,oz⟩ hm.2 hk
  ·cases he
theorem WW:∀ {ms:List Nat} {S S':AS},OQ ms S=some S'->S'.nx=S.nx
 | [],S,S',he=>by simp only [OQ,AjY] at he;rw [he]
 | d :: ds,S,S',he=>by
  unfold OQ at he;split at he
  ·have:=WW he;exact this
  ·cases he
noncomputable def Zg (P:Program) (G:GT) (fr:Ft) (S:AS):List ResultVar->Option (List Value)
 | []=>some []
 | .tmp t :: r=>(match QW fr t,Zg P G fr S r with
  | some v,some vs=>some (v :: vs)
  | _,_=>none)
 | .cell a t :: r=>(match OO P G S.H t (QW fr a),Zg P G fr S r with
  | some (v,_),some vs=>some (v :: vs)
  | _,_=>none)
theorem U5{G:GT}(hG:IE G w0){fr:Ft}{frc:Fr}(aL:FR g fr frc){S:AS}(hS:SX g w0 w S):∀ {rs:List ResultVar} {vs:List Value},Zg P G fr S rs=some vs->∀ {k:List Value->World->Prop},(∀ cs,RL g vs cs->k cs w)->RR P frc rs k w
 | [],vs,he,k,hk=>by simp only [Zg,AjY] at he;subst he;exact hk [] (by simp [RL])
 | .tmp t :: r,vs,he,k,hk=>by
  unfold Zg at he;split at he
  ·rename_i v us h1 h2;cases he;obtain⟨c,hc,hr⟩:=aL _ _ (by rw [<- Hl];exact h1);show GX (look frc t) λ v=>RR P frc r (λ vs w=>k (v :: vs) w) w;rw [hc];exact U5 hG aL hS h2 λ cs aj=>hk (c :: cs) (by simp only [RL];exact⟨hr,aj⟩)
  ·cases he
 | .cell a t :: r,vs,he,k,hk=>by
  unfold Zg at he;split at he
  ·rename_i v hd us h1 h2;cases he;show O4 P t (look frc a) (λ v _=>RR P frc r (λ vs w=>k (v :: vs) w) w) w;have hE:ER g (eO fr) (D8 frc):=Pq aL;exact Mh (e:=eO fr) (e':=D8 frc) (x:=.tmp a) hG hS.2 hE h1 λ c hc hr _=>U5 hG aL hS h2 λ cs aj=>hk (c :: cs) (by simp only [RL];exact⟨hr,aj⟩)
  ·cases he
theorem Aie{vs cs:List Value}(h:RL g vs cs):R g (AU vs) (AU cs):=by
 match vs,cs,h with
 | [],cs,h=>simp only [RL] at h;subst h;simp [AU,R,RA,RL]
 | v :: vs,[],h=>simp [RL] at h
 | [v],[c],h=>simp only [RL] at h;exact h.1
 | [v],_ :: _ :: _,h=>simp [RL] at h
 | v :: u :: vs,[c],h=>simp [RL] at h
 | v :: u :: vs,c :: d :: cs,h=>simp only [AU,R,RA];exact h
noncomputable def WQ:Nat->List Value->Ft
 | _,[]=>.l
 | i,v :: vs=>OT 20 (WQ (i+1) vs) i v
noncomputable def eFn (P:Program) (G:GT) (X:XF) (m:Nat) (f:FuncId) (args:List Value) (Y:YT) (S:AS):Option (Value × AS) :=
 match P.funcs[f]? with
 | some fn =>
  (match fn.body with
  | some c=>bif Nat.ble args.length fn.ntmps then (match DA P G X m fn.ntmps c none Y (WQ 0 args) [] S with
   | some (e,fr,ms,S1)=>bif (match e with | .normal=>true | .ret=>true | _=>false) then (match OQ ms S1 with
     | some S2=>(match Zg P G fr S2 fn.results.toList with
      | some vs=>some (AU vs,bif Ai8 (S.nx+8) S2.nx then ⟨S2.nx,gcF (S.nx+CV) (AU vs) S2.H⟩ else S2)
      | none=>none)
     | none=>none) else none
   | none=>none) else none
  | none=>none)
 | none=>none
theorem calls_of_wp{f:FuncId}{fn:Func}{c:Code}{args:List Value}(hf:P.funcs[f]?=some fn)(hc:fn.body=some c)(hle:args.length<=fn.ntmps){k:Value->World->Prop}
  (h:c.wpIn (FF none) 0 P (λ e a' w'=>(e=.normal\/e=.ret)/\∃ aG aK,AF aG a'/\a'.defers=marks aK/\Qz aK (λ w'=>RR P aG fn.results.toList (λ vs aR=>k (AU vs) aR) w') w') ⟨(⟨args⟩:Array Value)++Array.replicate (fn.ntmps-args.length) undef,[]⟩ w) :
  Calls P f ⟨args⟩ w λ e w'=>∃ v,e=.returned v/\k v w':=by
 refine callsIn_wide.1 (callsIn_of_wp_marks (F:=Fence.wide) (n:=0) hf hc trivial ?_);refine wpIn_mono h ?_;have fin:∀(aG:Fr) (a':Act),AF aG a'->∀ w',RR P aG fn.results.toList (λ vs aR=>k (AU vs) aR) w'->∃ v,(results fn a'.tmps).run P w'=.ok v w'/\∃ u,Ending.returned v=.returned u/\k u w':=by
  intro aG a' aS w' hk;obtain⟨vs,hk,_,hr⟩:=M7 aS _ _ _ hk;exact⟨_,O8 hr,_,rfl,hk⟩
 rintro e a' w' ⟨he,aG,aK,aS,bZ,hk⟩;rcases he with rfl | rfl
 ·show LeavesInM _ _ _ _ _ _ _ _ _;rw [bZ];exact EV (fin aG a' aS) aK w' hk
 ·show LeavesInM _ _ _ _ _ _ _ _ _;rw [bZ];exact EV (fin aG a' aS) aK w' hk
theorem Aay:∀ {vs cs:List Value} (i:Nat),RL g vs cs->FR g (WQ i vs) (L9 i cs)
 | [],_,i,h=>by intro j v hv;cases hv
 | v :: vs,[],_,h=>by simp [RL] at h
 | v :: vs,c :: cs,i,h=>by
  simp only [RL] at h;rw [show WQ i (v :: vs)=My 20 (WQ (i+1) vs) i v from Ho _ _ _ _];exact (Aay (i+1) h.2).cons i h.1
theorem AgT(ax:P.follows .mixedOrders=true){G:GT}{X:XF}(hX:XOK P G X)(hG:IE G w0){m:Nat}{f:FuncId}{args aJ:List Value}{Y:YT}{S S':AS}{v:Value}(he:eFn P G X m f args Y S=some (v,S'))(hS:SX g w0 w S)(hr:RL g args aJ)(hY:UE g Y) :
  Calls P f ⟨aJ⟩ w (λ e w'=>∃ c g',e=.returned c/\Ext S.nx S'.nx g g'/\R g' v c/\SX g' w0 w' S'):=by
 unfold eFn at he;split at he
 ·rename_i fn hf;split at he
  ·rename_i c hc;have h1:=(AJ he).1
   replace he:=(AJ he).2
   have hle:aJ.length<=fn.ntmps:=by rw [Fe hr];exact Nat.le_of_ble_eq_true h1
   split at he
   ·rename_i e fr ms S1 js;have h2:=(AJ he).1
    replace he:=(AJ he).2
    split at he
    ·rename_i S2 lT;split at he
     ·rename_i vs ny;simp only [AjY,AjI] at he;obtain⟨rfl,rfl⟩:=he;have aO:AF (L9 0 aJ) ⟨(⟨aJ⟩:Array Value)++Array.replicate (fn.ntmps-aJ.length) undef,[]⟩:=by
       refine HJ _ aJ 0 λ j v hj=>?_;have eZ:j<aJ.length:=(List.getElem?_eq_some_iff.1 hj).1;rw [Nat.zero_add,Array.getElem?_append_left (by simpa using eZ)];simpa using hj
      have su:=(QR ax hX hG c).go js (k:=0) (rdc:=none) (msc:=[]) hS (Aay 0 hr) aO (by simp;omega) rfl rfl hY rfl;refine (calls_of_wp (k:=λ u w'=>∃ g',Ext S.nx S2.nx g g'/\R g' (AU vs) u/\SX g' w0 w' (bif Ai8 (S.nx+8) S2.nx then ⟨S2.nx,gcF (S.nx+CV) (AU vs) S2.H⟩ else S2)) hf hc hle (wpIn_mono su ?_)).mono ?_
      ·rintro e2 a2 w2 ⟨rfl,q1,g2,gB,gU,q2,q3,q4,q5,q6,q7⟩;refine⟨by cases e2 <;> simp_all,gB,gU,q4,q6,?_⟩;refine WX lT q7 q5 λ w3 mV=>?_;refine U5 hG q3 mV ny λ cs aj=>⟨g2,by rw [WW lT];exact q2,Aie aj,?_⟩;cases Ai8 (S.nx+8) S2.nx with
       | true=>exact mV.filter _
       | false=>exact mV
      ·rintro e2 w2 ⟨u,rfl,g2,q1,q2,q3⟩;exact⟨u,g2,rfl,by cases Ai8 (S.nx+8) S2.nx <;> exact q1,q2,q3⟩
     ·cases he
    ·cases he
   ·cases he
  ·cases he
 ·cases he
/-! ## A round -/
def AaO(l:Nat):YT->Option YE
 | []=>none
 | y :: r=>bif Ai3 y.l l then some y else AaO l r
theorem W3{l:Nat}:∀ {Y:YT} {y:YE},AaO l Y=some y->y∈Y/\y.l=l
 | z :: r,y,h=>by
  unfold AaO at h;cases hb:Ai3 z.l l with
  | true=>rw [hb] at h;simp only [cond_true,AjY] at h;subst h;exact⟨List.mem_cons_self,Nat.eq_of_beq_eq_true hb⟩
  | false=>rw [hb] at h;obtain⟨h1,h2⟩:=W3 (Y:=r) h;exact⟨List.mem_cons_of_mem _ h1,h2⟩
noncomputable def JU (n:Nat):Ft->List Nat->List Value->Ft
 | fr,p :: ps,v :: vs=>JU n (F9 n fr (some p) v) ps vs
 | fr,_,_=>fr
noncomputable def Zh (P:Program) (G:GT) (X:XF) (m:Nat) (l:Nat) (args:List Value) (Y:YT) (S:AS):Option (Value × AS) :=
 match AaO l Y,SM l S.H 0 with
 | some y,some (_,.loop _ _ _)=>bif Ai3 args.length y.ps.length && AH y.UH then
   (match DA P G X m y.n y.UH (some l) Y (JU y.n y.fr y.ps args) [] S with
   | some (.normal,dr,[],S1)=>(match SM l S1.H 0 with
    | some (j,.loop b .ready none)=>(match DA P G X m y.n y.body (some l) Y dr [] ⟨S1.nx,S1.H.set j (.loop b .busy none)⟩ with
     | some (e,_,_,S2)=>(match SM l S2.H 0 with
      | some (j2,.loop b2 .busy none)=>(match e with
       | .normal=>some (.bool true,⟨S2.nx,S2.H.set j2 (.loop b2 .ready none)⟩)
       | .ret=>some (.bool false,⟨S2.nx,S2.H.set j2 (.loop b2 .done (some .ret))⟩)
       | .exit i=>some (.bool false,⟨S2.nx,S2.H.set j2 (.loop b2 .done (some (.exit i)))⟩)
       | _=>none)
      | _=>none)
     | none=>none)
    | _=>none)
   | _=>none) else none
 | _,_=>none
theorem XP{n:Nat}:∀ {ps:List Nat} {vs cs:List Value} {fr:Ft} {frc:Fr},RL g vs cs->FR g fr frc->FR g (JU n fr ps vs) (Gl n frc ps cs)
 | [],_,_,_,_,_,h=>by simpa [Gl,JU] using h
 | p :: ps,[],cs,fr,frc,hr,h=>by simp only [RL] at hr;subst hr;simpa [Gl,JU] using h
 | p :: ps,v :: vs,[],fr,frc,hr,h=>by simp [RL] at hr
 | p :: ps,v :: vs,c :: cs,fr,frc,hr,h=>by
  simp only [RL] at hr;simpa [Gl,JU] using XP (ps:=ps) hr.2 (h.put (some p) hr.1)
theorem AbQ(ax:P.follows .mixedOrders=true){G:GT}{X:XF}(hX:XOK P G X)(hG:IE G w0){m l:Nat}{args aJ:List Value}{Y:YT}{S S':AS}{v:Value}(he:Zh P G X m l args Y S=some (v,S'))(hS:SX g w0 w S)(hr:RL g args aJ)(hY:UE g Y){lc:Nat}(iZ:bk g l=some lc) :
  J3 P lc ⟨aJ⟩ (λ b w'=>∃ g',Ext S.nx S'.nx g g'/\v=.bool b/\SX g' w0 w' S') w:=by
 unfold Zh at he;split at he
 ·rename_i y j0 b0 uP p0 hy lO;obtain⟨bJ,o8⟩:=W3 hy;subst o8;obtain⟨s,s1,s2,e1,e2,e3,e4,frc,aL,aO⟩:=hY y bJ;obtain⟨s',t1,t2,t3,_⟩:=Gw hS lO;rw [s2] at t1;cases t1;rw [iZ] at t2;cases t2;have h1:=(AJ he).1
  replace he:=(AJ he).2
  simp only [Bool.and_eq_true] at h1;have hlen:=Nat.eq_of_beq_eq_true h1.1;split at he
  ·rename_i dr S1 mY;split at he
   ·rename_i j b lP;split at he
    ·rename_i e dt eD S2 jn;split at he
     ·rename_i j2 b2 gG;have aU:(⟨aJ⟩:Array Value).size=s.2.2.params.size:=by
       have:=Fe hr;rw [<- Array.length_toList,<- Array.length_toList,e1,<- hlen];exact this
      refine⟨_,_,_,_,run_yield t3 aU,roundIn_of_wpIn (F:=Fence.wide) trivial ?_⟩;simp only [e2,e3];have ez:(s.2.2.params.zip (⟨aJ⟩:Array Value)).foldl (λ (t:Array Value) (x:Tmp × Value)=>t.setIfInBounds x.1 x.2) s.2.2.tmps=(y.ps.zip aJ).foldl (λ t x=>t.setIfInBounds x.1 x.2) s.2.2.tmps:=by
       rw [<- Array.foldl_toList,Array.toList_zip,e1]
      have ej:=G8 (n:=y.n) y.ps aJ frc s.2.2.tmps aO e4;rw [<- ez] at ej;refine wpIn_mono ((QR ax hX hG y.UH).go mY (k:=0) (rdc:=some s.1) (msc:=[]) hS (XP hr aL) ej.1 ej.2 rfl rfl hY ⟨_,rfl,iZ⟩) ?_;rintro ea a1 w1 ⟨rfl,q1,g1,r9,tH,q2,q3,q4,q5,q6,q7⟩;simp only [MR] at q5;subst q5;obtain⟨s',t1,t2,t4,t5⟩:=Gw q7 lP;rw [q2.1.at s2] at t1;cases t1;refine⟨_,run_beginRound t4 rfl,?_⟩;refine wpIn_mono ((QR ax hX hG y.body).go jn (k:=0) (rdc:=some s.1) (msc:=[]) (t5 .busy none) q3 q4 q1 rfl q6 (hY.le q2.1) ⟨_,rfl,t2⟩) ?_;rintro eb a2 w2 ⟨rfl,r1,g2,gB,gU,r2,r3,r4,r5,r6,r7⟩;obtain⟨s',u1,u2,u4,u5⟩:=Gw r7 gG;have bC:=q2.trans r2;rw [bC.1.at s2] at u1;cases u1;split at he
      ·simp only [AjY,AjI] at he;obtain⟨rfl,rfl⟩:=he;exact⟨_,_,run_endRound none u4,true,rfl,g2,bC,rfl,u5 .ready none⟩
      ·simp only [AjY,AjI] at he;obtain⟨rfl,rfl⟩:=he;exact⟨_,_,run_endRound (some .ret) u4,false,rfl,g2,bC,rfl,u5 .done (some .ret)⟩
      ·rename_i i;simp only [AjY,AjI] at he;obtain⟨rfl,rfl⟩:=he;exact⟨_,_,run_endRound (some (.exit i)) u4,false,rfl,g2,bC,rfl,u5 .done (some (.exit i))⟩
      ·cases he
     ·cases he
    ·cases he
   ·cases he
  ·cases he
 ·cases he
/-! ## All -/
abbrev OF:=FuncId->Option (List Value->AS->Option (Value × AS))
def Qw(P:Program)(G:GT)(i:FuncId)(F:List Value->AS->Option (Value × AS)):Prop:=∀ args S v S',F args S=some (v,S')->∀ g w0 w aJ,SX g w0 w S->IE G w0->RL g args aJ ->
 Calls P i ⟨aJ⟩ w (λ e w'=>∃ c g',e=.returned c/\Ext S.nx S'.nx g g'/\R g' v c/\SX g' w0 w' S')
def OOK(P:Program)(G:GT)(O:OF):Prop:=∀ i F,O i=some F->Qw P G i F
theorem SX.grown{S:AS}(hS:SX g w0 w S){w':World}(h:Below w.heap.size w w'):SX g w0 w' S:=⟨hS.1,hS.2.elim λ L h2=>⟨L,h2.1,h2.2.grown h⟩⟩
def XN(F:List Value->Option Value):List Value->AS->Option (Value × AS):=λ args S =>
 bif LN args then (match F args with
  | some v=>bif pl v then some (v,S) else none
  | none=>none) else none
theorem XO{G:GT}{i:FuncId}{F:List Value->Option Value}(h:∀ args v,F args=some v->∀ w,Calls P i ⟨args⟩ w (λ e w'=>e=.returned v/\Below w.heap.size w w')):Qw P G i (XN F):=by
 intro args S v S' he g w0 w aJ hS hG hr;have h1:=(AJ he).1
 replace he:=(AJ he).2
 split at he
 ·rename_i u hu;have h2:=(AJ he).1
  replace he:=(AJ he).2
  simp only [AjY,AjI] at he;obtain⟨rfl,rfl⟩:=he;have:=(MT _ h1).1 hr;subst this;refine (h _ _ hu w).mono ?_;rintro e w' ⟨rfl,hB⟩;exact⟨_,g,rfl,Ext.refl _ _,(PJ _ h2).2 rfl,hS.grown hB⟩
 ·cases he
noncomputable def U7 (P:Program) (G:GT) (O:OF) (m:Nat):Nat->XF
 | 0,_,_,_,_=>none
 | f+1,.fn i,args,Y,S=>(match O i with
  | some F=>F args S
  | none=>eFn P G (U7 P G O m f) m i args Y S)
 | f+1,.yl l,args,Y,S=>Zh P G (U7 P G O m f) m l args Y S
theorem Va(ax:P.follows .mixedOrders=true){G:GT}{O:OF}(hO:OOK P G O){m:Nat}:∀(f:Nat),XOK P G (U7 P G O m f)
 | 0=>by intro t args Y S v S' he;cases t <;> cases he
 | f+1=>by
  intro t args Y S v S' he g w0 w aJ hS hG hr hY;cases t with
  | fn i =>
   simp only [U7] at he;split at he
   ·rename_i F hF;exact hO i F hF _ _ _ _ he g w0 w aJ hS hG hr
   ·exact AgT ax (Va ax hO f) hG he hS hr hY
  | yl l=>exact λ lc iZ=>AbQ ax (Va ax hO f) hG he hS hr hY iZ
end
end Go.Dn
set_option linter.unusedVariables false
set_option maxRecDepth 100000
namespace Go.Dn
open _root_.Bool renaming and_eq_true -> Ai6
open _root_.Nat renaming beq -> Ai3, eq_of_beq_eq_true -> Ai7
open Go.RowKit (Below)
def Adf:List AI->List AI->Bool
 | [],l=>l.isEmpty
 | x :: xs,l=>match l with
  | []=>false
  | y :: ys=>aeq x y && Adf xs ys
theorem Aaw:∀ {a b:List AI},Adf a b=true->a=b
 | [],b,h=>by simp only [Adf,List.isEmpty_iff] at h;exact h.symm
 | x :: xs,[],h=>by cases h
 | x :: xs,y :: ys,h=>by simp only [Adf,Ai6] at h;rw [Adg h.1,Aaw h.2]
def Ae1(a b:AS):Bool:=Ai3 a.nx b.nx && Adf a.H b.H
theorem Aaz{a b:AS}(h:Ae1 a b=true):a=b:=by
 obtain⟨n,H⟩:=a;obtain⟨m,K⟩:=b;simp only [Ae1,Ai6] at h;rw [Ai7 h.1,Aaw h.2]
def N9(args:List Value)(S:AS)(r:Value × AS):List Value->AS->Option (Value × AS):=λ a T=>bif Sk args a && Ae1 S T then some r else none
section
variable {P:Program}{G:GT}{O:OF}{m f:Nat}
theorem DG(ax:P.follows .mixedOrders=true)(hO:OOK P G O){i:FuncId}{args:List Value}{S:AS}{r:Value × AS}(h:U7 P G O m f (.fn i) args [] S=some r):Qw P G i (N9 args S r):=by
 intro a T v S' he g w0 w aJ hS hG hr;have h1:=(AJ he).1
 replace he:=(AJ he).2
 simp only [Ai6] at h1;have e1:=Im _ h1.1;have e2:=Aaz h1.2;subst e1;subst e2;cases he;exact Va ax hO f _ _ _ _ _ _ h g w0 w aJ hS hG hr (λ y hy=>by cases hy)
theorem AbT(ax:P.follows .mixedOrders=true)(hO:OOK P G O){i:FuncId}{v:Value}{S':AS}(h:U7 P G O m f (.fn i) [] [] ⟨0,[]⟩=some (v,S'))(hp:pl v=true){w:World}(hG:IE G w) :
  Calls P i ⟨[]⟩ w (λ e w'=>e=.returned v/\Below w.heap.size w w'):=by
 have hS:SX (λ _=>none) w w ⟨0,[]⟩:=⟨λ _ _=>rfl,[],rfl,ST.start w⟩;refine (Va ax hO f _ _ _ _ _ _ h _ w w [] hS hG (by simp [RL]) (λ y hy=>by cases hy)).mono ?_;rintro e w' ⟨c,g',rfl,_,hr,_,L,_,hT⟩;rw [(PJ _ hp).1 hr];exact⟨rfl,hT.Ag⟩
end
def isR(x:Option (Value × AS))(v:Value)(T:AS):Bool:=match x with
 | some r=>NF r.1 v && Ae1 r.2 T
 | none=>false
theorem EA{x:Option (Value × AS)}{v:Value}{T:AS}(h:isR x v T=true):x=some (v,T):=by
 unfold isR at h;split at h
 ·rename_i r;simp only [Ai6] at h;rw [<- Sl _ h.1,<- Aaz h.2]
 ·cases h
def orO(F K:List Value->AS->Option (Value × AS)):List Value->AS->Option (Value × AS):=λ a T=>match F a T with
 | some r=>some r
 | none=>K a T
section
variable {P:Program}{G:GT}
theorem VC{i:FuncId}{F K:List Value->AS->Option (Value × AS)}(h1:Qw P G i F)(h2:Qw P G i K):Qw P G i (orO F K):=by
 intro a T v S' he;unfold orO at he;split at he
 ·rename_i r hr;cases he;exact h1 a T v S' hr
 ·exact h2 a T v S' he
def GS(O:OF)(i:FuncId)(F:List Value->AS->Option (Value × AS)):OF:=λ j=>bif Ai3 j i then some F else O j
theorem CH{O:OF}(hO:OOK P G O){i:FuncId}{F:List Value->AS->Option (Value × AS)}(h:Qw P G i F):OOK P G (GS O i F):=by
 intro j K hj;unfold GS at hj;cases hb:Ai3 j i with
 | true =>
  rw [hb] at hj;simp only [cond_true,Option.some.injEq] at hj;subst hj;rw [Ai7 hb];exact h
 | false=>rw [hb] at hj;exact hO j K hj
def noO:OF:=λ _=>none
theorem Ahi:OOK P G noO:=by intro i F h;cases h
end
section
variable {P:Program}{g:Sg}{w0 w:World}{G:GT}
theorem IE.rd(hG:IE G w0){b:Nat}{vs:List Value}(h:W9 G b=some vs):Rd w0 (some ⟨b,0,none⟩) vs:=by
 intro j v hj;have:=(hG b vs h).2 j v hj;refine⟨_,rfl,?_⟩;cases j with
 | zero=>simpa [Addr.add] using this
 | succ j=>simpa [Addr.add] using this
theorem SX.Ag{S:AS}(hS:SX g w0 w S):Below w0.heap.size w0 w:=hS.2.elim λ _ h=>h.2.Ag
def Yh:List Value->Option (List ByteArray)
 | []=>some []
 | v :: r=>match v with
  | .string s=>(match Yh r with
   | some l=>some (s :: l)
   | none=>none)
  | _=>none
theorem Yi:∀ {vs cs:List Value} {l:List ByteArray},Yh vs=some l->RL g vs cs->cs=l.map Value.string
 | [],cs,l,h,hr=>by
  simp only [Yh,Option.some.injEq] at h;simp only [RL] at hr;subst h;subst hr;rfl
 | v :: r,[],l,h,hr=>by simp [RL] at hr
 | v :: r,c :: cs,l,h,hr=>by
  unfold Yh at h;split at h
  ·split at h
   ·rename_i m hm;cases h;simp only [RL] at hr;have h1:=hr.1;simp only [R] at h1;rw [h1,Yi hm hr.2];rfl
   ·cases h
  ·cases h
theorem Aa7{α:Type}(f:α->Value)(hf:∀ x,pl (f x)=true):∀ l:List α,LN (l.map f)=true
 | []=>rfl
 | x :: l=>by simp only [List.map_cons,LN,hf x,Aa7 f hf l,Bool.and_self]
theorem Acq{G:GT}{H:List AI}{p p':Option Addr}{l k c' sz:Nat}{vs:List Value}(he:Ta G H p l sz=some vs)(hr:IL g p l k (.slice p' l c'))(hl:1<=l):(∃ b o,p'=some ⟨b,o,none⟩)/\l<=c':=by
 unfold Ta at he;have h0:Ai3 l 0=false:=by
  cases h:Ai3 l 0 with
  | false=>rfl
  | true=>have:=Ai7 h;omega
 rw [h0,cond_false] at he;split at he
 ·rename_i a;split at he
  ·rename_i da;obtain⟨a',c2,e1,h1,h2,_⟩:=JM hr hl;cases e1;unfold ad at h2;obtain⟨b,_,rfl⟩:=Option.map_eq_some_iff.1 h2;exact⟨⟨b,a.off,by rw [da]⟩,h1⟩
  ·cases he
 ·cases he
end
end Go.Dn
namespace Go.Proofs.YtegnhfeclchlmaaGreatDoor
open _root_.List renaming length_map -> AjM
open _root_.Nat renaming ble -> AjX, le_of_ble_eq_true -> Aj7, mul_one -> AjC
set_option maxRecDepth 100000
open Go.Dn Go.Proofs
open Go.RowKit (Below)
set_option linter.unusedVariables false
def Ag2:List Value->Option Value:=λ args=>match args with
 | [.string s,.int .u8 c]=>some (.int .i64 (Lib.indexByte s.data.toList c.toNat.toUInt8))
 | _=>none
theorem Afs{G:GT}:Qw Tryz.prog G f.strings_IndexByte (XN Ag2):=XO λ args v h w=>by
 unfold Ag2 at h;split at h
 ·cases h;refine (Tryz.strings_IndexByte _ _ w).mono ?_;rintro _ w' ⟨rfl,rfl⟩;exact⟨rfl,.refl _ _⟩
 ·cases h
def AgN:List Value->Option Value:=λ args=>match args with
 | [.string s,.string t]=>some (.int .i64 (Lib.compareBytes s.data.toList t.data.toList))
 | _=>none
theorem Ae4{G:GT}:Qw Tryz.prog G f.strings_Compare (XN AgN):=XO λ args v h w=>by
 unfold AgN at h;split at h
 ·cases h;refine (Tryz.strings_Compare _ _ w).mono ?_;rintro _ w' ⟨rfl,rfl⟩;exact⟨rfl,.refl _ _⟩
 ·cases h
def RE(G:GT)(H:List AI):List Value->Option (List (List UInt8))
 | []=>some []
 | v :: r=>match v with
  | .slice p n _=>(match Ta G H p n 1,RE G H r with
   | some vs,some l=>(match Hf vs with
    | some b=>some (b :: l)
    | none=>none)
   | _,_=>none)
  | _=>none
theorem Ub{g:Sg}{w0 w:World}{G:GT}(hG:IE G w0){S:AS}(hS:SQ g w0 w S.H):∀ {vs cs:List Value} {l:List (List UInt8)},RE G S.H vs=some l->RL g vs cs->∃ ps:List Io,cs=ps.map C1/\Bv ps=l.flatten/\∀ p∈ps,Rd w p.1 (p.2.2.map Af)
 | [],cs,l,h,hr=>by
  simp only [RE,Option.some.injEq] at h;simp only [RL] at hr;subst h;subst hr;exact⟨[],rfl,rfl,by simp⟩
 | v :: r,[],l,h,hr=>by simp [RL] at hr
 | v :: r,c :: cs,l,h,hr=>by
  unfold RE at h;split at h
  ·rename_i p n k;split at h
   ·rename_i vs l1 h1 h2;split at h
    ·rename_i b hb;cases h;simp only [RL] at hr;obtain⟨ps,rfl,e2,e3⟩:=Ub hG hS h2 hr.2;have pZ:=hr.1;simp only [R] at pZ;obtain⟨p',c',us,rfl,cy,aP,hlen⟩:=J0 hG hS h1 pZ;have:=I7 hb cy;subst this;refine⟨(p',c',b) :: ps,?_,?_,?_⟩
     ·rw [List.map_cons];simp only [AjM,AjC] at hlen;show _=C1 (p',c',b) :: _;unfold C1;rw [hlen]
     ·show b++Bv ps=_;rw [e2];rfl
     ·intro q hq;rcases List.mem_cons.1 hq with rfl | hq
      ·exact aP
      ·exact e3 q hq
    ·cases h
   ·cases h
  ·cases h
def Ahv(G:GT):List Value->AS->Option (Value × AS):=λ args S=>match args with
 | [.slice p n _]=>(match Ta G S.H p n 1 with
  | some cs=>(match RE G S.H cs with
   | some l=>bif AjX l.flatten.length 1000000 && AjX n 1000000 then some (.agg ⟨(Pp l.flatten).map Af⟩,S) else none
   | none=>none)
  | none=>none)
 | _=>none
theorem AfP(l:List UInt8):LN (l.map Af)=true:=Aa7 _ (λ _=>rfl) l
theorem Af4{G:GT}(hT:∀ w0,IE G w0->L6 w0):Qw Tryz.prog G f.Q3 (Ahv G):=by
 intro args S v S' he g w0 w aJ hS hG hr;unfold Ahv at he;split at he
 ·rename_i p n k
  match aJ,hr with
  | [u],hr =>
   simp only [RL,R] at hr;split at he
   ·rename_i cs h1;split at he
    ·rename_i l h2;have hb:=(AJ he).1
     replace he:=(AJ he).2
     simp only [Bool.and_eq_true] at hb;have iM:=Aj7 hb.1;have gd:=Aj7 hb.2;simp only [Option.some.injEq,Prod.mk.injEq] at he;obtain⟨hv,rfl⟩:=he;obtain⟨p',c',us,rfl,cy,aP,hlen⟩:=J0 hG hS.2 h1 hr.1;obtain⟨ps,rfl,e2,e3⟩:=Ub hG hS.2 h2 cy;simp only [AjM,AjC] at hlen;subst hlen;have hc:=Jk ((hT w0 hG).grown hS.Ag) (c:=c') ps aP e3 (by omega) (by rw [e2];omega);rw [e2] at hc;generalize Pp l.flatten=dg at hc hv;have hp:pl v=true:=by
      rw [<- hv];simp only [pl,plA];exact AfP dg
     refine hc.mono ?_;rintro _ w' ⟨_,rfl,rfl,B⟩;exact⟨_,g,rfl,Ext.refl _ _,(PJ _ hp).2 hv,hS.grown B⟩
    ·cases he
   ·cases he
  | [],hr=>simp [RL] at hr
  | _ :: _ :: _,hr=>simp [RL] at hr
 ·cases he
def Ad2(G:GT):List Value->AS->Option (Value × AS):=λ args S=>match args with
 | [.slice p n _,.string sep]=>(match Ta G S.H p n 1 with
  | some cs=>(match Yh cs with
   | some l=>bif AjX (Lib.join (l.map (·.data.toList)) sep.data.toList).length 1000000 && (AjX n 1000000 && AjX 1 n) then some (.string ⟨(Lib.join (l.map (·.data.toList)) sep.data.toList).toArray⟩,S) else none
   | none=>none)
  | none=>none)
 | _=>none
theorem Ad3{G:GT}:Qw Tryz.prog G f.strings_Join (Ad2 G):=by
 intro args S v S' he g w0 w aJ hS hG hr;unfold Ad2 at he;split at he
 ·rename_i p n k sep
  match aJ,hr with
  | [u,u2],hr =>
   simp only [RL,R] at hr;obtain⟨hr,gR,_⟩:=hr;subst gR;split at he
   ·rename_i cs h1;split at he
    ·rename_i l h2;have hb:=(AJ he).1
     replace he:=(AJ he).2
     simp only [Bool.and_eq_true] at hb;have iM:=Aj7 hb.1;have gd:=Aj7 hb.2.1;have mf:=Aj7 hb.2.2;cases he;obtain⟨p',c',us,rfl,cy,aP,hlen⟩:=J0 hG hS.2 h1 hr;have:=Yi h2 cy;subst this;simp only [AjM,AjC] at hlen;subst hlen;obtain⟨⟨bk,o,rfl⟩,av⟩:=Acq h1 hr mf;have cl:∀(j:Nat) x,l[j]?=some x->w.cell? ⟨bk,o+j,none⟩=some (.string x):=by
      intro j x hj;obtain⟨q,hq,hc⟩:=aP j (.string x) (by rw [List.getElem?_map,hj];rfl);cases hq;rwa [Ar] at hc
     obtain⟨x0,fh⟩:∃ x,l[0]?=some x:=⟨_,List.getElem?_eq_getElem (by omega)⟩;refine (Tryz.strings_Join bk o c' l sep w cl (World.block_lt_of_cell? _ _ (cl 0 _ fh)) (by omega) av (by omega)).mono ?_;rintro _ w' ⟨rfl,B⟩;exact⟨_,g,rfl,Ext.refl _ _,by simp only [R],hS.grown B⟩
    ·cases he
   ·cases he
  | [],hr=>simp [RL] at hr
  | [_],hr=>simp [RL] at hr
  | _ :: _ :: _ :: _,hr=>simp [RL] at hr
 ·cases he
end Go.Proofs.YtegnhfeclchlmaaGreatDoor
namespace Go.Proofs.YtegnhfeclchlmaaGreatDoor
open Go.Dn Go.Proofs
set_option maxRecDepth 100000
namespace Ru
abbrev I(x:Int):Value:=.int .i64 x
abbrev T(l:List UInt8):Value:=.string ⟨⟨l⟩⟩
abbrev J(b o:Nat):Option Addr:=some ⟨b,o,none⟩
def Adj:List Value:=[0,0,0,0,1,2,0,2,2].map I
def AfK:List Value:=[0,1,2,1,1,1,2,1,2].map I
def G1:GT:=[(2,EF),(6,Rg),(1,Jh),(10,Adj),(11,AfK),(0,DJ.map wV),(3,MQ.map (.int .u8)),(4,E1.map (.int .u8))]
theorem AeR(w:World)(h:IE G1 w):L6 w:=⟨h.rd rfl,h.rd rfl,h.rd rfl⟩
def O1:OF:=GS (GS (GS (GS noO f.Q3 (Ahv G1)) f.strings_Join (Ad2 G1)) f.strings_Compare (XN AgN)) f.strings_IndexByte (XN Ag2)
theorem Hd:OOK Tryz.prog G1 O1:=CH (CH (CH (CH Ahi (Af4 AeR)) Ad3) Ae4) Afs
end Ru
end Go.Proofs.YtegnhfeclchlmaaGreatDoor
namespace Go.Proofs.YtegnhfeclchlmaaGreatDoor
open _root_.Bool renaming and_eq_true -> Ai6
open _root_.List renaming all_eq_true -> AjW, drop_zero -> Akd, eq_nil_of_length_eq_zero -> Ajl, flatten_cons -> Ake, getElem?_map -> Akb, length_cons -> AjK, range -> AjO
open _root_.Nat renaming add_mul -> Aji, zero_mul -> Akc
open _root_.Option renaming map_eq_some_iff -> Aj8
open _root_.Option.some renaming inj -> Aj9
open _root_.Prod renaming fst -> Aka
set_option maxRecDepth 100000
open Go.Dn Go.Proofs
open Go.RowKit (Below)
set_option linter.unusedVariables false
theorem TJ{f:Int->Value}{m:Nat}:∀(eG:List (List Int)) (cs:List Value),cs.length=eG.length*m->(∀ i (hi:i<eG.length),(cs.drop (i*m)).take m=eG[i].map f)->cs=eG.flatten.map f
 | [],cs,hl,_=>by
  have:cs=[]:=Ajl (by simpa using hl);rw [this];rfl
 | z :: zs,cs,hl,h=>by
  have h0:=h 0 (by simp);simp only [Akc,Akd,List.getElem_cons_zero] at h0;have ih:=TJ (m:=m) zs (cs.drop m) (by rw [List.length_drop,hl,AjK,Aji];omega) (λ i hi=>by
   have:=h (i+1) (by simp;omega);rw [List.drop_drop];rw [show m+i*m=(i+1)*m by rw [Aji];omega];exact this)
  rw [Ake,List.map_append,<- h0,<- ih,List.take_append_drop]
theorem SB{H:Type}{enc:TypeId × Value->H}{P:Program}{w:World}{base:Nat}{sp:Nat->Bool}{held:Bool}{fuel:Nat}{t e e2:TypeId}{n m:Nat}{k:IntKind}{cs:List Value}{eG:List (List Int)}{p:List MemPlace}
  (ht:P.underlying t=some (.array n e)) (he:P.underlying e=some (.array m e2)) (jG:P.underlying e2=some (.int k)) (dN:P.cellsOf e2=1) (de:P.cellsOf e=m) (eN:P.cellsOf t=n*m)
  (h:DataW.trod enc P w base sp held fuel t cs=some (.agg (eG.map (Lib.tabData k)),p)):cs=eG.flatten.map λ z=>Value.int k z:=by
 cases fuel with
 | zero=>simp [DataW.trod] at h
 | succ fuel =>
  simp only [DataW.trod,ht,de,eN] at h;split at h
  ·rename_i hl;obtain⟨xs,hm,hx⟩:=Aj8.1 h;have cz:xs.map (·.1)=eG.map (Lib.tabData (H:=H) k):=by
    have:=congrArg Aka hx;simpa using this
   have dm:xs.length=n:=by simpa using Lib.mapM_length hm
   have ph:eG.length=n:=by
    have:=congrArg List.length cz;simp at this;omega
   refine TJ (m:=m) eG cs (by rw [hl,ph]) λ i hi=>?_;have cj:i<n:=by omega
   obtain⟨b,hb,hf⟩:=Lib.mapM_at hm i i (by simp [cj]);have h2:(xs.map (·.1))[i]?=some b.1:=by simp [hb]
   rw [cz,Akb,List.getElem?_eq_getElem hi] at h2;have h3:b.1=Lib.tabData k eG[i]:=(Aj9 h2).symm;obtain⟨b1,b2⟩:=b;simp only at h3;subst h3;exact Lib.cells_of_tab he jG dN de hf
  ·cases h
theorem VZ{P:Program}{W:World}{name:String}{g:Nat}{cs:List Value}(hg:P.globalNamed name=some g)(h:W.var? P name=some cs.toArray):Rd W (some ⟨g,0,none⟩) cs:=by
 intro j v hv;refine⟨_,rfl,?_⟩;rw [Ar,Nat.zero_add];have:=World.var?_cell hg h j;rw [this];simpa using hv
theorem Qm{P:Program}{W:World}{name:String}{k:IntKind}{eG:List (List Int)}{g:Nat}{t e e2:TypeId}{n m:Nat}{rest:List (String × DataW Unit)}
  (hg:P.globalNamed name=some g) (er:(P.globals[g]?).map (·.type)=some t) (ht:P.underlying t=some (.array n e)) (he:P.underlying e=some (.array m e2)) (jG:P.underlying e2=some (.int k)) (dN:P.cellsOf e2=1) (de:P.cellsOf e=m) (eN:P.cellsOf t=n*m)
  (h:laidMet P ((name,.agg (eG.map (Lib.tabData k))) :: rest) W):Rd W (some ⟨g,0,none⟩) (eG.flatten.map λ z=>Value.int k z):=by
 obtain⟨ps,⟨g',t',cs,fuel,p,q,aS,jQ,hvar,hd,_,_⟩,_⟩:=h;obtain rfl:=Aj9 (hg.symm.trans aS);obtain rfl:=Aj9 (er.symm.trans jQ);have e:=SB ht he jG dN de eN hd;refine VZ hg ?_;rw [hvar,<- e]
theorem Af5{P:Program}{W:World}{name:String}{k:IntKind}{zs:List Int}{g:Nat}{t e:TypeId}{n:Nat}{rest:List (String × DataW Unit)}
  (hg:P.globalNamed name=some g) (er:(P.globals[g]?).map (·.type)=some t) (ht:P.underlying t=some (.array n e)) (he:P.underlying e=some (.int k)) (de:P.cellsOf e=1) (eN:P.cellsOf t=n)
  (h:laidMet P ((name,Lib.tabData k zs) :: rest) W):Rd W (some ⟨g,0,none⟩) (zs.map λ z=>Value.int k z):=VZ hg (Lib.tabIs_of_head hg er ht he de eN h)
theorem Af6 {W : World} {l : List (String × DataW Unit)} (h1 : (l.filter λ x => x.1 == "stackyard/hash.first") = [("stackyard/hash.first", Rows.laid_stackyard_hash_first)]) (h2 : (l.filter λ x => x.1 == "stackyard/hash.orders") = [("stackyard/hash.orders", Rows.laid_stackyard_hash_orders)])
  (h3 : (l.filter λ x => x.1 == "stackyard/hash.places") = [("stackyard/hash.places", Rows.laid_stackyard_hash_places)]) (h : laidMet Tryz.prog l W) : L6 W := by
 have g1 := h.filter λ x => x.1 == "stackyard/hash.first"
 have g2 := h.filter λ x => x.1 == "stackyard/hash.orders"
 have g3 := h.filter λ x => x.1 == "stackyard/hash.places"
 rw [h1] at g1;rw [h2] at g2;rw [h3] at g3;have e1:(Rows.laid_stackyard_hash_first:DataW Unit)=Lib.tabData .u32 (DJ.map λ x=>(x.toNat:Int)):=by rfl
 have e2:(Rows.laid_stackyard_hash_orders:DataW Unit)=.agg (((AjO 10).map Jr).map (Lib.tabData .u8)):=by rfl
 have e3:(Rows.laid_stackyard_hash_places:DataW Unit)=.agg (((AjO 8).map λ i=>(E1.drop (i*4)).take 4).map (Lib.tabData .u8)):=by rfl
 rw [e1] at g1;rw [e2] at g2;rw [e3] at g3;have r1:=Af5 (g:=0) (t:=173) (e:=161) (n:=8) (by kernel_rfl) (by kernel_rfl) (by kernel_rfl) (by kernel_rfl) (by kernel_rfl) (by kernel_rfl) g1;have r2:=Qm (g:=3) (t:=347) (e:=346) (e2:=5) (n:=10) (m:=16) (by kernel_rfl) (by kernel_rfl) (by kernel_rfl) (by kernel_rfl) (by kernel_rfl) (by kernel_rfl) (by kernel_rfl) (by kernel_rfl) g2;have r3:=Qm (g:=4) (t:=349) (e:=348) (e2:=5) (n:=8) (m:=4) (by kernel_rfl) (by kernel_rfl) (by kernel_rfl) (by kernel_rfl) (by kernel_rfl) (by kernel_rfl) (by kernel_rfl) (by kernel_rfl) g3;have q2:((AjO 10).map Jr).flatten=MQ:=by decide
 have q3:((AjO 8).map λ i=>(E1.drop (i*4)).take 4).flatten=E1:=by decide
 rw [q2] at r2;rw [q3] at r3;exact⟨by rw [List.map_map] at r1;exact r1,r2,r3⟩
/-! ### cells out of data, one element after another -/
theorem AeH{H:Type}{enc:TypeId × Value->H}{P:Program}{w:World}{base:Nat}{sp:Nat->Bool}{held:Bool}{fuel:Nat}{t:TypeId}{cs:List Value}{b:List UInt8}{p:List MemPlace}(ht:P.underlying t=some .string)(h:DataW.trod enc P w base sp held fuel t cs=some (.lit (.string b),p)):cs=[.string (Dz b)]:=by
 obtain⟨s,rfl,hx,_⟩:=DataW.trod_string ht h;cases hx;rw [show s.data.toList=bl s from rfl,Fs]
theorem AeG{H:Type}{enc:TypeId × Value->H}{P:Program}{w:World}{base:Nat}{sp:Nat->Bool}{held:Bool}{fuel:Nat}{t e:TypeId}{n m:Nat}{cs:List Value}{ds:List (DataW H)}{vss:List (List Value)}{p:List MemPlace}
  (ht:P.underlying t=some (.array n e)) (de:P.cellsOf e=m) (eN:P.cellsOf t=n*m) (hv:vss.length=n) (hd:ds.length=n)
  (az:∀(f:Nat) (i:Nat) (c:List Value) (d:DataW H) (q:List MemPlace),ds[i]?=some d->DataW.trod enc P w base sp held f e c=some (d,q)->vss[i]?=some c)
  (h:DataW.trod enc P w base sp held fuel t cs=some (.agg ds,p)):cs=vss.flatten:=by
 cases fuel with
 | zero=>simp [DataW.trod] at h
 | succ fuel =>
  simp only [DataW.trod,ht,de,eN] at h;split at h
  ·rename_i hl;obtain⟨xs,hm,hx⟩:=Aj8.1 h;have cz:xs.map (·.1)=ds:=by
    have:=congrArg Aka hx;simpa using this
   have all:∀ i,i<n->vss[i]?=some ((cs.drop (i*m)).take m):=λ i hi=>by
    obtain⟨b,hb,hf⟩:=Lib.mapM_at hm i i (by simp [hi]);exact az _ i _ b.1 b.2 (by rw [<- cz];simp [hb]) hf
   have go:∀(l:List (List Value)) (c:List Value),c.length=l.length*m->(∀ i,i<l.length->l[i]?=some ((c.drop (i*m)).take m))->c=l.flatten:=by
    intro l
    induction l with
    | nil=>intro c hc _;exact Ajl (by simpa using hc)
    | cons z l ih =>
     intro c hc hh;have h0:=hh 0 (by simp);simp only [List.getElem?_cons_zero,Akc,Akd,Option.some.injEq] at h0;have:=ih (c.drop m) (by rw [List.length_drop,hc,AjK,Aji];omega) λ i hi=>by
      have:=hh (i+1) (by simp;omega);rw [List.getElem?_cons_succ] at this;rw [List.drop_drop,show m+i*m=(i+1)*m by rw [Aji];omega];exact this
     rw [Ake,h0,<- this,List.take_append_drop]
   exact go vss cs (by rw [hl,hv]) λ i hi=>all i (by omega)
  ·cases h
theorem Aag{H:Type}{enc:TypeId × Value->H}{P:Program}{w:World}{base:Nat}{sp:Nat->Bool}{held:Bool}{fuel:Nat}{t i64t:TypeId}{cs:List Value}{x y z:Int}{p:List MemPlace}
  (ht:Co P t=some [(i64t,0),(i64t,1),(i64t,2)]) (hi:P.underlying i64t=some (.int .i64)) (fY:P.cellsOf i64t=1) (hc:P.cellsOf t=3)
  (h:DataW.trod enc P w base sp held fuel t cs=some (.agg [.lit (.int .i64 x),.lit (.int .i64 y),.lit (.int .i64 z)],p)):cs=[.int .i64 x,.int .i64 y,.int .i64 z]:=by
 obtain⟨fs,hu,hfs⟩:∃ fs,P.underlying t=some (.struct fs)/\fs.toList.map (λ f=>(f.type,f.offset))=[(i64t,0),(i64t,1),(i64t,2)]:=by
  unfold Co at ht;split at ht
  ·rename_i fs hu;exact⟨fs,hu,Aj9 ht⟩
  ·cases ht
 obtain⟨xs,n,rfl,hx,hl,hn,aC⟩:=DataW.trod_struct hu h;rw [hc] at hl;have cz:xs.map (·.1)=[.lit (.int .i64 x),.lit (.int .i64 y),.lit (.int .i64 z)]:=by
  have:=congrArg Aka hx;simpa using this.symm
 have one:∀(i:Nat) (v:Int),(fs.toList.map λ f=>(f.type,f.offset))[i]?=some (i64t,i)->(xs.map (·.1))[i]?=some (.lit (.int .i64 v))->(cs.drop i).take 1=[.int .i64 v]:=by
  intro i v iU hv;rw [Akb] at iU hv;obtain⟨f,hf,hff⟩:=Aj8.1 iU;obtain⟨b,hb,hbv⟩:=Aj8.1 hv;have:=aC i f (by simpa using hf);rw [hb,show f.type=i64t from congrArg Aka hff,show f.offset=i from congrArg Prod.snd hff,fY] at this;obtain⟨z',aj,rfl,_⟩:=DataW.trod_int hi this;cases hbv;exact aj
 rw [hfs,cz] at one
 match cs,hl with
 | [u0,u1,u2],_ =>
  have h0:=one 0 x rfl rfl;have h1:=one 1 y rfl rfl;have h2:=one 2 z rfl rfl;simp at h0 h1 h2;rw [h0,h1,h2]
theorem Adl{P:Program}{W:World}{name:String}{g:Nat}{t e:TypeId}{n m:Nat}{ds:List (DataW Unit)}{vss:List (List Value)}{rest:List (String × DataW Unit)}
  (hg:P.globalNamed name=some g) (er:(P.globals[g]?).map (·.type)=some t) (ht:P.underlying t=some (.array n e)) (de:P.cellsOf e=m) (eN:P.cellsOf t=n*m) (hv:vss.length=n) (hd:ds.length=n)
  (az:∀(H:Type) (enc:TypeId × Value->Unit) (base:Nat) (sp:Nat->Bool) (held:Bool) (f:Nat) (i:Nat) (c:List Value) (d:DataW Unit) (q:List MemPlace),ds[i]?=some d->DataW.trod enc P W base sp held f e c=some (d,q)->vss[i]?=some c)
  (h:laidMet P ((name,.agg ds) :: rest) W):Rd W (some ⟨g,0,none⟩) vss.flatten:=by
 obtain⟨ps,⟨g',t',cs,fuel,p,q,aS,jQ,hvar,bZ,_,_⟩,_⟩:=h;obtain rfl:=Aj9 (hg.symm.trans aS);obtain rfl:=Aj9 (er.symm.trans jQ);have e:=AeG ht de eN hv hd (λ f i c d q h1 h2=>az Unit _ _ _ _ f i c d q h1 h2) bZ;refine VZ hg ?_;rw [hvar,<- e]
theorem W6{α β:Type}(f:α->β):∀ l:List α,(l.map λ b=>[f b]).flatten=l.map f
 | []=>rfl
 | b :: l=>by rw [List.map_cons,Ake,W6 f l];rfl
theorem Abg{P:Program}{W:World}{name:String}{g:Nat}{t e:TypeId}{n:Nat}{bs:List ByteArray}{rest:List (String × DataW Unit)}
  (hg:P.globalNamed name=some g) (er:(P.globals[g]?).map (·.type)=some t) (ht:P.underlying t=some (.array n e)) (he:P.underlying e=some .string) (de:P.cellsOf e=1) (eN:P.cellsOf t=n) (hn:bs.length=n)
  (h:laidMet P ((name,.agg (bs.map λ b=>.lit (.string (bl b)))) :: rest) W):Rd W (some ⟨g,0,none⟩) (bs.map Value.string):=by
 have:=Adl (vss:=bs.map λ b=>[Value.string b]) hg er ht de (by rw [eN,Nat.mul_one]) (by simpa using hn) (by simpa using hn) (λ _ _ _ _ _ f i c d q h1 h2=>by
  rw [Akb] at h1 ⊢;obtain⟨b,hb,rfl⟩:=Aj8.1 h1;rw [hb,AeH he h2,Fs];rfl) h
 rwa [W6] at this
theorem Af7{P:Program}{W:World}{name:String}{g:Nat}{t e i64t:TypeId}{n:Nat}{xs:List (Int × Int × Int)}{rest:List (String × DataW Unit)}
  (hg:P.globalNamed name=some g) (er:(P.globals[g]?).map (·.type)=some t) (ht:P.underlying t=some (.array n e)) (he:Co P e=some [(i64t,0),(i64t,1),(i64t,2)]) (hi:P.underlying i64t=some (.int .i64)) (fY:P.cellsOf i64t=1) (de:P.cellsOf e=3) (eN:P.cellsOf t=n*3) (hn:xs.length=n)
  (h:laidMet P ((name,.agg (xs.map λ x=>.agg [.lit (.int .i64 x.1),.lit (.int .i64 x.2.1),.lit (.int .i64 x.2.2)])) :: rest) W):Rd W (some ⟨g,0,none⟩) (xs.flatMap λ x=>[Value.int .i64 x.1,.int .i64 x.2.1,.int .i64 x.2.2]):=by
 have:=Adl (vss:=xs.map λ x=>[Value.int .i64 x.1,.int .i64 x.2.1,.int .i64 x.2.2]) hg er ht de eN (by simpa using hn) (by simpa using hn) (λ _ _ _ _ _ f i c d q h1 h2=>by
  rw [Akb] at h1 ⊢;obtain⟨b,hb,rfl⟩:=Aj8.1 h1;rw [hb,Aag he hi fY de h2];rfl) h
 rwa [<- List.flatMap_def] at this
theorem Ahl {W : World} {l : List (String × DataW Unit)} (hf : (l.filter λ x => x.1 == "internal/strconv.uint64pow10") = [("internal/strconv.uint64pow10", Rows.laid_internal_strconv_uint64pow10)]) (h : laidMet Tryz.prog l W) :
  Lib.TabIs Tryz.prog W "internal/strconv.uint64pow10" .u64 Lib.pow10Tab := by
 have h1 := h.filter λ x => x.1 == "internal/strconv.uint64pow10"
 rw [hf] at h1;exact Lib.tabIs_of_head (g:=9) (t:=469) (e:=ty.uint64) (n:=20) (by kernel_rfl) (by kernel_rfl) (by kernel_rfl) (by kernel_rfl) (by kernel_rfl) (by kernel_rfl) h1
theorem Ahc{W:World}(h:W.ShapedOpen Tryz.prog):∃ m,W.cell? ⟨5,0,none⟩=some (.int .i64 m) :=
 cell_of_shapedOpen_int (zero:=#[.int .i64 0]) (t:=ty.int) h (of_decide_eq_true (by kernel_rfl)) (by kernel_rfl) rfl (by kernel_rfl) (by kernel_rfl) (by kernel_rfl)
def AfX:List (Int × Int × Int):=[(-1,0,0),(0,0,0),(0,0,0),(2,1,1),(2,1,1),(2,1,1),(2,1,1),(2,1,1),(1,1,1),(2,0,2),(2,0,2),(2,0,2),(2,2,2),(2,2,2),(1,2,2),(1,0,2),(1,3,1)]
def Ah3:List ByteArray:=[⟨#[115,101,108,101,99,116]⟩,⟨#[119,104,101,114,101]⟩,⟨#[103,114,111,117,112]⟩,⟨#[98,121]⟩,⟨#[111,114,100,101,114]⟩,⟨#[108,105,109,105,116]⟩,⟨#[97,115]⟩,⟨#[97,110,100]⟩,⟨#[111,114]⟩,⟨#[110,111,116]⟩,
 ⟨#[105,115]⟩,⟨#[110,117,108,108]⟩,⟨#[116,114,117,101]⟩,⟨#[102,97,108,115,101]⟩,⟨#[108,101,110]⟩,⟨#[100,101,115,99]⟩,⟨#[99,111,117,110,116]⟩,⟨#[115,117,109]⟩,⟨#[109,105,110]⟩,⟨#[109,97,120]⟩]
def AdN:List ByteArray:=[⟨#[]⟩,⟨#[]⟩,⟨#[99,111,117,110,116]⟩,⟨#[115,117,109]⟩,⟨#[109,105,110]⟩,⟨#[109,97,120]⟩]
theorem AgY {W : World} {l : List (String × DataW Unit)} (h1 : (l.filter λ x => x.1 == "stackyard/expr.shapes") = [("stackyard/expr.shapes", Rows.laid_stackyard_expr_shapes)]) (h2 : (l.filter λ x => x.1 == "stackyard/query.keys") = [("stackyard/query.keys", Rows.laid_stackyard_query_keys)])
  (h3 : (l.filter λ x => x.1 == "stackyard/query.gathers") = [("stackyard/query.gathers", Rows.laid_stackyard_query_gathers)]) (h4 : (l.filter λ x => x.1 == "internal/strconv.uint64pow10") = [("internal/strconv.uint64pow10", Rows.laid_internal_strconv_uint64pow10)])
  (hS:W.ShapedOpen Tryz.prog) (h:laidMet Tryz.prog l W):Env W:=by
 have g1 := h.filter λ x => x.1 == "stackyard/expr.shapes"
 have g2 := h.filter λ x => x.1 == "stackyard/query.keys"
 have g3 := h.filter λ x => x.1 == "stackyard/query.gathers"
 rw [h1] at g1;rw [h2] at g2;rw [h3] at g3;have e1:(Rows.laid_stackyard_expr_shapes:DataW Unit)=.agg (AfX.map λ x=>.agg [.lit (.int .i64 x.1),.lit (.int .i64 x.2.1),.lit (.int .i64 x.2.2)]):=by rfl
 have e2:(Rows.laid_stackyard_query_keys:DataW Unit)=.agg (Ah3.map λ b=>.lit (.string (bl b))):=by rfl
 have e3:(Rows.laid_stackyard_query_gathers:DataW Unit)=.agg (AdN.map λ b=>.lit (.string (bl b))):=by rfl
 rw [e1] at g1;rw [e2] at g2;rw [e3] at g3;exact⟨Ahc hS,Ahl h4 h,Af7 (g:=2) (t:=304) (e:=303) (i64t:=ty.int) (n:=17) (by kernel_rfl) (by kernel_rfl) (by kernel_rfl) (by kernel_rfl) (by kernel_rfl) (by kernel_rfl) (by kernel_rfl) (by kernel_rfl) rfl g1,
  Abg (g:=6) (t:=424) (e:=ty.string) (n:=20) (by kernel_rfl) (by kernel_rfl) (by kernel_rfl) (by kernel_rfl) (by kernel_rfl) (by kernel_rfl) rfl g2,
  Abg (g:=1) (t:=298) (e:=ty.string) (n:=6) (by kernel_rfl) (by kernel_rfl) (by kernel_rfl) (by kernel_rfl) (by kernel_rfl) (by kernel_rfl) rfl g3⟩
theorem AeS(w:World):IE [] w:=λ b vs h=>by cases h
theorem ES{b:Nat}{vs:List Value}{G:GT}{w:World}(h:Rd w (some ⟨b,0,none⟩) vs)(hp:LN vs=true)(hG:IE G w):IE ((b,vs) :: G) w:=by
 intro c us hc;unfold W9 at hc;cases hb:Nat.beq b c with
 | true =>
  simp only [hb,cond_true,Option.some.injEq] at hc;have:=Nat.eq_of_beq_eq_true hb;subst this;subst hc;refine⟨hp,λ i v hi=>?_⟩;obtain⟨p,hp,hcell⟩:=h i v hi;cases hp;rwa [Ar,Nat.zero_add] at hcell
 | false =>
  simp only [hb,cond_false] at hc;exact hG c us hc
structure XE(w:World):Prop where
 E:Env w
 T:L6 w
 G:IE Ru.G1 w
theorem Ait {W : World} {l : List (String × DataW Unit)} (h1 : (l.filter λ x => x.1 == "stackyard/expr.shapes") = [("stackyard/expr.shapes", Rows.laid_stackyard_expr_shapes)]) (h2 : (l.filter λ x => x.1 == "stackyard/query.keys") = [("stackyard/query.keys", Rows.laid_stackyard_query_keys)])
  (h3 : (l.filter λ x => x.1 == "stackyard/query.gathers") = [("stackyard/query.gathers", Rows.laid_stackyard_query_gathers)]) (h4 : (l.filter λ x => x.1 == "internal/strconv.uint64pow10") = [("internal/strconv.uint64pow10", Rows.laid_internal_strconv_uint64pow10)])
  (h5 : (l.filter λ x => x.1 == "stackyard/hash.first") = [("stackyard/hash.first", Rows.laid_stackyard_hash_first)]) (h6 : (l.filter λ x => x.1 == "stackyard/hash.orders") = [("stackyard/hash.orders", Rows.laid_stackyard_hash_orders)])
  (h7 : (l.filter λ x => x.1 == "stackyard/hash.places") = [("stackyard/hash.places", Rows.laid_stackyard_hash_places)])
  (h8 : (l.filter λ x => x.1 == "stackyard/expr.ands") = [("stackyard/expr.ands", Rows.laid_stackyard_expr_ands)]) (h9 : (l.filter λ x => x.1 == "stackyard/expr.ors") = [("stackyard/expr.ors", Rows.laid_stackyard_expr_ors)])
  (hS:W.ShapedOpen Tryz.prog) (h:laidMet Tryz.prog l W):XE W:=by
 have E:=AgY h1 h2 h3 h4 hS h;have T:=Af6 h5 h6 h7 h;have g1 := h.filter λ x => x.1 == "stackyard/expr.ands"
 have g2 := h.filter λ x => x.1 == "stackyard/expr.ors"
 rw [h8] at g1;rw [h9] at g2;have e1:(Rows.laid_stackyard_expr_ands:DataW Unit)=.agg ([[0,0,0],[0,1,2],[0,2,2]].map (Lib.tabData .i64)):=by rfl
 have e2:(Rows.laid_stackyard_expr_ors:DataW Unit)=.agg ([[0,1,2],[1,1,1],[2,1,2]].map (Lib.tabData .i64)):=by rfl
 rw [e1] at g1;rw [e2] at g2;have r1:=Qm (g:=10) (t:=485) (e:=484) (e2:=3) (n:=3) (m:=3) (by kernel_rfl) (by kernel_rfl) (by kernel_rfl) (by kernel_rfl) (by kernel_rfl) (by kernel_rfl) (by kernel_rfl) (by kernel_rfl) g1;have r2:=Qm (g:=11) (t:=485) (e:=484) (e2:=3) (n:=3) (m:=3) (by kernel_rfl) (by kernel_rfl) (by kernel_rfl) (by kernel_rfl) (by kernel_rfl) (by kernel_rfl) (by kernel_rfl) (by kernel_rfl) g2;exact⟨E,T,ES E.iB (by kernel_rfl) (ES E.key (by kernel_rfl) (ES E.gat (by kernel_rfl) (ES r1 (by kernel_rfl) (ES r2 (by kernel_rfl) (ES T.first (by kernel_rfl) (ES T.orders (by kernel_rfl) (ES T.places (by kernel_rfl) (AeS W))))))))⟩
inductive Ex where
 | mk (op:Int) (nm:ByteArray) (v:AW) (ks:List Ex)
def Ex.op:Ex->Int | .mk op _ _ _=>op
def Ex.nm:Ex->ByteArray | .mk _ nm _ _=>nm
def Ex.v:Ex->AW | .mk _ _ v _=>v
def Ex.ks:Ex->List Ex | .mk _ _ _ ks=>ks
theorem Ex.ind{M:Ex->Prop}(h:∀ op nm v ks,(∀ k∈ks,M k)->M (.mk op nm v ks)):∀ x,M x
 | .mk op nm v ks=>h op nm v ks λ k hk=>Ex.ind h k
 termination_by x=>SizeOf.sizeOf x
 decreasing_by
  have:=List.sizeOf_lt_of_mem hk;simp only [Ex.mk.sizeOf_spec];omega
abbrev i64(n:Int):Prop := -9223372036854775808<=n/\n<=9223372036854775807
def An(x:Ex)(a:Option Addr)(cap:Nat):List Value:=[.int .i64 x.op,.string x.nm,.int .i64 x.v.1,.int .i64 x.v.2.1,.string x.v.2.2,.slice a x.ks.length cap]
mutual
def DT(F:Nat->Prop)(w:World):Ex->List Value->Prop
 | .mk op nm v ks,cs=>∃ a cap rs,cs=[.int .i64 op,.string nm,.int .i64 v.1,.int .i64 v.2.1,.string v.2.2,.slice a ks.length cap] /\
   (Rd w a rs/\(∀ p,a=some p->rs≠[]->¬ F p.block)/\ks.length<=cap/\cap<=maxLen/\(a=none->cap=0)) /\
   (i64 op/\nm.size<=maxLen/\i64 v.1/\i64 v.2.1/\v.2.2.size<=maxLen)/\IW F w ks rs
def IW(F:Nat->Prop)(w:World):List Ex->List Value->Prop
 | [],cs=>cs=[]
 | x :: xs,cs=>∃ c r,cs=c++r/\DT F w x c/\IW F w xs r
end
section
variable {F G:Nat->Prop}{w w':World}
theorem DT.len{x:Ex}{cs:List Value}(h:DT F w x cs):cs.length=6:=by
 obtain⟨op,nm,v,ks⟩:=x;unfold DT at h;obtain⟨a,cap,rs,rfl,_⟩:=h;rfl
theorem IW.len:∀ {xs:List Ex} {cs:List Value},IW F w xs cs->cs.length=xs.length*6
 | [],cs,h=>by unfold IW at h;subst h;rfl
 | x :: xs,cs,h=>by
  unfold IW at h;obtain⟨c,r,rfl,h1,h2⟩:=h;have:=h1.len;have:=h2.len;simp only [List.length_append,AjK];omega
theorem IW.get:∀ {xs:List Ex} {cs:List Value},IW F w xs cs->∀(i:Nat) (hi:i<xs.length),DT F w xs[i] ((cs.drop (i*6)).take 6)
 | [],cs,h,i,hi=>by simp at hi
 | x :: xs,cs,h,i,hi=>by
  unfold IW at h;obtain⟨c,r,rfl,h1,h2⟩:=h;have hl:=h1.len;cases i with
  | zero =>
   have:((c++r).drop (0*6)).take 6=c:=by rw [Akc,Akd,List.take_append_of_le_length (by omega),List.take_of_length_le (by omega)]
   rw [this];exact h1
  | succ i =>
   have:((c++r).drop ((i+1)*6)).take 6=(r.drop (i*6)).take 6:=by
    rw [List.drop_append,List.drop_eq_nil_of_le (by omega),List.nil_append,hl];congr 2;omega
   rw [this];exact IW.get h2 i (by simpa using hi)
theorem DT.open{x:Ex}{cs:List Value}(h:DT F w x cs):∃ a cap rs,cs=An x a cap/\Rd w a rs/\(∀ p,a=some p->rs≠[]->¬ F p.block)/\x.ks.length<=cap/\cap<=maxLen/\(a=none->cap=0) /\
  (i64 x.op/\x.nm.size<=maxLen/\i64 x.v.1/\i64 x.v.2.1/\x.v.2.2.size<=maxLen)/\IW F w x.ks rs:=by
 obtain⟨op,nm,v,ks⟩:=x;unfold DT at h;obtain⟨a,cap,rs,rfl,⟨h1,h2,h3,h4,h5⟩,h6,h7⟩:=h;exact⟨a,cap,rs,rfl,h1,h2,h3,h4,h5,h6,h7⟩
theorem DT.close{x:Ex}{a:Option Addr}{cap:Nat}{rs:List Value}(h1:Rd w a rs)(h2:∀ p,a=some p->rs≠[]->¬ F p.block)(h3:x.ks.length<=cap)(h4:cap<=maxLen)(h5:a=none->cap=0)
  (h6:i64 x.op/\x.nm.size<=maxLen/\i64 x.v.1/\i64 x.v.2.1/\x.v.2.2.size<=maxLen) (h7:IW F w x.ks rs):DT F w x (An x a cap):=by
 obtain⟨op,nm,v,ks⟩:=x;unfold DT;exact⟨a,cap,rs,rfl,⟨h1,h2,h3,h4,h5⟩,h6,h7⟩
theorem IW.mono{H:World->World->Prop}{xs:List Ex}(hx:∀ x∈xs,∀ cs,DT F w x cs->DT G w' x cs):∀ {cs:List Value},IW F w xs cs->IW G w' xs cs:=by
 induction xs with
 | nil=>intro cs h;unfold IW at h ⊢;exact h
 | cons x xs ih =>
  intro cs h;unfold IW at h ⊢;obtain⟨c,r,rfl,h1,h2⟩:=h;exact⟨c,r,rfl,hx x (by simp) c h1,ih (λ y hy=>hx y (by simp [hy])) h2⟩
theorem DT.grown(hk:Below w.heap.size w w'){x:Ex}{cs:List Value}(h:DT F w x cs):DT F w' x cs:=by
 revert cs
 induction x using Ex.ind with
 | h op nm v ks ih =>
  intro cs h;obtain⟨a,cap,rs,rfl,h1,h2,h3,h4,h5,h6,h7⟩:=h.open;exact DT.close (h1.grown hk) h2 h3 h4 h5 h6 (IW.mono (H:=λ _ _=>True) (λ k cG cs hc=>ih k cG hc) h7)
theorem IW.grown(hk:Below w.heap.size w w'){xs:List Ex}{cs:List Value}(h:IW F w xs cs):IW F w' xs cs:=IW.mono (H:=λ _ _=>True) (λ _ _ _ hc=>hc.grown hk) h
end
/-! ### nodes -/
mutual
def Ex.nodes:Ex->Nat->List (Nat × Ex)
 | .mk op nm v ks,d=>(d,.mk op nm v ks) :: if d<=40 then Ex.A5 ks (d+1) else []
def Ex.A5:List Ex->Nat->List (Nat × Ex)
 | [],_=>[]
 | k :: ks,d=>k.nodes d++Ex.A5 ks d
end
mutual
def Ex.size:Ex->Nat
 | .mk _ _ _ ks=>Ex.KF ks+1
def Ex.KF:List Ex->Nat
 | []=>0
 | k :: ks=>k.size+Ex.KF ks
end
def G5(op:Int):Int :=
 if op=1\/op=2 then 0 else if op=8\/op=14\/op=15\/op=16 then 1 else if 3<=op/\op<=13 then 2 else -1
abbrev V0:AW:=(0,0,E0)
def Sx(x:Ex):Bool:=decide ((x.ks.length:Int)=G5 x.op) && (decide (x.op=1) || decide (x.nm=E0)) && (decide (x.op=2) || decide (x.v=V0)) && AG x.v
mutual
def Ex.T0:Ex->Nat->Bool
 | _,0=>false
 | .mk op nm v ks,d+1=>Sx (.mk op nm v ks) && Ex.okL ks d
def Ex.okL:List Ex->Nat->Bool
 | [],_=>true
 | k :: ks,d=>k.T0 d && Ex.okL ks d
end
def Ex.formed(x:Ex):Bool:=x.T0 40 && decide (x.size<=400)
theorem Aee:∀(x:Ex) (d:Nat),d<=41->((∀ p∈x.nodes d,p.1<=40/\Sx p.2=true)↔x.T0 (41-d)=true):=by
 intro x
 induction x using Ex.ind with
 | h op nm v ks ih =>
  intro d hd;have hL:∀(l:List Ex),(∀ k∈l,k∈ks)->d<=40->((∀ p∈Ex.A5 l (d+1),p.1<=40/\Sx p.2=true)↔Ex.okL l (41-(d+1))=true):=by
   intro l
   induction l with
   | nil=>intro _ _;simp [Ex.A5,Ex.okL]
   | cons k l ihl =>
    intro hl hd;have h1:=ih k (hl k (by simp)) (d+1) (by omega);have h2:=ihl (λ y hy=>hl y (by simp [hy])) hd;simp only [Ex.A5,Ex.okL,List.mem_append,Ai6,<- h1,<- h2];constructor
    ·intro h;exact⟨λ p hp=>h p (.inl hp),λ p hp=>h p (.inr hp)⟩
    ·rintro⟨ha,hb⟩ p (hp | hp)
     ·exact ha p hp
     ·exact hb p hp
  by_cases rK:d=41
  ·subst rK;simp [Ex.nodes,Ex.T0]
  ·have bZ:d<=40:=by omega
   have e:41-d=(41-(d+1))+1:=by omega
   rw [e];simp only [Ex.nodes,Ex.T0,Ai6,if_pos bZ,List.mem_cons,<- hL ks (λ _ h=>h) bZ];constructor
   ·intro h;exact⟨(h _ (.inl rfl)).2,λ p hp=>h p (.inr hp)⟩
   ·rintro⟨ha,hb⟩ p (rfl | hp)
    ·exact⟨bZ,ha⟩
    ·exact hb p hp
theorem TZ:∀(x:Ex) (d:Nat),x.T0 (41-d)=true->(x.nodes d).length=x.size:=by
 intro x
 induction x using Ex.ind with
 | h op nm v ks ih =>
  intro d h;have hd:d<=40:=by
   apply Classical.byContradiction;intro hn;rw [show 41-d=0 by omega] at h;simp [Ex.T0] at h
  rw [show 41-d=(41-(d+1))+1 by omega] at h;simp only [Ex.T0,Ai6] at h;have hL:∀(l:List Ex),(∀ k∈l,k∈ks)->Ex.okL l (41-(d+1))=true->(Ex.A5 l (d+1)).length=Ex.KF l:=by
   intro l
   induction l with
   | nil=>intro _ _;simp [Ex.A5,Ex.KF]
   | cons k l ihl =>
    intro hl aZ;simp only [Ex.okL,Ai6] at aZ;simp only [Ex.A5,Ex.KF,List.length_append,ih k (hl k (by simp)) (d+1) aZ.1,ihl (λ y hy=>hl y (by simp [hy])) aZ.2]
  simp only [Ex.nodes,Ex.size,if_pos hd,AjK,hL ks (λ _ h=>h) h.2]
theorem HZ(x:Ex):x.formed=true↔(∀ p∈x.nodes 1,p.1<=40/\Sx p.2=true)/\(x.nodes 1).length<=400:=by
 have h1:=Aee x 1 (by omega);rw [h1];simp only [Ex.formed,Ai6,decide_eq_true_eq];constructor
 ·rintro⟨ha,hb⟩;exact⟨ha,by rw [TZ x 1 ha];exact hb⟩
 ·rintro⟨ha,hb⟩;exact⟨ha,by rw [TZ x 1 ha] at hb;exact hb⟩
theorem Q0{op:Int}{nm:ByteArray}{v:AW}{ks:List Ex}{d:Nat}(h:Ex.T0 (.mk op nm v ks) (d+1)=true):Sx (.mk op nm v ks)=true/\∀ k∈ks,k.T0 d=true:=by
 simp only [Ex.T0,Ai6] at h;refine⟨h.1,?_⟩;have h2:=h.2;clear h
 induction ks with
 | nil=>simp
 | cons k ks ih =>
  simp only [Ex.okL,Ai6] at h2;intro y hy;rcases List.mem_cons.1 hy with rfl | hy
  ·exact h2.1
  ·exact ih h2.2 y hy
theorem Wy{p:UInt8->Bool}(h:(AjO 256).all (λ n=>p (UInt8.ofNat n))=true)(c:UInt8):p c=true:=by
 have:=AjW.1 h c.toNat (List.mem_range.2 c.toNat_lt);simpa using this
def Rn:ByteArray:=⟨#[97,98,99,100,101,102,103,104,105,106,107,108,109,110,111,112,113,114,115,116,117,118,119,120,121,122]⟩
def Qe:ByteArray:=⟨#[97,98,99,100,101,102,103,104,105,106,107,108,109,110,111,112,113,114,115,116,117,118,119,120,121,122,48,49,50,51,52,53,54,55,56,57,95]⟩
theorem AfG(c:UInt8):decide (Lib.indexByte Rn.data.toList c>=0)=Rl c:=by
 have:=Wy (p:=λ c=>decide (Lib.indexByte Rn.data.toList c>=0)==Rl c) (by kernel_rfl) c;simpa using this
theorem AfN(c:UInt8):(bl Qe).contains c=(Rl c || VF c):=by
 have:=Wy (p:=λ c=>(bl Qe).contains c==(Rl c || VF c)) (by kernel_rfl) c;simpa using this
theorem TO{s:ByteArray}(h1:1<=s.size)(h2:s.size<=24):Cp s=(Rl (C5 s 0) && (bl s).all λ c=>Rl c || VF c):=by
 have hl:(bl s).length=s.size:=Bs s;have he:∀ i (hi:i<(bl s).length),C5 s i=(bl s)[i]:=λ i hi=>by rw [VT];simp [List.getD,hi]
 rw [Bool.eq_iff_iff];simp only [Cp,Ai6,AjW,List.mem_range,decide_eq_true_eq,h1,h2,and_true];constructor
 ·intro h;refine⟨?_,λ c hc=>?_⟩
  ·have:=h 0 (by omega);simpa [nameAt] using this
  ·obtain⟨i,hi,rfl⟩:=List.getElem_of_mem hc;have:=h i (by omega);rw [nameAt,he i hi] at this;simp only [Bool.or_eq_true,Ai6] at this ⊢;rcases this with h | h
   ·exact .inl h
   ·exact .inr h.1
 ·rintro⟨h0,h⟩ i hi;have iU:i<(bl s).length:=by omega
  have:=h _ (List.getElem_mem iU);rw [nameAt];by_cases hz:i=0
  ·subst hz;simp [h0]
  ·rw [he i iU];simp only [Bool.or_eq_true,Ai6] at this ⊢;rcases this with h | h
   ·exact .inl h
   ·exact .inr ⟨h,by simpa using hz⟩
theorem Hw(s:ByteArray)(hs:s.size<=9223372036854775807)(w:World):Calls Tryz.prog f.Tf #[.string s] w (AD λ r w'=>r=.bool (Cp s)/\Below w.heap.size w w'):=by
 apply R.Ke
 delta R.B R.Ci R.Ct R.F R.G R.T R.X;try dsimp only [R.Ps]
 refine Ap (Ao (λ h=>?_) (λ h0=>?_))
 ·rw [Aw] at h;have:s=⟨#[]⟩:=by simpa using h
  subst this;exact⟨rfl,.refl _ _⟩
 rw [Aw] at h0;have aV:s≠⟨#[]⟩:=by simpa using h0
 have h1:1<=s.size:=by
  rcases Nat.eq_zero_or_pos s.size with h | h
  ·exact absurd (HL (by rw [Ajl ((Bs s).trans h)];rfl)) aV
  ·exact h
 refine Aa (λ h2=>?_) (λ h2=>⟨?_,.refl _ _⟩)
 case refine_2 =>
  have fE:¬ s.size<=24:=by omega
  simp [Cp,fE]
 have fE:s.size<=24:=by omega
 have hb:=(C5 s 0).toNat_lt;refine⟨⟨by omega,by omega⟩,(Tryz.strings_IndexByte Rn ((C5 s 0).toNat:Int) w).mono ?_⟩;rintro _ w1 ⟨rfl,rfl⟩;refine⟨_,rfl,?_⟩;have e:((C5 s 0).toNat:Int).toNat.toUInt8=C5 s 0:=by simp
 rw [e,AfG];refine Ao (λ h3=>?_) (λ h3=>⟨?_,.refl _ _⟩)
 ·refine (PX s Qe hs (by decide) (by decide) ?_ w1).mono ?_
  ·intro j b hj;have h:Qe.data.toList.all (λ b=>decide (b.toNat<128))=true:=by decide
   exact of_decide_eq_true (AjW.1 h b (List.mem_of_getElem? hj))
  rintro _ w2 ⟨_,rfl,q,rfl,hq,B⟩;refine⟨_,rfl,?_,B⟩;congr 1;rw [Aw,TO h1 fE,h3,Bool.true_and,Bool.eq_iff_iff,decide_eq_true_eq,hq];simp only [AjW,AfN]
 ·rw [TO h1 fE,h3,Bool.false_and]
def stU(f:Nat->Bool)(w:Nat):Nat->Nat->Nat
 | 0,_=>0
 | t+1,j=>if j=t / w/\f t=true then stU f w t j ||| 2 ^ (t % w) else stU f w t j
def AiD(l:List UInt8)(t:Nat):Bool:=(l.getD (t / 8) 0).toNat.testBit (t % 8)
def Af9(l:List UInt8)(n w:Nat):List Nat:=(AjO n).map (stU (AiD l) w (n*w))
/-! ### rows of numbers -/
/-! ### words -/
def MB(x:Int):Value:=.int .i64 x
section
variable {w:World}{a:Option Addr}{c:Nat}
end
theorem AcE{s:ByteArray}(h:s.size<=1024):(Es s).length<=1034:=by
 have:=AE (n:=s.size) (by omega);have:=Bs s;simp [Es];omega
def Ah9(ls:List ByteArray):Bool:=ls.any λ s=>decide (1024<s.size)
section
variable {w:World}{a:Option Addr}{c:Nat}{ls:List ByteArray}
end
def Agl(f:Int)(ls:List ByteArray):Prop:=0<=f/\f<=1/\ls.length<=4096/\Ah9 ls=false
instance (f:Int) (ls:List ByteArray):Decidable (Agl f ls):=by unfold Agl;infer_instance
section
variable {w:World}{a:Option Addr}{c:Nat}{ls:List ByteArray}
def g1(l:List (List UInt8))(x:List UInt8):Option Int:=if x∈l then some 0 else none
def g2(l t:List (List UInt8))(i:Nat)(x:List UInt8):Option Int:=if x∈t.take i then some (t.idxOf x:Int) else g1 l x
end
section
variable {w0 w:World}{ba a:Option Addr}{bc c:Nat}{bs:List UInt8}{l:List Int}
end
def AdY(f:Int)(l:List Int):Prop:=0<=f/\f<=3/\l.length<=4096
instance (f:Int) (l:List Int):Decidable (AdY f l):=by unfold AdY;infer_instance
section
variable {w:World}{a:Option Addr}{c:Nat}{l:List Int}
end
section
variable {w:World}{a:Option Addr}{c:Nat}{l:List Int}
structure Et(w:World)(b4:Nat)(F:Nat->Prop)(wx:World)(bs:List UInt8):Prop where
 ex:∃(ba:Option Addr) (bc:Nat),wx.heap[b4]?=some (.cells #[.slice ba bs.length bc] ty.AM (0,0))/\Row wx ty.uint8 1 ba bs.length bc (bs.map Af)/\∀ x,BX ba=some x->w.heap.size<=x/\x≠b4/\¬ F x
end
section
variable {w:World}{a:Option Addr}{c:Nat}{l:List Int}
end
section
variable {w:World}{a:Option Addr}{c:Nat}{ls:List ByteArray}
end
section
variable {w:World}{a:Option Addr}{c:Nat}{t:List (List UInt8)}
end
section
variable {w:World}{a:Option Addr}{c:Nat}{ls:List ByteArray}
end
section
variable {w:World}{a:Option Addr}{c:Nat}{ls:List ByteArray}
end
end Go.Proofs.YtegnhfeclchlmaaGreatDoor
namespace Go.Dn
open _root_.BitVec renaming ofInt -> Ai2
set_option linter.unusedVariables false
set_option maxRecDepth 100000
def UR(r:BitVec 32):BitVec 32:=(r >>> 1) ^^^ (2197175160#32 &&& -(r &&& 1#32))
def EX:Nat->BitVec 32->BitVec 32
 | 0,r=>r
 | n+1,r=>EX n (UR r)
def YP(c:UInt8):BitVec 32:=BitVec.ofNat 32 c.toNat
def AaD(r:BitVec 32)(c:UInt8):BitVec 32:=EX 8 (r ^^^ YP c)
def BR(r:BitVec 32)(l:List UInt8):BitVec 32:=l.foldl AaD r
def crc(l:List UInt8):BitVec 32:=4294967295#32 ^^^ BR 4294967295#32 l
theorem Kn:∀(n:Nat) (r:BitVec 32),EX (n+1) r=UR (EX n r)
 | 0,_=>rfl
 | n+1,r=>by rw [EX,Kn n,EX]
theorem Jb(r:BitVec 32)(l m:List UInt8):BR r (l++m)=BR (BR r l) m:=by simp [BR]
theorem AcC(r:BitVec 32):(IntKind.u32.wrap (((Ai2 32 (Int.fdiv (r.toNat:Int) (2 ^ (min 1 32))) ^^^ Ai2 32 (IntKind.u32.wrap (((Ai2 32 2197175160 &&& Ai2 32 (IntKind.u32.wrap (0-(IntKind.u32.wrap (((Ai2 32 (r.toNat:Int) &&& Ai2 32 1).toNat:Int)))))).toNat:Int)))).toNat:Int)))=((UR r).toNat:Int):=by
 have h1:min 1 32=1:=by decide
 rw [h1,HW,BQ,Bl,Cq,Bl,Cq,ZG,Cq,Bl,Bl];rfl
end Go.Dn
namespace Go.Dn
def Aah(x:BitVec 32):UInt8:=UInt8.ofNat x.toNat
def Af3(x:BitVec 32):List UInt8:=[Aah x,Aah (x >>> 8),Aah (x >>> 16),Aah (x >>> 24)]
theorem Ym(x:BitVec 32):IntKind.u8.wrap (x.toNat:Int)=((Aah x).toNat:Int):=by
 rw [wrap_u8];simp [Aah]
theorem LJ(x:BitVec 32)(k:Nat):IntKind.u8.wrap (Int.fdiv (x.toNat:Int) (2 ^ (min k 32)))=((Aah (x >>> (min k 32))).toNat:Int):=by
 rw [HW,Ym]
end Go.Dn
namespace Go.Proofs.YtegnhfeclchlmaaGreatDoor
open _root_.Int renaming toNat_natCast -> Ajz
open _root_.Nat renaming zero_le -> AjZ
set_option maxRecDepth 100000
open Go.Dn Go.Proofs
set_option linter.unusedVariables false
theorem Md(ps:List Io)(k:Nat)(hk:k<ps.length)(r:BitVec 32) :
  BR r ((ps.take (k+1)).flatMap (·.2.2))=BR (BR r ((ps.take k).flatMap (·.2.2))) ps[k].2.2:=by
 rw [List.take_succ_eq_append_getElem hk,List.flatMap_append,Jb];simp
theorem Me(l:List UInt8)(k:Nat)(hk:k<l.length)(r:BitVec 32):BR r (l.take (k+1))=AaD (BR r (l.take k)) l[k]:=by
 rw [List.take_succ_eq_append_getElem hk,Jb];rfl
theorem Yw{w:World}{a:Option Addr}{c:Nat}(ps:List Io)(hp:Rd w a (ps.map C1))(hb:∀ p∈ps,Rd w p.1 (p.2.2.map Af))(hn:ps.length<9223372036854775807)(hl:∀ p∈ps,p.2.2.length<9223372036854775807) :
  Calls Tryz.prog f.AeM #[.slice a ps.length c] w (AD λ v w'=>v=.int .u32 ((crc (ps.flatMap (·.2.2))).toNat:Int)/\w'=w):=by
 apply R.Sn
 delta R.Ad R.F R.I R.Ls R.Ly R.Qvi R.V R.W R.Wv R.X;try dsimp only [R.Ps]
 refine⟨λ s w1=>match s with
   | [.int _ r,.int _ i]=>w1=w/\∃ k:Nat,i=k/\k<=ps.length/\r=((BR 4294967295#32 ((ps.take k).flatMap (·.2.2))).toNat:Int)
   | _=>False,
  λ s _=>match s with
   | [_,.int _ i]=>ps.length-i.toNat
   | _=>0,⟨rfl,0,rfl,AjZ _,by simp [BR]⟩,?_⟩
 rintro r i w1 ⟨rfl,k,rfl,hk,rfl⟩;refine Aa (λ aB=>?_) (λ aM=>?_)
 ·have bX:k<ps.length:=by omega
  refine⟨⟨by omega,by omega⟩,?_⟩;obtain⟨p,rfl,hc⟩:=hp k (C1 ps[k]) (by simp [bX]);have bJ:ps[k]∈ps:=List.getElem_mem bX;have jm:=hb _ bJ;have d':=hl _ bJ;have dy:=Md ps k bX 4294967295#32;generalize hR:BR 4294967295#32 ((ps.take k).flatMap (·.2.2))=R at dy ⊢;generalize hq:ps[k]=q at jm d' dy hc;obtain⟨qa,qc,l⟩:=q;simp only at jm d' dy;refine⟨qa,l.length,qc,by simpa [C1] using hc,?_⟩;refine⟨λ s w2=>match s with
    | [.int _ r,.int _ i]=>w2=w1/\∃ j:Nat,i=j/\j<=l.length/\r=((BR R (l.take j)).toNat:Int)
    | _=>False,
   λ s _=>match s with
    | [_,.int _ i]=>l.length-i.toNat
    | _=>0,⟨rfl,0,rfl,AjZ _,by simp [BR]⟩,?_⟩
  rintro r i w2 ⟨rfl,j,rfl,hj,rfl⟩;refine Aa (λ gK=>?_) (λ nA=>?_)
  ·have eZ:j<l.length:=by omega
   refine⟨⟨by omega,by omega⟩,?_⟩;obtain⟨p2,rfl,dN⟩:=jm j (Af l[j]) (by simp [eZ]);have eS:=Me l j eZ R;generalize u9:BR R (l.take j)=R2 at eS ⊢;refine⟨(l[j].toNat:Int),by simpa [Af] using dN,?_⟩;have h0:(IntKind.u32.wrap (((BitVec.ofInt 32 (R2.toNat:Int) ^^^ BitVec.ofInt 32 (IntKind.u32.wrap ((l[j].toNat:Int)))).toNat:Int)))=((R2 ^^^ YP l[j]).toNat:Int):=by
    rw [Cq,Bl,BQ,BitVec.ofInt_natCast];rfl
   rw [h0];refine⟨λ s w3=>match s with
     | [.int _ r,.int _ i]=>w3=w2/\∃ m:Nat,i=m/\m<=8/\r=((EX m (R2 ^^^ YP l[j])).toNat:Int)
     | _=>False,
    λ s _=>match s with
     | [_,.int _ i]=>8-i.toNat
     | _=>0,⟨rfl,0,rfl,AjZ _,by simp [EX]⟩,?_⟩
   rintro r i w3 ⟨rfl,m,rfl,hm,rfl⟩;refine Aa (λ sF=>?_) (λ rl=>?_)
   ·rw [AcC,Ah (by omega)];refine⟨⟨rfl,m+1,rfl,by omega,by rw [Kn]⟩,?_⟩;simp only [Ajz];omega
   ·have:m=8:=by omega
    subst this;rw [Ah (by omega)];refine⟨⟨rfl,j+1,rfl,by omega,by rw [eS];rfl⟩,?_⟩;simp only [Ajz];omega
  ·have:j=l.length:=by omega
   subst this;rw [Ah (by omega)];refine⟨⟨rfl,k+1,rfl,by omega,by rw [dy,List.take_length]⟩,?_⟩;simp only [Ajz];omega
 ·have:k=ps.length:=by omega
  subst this;refine⟨?_,rfl⟩;rw [List.take_length,Bl,BQ];rfl
end Go.Proofs.YtegnhfeclchlmaaGreatDoor
namespace Go.Proofs.YtegnhfeclchlmaaGreatDoor
open _root_.Bool renaming and_false -> Akh
open _root_.Int renaming toNat_natCast -> Ajz
open _root_.List renaming flatMap_cons -> Akf, getElem_mem -> Akg, mem_map -> Ajb, take_succ_eq_append_getElem -> Akj
open _root_.Nat renaming lt_or_ge -> Aki
set_option maxRecDepth 100000
open Go.Dn Go.Proofs
open Go.RowKit (Below)
set_option linter.unusedVariables false
abbrev Ba(ls:List AW):List Value:=ls.flatMap GH
theorem Nv:∀(ls:List AW) (i j:Nat) (hi:i<ls.length),j<3->(Ba ls)[i*3+j]?=(GH ls[i])[j]?
 | [],i,j,hi,_=>by simp at hi
 | v :: ls,0,j,_,hj=>by
  simp only [Ba,Akf,Nat.zero_mul,Nat.zero_add,List.getElem_cons_zero];rw [List.getElem?_append_left (by simpa [GH] using hj)]
 | v :: ls,i+1,j,hi,hj=>by
  simp only [Ba,Akf,List.getElem_cons_succ];rw [List.getElem?_append_right (by simp [GH];omega)];have e:(i+1)*3+j-(GH v).length=i*3+j:=by simp [GH];omega
  rw [e];exact Nv ls i j (by simpa using hi) hj
theorem Yr(ls:List AW):(Ba ls).length=ls.length*3:=by
 induction ls with
 | nil=>rfl
 | cons v ls ih=>simp only [Ba,Akf,List.length_append,List.length_cons] at ih ⊢;rw [ih];simp [GH];omega
section
variable {w:World}{a:Option Addr}{c:Nat}{ls:List AW}
theorem Oz(hl:Rd w a (Ba ls)){i:Nat}(hi:i<ls.length):∃ p,a=some p/\w.cell? (p.add (i*3))=some (.int .i64 ls[i].1)/\w.cell? ((p.add (i*3)).add 1)=some (.int .i64 ls[i].2.1)/\w.cell? ((p.add (i*3)).add 2)=some (.string ls[i].2.2):=by
 obtain⟨p,hp,h0⟩:=hl (i*3+0) _ (by rw [Nv ls i 0 hi (by omega)];rfl);obtain⟨p1,kG,h1⟩:=hl (i*3+1) _ (by rw [Nv ls i 1 hi (by omega)];rfl);obtain⟨p2,kH,h2⟩:=hl (i*3+2) _ (by rw [Nv ls i 2 hi (by omega)];rfl);subst hp;cases kG;cases kH;exact⟨p,rfl,h0,by rw [Bp];exact h1,by rw [Bp];exact h2⟩
def okV(kind:Int)(v:AW):Bool:=AG v && (decide (v.1=kind) || decide (v.1=0))
def ED(kind:Int)(ls:List AW):Bool:=ls.all (okV kind) && decide (1<=kind/\kind<=3/\ls.length<=1024)
theorem Adi{p:AW->Bool}{i:Nat}(hi:i<ls.length)(h:(ls.take i).all p=true)(hp:p ls[i]=true):(ls.take (i+1)).all p=true:=by
 rw [Akj hi,List.all_append,h];simp [hp]
theorem Z1{kind:Int}{i:Nat}(hi:i<ls.length)(hp:okV kind ls[i]=false):ED kind ls=false:=by
 have:ls.all (okV kind)=false:=by
  rw [List.all_eq_false];exact⟨_,Akg hi,by simp [hp]⟩
 simp [ED,this]
theorem Acs{kind:Int}(aC:ls.all (okV kind)=true){w':World}(hb:Below w.heap.size w w'){k:Value->World->Prop}(hk:∀ v w',v=Value.bool (ED kind ls)->Below w.heap.size w w'->k v w') :
  Tp (decide (kind>=1)) (Tp (decide (kind<=3)) (k (Value.bool (decide ((ls.length:Int)<=1024))) w') (k (Value.bool false) w')) (k (Value.bool false) w'):=by
 have e:ED kind ls=decide (1<=kind/\kind<=3/\ls.length<=1024):=by simp [ED,aC]
 refine Aa (λ h1=>Aa (λ h2=>hk _ _ ?_ hb) (λ h2=>hk _ _ ?_ hb)) (λ h1=>hk _ _ ?_ hb)
 ·rw [e];congr 1;rw [decide_eq_decide];omega
 ·rw [e];congr 1;rw [eq_comm,decide_eq_false_iff_not];omega
 ·rw [e];congr 1;rw [eq_comm,decide_eq_false_iff_not];omega
theorem QO(kind:Int)(hl:Rd w a (Ba ls))(hn:ls.length<=9223372036854775807) :
  Calls Tryz.prog f.WB #[.int .i64 kind,.slice a ls.length c] w (AD λ v w'=>v=.bool (ED kind ls)/\Below w.heap.size w w'):=by
 apply R.Mb
 delta R.A R.Ab R.Cb R.E R.F R.G R.I R.Li R.Lt R.N R.Qi R.Ae R.T R.W R.X;try dsimp only [R.Ps]
 refine⟨λ s w1=>∃ i:Nat,i<=ls.length/\s=[.int .i64 (i:Int)]/\Below w.heap.size w w1/\(ls.take i).all (okV kind)=true,λ s _=>match s with
   | [.int _ i]=>ls.length-i.toNat
   | _=>0,⟨0,by omega,rfl,.refl _ _,rfl⟩,?_⟩
 rintro _ w1 ⟨i,hi,aA,B1,aC⟩;cases aA;refine Aa (λ aB=>⟨⟨by omega,aB⟩,?_⟩) (λ aM=>?_)
 ·have aE:i<ls.length:=by omega
  obtain⟨p,rfl,h0,h1,h2⟩:=Oz (hl.grown B1) aE;refine⟨_,by rw [Ajz];exact h0,_,by rw [Ajz];exact h1,_,by rw [Ajz];exact h2,(SH.start (λ _=>False) w1).N5 λ b9 w5 rY B5 S5=>?_⟩;refine⟨_,S5.cell 0 rfl rfl,_,S5.cell 0 rfl rfl,_,S5.cell 0 rfl rfl,(BB w5 ls[i]).mono ?_⟩;rintro _ w6 ⟨_,rfl,rfl,B6⟩;have S6:=S5.grown B6;have C6:=Ac (Ac B1 B5) B6;have bad:okV kind ls[i]=false->(Value.bool false=.bool (ED kind ls))/\Below w.heap.size w w6:=λ h=>⟨by rw [Z1 aE h],C6⟩;have step:okV kind ls[i]=true->(∃ j:Nat,j<=ls.length/\[Value.int .i64 (IntKind.i64.wrap ((i:Int)+1))]=[.int .i64 (j:Int)]/\Below w.heap.size w w6/\(ls.take j).all (okV kind)=true)/\ls.length-(IntKind.i64.wrap ((i:Int)+1)).toNat<ls.length-((i:Nat):Int).toNat:=by
   intro h;rw [Ah (by omega)];refine⟨⟨i+1,by omega,rfl,C6,Adi aE aC h⟩,?_⟩;simp only [Ajz];omega
  refine⟨_,rfl,Ap (Ao (λ hr=>?_) (λ hr=>bad (by simp [okV,hr])))⟩;refine⟨_,S6.cell 0 rfl rfl,As (λ hk=>⟨_,S6.cell 0 rfl rfl,As (λ hz=>bad ?_) (λ hz=>step ?_)⟩) (λ hk=>step ?_)⟩
  ·simp [okV,hk,hz]
  ·simp [okV,hr,hz]
  ·simp [okV,hr,hk]
 ·have gm:ls.take i=ls:=List.take_of_length_le (by omega);rw [gm] at aC;exact Acs (k:=λ v w'=>v=Value.bool (ED kind ls)/\Below w.heap.size w w') aC B1 λ v w' h1 h2=>⟨h1,h2⟩
def Dv(ls:List AW):Nat:=ls.countP λ v=>decide (v.1=0)
theorem Oa(ls:List AW):Dv ls<=ls.length:=List.countP_le_length
end
theorem Mt{α:Type}{g:α->List Value}{n:Nat}(hg:∀ x,(g x).length=n):∀(ls:List α) (i j:Nat) (hi:i<ls.length),j<n->(ls.flatMap g)[i*n+j]?=(g ls[i])[j]?
 | [],i,j,hi,_=>by simp at hi
 | v :: ls,0,j,_,hj=>by
  simp only [Akf,Nat.zero_mul,Nat.zero_add,List.getElem_cons_zero];rw [List.getElem?_append_left (by rw [hg];exact hj)]
 | v :: ls,i+1,j,hi,hj=>by
  simp only [Akf,List.getElem_cons_succ];have e:(i+1)*n+j=n+(i*n+j):=by rw [Nat.add_mul];omega
  rw [e,List.getElem?_append_right (by rw [hg];omega),hg,Nat.add_sub_cancel_left];exact Mt hg ls i j (by simpa using hi) hj
theorem AdJ{α:Type}{g:α->List Value}{n:Nat}(hg:∀ x,(g x).length=n)(ls:List α):(ls.flatMap g).length=ls.length*n:=by
 induction ls with
 | nil=>simp
 | cons v ls ih=>rw [Akf,List.length_append,ih,hg,List.length_cons,Nat.add_mul];omega
abbrev AA:=ByteArray × Int × Bool
def Hi(c:AA):List Value:=[.string c.1,.int .i64 c.2.1,.bool c.2.2]
abbrev AO(cs:List AA):List Value:=cs.flatMap Hi
theorem Mc(c:AA):(Hi c).length=3:=rfl
theorem WC(cs:List AA):(AO cs).length=cs.length*3:=AdJ Mc cs
theorem Fh{w:World}{a:Option Addr}{cs:List AA}(hl:Rd w a (AO cs)){i:Nat}(hi:i<cs.length):∃ p,a=some p/\w.cell? (p.add (i*3))=some (.string cs[i].1)/\w.cell? ((p.add (i*3)).add 1)=some (.int .i64 cs[i].2.1)/\w.cell? ((p.add (i*3)).add 2)=some (.bool cs[i].2.2):=by
 obtain⟨p,hp,h0⟩:=hl (i*3+0) _ (by rw [Mt Mc cs i 0 hi (by omega)];rfl);obtain⟨p1,kG,h1⟩:=hl (i*3+1) _ (by rw [Mt Mc cs i 1 hi (by omega)];rfl);obtain⟨p2,kH,h2⟩:=hl (i*3+2) _ (by rw [Mt Mc cs i 2 hi (by omega)];rfl);subst hp;cases kG;cases kH;exact⟨p,rfl,h0,by rw [Bp];exact h1,by rw [Bp];exact h2⟩
def DU(c:AA):Bool:=Cp c.1 && decide (1<=c.2.1/\c.2.1<=3)
def Ai(cs:List AA):Bool:=decide (1<=cs.length/\cs.length<=16) && cs.all DU && decide ((cs.map (·.1)).Nodup)
theorem Uh{cs:List AA}{i:Nat}(hi:i<cs.length)(h:DU cs[i]=false\/cs[i].1∈(cs.take i).map (·.1)):Ai cs=false:=by
 rcases h with h | h
 ·have:cs.all DU=false:=by
   rw [List.all_eq_false];exact⟨_,Akg hi,by simp [h]⟩
  simp [Ai,this]
 ·have:¬ (cs.map (·.1)).Nodup:=by
   intro hn;obtain⟨j,hj,he⟩:=List.getElem_of_mem h;simp only [List.length_take,List.length_map] at hj;have cQ:j<i:=by omega
   have:=(List.pairwise_iff_getElem.1 hn) j i (by simp;omega) (by simpa using hi) cQ;apply this;simp only [List.getElem_take,List.getElem_map] at he ⊢;exact he
  simp [Ai,this]
theorem Ug{cs:List AA}(h:∀ i (hi:i<cs.length),DU cs[i]=true/\cs[i].1∉(cs.take i).map (·.1)):Ai cs=decide (1<=cs.length/\cs.length<=16):=by
 have h1:cs.all DU=true:=by
  rw [List.all_eq_true];intro c hc;obtain⟨i,hi,rfl⟩:=List.getElem_of_mem hc;exact (h i hi).1
 have h2:(cs.map (·.1)).Nodup:=by
  refine List.pairwise_iff_getElem.2 λ i j hi hj cV=>?_;have bh:j<cs.length:=by simpa using hj
  intro he;apply (h j bh).2;refine List.mem_iff_getElem.2 ⟨i,by simp;omega,?_⟩;simp only [List.getElem_take,List.getElem_map] at he ⊢;exact he
 simp [Ai,h1,h2]
section
variable {w:World}{a:Option Addr}{c:Nat}{cs:List AA}
theorem Yn:Tryz.prog.underlying ty.bool=some .bool:=by kernel_rfl
theorem Yo:Tryz.prog.underlying ty.Fk=some (.map ty.string ty.bool):=by kernel_rfl
theorem AcO(w:World):(zeroValue ty.bool).run Tryz.prog w=.ok (.bool false) w:=by
 have h:(Tryz.prog.info? ty.bool).bind (·.zero)=some (.bool false):=by kernel_rfl
 cases hi:Tryz.prog.info? ty.bool with
 | none=>rw [hi] at h;cases h
 | some i =>
  rw [hi] at h;have hz:i.zero=some (.bool false):=h;simp [zeroValue,typeInfo,hi,hz]
abbrev AgH(w:World)(b n:Nat)(g:List UInt8->Bool):Prop:=UA Tryz.prog ty.string ty.bool w b n g
theorem Aea{w:World}{f:Value->World->Prop}(hf:∀ b w',w.heap.size<=b->Below w.heap.size w w'->AgH w' b 0 (λ _=>false)->f (.map (some b)) w'):Dc Tryz.prog (Instr.makeMap ty.Fk none) f w:=by
 unfold Dc;rw [show (Instr.makeMap ty.Fk none).run Tryz.prog w=.ok (.map (some w.heap.size)) (w.alloc (.map #[] 0)) from rfl];exact hf _ _ (Nat.le_refl _) ((Below.refl _ w).alloc (Nat.le_refl _) _) ⟨_,World.ownsMap_made _ _ _ _,Maps.tidy_empty,λ x=>rfl⟩
def inN(cs:List AA)(i:Nat)(x:List UInt8):Bool:=decide (x∈((cs.take i).map (·.1)).map bl)
theorem AdW{i:Nat}(hi:i<cs.length):(λ y=>if y=bl cs[i].1 then true else inN cs i y)=inN cs (i+1):=by
 funext y;unfold inN;rw [Akj hi,List.map_append,List.map_append];by_cases h1:y=bl cs[i].1
 ·simp [h1]
 ·simp [h1]
theorem AaU{i:Nat}(hi:i<cs.length):inN cs i (bl cs[i].1)=true↔cs[i].1∈(cs.take i).map (·.1):=by
 unfold inN;rw [decide_eq_true_eq,Ajb];constructor
 ·rintro⟨s,hs,he⟩;rw [<- HL he];exact hs
 ·intro h;exact⟨_,h,rfl⟩
theorem N7:maxLen=9223372036854775807:=rfl
theorem CC(hl:Rd w a (AO cs))(hn:cs.length<=9223372036854775807)(hq:∀ c∈cs,c.1.size<=9223372036854775807) :
  Calls Tryz.prog f.VP #[.slice a cs.length c] w (AD λ r w'=>r=.bool (Ai cs)/\Below w.heap.size w w'):=by
 apply R.LB
 delta R.A R.Ab R.Cb R.F R.G R.I R.Lb R.Li R.Lt R.M R.N R.Qi R.Rb R.Rm R.Ae R.T R.W R.X;try dsimp only [R.Ps]
 refine Aea λ b w1 hb B1 rO=>?_;refine⟨_,rfl,λ st w2=>∃ i:Nat,st=[.int .i64 (i:Int)]/\i<=cs.length/\(∀ j (hj:j<cs.length),j<i->DU cs[j]=true/\cs[j].1∉(cs.take j).map (·.1))/\AgH w2 b i (inN cs i)/\Below w.heap.size w w2,
  λ st _=>match st with | [.int _ t]=>cs.length-t.toNat | _=>0,⟨0,rfl,by omega,λ j _ hj=>by omega,rO,B1⟩,?_⟩
 rintro t w2 ⟨i,aA,hi,aC,hM,C2⟩;cases aA;refine Aa (λ aB=>⟨⟨by omega,aB⟩,?_⟩) (λ aM=>?_)
 ·have aE:i<cs.length:=by omega
  have aU:=hq _ (Akg aE);obtain⟨p,rfl,c0,c1,c2⟩:=Fh (hl.grown C2) aE;refine⟨_,by rw [Ajz];exact c0,_,by rw [Ajz];exact c1,_,by rw [Ajz];exact c2,(SH.start (λ _=>False) w2).N5 λ dD w6 rT B6 S6=>⟨_,S6.cell 0 rfl rfl,(Hw _ aU w6).mono ?_⟩⟩;rintro _ w7 ⟨_,rfl,rfl,B7⟩;have S7:=S6.grown B7;have C7:Below w.heap.size w w7:=Ac (Ac C2 B6) B7;have ow:AgH w7 b i (inN cs i):=(hM.kept (F:=λ _=>False) (Aq.AQ B6) (by simp)).kept (F:=λ _=>False) (Aq.AQ B7) (by simp);have bad:DU cs[i]=false\/cs[i].1∈(cs.take i).map (·.1)->Value.bool false=.bool (Ai cs)/\Below w.heap.size w w7:=λ h=>⟨by rw [Uh aE h],C7⟩;refine⟨_,rfl,Ap (Ao (λ h1=>?_) (λ h1=>bad (.inl (by simp [DU,h1]))))⟩;refine⟨_,S7.cell 0 rfl rfl,ow.get Abi Yn Yo (AcO w7) (by rw [N7];exact aU) ⟨_,rfl,?_⟩⟩;refine Ao (λ h2=>bad (.inr ((AaU aE).1 h2))) (λ h2=>⟨_,S7.cell 0 rfl rfl,?_⟩);refine Aa (λ h3=>bad (.inl ?_)) (λ h3=>⟨_,S7.cell 0 rfl rfl,Aa (λ h4=>bad (.inl ?_)) (λ h4=>⟨_,S7.cell 0 rfl rfl,?_⟩)⟩)
  ·have:¬ (1<=cs[i].2.1/\cs[i].2.1<=3):=by omega
   simp only [DU,this,decide_false,Akh]
  ·have:¬ (1<=cs[i].2.1/\cs[i].2.1<=3):=by omega
   simp only [DU,this,decide_false,Akh]
  ·refine ow.put Abi Yn Yo (by rw [N7];omega) (by rw [N7];exact aU) λ w9 K9 ox=>?_;rw [AdW aE] at ox;rw [Ah (by omega)];have ok:DU cs[i]=true:=by
    have:1<=cs[i].2.1/\cs[i].2.1<=3:=by omega
    simp only [DU,h1,this,and_self,decide_true,Bool.and_self]
   refine⟨⟨i+1,rfl,by omega,λ j hj cQ=>?_,ox,?_⟩,?_⟩
   ·rcases Aki j i with h | h
    ·exact aC j hj h
    ·obtain rfl:j=i:=by omega
     exact⟨ok,λ hm=>by rw [(AaU aE).2 hm] at h2;cases h2⟩
   ·exact C7.trans (K9.below C7.size λ k hk he=>by subst he;omega)
   ·show cs.length-((i+1:Nat):Int).toNat<cs.length-((i:Nat):Int).toNat;simp only [Ajz];omega
 ·have hR:Ai cs=decide (1<=cs.length/\cs.length<=16):=Ug λ j hj=>aC j hj (by omega);refine Aa (λ h=>⟨?_,C2⟩) (λ h=>⟨?_,C2⟩)
  ·rw [hR];congr 1;rw [decide_eq_decide];omega
  ·rw [hR];congr 1;rw [eq_comm,decide_eq_false_iff_not];omega
theorem Tb(hl:Rd w a (AO cs))(hn:cs.length<=9223372036854775807)(s:ByteArray) :
  Calls Tryz.prog f.ZY #[.slice a cs.length c,.string s] w (AD λ r w'=>w'=w/\((r=.int .i64 (-1)/\∀ c∈cs,c.1≠s)\/∃(j:Nat) (hj:j<cs.length),r=.int .i64 (j:Int)/\cs[j].1=s/\∀ c∈cs.take j,c.1≠s)):=by
 apply R.On
 delta R.F R.I R.Lt R.Qi R.W R.X;try dsimp only [R.Ps]
 refine⟨λ st w2=>∃ i:Nat,st=[.int .i64 (i:Int)]/\i<=cs.length/\(∀ c∈cs.take i,c.1≠s)/\w2=w,λ st _=>match st with | [.int _ t]=>cs.length-t.toNat | _=>0,⟨0,rfl,by omega,by simp,rfl⟩,?_⟩;rintro t w2 ⟨i,aA,hi,aC,rfl⟩;cases aA;refine Aa (λ aB=>⟨⟨by omega,aB⟩,?_⟩) (λ aM=>⟨rfl,.inl ⟨rfl,?_⟩⟩)
 ·have aE:i<cs.length:=by omega
  obtain⟨p,rfl,c0,c1,c2⟩:=Fh hl aE;refine⟨_,by rw [Ajz];exact c0,?_⟩;rw [Aw];refine Aa (λ he=>⟨rfl,.inr ⟨i,aE,rfl,he,aC⟩⟩) (λ he=>?_);rw [Ah (by omega)];refine⟨⟨i+1,rfl,by omega,λ c hc=>?_,rfl⟩,?_⟩
  ·rw [Akj aE] at hc;rcases List.mem_append.1 hc with hc | hc
   ·exact aC c hc
   ·rw [List.mem_singleton.1 hc];exact he
  ·show cs.length-((i+1:Nat):Int).toNat<cs.length-((i:Nat):Int).toNat;simp only [Ajz];omega
 ·rw [List.take_of_length_le (by omega)] at aC;exact aC
theorem RQ(hl:Rd w a (AO cs))(hn:cs.length<=9223372036854775807)(hq:∀ c∈cs,c.1.size<=9223372036854775807) :
  Calls Tryz.prog f.XY #[.slice a cs.length c] w (AD λ r w'=>r=.bool (Ai cs)/\w'=w):=by
 apply R.M6
 delta R.Cb R.Ci R.F R.G R.I R.Li R.Lt R.Qi R.S R.T R.W R.X;try dsimp only [R.Ps]
 refine Aa (λ h=>⟨?_,rfl⟩) (λ h1=>Aa (λ h=>⟨?_,rfl⟩) (λ h2=>?_))
 ·have:¬ (1<=cs.length/\cs.length<=16):=by omega
  simp [Ai,this]
 ·have:¬ (1<=cs.length/\cs.length<=16):=by omega
  simp [Ai,this]
 refine⟨λ st w2=>∃ i:Nat,st=[.int .i64 (i:Int)]/\i<=cs.length/\(∀ j (hj:j<cs.length),j<i->DU cs[j]=true/\cs[j].1∉(cs.take j).map (·.1))/\w2=w,
  λ st _=>match st with | [.int _ t]=>cs.length-t.toNat | _=>0,⟨0,rfl,by omega,λ j _ hj=>by omega,rfl⟩,?_⟩
 rintro t w2 ⟨i,aA,hi,aC,rfl⟩;cases aA;refine Aa (λ aB=>⟨⟨by omega,aB⟩,?_⟩) (λ aM=>⟨?_,rfl⟩)
 ·have aE:i<cs.length:=by omega
  have aU:=hq _ (Akg aE);obtain⟨p,rfl,c0,c1,c2⟩:=Fh hl aE;have bad:DU cs[i]=false\/cs[i].1∈(cs.take i).map (·.1)->Value.bool false=.bool (Ai cs)/\w2=w2:=λ h=>⟨by rw [Uh aE h],rfl⟩;have hb:(0:Int)<=(i:Int)/\(i:Int)<(cs.length:Int):=⟨by omega,aB⟩;refine⟨_,by rw [Ajz];exact c0,(PQ _ aU w2).mono ?_⟩;rintro _ w2 ⟨_,rfl,rfl,rfl⟩;refine⟨_,rfl,Ap (Ao (λ h3=>⟨hb,_,by rw [Ajz];exact c0,(Tb hl hn _).mono ?_⟩) (λ h3=>bad (.inl (by simp [DU,h3]))))⟩;rintro _ w2 ⟨r,rfl,rfl,hr⟩;have bE:∃ z:Int,r=.int .i64 z/\(z=i↔cs[i].1∉(cs.take i).map (·.1)):=by
   rcases hr with ⟨rfl,h⟩ | ⟨j,hj,rfl,he,h⟩
   ·exact absurd rfl (h _ (Akg aE))
   ·refine⟨_,rfl,?_⟩;have hle:j<=i:=by
     rcases Aki i j with cV | cV
     ·exact absurd rfl (h cs[i] (List.mem_take_iff_getElem.2 ⟨i,by omega,rfl⟩))
     ·exact cV
    constructor
    ·intro hz hm;obtain⟨c,hc,he⟩:=Ajb.1 hm;have:j=i:=by omega
     subst this;exact h c hc he
    ·intro hm;rcases Aki j i with cQ | cQ
     ·exact absurd (Ajb.2 ⟨cs[j],List.mem_take_iff_getElem.2 ⟨j,by omega,rfl⟩,he⟩) hm
     ·omega
  obtain⟨z,rfl,hz⟩:=bE;refine⟨_,rfl,As (λ h=>bad (.inr ?_)) (λ h=>⟨hb,_,by rw [Ajz];exact c1,?_⟩)⟩
  ·by_cases hm:cs[i].1∈(cs.take i).map (·.1)
   ·exact hm
   ·exact absurd (hz.2 hm) h
  refine Aa (λ h3=>bad (.inl ?_)) (λ h3=>⟨hb,_,by rw [Ajz];exact c1,Aa (λ h4=>bad (.inl ?_)) (λ h4=>?_)⟩)
  ·have:¬ (1<=cs[i].2.1/\cs[i].2.1<=3):=by omega
   simp only [DU,this,decide_false,Akh]
  ·have:¬ (1<=cs[i].2.1/\cs[i].2.1<=3):=by omega
   simp only [DU,this,decide_false,Akh]
  ·rw [Ah (by omega)];refine⟨⟨i+1,rfl,by omega,λ j hj cQ=>?_,rfl⟩,?_⟩
   ·rcases Aki j i with h | h
    ·exact aC j hj h
    ·obtain rfl:j=i:=by omega
     refine⟨?_,hz.1 (by omega)⟩;have:1<=cs[j].2.1/\cs[j].2.1<=3:=by omega
     simp_all [DU]
   ·show cs.length-((i+1:Nat):Int).toNat<cs.length-((i:Nat):Int).toNat;simp only [Ajz];omega
 ·have hR:Ai cs=decide (1<=cs.length/\cs.length<=16):=Ug λ j hj=>aC j hj (by omega);rw [hR];congr 1;rw [eq_comm,decide_eq_true_eq];omega
end
end Go.Proofs.YtegnhfeclchlmaaGreatDoor
namespace Go.Proofs.YtegnhfeclchlmaaGreatDoor
open _root_.Bool renaming and_eq_true -> Ai6
set_option maxRecDepth 100000
open Go.Dn Go.Proofs
open Go.RowKit (Below)
set_option linter.unusedVariables false
/-! ### kinds -/
def DR(op:Int):Int:=if op=12\/op=13\/op=14 then 2 else if op=16 then 3 else if 3<=op/\op<=8 then 1 else 0
def FO(op:Int):Int:=if 9<=op/\op<=15 then 2 else 1
def F6(a b:Int):Bool:=decide (a=b) || decide (a=0) || decide (b=0)
def Hm(cs:List AA)(s:ByteArray):Option Nat:=cs.findIdx? λ c=>decide (c.1=s)
def Rh(cs:List AA)(s:ByteArray):Except Int Int :=
 match Hm cs s with
 | none=>.error 120
 | some i=>.ok (cs.getD i (E0,0,false)).2.1
def OW(cs:List AA)(op:Int)(nm:ByteArray)(v:AW)(l:List Int):Except Int Int :=
 if DR op≠0/\l.any (λ k=>!F6 k (DR op))=true then .error 121 else
 if op=1 then Rh cs nm else if op=2 then .ok v.1 else
 if (op=9\/op=10\/op=11)/\F6 (l.getD 0 0) (l.getD 1 0)=false then .error 121 else .ok (FO op)
mutual
def Ex.kind(cs:List AA):Ex->Except Int Int
 | .mk op nm v ks =>
  match Ex.kinds cs ks with
  | .error e=>.error e
  | .ok l=>OW cs op nm v l
def Ex.kinds(cs:List AA):List Ex->Except Int (List Int)
 | []=>.ok []
 | k :: ks =>
  match Ex.kind cs k with
  | .error e=>.error e
  | .ok i=>match Ex.kinds cs ks with
   | .error e=>.error e
   | .ok l=>.ok (i :: l)
end
def TQ(r:Except Int Int):Value :=
 match r with
 | .ok k=>.tuple #[.int .i64 k,.int .i64 0]
 | .error e=>.tuple #[.int .i64 0,.int .i64 e]
def Fa(cs:List AA)(x:Ex):Except Int Int :=
 if Ai cs then (if x.formed then x.kind cs else .error 122) else .error 50
/-! ### names -/
mutual
def Ex.names:Ex->List ByteArray
 | .mk op nm _ ks=>(if op=1 then [nm] else [])++Ex.G6 ks
def Ex.G6:List Ex->List ByteArray
 | []=>[]
 | k :: ks=>k.names++Ex.G6 ks
end
theorem XG:∀(x:Ex) (d:Nat),x.T0 (41-d)=true->((x.nodes d).filter λ p=>decide (p.2.op=1)).map (λ p=>p.2.nm)=x.names:=by
 intro x
 induction x using Ex.ind with
 | h op nm v ks ih =>
  intro d h;have hd:d<=40:=by
   apply Classical.byContradiction;intro hn;rw [show 41-d=0 by omega] at h;simp [Ex.T0] at h
  rw [show 41-d=(41-(d+1))+1 by omega] at h;simp only [Ex.T0,Ai6] at h;have hL:∀(l:List Ex),(∀ k∈l,k∈ks)->Ex.okL l (41-(d+1))=true->((Ex.A5 l (d+1)).filter λ p=>decide (p.2.op=1)).map (λ p=>p.2.nm)=Ex.G6 l:=by
   intro l
   induction l with
   | nil=>intro _ _;simp [Ex.A5,Ex.G6]
   | cons k l ihl =>
    intro hl aZ;simp only [Ex.okL,Ai6] at aZ;simp only [Ex.A5,Ex.G6,List.filter_append,List.map_append,ih k (hl k (by simp)) (d+1) aZ.1,ihl (λ y hy=>hl y (by simp [hy])) aZ.2]
  simp only [Ex.nodes,Ex.names,if_pos hd];by_cases h1:op=1
  ·rw [List.filter_cons_of_pos (by simp [Ex.op,h1]),List.map_cons,hL ks (λ _ h=>h) h.2,if_pos h1];rfl
  ·rw [List.filter_cons_of_neg (by simp [Ex.op,h1]),hL ks (λ _ h=>h) h.2,if_neg h1];rfl
/-! ### alike -/
mutual
def Ex.same:Ex->Ex->Bool
 | .mk op nm v ks,.mk op' nm' v' ks'=>decide (op=op'/\nm=nm'/\v=v') && Ex.Gt ks ks'
def Ex.Gt:List Ex->List Ex->Bool
 | [],[]=>true
 | x :: xs,y :: ys=>x.same y && Ex.Gt xs ys
 | _,_=>false
end
theorem Na:∀(x y:Ex),x.same y=true↔x=y:=by
 intro x
 induction x using Ex.ind with
 | h op nm v ks ih =>
  rintro⟨op',nm',v',ks'⟩;have hL:∀(l l':List Ex),(∀ k∈l,k∈ks)->(Ex.Gt l l'=true↔l=l'):=by
   intro l
   induction l with
   | nil=>intro l' _;cases l' <;> simp [Ex.Gt]
   | cons k l ihl =>
    intro l' hl;cases l' with
    | nil=>simp [Ex.Gt]
    | cons k' l' =>
     simp only [Ex.Gt,Ai6,ih k (hl k (by simp)),ihl l' (λ y hy=>hl y (by simp [hy])),List.cons.injEq]
  simp only [Ex.same,Ai6,decide_eq_true_eq,hL ks ks' (λ _ h=>h),Ex.mk.injEq];constructor
  ·rintro⟨⟨h1,h2,h3⟩,h4⟩;exact⟨h1,h2,h3,h4⟩
  ·rintro⟨h1,h2,h3,h4⟩;exact⟨⟨h1,h2,h3⟩,h4⟩
theorem Ou:∀(l l':List Ex),Ex.Gt l l'=true↔l=l'
 | [],l'=>by cases l' <;> simp [Ex.Gt]
 | x :: l,[]=>by simp [Ex.Gt]
 | x :: l,y :: l'=>by simp only [Ex.Gt,Ai6,Na,Ou l l',List.cons.injEq]
theorem Ex.X4:∀ {xs ys:List Ex},xs.length≠ys.length->Ex.Gt xs ys=false
 | [],[],h=>absurd rfl h
 | [],_ :: _,_=>rfl
 | _ :: _,[],_=>rfl
 | x :: xs,y :: ys,h=>by
  simp only [Ex.Gt,Ex.X4 (xs:=xs) (ys:=ys) (by simpa using h),Bool.and_false]
/-! ### texts -/
def lit(l:List UInt8):ByteArray:=⟨l.toArray⟩
def Ow(op:Int):ByteArray :=
 if op=13 then ⟨#[111,114]⟩ else if op=12 then ⟨#[97,110,100]⟩ else if op=9 then ⟨#[61]⟩ else if op=10 then ⟨#[60]⟩ else if op=11 then ⟨#[60,61]⟩ else
 if op=3 then ⟨#[43]⟩ else if op=4 then ⟨#[45]⟩ else if op=5 then ⟨#[42]⟩ else if op=6 then ⟨#[47]⟩ else ⟨#[37]⟩
def rowOf(op:Int):Int :=
 if op=13 then 1 else if op=12 then 2 else if op=14 then 3 else if op=15 then 4 else if op=9\/op=10\/op=11 then 5 else if op=3\/op=4 then 6 else if op=5\/op=6\/op=7 then 7 else
 if op=8 then 8 else 9
def MI(op:Int)(v:AW):Int:=if op=2/\v.2.1<0 then 8 else rowOf op
def Ex.lvl(x:Ex):Int:=MI x.op x.v
def AhV(s:ByteArray):ByteArray:=⟨#[40]⟩++s++⟨#[41]⟩
def Uu(l need:Int)(s:ByteArray):ByteArray:=if l<need then AhV s else s
def isNum(op:Int)(v:AW):Bool:=decide (op=2/\v.1=1)
def Ee(op:Int):Int:=if rowOf op=5 then 6 else rowOf op
def Vu(ts:List (Int × Bool × ByteArray))(i:Nat)(need:Int):ByteArray:=Uu (ts.getD i (9,false,E0)).1 need (ts.getD i (9,false,E0)).2.2
def Gf(op:Int)(nm:ByteArray)(v:AW)(ts:List (Int × Bool × ByteArray)):ByteArray :=
 if op=1 then nm else if op=2 then Dz (JL v) else
 if op=16 then ⟨#[108,101,110,40]⟩++Vu ts 0 1++⟨#[41]⟩ else
 if op=14 then ⟨#[110,111,116,32]⟩++Vu ts 0 3 else
 if op=15 then Vu ts 0 5++⟨#[32,105,115,32,110,117,108,108]⟩ else
 if op=8 then (if (ts.getD 0 (9,false,E0)).2.1=true then ⟨#[45,40]⟩++Vu ts 0 1++⟨#[41]⟩ else ⟨#[45]⟩++Vu ts 0 8) else
 Vu ts 0 (Ee op)++⟨#[32]⟩++Ow op++⟨#[32]⟩++Vu ts 1 (rowOf op+1)
mutual
def Ex.text:Ex->ByteArray
 | .mk op nm v ks=>Gf op nm v (Ex.texts ks)
def Ex.texts:List Ex->List (Int × Bool × ByteArray)
 | []=>[]
 | k :: ks=>(k.lvl,isNum k.op k.v,k.text) :: Ex.texts ks
end
def Ex.at(x:Ex)(need:Int):ByteArray:=Uu x.lvl need x.text
theorem Ahb(op:Int)(v:AW):1<=MI op v:=by
 unfold MI rowOf
 repeat' split
 all_goals omega
theorem at_one(x:Ex):x.at 1=x.text:=by
 unfold Ex.at Uu;rw [if_neg];have:=Ahb x.op x.v;unfold Ex.lvl;omega
theorem AcA{v:AW}(h:AG v=true)(hv:F5 v):(JL v).length<=2050:=by
 unfold JL;have hk:=DL h;split
 ·decide
 ·split
  ·have:=Lib.itoa_length_le v.2.1 hv.lo hv.hi;omega
  ·split
   ·unfold Lib.formatBool;split <;> decide
   ·have hq:=RP (bl v.2.2);have hb:=Bs v.2.2;simp only [List.length_append,List.length_cons,List.length_nil];omega
end Go.Proofs.YtegnhfeclchlmaaGreatDoor
