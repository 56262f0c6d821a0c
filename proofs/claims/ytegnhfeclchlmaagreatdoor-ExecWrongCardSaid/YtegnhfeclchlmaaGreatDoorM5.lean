/-
  Texts of this claim, laid one behind the other by a program of mine (install.py): Dn.Ev6, Dn.Ev7, Dn.Ev8, Dn.Ev9, Dn.Ev10, Dn.Ev11, Dn.Ev12, Dn.Ev13, Dn.Ev13m, Dn.Ev13c, Dn.Ev14, Dn.Ev15, Dn.Ev16, Dn.Ev16r.
-/
import Derived.Test.YtegnhfeclchlmaaGreatDoorM4
set_option linter.unusedVariables false
set_option maxRecDepth 100000
namespace Go.Dn
open _root_.Bool renaming and_eq_true -> Ai6
open _root_.Nat renaming beq -> Ai3, ble -> AjX, ble_eq -> AjV, blt -> Ai8, eq_of_beq_eq_true -> Ai7, ne_of_beq_eq_false -> AjT, zero_le -> AjZ
open _root_.Option.some renaming injEq -> AjY
section
variable {P:Program}{g:Sg}
theorem QC{a a':Addr}(h:ad g a=some a')(n:Nat):ad g (a.add n)=some (a'.add n):=by
 unfold ad at *;rw [Bf];cases hb:bk g a.block with
 | none=>simp [hb] at h
 | some b =>
  simp only [hb,Option.map_some,AjY] at h ⊢;subst h;unfold Addr.add;split <;> rfl
def AgX(P:Program)(x:Option Value)(n:Nat):Option Value :=
 match x with
 | some (.pointer (some a))=>some (.pointer (some (a.add n)))
 | _=>none
theorem Aff{e e':Operand->Option Value}(h:ER g e e'){x:Operand}{n:Nat}{v:Value}(he:AgX P (e x) n=some v):∃ a',e' x=some (.pointer (some a'))/\R g v (.pointer (some (a'.add n))):=by
 unfold AgX at he;split at he
 ·rename_i a ha;cases he;obtain⟨c,hc,hr⟩:=h _ _ ha;simp only [R] at hr;obtain⟨a',h1,rfl⟩:=hr;exact⟨a',hc,by simp only [R];exact⟨_,QC h1 n,rfl⟩⟩
 ·cases he
def HP(P:Program)(e:Operand->Option Value)(s:TypeId)(x:Operand)(f:Nat):Option Value :=
 match P.underlying s with
 | some (.struct fs)=>(match fs[f]? with
  | some fl=>bif Ai3 (P.cellsOf fl.type) 0 then none else AgX P (e x) fl.offset
  | none=>none)
 | _=>none
theorem SG{e e':Operand->Option Value}(h:ER g e e'){s:TypeId}{x:Operand}{f:Nat}{v:Value}(he:HP P e s x f=some v){K:Value->Prop}(hk:∀ c,R g v c->K c):Ga P e' s x f K:=by
 unfold HP at he;unfold Ga;split at he
 ·rename_i fs hu;rw [hu];split at he
  ·rename_i fl hf;simp only [hf];cases hb:Ai3 (P.cellsOf fl.type) 0 with
   | true=>simp [hb] at he
   | false =>
    simp only [hb,cond_false] at he ⊢;obtain⟨a',h1,h2⟩:=Aff h he;rw [h1];exact hk _ h2
  ·cases he
 ·cases he
def eIx(e:Operand->Option Value)(i:Operand)(len:Nat):Option Nat :=
 match e i with
 | some (.int _ n)=>bif decide (0<=n) && decide (n<len) then some n.toNat else none
 | _=>none
theorem UY{e e':Operand->Option Value}(h:ER g e e'){i:Operand}{len m:Nat}(he:eIx e i len=some m):∃ kd,∃ n:Int,e' i=some (.int kd n)/\0<=n/\n<len/\n.toNat=m:=by
 unfold eIx at he;split at he
 ·rename_i kd n hn;obtain⟨c,hc,hr⟩:=h _ _ hn;simp only [R] at hr;subst hr;cases hb:decide (0<=n) && decide (n<len) with
  | false=>simp [hb] at he
  | true =>
   simp only [hb,cond_true,AjY] at he;simp only [Ai6,decide_eq_true_eq] at hb;exact⟨_,n,hc,hb.1,hb.2,he⟩
 ·cases he
def HQ(P:Program)(e:Operand->Option Value)(t:TypeId)(x i:Operand):Option Value :=
 match P.underlying t,e x with
 | some (.slice el),some (.slice (some a) len _)=>bif Fj P el then (match eIx e i len with
  | some n=>some (.pointer (some (a.add (n*P.cellsOf el))))
  | none=>none) else none
 | some (.array len el),some (.pointer (some a))=>bif Fj P el then (match eIx e i len with
  | some n=>some (.pointer (some (a.add (n*P.cellsOf el))))
  | none=>none) else none
 | _,_=>none
theorem JM{a:Addr}{l c:Nat}{u:Value}(h:IL g (some a) l c u)(hl:0<l):∃ a' c',u=.slice (some a') l c'/\l<=c'/\ad g a=some a'/\cp g a.block c=some c':=by
 cases u with
 | slice p' l' c' =>
  obtain⟨rfl,h1,h2⟩:=h;rcases h2 with ⟨_,h2,_⟩ | ⟨_,h2,h3,h4⟩
  ·omega
  ·cases p' with
   | none=>exact absurd rfl h3
   | some a'=>exact⟨a',c',rfl,h1,h2,h4⟩
 | _=>exact h.elim
theorem SI{e e':Operand->Option Value}(h:ER g e e'){t:TypeId}{x i:Operand}{v:Value}(he:HQ P e t x i=some v){K:Value->Prop}(hk:∀ c,R g v c->K c):Gd P e' t x i K:=by
 unfold HQ at he;unfold Gd;split at he
 ·rename_i el a len cap hu hx;obtain⟨az,he⟩:Fj P el=true/\_:=by
   cases hb:Fj P el with
   | false=>simp [hb] at he
   | true=>simp only [hb,cond_true] at he;exact⟨rfl,he⟩
  split at he
  ·rename_i n hn;cases he;obtain⟨kd,m,hi,h0,h1,rfl⟩:=UY h hn;obtain⟨c,hc,hr⟩:=h _ _ hx;simp only [R] at hr;obtain⟨a',c',rfl,_,h2,_⟩:=JM hr (by omega);rw [hu,hc];simp only [az,cond_true,hi,Sy,AL];exact⟨⟨h0,h1⟩,hk _ (by simp only [R];exact⟨_,QC h2 _,rfl⟩)⟩
  ·cases he
 ·rename_i len el a hu hx;obtain⟨az,he⟩:Fj P el=true/\_:=by
   cases hb:Fj P el with
   | false=>simp [hb] at he
   | true=>simp only [hb,cond_true] at he;exact⟨rfl,he⟩
  split at he
  ·rename_i n hn;cases he;obtain⟨kd,m,hi,h0,h1,rfl⟩:=UY h hn;obtain⟨c,hc,hr⟩:=h _ _ hx;simp only [R] at hr;obtain⟨a',h2,rfl⟩:=hr;rw [hu,hc];simp only [az,cond_true,hi,Sy,AL];have:=hk (.pointer (some (a'.add (m.toNat*P.cellsOf el)))) (by simp only [R];exact⟨_,QC h2 _,rfl⟩);cases Bx i with
   | true=>simp only [cond_true,h0,h1,and_self,decide_true];exact this
   | false=>exact⟨⟨h0,h1⟩,this⟩
  ·cases he
 ·cases he
def UU(P:Program)(e:Operand->Option Value)(t:TypeId)(x i:Operand):Option Value :=
 match P.underlying t,e x with
 | some .string,some (.string s)=>(match eIx e i s.size with
  | some n=>some (.int .u8 (C5 s n).toNat)
  | none=>none)
 | some (.array len el),some (.agg cs)=>(match eIx e i len,zeroOf P el with
  | some n,some z=>bif Ez P el then (bif E4 z.cells.toList ((cs.toList.drop (n*P.cellsOf el)).take (P.cellsOf el)) then some (.agg ⟨(cs.toList.drop (n*P.cellsOf el)).take (P.cellsOf el)⟩) else none)
   else (match cs.toList[n*P.cellsOf el]? with
    | some v=>bif (P.underlying el).isSome && FD z v then some v else none
    | none=>none)
  | _,_=>none)
 | _,_=>none
theorem AbK{e e':Operand->Option Value}(h:ER g e e'){t:TypeId}{x i:Operand}{v:Value}(he:UU P e t x i=some v){K:Value->Prop}(hk:∀ c,R g v c->K c):Q7 P e' t x i K:=by
 unfold UU at he;unfold Q7;split at he
 ·rename_i s hu hx;split at he
  ·rename_i n hn;cases he;obtain⟨kd,m,hi,h0,h1,rfl⟩:=UY h hn;obtain⟨c,hc,hr⟩:=h _ _ hx;simp only [R] at hr;subst hr;rw [hu,hc];simp only [hi,Sy];exact⟨⟨h0,h1⟩,hk _ (by simp [R])⟩
  ·cases he
 ·rename_i len el cs hu hx;split at he
  ·rename_i n z hn hz;obtain⟨kd,m,hi,h0,h1,rfl⟩:=UY h hn;obtain⟨c,hc,hr⟩:=h _ _ hx;obtain⟨cc,rfl,bU⟩:=Wn hr;rw [hu,hc];simp only [hi,Sy];refine⟨⟨h0,h1⟩,?_⟩;unfold Aa6;rw [hz];cases aO:Ez P el with
   | true =>
    simp only [aO,cond_true] at he ⊢;cases hl:E4 z.cells.toList ((cs.toList.drop (m.toNat*P.cellsOf el)).take (P.cellsOf el)) with
    | false=>simp [hl] at he
    | true =>
     simp only [hl,cond_true,AjY] at he;subst he;have jO:=GK (P.cellsOf el) (HF (m.toNat*P.cellsOf el) bU);exact Qr (f:=λ vs=>(cc.toList.drop (m.toNat*P.cellsOf el)).take (P.cellsOf el)=vs/\K (.agg ⟨vs⟩)) (Vy hl jO) ⟨rfl,hk _ (by simp only [R,RA];exact jO)⟩
   | false =>
    simp only [aO,cond_false] at he ⊢;split at he
    ·rename_i u gR;cases hb:(P.underlying el).isSome && FD z u with
     | false=>simp [hb] at he
     | true =>
      simp only [hb,cond_true,AjY] at he;subst he;simp only [Ai6] at hb;rw [hb.1,cond_true];obtain⟨y,hy,hry⟩:=Wm bU _ gR;exact LY (f:=λ v=>cc.toList[m.toNat*P.cellsOf el]?=some v/\K v) (Qd hb.2 hry) ⟨hy,hk _ hry⟩
    ·cases he
  ·cases he
 ·cases he
end
section
variable {P:Program}{g:Sg}
def F7(e:Operand->Option Value)(x:Option Operand)(d:Nat):Option Int :=
 match x with
 | none=>some d
 | some o=>match e o with
  | some (.int _ n)=>some n
  | _=>none
theorem Df{e e':Operand->Option Value}(h:ER g e e'){x:Option Operand}{d:Nat}{n:Int}(he:F7 e x d=some n){k:Int->Prop}(hk:k n):Eu e' x d k:=by
 unfold F7 at he;unfold Eu;split at he
 ·cases he;exact hk
 ·rename_i o;split at he
  ·rename_i kd m hm;cases he;obtain⟨c,hc,hr⟩:=h _ _ hm;simp only [R] at hr;subst hr;simp only [hc];exact hk
  ·cases he
theorem Adm{a b:Nat}(h:Ai8 a b=false):¬ a<b:=λ h'=>by
 have:Ai8 a b=true:=by rw [Ai8,AjV];exact h'
 rw [this] at h;cases h
def AgR(a:Option Addr)(len cap l hh sz:Nat):Option Value :=
 match a with
 | none=>bif AjX hh cap then some (.slice (BD none l cap sz) (hh-l) (cap-l)) else none
 | some p=>bif Ai3 p.block FI then (bif Ai3 hh 0 then some (.slice (some p) 0 0) else none)
  else bif Ai8 cap 9223372036854775808 then (bif AjX hh cap then some (.slice (BD (some p) l cap sz) (hh-l) (cap-l)) else none)
  else bif AjX hh len && AjX cap NG && AjX (9223372036854775808+l) cap then
   (bif Ai8 l hh || Ai3 l 0 then some (.slice (some (p.add (l*sz))) (hh-l) (cap-l)) else some (.slice (some ⟨FI,0,none⟩) 0 0)) else none
theorem AgO{b c n l:Nat}(h:cp g b c=some n)(hc:¬ c<9223372036854775808)(h1:c<=NG)(h2:9223372036854775808+l<=c):cp g b (c-l)=some (n-l):=by
 unfold cp at *;rw [if_neg hc] at h;rw [if_neg (by omega)];split
 ·rename_i hb;rw [if_pos hb] at h;cases h
 ·rename_i hb;rw [if_neg hb] at h;cases hs:Ij g b with
  | none=>simp [hs] at h
  | some s =>
   simp only [hs,Option.map_some,AjY] at h ⊢;omega
theorem IX(p:Addr)(l m sz:Nat):BD (some p) l m sz=if m=l then some p else some (p.add (l*sz)):=by unfold BD;split <;> rfl
theorem Ac8(p:Addr)(l m sz:Nat):BD (some p) l m sz≠none:=by rw [IX];split <;> simp
theorem Ac7{p:Addr}{p':Addr}(h:ad g p=some p')(l m sz:Nat):∃ q q',BD (some p) l m sz=some q/\BD (some p') l m sz=some q'/\ad g q=some q'/\q.block=p.block:=by
 rw [IX,IX];split
 ·exact⟨_,_,rfl,rfl,h,rfl⟩
 ·exact⟨_,_,rfl,rfl,QC h _,Bf _ _⟩
theorem Ae8{a:Option Addr}{len cap l hh sz:Nat}{v:Value}(he:AgR a len cap l hh sz=some v)(sD:l<=hh){u:Value}(hr:IL g a len cap u) :
  ∃ a' c',u=.slice a' len c'/\hh<=c'/\R g v (.slice (BD a' l c' sz) (hh-l) (c'-l)):=by
 cases u with
 | slice a' l' c' =>
  obtain⟨rfl,hr⟩:=hr;refine⟨a',c',rfl,?_⟩;unfold AgR at he;cases a with
  | none =>
   obtain⟨rfl,rfl⟩:=hr;obtain⟨h1,rfl⟩:=Bg he;have h1:=Nat.le_of_ble_eq_true h1;refine⟨h1,?_⟩;have:BD none l c' sz=none:=by unfold BD;split <;> rfl
   rw [this];simp only [R,IL];exact⟨trivial,trivial,trivial⟩
  | some p =>
   simp only at hr he;cases hj:Ai3 p.block FI with
   | true =>
    have bh:=Ai7 hj;simp only [hj,cond_true] at he;obtain⟨h1,rfl⟩:=Bg he;have h1:=Ai7 h1;subst h1;have hl:l=0:=by omega
    subst hl;rcases hr with ⟨hle,⟨_,h0,h2⟩ | ⟨h3,_⟩⟩
    ·refine⟨AjZ _,?_⟩;simp only [R,IL];refine⟨by trivial,AjZ _,.inl ⟨bh,by trivial,?_⟩⟩;cases a' with
     | none=>exact absurd rfl h2
     | some q=>exact Ac8 _ _ _ _
    ·exact absurd bh h3
   | false =>
    have bh:p.block≠FI:=AjT hj;simp only [hj,cond_false] at he;rcases hr with ⟨hle,⟨h3,_⟩ | ⟨_,h2,h3,h4⟩⟩
    ·exact absurd h3 bh
    ·cases a' with
     | none=>exact absurd rfl h3
     | some p' =>
      cases hc:Ai8 cap 9223372036854775808 with
      | true =>
       have dF:cap<9223372036854775808:=by rw [Ai8,AjV] at hc;exact hc
       have cE:c'=cap:=by unfold cp at h4;rw [if_pos dF] at h4;cases h4;rfl
       subst cE;simp only [hc,cond_true] at he;obtain⟨h1,rfl⟩:=Bg he;have h1:=Nat.le_of_ble_eq_true h1;refine⟨h1,?_⟩;obtain⟨q,q',e1,e2,e3,e4⟩:=Ac7 h2 l c' sz;rw [e1,e2];simp only [R,IL];exact⟨by trivial,by omega,.inr ⟨by rw [e4];exact bh,e3,by simp,by unfold cp;rw [if_pos (by omega)]⟩⟩
      | false =>
       have dF:¬ cap<9223372036854775808:=Adm hc;simp only [hc,cond_false] at he;cases hb:AjX hh l' && AjX cap NG && AjX (9223372036854775808+l) cap with
       | false=>simp [hb] at he
       | true =>
        simp only [hb,cond_true] at he;simp only [Ai6,AjV] at hb;obtain⟨⟨b1,b2⟩,b3⟩:=hb;refine⟨by omega,?_⟩;cases hz:Ai8 l hh || Ai3 l 0 with
        | true =>
         simp only [hz,cond_true,AjY] at he;subst he;have e1:BD (some p') l c' sz=some (p'.add (l*sz)):=by
          rw [IX];split
          ·rename_i cF;simp only [Bool.or_eq_true,Ai8,AjV] at hz;have:l=0:=by
            rcases hz with hz | hz
            ·omega
            ·exact Ai7 hz
           subst this;simp [Addr.add]
          ·rfl
         rw [e1];simp only [R,IL];exact⟨by trivial,by omega,.inr ⟨by rw [Bf];exact bh,QC h2 _,by simp,by rw [Bf];exact AgO h4 dF b2 b3⟩⟩
        | false =>
         simp only [hz,cond_false,AjY] at he;subst he;have nM:hh-l=0:=by
          simp only [Bool.or_eq_false_iff] at hz;have:=Adm hz.1;omega
         rw [nM];simp only [R,IL];exact⟨by trivial,AjZ _,.inl ⟨by trivial,by trivial,Ac8 _ _ _ _⟩⟩
 | _=>exact hr.elim
def Adw(a:Option Addr)(len cap l hh m sz:Nat):Option Value :=
 match a with
 | none=>none
 | some p=>bif !(Ai3 p.block FI) && Ai8 m 9223372036854775808 && (AjX m len || (Ai8 cap 9223372036854775808 && AjX m cap)) then some (.slice (BD (some p) l m sz) (hh-l) (m-l)) else none
theorem Adx{a:Option Addr}{len cap l hh m sz:Nat}{v:Value}(he:Adw a len cap l hh m sz=some v)(sD:l<=hh)(hm:hh<=m){u:Value}(hr:IL g a len cap u) :
  ∃ a' c',u=.slice a' len c'/\m<=c'/\R g v (.slice (BD a' l m sz) (hh-l) (m-l)):=by
 cases u with
 | slice a' l' c' =>
  obtain⟨rfl,hr⟩:=hr;refine⟨a',c',rfl,?_⟩;unfold Adw at he;cases a with
  | none=>cases he
  | some p =>
   simp only at hr he;obtain⟨h1,rfl⟩:=Bg he;simp only [Ai6,Bool.or_eq_true,Bool.not_eq_true',Ai8,AjV] at h1;obtain⟨⟨hj,hb⟩,gd⟩:=h1;have bh:p.block≠FI:=AjT hj;rcases hr with ⟨hle,⟨h3,_⟩ | ⟨_,h2,h3,h4⟩⟩
   ·exact absurd h3 bh
   ·cases a' with
    | none=>exact absurd rfl h3
    | some p' =>
     have ib:m<=c':=by
      rcases gd with h | ⟨h5,h6⟩
      ·omega
      ·unfold cp at h4;rw [if_pos (by omega)] at h4;cases h4;exact h6
     refine⟨ib,?_⟩;obtain⟨q,q',e1,e2,e3,e4⟩:=Ac7 h2 l m sz;rw [e1,e2];simp only [R,IL];exact⟨by trivial,by omega,.inr ⟨by rw [e4];exact bh,e3,by simp,by unfold cp;rw [if_pos (by omega)]⟩⟩
 | _=>exact hr.elim
def U6(P:Program)(e:Operand->Option Value)(t:TypeId)(x:Operand)(lo hi mx:Option Operand):Option Value :=
 match P.underlying t,e x,mx with
 | some .string,some (.string s),none=>(match F7 e hi s.size,F7 e lo 0 with
  | some h,some l=>bif decide (0<=l) && decide (l<=h) && decide (h<=s.size) then some (.string (s.extract l.toNat h.toNat)) else none
  | _,_=>none)
 | some (.slice el),some (.slice a len cap),none=>bif Fj P el then (match F7 e hi len,F7 e lo 0 with
  | some h,some l=>bif decide (0<=l) && decide (l<=h) then AgR a len cap l.toNat h.toNat (P.cellsOf el) else none
  | _,_=>none) else none
 | some (.slice el),some (.slice a len cap),some mo=>bif Fj P el && hi.isSome then (match F7 e (some mo) 0,F7 e hi 0,F7 e lo 0 with
  | some m,some h,some l=>bif decide (0<=l) && decide (l<=h) && decide (h<=m) then Adw a len cap l.toNat h.toNat m.toNat (P.cellsOf el) else none
  | _,_,_=>none) else none
 | some (.array n el),some (.pointer (some p)),none=>bif Fj P el && Ai8 n 9223372036854775808 && !(Ai3 p.block FI) then (match F7 e hi n,F7 e lo 0 with
  | some h,some l=>bif decide (0<=l) && decide (l<=h) && decide (h<=n) then some (.slice (BD (some p) l.toNat n (P.cellsOf el)) (h.toNat-l.toNat) (n-l.toNat)) else none
  | _,_=>none) else none
 | _,_,_=>none
theorem AbO{e e':Operand->Option Value}(h:ER g e e'){t:TypeId}{x:Operand}{lo hi mx:Option Operand}{v:Value}(he:U6 P e t x lo hi mx=some v){K:Value->Prop}(hk:∀ c,R g v c->K c):Sa P e' t x lo hi mx K:=by
 unfold U6 at he;unfold Sa;split at he
 ·rename_i s hu hx;obtain⟨c,hc,hr⟩:=h _ _ hx;simp only [R] at hr;subst hr;rw [hu,hc];split at he
  ·rename_i hh l h1 h2;obtain⟨hb,rfl⟩:=Bg he;simp only [Ai6,decide_eq_true_eq] at hb;exact Df h h1 (Df h h2 ⟨⟨hb.1.1,hb.1.2,hb.2⟩,hk _ (by simp [R])⟩)
  ·cases he
 ·rename_i el a len cap hu hx;obtain⟨c,hc,hr⟩:=h _ _ hx;simp only [R] at hr;cases az:Fj P el with
  | false=>simp [az] at he
  | true =>
   simp only [az,cond_true] at he;split at he
   ·rename_i hh l h1 h2;cases hb:decide (0<=l) && decide (l<=hh) with
    | false=>simp [hb] at he
    | true =>
     simp only [hb,cond_true] at he;simp only [Ai6,decide_eq_true_eq] at hb;obtain⟨a',c',rfl,h3,h4⟩:=Ae8 he (by omega) hr;rw [hu,hc];simp only [az,cond_true];exact Df h h1 (Df h h2 ⟨⟨hb.1,hb.2,by omega⟩,hk _ h4⟩)
   ·cases he
 ·rename_i el a len cap mo hu hx;obtain⟨c,hc,hr⟩:=h _ _ hx;simp only [R] at hr;cases az:Fj P el && hi.isSome with
  | false=>simp [az] at he
  | true =>
   simp only [az,cond_true] at he;simp only [Ai6] at az;split at he
   ·rename_i m hh l h1 h2 h3;cases hb:decide (0<=l) && decide (l<=hh) && decide (hh<=m) with
    | false=>simp [hb] at he
    | true =>
     simp only [hb,cond_true] at he;simp only [Ai6,decide_eq_true_eq] at hb;obtain⟨a',c',rfl,h4,h5⟩:=Adx he (by omega) (by omega) hr;rw [hu,hc];simp only [az.1,cond_true];cases hi with
     | none=>simp at az
     | some ho=>exact Df h h1 (Df h h2 (Df h h3 ⟨⟨hb.1.1,hb.1.2,hb.2,by omega⟩,hk _ h5⟩))
   ·cases he
 ·rename_i n el p hu hx;obtain⟨c,hc,hr⟩:=h _ _ hx;simp only [R] at hr;obtain⟨p',hp,rfl⟩:=hr;cases az:Fj P el && Ai8 n 9223372036854775808 && !(Ai3 p.block FI) with
  | false=>simp [az] at he
  | true =>
   simp only [az,cond_true] at he;simp only [Ai6,Bool.not_eq_true',Ai8,AjV] at az;obtain⟨⟨az,hn⟩,hj⟩:=az;have bh:p.block≠FI:=AjT hj;split at he
   ·rename_i hh l h1 h2;obtain⟨hb,rfl⟩:=Bg he;simp only [Ai6,decide_eq_true_eq] at hb;rw [hu,hc];simp only [az,cond_true,AL];refine Df h h1 (Df h h2 ⟨⟨hb.1.1,hb.1.2,hb.2⟩,hk _ ?_⟩);obtain⟨q,q',e1,e2,e3,e4⟩:=Ac7 hp l.toNat n (P.cellsOf el);rw [e1,e2];simp only [R,IL];exact⟨by trivial,by omega,.inr ⟨by rw [e4];exact bh,e3,by simp,by unfold cp;rw [if_pos (by omega)]⟩⟩
   ·cases he
 ·cases he
def AgV(x:Option Value):Option Value :=
 match x with
 | some (.pointer (some a))=>some (.pointer (some a))
 | some (.func (.func f) u c)=>some (.func (.func f) u c)
 | some (.func (.yield l) u c)=>some (.func (.yield l) u c)
 | _=>none
theorem Afd{e e':Operand->Option Value}(h:ER g e e'){x:Operand}{v:Value}(he:AgV (e x)=some v){K:Value->Prop}(hk:∀ c,R g v c->K c):Ahh (e' x) K:=by
 unfold AgV at he;split at he
 ·rename_i a hx;obtain⟨c,hc,hr⟩:=h _ _ hx;cases he;have:=hk _ hr;simp only [R] at hr;obtain⟨p',hp,rfl⟩:=hr;rw [hc];exact this
 ·rename_i f u k hx;obtain⟨c,hc,hr⟩:=h _ _ hx;cases he;have:=hk _ hr;obtain⟨_,_,rfl,_⟩:=Qy hr;rw [hc];exact this
 ·rename_i f u k hx;obtain⟨c,hc,hr⟩:=h _ _ hx;cases he;have:=hk _ hr;cases c with
  | func fn _ _=>simp only [R] at hr;obtain⟨⟨l',_,rfl⟩,_⟩:=hr;rw [hc];exact this
  | _=>simp [R] at hr
 ·cases he
def Agk(e:Operand->Option Value)(c a b:Operand):Option Value :=
 match e c with
 | some (.bool true)=>e a
 | some (.bool false)=>e b
 | _=>none
def eP(P:Program)(e:Operand->Option Value)(o:Oper):Option Value :=
 match o.op with
 | .move x=>e x
 | .assign x=>e x
 | .pick c a b=>Agk e c a b
 | .nilCheck x=>AgV (e x)
 | .binOp op t x y _=>(match Ae6 P e op t x y with
  | some v=>if pl v then some v else none
  | none=>none)
 | .fieldAddr s x f=>HP P e s x f
 | .indexAddr t x i=>HQ P e t x i
 | .index t x i=>UU P e t x i
 | .slice t x lo hi mx=>U6 P e t x lo hi mx
 | .extract x i=>Mg e x i
 | .field t x f=>UT P e t x f
 | .build t ps=>Y9 P e t ps.toList
 | .makeFunc fn fi ca=>NT e fn fi.toList ca.toList
 | .call c=>bif OV o then (match Ady P e o with
  | some v=>some v
  | none=>(match c.callee with
   | .builtin .len=>AgU P e c.argTypes.toList c.args.toList
   | _=>none)) else none
 | _=>bif OV o then Ady P e o else none
theorem AdC{e e':Operand->Option Value}(h:ER g e e'){o:Oper}{v:Value}(he:eP P e o=some v){K:Value->Prop}(hk:∀ c,R g v c->K c):WL P e' o K:=by
 have bj:∀ {x:Operand},e x=some v->GX (e' x) K:=λ hx=>by
  obtain⟨c,hc,hr⟩:=h _ _ hx;rw [hc];exact hk _ hr
 have rf:∀ {o:Oper},(bif OV o then Ady P e o else none)=some v->Bh P e' o K:=λ {o} hx=>by
  cases hb:OV o with
  | false=>simp [hb] at hx
  | true=>simp only [hb,cond_true] at hx;exact AaI h hb hx hk
 obtain⟨dst,op,type,pos,after,guard⟩:=o;cases op with
 | move x=>exact bj he
 | assign x=>exact bj he
 | pick c a b =>
  show Aan (e' c) λ t=>Tp t (GX (e' a) K) (GX (e' b) K);simp only [eP,Agk] at he;split at he
  ·rename_i hc;obtain⟨u,hu,hr⟩:=h _ _ hc;simp only [R] at hr;subst hr;rw [hu];exact bj he
  ·rename_i hc;obtain⟨u,hu,hr⟩:=h _ _ hc;simp only [R] at hr;subst hr;rw [hu];exact bj he
  ·cases he
 | nilCheck x=>exact Afd h he hk
 | binOp op t x y _ =>
  simp only [eP] at he;split at he
  ·rename_i w hw;split at he
   ·rename_i hp;cases he;exact Ae7 h hw (hk _ ((PJ _ hp).2 rfl))
   ·cases he
  ·cases he
 | fieldAddr s x f=>exact SG h he hk
 | indexAddr t x i=>exact SI h he hk
 | index t x i=>exact AbK h he hk
 | slice t x lo hi mx=>exact AbO h he hk
 | extract x i=>exact WS h rfl he hk
 | field t x f=>exact AbJ h rfl he hk
 | build t ps=>exact AbH h rfl he hk
 | makeFunc fn fi ca=>exact U1 (P:=P) h rfl he hk
 | call c =>
  show Bh P e' _ K;simp only [eP] at he;cases hb:OV ⟨dst,.call c,type,pos,after,guard⟩ with
  | false=>simp [hb] at he
  | true =>
   simp only [hb,cond_true] at he;split at he
   ·rename_i w hw;cases he;exact AaI h hb hw hk
   ·split at he
    ·rename_i bR;exact Afc h rfl bR he hk
    ·cases he
 | _=>first | exact rf he
end
end Go.Dn
set_option linter.unusedVariables false
set_option maxRecDepth 100000
namespace Go.Dn
open _root_.Array renaming range -> Aj3
open _root_.Bool renaming and_eq_true -> Ai6
open _root_.List renaming all_eq_true -> AjW, getElem?_drop -> Ajs, getElem?_eq_some_iff -> Aje, getElem?_take -> Aj2, isEmpty_iff -> Aj1, map_cons -> Aj4
open _root_.Nat renaming beq -> Ai3, ble -> AjX, ble_eq -> AjV, blt -> Ai8, div -> AjU, eq_of_beq_eq_true -> Ai7, le_refl -> Ajx, ne_of_beq_eq_false -> AjT, zero_add -> Ajp
open _root_.Option renaming map_some -> Aj0
open _root_.Option.some renaming injEq -> AjY
open _root_.Prod.mk renaming injEq -> AjI
open Go.RowKit (Below)
inductive AI where
 | cells (b:Nat) (cs:List Value) (t:TypeId)
 | row (b:Nat) (e:TypeId) (sz n:Nat) (xs:List Value) (cx:Option Nat)
 | ro (b:Nat) (xs:List Value)
 | loop (b:Nat) (st:LoopState) (p:Option Code)
 | mark (b:Nat)
 | mp (b:Nat) (es:List (ByteArray × Value × Nat)) (ck:Nat)
def AI.id:AI->Nat
 | .cells b _ _=>b
 | .row b _ _ _ _ _=>b
 | .ro b _=>b
 | .loop b _ _=>b
 | .mark b=>b
 | .mp b _ _=>b
def AI.VY:AI->List Value
 | .cells _ cs _=>cs
 | .row _ _ _ _ xs _=>xs
 | .ro _ xs=>xs
 | _=>[]
def E5:List (ByteArray × Value × Nat)->List Value->List MapEntry
 | x :: es,u :: us=>{ key:=.string x.1,val:=u,born:=x.2.2 } :: E5 es us
 | _,_=>[]
def IR(g:Sg)(x:AI)(y:It):Prop :=
 ∃ s,CV<=x.id/\Ij g x.id=some s/\(match x with
  | .cells _ cs t=>∃ us,RL g cs us/\y=It.cells s.1 ⟨us⟩ t
  | .row _ e sz n xs cx=>∃ us,RL g xs us/\y=It.row e sz (some ⟨s.1,0,none⟩) n s.2.1 us/\∀ k,cx=some k->s.2.1=k
  | .ro _ xs=>∃ us,RL g xs us/\y=It.rd (some ⟨s.1,0,none⟩) us
  | .loop _ st p=>y=It.obj s.1 (.loop { s.2.2 with state:=st,pending:=p })
  | .mark _=>y=It.obj s.1 (.deferred (some []))
  | .mp _ es ck=>∃ us,RL g (es.map (·.2.1)) us/\y=It.obj s.1 (.map (E5 es us).toArray ck))
def HR(g:Sg):List AI->List It->Prop
 | [],l=>l=[]
 | x :: xs,l=>match l with
  | []=>False
  | y :: ys=>IR g x y/\HR g xs ys
structure AS where
 nx:Nat
 H:List AI
def SQ(g:Sg)(w0 w:World)(H:List AI):Prop:=∃ L,HR g H L/\ST w0 w L
def SR(g:Sg)(w0 w:World)(S:AS):Prop:=g S.nx=none/\SQ g w0 w S.H
abbrev GT:=List (Nat × List Value)
def W9:GT->Nat->Option (List Value)
 | [],_=>none
 | x :: r,b=>bif Ai3 x.1 b then some x.2 else W9 r b
def IE(G:GT)(w0:World):Prop:=∀ b vs,W9 G b=some vs->LN vs=true/\∀(i:Nat) v,vs[i]?=some v->w0.cell? ⟨b,i,none⟩=some v
section
variable {g:Sg}{w0 w:World}
theorem Ah7{g':Sg}(h:Le g g'){x:AI}{y:It}(hr:IR g x y):IR g' x y:=by
 obtain⟨s,h1,h2,h3⟩:=hr;refine⟨s,h1,h.at h2,?_⟩;cases x with
 | cells b cs t=>obtain⟨us,a,b⟩:=h3;exact⟨us,Ge h _ a,b⟩
 | row b e sz n xs cx=>obtain⟨us,a,b⟩:=h3;exact⟨us,Ge h _ a,b⟩
 | ro b xs=>obtain⟨us,a,b⟩:=h3;exact⟨us,Ge h _ a,b⟩
 | loop b st p=>exact h3
 | mark b=>exact h3
 | mp b es ck=>obtain⟨us,a,b⟩:=h3;exact⟨us,Ge h _ a,b⟩
theorem Kx{g':Sg}(h:Le g g'):∀ {xs:List AI} {ys:List It},HR g xs ys->HR g' xs ys
 | [],_,hr=>hr
 | x :: xs,[],hr=>hr
 | x :: xs,y :: ys,hr=>⟨Ah7 h hr.1,Kx h hr.2⟩
theorem Kj:∀ {xs:List AI} {ys:List It},HR g xs ys->∀ {i:Nat} {x:AI},xs[i]?=some x->∃ y,ys[i]?=some y/\IR g x y
 | [],_,_,i,x,h=>by simp at h
 | x :: xs,[],hr,_,_,_=>hr.elim
 | x :: xs,y :: ys,hr,0,z,h=>by simp at h;subst h;exact⟨y,rfl,hr.1⟩
 | x :: xs,y :: ys,hr,i+1,z,h=>by simpa using Kj hr.2 (i:=i) (by simpa using h)
theorem HB:∀ {xs:List AI} {ys:List It} (i:Nat) {x:AI} {y:It},HR g xs ys->IR g x y->HR g (xs.set i x) (ys.set i y)
 | [],_,i,_,_,hr,_=>by simp only [HR] at hr;subst hr;simp [HR]
 | x :: xs,[],_,_,_,hr,_=>hr.elim
 | x :: xs,y :: ys,0,_,_,hr,h=>⟨h,hr.2⟩
 | x :: xs,y :: ys,i+1,_,_,hr,h=>⟨hr.1,HB i hr.2 h⟩
def SM(b:Nat):List AI->Nat->Option (Nat × AI)
 | [],_=>none
 | x :: xs,i=>bif Ai3 x.id b then some (i,x) else SM b xs (i+1)
theorem AdL{b:Nat}:∀ {xs:List AI} {i j:Nat} {x:AI},SM b xs i=some (j,x)->i<=j/\xs[j-i]?=some x/\x.id=b
 | [],_,_,_,h=>by simp [SM] at h
 | y :: ys,i,j,x,h=>by
  unfold SM at h;cases hb:Ai3 y.id b with
  | true =>
   simp only [hb,cond_true,AjY,AjI] at h;obtain⟨rfl,rfl⟩:=h;exact⟨Ajx _,by simp,Ai7 hb⟩
  | false =>
   simp only [hb,cond_false] at h;obtain⟨h1,h2,h3⟩:=AdL h;refine⟨by omega,?_,h3⟩;rw [show j-i=(j-(i+1))+1 by omega];simpa using h2
theorem W7{b:Nat}{xs:List AI}{j:Nat}{x:AI}(h:SM b xs 0=some (j,x)):xs[j]?=some x/\x.id=b:=by
 obtain⟨_,h2,h3⟩:=AdL h;exact⟨by simpa using h2,h3⟩
theorem Ff{b:Nat}{s:Nat × Nat × Loop}(h:CV<=b)(hs:Ij g b=some s):bk g b=some s.1:=by
 unfold bk;rw [if_neg (by unfold FI CV at *;omega),if_neg (by omega),hs];rfl
theorem AeU{x:AI}{y:It}(h:IR g x y)(hy:y.ok w):∃ us s,Ij g x.id=some s/\CV<=x.id/\RL g x.VY us/\∀(i:Nat) c,us[i]?=some c->w.cell? ⟨s.1,i,none⟩=some c:=by
 obtain⟨s,h1,h2,h3⟩:=h;have aP:∀ {us:List Value},Rd w (some ⟨s.1,0,none⟩) us->∀(i:Nat) c,us[i]?=some c->w.cell? ⟨s.1,i,none⟩=some c:=λ hr i c hi=>by
  obtain⟨p,hp,hc⟩:=hr i c hi;cases hp;rw [Ar,Ajp] at hc;exact hc
 cases x with
 | cells b cs t =>
  obtain⟨us,a,rfl⟩:=h3;refine⟨us,s,h2,h1,a,aP ?_⟩;have:w.heap[s.1]?=some (.cells ⟨us⟩ t (0,0)):=hy;exact Rd.Av this
 | row b e sz n xs cx =>
  obtain⟨us,a,rfl,_⟩:=h3;exact⟨us,s,h2,h1,a,aP (Row.rd (e:=e) (sz:=sz) (n:=n) hy)⟩
 | ro b xs =>
  obtain⟨us,a,rfl⟩:=h3;exact⟨us,s,h2,h1,a,aP hy⟩
 | loop b st p=>exact⟨[],s,h2,h1,by simp [AI.VY,RL],by simp⟩
 | mark b=>exact⟨[],s,h2,h1,by simp [AI.VY,RL],by simp⟩
 | mp b es ck=>exact⟨[],s,h2,h1,by simp [AI.VY,RL],by simp⟩
def Aec(G:GT)(H:List AI)(b:Nat):Option (List Value) :=
 bif Ai8 b FI then W9 G b else match SM b H 0 with
  | some (_,x)=>some x.VY
  | none=>none
theorem VB{G:GT}(hG:IE G w0){S:AS}(hS:SQ g w0 w S.H){b:Nat}{vs:List Value}(hm:Aec G S.H b=some vs):∃ us c,RL g vs us/\bk g b=some c/\∀(i:Nat) v,us[i]?=some v->w.cell? ⟨c,i,none⟩=some v:=by
 obtain⟨L,hL,hT⟩:=hS;unfold Aec at hm;cases hb:Ai8 b FI with
 | true =>
  rw [hb] at hm;have fG:b<FI:=by rw [Ai8,AjV] at hb;exact hb
  obtain⟨h1,h2⟩:=hG b vs hm;refine⟨vs,b,(MT _ h1).2 rfl,by unfold bk;rw [if_pos fG],λ i v hv=>?_⟩;have:=h2 i v hv;have aB:=World.block_lt_of_cell? _ _ this;rw [World.cell?_of_block (w:=w0) (hT.Ag.block _ aB)];exact this
 | false =>
  rw [hb] at hm;simp only [cond_false] at hm;split at hm
  ·rename_i j x hx;cases hm;obtain⟨h1,h2⟩:=W7 hx;obtain⟨y,hy,hr⟩:=Kj hL h1;obtain⟨us,s,h3,h4,h5,h6⟩:=AeU hr (hT.get _ hy);subst h2;exact⟨us,s.1,h5,Ff h4 h3,h6⟩
  ·cases hm
/-! ## Loads -/
def Lk:List Value->List Value->Bool
 | [],[]=>true
 | z :: zs,v :: vs=>TU z v && Lk zs vs
 | _,_=>false
theorem Wi:∀ {zs us cs:List Value} {a:Addr} {i:Nat} {k:List Value->Prop},Lk zs us=true->RL g us cs->(∀(j:Nat) c,cs[j]?=some c->w.cell? (a.add (i+j))=some c)->k cs->BT zs a i k w
 | [],[],cs,a,i,k,_,hr,_,hk=>by simp only [RL] at hr;subst hr;exact hk
 | z :: zs,v :: vs,[],_,_,_,_,hr,_,_=>by simp [RL] at hr
 | z :: zs,v :: vs,c :: cs,a,i,k,h,hr,hc,hk=>by
  simp only [Lk,Ai6] at h;simp only [RL] at hr;refine AeV h.1 hr.1 ⟨hc 0 c rfl,?_⟩;exact Wi h.2 hr.2 (λ j d hd=>by rw [show i+1+j=i+(j+1) by omega];exact hc (j+1) d hd) hk
 | [],_ :: _,_,_,_,_,h,_,_,_=>by simp [Lk] at h
 | _ :: _,[],_,_,_,_,h,_,_,_=>by simp [Lk] at h
def UZ(G:GT)(H:List AI)(a:Addr)(zs:List Value):Option (List Value) :=
 match a.spot with
 | some _=>none
 | none=>(match Aec G H a.block with
  | none=>none
  | some vs=>bif Lk zs ((vs.drop a.off).take zs.length) then some ((vs.drop a.off).take zs.length) else none)
theorem TG{G:GT}(hG:IE G w0){S:AS}(hS:SQ g w0 w S.H){a a':Addr}(ha:ad g a=some a'){zs vs:List Value}(he:UZ G S.H a zs=some vs) :
  ∃ cs,RL g vs cs/\(∀(j:Nat) c,cs[j]?=some c->w.cell? (a'.add j)=some c)/\∀ k,k cs->BT zs a' 0 k w:=by
 obtain⟨b,o,sp⟩:=a;unfold UZ at he;simp only at he;split at he
 ·cases he
 ·split at he
  ·cases he
  ·rename_i us hm;cases hb:Lk zs ((us.drop o).take zs.length) with
   | false=>simp [hb] at he
   | true =>
    simp only [hb,cond_true,AjY] at he;subst he;obtain⟨cs,c,h1,h2,h3⟩:=VB hG hS hm;have du:a'=⟨c,o,none⟩:=by
     unfold ad at ha;simp only [h2,Aj0,AjY] at ha;exact ha.symm
    subst du;have hr:=GK zs.length (HF o h1);have hc:∀(j:Nat) d,((cs.drop o).take zs.length)[j]?=some d->w.cell? ((⟨c,o,none⟩:Addr).add j)=some d:=λ j d hd=>by
     rw [Ar];rw [Aj2] at hd;split at hd
     ·rw [Ajs] at hd;exact h3 _ _ hd
     ·cases hd
    exact⟨_,hr,hc,λ k hk=>Wi hb hr (λ j d hd=>by rw [Ajp];exact hc j d hd) hk⟩
abbrev GI:=Addr × List Value
def OO(P:Program)(G:GT)(H:List AI)(t:TypeId)(x:Option Value):Option (Value × GI) :=
 match zeroOf P t,x with
 | some z,some (.pointer (some a)) =>
  bif Ez P t then (bif Ai3 (P.cellsOf t) z.cells.toList.length then (match UZ G H a z.cells.toList with
   | some vs=>some (.agg ⟨vs⟩,a,vs)
   | none=>none) else none)
  else bif (P.underlying t).isSome then (match UZ G H a [z] with
   | some vs=>some (vs.headD undef,a,vs)
   | none=>none) else none
 | _,_=>none
def Zr(g:Sg)(w:World)(x:GI)(h:Et):Prop:=∃ a' cs,ad g x.1=some a'/\RL g x.2 cs/\h=H5 a' cs 0
theorem Mh{P:Program}{G:GT}(hG:IE G w0){S:AS}(hS:SQ g w0 w S.H){e e':Operand->Option Value}(h:ER g e e'){t:TypeId}{x:Operand}{v:Value}{hd:GI}(he:OO P G S.H t (e x)=some (v,hd)){k:Value->Et->Prop}
  (hk:∀ c hc,R g v c->Zr g w hd hc->k c hc):O4 P t (e' x) k w:=by
 unfold OO at he;unfold O4;split at he
 ·rename_i z a hz hx;rw [hz];obtain⟨c,hc,hr⟩:=h _ _ hx;simp only [R] at hr;obtain⟨a',ha,rfl⟩:=hr;rw [hc];cases aO:Ez P t with
  | true =>
   simp only [aO,cond_true] at he ⊢;cases hn:Ai3 (P.cellsOf t) z.cells.toList.length with
   | false=>rw [hn,cond_false] at he;cases he
   | true =>
    rw [hn,cond_true] at he;rw [cond_true];split at he
    ·rename_i vs hl;cases he;obtain⟨cs,h1,_,h3⟩:=TG hG hS ha hl;exact h3 _ (hk _ _ (by simp only [R,RA];exact h1) ⟨a',cs,ha,h1,rfl⟩)
    ·cases he
  | false =>
   simp only [aO,cond_false] at he ⊢;cases hn:(P.underlying t).isSome with
   | false=>simp [hn] at he
   | true =>
    simp only [hn,cond_true] at he ⊢;split at he
    ·rename_i vs hl;cases he;obtain⟨cs,h1,_,h3⟩:=TG hG hS ha hl;refine h3 (λ vs=>k (vs.headD undef) (H5 a' vs 0)) (hk _ _ ?_ ⟨a',cs,ha,h1,rfl⟩);cases vs with
     | nil=>simp only [RL] at h1;subst h1;simp [List.headD,undef,R,RA,RL]
     | cons v vs =>
      cases cs with
      | nil=>simp [RL] at h1
      | cons c cs=>simp only [RL] at h1;exact h1.1
    ·cases he
 ·cases he
end
section
variable {g:Sg}{w0 w:World}
def AI.R9:AI->Nat->List Value->Option AI
 | x,_,[]=>some x
 | .cells b cs t,o,v :: vs=>bif Ai8 o cs.length then AI.R9 (.cells b (cs.set o v) t) (o+1) vs else none
 | .row b e sz n xs cx,o,v :: vs=>bif Ai8 o xs.length then AI.R9 (.row b e sz n (xs.set o v) cx) (o+1) vs else none
 | _,_,_ :: _=>none
theorem DF{a b:Nat}(h:Ai8 a b=true):a<b:=by rw [Ai8,AjV] at h;exact h
theorem T8{v c:Value}(h:R g v c)(h1:v.oneCell'=true):c.oneCell'=true:=by
 cases v with
 | agg _=>cases h1
 | tuple _=>cases h1
 | pointer p=>cases p <;> simp only [R] at h <;> first | (subst h;rfl) | (obtain⟨_,_,rfl⟩:=h;rfl)
 | map p=>cases p <;> simp only [R] at h <;> first | (subst h;rfl) | (obtain⟨_,_,rfl⟩:=h;rfl)
 | slice p l k=>cases c <;> first | rfl | (simp [R,IL] at h)
 | func _ _ _=>cases c <;> first | rfl | (simp [R] at h)
 | iface _ _=>cases c <;> first | rfl | (simp [R] at h)
 | chan _=>simp [R] at h
 | _=>simp only [R] at h;subst h;rfl
theorem Ac9:∀ {vs us:List Value} {S:AS} {w:World} {j o:Nat} {x x':AI} {s:Nat × Nat × Loop},SQ g w0 w S.H->S.H[j]?=some x->Ij g x.id=some s->x.R9 o vs=some x'->RL g vs us->(∀ v∈vs,v.oneCell'=true)->∀ {p:Nat} {i:Nat},p+i=o->∀ {k:World->Prop},
  (∀ w',SQ g w0 w' (S.H.set j x')->k w')->BO us ⟨s.1,p,none⟩ i k w:=by
 intro vs
 induction vs with
 | nil =>
  intro us S w j o x x' s hS hx hs he hr h1 p i pW k hk;simp only [RL] at hr;subst hr;have:x'=x:=by cases x <;> (simp only [AI.R9,AjY] at he;exact he.symm)
  subst this;refine hk w ?_;obtain⟨L,h3,h4⟩:=hS;refine⟨L,?_,h4⟩;rwa [show S.H.set j x'=S.H from (Aje.1 hx).2 ▸ List.set_getElem_self _]
 | cons v vs ih =>
  intro us S w j o x x' s hS hx hs he hr h1 p i pW k hk;cases us with
  | nil=>simp [RL] at hr
  | cons u us =>
  simp only [RL] at hr;have fL:=T8 hr.1 (h1 v (by simp));show (bif u.oneCell' then CI ((⟨s.1,p,none⟩:Addr).add i) u (λ w'=>BO us ⟨s.1,p,none⟩ (i+1) k w') w else False);rw [fL,cond_true,Ar,pW];obtain⟨L,h3,h4⟩:=hS;obtain⟨y,hy,t,ht1,ht2,ht3⟩:=Kj h3 hx;have sn:t=s:=by rw [hs] at ht2;cases ht2;rfl
  subst sn;have aB:=(Aje.1 hx).1;cases x with
  | cells b cs ty =>
   obtain⟨cc,hc,rfl⟩:=ht3;unfold AI.R9 at he;cases hb:Ai8 o cs.length with
   | false=>simp [hb] at he
   | true =>
    simp only [hb,cond_true] at he;have dM:=DF hb;have cF:=Fe hc;refine h4.BA j hy (aD:=⟨cc.set o u⟩) (i:=o) (by simpa [cF] using dM) (by simp) λ w1 S1=>?_;have iJ:SQ g w0 w1 (S.H.set j (.cells b (cs.set o v) ty)):=⟨_,HB j h3 ⟨t,ht1,hs,_,Qx o hc hr.1,rfl⟩,S1⟩;refine ih (S:=⟨S.nx,S.H.set j (.cells b (cs.set o v) ty)⟩) (j:=j) (x:=.cells b (cs.set o v) ty) iJ (by simp [aB]) hs he hr.2 (λ v hv=>h1 v (by simp [hv])) (by omega) λ w2 mU=>?_;refine hk w2 ?_;simpa using mU
  | row b e sz n xs cx =>
   obtain⟨cc,hc,rfl,hcx⟩:=ht3;unfold AI.R9 at he;cases hb:Ai8 o xs.length with
   | false=>simp [hb] at he
   | true =>
    simp only [hb,cond_true] at he;have dM:=DF hb;have cF:=Fe hc;have jN:=(h4.rw j hy).len;refine h4.Ai1 j hy (j:=o) (by omega) λ w1 S1=>?_;have iJ:SQ g w0 w1 (S.H.set j (.row b e sz n (xs.set o v) cx)):=⟨_,HB j h3 ⟨t,ht1,hs,_,Qx o hc hr.1,rfl,hcx⟩,S1⟩;refine ih (S:=⟨S.nx,S.H.set j (.row b e sz n (xs.set o v) cx)⟩) (j:=j) (x:=.row b e sz n (xs.set o v) cx) iJ (by simp [aB]) hs he hr.2 (λ v hv=>h1 v (by simp [hv])) (by omega) λ w2 mU=>?_;refine hk w2 ?_;simpa using mU
  | ro _ _=>simp [AI.R9] at he
  | loop _ _ _=>simp [AI.R9] at he
  | mark _=>simp [AI.R9] at he
  | mp _ _ _=>simp [AI.R9] at he
/-! ## New blocks -/
theorem Fo(n:Nat)(s:Nat × Nat × Loop):Ij (up g n s) (n+CV)=some s:=by
 unfold Ij up;rw [if_pos (by omega)]
theorem C0(n:Nat):CV<=n+CV:=Nat.le_add_left _ _
theorem AaW(n:Nat):n+CV≠FI:=by unfold CV FI;omega
theorem YO(n:Nat)(s:Nat × Nat × Loop):bk (up g n s) (n+CV)=some s.1:=Ff (C0 _) (Fo n s)
theorem AfT(n:Nat)(s:Nat × Nat × Loop):R (up g n s) (.pointer (some ⟨n+CV,0,none⟩)) (.pointer (some ⟨s.1,0,none⟩)):=by
 simp only [R];exact⟨_,by unfold ad;simp only [YO];rfl,rfl⟩
theorem Adc(n:Nat)(s:Nat × Nat × Loop)(o:Nat):ad (up g n s) ⟨n+CV,o,none⟩=some ⟨s.1,o,none⟩:=by unfold ad;simp only [YO];rfl
theorem Abd(i:Nat)(s:Nat × Nat × Loop){n c:Nat}(h:n<=c)(hc:c<9223372036854775808):R (up g i s) (.slice (some ⟨i+CV,0,none⟩) n c) (.slice (some ⟨s.1,0,none⟩) n c):=by
 simp only [R,IL];exact⟨trivial,h,.inr ⟨AaW _,Adc i s 0,by simp,by unfold cp;rw [if_pos hc]⟩⟩
theorem Nn(i:Nat)(s:Nat × Nat × Loop){n:Nat}(h:n<=s.2.1):R (up g i s) (.slice (some ⟨i+CV,0,none⟩) n NG) (.slice (some ⟨s.1,0,none⟩) n s.2.1):=by
 simp only [R,IL];refine⟨trivial,h,.inr ⟨AaW _,Adc i s 0,by simp,?_⟩⟩;unfold cp;rw [if_neg (by unfold NG;omega),if_neg (by have:=C0 i;omega),Fo];simp
theorem SR.Ak{S:AS}(hS:SR g w0 w S){vs us:List Value}(hr:RL g vs us){t:TypeId}{k:Nat->World->Prop}
  (hk:∀ b w',SQ (up g S.nx (b,0,default)) w0 w' (.cells (S.nx+CV) vs t :: S.H)->k b w'):Cu ⟨us⟩ t k w:=by
 obtain⟨h1,L,h2,h3⟩:=hS;refine h3.Ak λ b w' _ B S'=>hk b w' ?_;exact⟨It.cells b ⟨us⟩ t :: L,⟨⟨(b,0,default),C0 _,Fo _ _,us,Ge (Le.up h1 _) _ hr,rfl⟩,Kx (Le.up h1 _) h2⟩,S'⟩
theorem SR.newRow{S:AS}(hS:SR g w0 w S){vs us:List Value}(hr:RL g vs us){e:TypeId}{sz n:Nat}(hn:us.length=n*sz)(gu:n<=9223372036854775807){k:Nat->World->Prop}
  (hk:∀ b w',SQ (up g S.nx (b,n,default)) w0 w' (.row (S.nx+CV) e sz n vs (some n) :: S.H)->k b w'):Cu ⟨us⟩ e k w:=by
 obtain⟨h1,L,h2,h3⟩:=hS;refine h3.Ak λ b w' _ B S'=>hk b w' ?_;have S2:=S'.Sw 0 rfl (Aq.refl _ _) (It.row e sz (some ⟨b,0,none⟩) n n us) ⟨hn,.inr ⟨b,_,rfl,S'.Bu 0 rfl,Ajx _,gu,by simpa using hn,by rw [<- hn];simp⟩⟩ (λ k hk=>.inl hk);exact⟨It.row e sz (some ⟨b,0,none⟩) n n us :: L,⟨⟨(b,n,default),C0 _,Fo _ _,us,Ge (Le.up h1 _) _ hr,rfl,λ k hk=>by cases hk;rfl⟩,Kx (Le.up h1 _) h2⟩,S2⟩
end
section
variable {P:Program}{g:Sg}{w0 w:World}
theorem AgG{s:Sem Value}{z:Value}{k:Value->World->Prop}{w:World}(h:Dc P s (λ v w'=>OH z λ u=>v=u/\k u w') w):V3 P s z k w:=h
def Fv(n:Nat)(g:Sg)(w0:World)(v:Value)(H:List AI)(k:Value->World->Prop):Prop:=∀ g' c w',(g'=g\/∃ s,g'=up g n s)->R g' v c->SQ g' w0 w' H->k c w'
def Y7(P:Program)(t:TypeId)(S:AS):Option (Value × AS) :=
 match zeroOf P t with
 | some z=>bif LN z.cells.toList then some (.pointer (some ⟨S.nx+CV,0,none⟩),⟨S.nx+1,.cells (S.nx+CV) z.cells.toList t :: S.H⟩) else none
 | none=>none
theorem SR.Aij{S:AS}(hS:SR g w0 w S){vs us:List Value}(hr:RL g vs us){t:TypeId}{k:Value->World->Prop}(hk:Fv S.nx g w0 (.pointer (some ⟨S.nx+CV,0,none⟩)) (.cells (S.nx+CV) vs t :: S.H) k) :
  Cu ⟨us⟩ t (λ b w'=>k (.pointer (some ⟨b,0,none⟩)) w') w :=
 hS.Ak hr λ b w' dc=>hk _ _ w' (.inr ⟨_,rfl⟩) (AfT _ (b,0,default)) dc
theorem AbG{t:TypeId}{S S':AS}{v:Value}(he:Y7 P t S=some (v,S'))(hS:SR g w0 w S){k:Value->World->Prop}(hk:Fv S.nx g w0 v S'.H k) :
  ∃ z,zeroOf P t=some z/\Cu z.cells t (λ b w'=>k (.pointer (some ⟨b,0,none⟩)) w') w:=by
 unfold Y7 at he;split at he
 ·rename_i z hz;cases hp:LN z.cells.toList with
  | false=>simp [hp] at he
  | true =>
   simp only [hp,cond_true,AjY,AjI] at he;obtain⟨rfl,rfl⟩:=he;exact⟨z,hz,hS.Aij ((MT _ hp).2 rfl) hk⟩
 ·cases he
def AhY(x:Option Value)(t:TypeId)(S:AS):Option (Value × AS) :=
 match x with
 | some v=>some (.pointer (some ⟨S.nx+CV,0,none⟩),⟨S.nx+1,.cells (S.nx+CV) v.cells.toList t :: S.H⟩)
 | none=>none
def eBS(P:Program)(e:Operand->Option Value)(t:TypeId)(len:Nat)(parts:List (Nat × Operand)):Option (TypeId × Nat × List Value) :=
 match P.underlying t with
 | some (.slice el) =>
  match P.info? el with
  | some i =>
   match i.zero with
   | some z=>bif Ai3 len 0 && parts.isEmpty then some (el,i.size,[]) else bif (Ai8 (2 ^ 24) (len*i.size)) || (Ai3 (len*i.size) 0) then none else
    (match JV e parts with
    | some ps=>bif LN ((Aj3 (len*i.size)).map (z.cells[· % z.cells.size]!)).toList then (match Instr.fill (λ j=>some (j*i.size,i.size)) ((Aj3 (len*i.size)).map (z.cells[· % z.cells.size]!)) ps with
     | some c=>some (el,i.size,c.toList)
     | none=>none) else none
    | none=>none)
   | none=>none
  | none=>none
 | _=>none
theorem AgQ{e e':Operand->Option Value}(h:ER g e e'){t el:TypeId}{len sz:Nat}{parts:Array (Nat × Operand)}{vs:List Value}(he:eBS P e t len parts.toList=some (el,sz,vs)) :
  ∃ us,RL g vs us/\Cx P e' t len parts=some (el,⟨us⟩)/\∀ x∈parts.toList,(e' x.2).isSome:=by
 unfold eBS at he;unfold Cx;split at he
 ·rename_i lu hu;rw [hu];split at he
  ·rename_i i hi;simp only [hi];split at he
   ·rename_i z hz;simp only [hz];cases h0:Ai3 len 0 && parts.toList.isEmpty with
    | true =>
     simp only [h0,cond_true,AjY,AjI] at he;obtain⟨rfl,rfl,rfl⟩:=he;refine⟨[],by simp [RL],by simp,?_⟩;simp only [Ai6,Aj1] at h0;rw [h0.2];simp
    | false =>
     simp only [h0,cond_false] at he ⊢;cases h1:(Ai8 (2 ^ 24) (len*i.size)) || (Ai3 (len*i.size) 0) with
     | true=>simp only [h1,cond_true] at he;cases he
     | false =>
      simp only [h1,cond_false] at he ⊢;split at he
      ·rename_i ps e7;cases h2:LN ((Aj3 (len*i.size)).map (z.cells[· % z.cells.size]!)).toList with
       | false=>simp only [h2,cond_false] at he;cases he
       | true =>
        simp only [h2,cond_true] at he;split at he
        ·rename_i c hc;simp only [AjY,AjI] at he;obtain⟨rfl,rfl,rfl⟩:=he;obtain⟨q1,q2⟩:=NU h e7;obtain⟨r,hr,jO⟩:=Zn q1 ((MT _ h2).2 rfl) hc;refine⟨r.toList,jO,?_,q2⟩;rw [hr];rfl
        ·cases he
      ·cases he
   ·cases he
  ·cases he
 ·cases he
def Jc(P:Program)(e:Operand->Option Value)(t:TypeId)(len:Nat)(parts:List (Nat × Operand))(S:AS):Option (Value × AS) :=
 match eBS P e t len parts with
 | some (el,sz,vs)=>bif Ai3 vs.length (len*sz) && Ai8 len 9223372036854775808 then some (.slice (some ⟨S.nx+CV,0,none⟩) len len,⟨S.nx+1,.row (S.nx+CV) el sz len vs (some len) :: S.H⟩) else none
 | none=>none
theorem QQ{e e':Operand->Option Value}(h:ER g e e'){o:Oper}{t:TypeId}{len:Nat}{parts:Array (Nat × Operand)}(ho:o.op=.buildSlice t len parts){S S':AS}{v:Value}(he:Jc P e t len parts.toList S=some (v,S'))(hS:SR g w0 w S){k:Value->World->Prop}(hk:Fv S.nx g w0 v S'.H k) :
  (bif known e' o then
   (match Cx P e' t len parts with
   | some (el,c)=>Cu c el (λ b w'=>k (.slice (some ⟨b,0,none⟩) len len) w') w
   | none=>False) else False):=by
 unfold Jc at he;split at he
 ·rename_i el sz vs hb;obtain⟨us,hr,jo,bY⟩:=AgQ h hb;have bB:known e' o=true:=by
   simp only [known,ho,Op.operands];refine AjW.2 λ x hx=>?_;simp only [List.mem_map] at hx;obtain⟨p,hp,rfl⟩:=hx;exact bY p hp
  rw [bB,cond_true,jo];cases hc:Ai3 vs.length (len*sz) && Ai8 len 9223372036854775808 with
  | false=>simp only [hc,cond_false] at he;cases he
  | true =>
   simp only [hc,cond_true,AjY,AjI] at he;obtain⟨rfl,rfl⟩:=he;simp only [Ai6] at hc;have h1:=Ai7 hc.1;have h2:=DF hc.2;exact hS.newRow hr (e:=el) (sz:=sz) (n:=len) (by rw [Fe hr,h1]) (by omega) λ b w' dc=>hk _ _ w' (.inr ⟨_,rfl⟩) (Abd _ (b,len,default) (Ajx _) h2) dc
 ·cases he
def QT(P:Program)(t:TypeId)(a x:Option Value)(S:AS):Option AS :=
 match a,x with
 | some (.pointer (some p)),some v =>
  bif Ai3 v.cells.size (P.cellsOf t) && Fj P t && p.spot.isNone && AjX CV p.block && v.cells.toList.all (·.oneCell') then (match SM p.block S.H 0 with
   | some (j,x)=>(match x.R9 p.off v.cells.toList with
    | some x'=>some ⟨S.nx,S.H.set j x'⟩
    | none=>none)
   | none=>none) else none
 | _,_=>none
theorem AbP{e e':Operand->Option Value}(h:ER g e e'){t:TypeId}{a x:Operand}{S S':AS}(he:QT P t (e a) (e x) S=some S')(hS:SR g w0 w S){k:World->Prop}(hk:∀ w',SQ g w0 w' S'.H->k w') :
  GX (e' x) λ v=>Wk (e' a) λ p=>bif Ai3 v.cells.size (P.cellsOf t) && Fj P t then BO v.cells.toList p 0 k w else False:=by
 unfold QT at he;split at he
 ·rename_i p v ha hx;obtain⟨c,hc,hr⟩:=h _ _ ha;obtain⟨d,hd,bU⟩:=h _ _ hx;simp only [R] at hr;obtain⟨p',hp,rfl⟩:=hr;rw [hc,hd];simp only [GX,Wk,AL];have jt:=UJ bU;have hlen:d.cells.size=v.cells.size:=by have:=Fe jt;simpa using this
  cases hb:Ai3 v.cells.size (P.cellsOf t) && Fj P t && p.spot.isNone && AjX CV p.block && v.cells.toList.all (·.oneCell') with
  | false=>simp only [hb,cond_false] at he;cases he
  | true =>
   simp only [hb,cond_true] at he;simp only [Ai6] at hb;obtain⟨⟨⟨⟨b1,b2⟩,b3⟩,b4⟩,b5⟩:=hb;rw [hlen,b1,b2];simp only [Bool.and_self,cond_true];split at he
   ·rename_i j y hf;split at he
    ·rename_i y' hy;cases he;obtain⟨f1,f2⟩:=W7 hf;obtain⟨_,L,hL,hT⟩:=id hS;obtain⟨z,hz,s,s1,s2,_⟩:=Kj hL f1;have gM:p'=⟨s.1,p.off,none⟩:=by
      unfold ad at hp;rw [<- f2,Ff s1 s2] at hp;simp only [Aj0,AjY] at hp;rw [<- hp];cases da:p.spot with
      | none=>rfl
      | some _=>simp [da] at b3
     rw [gM];exact Ac9 (S:=S) hS.2 f1 s2 hy jt (λ u hu=>AjW.1 b5 u hu) (Nat.add_zero _) hk
    ·cases he
   ·cases he
 ·cases he
end
section
variable {P:Program}{g:Sg}{w0 w:World}
def Ta(G:GT)(H:List AI)(p:Option Addr)(l sz:Nat):Option (List Value) :=
 bif Ai3 l 0 then some [] else match p with
  | some a=>(match a.spot with
   | none=>(match Aec G H a.block with
    | some vs=>bif Ai3 ((vs.drop a.off).take (l*sz)).length (l*sz) then some ((vs.drop a.off).take (l*sz)) else none
    | none=>none)
   | some _=>none)
  | none=>none
theorem J0{G:GT}(hG:IE G w0){S:AS}(hS:SQ g w0 w S.H){p:Option Addr}{l k:Nat}{u:Value}{sz:Nat}{vs:List Value}(he:Ta G S.H p l sz=some vs)(hr:IL g p l k u) :
  ∃ p' c' cs,u=.slice p' l c'/\RL g vs cs/\Rd w p' cs/\cs.length=l*sz:=by
 unfold Ta at he;cases u with
 | slice p' l' c' =>
  have hl:l'=l:=hr.1;subst hl;cases h0:Ai3 l' 0 with
  | true =>
   simp only [h0,cond_true,AjY] at he;subst he;have:=Ai7 h0;subst this;exact⟨p',c',[],rfl,by simp [RL],Rd.nil _ _,by simp⟩
  | false =>
   have il:0<l':=Nat.pos_of_ne_zero (AjT h0);simp only [h0,cond_false] at he;split at he
   ·rename_i a;split at he
    ·rename_i da;split at he
     ·rename_i us hm;cases hb:Ai3 ((us.drop a.off).take (l'*sz)).length (l'*sz) with
      | false=>simp only [hb,cond_false] at he;cases he
      | true =>
       simp only [hb,cond_true,AjY] at he;subst he;have hb:=Ai7 hb;obtain⟨a',k',e1,_,e2,_⟩:=JM hr il;cases e1;obtain⟨cs,cb,h1,h2,h3⟩:=VB hG hS hm;have bU:=GK (l'*sz) (HF a.off h1);have du:a'=⟨cb,a.off,none⟩:=by
        unfold ad at e2;rw [h2] at e2;simp only [Aj0,AjY] at e2;rw [<- e2,da]
       refine⟨_,c',_,rfl,bU,?_,by rw [Fe bU];exact hb⟩;intro j x hx;refine⟨a',rfl,?_⟩;rw [du,Ar];rw [Aj2] at hx;split at hx
       ·rw [Ajs] at hx;exact h3 _ _ hx
       ·cases hx
     ·cases he
    ·cases he
   ·cases he
 | _=>exact hr.elim
theorem XH:∀ {vs us:List Value},RL g vs us->vs.all (·.oneCell')=true->∀ u∈us,u.oneCell'=true
 | [],_,h,_,u,hu=>by simp only [RL] at h;subst h;cases hu
 | v :: vs,[],h,_,_,_=>by simp [RL] at h
 | v :: vs,x :: xs,h,h1,u,hu=>by
  simp only [RL] at h;simp only [List.all_cons,Ai6] at h1;rcases List.mem_cons.1 hu with rfl | hu
  ·exact T8 h.1 h1.1
  ·exact XH h.2 h1.2 u hu
theorem Row.VU{e:TypeId}{sz:Nat}{a:Option Addr}{n c:Nat}{xs:List Value}(h:Row w e sz a n c xs)(hn:0<n):∃ b,a=some ⟨b,0,none⟩:=by
 rcases h.2 with ⟨_,h,_⟩ | ⟨b,_,h,_⟩
 ·omega
 ·exact⟨b,h⟩
theorem SR.rowAt{S:AS}(hS:SR g w0 w S){L:List It}(hL:HR g S.H L){j:Nat}{e:TypeId}{sz n c b:Nat}{vs us:List Value}(hr:RL g vs us){w':World}
  (hT:ST w0 w' (L.set j (It.row e sz (some ⟨b,0,none⟩) n c us))):SQ (up g S.nx (b,c,default)) w0 w' (S.H.set j (.row (S.nx+CV) e sz n vs none)) :=
 ⟨_,HB j (Kx (Le.up hS.1 _) hL) ⟨(b,c,default),C0 _,Fo _ _,us,Ge (Le.up hS.1 _) _ hr,rfl,λ k hk=>by cases hk⟩,hT⟩
theorem SR.Aeo{S:AS}(hS:SR g w0 w S){L:List It}(hL:HR g S.H L){e:TypeId}{sz n c b:Nat}{vs us:List Value}(hr:RL g vs us){w':World}
  (hT:ST w0 w' (It.row e sz (some ⟨b,0,none⟩) n c us :: L)):SQ (up g S.nx (b,c,default)) w0 w' (.row (S.nx+CV) e sz n vs none :: S.H) :=
 ⟨It.row e sz (some ⟨b,0,none⟩) n c us :: L,⟨⟨(b,c,default),C0 _,Fo _ _,us,Ge (Le.up hS.1 _) _ hr,rfl,λ k hk=>by cases hk⟩,Kx (Le.up hS.1 _) hL⟩,hT⟩
def isK(cx:Option Nat)(c:Nat):Bool:=match cx with | some k=>Ai3 c k | none=>false
def rowOf(H:List AI)(p:Addr)(n c:Nat)(e:TypeId)(sz:Nat):Option (Nat × List Value) :=
 match SM p.block H 0 with
 | some (j,.row b e' dB n' xs cx)=>bif Ai3 e' e && Ai3 dB sz && Ai3 n' n && Ai3 p.off 0 && p.spot.isNone && (Ai3 c NG || isK cx c) && AjX CV p.block then some (j,xs) else none
 | _=>none
theorem Aen{S:AS}(hS:SQ g w0 w S.H){p:Addr}{n c:Nat}{e:TypeId}{sz j:Nat}{xs:List Value}(he:rowOf S.H p n c e sz=some (j,xs)){u:Value}(hr:IL g (some p) n c u) :
  ∃ L us b c',HR g S.H L/\ST w0 w L/\RL g xs us/\L[j]?=some (It.row e sz (some ⟨b,0,none⟩) n c' us)/\u=.slice (some ⟨b,0,none⟩) n c':=by
 unfold rowOf at he;split at he
 ·rename_i i b e' dB n' ys cx hf;cases hb:Ai3 e' e && Ai3 dB sz && Ai3 n' n && Ai3 p.off 0 && p.spot.isNone && (Ai3 c NG || isK cx c) && AjX CV p.block with
  | false=>rw [hb] at he;cases he
  | true =>
   rw [hb] at he;simp only [cond_true,AjY,AjI] at he;obtain⟨rfl,rfl⟩:=he;simp only [Ai6,Bool.or_eq_true] at hb;obtain⟨⟨⟨⟨⟨⟨b1,b2⟩,b3⟩,b4⟩,b5⟩,b6⟩,b7⟩:=hb;have b1:=Ai7 b1;have b2:=Ai7 b2;have b3:=Ai7 b3;have b4:=Ai7 b4;subst b1;subst b2;subst b3;obtain⟨f1,f2⟩:=W7 hf;obtain⟨L,hL,hT⟩:=hS;obtain⟨y,hy,s,s1,s2,us,s3,rfl,s4⟩:=Kj hL f1;refine⟨L,us,s.1,s.2.1,hL,hT,s3,hy,?_⟩;cases u with
   | slice p' l' c' =>
    obtain⟨rfl,_,h2⟩:=hr;have hid:(AI.row b e' dB l' ys cx).id=p.block:=f2;rw [hid] at s1 s2;have jH:p.block≠FI:=by unfold CV FI at *;omega
    rcases h2 with ⟨h3,_⟩ | ⟨_,h3,_,h4⟩
    ·exact absurd h3 jH
    ·have e1:p'=some ⟨s.1,0,none⟩:=by
      rw [<- h3];unfold ad;rw [Ff s1 s2,b4];cases da:p.spot with
      | none=>rfl
      | some _=>simp [da] at b5
     have e2:c'=s.2.1:=by
      rcases b6 with b6 | b6
      ·have:=Ai7 b6;subst this;unfold cp at h4;rw [if_neg (by unfold NG;omega),if_neg (by omega),s2] at h4;simp only [Aj0,AjY,Nat.sub_self,Nat.sub_zero] at h4;exact h4.symm
      ·cases cx with
       | none=>cases b6
       | some k =>
        have:=Ai7 b6;subst this;have h5:=s4 c rfl;unfold cp at h4;split at h4
        ·cases h4;exact h5.symm
        ·rename_i hc;exfalso;have:=(hT.rw i hy);rcases this.2 with ⟨hh,_⟩ | ⟨_,_,_,_,_,hh,_⟩
         ·cases hh
         ·omega
     rw [e1,e2]
   | _=>exact hr.elim
 ·cases he
end
section
variable {P:Program}{g:Sg}{w0 w:World}
theorem AJ{α:Type}{c:Bool}{x:Option α}{v:α}(h:(bif c then x else none)=some v):c=true/\x=some v:=by cases c <;> simp_all
theorem Aer{n c:Nat}{u:Value}(h:IL g none n c u):u=.slice none n c:=by
 cases u with
 | slice p l k=>obtain⟨rfl,rfl,rfl⟩:=h;rfl
 | _=>exact h.elim
def Aci(S:AS)(n:Nat):Value:=.slice (some ⟨S.nx+CV,0,none⟩) n NG
def AaG(H:List AI)(a:Option Addr)(n c:Nat)(e:TypeId)(sz:Nat):Option (Option (Nat × List Value)) :=
 match a with
 | none=>bif Ai3 n 0 && Ai3 c 0 then some none else none
 | some p=>match rowOf H p n c e sz with
  | some r=>some (some r)
  | none=>none
theorem WO{S:AS}(hS:SQ g w0 w S.H){a:Option Addr}{n c:Nat}{e:TypeId}{sz:Nat}{r:Option (Nat × List Value)}(he:AaG S.H a n c e sz=some r){u:Value}(hr:IL g a n c u) :
  (r=none/\n=0/\u=.slice none 0 0/\∃ L,HR g S.H L/\ST w0 w (It.row e sz none 0 0 [] :: L)) \/
  ∃ j xs L us b c',r=some (j,xs)/\HR g S.H L/\ST w0 w L/\RL g xs us/\L[j]?=some (It.row e sz (some ⟨b,0,none⟩) n c' us)/\u=.slice (some ⟨b,0,none⟩) n c':=by
 unfold AaG at he;split at he
 ·obtain⟨h1,h2⟩:=AJ he;cases h2;simp only [Ai6] at h1;have e1:=Ai7 h1.1;have e2:=Ai7 h1.2;subst e1;subst e2;obtain⟨L,h3,h4⟩:=hS;exact .inl ⟨rfl,rfl,Aer hr,L,h3,h4.nil _ _⟩
 ·split at he
  ·rename_i p q hq;cases he;obtain⟨j,xs⟩:=q;obtain⟨L,us,b,c',h1,h2,h3,h4,h5⟩:=Aen hS hq hr;exact .inr ⟨j,xs,L,us,b,c',rfl,h1,h2,h3,h4,h5⟩
  ·cases he
def UG(S:AS)(r:Option (Nat × List Value))(n:Nat)(e:TypeId)(sz:Nat)(news:List Value):AS :=
 match r with
 | none=>⟨S.nx+1,.row (S.nx+CV) e sz n news none :: S.H⟩
 | some (j,xs)=>⟨S.nx+1,S.H.set j (.row (S.nx+CV) e sz n (xs++news) none)⟩
def HO(P:Program)(G:GT)(ts:List TypeId)(x y:Value)(S:AS):Option (Value × AS) :=
 match ts,x with
 | [t,t'],.slice a n c =>
  (match LO P t with
  | none=>none
  | some (e,sz,bytes,z)=>bif Ai8 0 sz && Ai8 0 bytes && Ai3 z.cells.size sz then
   (match y with
   | .slice p m _=>bif Ai3 t' t && AjX ((n+m)*bytes) 140737488355328 then (match Ta G S.H p m sz with
    | none=>none
    | some news=>bif news.all (·.oneCell') then
     (match AaG S.H a n c e sz with
     | some r=>bif Ai3 m 0 then some (x,S) else some (Aci S (n+m),UG S r (n+m) e sz news)
     | none=>bif Ai8 c 9223372036854775808 && Ai8 c (n+m) && AjX n c && a.isSome && Ai8 0 m && Ai8 0 n then (match Ta G S.H a n sz with
      | some xs=>some (Aci S (n+m),UG S none (n+m) e sz (xs++news))
      | none=>none) else none) else none) else none
   | .string s=>bif isStrT P t' && Ai3 sz 1 && AjX ((n+s.size)*bytes) 140737488355328 && Ai8 0 (n+s.size) then (match AaG S.H a n c e sz with
    | some r=>some (Aci S (n+s.size),UG S r (n+s.size) e sz ((bl s).map Af))
    | none=>none) else none
   | .int .i64 m=>bif isI64T P t' && decide (0<m) && AjX (m.toNat*bytes) 140737488355328 && a.isNone && Ai3 n 0 && Ai3 c 0 then
     some (Aci S m.toNat,⟨S.nx+1,.row (S.nx+CV) e sz 0 [] none :: S.H⟩) else none
   | _=>none) else none)
 | _,_=>none
where
 isStrT (P:Program) (t:TypeId):Bool:=match P.underlying t with | some .string=>true | _=>false
 isI64T (P:Program) (t:TypeId):Bool:=match P.underlying t with | some (.int .i64)=>true | _=>false
theorem Ab9{t:TypeId}(h:HO.isStrT P t=true):P.underlying t=some .string:=by unfold HO.isStrT at h;split at h <;> simp_all
theorem Ab6{t:TypeId}(h:HO.isI64T P t=true):P.underlying t=some (.int .i64):=by unfold HO.isI64T at h;split at h <;> simp_all
theorem Tv{S:AS}(hS:SR g w0 w S){r:Option (Nat × List Value)}{n0 n:Nat}{e:TypeId}{sz:Nat}{u:Value}{news cs:List Value}(hr:RL g news cs)
  (h:(r=none/\n0=0/\u=.slice none 0 0/\∃ L,HR g S.H L/\ST w0 w (It.row e sz none 0 0 [] :: L)) \/
   ∃ j xs L us b c',r=some (j,xs)/\HR g S.H L/\ST w0 w L/\RL g xs us/\L[j]?=some (It.row e sz (some ⟨b,0,none⟩) n0 c' us)/\u=.slice (some ⟨b,0,none⟩) n0 c') (hn:0<n)
  {f:Value->World->Prop} (hf:Fv S.nx g w0 (Aci S n) (UG S r n e sz news).H f) {s:Sem Value}
  (ha:∀ {H:List It} {i:Nat} {a:Option Addr} {c:Nat} {xs:List Value},ST w0 w H->H[i]?=some (It.row e sz a n0 c xs)->u=.slice a n0 c->(∀ a' c' w',ST w0 w' (H.set i (It.row e sz a' n c' (xs++cs)))->f (.slice a' n c') w')->Dc P s f w):Dc P s f w:=by
 rcases h with ⟨rfl,rfl,rfl,L,hL,hT⟩ | ⟨j,xs,L,us,b,c',rfl,hL,hT,hx,hj,rfl⟩
 ·refine ha (i:=0) hT rfl rfl λ a' c2 w' gD=>?_;simp only [List.set_cons_zero,List.nil_append] at gD;obtain⟨b,rfl⟩:=(gD.rw 0 rfl).VU hn;have:=(gD.rw 0 rfl).le;exact hf _ _ w' (.inr ⟨_,rfl⟩) (Nn _ (b,c2,default) this) (hS.Aeo hL hr gD)
 ·refine ha hT hj rfl λ a' c2 w' gD=>?_;have eZ:=(Aje.1 hj).1;have aI:=gD.rw j (List.getElem?_set_self eZ);obtain⟨b2,rfl⟩:=aI.VU hn;exact hf _ _ w' (.inr ⟨_,rfl⟩) (Nn _ (b2,c2,default) aI.le) (hS.rowAt hL (Fc hx hr) gD)
theorem ST.AgK{H:List It}(S:ST w0 w H)(n:Nat){t u ty e:TypeId}{bytes:Nat}{z:Value}{a:Option Addr}{m c:Nat}{xs:List Value}(hn:H[n]?=some (It.row e 1 a m c xs))(hT:LO P t=some (e,1,bytes,z))(hu:P.underlying u=some .string)(hz:z.cells.size=1)(dL:0<bytes)
  (s:ByteArray) (cP:(m+s.size)*bytes<=140737488355328) {f:Value->World->Prop}
  (hf:∀ a' c' w',ST w0 w' (H.set n (It.row e 1 a' (m+s.size) c' (xs++(bl s).map Af)))->f (.slice a' (m+s.size) c') w'):Dc P (Builtin.append_ #[t,u] ty #[.slice a m c,.string s]) f w:=by
 obtain⟨a',c',w',aF,aI,hk,bK⟩:=SA (ty:=ty) hT hu hz dL (S.rw n hn) s cP;unfold Dc;rw [aF];exact hf a' c' w' (S.Sw n hn hk _ aI bK)
theorem UI:∀(l:List UInt8),RL g (l.map Af) (l.map Af)
 | []=>by simp [RL]
 | x :: l=>by simp only [Aj4,RL];exact⟨by simp [Af,R],UI l⟩
theorem Y8{G:GT}(hG:IE G w0){S S':AS}(hS:SR g w0 w S){ts:List TypeId}{x y v:Value}(he:HO P G ts x y S=some (v,S')){x' y':Value}(hx:R g x x')(hy:R g y y'){f:Value->World->Prop}(hf:Fv S.nx g w0 v S'.H f)(ty:TypeId) :
  Dc P (Builtin.append_ ⟨ts⟩ ty #[x',y']) f w:=by
 unfold HO at he;split at he
 ·rename_i t t' a n c;split at he
  ·cases he
  ·rename_i e sz bytes z hT;have h1:=(AJ he).1
   replace he:=(AJ he).2
   simp only [Ai6] at h1;obtain⟨⟨aU,eL⟩,et⟩:=h1;have aU:=DF aU;have eL:=DF eL;have et:=Ai7 et;have kQ:IL g a n c x':=hx;split at he
   ·rename_i p m k;have h2:=(AJ he).1
    replace he:=(AJ he).2
    simp only [Ai6,AjV] at h2;obtain⟨o6,cP⟩:=h2;have o6:=Ai7 o6;subst o6;split at he
    ·cases he
    ·rename_i news kD;obtain⟨p',k',cs,rfl,aj,aP,hlen⟩:=J0 hG hS.2 kD hy;have fL:=(AJ he).1
     replace he:=(AJ he).2
     have mC:=XH aj fL;split at he
     ·rename_i r hr;have key:=WO hS.2 hr kQ;cases hm:Ai3 m 0 with
      | true =>
       have eh:=Ai7 hm;subst eh;rw [hm] at he;simp only [cond_true,AjY,AjI] at he;obtain⟨rfl,rfl⟩:=he;have mj:cs=[]:=List.eq_nil_of_length_eq_zero (by rw [hlen];simp);subst mj;rcases key with ⟨_,rfl,rfl,L,hL,dE⟩ | ⟨j,xs,L,us,b,c',_,hL,dE,cz,hj,rfl⟩
       ·obtain⟨w',aF,aI,hk⟩:=OI (P:=P) (ty:=ty) (mc:=k') hT aU (Row.nil w e sz) aP hlen mC (Ajx _);unfold Dc;rw [aF];refine hf g _ w' (.inl rfl) hx ⟨L,hL,?_⟩;exact (dE.sub (List.sublist_cons_self _ _)).grown (hk.below (Ajx _) (by simp [BX]))
       ·obtain⟨w',aF,aI,hk⟩:=OI (P:=P) (ty:=ty) (mc:=k') hT aU (dE.rw j hj) aP hlen mC (dE.rw j hj).le;unfold Dc;rw [aF];refine hf g _ w' (.inl rfl) hx ⟨L,hL,?_⟩;have:=dE.Sw j hj (w':=w') hk (It.row e sz (some ⟨b,0,none⟩) n c' us) (by have h:=aI;simp only [Nat.add_zero,List.append_nil] at h;exact h) (λ k hk=>.inl hk);rwa [show L.set j (It.row e sz (some ⟨b,0,none⟩) n c' us)=L from (Aje.1 hj).2 ▸ List.set_getElem_self _] at this
      | false =>
       have eh:0<m:=Nat.pos_of_ne_zero (AjT hm);rw [hm] at he;simp only [cond_false,AjY,AjI] at he;obtain⟨rfl,rfl⟩:=he;refine Tv hS aj key (by omega) hf ?_;rintro H i a0 c0 xs dE hi rfl hh;exact dE.app i hi hT et aU eL aP hlen mC cP hh
     ·have h3:=(AJ he).1
      replace he:=(AJ he).2
      simp only [Ai6,AjV] at h3;obtain⟨⟨⟨⟨⟨b1,b2⟩,b3⟩,b4⟩,b5⟩,b6⟩:=h3;have b1:=DF b1;have b2:=DF b2;have b5:=DF b5;have b6:=DF b6;split at he
      ·rename_i xs cz;simp only [AjY,AjI] at he;obtain⟨rfl,rfl⟩:=he;obtain⟨q',c',us,rfl,cy,hrd2,gq⟩:=J0 hG hS.2 cz kQ;have hc:q'≠none/\c'=c:=by
        cases a with
        | none=>simp at b4
        | some q =>
         obtain⟨a',c2,e1,_,e2,e3⟩:=JM kQ b6;cases e1;refine⟨by simp,?_⟩;unfold cp at e3;rw [if_pos b1] at e3;cases e3;rfl
       obtain⟨hq,rfl⟩:=hc;cases q' with
       | none=>exact absurd rfl hq
       | some q =>
        obtain⟨a',c2,w',aF,aI,hB,bK⟩:=OJ (P:=P) (ty:=ty) (mc:=k') hT et aU eL hrd2 gq aP hlen b5 b2 b3 cP;unfold Dc;rw [aF];obtain⟨b',rfl⟩:=aI.VU (by omega);obtain⟨_,L,hL,dE⟩:=id hS;exact hf _ _ w' (.inr ⟨_,rfl⟩) (Nn _ (b',c2,default) aI.le) (hS.Aeo hL (Fc cy aj) (dE.add hB (It.row e sz (some ⟨b',0,none⟩) (n+m) c2 (us++cs)) aI bK))
      ·cases he
   ·rename_i s;have h2:=(AJ he).1
    replace he:=(AJ he).2
    simp only [Ai6,AjV] at h2;obtain⟨⟨⟨b1,b2⟩,b3⟩,b4⟩:=h2;have b2:=Ai7 b2;have b4:=DF b4;subst b2;simp only [R] at hy;subst hy;split at he
    ·rename_i r hr;simp only [AjY,AjI] at he;obtain⟨rfl,rfl⟩:=he;have key:=WO hS.2 hr kQ;refine Tv hS (UI (bl s)) key b4 hf ?_;rintro H i a0 c0 xs dE hi rfl hh;exact dE.AgK i hi hT (Ab9 b1) et eL s b3 hh
    ·cases he
   ·rename_i m;have h2:=(AJ he).1
    replace he:=(AJ he).2
    simp only [Ai6,AjV,decide_eq_true_eq] at h2;obtain⟨⟨⟨⟨⟨b1,b2⟩,b3⟩,b4⟩,b5⟩,b6⟩:=h2;have b5:=Ai7 b5;have b6:=Ai7 b6;subst b5;subst b6;simp only [AjY,AjI] at he;obtain⟨rfl,rfl⟩:=he;simp only [R] at hy;subst hy;cases a with
    | some _=>simp at b4
    | none =>
     have:=Aer kQ;subst this;obtain⟨c',w',aF,aI,ib,hB⟩:=HI (P:=P) (ty:=ty) hT (Ab6 b1) et aU eL (w:=w) (m:=m.toNat) (by omega) b3;rw [Int.toNat_of_nonneg (by omega)] at aF;unfold Dc;rw [aF];obtain⟨_,L,hL,dE⟩:=id hS;refine hf _ _ w' (.inr ⟨_,rfl⟩) (Nn _ (w.heap.size,c',default) ib) (hS.Aeo hL (by simp [RL]) (dE.add hB (It.row e sz (some ⟨w.heap.size,0,none⟩) 0 c' []) aI ?_));intro k hk;cases hk;exact Ajx _
   ·cases he
 ·cases he
end
section
variable {P:Program}{g:Sg}{w0 w:World}
def Hf:List Value->Option (List UInt8)
 | []=>some []
 | .int .u8 n :: vs=>bif decide (0<=n) && decide (n<256) then (match Hf vs with
  | some l=>some (UInt8.ofNat n.toNat :: l)
  | none=>none) else none
 | _=>none
theorem I7:∀ {vs us:List Value} {l:List UInt8},Hf vs=some l->RL g vs us->us=l.map Af
 | [],us,l,h,hr=>by simp only [Hf,AjY] at h;subst h;simp only [RL] at hr;subst hr;rfl
 | v :: vs,[],l,h,hr=>by simp [RL] at hr
 | v :: vs,u :: us,l,h,hr=>by
  simp only [RL] at hr;unfold Hf at h;split at h
  ·rename_i h0;cases h0
  ·rename_i n uQ h0;cases h0;have hb:=(AJ h).1
   replace h:=(AJ h).2
   simp only [Ai6,decide_eq_true_eq] at hb;split at h
   ·rename_i l' hl;cases h;have hu:u=.int .u8 n:=by simpa [R] using hr.1
    subst hu;rw [I7 hl hr.2];simp only [Aj4,List.cons.injEq,and_true,Af,Value.int.injEq,true_and];simp only [UInt8.toNat_ofNat'];omega
   ·cases h
  ·cases h
theorem Ahn{p:Addr}{xs:List Value}{k:Nat}(h:(It.rd (some p) xs).Bu=some k):k=p.block:=by
 cases xs with
 | nil=>cases h
 | cons x xs=>cases h;rfl
def Ra(P:Program)(t:TypeId):Bool:=match P.underlying t with
 | some (.slice e)=>(match P.underlying e with | some (.int .u8)=>true | _=>false)
 | _=>false
theorem Xi{t:TypeId}(h:Ra P t=true):∃ e,P.underlying t=some (.slice e)/\P.underlying e=some (.int .u8):=by
 unfold Ra at h;split at h
 ·rename_i e he;split at h
  ·rename_i hu;exact⟨e,he,hu⟩
  ·cases h
 ·cases h
def Adu(P:Program)(G:GT)(s d:TypeId)(x:Option Value)(S:AS):Option (Value × AS) :=
 match x with
 | some (.string b)=>bif I8 P s d then some (Aci S b.size,⟨S.nx+1,.ro (S.nx+CV) ((bl b).map Af) :: S.H⟩) else none
 | some (.slice p l c)=>bif I8 P d s then (match Ta G S.H p l 1 with
   | some vs=>(match Hf vs with
    | some bs=>some (.string (Dz bs),S)
    | none=>none)
   | none=>none)
  else bif Ra P s && Ai3 s d then (match p with
   | some a=>(match SM a.block S.H 0 with
    | some (j,.row b e sz n xs cx)=>bif Ai3 a.off 0 && a.spot.isNone && AjX CV a.block then some (.slice p l c,⟨S.nx,S.H.set j (.ro b xs)⟩) else none
    | _=>none)
   | none=>none) else none
 | _=>none
theorem Adv{G:GT}(hG:IE G w0){S S':AS}(hS:SR g w0 w S){s d:TypeId}{e e':Operand->Option Value}(h:ER g e e'){x:Operand}{v:Value}(he:Adu P G s d (e x) S=some (v,S')){f:Value->World->Prop}(hf:Fv S.nx g w0 v S'.H f) :
  ∃ c,e' x=some c/\Dc P (convert s d c) f w:=by
 unfold Adu at he;split at he
 ·rename_i b hb;obtain⟨c,hc,hr⟩:=h _ _ hb;simp only [R] at hr;subst hr;refine⟨_,hc,?_⟩;have h1:=(AJ he).1
  replace he:=(AJ he).2
  simp only [AjY,AjI] at he;obtain⟨rfl,rfl⟩:=he;refine Fg h1 b w λ b0 c0 cs e0 w' dL B hg aj hle dk=>?_;obtain⟨_,L,hL,hT⟩:=id hS;refine hf _ _ w' (.inr ⟨_,rfl⟩) (Nn _ (b0,c0,default) hle) ?_;refine⟨It.rd (some ⟨b0,0,none⟩) ((bl b).map Af) :: L,⟨⟨(b0,c0,default),C0 _,Fo _ _,_,UI _,rfl⟩,Kx (Le.up hS.1 _) hL⟩,?_⟩;refine hT.add B _ ?_ ?_
  ·show Rd w' _ _;have:=(Rd.Av hg).take b.size;rwa [dk] at this
  ·intro k hk;have:=Ahn hk;simp only at this;omega
 ·rename_i p l c hx;obtain⟨u,hu,hr⟩:=h _ _ hx;refine⟨_,hu,?_⟩;have bE:IL g p l c u:=hr;cases hb:I8 P d s with
  | true =>
   rw [hb,cond_true] at he;split at he
   ·rename_i vs iq;split at he
    ·rename_i bs jo;simp only [AjY,AjI] at he;obtain⟨rfl,rfl⟩:=he;obtain⟨p',c',cs,rfl,aj,aP,hlen⟩:=J0 hG hS.2 iq bE;have:=I7 jo aj;subst this;refine BH hb (by simpa using hlen.symm) aP ?_;exact hf g _ w (.inl rfl) (by simp [R]) hS.2
    ·cases he
   ·cases he
  | false =>
   rw [hb,cond_false] at he;have h1:=(AJ he).1
   replace he:=(AJ he).2
   simp only [Ai6] at h1;have sX:=Ai7 h1.2;subst sX;obtain⟨el,hu1,gR⟩:=Xi h1.1;split at he
   ·rename_i a;split at he
    ·rename_i j b e0 sz n xs cx df;have h2:=(AJ he).1
     replace he:=(AJ he).2
     simp only [AjY,AjI] at he;obtain⟨rfl,rfl⟩:=he;simp only [Ai6,AjV] at h2;obtain⟨⟨h2,h3⟩,h4⟩:=h2;have h2:=Ai7 h2;obtain⟨f1,f2⟩:=W7 df;obtain⟨fg,L,hL,hT⟩:=id hS;obtain⟨y,hy,t,t1,t2,us,cz,rfl,hcx⟩:=Kj hL f1;have hid:(AI.row b e0 sz n xs cx).id=a.block:=f2;rw [hid] at t1 t2;have jH:a.block≠FI:=by unfold CV FI at *;omega
     cases u with
     | slice p' l' c' =>
      obtain⟨rfl,hle,h5⟩:=id bE;rcases h5 with ⟨h5,_⟩ | ⟨_,h5,_,h6⟩
      ·exact absurd h5 jH
      ·have ep:p'=some ⟨t.1,0,none⟩:=by
        rw [<- h5];unfold ad;rw [Ff t1 t2,h2];cases da:a.spot with
        | none=>rfl
        | some _=>simp [da] at h3
       subst ep;have aI:=hT.rw j hy;rcases id aI.2 with ⟨hh,_⟩ | ⟨q,cur,e1,hg,_⟩
       ·cases hh
       ·cases e1;refine WJ hu1 gR hg λ w' hk aS=>?_;refine hf g _ w' (.inl rfl) hr ⟨_,HB j hL ⟨t,by rw [AI.id];rw [<- hid] at t1;exact t1,by rw [AI.id];rw [<- hid] at t2;exact t2,us,cz,rfl⟩,?_⟩;refine hT.Sw j hy (hk.mono λ k _ hh=>by subst hh;rfl) (It.rd (some ⟨t.1,0,none⟩) us) ?_ ?_
        ·show Rd w' _ us;rcases aI with ⟨hl,⟨hh,_⟩ | ⟨q,eJ,e1,dG,_,_,_,dk⟩⟩
         ·cases hh
         ·cases e1;rw [hg] at dG;cases dG;have:=(Rd.Av aS).take (n*sz);rwa [dk] at this
        ·intro k hk;left;cases us with
         | nil=>cases hk
         | cons x xs=>exact hk
     | _=>exact bE.elim
    ·cases he
   ·cases he
 ·cases he
def AdA(P:Program)(t:TypeId)(l c:Option Value)(S:AS):Option (Value × AS) :=
 match LO P t,l,c with
 | some (e,sz,bytes,z),some (.int _ l),some (.int _ c) =>
  bif decide (0<=l) && decide (l<=c) && decide ((bytes:Int)*c<=281474976710656) && decide (c<9223372036854775807) && Ai3 z.cells.size sz && LN z.cells.toList then
   (bif LN ((madeCells z.cells (c.toNat*sz)).toList.take (l.toNat*sz)) then some (.slice (some ⟨S.nx+CV,0,none⟩) l.toNat c.toNat,⟨S.nx+1,.row (S.nx+CV) e sz l.toNat ((madeCells z.cells (c.toNat*sz)).toList.take (l.toNat*sz)) (some c.toNat) :: S.H⟩) else none) else none
 | _,_,_=>none
theorem AdB{S S':AS}(hS:SR g w0 w S){t:TypeId}{e e':Operand->Option Value}(h:ER g e e'){x y:Operand}{v:Value}(he:AdA P t (e x) (e y) S=some (v,S')){f:Value->World->Prop}(hf:Fv S.nx g w0 v S'.H f) :
  ∃ c d,e' x=some c/\e' y=some d/\Dc P (Instr.makeSlice t c d) f w:=by
 unfold AdA at he;split at he
 ·rename_i e0 sz bytes z kl l kc c hT hl hc;obtain⟨u,hu,hr⟩:=h _ _ hl;obtain⟨u',dI,bE⟩:=h _ _ hc;simp only [R] at hr bE;subst hr;subst bE;refine⟨_,_,hu,dI,?_⟩;have h1:=(AJ he).1
  replace he:=(AJ he).2
  have h2:=(AJ he).1
  replace he:=(AJ he).2
  simp only [AjY,AjI] at he;obtain⟨rfl,rfl⟩:=he;simp only [Ai6,decide_eq_true_eq] at h1;obtain⟨⟨⟨⟨⟨a1,a2⟩,a3⟩,a4⟩,a5⟩,a6⟩:=h1;refine MJ hT a1 a2 a3 (by omega) λ b w' b1 b2 b3=>?_;obtain⟨fg,L,hL,dE⟩:=id hS;have aI:Row w' e0 sz (some ⟨b,0,none⟩) l.toNat c.toNat ((madeCells z.cells (c.toNat*sz)).toList.take (l.toNat*sz)):=by
   refine⟨?_,.inr ⟨b,_,rfl,b3,by omega,by omega,by rw [Jq],rfl⟩⟩;rw [List.length_take,Array.length_toList,Jq];exact Nat.min_eq_left (Nat.mul_le_mul_right _ (by omega))
  refine hf _ _ w' (.inr ⟨_,rfl⟩) (Abd _ (b,c.toNat,default) (by omega) (by omega)) ?_;refine⟨_ :: L,⟨⟨(b,c.toNat,default),C0 _,Fo _ _,_,(MT _ h2).2 rfl,rfl,λ k hk=>by cases hk;rfl⟩,Kx (Le.up fg _) hL⟩,?_⟩;exact dE.add b2 (It.row e0 sz (some ⟨b,0,none⟩) l.toNat c.toNat _) aI λ k hk=>by cases hk;exact b1
 ·cases he
end
section
variable {P:Program}{g:Sg}{w0 w:World}
def Jf(s:ByteArray):List (ByteArray × Value × Nat)->Nat->Option Nat
 | [],_=>none
 | x :: es,i=>bif Au s x.1 then some i else Jf s es (i+1)
theorem K5(s:ByteArray):∀(es:List (ByteArray × Value × Nat)) (us:List Value) (i:Nat),us.length=es.length ->
  Instr.findNow .string (.string s) (E5 es us) i=some ((Jf s es i).map λ j=>(j,us.getD (j-i) undef))/\∀ j,Jf s es i=some j->i<=j/\j-i<es.length
 | [],us,i,h=>by simp [E5,Instr.findNow,Jf]
 | x :: es,[],i,h=>by simp at h
 | x :: es,u :: us,i,h=>by
  simp only [List.length_cons,Nat.add_right_cancel_iff] at h;obtain⟨h1,h2⟩:=K5 s es us (i+1) h;have e:(s==x.1)=Au s x.1:=by rw [JS,Aw]
  unfold Jf;simp only [E5,Instr.findNow,Instr.sameNow];rw [e];cases hb:Au s x.1 with
  | true=>exact⟨by simp,λ j hj=>by simp only [cond_true,AjY] at hj;subst hj;simp⟩
  | false =>
   simp only [cond_false];refine⟨?_,λ j hj=>?_⟩
   ·rw [h1];cases hf:Jf s es (i+1) with
    | none=>rfl
    | some j =>
     obtain⟨h3,h4⟩:=h2 j hf;simp only [Aj0];rw [show j-i=(j-(i+1))+1 by omega,List.getD_cons_succ]
   ·obtain⟨h3,h4⟩:=h2 j hj;simp only [List.length_cons];omega
def Aa4(P:Program)(t:TypeId):Option (TypeId × Value) :=
 match P.underlying t with
 | some (.map k e)=>(match P.underlying k with
  | some .string=>(match zeroOf P e with
   | some z=>some (k,z)
   | none=>none)
  | _=>none)
 | _=>none
theorem TX{t k:TypeId}{z:Value}(h:Aa4 P t=some (k,z)):∃ e,P.underlying t=some (.map k e)/\P.underlying k=some .string/\∀ w,(zeroValue e).run P w=.ok z w:=by
 unfold Aa4 at h;split at h
 ·rename_i k' e hu;split at h
  ·rename_i hk;split at h
   ·rename_i z' hz;simp only [AjY,AjI] at h;obtain⟨rfl,rfl⟩:=h;refine⟨e,hu,hk,λ w=>?_⟩;unfold zeroOf at hz;split at hz
    ·rename_i i hi;simp [zeroValue,typeInfo,hi,hz]
    ·cases hz
   ·cases h
  ·cases h
 ·cases h
def QS(S:AS):Option (Value × AS):=some (.map (some (S.nx+CV)),⟨S.nx+1,.mp (S.nx+CV) [] 0 :: S.H⟩)
theorem WV{t:TypeId}{S S':AS}{v:Value}(he:QS S=some (v,S'))(hS:SR g w0 w S){f:Value->World->Prop}(hf:Fv S.nx g w0 v S'.H f):Dc P (Instr.makeMap t none) f w:=by
 simp only [QS,AjY,AjI] at he;obtain⟨rfl,rfl⟩:=he;obtain⟨hn,L,hL,hT⟩:=hS;have aF:(Instr.makeMap t none).run P w=.ok (.map (some w.heap.size)) (w.alloc (.map #[] 0)):=rfl;unfold Dc;rw [aF];refine hf _ _ _ (.inr ⟨(w.heap.size,0,default),rfl⟩) (by simp only [R];exact⟨_,YO _ _,rfl⟩) ?_;exact⟨It.obj w.heap.size (.map #[] 0) :: L,⟨⟨_,C0 _,Fo _ _,[],by simp [RL],rfl⟩,Kx (Le.up hn _) hL⟩,hT.add ((Below.refl _ w).alloc (Ajx _) _) _ (heap_alloc_new w _) (λ k hk=>by cases hk;exact Ajx _)⟩
def U0(P:Program)(t:TypeId)(x i:Option Value)(ok:Bool)(S:AS):Option (Value × AS) :=
 match Aa4 P t,x,i with
 | some (_,z),some (.map (some b)),some (.string s)=>(match SM b S.H 0 with
  | some (_,.mp _ es _)=>(match Jf s es 0 with
   | some j=>(match es[j]? with
    | some y=>some (bif ok then .tuple ⟨[y.2.1,.bool true]⟩ else y.2.1,S)
    | none=>none)
   | none=>bif pl z then some (bif ok then .tuple ⟨[z,.bool false]⟩ else z,S) else none)
  | _=>none)
 | _,_,_=>none
theorem Agp{S:AS}(hS:SQ g w0 w S.H){b j:Nat}{b':Nat}{es:List (ByteArray × Value × Nat)}{ck:Nat}(hf:SM b S.H 0=some (j,.mp b' es ck)){c:Value}(hr:R g (.map (some b)) c) :
  ∃ s us L,CV<=b/\Ij g b=some s/\b'=b/\c=.map (some s.1)/\RL g (es.map (·.2.1)) us/\w.heap[s.1]?=some (.map (E5 es us).toArray ck)/\HR g S.H L/\ST w0 w L/\L[j]?=some (It.obj s.1 (.map (E5 es us).toArray ck)):=by
 obtain⟨f1,f2⟩:=W7 hf;obtain⟨L,hL,hT⟩:=hS;obtain⟨y,hy,s,s1,s2,us,cy,rfl⟩:=Kj hL f1;rw [f2] at s1 s2;simp only [R] at hr;obtain⟨c',hc,rfl⟩:=hr;rw [Ff s1 s2] at hc;cases hc;exact⟨s,us,L,s1,s2,f2,rfl,cy,hT.get j hy,hL,hT,hy⟩
theorem Uj{n:Nat}{e:Bool}{k:TypeId}(hk:P.underlying k=some .string)(s:ByteArray)(w:World):(Instr.checkKey e (n+1) k (.string s)).run P w=.ok () w:=by
 simp [Instr.checkKey,underlying,hk]
theorem run_findKey{k:TypeId}(hk:P.underlying k=some .string){s:ByteArray}{l:List MapEntry}{r:Option (Nat × Value)}(h:Instr.findNow .string (.string s) l 0=some r)(w:World):(Instr.findKey k (.string s) l).run P w=.ok r w:=by
 simp [Instr.findKey,underlying,hk,h]
theorem Qj{b ck:Nat}{es:Array MapEntry}(h:w.heap[b]?=some (.map es ck)):(getObj b).run P w=.ok (.map es ck) w:=by
 simp [getObj,Sem.run,h]
theorem Zc{t:TypeId}{ok:Bool}{S S':AS}{v:Value}{e e':Operand->Option Value}(h:ER g e e'){x i:Operand}(he:U0 P t (e x) (e i) ok S=some (v,S'))(hS:SR g w0 w S){f:Value->World->Prop}(hf:Fv S.nx g w0 v S'.H f) :
  ∃ c d,e' x=some c/\e' i=some d/\Dc P (Instr.lookup t c d ok) f w:=by
 unfold U0 at he;split at he
 ·rename_i k z b s nP hx hi;obtain⟨c,hc,hr⟩:=h _ _ hx;obtain⟨d,hd,bU⟩:=h _ _ hi;simp only [R] at bU;subst bU;refine⟨c,_,hc,hd,?_⟩;obtain⟨el,hu,hk,hz⟩:=TX nP;split at he
  ·rename_i j b' es ck df;obtain⟨sg,us,L,s1,s2,rfl,rfl,cy,c9,_⟩:=Agp hS.2 df hr;have hlen:us.length=es.length:=by have:=Fe cy;simpa using this
   obtain⟨h1,h2⟩:=K5 s es us 0 hlen;have aF:∀ r,(Jf s es 0).map (λ j=>(j,us.getD (j-0) undef))=r->(Instr.lookup t (.map (some sg.1)) (.string s) ok).run P w=.ok (match r with
     | some (_,v)=>(if ok then .tuple #[v,.bool true] else v)
     | none=>(if ok then .tuple #[z,.bool false] else z)) w:=by
    intro r hr;rw [hr] at h1;unfold Instr.lookup;have jr:(Instr.checkKey (E5 es us).isEmpty 10000 k (.string s)).run P w=.ok () w:=Uj (n:=9999) hk s w;have gi:(Instr.findKey k (.string s) (E5 es us)).run P w=_:=run_findKey (P:=P) hk (by simpa using h1) w;cases r with
    | none=>simp [underlying,hu,Qj c9,jr,gi,hz]
    | some p=>simp [underlying,hu,Qj c9,jr,gi]
   unfold Dc;split at he
   ·rename_i jj hj;split at he
    ·rename_i y hy;simp only [AjY,AjI] at he;obtain⟨rfl,rfl⟩:=he;obtain⟨u,gR,gx⟩:=Wm cy jj (x:=y.2.1) (by simp [hy]);rw [aF _ rfl,hj];have sq:us.getD (jj-0) undef=u:=by simp [List.getD_eq_getElem?_getD,gR]
     simp only [Aj0,sq];refine hf g _ w (.inl rfl) ?_ hS.2;cases ok with
     | true=>simp only [cond_true,if_true,R,RA,RL];exact⟨gx,trivial,trivial⟩
     | false=>simpa using gx
    ·cases he
   ·rename_i hj;have hp:=(AJ he).1
    replace he:=(AJ he).2
    simp only [AjY,AjI] at he;obtain⟨rfl,rfl⟩:=he;rw [aF _ rfl,hj];simp only [Option.map_none];refine hf g _ w (.inl rfl) ?_ hS.2;cases ok with
    | true=>simp only [cond_true,if_true,R,RA,RL];exact⟨(PJ _ hp).2 rfl,trivial,trivial⟩
    | false=>simpa using (PJ _ hp).2 rfl
  ·cases he
 ·cases he
def U2(P:Program)(t:TypeId)(m i x:Option Value)(S:AS):Option AS :=
 match Aa4 P t,m,i,x with
 | some _,some (.map (some b)),some (.string s),some v=>(match SM b S.H 0 with
  | some (j,.mp _ es ck)=>(match Jf s es 0 with
   | some n=>(match es[n]? with
    | some y=>some ⟨S.nx,S.H.set j (.mp b (es.set n (s,v,y.2.2)) ck)⟩
    | none=>none)
   | none=>some ⟨S.nx,S.H.set j (.mp b (es++[(s,v,ck)]) (ck+1))⟩)
  | _=>none)
 | _,_,_,_=>none
theorem Xz:∀ {es:List (ByteArray × Value × Nat)} {us:List Value} (s:ByteArray) (v u:Value) (n:Nat),us.length=es.length->E5 (es++[(s,v,n)]) (us++[u])=E5 es us++[{ key:=.string s,val:=u,born:=n }]
 | [],[],_,_,_,_,_=>rfl
 | [],_ :: _,_,_,_,_,h=>by simp at h
 | _ :: _,[],_,_,_,_,h=>by simp at h
 | x :: es,y :: us,s,v,u,n,h=>by
  simp only [List.cons_append,E5,List.cons.injEq,true_and];exact Xz s v u n (by simpa using h)
theorem XA:∀ {es:List (ByteArray × Value × Nat)} {us:List Value} (n:Nat) (s:ByteArray) (v u:Value) {y:ByteArray × Value × Nat},us.length=es.length->es[n]?=some y ->
  E5 (es.set n (s,v,y.2.2)) (us.set n u)=(E5 es us).modify n (λ e=>{ e with key:=.string s,val:=u })/\((E5 es us)[n]?).map (·.key)=some (.string y.1)
 | [],_,n,_,_,_,_,_,hy=>by simp at hy
 | _ :: _,[],_,_,_,_,_,h,_=>by simp at h
 | x :: es,z :: us,0,s,v,u,y,h,hy=>by simp at hy;subst hy;simp [E5]
 | x :: es,z :: us,n+1,s,v,u,y,h,hy=>by
  have:=XA (es:=es) (us:=us) n s v u (by simpa using h) (by simpa using hy);simp [E5];exact⟨by simpa using this.1,by simpa using this.2⟩
theorem W2(s:ByteArray):∀ {es:List (ByteArray × Value × Nat)} {i n:Nat},Jf s es i=some n->i<=n/\∃ y,es[n-i]?=some y/\y.1=s
 | [],_,_,h=>by cases h
 | x :: es,i,n,h=>by
  unfold Jf at h;cases hb:Au s x.1 with
  | true =>
   rw [hb] at h;simp only [cond_true,AjY] at h;subst h;rw [Aw,decide_eq_true_eq] at hb;exact⟨Ajx _,x,by simp,hb.symm⟩
  | false =>
   rw [hb] at h;obtain⟨h1,y,h2,h3⟩:=W2 s h;refine⟨by omega,y,?_,h3⟩;rw [show n-i=(n-(i+1))+1 by omega];simpa using h2
theorem Zd{t:TypeId}{S S':AS}{e e':Operand->Option Value}(h:ER g e e'){m i x:Operand}(he:U2 P t (e m) (e i) (e x) S=some S')(hS:SR g w0 w S){k:World->Prop}(hk:∀ w',SQ g w0 w' S'.H->k w') :
  GX (e' m) λ u=>GX (e' i) λ v=>GX (e' x) λ y=>OPU P (Instr.mapUpdate t u v y) k w:=by
 unfold U2 at he;split at he
 ·rename_i kz b s v nP hm hi hx;obtain⟨c,hc,hr⟩:=h _ _ hm;obtain⟨d,hd,bU⟩:=h _ _ hi;obtain⟨u,hu,gx⟩:=h _ _ hx;simp only [R] at bU;subst bU;rw [hc,hd,hu];simp only [GX];obtain⟨kt,z⟩:=kz;obtain⟨el,hut,fI,hz⟩:=TX nP;split at he
  ·rename_i j b' es ck df;obtain⟨sg,us,L,s1,s2,rfl,rfl,cy,c9,hL,hT,hj⟩:=Agp hS.2 df hr;have hlen:us.length=es.length:=by have:=Fe cy;simpa using this
   obtain⟨h1,h2⟩:=K5 s es us 0 hlen;have jr:=Uj (P:=P) (n:=9999) (e:=false) fI s w;have cY:∀(o:Obj),(setObj sg.1 o).run P w=.ok () (w.putObj sg.1 o):=by
    intro o;simp [setObj,Sem.run,c9,World.putObj]
   unfold OPU;split at he
   ·rename_i n hn;split at he
    ·rename_i y hy;simp only [AjY] at he;subst he;obtain⟨_,y',iA,gS⟩:=W2 s hn;rw [Nat.sub_zero,hy] at iA;cases iA;obtain⟨q1,q2⟩:=XA (us:=us) n s v u hlen hy;have gi:=run_findKey (P:=P) fI (l:=(E5 es us).toArray.toList) (by simpa using h1) w;rw [hn] at gi;have dQ:(Instr.keyThatStays (.string y.1) (.string s)).run P w=.ok (.string s) w:=by
      have:Instr.sameBits 10000 (.string y.1) (.string s)=true:=by
       rw [gS];simp [Instr.sameBits,JS]
      simp [Instr.keyThatStays,this]
     have aF:(Instr.mapUpdate t (.map (some sg.1)) (.string s) u).run P w=.ok () (w.putObj sg.1 (.map (E5 (es.set n (s,v,y.2.2)) (us.set n u)).toArray ck)):=by
      unfold Instr.mapUpdate;have e1:(((E5 es us).toArray[n]?).map (·.key)).getD (.string s)=.string y.1:=by simp [q2]
      have e2:(E5 es us).toArray.modify n (λ e=>{ e with key:=.string s,val:=u })=(E5 (es.set n (s,v,y.2.2)) (us.set n u)).toArray:=by rw [q1];simp
      simp only [Sem.run_bind,run_underlying hut,Result.andThen_ok,Qj c9,jr,gi,Aj0,e1,dQ,e2,cY]
     rw [aF];refine hk _ ⟨_,HB j hL ⟨sg,s1,s2,us.set n u,?_,rfl⟩,hT.put j hj _⟩;rw [List.map_set];exact Qx n cy gx
    ·cases he
   ·rename_i hn;simp only [AjY] at he;subst he;have gi:=run_findKey (P:=P) fI (l:=(E5 es us).toArray.toList) (by simpa using h1) w;rw [hn] at gi;have aF:(Instr.mapUpdate t (.map (some sg.1)) (.string s) u).run P w=.ok () (w.putObj sg.1 (.map (E5 (es++[(s,v,ck)]) (us++[u])).toArray (ck+1))):=by
     unfold Instr.mapUpdate;have e2:(E5 es us).toArray.push { key:=.string s,val:=u,born:=ck }=(E5 (es++[(s,v,ck)]) (us++[u])).toArray:=by rw [Xz s v u ck hlen];simp
     simp only [Sem.run_bind,run_underlying hut,Result.andThen_ok,Qj c9,jr,gi,Option.map_none,e2,cY]
    rw [aF];refine hk _ ⟨_,HB j hL ⟨sg,s1,s2,us++[u],?_,rfl⟩,hT.put j hj _⟩;rw [List.map_append];exact Fc cy (by simp only [Aj4,List.map_nil,RL];exact⟨gx,trivial⟩)
  ·cases he
 ·cases he
end
section
variable {P:Program}{g:Sg}{w0 w:World}
def Za(P:Program)(ts:List TypeId)(x:Value)(S:AS):Option (Value × AS) :=
 match ts,x with
 | [t],.slice (some p) l c=>(match LO P t,SM p.block S.H 0 with
  | some (e,sz,_,z),some (j,.row b e' dB n xs cx) =>
   bif Ai8 0 l && Ai8 0 sz && Ai3 e' e && Ai3 dB sz && Ai3 p.off (AjU p.off sz*sz) && p.spot.isNone && AjX CV p.block && AjX (AjU p.off sz+l) n && Ai3 c (NG-AjU p.off sz) && Ai3 z.cells.size sz && z.cells.toList.all (·.oneCell') then
    some (.tuple ⟨[]⟩,⟨S.nx,S.H.set j (.row b e sz (AjU p.off sz) (xs.take (AjU p.off sz*sz)) cx)⟩) else none
  | _,_=>none)
 | _,_=>none
theorem AbI{S S':AS}(hS:SR g w0 w S){ts:List TypeId}{x v:Value}(he:Za P ts x S=some (v,S')){u:Value}(hr:R g x u){f:Value->World->Prop}(hf:Fv S.nx g w0 v S'.H f)(ty:TypeId) :
  Dc P (Builtin.clear_ ⟨ts⟩ ty #[u]) f w:=by
 unfold Za at he;split at he
 ·rename_i t p l c;split at he
  ·rename_i e sz bytes z j b e' dB n xs cx hT df;have h1:=(AJ he).1
   replace he:=(AJ he).2
   simp only [AjY,AjI] at he;obtain⟨rfl,rfl⟩:=he;simp only [Ai6,AjV] at h1;obtain⟨⟨⟨⟨⟨⟨⟨⟨⟨⟨b1,b2⟩,b3⟩,b4⟩,b5⟩,b6⟩,b7⟩,b8⟩,b9⟩,dD⟩,lE⟩:=h1;have b1:=DF b1;have b2:=DF b2;have b3:=Ai7 b3;have b4:=Ai7 b4;have b5:=Ai7 b5;have b9:=Ai7 b9;have dD:=Ai7 dD;subst b3;subst b4;generalize nI:AjU p.off dB=k at *;obtain⟨f1,f2⟩:=W7 df;obtain⟨_,L,hL,dE⟩:=id hS;obtain⟨y,hy,s,s1,s2,us,s3,rfl,s4⟩:=Kj hL f1;have hid:(AI.row b e' dB n xs cx).id=p.block:=f2;obtain⟨a',c',rfl,_,had,dY⟩:=JM (show IL g (some p) l c u from hr) b1;have aI:=dE.rw j hy;have av:n<=s.2.1/\s.2.1<=9223372036854775807:=by
    rcases aI.2 with ⟨hh,_⟩ | ⟨_,_,_,_,h5,h6,_⟩
    ·cases hh
    ·exact⟨h5,h6⟩
   rw [hid] at s1 s2;have ea:a'=⟨s.1,k*dB,none⟩:=by
    unfold ad at had;rw [Ff s1 s2] at had;simp only [Aj0,AjY] at had;rw [<- had,b5];cases da:p.spot with
    | none=>rfl
    | some _=>simp [da] at b6
   have ec:c'=s.2.1-k:=by
    unfold cp at dY;rw [b9,if_neg (by unfold NG;omega),if_neg (by omega),s2] at dY;simp only [Aj0,AjY] at dY;rw [<- dY];unfold NG;omega
   obtain⟨w',aF,hrow',hkeep⟩:=UO (P:=P) hT dD (λ v hv=>AjW.1 lE v hv) (aI.front (i:=k) (by omega)) (h:=k+l) (by omega) (by omega);have gQ:BD (some ⟨s.1,0,none⟩) k s.2.1 dB=some ⟨s.1,k*dB,none⟩:=by
    rw [IX,if_neg (by omega),Ar,Ajp]
   rw [gQ,show k+l-k=l by omega] at aF;rw [ea,ec];unfold Dc;rw [show (Builtin.clear_ (⟨[t]⟩:Array TypeId) ty #[Value.slice (some ⟨s.1,k*dB,none⟩) l (s.2.1-k)])=Builtin.clear_ #[t] 0 #[Value.slice (some ⟨s.1,k*dB,none⟩) l (s.2.1-k)] from rfl,aF];refine hf g _ w' (.inl rfl) (by simp only [R,RA,RL]) ⟨_,HB j hL ⟨s,?_,?_,us.take (k*dB),GK _ s3,rfl,s4⟩,dE.Sw j hy hkeep (It.row e' dB (some ⟨s.1,0,none⟩) k s.2.1 (us.take (k*dB))) hrow' (λ k hk=>.inl hk)⟩
   ·rw [<- hid] at s1;exact s1
   ·rw [<- hid] at s2;exact s2
  ·cases he
 ·cases he
end
inductive Tgt where
 | fn (f:FuncId)
 | yl (l:Nat)
structure YE where
 l:Nat
 n:Nat
 ps:List Nat
 UH:Code
 body:Code
 fr:Ft
abbrev YT:=List YE
abbrev XF:=Tgt->List Value->YT->AS->Option (Value × AS)
def AeX(g:Sg)(y:YE):Prop:=∃ s:Nat × Nat × Loop,CV<=y.l/\Ij g y.l=some s/\s.2.2.params.toList=y.ps/\s.2.2.assign=y.UH/\s.2.2.body=y.body/\s.2.2.tmps.size=y.n/\∃ frc,FR g y.fr frc/\AF frc ⟨s.2.2.tmps,[]⟩
def UE(g:Sg)(Y:YT):Prop:=∀ y∈Y,AeX g y
def Ext(n n':Nat)(g g':Sg):Prop:=Le g g'/\(∀ i,i<n->g' i=g i)/\n<=n'
theorem Ext.refl(n:Nat)(g:Sg):Ext n n g g:=⟨Le.refl _,λ _ _=>rfl,Ajx _⟩
theorem Ext.trans{n m k:Nat}{a b c:Sg}(h:Ext n m a b)(h':Ext m k b c):Ext n k a c:=⟨h.1.trans h'.1,λ i hi=>(h'.2.1 i (Nat.lt_of_lt_of_le hi h.2.2)).trans (h.2.1 i hi),Nat.le_trans h.2.2 h'.2.2⟩
def SX(g:Sg)(w0 w:World)(S:AS):Prop:=(∀ i,S.nx<=i->g i=none)/\SQ g w0 w S.H
theorem SX.sr{g:Sg}{w0 w:World}{S:AS}(h:SX g w0 w S):SR g w0 w S:=⟨h.1 _ (Ajx _),h.2⟩
theorem SX.up{g:Sg}{w0 w w':World}{S:AS}(h:SX g w0 w S){g':Sg}(hg:g'=g\/∃ s,g'=up g S.nx s){H:List AI}(hq:SQ g' w0 w' H):SX g' w0 w' ⟨S.nx+1,H⟩/\Ext S.nx (S.nx+1) g g':=by
 rcases hg with rfl | ⟨s,rfl⟩
 ·exact⟨⟨λ i hi=>h.1 i (by simp only at hi;omega),hq⟩,Le.refl _,λ _ _=>rfl,Nat.le_succ _⟩
 ·refine⟨⟨λ i hi=>?_,hq⟩,Le.up h.sr.1 s,λ i hi=>by unfold Dn.up;rw [if_neg (by omega)],Nat.le_succ _⟩;simp only at hi;unfold Dn.up;rw [if_neg (by omega)];exact h.1 i (by omega)
def XOK(P:Program)(G:GT)(X:XF):Prop:=∀ t args Y S v S',X t args Y S=some (v,S')->∀ g w0 w aJ,SX g w0 w S->IE G w0->RL g args aJ->UE g Y ->
 (match t with
 | .fn f=>Calls P f ⟨aJ⟩ w (λ e w'=>∃ c g',e=.returned c/\Ext S.nx S'.nx g g'/\R g' v c/\SX g' w0 w' S')
 | .yl l=>∀ lc,bk g l=some lc->J3 P lc ⟨aJ⟩ (λ b w'=>∃ g',Ext S.nx S'.nx g g'/\v=.bool b/\SX g' w0 w' S') w)
section
variable {P:Program}{g:Sg}{w0 w:World}
theorem UE.le{g':Sg}{Y:YT}(h:UE g Y)(hl:Le g g'):UE g' Y:=λ y hy=>by
 obtain⟨s,h1,h2,h3,h4,h5,h6,frc,h9,mA⟩:=h y hy;exact⟨s,h1,hl.at h2,h3,h4,h5,h6,frc,h9.le hl,mA⟩
def chk(z:Option Value)(r:Option (Value × AS)):Option (Value × AS) :=
 match z,r with
 | some z,some (v,S)=>bif Hr z v then some (v,S) else none
 | _,_=>none
theorem Hh{z:Option Value}{r:Option (Value × AS)}{v:Value}{S:AS}(h:chk z r=some (v,S)):∃ zz,z=some zz/\r=some (v,S)/\Hr zz v=true:=by
 unfold chk at h;split at h
 ·rename_i zz v' S';cases hb:Hr zz v' with
  | false=>rw [hb] at h;cases h
  | true=>rw [hb] at h;simp only [cond_true,AjY,AjI] at h;obtain⟨rfl,rfl⟩:=h;exact⟨zz,rfl,rfl,hb⟩
 ·cases h
def Y6(P:Program)(G:GT)(e:Operand->Option Value)(o:Oper)(S:AS):Option (Value × AS) :=
 match o.op with
 | .alloc t=>Y7 P t S
 | .box t x=>AhY (e x) t S
 | .buildSlice t len parts=>Jc P e t len parts.toList S
 | .store t a x=>(match QT P t (e a) (e x) S with
  | some S'=>some (undef,S')
  | none=>none)
 | .call c=>(match c.callee with
  | .builtin .append=>(match c.args.toList with
   | [x,y]=>(match e x,e y with
    | some u,some v=>chk (zeroOf P o.type) (HO P G c.argTypes.toList u v S)
    | _,_=>none)
   | _=>none)
  | .builtin .clear=>(match c.args.toList with
   | [x]=>(match e x with
    | some u=>chk (zeroOf P o.type) (Za P c.argTypes.toList u S)
    | _=>none)
   | _=>none)
  | _=>none)
 | .convert s d x=>chk (zeroOf P o.type) (Adu P G s d (e x) S)
 | .makeSlice t l c=>chk (zeroOf P o.type) (AdA P t (e l) (e c) S)
 | .makeMap _ none=>chk (zeroOf P o.type) (QS S)
 | .lookup t x i ok=>chk (zeroOf P o.type) (U0 P t (e x) (e i) ok S)
 | .mapUpdate t m i x=>(match U2 P t (e m) (e i) (e x) S with
  | some S'=>some (undef,S')
  | none=>none)
 | _=>none
def AhZ(P:Program)(d:Bool)(f:FuncId)(args:List Value)(z:Value)(S:AS):Option (Value × AS) :=
 bif d then none else bif LN args then (match Az P (callFunc f ⟨args⟩) with
  | some (.value v)=>bif pl v && Ro false z v then some (v,S) else none
  | _=>none) else none
def TF(P:Program)(X:XF)(e:Operand->Option Value)(o:Oper)(Y:YT)(S:AS):Option (Value × AS) :=
 match o.op with
 | .call c=>(match c.callee with
  | .value f=>(match Hj e c.args.toList,zeroOf P o.type,e f with
   | some vs,some z,some (.func (.func fn) fi ca)=>bif enters P fn then (match X (.fn fn) (fi.toList++vs++ca.toList) Y S with
    | some (v,S')=>bif Ro (Re f) z v then some (v,S') else none
    | none=>none) else AhZ P (Re f) fn (fi.toList++vs++ca.toList) z S
   | some vs,some _,some (.func (.yield l) fi ca)=>bif fi.toList.isEmpty && ca.toList.isEmpty then X (.yl l) vs Y S else none
   | _,_,_=>none)
  | _=>none)
 | _=>none
def Jl(o:Oper):Bool :=
 match o.op with
 | .call c=>(match c.callee with | .value _=>true | _=>false)
 | _=>false
def OP(P:Program)(G:GT)(X:XF)(e:Operand->Option Value)(o:Oper)(Y:YT)(S:AS):Option (Value × AS) :=
 bif Jl o then TF P X e o Y S else match Y6 P G e o S with
  | some (v,S')=>some (v,⟨S.nx+1,S'.H⟩)
  | none=>none
theorem Tt{s:Sem Value}{z v:Value}{n:Nat}{H:List AI}{k:Value->World->Prop}(hz:Hr z v=true)(hk:Fv n g w0 v H k)(h:∀ f,Fv n g w0 v H f->Dc P s f w):V3 P s z k w :=
 AgG (h _ λ g' c w' h1 h2 h3=>Aar hz h2 ⟨rfl,hk g' c w' h1 h2 h3⟩)
theorem AaF{G:GT}(hG:IE G w0){e e':Operand->Option Value}(h:ER g e e'){o:Oper}{S S':AS}{v:Value}(he:Y6 P G e o S=some (v,S'))(hS:SR g w0 w S){k:Value->World->Prop}(hk:Fv S.nx g w0 v S'.H k) :
  Ko P none e' o k w:=by
 obtain⟨dst,op,type,pos,after,guard⟩:=o;unfold Y6 at he;unfold Ko;cases op with
 | alloc t =>
  obtain⟨z,hz,hn⟩:=AbG he hS hk;simp only [hz];exact hn
 | box t x =>
  simp only [AhY] at he;split at he
  ·rename_i u hu;simp only [AjY,AjI] at he;obtain⟨rfl,rfl⟩:=he;obtain⟨c,hc,hr⟩:=h _ _ hu;simp only [hc,GX];exact hS.Aij (UJ hr) hk
  ·cases he
 | buildSlice t len parts=>exact QQ h rfl he hS hk
 | store t a x =>
  simp only at he;split at he
  ·rename_i S2 hs;simp only [AjY,AjI] at he;obtain⟨rfl,rfl⟩:=he;exact AbP h hs hS λ w' dc=>hk g _ w' (.inl rfl) (by simp [undef,R,RA,RL]) dc
  ·cases he
 | call c =>
  obtain⟨callee,args,ats⟩:=c;simp only at he ⊢;split at he
  ·split at he
   ·rename_i x y sx;split at he
    ·rename_i u v' hu hv;obtain⟨z,hz,he,d'⟩:=Hh he;obtain⟨c,hc,hr⟩:=h _ _ hu;obtain⟨d,hd,bE⟩:=h _ _ hv;have ea:args=#[x,y]:=by cases args;simp_all
     subst ea;have bY:known e' ⟨dst,.call ⟨.builtin .append,#[x,y],ats⟩,type,pos,after,guard⟩=true:=by simp [known,Op.operands,Call.operands,hc,hd]
     simp only [bY,cond_true,hz];refine Tt d' hk λ f hf=>?_;have:=Y8 hG hS he hr bE hf type;simpa [KD,hc,hd] using this
    ·cases he
   ·cases he
  ·split at he
   ·rename_i x sx;split at he
    ·rename_i u hu;obtain⟨z,hz,he,d'⟩:=Hh he;obtain⟨c,hc,hr⟩:=h _ _ hu;have ea:args=#[x]:=by cases args;simp_all
     subst ea;have bY:known e' ⟨dst,.call ⟨.builtin .clear,#[x],ats⟩,type,pos,after,guard⟩=true:=by simp [known,Op.operands,Call.operands,hc]
     simp only [bY,cond_true,hz];refine Tt d' hk λ f hf=>?_;have:=AbI hS he hr hf type;simpa [KD,hc] using this
    ·cases he
   ·cases he
  ·cases he
 | convert s d x =>
  obtain⟨z,hz,he,d'⟩:=Hh he;simp only at hz;have key:∀ f,Fv S.nx g w0 v S'.H f->∃ c,e' x=some c/\Dc P (convert s d c) f w:=λ f hf=>Adv hG hS h he hf;obtain⟨c,hc,_⟩:=key (λ _ _=>True) (λ _ _ _ _ _ _=>trivial);simp only [hc,GX,hz];refine Tt d' hk λ f hf=>?_;obtain⟨c',dF,hh⟩:=key f hf;rw [hc] at dF;cases dF;exact hh
 | makeSlice t l c =>
  obtain⟨z,hz,he,d'⟩:=Hh he;simp only at hz;have key:∀ f,Fv S.nx g w0 v S'.H f->∃ a b,e' l=some a/\e' c=some b/\Dc P (Instr.makeSlice t a b) f w:=λ f hf=>AdB hS h he hf;obtain⟨a,b,ha,hb,_⟩:=key (λ _ _=>True) (λ _ _ _ _ _ _=>trivial);simp only [ha,hb,GX,hz];refine Tt d' hk λ f hf=>?_;obtain⟨a',b',du,fG,hh⟩:=key f hf;rw [ha] at du;rw [hb] at fG;cases du;cases fG;exact hh
 | makeMap t r =>
  cases r with
  | some _=>simp at he
  | none =>
   obtain⟨z,hz,he,d'⟩:=Hh he;simp only at hz;simp only [hz];exact Tt d' hk λ f hf=>WV he hS hf
 | lookup t x i ok =>
  obtain⟨z,hz,he,d'⟩:=Hh he;simp only at hz;have key:∀ f,Fv S.nx g w0 v S'.H f->∃ a b,e' x=some a/\e' i=some b/\Dc P (Instr.lookup t a b ok) f w:=λ f hf=>Zc h he hS hf;obtain⟨a,b,ha,hb,_⟩:=key (λ _ _=>True) (λ _ _ _ _ _ _=>trivial);simp only [ha,hb,GX,hz];refine Tt d' hk λ f hf=>?_;obtain⟨a',b',du,fG,hh⟩:=key f hf;rw [ha] at du;rw [hb] at fG;cases du;cases fG;exact hh
 | mapUpdate t m i x =>
  simp only at he;split at he
  ·rename_i S2 hs;simp only [AjY,AjI] at he;obtain⟨rfl,rfl⟩:=he;exact Zd h hs hS λ w' dc=>hk g _ w' (.inl rfl) (by simp [undef,R,RA,RL]) dc
  ·cases he
 | _=>simp at he
def YB(n:Nat)(g:Sg)(w0:World)(v:Value)(S:AS)(k:Value->World->Prop):Prop:=∀ g' c w',Ext n S.nx g g'->R g' v c->SX g' w0 w' S->k c w'
theorem WR{G:GT}{X:XF}(hX:XOK P G X)(hG:IE G w0){e e':Operand->Option Value}(h:ER g e e'){o:Oper}{Y:YT}{S S':AS}{v:Value}(he:TF P X e o Y S=some (v,S'))(hS:SX g w0 w S)(hY:UE g Y){k:Value->World->Prop}(hk:YB S.nx g w0 v S' k) :
  Ko P none e' o k w:=by
 obtain⟨dst,op,type,pos,after,guard⟩:=o;unfold TF at he;unfold Ko;cases op with
 | call c =>
  obtain⟨callee,args,ats⟩:=c;simp only at he ⊢;split at he
  ·rename_i fo;simp only at he ⊢;split at he
   ·rename_i vs z fn fi ca h1 h2 h3;obtain⟨cs,aj,hr,_,_⟩:=Mj h h1;obtain⟨c,hc,eA⟩:=h _ _ h3;obtain⟨bu,br,rfl,dh,bU⟩:=Qy eA;cases aY:enters P fn with
    | false =>
     rw [aY,cond_false] at he;unfold AhZ at he;cases hd:Re fo with
     | true=>rw [hd,cond_true] at he;cases he
     | false =>
     rw [hd,cond_false] at he;have ej:=(AJ he).1
     replace he:=(AJ he).2
     have iO:=(MT _ ej).1 (Fc (Fc dh hr) bU);split at he
     ·rename_i u hu;have cr:=(AJ he).1
      replace he:=(AJ he).2
      simp only [Ai6] at cr;simp only [AjY,AjI] at he;obtain⟨rfl,rfl⟩:=he;simp only [aj,h2,hc,Abo,aY,cond_false,AgE,hd];rw [iO,Pa _ hu w];have gx:R g u u:=(PJ _ cr.1).2 rfl;exact Aaq cr.2 gx ⟨rfl,hk g u w (Ext.refl _ _) gx hS⟩
     ·cases he
    | true =>
    rw [aY,cond_true] at he;split at he
    ·rename_i v' S2 hx;have d':=(AJ he).1
     replace he:=(AJ he).2
     simp only [AjY,AjI] at he;obtain⟨rfl,rfl⟩:=he;have:=hX _ _ _ _ _ _ hx g w0 w (bu.toList++cs++br.toList) hS hG (Fc (Fc dh hr) bU) hY;simp only [aj,h2,hc,Abo,aY,cond_true,Agd];refine Calls.mono this ?_;rintro en w' ⟨c,g',rfl,hl,jP,dc⟩;exact Aaq d' jP ⟨rfl,hk g' c w' hl jP dc⟩
    ·cases he
   ·rename_i vs z l fi ca h1 h2 h3;obtain⟨cs,aj,hr,_,_⟩:=Mj h h1;obtain⟨c,hc,eA⟩:=h _ _ h3;have aY:=(AJ he).1
    replace he:=(AJ he).2
    simp only [Ai6,Aj1] at aY;cases c with
    | func fn' bu br =>
     simp only [R,Fb,aY.1,aY.2,RL] at eA;obtain⟨⟨l',lS,rfl⟩,e1,e2⟩:=eA;have:=hX _ _ _ _ _ _ he g w0 w cs hS hG hr hY l' lS;simp only [aj,h2,hc,Abo,e1,e2,List.isEmpty_nil,Bool.and_self,cond_true];refine this.mono ?_;rintro b w' ⟨g',hl,rfl,dc⟩;exact hk g' _ w' hl (by simp [R]) dc
    | _=>simp [R] at eA
   ·cases he
  ·cases he
 | _=>simp at he
theorem WU{G:GT}{X:XF}(hX:XOK P G X)(hG:IE G w0){e e':Operand->Option Value}(h:ER g e e'){o:Oper}{Y:YT}{S S':AS}{v:Value}(he:OP P G X e o Y S=some (v,S'))(hS:SX g w0 w S)(hY:UE g Y){k:Value->World->Prop}(hk:YB S.nx g w0 v S' k) :
  Ko P none e' o k w:=by
 unfold OP at he;cases hc:Jl o with
 | true=>rw [hc,cond_true] at he;exact WR hX hG h he hS hY hk
 | false =>
  rw [hc,cond_false] at he;split at he
  ·rename_i v2 S2 ha;simp only [AjY,AjI] at he;obtain⟨rfl,rfl⟩:=he;exact AaF hG h ha hS.sr λ g' c w' h1 h2 h3=>hk g' c w' (hS.up h1 h3).2 h2 (hS.up h1 h3).1
  ·cases he
end
section
variable {P:Program}{g:Sg}{w0 w:World}
noncomputable def Fi {α:Type} (ops:Array Oper) (o:Oper) (fr:Ft) (A B:Ft->Option α):Option α :=
 match o.guard with
 | none=>A fr
 | some (j,want) =>
  match (ops[j]?).bind (·.dst) with
  | none=>none
  | some d =>
   match QW fr d with
   | some (.bool b)=>(match b with
    | true=>bif want then A fr else B fr
    | false=>bif want then B fr else A fr)
   | some (.tuple _)=>B fr
   | _=>none
theorem DX{α:Type}{ops:Array Oper}{o:Oper}{fr:Ft}{frc:Fr}{A B:Ft->Option α}{r:α}(he:Fi ops o fr A B=some r)(aL:FR g fr frc){A' B':Fr->Prop}
  (hA:∀ f f',FR g f f'->A f=some r->A' f') (hB:∀ f f',FR g f f'->B f=some r->B' f'):H0 ops o frc A' B':=by
 unfold Fi at he;unfold H0;split at he
 ·rename_i hg;rw [hg];exact hA _ _ aL he
 ·rename_i j want hg;rw [hg];split at he
  ·cases he
  ·rename_i d hd;simp only [hd];split at he
   ·rename_i b hb;obtain⟨c,hc,hr⟩:=aL _ _ (by rw [<- Hl];exact hb);simp only [R] at hr;subst hr;simp only [hc];cases b with
    | true =>
     simp only [Tp] at he ⊢;cases want with
     | true=>exact hA _ _ (aL.again hc) he
     | false=>exact hB _ _ (aL.again hc) he
    | false =>
     simp only [Tp] at he ⊢;cases want with
     | true=>exact hB _ _ (aL.again hc) he
     | false=>exact hA _ _ (aL.again hc) he
   ·rename_i vs hb;obtain⟨c,hc,hr⟩:=aL _ _ (by rw [<- Hl];exact hb);obtain⟨cs,rfl,_⟩:=Aav hr;simp only [hc];exact hB _ _ aL he
   ·cases he
noncomputable def eOp (P:Program) (G:GT) (X:XF) (fr:Ft) (o:Oper) (Y:YT) (S:AS):Option (Value × AS) :=
 match cls P o with
 | .pure=>(match eP P (eO fr) o with
  | some v=>some (v,S)
  | none=>none)
 | .read=>(match o.op with
  | .load t a=>(match OO P G S.H t (eO fr a) with
   | some (v,_)=>some (v,S)
   | none=>none)
  | _=>none)
 | .Xy=>OP P G X (eO fr) o Y S
theorem WT{G:GT}{X:XF}{e:Operand->Option Value}{o:Oper}{Y:YT}{S:AS}{r:Value × AS}(h:OP P G X e o Y S=some r)(i:Operand):o.op≠.entry i:=by
 intro ho;simp [OP,Jl,Y6,ho] at h
theorem AbA{o:Oper}{i:Operand}(ho:o.op=.entry i):cls P o=.Xy:=by
 simp [cls,BV,ho]
theorem AgW{G:GT}{X:XF}(hX:XOK P G X)(hG:IE G w0){fr:Ft}{frc:Fr}(aL:FR g fr frc){o:Oper}{Y:YT}{S S':AS}{v:Value}(he:eOp P G X fr o Y S=some (v,S'))(hS:SX g w0 w S)(hY:UE g Y){k:Value->World->Prop}(hk:YB S.nx g w0 v S' k){rest:List Oper} :
  AbD P none (D8 frc) o rest (λ v _ w'=>k v w') w:=by
 have hE:=Pq aL;have aV:∀ i,o.op≠.entry i:=by
  intro i ho;unfold eOp at he;rw [AbA ho] at he;exact WT he i ho
 have e1:AbD P none (D8 frc) o rest (λ v _ w'=>k v w') w=dOp P none (D8 frc) o (λ v _ w'=>k v w') w:=by
  unfold AbD;split
  ·rename_i i ho;exact absurd ho (aV i)
  ·rfl
 rw [e1];unfold eOp at he;unfold dOp;split at he
 ·rename_i hc;rw [hc];split at he
  ·rename_i u hu;simp only [AjY,AjI] at he;obtain⟨rfl,rfl⟩:=he;exact AdC hE hu λ c hr=>hk g c w (Ext.refl _ _) hr hS
  ·cases he
 ·rename_i hc;rw [hc];split at he
  ·rename_i t a ho;simp only [ho];split at he
   ·rename_i u hd hl;simp only [AjY,AjI] at he;obtain⟨rfl,rfl⟩:=he;exact Mh hG hS.2 hE hl λ c hc hr _=>hk g c w (Ext.refl _ _) hr hS
   ·cases he
  ·cases he
 ·rename_i hc;rw [hc];exact WU hX hG hE he hS hY hk
/-! ## The same, with fewer steps -/
def Agb(x:Option Value):Option (IntKind × Int) :=
 match x with
 | some v=>(match v with
  | .int k n=>some (k,n)
  | _=>none)
 | none=>none
def Te(x:Option Value)(S:AS):Option (Value × AS) :=
 match x with
 | some v=>some (v,S)
 | none=>none
noncomputable def AbL (P:Program) (G:GT) (X:XF) (fr:Ft) (o:Oper) (Y:YT) (S:AS):Option (Value × AS) :=
 match o.op with
 | .binOp op t x y _=>(match Agb (eO fr x) with
  | some a=>(match Agb (eO fr y) with
   | some b=>bif !(Ad0 P t) || Bx y then Te (UW op a.1 b.1 a.2 b.2) S else none
   | none=>eOp P G X fr o Y S)
  | none=>eOp P G X fr o Y S)
 | .move x=>Te (eO fr x) S
 | .assign x=>Te (eO fr x) S
 | .load t a=>(match OO P G S.H t (eO fr a) with
   | some r=>some (r.1,S)
   | none=>none)
 | .store t a x=>(match QT P t (eO fr a) (eO fr x) S with
  | some S'=>some (undef,⟨S.nx+1,S'.H⟩)
  | none=>none)
 | .fieldAddr s x f=>Te (HP P (eO fr) s x f) S
 | .indexAddr t x i=>Te (HQ P (eO fr) t x i) S
 | .index t x i=>Te (UU P (eO fr) t x i) S
 | .slice t x lo hi mx=>Te (U6 P (eO fr) t x lo hi mx) S
 | .extract x i=>Te (Mg (eO fr) x i) S
 | .field t x f=>Te (UT P (eO fr) t x f) S
 | .call c=>(match c.callee with
  | .value _=>TF P X (eO fr) o Y S
  | _=>eOp P G X fr o Y S)
 | _=>eOp P G X fr o Y S
theorem Afb{op:BinOp}{k k':IntKind}{a b:Int}{v:Value}(h:UW op k k' a b=some v):pl v=true:=by
 cases op <;> first
  | (obtain⟨h1,rfl⟩:=Bg h;rfl)
  | (simp only [UW] at h;cases hb:Bn k k' <;> simp only [hb,cond_true,cond_false] at h <;> first | (cases h;done) | (cases h;rfl) | (obtain⟨h1,rfl⟩:=QH h;rfl))
theorem Us{x:Option Value}{a:IntKind × Int}(h:Agb x=some a):x=some (.int a.1 a.2):=by
 unfold Agb at h;split at h
 ·split at h
  ·cases h;rfl
  ·cases h
 ·cases h
theorem Afe{G:GT}{X:XF}{fr:Ft}{o:Oper}{Y:YT}{S:AS}{r:Value × AS}(h:AbL P G X fr o Y S=some r):eOp P G X fr o Y S=some r:=by
 obtain⟨dst,op,type,pos,after,guard⟩:=o;have bW:∀ {op:Op} {v:Option Value},cls P ⟨dst,op,type,pos,after,guard⟩=.pure->eP P (eO fr) ⟨dst,op,type,pos,after,guard⟩=v->Te v S=some r->eOp P G X fr ⟨dst,op,type,pos,after,guard⟩ Y S=some r:=by
  intro op v h1 h2 h3;unfold eOp;rw [h1,h2];cases v with
  | none=>cases h3
  | some v=>exact h3
 cases op with
 | binOp op t x y yt =>
  simp only [AbL] at h;split at h
  ·rename_i a ha;split at h
   ·rename_i b hb;have h1:=(AJ h).1
    replace h:=(AJ h).2
    refine bW (by simp only [cls,BV,h1,cond_true]) ?_ h;have e1:=Us ha;have e2:=Us hb;simp only [eP,Ae6,e1,e2];cases hv:UW op a.1 b.1 a.2 b.2 with
    | none=>rfl
    | some v=>simp only [Afb hv,if_true]
   ·exact h
  ·exact h
 | move x=>exact bW (by simp [cls,BV]) rfl h
 | assign x=>exact bW (by simp [cls,BV]) rfl h
 | fieldAddr s x f=>exact bW (by simp [cls,BV]) rfl h
 | indexAddr t x i=>exact bW (by simp [cls,BV]) rfl h
 | index t x i=>exact bW (by simp [cls,BV]) rfl h
 | slice t x lo hi mx=>exact bW (by simp [cls,BV]) rfl h
 | extract x i=>exact bW (by simp [cls,BV]) rfl h
 | field t x f=>exact bW (by simp [cls,BV]) rfl h
 | load t a =>
  simp only [AbL] at h;unfold eOp;rw [show cls P ⟨dst,.load t a,type,pos,after,guard⟩=.read by simp [cls,BV]];simp only;cases hl:OO P G S.H t (eO fr a) with
  | none=>rw [hl] at h;cases h
  | some q=>rw [hl] at h;obtain⟨v,hd⟩:=q;exact h
 | store t a x =>
  simp only [AbL] at h;unfold eOp;rw [show cls P ⟨dst,.store t a x,type,pos,after,guard⟩=.Xy by simp [cls,BV]];simp only [OP,Jl,cond_false,Y6];cases hl:QT P t (eO fr a) (eO fr x) S with
  | none=>rw [hl] at h;cases h
  | some q=>rw [hl] at h;exact h
 | call c =>
  obtain⟨callee,args,ats⟩:=c;cases callee with
  | value f =>
   simp only [AbL] at h;unfold eOp;rw [show cls P ⟨dst,.call ⟨.value f,args,ats⟩,type,pos,after,guard⟩=.Xy by simp [cls,BV]];simp only [OP,Jl,cond_true];exact h
  | _=>exact h
 | _=>exact h
noncomputable def AbM (P:Program) (G:GT) (X:XF) (n:Nat) (ops:Array Oper) (Y:YT):List Oper->Ft->AS->Option (Ft × AS)
 | [],fr,S=>some (fr,S)
 | o :: rest,fr,S =>
  Fi ops o fr (λ fr=>match AbL P G X fr o Y S with
   | some (v,S')=>AbM P G X n ops Y rest (F9 n fr o.dst v) S'
   | none=>none) (λ fr=>AbM P G X n ops Y rest (F9 n fr o.dst undef) S)
theorem U3{G:GT}{X:XF}(hX:XOK P G X)(hG:IE G w0){n:Nat}{ops:Array Oper}{Y:YT}:∀ {l:List Oper} {fr aG:Ft} {frc:Fr} {S S':AS} {g:Sg} {w:World},AbM P G X n ops Y l fr S=some (aG,S')->SX g w0 w S->FR g fr frc->UE g Y->∀ {K:Fr->World->Prop},
  (∀ g' bD w',Ext S.nx S'.nx g g'->FR g' aG bD->SX g' w0 w' S'->K bD w')->Y3 P none n ops l frc K w
 | [],fr,aG,frc,S,S',g,w,he,hS,aL,_,K,hK=>by
  simp only [AbM,AjY,AjI] at he;obtain⟨rfl,rfl⟩:=he;exact hK g frc w (Ext.refl _ _) aL hS
 | o :: rest,fr,aG,frc,S,S',g,w,he,hS,aL,hY,K,hK=>by
  unfold AbM at he;unfold Y3;refine DX he aL (λ f f' hf hA=>?_) (λ f f' hf hB=>?_)
  ·split at hA
   ·rename_i v S2 ho;refine AgW hX hG hf (Afe ho) hS hY λ g2 c w2 h1 h2 h3=>?_;exact U3 hX hG hA h3 ((hf.le h1.1).put _ h2) (hY.le h1.1) λ g3 db w3 q1 q2 q3=>hK g3 db w3 (h1.trans q1) q2 q3
   ·cases hA
  ·exact U3 hX hG hB hS (hf.put _ (by simp [undef,R,RA,RL])) hY hK
/-! ## Values that are the same -/
mutual
def NF:Value->Value->Bool
 | .bool a,v=>(match v with | .bool b=>a==b | _=>false)
 | .int k n,v=>(match v with | .int k' m=>Bn k k' && decide (n=m) | _=>false)
 | .string s,v=>(match v with | .string t=>Au s t | _=>false)
 | .pointer p,v=>(match v with | .pointer q=>decide (p=q) | _=>false)
 | .slice p l c,v=>(match v with | .slice q l' c'=>decide (p=q) && Ai3 l l' && Ai3 c c' | _=>false)
 | .map p,v=>(match v with | .map q=>decide (p=q) | _=>false)
 | .func fn fi ca,v=>(match v with | .func fn' bu br=>decide (fn=fn') && AcL fi bu && AcL ca br | _=>false)
 | .iface t x,v=>(match v with | .iface t' x'=>Ai3 t t' && NF x x' | _=>false)
 | .agg cs,v=>(match v with | .agg aD=>AcL cs aD | _=>false)
 | .tuple cs,v=>(match v with | .tuple aD=>AcL cs aD | _=>false)
 | .nilFunc,v=>(match v with | .nilFunc=>true | _=>false)
 | .nilIface,v=>(match v with | .nilIface=>true | _=>false)
 | .chan _,_=>false
 | .float _ _,_=>false
 | .complex _ _ _,_=>false
def AcL:Array Value->Array Value->Bool
 | ⟨l⟩,v=>Sk l v.toList
def Sk:List Value->List Value->Bool
 | [],v=>v.isEmpty
 | x :: xs,v=>(match v with
  | []=>false
  | y :: ys=>NF x y && Sk xs ys)
end
mutual
theorem Sl:∀(v:Value) {u:Value},NF v u=true->v=u
 | .bool a,u,h=>by cases u <;> simp [NF] at h;rw [h]
 | .int k n,u,h=>by
  cases u with
  | int k' m=>simp only [NF,Ai6,decide_eq_true_eq] at h;rw [E2 h.1,h.2]
  | _=>simp [NF] at h
 | .string s,u,h=>by
  cases u with
  | string t=>simp only [NF,Aw,decide_eq_true_eq] at h;rw [h]
  | _=>simp [NF] at h
 | .pointer p,u,h=>by cases u <;> simp [NF] at h;rw [h]
 | .slice p l c,u,h=>by
  cases u with
  | slice q l' c'=>simp only [NF,Ai6,decide_eq_true_eq] at h;rw [h.1.1,Ai7 h.1.2,Ai7 h.2]
  | _=>simp [NF] at h
 | .map p,u,h=>by cases u <;> simp [NF] at h;rw [h]
 | .func fn fi ca,u,h=>by
  cases u with
  | func fn' bu br=>simp only [NF,Ai6,decide_eq_true_eq] at h;rw [h.1.1,Qn fi h.1.2,Qn ca h.2]
  | _=>simp [NF] at h
 | .iface t x,u,h=>by
  cases u with
  | iface t' x'=>simp only [NF,Ai6] at h;rw [Ai7 h.1,Sl x h.2]
  | _=>simp [NF] at h
 | .agg cs,u,h=>by
  cases u with
  | agg aD=>simp only [NF] at h;rw [Qn cs h]
  | _=>simp [NF] at h
 | .tuple cs,u,h=>by
  cases u with
  | tuple aD=>simp only [NF] at h;rw [Qn cs h]
  | _=>simp [NF] at h
 | .nilFunc,u,h=>by cases u <;> simp [NF] at h;rfl
 | .nilIface,u,h=>by cases u <;> simp [NF] at h;rfl
 | .chan _,_,h=>by simp [NF] at h
 | .float _ _,_,h=>by simp [NF] at h
 | .complex _ _ _,_,h=>by simp [NF] at h
theorem Qn:∀(v:Array Value) {u:Array Value},AcL v u=true->v=u
 | ⟨l⟩,⟨m⟩,h=>by simp only [AcL] at h;rw [Im l h]
theorem Im:∀(v:List Value) {u:List Value},Sk v u=true->v=u
 | [],u,h=>by simp only [Sk,Aj1] at h;exact h.symm
 | x :: xs,[],h=>by simp [Sk] at h
 | x :: xs,y :: ys,h=>by simp only [Sk,Ai6] at h;rw [Sl x h.1,Im xs h.2]
end
mutual
def nj:Value->Bool
 | .slice p _ _=>(match p with | some a=>!(Ai3 a.block FI) | none=>true)
 | .func _ fi ca=>njA fi && njA ca
 | .iface _ v=>nj v
 | .agg cs=>njA cs
 | .tuple cs=>njA cs
 | .chan _=>false
 | .bool _=>true
 | .int _ _=>true
 | .string _=>true
 | .float _ _=>true
 | .complex _ _ _=>true
 | .pointer _=>true
 | .map _=>true
 | .nilFunc=>true
 | .nilIface=>true
def njA:Array Value->Bool
 | ⟨l⟩=>njL l
def njL:List Value->Bool
 | []=>true
 | v :: vs=>nj v && njL vs
end
mutual
theorem Agi:∀(v:Value) {c d:Value},nj v=true->R g v c->R g v d->c=d
 | .slice p l k,c,d,h,h1,h2=>by
  cases c with
  | slice p1 l1 c1 =>
   cases d with
   | slice p2 l2 c2 =>
    simp only [R,IL] at h1 h2;obtain⟨rfl,h1⟩:=h1;obtain⟨rfl,h2⟩:=h2;cases p with
    | none=>simp only at h1 h2;rw [h1.1,h1.2,h2.1,h2.2]
    | some a =>
     simp only [nj,Bool.not_eq_true'] at h;have hj:=AjT h;rcases h1 with ⟨_,⟨h1,_⟩ | ⟨_,e1,_,e2⟩⟩
     ·exact absurd h1 hj
     ·rcases h2 with ⟨_,⟨h2,_⟩ | ⟨_,e3,_,e4⟩⟩
      ·exact absurd h2 hj
      ·rw [e2] at e4;cases e4;rw [<- e1,<- e3]
   | _=>simp [R,IL] at h2
  | _=>simp [R,IL] at h1
 | .pointer p,c,d,h,h1,h2=>by
  cases p with
  | none=>simp only [R] at h1 h2;rw [h1,h2]
  | some a =>
   simp only [R] at h1 h2;obtain⟨a1,e1,rfl⟩:=h1;obtain⟨a2,e2,rfl⟩:=h2;rw [e1] at e2;cases e2;rfl
 | .map p,c,d,h,h1,h2=>by
  cases p with
  | none=>simp only [R] at h1 h2;rw [h1,h2]
  | some a =>
   simp only [R] at h1 h2;obtain⟨a1,e1,rfl⟩:=h1;obtain⟨a2,e2,rfl⟩:=h2;rw [e1] at e2;cases e2;rfl
 | .func fn fi ca,c,d,h,h1,h2=>by
  simp only [nj,Ai6] at h;cases c with
  | func fn1 fi1 ca1 =>
   cases d with
   | func fn2 fi2 ca2 =>
    simp only [R] at h1 h2;rw [UD fi h.1 h1.2.1 h2.2.1,UD ca h.2 h1.2.2 h2.2.2];cases fn with
    | func f=>rw [h1.1,h2.1]
    | yield l =>
     obtain⟨⟨a1,e1,rfl⟩,_⟩:=h1;obtain⟨⟨a2,e2,rfl⟩,_⟩:=h2;rw [e1] at e2;cases e2;rfl
    | _=>exact h1.1.elim
   | _=>simp [R] at h2
  | _=>simp [R] at h1
 | .iface t v,c,d,h,h1,h2=>by
  simp only [nj] at h;cases c with
  | iface t1 v1 =>
   cases d with
   | iface t2 v2=>simp only [R] at h1 h2;rw [h1.1,h2.1,Agi v h h1.2 h2.2]
   | _=>simp [R] at h2
  | _=>simp [R] at h1
 | .agg cs,c,d,h,h1,h2=>by
  simp only [nj] at h;cases c with
  | agg cs1 =>
   cases d with
   | agg gA=>simp only [R] at h1 h2;rw [UD cs h h1 h2]
   | _=>simp [R] at h2
  | _=>simp [R] at h1
 | .tuple cs,c,d,h,h1,h2=>by
  simp only [nj] at h;cases c with
  | tuple cs1 =>
   cases d with
   | tuple gA=>simp only [R] at h1 h2;rw [UD cs h h1 h2]
   | _=>simp [R] at h2
  | _=>simp [R] at h1
 | .chan _,_,_,h,_,_=>by simp [nj] at h
 | .bool _,_,_,_,h1,h2=>by simp only [R] at h1 h2;rw [h1,h2]
 | .int _ _,_,_,_,h1,h2=>by simp only [R] at h1 h2;rw [h1,h2]
 | .string _,_,_,_,h1,h2=>by simp only [R] at h1 h2;rw [h1,h2]
 | .float _ _,_,_,_,h1,h2=>by simp only [R] at h1 h2;rw [h1,h2]
 | .complex _ _ _,_,_,_,h1,h2=>by simp only [R] at h1 h2;rw [h1,h2]
 | .nilFunc,_,_,_,h1,h2=>by simp only [R] at h1 h2;rw [h1,h2]
 | .nilIface,_,_,_,h1,h2=>by simp only [R] at h1 h2;rw [h1,h2]
theorem UD:∀(v:Array Value) {c d:Array Value},njA v=true->RA g v c->RA g v d->c=d
 | ⟨l⟩,⟨c⟩,⟨d⟩,h,h1,h2=>by simp only [njA] at h;simp only [RA] at h1 h2;rw [YF l h h1 h2]
theorem YF:∀(v:List Value) {c d:List Value},njL v=true->RL g v c->RL g v d->c=d
 | [],c,d,_,h1,h2=>by simp only [RL] at h1 h2;rw [h1,h2]
 | v :: vs,[],_,_,h1,_=>by simp [RL] at h1
 | v :: vs,_ :: _,[],_,_,h2=>by simp [RL] at h2
 | v :: vs,c :: cs,d :: ds,h,h1,h2=>by simp only [njL,Ai6] at h;simp only [RL] at h1 h2;rw [Agi v h.1 h1.1 h2.1,YF vs h.2 h1.2 h2.2]
end
end
section
variable {P:Program}{g:Sg}{w0 w:World}
/-! ## What was read, and stands -/
def HD(g:Sg):List (Nat × GI)->List (Nat × Et)->Prop
 | [],h=>h=[]
 | x :: xs,h=>match h with
  | []=>False
  | y :: ys=>y.1=x.1/\Zr g default x.2 y.2/\HD g xs ys
theorem HD.le{g':Sg}(hl:Le g g'):∀ {x:List (Nat × GI)} {y:List (Nat × Et)},HD g x y->HD g' x y
 | [],_,h=>h
 | x :: xs,[],h=>h.elim
 | x :: xs,y :: ys,⟨h1,⟨a,cs,h2,h3,h4⟩,h5⟩=>⟨h1,⟨a,cs,Ad7 hl h2,Ge hl _ h3,h4⟩,HD.le hl h5⟩
theorem HD.kept{ps:List Nat}:∀ {x:List (Nat × GI)} {y:List (Nat × Et)},HD g x y->HD g (x.filter λ s=>!ps.contains s.1) (Dn.kept ps y)
 | [],_,h=>by simp only [HD] at h;subst h;rfl
 | x :: xs,[],h=>h.elim
 | x :: xs,y :: ys,⟨h1,h2,h3⟩=>by
  have ih:=HD.kept (ps:=ps) h3;unfold Dn.kept at ih ⊢;simp only [List.filter_cons,h1];split
  ·exact⟨h1,h2,ih⟩
  ·exact ih
theorem Xe:∀ {cs:List Value} {a:Addr} {i:Nat},(∀(j:Nat) c,cs[j]?=some c->w.cell? (a.add (i+j))=some c)->holds (H5 a cs i) w
 | [],_,_,_=>trivial
 | [c],a,i,h=>by have:=h 0 c rfl;exact this
 | c :: d :: cs,a,i,h=>by
  refine⟨h 0 c rfl,?_⟩;exact Xe (cs:=d :: cs) (a:=a) (i:=i+1) λ j x hx=>by rw [show i+1+j=i+(j+1) by omega];exact h (j+1) x hx
def AdU(G:GT)(H:List AI)(x:GI):Bool :=
 match x.1.spot with
 | some _=>false
 | none=>(match Aec G H x.1.block with
  | some vs=>Sk x.2 ((vs.drop x.1.off).take x.2.length) && njL x.2
  | none=>false)
theorem AdV{G:GT}(hG:IE G w0){S:AS}(hS:SQ g w0 w S.H){x:GI}{h:Et}(hr:Zr g default x h)(he:AdU G S.H x=true):holds h w:=by
 obtain⟨⟨b,o,sp⟩,vs⟩:=x;obtain⟨a',cs,h1,h2,rfl⟩:=hr;unfold AdU at he;simp only at he h1 h2;split at he
 ·cases he
 ·split at he
  ·rename_i us hm;simp only [Ai6] at he;have e1:=Im _ he.1;obtain⟨ds,c,q1,q2,q3⟩:=VB hG hS hm;have bU:=GK vs.length (HF o q1);rw [<- e1] at bU;have e2:=YF vs he.2 h2 bU;subst e2;have du:a'=⟨c,o,none⟩:=by
    unfold ad at h1;simp only [q2,Aj0,AjY] at h1;exact h1.symm
   subst du;refine Xe λ j d hd=>?_;rw [Ajp,Ar];rw [Aj2] at hd;split at hd
   ·rw [Ajs] at hd;exact q3 _ _ hd
   ·cases hd
  ·cases he
def GM(G:GT)(H:List AI)(ps:List Nat):List (Nat × GI)->Bool
 | []=>true
 | s :: r=>(bif ps.contains s.1 then true else AdU G H s.2) && GM G H ps r
theorem HS{G:GT}(hG:IE G w0){S:AS}(hS:SQ g w0 w S.H){ps:List Nat}{X:Prop}(hX:X):∀ {x:List (Nat × GI)} {y:List (Nat × Et)},HD g x y->GM G S.H ps x=true->stands ps y w X
 | [],_,h,_=>by simp only [HD] at h;subst h;exact hX
 | x :: xs,[],h,_=>h.elim
 | x :: xs,y :: ys,⟨h1,h2,h3⟩,he=>by
  simp only [GM,Ai6] at he;have ih:=HS hG hS hX h3 he.2;show (bif ps.contains y.1 then stands ps ys w X else holds y.2 w/\stands ps ys w X);rw [h1];cases hc:ps.contains x.1 with
  | true=>exact ih
  | false =>
   have:=he.1;rw [hc,cond_false] at this;exact⟨AdV hG hS h2 this,ih⟩
/-! ## States that are the same -/
def AdF:List (ByteArray × Value × Nat)->List (ByteArray × Value × Nat)->Bool
 | [],l=>l.isEmpty
 | x :: xs,l=>match l with
  | []=>false
  | y :: ys=>Au x.1 y.1 && NF x.2.1 y.2.1 && Ai3 x.2.2 y.2.2 && AdF xs ys
theorem AaN:∀ {a b:List (ByteArray × Value × Nat)},AdF a b=true->a=b
 | [],b,h=>by simp only [AdF,Aj1] at h;exact h.symm
 | x :: xs,[],h=>by cases h
 | (s,v,n) :: xs,(s',v',n') :: ys,h=>by
  simp only [AdF,Ai6,Aw,decide_eq_true_eq] at h;rw [h.1.1.1,Sl _ h.1.1.2,Ai7 h.1.2,AaN h.2]
def Ahj:Option Code->Option Code->Bool
 | none,none=>true
 | some .ret,some .ret=>true
 | some (.exit i),some (.exit j)=>Ai3 i j
 | _,_=>false
theorem AfO{a b:Option Code}(h:Ahj a b=true):a=b:=by
 unfold Ahj at h;split at h
 ·rfl
 ·rfl
 ·rw [Ai7 h]
 ·cases h
def aeq:AI->AI->Bool
 | .cells b cs t,y=>(match y with | .cells b' aD t'=>Ai3 b b' && Sk cs aD && Ai3 t t' | _=>false)
 | .row b e sz n xs cx,y=>(match y with | .row b' e' dB n' fT cx'=>Ai3 b b' && Ai3 e e' && Ai3 sz dB && Ai3 n n' && Sk xs fT && decide (cx=cx') | _=>false)
 | .ro b xs,y=>(match y with | .ro b' fT=>Ai3 b b' && Sk xs fT | _=>false)
 | .loop b st p,y=>(match y with | .loop b' kq p'=>Ai3 b b' && decide (st=kq) && Ahj p p' | _=>false)
 | .mark b,y=>(match y with | .mark b'=>Ai3 b b' | _=>false)
 | .mp b es ck,y=>(match y with | .mp b' es' ck'=>Ai3 b b' && AdF es es' && Ai3 ck ck' | _=>false)
theorem Adg{x y:AI}(h:aeq x y=true):x=y:=by
 cases x <;> cases y <;> first
  | (simp [aeq] at h;done)
  | (simp only [aeq,Ai6,decide_eq_true_eq] at h;first
    | (rw [Ai7 h.1.1,Im _ h.1.2,Ai7 h.2])
    | (rw [Ai7 h.1.1.1.1.1,Ai7 h.1.1.1.1.2,Ai7 h.1.1.1.2,Ai7 h.1.1.2,Im _ h.1.2,h.2])
    | (rw [Ai7 h.1,Im _ h.2])
    | (rw [Ai7 h.1.1,h.1.2,AfO h.2])
    | (rw [Ai7 h.1.1,AaN h.1.2,Ai7 h.2])
    | (rw [Ai7 h]))
def AfV(x:AI):List AI->Option (List AI)
 | []=>none
 | y :: ys=>bif aeq x y then some ys else match AfV x ys with
  | some l=>some (y :: l)
  | none=>none
theorem Uf{x:AI}:∀ {l m:List AI},AfV x l=some m->l.Perm (x :: m)
 | [],_,h=>by cases h
 | y :: ys,m,h=>by
  unfold AfV at h;cases hb:aeq x y with
  | true =>
   rw [hb] at h;simp only [cond_true,AjY] at h;subst h;rw [Adg hb]
  | false =>
   rw [hb] at h;simp only [cond_false] at h;split at h
   ·rename_i l hl;cases h;exact ((Uf hl).cons y).trans (List.Perm.swap x y l)
   ·cases h
def Uc:List AI->List AI->Bool
 | [],l=>l.isEmpty
 | x :: xs,l=>match AfV x l with
  | some m=>Uc xs m
  | none=>false
theorem RG:∀ {a b:List AI},Uc a b=true->b.Perm a
 | [],b,h=>by simp only [Uc,Aj1] at h;subst h;exact List.Perm.refl _
 | x :: xs,b,h=>by
  unfold Uc at h;split at h
  ·rename_i m hm;exact (Uf hm).trans ((RG h).cons x)
  ·cases h
theorem AeT{a b:List AI}(h:a.Perm b):∀ {L:List It},HR g a L->∃ L',HR g b L'/\L.Perm L':=by
 induction h with
 | nil=>intro L h;exact⟨L,h,List.Perm.refl _⟩
 | cons x _ ih =>
  intro L h;cases L with
  | nil=>exact h.elim
  | cons y ys =>
   obtain⟨L',h1,h2⟩:=ih h.2;exact⟨y :: L',⟨h.1,h1⟩,h2.cons y⟩
 | swap x y l =>
  intro L h;cases L with
  | nil=>exact h.elim
  | cons z zs =>
   obtain⟨h1,h2⟩:=h;cases zs with
   | nil=>exact h2.elim
   | cons u us=>exact⟨u :: z :: us,⟨h2.1,h1,h2.2⟩,List.Perm.swap u z us⟩
 | trans _ _ ih1 ih2 =>
  intro L h;obtain⟨L1,h1,h2⟩:=ih1 h;obtain⟨L2,h3,h4⟩:=ih2 h1;exact⟨L2,h3,h2.trans h4⟩
theorem SQ.perm{a b:List AI}(hS:SQ g w0 w b)(h:Uc a b=true):SQ g w0 w a:=by
 obtain⟨L,h1,h2⟩:=hS;obtain⟨L',h3,h4⟩:=AeT (RG h) h1;exact⟨L',h3,h2.perm h4⟩
def Mw:Ft->Ft->Bool
 | .l,_=>true
 | .n v a b,.l=>v.isNone && Mw a .l && Mw b .l
 | .n v a b,.n v' a' b'=>(match v,v' with
  | none,_=>true
  | some u,some w=>NF u w
  | _,_=>false) && Mw a a' && Mw b b'
theorem Hn:∀ {a b:Ft},Mw a b=true->∀ {i:Nat} {v:Value},IG a i=some v->IG b i=some v
 | .l,_,_,_,_,h=>by cases h
 | .n u a b,.l,hs,i,v,h=>by
  simp only [Mw,Ai6,Option.isNone_iff_eq_none] at hs;simp only [IG] at h;cases hj:Ai3 i 0 with
  | true=>simp only [hj,cond_true,hs.1.1] at h;cases h
  | false =>
   simp only [hj,cond_false] at h;cases hq:Ai3 (i % 2) 1 with
   | true=>simp only [hq,cond_true] at h;have:=Hn hs.1.2 h;cases this
   | false=>simp only [hq,cond_false] at h;have:=Hn hs.2 h;cases this
 | .n u a b,.n u' a' b',hs,i,v,h=>by
  simp only [Mw,Ai6] at hs;simp only [IG] at h ⊢;cases hj:Ai3 i 0 with
  | true =>
   simp only [hj,cond_true] at h ⊢;subst h;have:=hs.1.1;cases u' with
   | none=>cases this
   | some w=>simp only at this;rw [Sl _ this]
  | false =>
   simp only [hj,cond_false] at h ⊢;cases hq:Ai3 (i % 2) 1 with
   | true=>simp only [hq,cond_true] at h ⊢;exact Hn hs.1.2 h
   | false=>simp only [hq,cond_false] at h ⊢;exact Hn hs.2 h
theorem FR.sub{a b:Ft}{frc:Fr}(hb:FR g b frc)(h:Mw a b=true):FR g a frc:=λ i v hv=>hb i v (Hn h hv)
end
end Go.Dn
set_option linter.unusedVariables false
set_option maxRecDepth 100000
namespace Go.Dn
open _root_.Array renaming getD_eq_getD_getElem? -> Aj6
open _root_.Nat renaming succ -> Aj5
def DK:List Bool->Nat
 | []=>0
 | b :: r=>bif b then Aj5 (Nat.mul 2 (DK r)) else Nat.mul 2 (DK r)
theorem Rv:∀(l:List Bool) (j:Nat),(DK l).testBit j=l.getD j false
 | [],j=>by simp [DK]
 | b :: r,0=>by
  have e:DK (b :: r)=2*DK r+b.toNat:=by cases b <;> rfl
  rw [e,Nat.testBit_zero];cases b <;> simp <;> omega
 | b :: r,j+1=>by
  have e:DK (b :: r)=2*DK r+b.toNat:=by cases b <;> rfl
  rw [e,Nat.testBit_succ,List.getD_cons_succ,<- Rv r j];congr 1;cases b <;> simp <;> omega
def XW(mask:Nat):Nat->List Oper->List Bool->List Nat
 | i,o :: os,b :: bs=>bif b then XW mask (Aj5 i) os bs else bif o.after.toList.all λ e=>!Region.binds .any e || mask.testBit e.on then i :: XW mask (Aj5 i) os bs else XW mask (Aj5 i) os bs
 | _,_,_=>[]
def Acr(ops:Array Oper)(listed:Array Bool):List Nat:=XW (DK listed.toList) 0 ops.toList listed.toList
theorem Qg(ops:Array Oper)(listed:Array Bool):Acr ops listed=Region.ready .any ops listed:=by
 have key:∀(os:List Oper) (bs:List Bool) (i:Nat),ops.toList.drop i=os->listed.toList.drop i=bs ->
   XW (DK listed.toList) i os bs=(List.range' i os.length).filter λ i=>!listed.getD i true && ((ops[i]?).map (·.after.all λ e=>!Region.binds .any e || listed.getD e.on false)).getD false:=by
  intro os
  induction os with
  | nil=>intro bs i _ _;cases bs <;> rfl
  | cons o os ih =>
   intro bs i ho hb;have kF:ops[i]?=some o:=by
    have:(ops.toList.drop i)[0]?=some o:=by rw [ho];rfl
    simpa using this
   have sL:ops.toList.drop (i+1)=os:=by rw [<- List.drop_drop,ho];rfl
   cases bs with
   | nil =>
    have hle:listed.size<=i:=by
     have:=congrArg List.length hb;simp only [List.length_drop,List.length_nil,Array.length_toList] at this;omega
    show ([]:List Nat)=_;symm;rw [List.filter_eq_nil_iff];intro j hj;have bh:i<=j:=(List.mem_range'_1.1 hj).1;have:listed[j]?=none:=Array.getElem?_eq_none (by omega);simp [Aj6,this]
   | cons b bs =>
    have rZ:listed[i]?=some b:=by
     have:(listed.toList.drop i)[0]?=some b:=by rw [hb];rfl
     simpa using this
    have jo:listed.toList.drop (i+1)=bs:=by rw [<- List.drop_drop,hb];rfl
    have h1:=ih bs (i+1) sL jo;rw [List.length_cons,List.range'_succ,List.filter_cons];have ha:(o.after.toList.all λ e=>!Region.binds .any e || (DK listed.toList).testBit e.on)=(o.after.all λ e=>!Region.binds .any e || listed.getD e.on false):=by
     rw [<- Array.all_toList];congr 1;funext e;rw [Rv];simp [Aj6,List.getD_eq_getElem?_getD]
    show (bif b then XW (DK listed.toList) (i+1) os bs else bif o.after.toList.all λ e=>!Region.binds .any e || (DK listed.toList).testBit e.on then i :: XW (DK listed.toList) (i+1) os bs else XW (DK listed.toList) (i+1) os bs)=_;rw [ha,h1];have e1:listed.getD i true=b:=by simp [Aj6,rZ]
    rw [e1];cases b with
    | true=>simp
    | false =>
     cases hc:(o.after.all λ e=>!Region.binds .any e || listed.getD e.on false) with
     | true=>simp only [kF,Option.map_some,Option.getD_some,hc,cond_false,cond_true,Bool.not_false,Bool.and_self,if_true]
     | false=>simp only [kF,Option.map_some,Option.getD_some,hc,cond_false,Bool.not_false,Bool.and_false,Bool.false_eq_true,if_false]
 unfold Acr Region.ready;rw [key ops.toList listed.toList 0 rfl rfl,List.range_eq_range',Array.length_toList]
end Go.Dn
