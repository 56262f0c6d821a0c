/-
  Texts of this claim, laid one behind the other by a program of mine (install.py): G.Cm5, G.Cm6, G.Cm7, G.Cq1, Dn.Sized, G.CtArg, G.Cq2, G.Cq3, G.Co6, G.Cq4, G.CaTwice.
-/
import Derived.Test.YtpnaifmmggnimaaGreatDoorM11
import Derived.Test.YtpnaifmmggnimaaGreatDoorM1
import Derived.SizedLaws
import Derived.Test.YtpnaifmmggnimaaGreatDoorM9
import Derived.Test.YtpnaifmmggnimaaGreatDoorM10
namespace Go.Proofs.YtpnaifmmggnimaaGreatDoor
open _root_.List renaming mem_append -> Al8, mem_singleton -> Al9
set_option maxRecDepth 100000
open Go.Dn Go.Proofs
open Go.RowKit (Below)
set_option linter.unusedVariables false
def XK(C:BX)(s:ByteArray)(d:Nat × Nat)(fs:List Jq)(C':BX):Prop :=
 ((s.size=0\/262144<s.size\/((Aw s 0).toNat≠1/\(Aw s 0).toNat≠2/\(Aw s 0).toNat≠3))/\d=(220,0)/\fs=[]/\C'=C) \/
  (0<s.size/\s.size<=262144/\(((Aw s 0).toNat=1/\AhF C (bl s) d fs C')\/((Aw s 0).toNat=2/\AhG C (bl s) d fs C')\/((Aw s 0).toNat=3/\Ajv C (bl s) d fs C')))
section
variable {w0 w:World}{H:List It}{bc bm n N cc pc:Nat}{ca pa:Option Addr}{C:BX}
theorem VR.imp{Q Q':Nat × Nat->List Jq->BX->Prop}(hQ:∀ d fs C',Q d fs C'->Q' d fs C'){v:Value}{w':World}(h:VR w0 H bc bm N Q v w'):VR w0 H bc bm N Q' v w':=by
 obtain⟨d,fs,C',fa,ca,cc,pa,pc,n,h1,h2⟩:=h;exact⟨d,fs,C',fa,ca,cc,pa,pc,n,hQ _ _ _ h1,h2⟩
theorem AbW.imp{b:Nat}{a:Option Addr}{m c:Nat}{Q Q':Nat × Nat->List Jq->BX->Prop}(hQ:∀ d fs C',Q d fs C'->Q' d fs C'){v:Value}{w':World}(h:AbW w0 H bc bm N b a m c C Q v w'):AbW w0 H bc bm N b a m c C Q' v w':=by
 obtain⟨at',aX,g,ca,Z,pc,cc,pa,iR,m',h1,h2,h3,h4,h5,h6,h7⟩:=h;refine⟨at',aX,g,ca,Z,pc,cc,pa,iR,m',h1,h2,h3,h4,h5,λ h=>hQ _ _ _ (h6 h),λ hb ha wx S=>(h7 hb ha wx S).mono ?_⟩;rintro e w' ⟨v,rfl,h⟩;exact⟨v,rfl,h.imp hQ⟩
theorem ZH(T:I5 w0)(S:ST w0 w (BV bc ca cc pa pc bm n C++H))(hC:Nc C)(bh:ca=none↔C.AM=[])(hN:n<=N)(kR:N<1000000)(s:ByteArray) :
  Calls Tryz.prog f.Dj #[.pointer (some ⟨bc,0,none⟩),.string s] w (AG (VR w0 H bc bm (N+1) (XK C s))):=by
 have au:=Bb s;refine NK (Q:=XK C s) S bh hN s (λ h=>.inl ⟨h,rfl,rfl,rfl⟩) (λ rf bT h0 hle H' b a c wx hc S=>?_);rcases bT with ⟨h,rfl⟩ | ⟨h,rfl⟩ | ⟨h,rfl⟩
 ·refine (WT S hc (by omega) bh hN).mono ?_;rintro e w' ⟨v,rfl,hr⟩;exact⟨v,rfl,hr.imp λ d fs C' hq=>.inr ⟨h0,hle,.inl ⟨h,hq⟩⟩⟩
 ·refine (W6 T S hc (by omega) hC bh hN kR).mono ?_;rintro e w' ⟨v,rfl,hr⟩;exact⟨v,rfl,hr.imp λ d fs C' hq=>.inr ⟨h0,hle,.inr (.inl ⟨h,hq⟩)⟩⟩
 ·refine (AgP T S hc (by omega) hC bh hN).mono ?_;rintro e w' ⟨v,rfl,hr⟩;exact⟨v,rfl,hr.imp λ d fs C' hq=>.inr ⟨h0,hle,.inr (.inr ⟨h,hq⟩)⟩⟩
end
/-! ### what a command keeps -/
theorem AiZ{k m:List I1}(h:∀ i,(mapOf k i).isSome=(mapOf m i).isSome):Uv k=Uv m :=
 ((List.perm_ext_iff_of_nodup (EF k) (EF m)).2 λ i=>by rw [FE,FE,<- HN,<- HN,h]).length_eq
theorem Af7{k:List I1}{c:I1}:Uv (k++[c])=if (mapOf k c.1).isSome=true then Uv k else Uv k+1:=by
 by_cases h:(mapOf k c.1).isSome=true
 ·rw [if_pos h];refine AiZ λ i=>?_;rw [NZ];split
  ·rename_i e;subst e;rw [h];rfl
  ·rfl
 ·rw [if_neg h];have hn:c.1∉Kj k:=λ hm=>h (HN.2 ((FE k c.1).1 hm));have:=((List.perm_ext_iff_of_nodup (EF (k++[c])) (List.nodup_cons.2 ⟨hn,EF k⟩)).2 λ i=>by
   rw [FE,List.mem_cons,FE,List.map_append,Al8];simp only [List.map_cons,List.map_nil,Al9];exact Or.comm).length_eq
  exact this
structure Iy(C:BX):Prop where
 ok:Nc C
 few:Uv C.k<=64
 empty:C.AM=[]->C.parts=[]
theorem O1.inv{C:BX}{x y:Nat}{cs:List BQ}{rows:List (List AB)}{d:Nat × Nat}{fs:List Jq}{C':BX}(hI:Iy C)(hs:Bv cs rows)(aQ:rows≠[])(hx:x<=Cw)(jl:1<=y)(hy:y<=Cw)(h:O1 C x y cs rows d fs C'):Iy C':=by
 rcases h with ⟨_,_,_,_,_,rfl⟩ | ⟨_,_,_,_,_,rfl⟩ | ⟨_,_,_,_,rfl⟩ | ⟨h1,h2,C1,hA,rfl⟩
 ·exact hI
 ·exact hI
 ·exact hI
 have iA:∀ D:BX,D.k=C.k->Uv (D.k++[((x,y,d):I1)])<=64:=λ D e=>by
  rw [e,Af7];have:=hI.few;split
  ·exact this
  ·rename_i hn;have:=h2 (by simpa using hn);omega
 have hb:=L7 (ps:=C.parts) λ p hp=>(hI.ok.parts p hp).2.2;have kA:=hI.ok.np;have hl:=hs.len;have fV:1<=rows.length:=by
  cases rows with
  | nil=>exact absurd rfl aQ
  | cons r rs=>simp
 rcases hA with ⟨_,rfl,rfl,rfl⟩ | ⟨_,_,rfl,rfl,rfl⟩ | ⟨h3,h4,b,dF,rfl,rfl,rfl⟩
 ·refine⟨⟨hI.ok.np,hI.ok.parts,λ c hc=>?_,hI.ok.AM⟩,iA _ rfl,hI.empty⟩;rcases Al8.1 hc with h | h
  ·exact hI.ok.Dw c h
  ·rw [Al9.1 h];exact⟨hx,⟨jl,hy⟩,by simp,by simp⟩
 ·refine⟨⟨hI.ok.np,hI.ok.parts,λ c hc=>?_,hI.ok.AM⟩,iA _ rfl,hI.empty⟩;rcases Al8.1 hc with h | h
  ·exact hI.ok.Dw c h
  ·rw [Al9.1 h];exact⟨hx,⟨jl,hy⟩,by simp,by simp⟩
 ·have hr:CI (C.parts++[(Fj (BC b),rows.length)])<=Cw:=by
   rw [J2];unfold Cw;show CI C.parts+rows.length<=_;omega
  refine⟨⟨?_,λ p hp=>?_,λ c hc=>?_,hI.ok.AM⟩,iA _ rfl,λ h=>?_⟩
  ·show (C.parts++[(Fj (BC b),rows.length)]).length<=256;rw [List.length_append];simp only [List.length_cons,List.length_nil];omega
  ·rcases Al8.1 hp with h | h
   ·exact hI.ok.parts p h
   ·rw [Al9.1 h];exact⟨N9 _,fV,hl⟩
  ·rcases Al8.1 hc with h | h
   ·exact hI.ok.Dw c h
   ·rw [Al9.1 h];exact⟨hx,⟨jl,hy⟩,by simp,hr⟩
  ·exact absurd (h3.trans h) (Vm hs.right)
theorem Aeg.inv{C:BX}{cs:List BQ}{d:Nat × Nat}{fs:List Jq}{C':BX}(hI:Iy C)(hR:Ap cs=true)(h:Aeg C cs d fs C'):Iy C':=by
 rcases h with ⟨_,_,_,rfl⟩ | ⟨h1,_,_,rfl⟩
 ·exact hI
 ·exact⟨⟨hI.ok.np,hI.ok.parts,hI.ok.Dw,.inr hR⟩,hI.few,λ h=>hI.empty h1⟩
theorem Aeo.inv{C:BX}{ns:List ByteArray}{t:ByteArray}{d:Nat × Nat}{fs:List Jq}{C':BX}(hI:Iy C)(h1:2<=ns.length)(h:Aeo C ns t d fs C'):Iy C':=by
 rcases h with ⟨_,_,_,rfl⟩ | ⟨i,rows,⟨g1,g2,g3,g4⟩,rfl,_,_⟩
 ·exact hI
 have cD:=((LC (by omega)).1 (NS g1).1).1;have aD:=(NS g1).2;have aQ:C.AM≠[]:=Vm g2.right;have kA:=hI.ok.np;have bN:(Td C.parts i ns.length).length=ns.length:=by rw [Td,List.length_take,List.length_drop];omega
 have dQ:1<=rows.length:=by
  rw [g4];cases hc:Td C.parts i ns.length with
  | nil=>rw [hc] at bN;simp at bN;omega
  | cons p ps =>
   have:p∈C.parts:=List.mem_of_mem_drop (List.mem_of_mem_take (show p∈(C.parts.drop i).take ns.length by rw [show (C.parts.drop i).take ns.length=Td C.parts i ns.length from rfl,hc];simp));have:=(hI.ok.parts p this).2.1;simp only [CI,List.map_cons,List.sum_cons];omega
 refine⟨⟨?_,λ p hp=>?_,hI.ok.Dw,hI.ok.AM⟩,hI.few,λ h=>absurd h aQ⟩
 ·show (AaI C.parts i ns.length _).length<=256;rw [AaI];simp only [List.length_append,List.length_take,List.length_drop,List.length_cons,List.length_nil];omega
 ·have hp:p∈AaI C.parts i ns.length (Fj t,rows.length):=hp;rw [AaI,Al8,Al8,Al9] at hp;rcases hp with (h | rfl) | h
  ·exact hI.ok.parts p (List.mem_of_mem_take h)
  ·exact⟨N9 _,dQ,g2.len⟩
  ·exact hI.ok.parts p (List.mem_of_mem_drop h)
theorem AeQ{l:List UInt8}{x:Nat × Nat × List BQ × List (List AB)}{k:Nat}(h:Yk l 1=some (x,k)):x.1<=Cw/\1<=x.2.1/\x.2.1<=Cw/\Bv x.2.2.1 x.2.2.2/\x.2.2.2≠[]:=by
 obtain⟨a1,a2,a3,h1,h2,h3,h4,h5⟩:=W5 h;have g1:=(HP h1).2;have g2:=(HP h2).2;exact⟨g1.2,g2.1,g2.2,(Mn h4).1,h5⟩
theorem Acv{l:List UInt8}{x:List ByteArray × ByteArray}{k:Nat}(h:Aat l 1=some (x,k)):2<=x.1.length:=by
 unfold Aat at h;obtain⟨y1,h1,h⟩:=Option.bind_eq_some_iff.1 h;obtain⟨y2,h2,h⟩:=Option.bind_eq_some_iff.1 h;obtain⟨y3,h3,h⟩:=Option.map_eq_some_iff.1 h;cases h;have:=Rj _ h2;have:=(HP h1).2.1;simp only;omega
theorem XK.inv{C:BX}{s:ByteArray}{d:Nat × Nat}{fs:List Jq}{C':BX}(hI:Iy C)(h:XK C s d fs C'):Iy C':=by
 rcases h with ⟨_,_,_,rfl⟩ | ⟨_,_,⟨_,h⟩ | ⟨_,h⟩ | ⟨_,h⟩⟩
 ·exact hI
 ·rcases h with ⟨cs,h1,h2⟩ | ⟨_,_,_,rfl⟩
  ·exact h2.inv hI (DG h1)
  ·exact hI
 ·rcases h with ⟨x,h1,h2⟩ | ⟨_,_,_,rfl⟩
  ·obtain⟨g1,g2,g3,g4,g5⟩:=AeQ h1;exact h2.inv hI g4 g5 g1 g2 g3
  ·exact hI
 ·rcases h with ⟨x,h1,h2⟩ | ⟨_,_,_,rfl⟩
  ·exact h2.inv hI (Acv h1)
  ·exact hI
/-! ### CatalogTwice -/
theorem O1.Ahs{C:BX}{x y:Nat}{cs:List BQ}{rows:List (List AB)}{d d2:Nat × Nat}{fs fx:List Jq}{C' C2:BX}(h:O1 C x y cs rows d fs C')(h2:O1 C' x y cs rows d2 fx C2):d2=d/\fx=[]/\C2=C':=by
 rcases h with ⟨t,h1,e,rfl,rfl,rfl⟩ | ⟨t,h1,aB,rfl,rfl,rfl⟩ | ⟨h1,hc,rfl,rfl,rfl⟩ | ⟨g1,g2,C1,hA,rfl⟩
 ·rcases h2 with ⟨t2,k1,_,rfl,rfl,rfl⟩ | ⟨t2,k1,k2,_⟩ | ⟨k1,_⟩ | ⟨k1,_⟩
  ·rw [h1] at k1;cases k1;exact⟨rfl,rfl,rfl⟩
  ·rw [h1] at k1;cases k1;omega
  ·rw [h1] at k1;cases k1
  ·have:=k1 t h1;omega
 ·rcases h2 with ⟨t2,k1,k2,_⟩ | ⟨t2,k1,k2,rfl,rfl,rfl⟩ | ⟨k1,_⟩ | ⟨k1,_⟩
  ·rw [h1] at k1;cases k1;omega
  ·exact⟨rfl,rfl,rfl⟩
  ·rw [h1] at k1;cases k1
  ·have:=k1 t h1;omega
 ·rcases h2 with ⟨t2,k1,_⟩ | ⟨t2,k1,_⟩ | ⟨k1,_,rfl,rfl,rfl⟩ | ⟨_,k2,_⟩
  ·rw [h1] at k1;cases k1
  ·rw [h1] at k1;cases k1
  ·exact⟨rfl,rfl,rfl⟩
  ·exact absurd hc (k2 h1)
 ·have hm:mapOf (C1.k++[((x,y,d):I1)]) x=some (y,d):=by rw [NZ,if_pos rfl]
  rcases h2 with ⟨t2,k1,_,rfl,rfl,rfl⟩ | ⟨t2,k1,k2,_⟩ | ⟨k1,_⟩ | ⟨k1,_⟩
  ·have k1:mapOf (C1.k++[((x,y,d):I1)]) x=some t2:=k1;rw [hm] at k1;cases k1;exact⟨rfl,rfl,rfl⟩
  ·have k1:mapOf (C1.k++[((x,y,d):I1)]) x=some t2:=k1;rw [hm] at k1;cases k1;exact absurd k2 (Nat.lt_irrefl _)
  ·have k1:mapOf (C1.k++[((x,y,d):I1)]) x=none:=k1;rw [hm] at k1;cases k1
  ·exact absurd (k1 _ hm) (Nat.lt_irrefl _)
theorem XK.Ahs{C:BX}{s:ByteArray}{d d2:Nat × Nat}{fs fx:List Jq}{C' C2:BX}(h:XK C s d fs C')(h2:XK C' s d2 fx C2) :
  ((Aw s 0).toNat=2->d2=d/\fx=[]/\C2=C')/\(d.1≠0->d2.1≠0):=by
 rcases h with ⟨hb,rfl,rfl,rfl⟩ | ⟨h0,hle,h⟩
 ·rcases h2 with ⟨_,rfl,rfl,rfl⟩ | ⟨k0,kle,h2⟩
  ·exact⟨λ _=>⟨rfl,rfl,rfl⟩,λ _=>by decide⟩
  ·rcases h2 with ⟨h2,_⟩ | ⟨h2,_⟩ | ⟨h2,_⟩ <;> omega
 rcases h2 with ⟨hb,_⟩ | ⟨_,_,h2⟩
 ·rcases h with ⟨h,_⟩ | ⟨h,_⟩ | ⟨h,_⟩ <;> omega
 rcases h with ⟨hk,h⟩ | ⟨hk,h⟩ | ⟨hk,h⟩
 ·refine⟨λ h=>by omega,?_⟩;rcases h2 with ⟨_,h2⟩ | ⟨h2,_⟩ | ⟨h2,_⟩;rotate_left
  ·omega
  ·omega
  rcases h with ⟨cs,h1,h3⟩ | ⟨h1,rfl,rfl,rfl⟩
  ·rcases h2 with ⟨cs2,k1,k3⟩ | ⟨k1,rfl,_⟩
   ·rw [h1] at k1;cases k1;rcases h3 with ⟨g1,rfl,_,rfl⟩ | ⟨_,rfl,_⟩
    ·rcases k3 with ⟨_,rfl,_⟩ | ⟨g2,_⟩
     ·exact λ _=>by decide
     ·exact absurd g2 g1
    ·exact λ h=>absurd rfl h
   ·exact absurd h1 (k1 cs)
  ·rcases h2 with ⟨cs2,k1,k3⟩ | ⟨k1,rfl,_⟩
   ·exact absurd k1 (h1 cs2)
   ·exact λ _=>by decide
 ·rcases h2 with ⟨h2,_⟩ | ⟨_,h2⟩ | ⟨h2,_⟩
  ·omega
  ·have key:d2=d/\fx=[]/\C2=C':=by
    rcases h with ⟨x,h1,h3⟩ | ⟨h1,rfl,rfl,rfl⟩
    ·rcases h2 with ⟨x2,k1,k3⟩ | ⟨k1,_⟩
     ·rw [h1] at k1;cases k1;exact h3.Ahs k3
     ·exact absurd h1 (k1 x)
    ·rcases h2 with ⟨x2,k1,k3⟩ | ⟨k1,rfl,rfl,rfl⟩
     ·exact absurd k1 (h1 x2)
     ·exact⟨rfl,rfl,rfl⟩
   exact⟨λ _=>key,λ h=>by rw [key.1];exact h⟩
  ·omega
 ·refine⟨λ h=>by omega,?_⟩;rcases h2 with ⟨h2,_⟩ | ⟨h2,_⟩ | ⟨_,h2⟩
  ·omega
  ·omega
  rcases h with ⟨x,h1,h3⟩ | ⟨h1,rfl,rfl,rfl⟩
  ·rcases h2 with ⟨x2,k1,k3⟩ | ⟨k1,rfl,_⟩
   ·rw [h1] at k1;cases k1;rcases h3 with ⟨g1,rfl,_,rfl⟩ | ⟨i,rows,_,_,rfl,_⟩
    ·rcases k3 with ⟨_,rfl,_⟩ | ⟨i,rows,g2,_⟩
     ·exact λ _=>by decide
     ·exact absurd g2 (g1 i rows)
    ·exact λ h=>absurd rfl h
   ·exact absurd h1 (k1 x)
  ·rcases h2 with ⟨x2,k1,k3⟩ | ⟨k1,rfl,_⟩
   ·exact absurd k1 (h1 x2)
   ·exact λ _=>by decide
/-! ### CatalogRows -/
end Go.Proofs.YtpnaifmmggnimaaGreatDoor
namespace Go.Proofs.YtpnaifmmggnimaaGreatDoor
set_option maxRecDepth 100000
open Go.Dn Go.Proofs
open Go.RowKit (Below)
set_option linter.unusedVariables false
/-! ### a snapshot read anew -/
end Go.Proofs.YtpnaifmmggnimaaGreatDoor
namespace Go.Proofs.YtpnaifmmggnimaaGreatDoor
open _root_.List renaming length_append -> Alb
set_option maxRecDepth 100000
open Go.Dn Go.Proofs
open Go.RowKit (Below)
set_option linter.unusedVariables false
def Hb(a:Option Addr)(c:Nat)(fs:List Jq):It:=It.row ty.Gx 2 a fs.length c (Bt fs)
theorem Aka:M9 Tryz.prog 32=some (ty.Gx,2,32,.agg #[.string ⟨#[]⟩,.string ⟨#[]⟩]):=by kernel_rfl
theorem AeI(fs:List Jq):(Bt fs).length=fs.length*2:=by
 induction fs with
 | nil=>rfl
 | cons p ps ih =>
  show ([Value.string p.1,.string p.2]++Bt ps).length=_;rw [Alb,ih,List.length_cons];simp only [List.length_cons,List.length_nil];omega
theorem AeJ(fs:List Jq):∀ u∈Bt fs,u.oneCell'=true:=by
 intro u hu;obtain⟨v,_,hv⟩:=List.mem_flatMap.1 hu;simp only [List.mem_cons,List.not_mem_nil,or_false] at hv;rcases hv with rfl | rfl <;> rfl
theorem Yf(fs gs:List Jq):Bt (fs++gs)=Bt fs++Bt gs:=by simp [Bt]
structure Itm where
 x0:Int
 x1:Int
 x2:Int
 a3:Option Addr
 c3:Nat
 cs:List BQ
 a4:Option Addr
 c4:Nat
 ps:List BF
 x5:Int
 x6:Int
 x7:Bool
 x8:ByteArray
def UZ(t:Itm):List Value:=[.int .i64 t.x0,.int .i64 t.x1,.int .i64 t.x2,.slice t.a3 t.cs.length t.c3,.slice t.a4 t.ps.length t.c4,.int .i64 t.x5,.int .i64 t.x6,.bool t.x7,.string t.x8]
def Aah(ts:List Itm):List Value:=ts.flatMap UZ
structure Ue(w:World)(t:Itm):Prop where
 h0 : -9223372036854775808<=t.x0/\t.x0<=9223372036854775807
 h5 : -9223372036854775808<=t.x5/\t.x5<=9223372036854775807
 h6 : -9223372036854775808<=t.x6/\t.x6<=9223372036854775807
 h8:t.x8.size<=140737488355328
 AM:Rd w t.a3 (BM t.cs)
 hn:t.cs.length<=9223372036854775807
 hq:∀ c∈t.cs,c.1.size<=9223372036854775807
 rows:Ba w t.a4 t.ps
 hm:t.ps.length<=9223372036854775807
 hv:∀ r∈rws t.ps,∀ v∈r,BL v
 hp:t.ps.length<=t.c4
theorem Aai(ts:List Itm)(i j:Nat)(hi:i<ts.length)(hj:j<9):(Aah ts)[i*9+j]?=(UZ ts[i])[j]?:=by
 induction ts generalizing i with
 | nil=>simp at hi
 | cons p ps ih =>
  show (UZ p++Aah ps)[_]?=_;cases i with
  | zero=>rw [Nat.zero_mul,Nat.zero_add,List.getElem?_append_left (by simp [UZ];omega)];rfl
  | succ i =>
   rw [List.getElem?_append_right (by simp [UZ];omega)];rw [show (i+1)*9+j-(UZ p).length=i*9+j by simp [UZ];omega,ih i (by simpa using hi)];rfl
section
variable {w0 w:World}{H:List It}
theorem AgC{a:Option Addr}{ts:List Itm}(h:Rd w a (Aah ts)){i:Nat}(hi:i<ts.length):∃ p,a=some p/\∀ j (hj:j<9) v,(UZ ts[i])[j]?=some v->w.cell? ((p.add (i*9)).add j)=some v:=by
 obtain⟨p,hp,_⟩:=h (i*9+0) _ (by rw [Aai ts i 0 hi (by omega)];rfl);refine⟨p,hp,λ j hj v hv=>?_⟩;obtain⟨q,hq,hc⟩:=h (i*9+j) v (by rw [Aai ts i j hi hj];exact hv);rw [hp] at hq;cases hq;rw [BH];exact hc
theorem Air(S:ST w0 w H){n:Nat}{ac:Option Addr}{cx:Nat}{xs qs:List Jq}{aq:Option Addr}{cq:Nat}(hn:H[n]?=some (Hb ac cx xs))(hs:Rd w aq (Bt qs))(hl:xs.length+qs.length<=1000000){f:Value->World->Prop}
  (hf:∀ a' c' w',ST w0 w' (H.set n (Hb a' c' (xs++qs)))->f (.slice a' (xs++qs).length c') w') :
  DB Tryz.prog (Builtin.append_ #[32,32] 32 #[.slice ac xs.length cx,.slice aq qs.length cq]) f w:=by
 refine S.app n hn Aka rfl (by omega) (by omega) hs (AeI qs) (AeJ qs) (by omega) λ a' c' w' S'=>?_;rw [<- Yf] at S';have:=hf a' c' w' (by unfold Hb;rw [Alb];exact S');rwa [Alb] at this
theorem Yo{b cc pc kc:Nat}{ca pa ka:Option Addr}{C:VT}{ra:Option Addr}{rc:Nat}{gs:List Grp}(S:ST w0 w (DO b ca cc pa pc ka kc C++H))(hC:DJ C)(hg:Rd w ra (gs.map UM))(q9:gs.length=C.parts.length)(iU:∀ g∈gs,Nd g)(oZ:∀ g∈gs,Ba w g.1 g.2.2){t:Itm}(ht:Ue w t) :
  Calls Tryz.prog f.Ns #[.pointer (some ⟨b,0,none⟩),.slice ra gs.length rc,.agg #[.int .i64 t.x0,.int .i64 t.x1,.int .i64 t.x2,.slice t.a3 t.cs.length t.c3,.slice t.a4 t.ps.length t.c4,.int .i64 t.x5,.int .i64 t.x6,.bool t.x7,.string t.x8]] w (AG λ v w'=>∃ s:ByteArray,v=.string s/\s.size<=140737488355328/\Below w.heap.size w w') :=
 Ab7 S hC hg q9 iU oZ t.x0 t.x1 t.x2 t.x5 t.x6 ht.h0 ht.h5 ht.h6 t.a3 t.a4 t.c3 t.c4 t.x7 t.x8 ht.h8 ht.AM ht.hn ht.hq ht.rows ht.hm ht.hv ht.hp
theorem Ue.grown{t:Itm}(h:Ue w t){w':World}(B:Below w.heap.size w w'):Ue w' t:=⟨h.h0,h.h5,h.h6,h.h8,h.AM.grown B,h.hn,h.hq,h.rows.grown B,h.hm,h.hv,h.hp⟩
end
end Go.Proofs.YtpnaifmmggnimaaGreatDoor
namespace Go.Dn
open _root_.List renaming getElem?_eq_getElem -> Al5, getElem?_map -> AmP
set_option maxRecDepth 100000
set_option linter.unusedVariables false
variable {H:Type}{enc:TypeId × Value->H}
theorem SR{P:Program}{e:TypeId}:∀ {ds:List (DataW H)} {i:Nat} {d:DataW H},ds[i]?=some d->∀ m∈d.weights P e,m∈DataW.weightsAll P e ds
 | x :: ds,0,d,h,m,hm=>by
  simp only [List.getElem?_cons_zero,Option.some.injEq] at h;subst h;unfold DataW.weightsAll;exact List.mem_append_left _ hm
 | x :: ds,i+1,d,h,m,hm=>by
  unfold DataW.weightsAll;exact List.mem_append_right _ (SR (by simpa using h) m hm)
theorem AfA{P:Program}{ts:List TypeId}{ds:List (DataW H)}(hZ:(DataW.weightsEach P ts ds).all (·<=reachBytes)=true){j:Nat}{t e:TypeId}{d:DataW H}(ht:ts[j]?=some t)(hd:ds[j]?=some d)(hu:P.underlying t=some (.slice e))
  {W:World} {base fuel:Nat} {held:Bool} {a:Option Addr} {l c:Nat} {p:List MemPlace} (hf:DataW.trod enc P W base (λ _=>true) held fuel t (Value.slice a l c).cells.toList=some (d,p))
  {fs:Array Field} (he:P.underlying e=some (.struct fs)) {k:Nat} {f:Field} (hk:fs.toList[k]?=some f) (hfs:P.underlying f.type=some .string) (gC:P.cellsOf f.type=1)
  {i:Nat} (hi:i<l) {s:ByteArray} {b:Addr} (ha:a=some b) (hs:W.cell? ((b.add (i*P.cellsOf e)).add f.offset)=some (.string s)):s.size<=reachBytes:=by
 rcases DataW.trod_slice hu hf with ⟨hc,_⟩ | ⟨a',len,cap,elems,rest,n,_,hc,hx,_,hl,_,hlen,hel,_,_⟩
 ·have:[Value.slice a l c]=[Value.slice none 0 0]:=hc;simp at this;omega
 ·have dr:[Value.slice a l c]=[Value.slice (some a') len cap]:=hc;simp only [List.cons.injEq,Value.slice.injEq,and_true] at dr;obtain⟨e1,rfl,rfl⟩:=dr;rw [ha] at e1;cases e1;simp only [Prod.mk.injEq] at hx;have h1:=hel i hi;rw [Al5 (by omega)] at h1;obtain⟨aC,h2,h3⟩:=Option.bind_eq_some_iff.1 h1;cases n with
  | zero=>simp [DataW.trod] at h3
  | succ n =>
   unfold DataW.trod at h3;rw [he] at h3;simp only at h3;split at h3
   ·rename_i bN;obtain⟨xs,bP,hy⟩:=Option.map_eq_some_iff.1 h3;have hg:=mapM_some_get bP k f hk;have dB:=mapM_some_length bP;have aO:=(List.getElem?_eq_some_iff.1 hk).1;rw [Al5 (by omega)] at hg;obtain⟨s',je,eJ,_⟩:=DataW.trod_string hfs hg;rw [gC] at je;have h4:aC[f.offset]?=some (.string s'):=by
     have:=congrArg (λ x:List Value=>x[0]?) je;simpa [List.getElem?_take,List.getElem?_drop] using this
    have q7:=(List.getElem?_eq_some_iff.1 h4).1;have h5:=(World.cells?_some h2).2.2 f.offset (by rw [<- bN];exact q7);rw [hs,h4] at h5;cases h5;have h6:s.data.toList.length∈d.weights P t:=by
     rw [hx.1];unfold DataW.weights;rw [hu];refine List.mem_cons_of_mem _ (List.mem_append_left _ (SR (i:=i) (d:=elems[i].1) (by rw [AmP,Al5 (by omega)];rfl) _ ?_));rw [<- hy];unfold DataW.weights;rw [he];refine DataW.weights_mem_each (j:=k) (t:=f.type) (d:=xs[k].1) ?_ ?_ _ ?_
     ·rw [AmP,hk];rfl
     ·rw [AmP,Al5 (by omega)];rfl
     ·rw [eJ];simp [DataW.weights]
    have h7:=List.all_eq_true.1 hZ _ (DataW.weights_mem_each ht hd _ h6);simpa using h7
   ·cases h3
end Go.Dn
namespace Go.Proofs.YtpnaifmmggnimaaGreatDoor
open _root_.Int renaming toNat_natCast -> Ale
open _root_.List.Sublist renaming refl -> AmX
open _root_.List renaming perm_append_comm -> Am4
open _root_.Nat renaming le_trans -> Als
set_option maxRecDepth 100000
open Go.Dn Go.Proofs
open Go.RowKit (Below)
set_option linter.unusedVariables false
theorem Ajp:Pu Tryz.prog ty.LM=some [(ty.int,0),(ty.int64,1),(ty.int64,2),(ty.AX,3),(ty.Ce,4),(ty.int,5),(ty.int,6),(ty.bool,7),(ty.string,8)]:=by kernel_rfl
theorem ZQ:Tryz.prog.cellsOf ty.LM=9:=by kernel_rfl
theorem Ab0:Tryz.prog.cellsOf ty.AX=1:=by kernel_rfl
theorem Ab1:Tryz.prog.cellsOf ty.Ce=1:=by kernel_rfl
theorem Ahu:Tryz.prog.underlying ty.AX=some (.slice ty.Dg):=by kernel_rfl
theorem Ahv:Tryz.prog.underlying ty.Ce=some (.slice ty.CG):=by kernel_rfl
theorem Acj{x:Int}(h:(Lit.int .i64 x).wf=true) : -9223372036854775808<=x/\x<=9223372036854775807:=by
 simpa [Lit.wf,IntKind.min,IntKind.max,IntKind.signed,IntKind.bits] using h
structure AiN(w:World)(t:Itm):Prop where
 ok:t.x8.size<=140737488355328->Ue w t
theorem JE{w:World}:∀ m r,r.length=Tryz.prog.cellsOf ty.LM->Go.Dn.Good Tryz.prog w m ty.LM r->∃ x,r=UZ x/\AiN w x:=by
 intro m r hl h;obtain⟨_,n,hf⟩:=h.fields Ajp;rw [ZQ] at hl
 match r,hl with
 | [v0,v1,v2,v3,v4,v5,v6,v7,v8],_ =>
  simp only [List.mem_cons,List.not_mem_nil,or_false,forall_eq_or_imp,forall_eq,QU,Si,Ur,Mw,Ab0,Ab1] at hf;obtain⟨h0,h1,h2,h3,h4,h5,h6,h7,h8⟩:=hf;obtain⟨x0,e0,q0⟩:=h0.int Qu;obtain⟨x1,e1,_⟩:=h1.int Sc;obtain⟨x2,e2,_⟩:=h2.int Sc;obtain⟨a3,c3,cs,e3,g3⟩:=h3.list Ahu _ _ Tg;obtain⟨a4,c4,ps,e4,g4⟩:=h4.list Ahv _ _ Yh;obtain⟨x5,e5,q5⟩:=h5.int Qu;obtain⟨x6,e6,q6⟩:=h6.int Qu;obtain⟨x7,e7⟩:=h7.bool XB;obtain⟨x8,e8,_⟩:=h8.str VH;obtain⟨k1,k2,k3⟩:=Af9 g3;obtain⟨r1,r2,r3,_⟩:=Ag7 g4;simp only [List.drop_zero,List.take_succ_cons,List.take_zero,List.drop_succ_cons,List.cons.injEq,and_true] at e0 e1 e2 e3 e4 e5 e6 e7 e8;refine⟨⟨x0,x1,x2,a3,c3,cs,a4,c4,ps,x5,x6,x7,x8⟩,?_,⟨λ hz=>⟨Acj q0,Acj q5,Acj q6,hz,k1,k2,k3,r1,r2,r3,g4.1⟩⟩⟩;rw [e0,e1,e2,e3,e4,e5,e6,e7,e8];rfl
def XQ(w:World)(a:Option Addr)(n:Nat):Prop:=∀ i<n,∀ b s,a=some b->w.cell? ((b.add (i*9)).add 8)=some (.string s)->s.size<=reachBytes
theorem OK{w:World}{a:Option Addr}{ts:List Itm}{c:Nat}(g:GL w UZ (AiN w) a ts c)(z:XQ w a ts.length) :
  Rd w a (Aah ts)/\(∀ t∈ts,Ue w t)/\ts.length<=9223372036854775807:=by
 refine⟨g.2.2.2.1,λ t ht=>(g.2.2.2.2 t ht).ok ?_,Als (Als g.1 g.2.1) (by decide)⟩;obtain⟨i,hi,rfl⟩:=List.getElem_of_mem ht;obtain⟨p,hp,hc⟩:=AgC g.2.2.2.1 hi;exact Als (z i hi p _ hp (hc 8 (by omega) _ rfl)) (by decide)
structure AjA(w wx:World)(bc bm b:Nat)(i:Nat)(C:BX)(D:VT)(fs:List Jq)(gs:List Grp)(fa:Option Addr)(fc:Nat)(ra:Option Addr):Prop where
 inv:Iy C
 doc:DJ D
 nf:fs.length<=i
 sz:∀ f∈fs,f.2.size<=140737488355328
 all:∀ p∈D.parts,∃ f∈fs,f.1=p.1
 gl:gs.length=D.parts.length
 go:∀ g∈gs,Nd g
 rd:Rd wx ra (gs.map UM)
 ga:∀ g∈gs,Ba wx g.1 g.2.2
 st:∃ ca cc pa pc n da dc dC dD ka kc,(ca=none↔C.AM=[])/\n<=i/\ST w wx (BV bc ca cc pa pc bm n C++(DO b da dc dC dD ka kc D++[Hb fa fc fs]))
section
variable {w:World}
theorem AeZ{w1 w2:World}{bc bm:Nat}(B1:Below w.heap.size w w1)(S:ST w1 w2 (BV bc none 0 none 0 bm 0 ⟨[],[],[]⟩)){k:Nat->World->Prop}
  (hk:∀ b w3,AjA w w3 bc bm b 0 ⟨[],[],[]⟩ ⟨[],[],[]⟩ [] [] none 0 none->k b w3):DM #[.slice none 0 0,.slice none 0 0,.slice none 0 0] ty.Fk k w2:=by
 have S:=((ST.start w).grown B1).join S;refine S.An λ b6 w3 _ _ S=>hk b6 w3 ?_;have S:=((S.nil ty.J0 4).nil ty.KZ 2).nil ty.Dg 3;have S:ST w w3 (DO b6 none 0 none 0 none 0 ⟨[],[],[]⟩++BV bc none 0 none 0 bm 0 ⟨[],[],[]⟩):=S.pull 3 rfl;have S:=S.nil ty.Gx 2;have S:ST w w3 (BV bc none 0 none 0 bm 0 ⟨[],[],[]⟩++(DO b6 none 0 none 0 none 0 ⟨[],[],[]⟩++[Hb none 0 []])):=by
  refine S.perm ?_;refine (Am4 (l₁:=It.row ty.Gx 2 none 0 0 [] :: DO b6 none 0 none 0 none 0 ⟨[],[],[]⟩) (l₂:=BV bc none 0 none 0 bm 0 ⟨[],[],[]⟩)).trans ?_;exact List.Perm.append_left _ (Am4 (l₁:=[Hb none 0 []]) (l₂:=DO b6 none 0 none 0 none 0 ⟨[],[],[]⟩))
 exact⟨⟨⟨by simp,by simp,by simp,.inl rfl⟩,by decide,λ _=>rfl⟩,⟨by simp,by simp,by simp,.inl rfl⟩,by simp,by simp,by simp,rfl,by simp,Rd.nil _ _,by simp,_,_,_,_,_,_,_,_,_,_,_,⟨λ _=>rfl,λ _=>rfl⟩,Nat.le_refl 0,S⟩
end
section
variable {w:World}{sa:Option Addr}{sc:Nat}{ts:List Itm}
end
section
variable {w0 w:World}{H:List It}{b cc pc kc:Nat}{ca pa ka:Option Addr}{C:VT}{fa:Option Addr}{fc:Nat}{fs:List Jq}
set_option maxHeartbeats 1000000 in
theorem AgD(S:ST w0 w (DO b ca cc pa pc ka kc C++H))(hC:DJ C)(hf:Rd w fa (Bt fs))(cd:fs.length<=1000000)(aw:∀ f∈fs,f.2.size<=140737488355328) :
  Calls Tryz.prog f.Acp #[.pointer (some ⟨b,0,none⟩),.slice fa fs.length fc] w (AG λ v w'=>∃(oa:Option Addr) (oc:Nat) (gs:List Grp),v=.tuple #[.slice fa fs.length fc,.slice oa gs.length oc]/\gs.length<=C.parts.length/\(∀ g∈gs,Nd g)/\ST w w' (W3 oa oc gs :: gs.flatMap Q6)):=by
 apply R.Rc
 delta R.Adp R.D R.F R.H R.I R.J R.Ks R.Ls R.Lt R.N R.O R.EM R.S R.T R.W R.X;try dsimp only [R.Ps]
 have kA:=hC.np;refine⟨λ s wx=>∃(i:Nat) (gs:List Grp) (oa:Option Addr) (oc:Nat),s=[.slice oa gs.length oc,.int .i64 (i:Int)]/\i<=C.parts.length/\gs.length<=i/\(∀ g∈gs,Nd g)/\ST w wx (W3 oa oc gs :: gs.flatMap Q6),λ s _=>match s with
  | [_,.int _ i]=>C.parts.length-i.toNat
  | _=>0,⟨0,[],none,0,rfl,by omega,by simp,by simp,(ST.start w).nil _ _⟩,?_⟩
 rintro oa _ oc _ w1 ⟨i,gs,_,_,aA,hi,q9,iU,P⟩;cases aA;have S1:=S.grown P.Ar;refine⟨_,_,_,S1.cell 0 rfl rfl,Aa (λ aB=>?_) (λ aI=>⟨oa,oc,gs,rfl,by omega,iU,P⟩)⟩;have aD:i<C.parts.length:=by omega
 refine⟨λ s wx=>∃ k:Nat,s=[.slice oa gs.length oc,.int .i64 (k:Int)]/\k<=fs.length/\(∀ j (hj:j<fs.length),j<k->fs[j].1≠C.parts[i].1)/\ST w wx (W3 oa oc gs :: gs.flatMap Q6),λ s _=>match s with
  | [_,.int _ k]=>fs.length-k.toNat
  | _=>0,⟨0,rfl,by omega,λ j _ hj=>by omega,P⟩,?_⟩
 clear P S1;rintro _ _ _ _ w2 ⟨k,aA,hk,aP,P⟩;cases aA;refine Aa (λ ao=>?_) (λ br=>?_);rotate_left
 ·rw [Ae (by omega)];exact⟨⟨i+1,gs,oa,oc,rfl,by omega,by omega,iU,P⟩,by simp only [Ale];omega⟩
 have aO:k<fs.length:=by omega
 refine P.draw λ w3 B3 P=>?_;have S3:=S.grown P.Ar;obtain⟨p,hp,c0,c1⟩:=AhV (hf.grown P.Ar) aO;obtain⟨q,hq,d0,_⟩:=JT (S3.rd 2 rfl) aD;subst hp;refine⟨⟨by omega,by omega⟩,_,by rw [Ale];exact c0,_,_,_,S3.cell 0 rfl rfl,⟨by omega,by omega⟩,?_⟩;subst hq;refine⟨_,by rw [Ale];exact d0,?_⟩;rw [A0];refine Aa (λ he=>?_) (λ he=>?_);rotate_left
 ·rw [Ae (by omega)];refine⟨⟨k+1,rfl,by omega,λ j hj vU=>?_,P⟩,by simp only [Ale];omega⟩;by_cases h:j<k
  ·exact aP j hj h
  ·obtain rfl:j=k:=by omega
   exact he
 refine⟨⟨by omega,by omega⟩,_,by rw [Ale];exact c1,(Nw fs[k].2 (aw _ (List.getElem_mem aO))).mono ?_⟩;rintro _ w4 ⟨_,rfl,B4,hR⟩;have fin:∀(g:Grp) {x1:Option Addr} {x2 x3:Nat},Nd g->ST w3 w4 (Q6 g)->UM g=.slice x1 x2 x3->DM #[.slice x1 x2 x3] ty.Ce (λ p8 w5=>DB Tryz.prog (Builtin.append_ #[33,33] 33 #[.slice oa gs.length oc,.slice (some ⟨p8,0,none⟩) 1 1]) (λ r w6=>∃(t:Option Addr) (tl tc:Nat),r=.slice t tl tc /\
   (∃(i':Nat) (kO:List Grp) (yg:Option Addr) (yi:Nat),[Value.slice t tl tc,.int .i64 (IntKind.i64.wrap ((i:Int)+1))]=[.slice yg kO.length yi,.int .i64 (i':Int)]/\i'<=C.parts.length/\kO.length<=i'/\(∀ g∈kO,Nd g)/\ST w w6 (W3 yg yi kO :: kO.flatMap Q6))/\C.parts.length-(IntKind.i64.wrap ((i:Int)+1)).toNat<C.parts.length-((i:Int)).toNat) w5) w4:=λ g x1 x2 x3 hg T hv=>by
  have P:=P.join T;refine P.An λ p8 w5 _ _ P=>?_;have P:ST w w5 (It.cells p8 #[.slice x1 x2 x3] ty.Ce :: W3 oa oc gs :: (Q6 g++gs.flatMap Q6)):=P.perm (.cons _ List.perm_middle);refine P.app 1 rfl Akb rfl (by omega) (by omega) (news:=[.slice x1 x2 x3]) (P.GD 0 rfl) (mm:=1) rfl (by simp;rfl) (by omega) λ a' c' w6 P=>⟨_,_,_,rfl,?_⟩;rw [Ae (by omega)];have e1:gs.length+1=(gs++[g]).length:=by simp
  have e2:gs.map UM++[.slice x1 x2 x3]=(gs++[g]).map UM:=by simp [hv]
  rw [e1,e2] at P;rw [e1];refine⟨⟨i+1,gs++[g],a',c',rfl,by omega,by rw [List.length_append];simp only [List.length_cons,List.length_nil];omega,λ g' bC=>?_,?_⟩,by simp only [Ale];omega⟩
  ·rcases List.mem_append.1 bC with h | h
   ·exact iU g' h
   ·rw [List.mem_singleton.1 h];exact hg
  ·have P:=P.drop 1;refine P.perm (.cons _ ?_);rw [List.flatMap_append];simpa using Am4 (l₁:=Q6 g) (l₂:=gs.flatMap Q6)
 rcases hR with ⟨cs,ps,a4,c4,bo,rfl,aj,rz,aK,hI,hG⟩ | ⟨rfl,_⟩ | ⟨rfl,_⟩
 ·have bM:ps.length<=1024:=by have:=aK.len;simpa [rws] using this
  exact⟨_,_,_,_,_,_,_,rfl,fin (some ⟨bo,0,none⟩,ps.length,ps) ⟨.inr ⟨bo,rfl⟩,bM,aK.ok⟩ hG rfl⟩
 ·exact⟨_,_,_,_,_,_,_,rfl,fin (none,0,[]) ⟨.inl ⟨rfl,rfl⟩,by simp,by simp⟩ ((ST.start w3).grown B4) rfl⟩
 ·exact⟨_,_,_,_,_,_,_,rfl,fin (none,0,[]) ⟨.inl ⟨rfl,rfl⟩,by simp,by simp⟩ ((ST.start w3).grown B4) rfl⟩
end
theorem XK.some{C:BX}{s:ByteArray}{d:Nat × Nat}{fs:List Jq}{C':BX}(h:XK C s d fs C')(hf:0<fs.length):0<s.size:=by
 rcases h with ⟨_,_,rfl,_⟩ | ⟨h,_⟩
 ·simp at hf
 ·exact h
theorem size_pos{s:ByteArray}(h:AY s ⟨#[]⟩=false):0<s.size:=by
 rcases Nat.eq_zero_or_pos s.size with h0 | h0
 ·have hd:s.data.size=0:=h0;cases s with
  | mk d =>
   have:d=#[]:=Array.eq_empty_of_size_eq_zero hd;subst this;rw [A0] at h;simp at h
 ·exact h0
theorem AgG{w:World}{KF Yp:Prop}{p q:Addr}{d e:Nat}(hY:Yp)(c1:w.cell? p=some (.int .i64 (d:Int)))(c2:w.cell? q=some (.int .i64 (e:Int)))(h:d≠0->e≠0) :
  ∃ t:Int,w.cell? p=some (.int .i64 t)/\VS (t != 0) (∃ u:Int,w.cell? q=some (.int .i64 u)/\VS (u==0) KF Yp) Yp :=
 ⟨_,c1,Ah (λ h1=>⟨_,c2,Ao (λ h2=>absurd (by omega) (h (by omega))) (λ _=>hY)⟩) (λ _=>hY)⟩
theorem AgF{w:World}{KF Z:Prop}{p p1 q q1:Addr}{d e d' e':Nat}{s:ByteArray}(hZ:Z)(c1:w.cell? p=some (.int .i64 (d:Int)))(c2:w.cell? p1=some (.int .i64 (d':Int)))(c3:w.cell? q=some (.int .i64 (e:Int)))(c4:w.cell? q1=some (.int .i64 (e':Int)))(h:(Aw s 0).toNat=2->e=d/\e'=d') :
  VS (!AY s ⟨#[]⟩) (((0:Int)<=0/\0<(s.size:Int))/\VS (((Aw s 0).toNat:Int)==2) (∃ a:Int,w.cell? p=some (.int .i64 a)/\∃ b:Int,w.cell? p1=some (.int .i64 b)/\∃ c:Int,w.cell? q=some (.int .i64 c)/\∃ f:Int,w.cell? q1=some (.int .i64 f)/\VS (!((a==c) && ((b==f) && true))) KF Z) Z) Z :=
 As (Aq (λ _=>hZ) (λ hb=>⟨⟨by omega,by have:=size_pos hb;omega⟩,Ao (λ h2=>⟨_,c1,_,c2,_,c3,_,c4,by
  obtain⟨rfl,rfl⟩:=h (by omega);exact As (Aq (λ _=>hZ) (λ h=>by simp at h))⟩) (λ _=>hZ)⟩))
theorem AgE{KF X:Prop}{n:Nat}{s:ByteArray}(hX:X)(h:0<n->0<s.size/\(Aw s 0).toNat≠2) :
  VS (decide ((n:Int) > 0)) (((0:Int)<=0/\0<(s.size:Int))/\VS (((Aw s 0).toNat:Int)==2) KF X) X :=
 Aa (λ hn=>⟨⟨by omega,by have:=(h (by omega)).1;omega⟩,Ao (λ h2=>absurd (by omega) (h (by omega)).2) (λ _=>hX)⟩) (λ _=>hX)
structure AiO(w wx:World)(bc bm b:Nat)(i:Nat)(C:BX)(D:VT)(fs:List Jq)(gs:List Grp)(fa:Option Addr)(fc:Nat)(ra:Option Addr):Prop where
 inv:Iy C
 doc:DJ D
 nf:fs.length<=i
 sz:∀ f∈fs,f.2.size<=140737488355328
 gl:gs.length=D.parts.length
 go:∀ g∈gs,Nd g
 rd:Rd wx ra (gs.map UM)
 ga:∀ g∈gs,Ba wx g.1 g.2.2
 st:∃ ca cc pa pc n da dc dC dD ka kc,(ca=none↔C.AM=[])/\n<=2*i/\ST w wx (BV bc ca cc pa pc bm n C++(DO b da dc dC dD ka kc D++[Hb fa fc fs]))
section
variable {w:World}{sa:Option Addr}{sc:Nat}{ts:List Itm}
set_option maxHeartbeats 4000000 in
theorem OZ(T:I5 w)(hsa:Rd w sa (Aah ts))(hts:∀ t∈ts,Ue w t)(hn:ts.length<=9223372036854775807) :
  Calls Tryz.prog f.HL #[.slice sa ts.length sc] w (AG λ v w'=>v=.bool true/\Below w.heap.size w w'):=by
 apply R.IH
 delta R.A R.Ab R.A7 R.Ajt R.Cb R.Cp R.Cs R.Ct R.E R.F R.G R.I R.J R.Ks R.Lb R.Li R.Ls R.Lt R.N R.O R.P R.Zz R.S R.Am R.T R.W R.X R.Z;try dsimp only [R.Ps]
 refine (Aha T).mono ?_;rintro _ w1 ⟨_,rfl,rfl,B1⟩;refine⟨_,rfl,(AfV w1).mono ?_⟩;rintro _ w2 ⟨_,rfl,bc,bm,rfl,S0⟩;refine⟨_,rfl,AeZ B1 S0 λ b6 w3 L0=>?_⟩;refine⟨λ s wx=>∃(i:Nat) (C:BX) (D:VT) (fs:List Jq) (gs:List Grp) (fa:Option Addr) (fc:Nat) (ra:Option Addr) (rc:Nat),s=[.slice fa fs.length fc,.slice ra gs.length rc,.int .i64 (i:Int)]/\i<=40/\i<=ts.length/\AiO w wx bc bm b6 i C D fs gs fa fc ra,λ s _=>match s with
  | [_,_,.int _ i]=>ts.length-i.toNat
  | _=>0,⟨0,_,_,_,_,_,_,_,0,rfl,by omega,by omega,L0.inv,L0.doc,L0.nf,L0.sz,L0.gl,L0.go,L0.rd,L0.ga,L0.st⟩,?_⟩
 rintro fa _ fc ra _ rc _ w4 ⟨i,C,D,fs,gs,_,_,_,_,aA,hi60,hi,L⟩;cases aA;obtain⟨ca,cc,pa,pc,n,da,dc,dC,dD,ka,kc,bh,nU,S⟩:=L.st;refine Aa (λ aB=>Aa (λ ao=>?_) (λ _=>⟨rfl,S.Ar⟩)) (λ _=>⟨rfl,S.Ar⟩);have aD:i<ts.length:=by omega
 obtain⟨p,hp,hc⟩:=AgC (hsa.grown S.Ar) aD;obtain⟨t,het⟩:∃ t,t=ts[i]:=⟨_,rfl⟩;have ya:=(hts ts[i] (List.getElem_mem aD)).grown S.Ar;rw [<- het] at hc ya;have c0:=hc 0 (by omega) _ rfl;rw [C0] at c0;subst hp;refine⟨⟨by omega,aB⟩,?_⟩;simp only [Av,Ale];refine⟨_,c0,_,hc 1 (by omega) _ rfl,_,hc 2 (by omega) _ rfl,_,_,_,hc 3 (by omega) _ rfl,_,_,_,hc 4 (by omega) _ rfl,_,hc 5 (by omega) _ rfl,_,hc 6 (by omega) _ rfl,_,hc 7 (by omega) _ rfl,_,hc 8 (by omega) _ rfl,?_⟩;refine (Yo (S.drop 4) L.doc L.rd L.gl L.go L.ga ya).mono ?_;rintro _ w5 ⟨_,rfl,s,rfl,hs,B5⟩;have S:=S.grown B5;refine⟨_,rfl,(ZH T S L.inv.ok bh nU (by omega) s).mono ?_⟩;rintro _ w6 ⟨_,rfl,d,fs1,C',xn,iR,oQ,pb,pd,n',hQ,rfl,ui,cm,S⟩;obtain⟨d1,d2⟩:=d;have kQ:=hQ.inv L.inv;refine⟨_,_,_,_,_,rfl,S.An λ gT w7 _ _ S=>S.BP 0 rfl (aC:=#[.int .i64 (d1:Int),.int .i64 0]) (by simp) rfl λ w8 S=>S.BP 0 rfl (aC:=#[.int .i64 (d1:Int),.int .i64 (d2:Int)]) (by simp) rfl λ w9 S=>?_⟩
 have S:ST w w9 (BV bc iR oQ pb pd bm n' C'++(It.cells gT #[.int .i64 (d1:Int),.int .i64 (d2:Int)] ty.AZ :: (DO b6 da dc dC dD ka kc D++[Hb fa fc fs]))) :=
  (S.sub (.cons_cons _ (.cons _ (AmX _)))).perm List.perm_middle.symm
 refine (Ug S kQ.ok.np).mono ?_;rintro _ bV ⟨_,rfl,lE,lG,rfl,zT⟩;have S:ST w bV (Dl lE lG C'.parts :: (BV bc iR oQ pb pd bm n' C'++(It.cells gT #[.int .i64 (d1:Int),.int .i64 (d2:Int)] ty.AZ :: (DO b6 da dc dC dD ka kc D++[Hb fa fc fs])))):=S.join zT;have S:ST w bV (BV bc iR oQ pb pd bm n' C'++(Dl lE lG C'.parts :: It.cells gT #[.int .i64 (d1:Int),.int .i64 (d2:Int)] ty.AZ :: (DO b6 da dc dC dD ka kc D++[Hb fa fc fs]))):=S.perm List.perm_middle.symm;refine⟨_,_,_,rfl,(ZH T S kQ.ok ui cm (by omega) s).mono ?_⟩;rintro _ aY ⟨_,rfl,dd,tn,C2,fa1',fe,fF,ov,ow,n2,uH,rfl,jH,gI,S⟩;obtain⟨pC,rO⟩:=dd;have oT:=uH.inv kQ;have ot:=hQ.Ahs uH;refine⟨_,_,_,_,_,rfl,S.An λ mB bK _ _ S=>S.BP 0 rfl (aC:=#[.int .i64 (pC:Int),.int .i64 0]) (by simp) rfl λ al S=>S.BP 0 rfl (aC:=#[.int .i64 (pC:Int),.int .i64 (rO:Int)]) (by simp) rfl λ an S=>?_⟩;let D1:It:=It.cells gT #[.int .i64 (d1:Int),.int .i64 (d2:Int)] ty.AZ
 let D2:It:=It.cells mB #[.int .i64 (pC:Int),.int .i64 (rO:Int)] ty.AZ;have S:ST w an (DO b6 da dc dC dD ka kc D++(D2 :: (BV bc fe fF ov ow bm n2 C2++(Dl lE lG C'.parts :: D1 :: [Hb fa fc fs])))):=by
  have S1:ST w an ((D2 :: (BV bc fe fF ov ow bm n2 C2++[Dl lE lG C'.parts,D1]))++(DO b6 da dc dC dD ka kc D++[Hb fa fc fs])) :=
   S.sub (.cons_cons _ (.cons _ (AmX _)))
  exact S1.perm (List.perm_append_comm_assoc _ _ _)
 refine (Se S L.doc s hs).mono ?_;rintro _ ah ⟨_,rfl,e,fx,D',oS,da',dc',pe,pf,s4,s6,rfl,fz,gg,rb,yW,S⟩;obtain⟨e1,e2⟩:=e;refine⟨_,_,_,_,_,rfl,S.An λ rF cp _ _ S=>S.BP 0 rfl (aC:=#[.int .i64 (e1:Int),.int .i64 0]) (by simp) rfl λ cP S=>S.BP 0 rfl (aC:=#[.int .i64 (e1:Int),.int .i64 (e2:Int)]) (by simp) rfl λ eZ S=>?_⟩;have S:ST w eZ (DO b6 da' dc' pe pf s4 s6 D'++(It.rd oS (Bt fx) :: (D2 :: (BV bc fe fF ov ow bm n2 C2++(Dl lE lG C'.parts :: D1 :: [Hb fa fc fs]))))):=(S.drop 1).perm List.perm_middle.symm;refine (Se S fz s hs).mono ?_;rintro _ fB ⟨_,rfl,g,fs3,D2',tk,rM,rN,pg,ph,s5,s7,rfl,xv,_,_,_,S⟩;have S:ST w fB (BV bc fe fF ov ow bm n2 C2++((DO b6 rM rN pg ph s5 s7 D2'++[It.rd oS (Bt fx),D2])++[Dl lE lG C'.parts,D1,Hb fa fc fs])):=by
  have S1:ST w fB ((DO b6 rM rN pg ph s5 s7 D2'++[It.rd oS (Bt fx),D2])++(BV bc fe fF ov ow bm n2 C2++[Dl lE lG C'.parts,D1,Hb fa fc fs])):=S.drop 1;exact S1.perm (List.perm_append_comm_assoc _ _ _)
 have hnp2:=oT.ok.np;refine⟨_,_,_,_,_,rfl,λ st wx=>st=[]/\Below fB.heap.size fB wx,?_,?_⟩
 ·refine (Ug S oT.ok.np).mono ?_;rintro _ fC ⟨_,rfl,a62,c62,rfl,sv⟩;refine⟨_,_,_,rfl,(XT (sv.rd 0 rfl) ((S.grown sv.Ar).rd 10 rfl) (by omega)).mono ?_⟩;rintro _ fD ⟨_,rfl,iN,rfl⟩;have B:=Ac sv.Ar iN;have S:=S.grown B;have c1:fD.cell? ⟨gT,0,none⟩=some (.int .i64 (d1:Int)):=S.cell 11 rfl rfl;have c2:fD.cell? ⟨gT,1,none⟩=some (.int .i64 (d2:Int)):=S.cell 11 rfl rfl;have c3:fD.cell? ⟨mB,0,none⟩=some (.int .i64 (pC:Int)):=S.cell 9 rfl rfl;have c4:fD.cell? ⟨mB,1,none⟩=some (.int .i64 (rO:Int)):=S.cell 9 rfl rfl;have h2:(Aw s 0).toNat=2->pC=d1/\rO=d2:=λ h=>by
   have:=(ot.1 h).1;cases this;exact⟨rfl,rfl⟩
  have hlen:0<tn.length->0<s.size/\(Aw s 0).toNat≠2:=λ h=>⟨uH.some h,λ h2=>by rw [(ot.1 h2).2.1] at h;simp at h⟩;refine⟨_,rfl,As (Aa (λ _=>?_) (λ aQ=>?_))⟩
  ·exact AgE (AgF (AgG ⟨by first | rfl | trivial,B⟩ c1 c3 ot.2) c1 c2 c3 c4 h2) hlen
  ·refine Aa (λ y'=>⟨⟨by omega,by omega⟩,Ao (λ hk=>absurd ?_ aQ) (λ _=>?_)⟩) (λ _=>?_)
   ·rw [(ot.1 (by omega)).2.2]
   ·exact AgE (AgF (AgG ⟨by first | rfl | trivial,B⟩ c1 c3 ot.2) c1 c2 c3 c4 h2) hlen
   ·exact AgE (AgF (AgG ⟨by first | rfl | trivial,B⟩ c1 c3 ot.2) c1 c2 c3 c4 h2) hlen
 rintro iM ⟨_,ig⟩;have S:=S.grown ig;have yQ:=L.nf;refine Air S (n:=12) rfl (S.get 8 rfl) (by omega) λ a' c' fp S=>⟨_,_,_,rfl,?_⟩;have aw:∀ f∈fs++fx,f.2.size<=140737488355328:=λ f hf=>by
  rcases List.mem_append.1 hf with h | h
  ·exact L.sz f h
  ·exact rb f h
 have cd:(fs++fx).length<=i+1:=by rw [List.length_append];omega
 have SD:ST w fp (DO b6 rM rN pg ph s5 s7 D2'++[It.rd oS (Bt fx),D2,Dl lE lG C'.parts,D1,Hb a' c' (fs++fx)]):=S.drop 4;refine (AgD SD xv (S.rd 12 rfl) (by omega) aw).mono ?_;rintro _ fE ⟨_,rfl,oa,oc,kO,rfl,hgl',qA,T2⟩;have S:=S.grown T2.Ar;obtain⟨k1,k2⟩:=Ah1 T2 qA;refine⟨_,_,_,_,_,_,rfl,_,_,_,S.cell 4 rfl rfl,Ah (λ _=>⟨trivial,S.Ar⟩) (λ vJ=>?_)⟩;rw [Ae (by omega)];have vK:kO.length=D2'.parts.length:=by
  have:(kO.length:Int)=(D2'.parts.length:Int):=vJ;omega
 refine⟨⟨i+1,C2,D2',fs++fx,kO,a',c',oa,oc,rfl,by omega,by omega,oT,xv,cd,aw,vK,qA,k1,k2,fe,fF,ov,ow,n2,rM,rN,pg,ph,s5,s7,jH,by omega,?_⟩,by simp only [Ale];omega⟩;exact S.sub (List.Sublist.append (AmX _) (.cons_cons _ (.cons_cons _ (.cons_cons _ (.cons_cons _ (.cons _ (.cons _ (.cons _ (.cons _ (AmX _))))))))))
end
theorem Kb{w:World}(T:I5 w)(a:Option Addr)(ts:List Itm)(c:Nat)(g:GL w UZ (AiN w) a ts c)(_y:c*Tryz.prog.bytesOf ty.LM<=reachBytes)(z:XQ w a ts.length) :
  Calls Tryz.prog f.HL #[.slice a ts.length c] w (AG λ v w'=>v=.bool true/\Below w.heap.size w w') :=
 OZ T (OK g z).1 (OK g z).2.1 (OK g z).2.2
end Go.Proofs.YtpnaifmmggnimaaGreatDoor
