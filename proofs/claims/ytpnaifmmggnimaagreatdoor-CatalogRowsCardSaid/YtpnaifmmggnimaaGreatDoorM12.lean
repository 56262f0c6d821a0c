/-
  Texts of this claim, laid one behind the other by a program of mine (install.py): G.Cm4, G.Cm5, G.Cm6, G.Cm7, G.Cq1, Dn.Sized, G.CtArg, G.Cq2, G.Cq3, G.CaRows.
-/
import Derived.Test.YtpnaifmmggnimaaGreatDoorM11
import Derived.Test.YtpnaifmmggnimaaGreatDoorM10
import Derived.Test.YtpnaifmmggnimaaGreatDoorM1
import Derived.SizedLaws
import Derived.Test.YtpnaifmmggnimaaGreatDoorM9
namespace Go.Proofs.YtpnaifmmggnimaaGreatDoor
open _root_.List renaming mem_append -> AlY, mem_singleton -> AlZ
set_option maxRecDepth 100000
open Go.Dn Go.Proofs
open Go.RowKit (Below)
set_option linter.unusedVariables false
def Aam(l:List UInt8)(at_:Nat):Option ((List ByteArray × ByteArray) × Nat) :=
 (OT l 2 256 at_).bind λ n=>(Dy (Sr l) n.1 n.2).bind λ q=>(BD l (q.2:Int) 262144).map λ t=>((q.1,BC t.1),t.2)
def AjD(C:Cn)(l:List UInt8)(d:Nat × Nat)(fs:List Kv)(C':Cn):Prop :=
 (∃ x,Aam l 1=some (x,l.length)/\Ad3 C x.1 x.2 d fs C')\/((∀ x,Aam l 1≠some (x,l.length))/\d=(220,0)/\fs=[]/\C'=C)
section
variable {w0 w:World}{H:List It}{b:Nat}{a:Option Addr}{c:Nat}{l:List UInt8}{bc bm n N cc pc:Nat}{ca pa:Option Addr}{C:Cn}
set_option maxHeartbeats 2000000 in
theorem AgO(T:I8 w0)(S:ST w0 w (EX b a l.length c 1 false :: It.rd a (l.map Ag) :: (Co bc ca cc pa pc bm n C++H)))(hc:l.length<=c)(hs:l.length<=140737488355328)(hC:ND C)(bg:ca=none↔C.AM=[])(hN:n<=N) :
  Calls Tryz.prog f.F6 #[.pointer (some ⟨bc,0,none⟩),.pointer (some ⟨b,0,none⟩)] w (AG (Ab6 w0 H bc bm N b a l.length c C (AjD C l))):=by
 apply R.Hp
 delta R.A R.Ci R.Ct R.D R.F R.I R.J R.Ks R.Ls R.N R.O R.P R.Qi R.S R.Am R.T R.W;try dsimp only [R.Ps]
 refine S.An λ b3 w1 _ _ S=>S.An λ b4 w2 _ _ S=>?_;let L:Nat->Bool->Option Addr->Nat->List ByteArray->List It:=λ at_ bad na nc ns=>It.row ty.string 1 na ns.length nc (ns.map Value.string) :: It.cells b4 #[.slice na ns.length nc] ty.Cx :: It.cells b3 #[.pointer (some ⟨bc,0,none⟩)] ty.A1 :: EX b a l.length c at_ bad :: It.rd a (l.map Ag) :: (Co bc ca cc pa pc bm n C++H);have S:ST w0 w2 (L 1 false none 0 []):=S.nil ty.string 1;refine (OC S 3 4 rfl rfl hc hs 2 256 (by decide)).mono ?_;rintro _ w3 ⟨_,rfl,np,aL,b1,rfl,S,G1,hz1⟩;have iZ:=AiK G1 hz1;refine⟨_,rfl,λ st wx=>∃(i at_:Nat) (bad:Bool) (na:Option Addr) (nc:Nat) (ns:List ByteArray),st=[.int .i64 (i:Int)]/\i<=np/\ns.length=i/\ST w0 wx (L at_ bad na nc ns)/\SL b1 bad (Dy (Sr l) i aL) (ns,at_),λ st _=>match st with
  | [.int _ i]=>np-i.toNat
  | _=>0,⟨0,aL,b1,none,0,[],rfl,by omega,rfl,S,SL.same _ _⟩,?_⟩
 clear S;rintro _ w4 ⟨i,aZ,b2,na,nc,ns,aA,hi,bn,S,G2⟩;cases aA;refine Aa (λ aB=>?_) (λ aJ=>?_)
 ·refine S.draw λ w5 _ S=>⟨_,_,_,S.cell 1 rfl rfl,(AfG S 3 4 rfl rfl hc hs).mono ?_⟩;rintro _ w6 ⟨_,rfl,nm,bH,pU,rfl,S,G3⟩;refine⟨_,rfl,S.cell 1 rfl rfl,S.An λ df w7 _ _ S=>⟨S.cell 2 rfl rfl,?_⟩⟩;have jH:(ns.map Value.string).length=ns.length:=by simp
  refine S.app 1 rfl Up rfl (by omega) (by omega) (news:=[.string nm]) (S.Gw 0 rfl) (mm:=1) rfl (by simp;rfl) (by omega) λ a' c' w8 S=>⟨_,_,_,rfl,?_⟩;have e1:ns.length+1=(ns++[nm]).length:=by simp
  have e2:ns.map Value.string++[.string nm]=(ns++[nm]).map Value.string:=by simp
  rw [e1,e2] at S;rw [e1];refine S.BR 2 rfl (aC:=#[.slice a' (ns++[nm]).length c']) (by simp) rfl λ w9 S=>?_;rw [Ae (by omega)];exact⟨⟨i+1,bH,pU,a',c',ns++[nm],rfl,by omega,by simp [bn],S.drop 1,G2.bind (g:=λ q=>(Sr l q.2).map λ x=>(q.1++[x.1],x.2)) (G3.map (λ x=>(ns++[x.1],x.2)))⟩,by simp only [Int.toNat_natCast];omega⟩
 obtain rfl:i=np:=by omega
 refine (Z2 S 3 4 rfl rfl hc hs 262144).mono ?_;clear S;rintro _ bZ ⟨_,rfl,t,bH,pU,rfl,S,G3⟩;refine⟨_,rfl,S.An λ ld aX _ _ S=>S.BR 0 rfl (aC:=#[.string (BC t)]) (by simp) rfl λ bJ S=>?_⟩;have GC:SL false pU (Aam l 1) ((ns,BC t),bH):=G1.bind (g:=λ n=>(Dy (Sr l) n.1 n.2).bind λ q=>(BD l (q.2:Int) 262144).map λ t=>((q.1,BC t.1),t.2))
  (G2.bind (g:=λ q=>(BD l (q.2:Int) 262144).map λ t=>((q.1,BC t.1),t.2)) (G3.map (λ t=>((ns,BC t.1),t.2))))
 have S:ST w0 bJ (EX b a l.length c bH pU :: ([It.cells ld #[.string (BC t)] ty.string,It.row ty.string 1 na ns.length nc (ns.map Value.string),It.cells b4 #[.slice na ns.length nc] ty.Cx,It.cells b3 #[.pointer (some ⟨bc,0,none⟩)] ty.A1,It.rd a (l.map Ag)]++(Co bc ca cc pa pc bm n C++H))):=S.pull 4 rfl;refine⟨bH,pU,f.Fj,#[.pointer (some ⟨b3,0,none⟩),.pointer (some ⟨b4,0,none⟩),.pointer (some ⟨ld,0,none⟩)],_,pc,cc,pa,ca,n,rfl,by kernel_rfl,S,bg,hN,λ h=>.inr ⟨λ x e=>?_,rfl,rfl,rfl⟩,λ hb ha wx S9=>?_⟩
 ·obtain⟨h1,h2⟩:=GC.some e;rcases h with h | h
  ·rw [h1] at h;cases h
  ·exact h (congrArg Prod.snd h2)
 ·subst hb;subst ha;obtain⟨_,cr⟩:=GC.ok;have g2:=G3.ok.1;subst g2;have g1:=G2.ok.1;subst g1;have h2:=(HM G1.ok.2).2;have ht:=(RS G3.ok.2).2.1;have S9:ST w0 wx (It.cells b3 #[.pointer (some ⟨bc,0,none⟩)] ty.A1 :: It.cells b4 #[.slice na ns.length nc] ty.Cx :: It.row ty.string 1 na ns.length nc (ns.map Value.string) :: It.cells ld #[.string (BC t)] ty.string :: (Co bc ca cc pa pc bm n C++H)) :=
   ((((S9.drop 1).pull 1 rfl).pull 2 rfl).pull 3 rfl).sub (.cons_cons _ (.cons_cons _ (.cons_cons _ (.cons_cons _ (.cons _ (List.Sublist.refl _))))))
  refine (Aff (N:=N) T S9 (by omega) (by omega) (by rw [AY];omega) hC bg hN).mono ?_;rintro _ w' ⟨v,rfl,d,fs,C',fa,kb,jn,k8,jw,n2,h3,h4,h5,h6,h7⟩;exact⟨v,rfl,d,fs,C',fa,kb,jn,k8,jw,n2,.inl ⟨_,cr,h3⟩,h4,h5,by omega,h7⟩
end
def AeB(C:Cn)(s:ByteArray)(d:Nat × Nat)(fs:List Kv)(C':Cn):Prop :=
 ((s.size=0\/262144<s.size\/((Ay s 0).toNat≠1/\(Ay s 0).toNat≠2/\(Ay s 0).toNat≠3))/\d=(220,0)/\fs=[]/\C'=C) \/
  (0<s.size/\s.size<=262144/\(((Ay s 0).toNat=1/\Ah4 C (bl s) d fs C')\/((Ay s 0).toNat=2/\AhB C (bl s) d fs C')\/((Ay s 0).toNat=3/\AjD C (bl s) d fs C')))
section
variable {w0 w:World}{H:List It}{bc bm n N cc pc:Nat}{ca pa:Option Addr}{C:Cn}
theorem VM.imp{Q Q':Nat × Nat->List Kv->Cn->Prop}(hQ:∀ d fs C',Q d fs C'->Q' d fs C'){v:Value}{w':World}(h:VM w0 H bc bm N Q v w'):VM w0 H bc bm N Q' v w':=by
 obtain⟨d,fs,C',fa,ca,cc,pa,pc,n,h1,h2⟩:=h;exact⟨d,fs,C',fa,ca,cc,pa,pc,n,hQ _ _ _ h1,h2⟩
theorem Ab6.imp{b:Nat}{a:Option Addr}{m c:Nat}{Q Q':Nat × Nat->List Kv->Cn->Prop}(hQ:∀ d fs C',Q d fs C'->Q' d fs C'){v:Value}{w':World}(h:Ab6 w0 H bc bm N b a m c C Q v w'):Ab6 w0 H bc bm N b a m c C Q' v w':=by
 obtain⟨at',aY,g,ca,Z,pc,cc,pa,gB,m',h1,h2,h3,h4,h5,h6,h7⟩:=h;refine⟨at',aY,g,ca,Z,pc,cc,pa,gB,m',h1,h2,h3,h4,h5,λ h=>hQ _ _ _ (h6 h),λ hb ha wx S=>(h7 hb ha wx S).mono ?_⟩;rintro e w' ⟨v,rfl,h⟩;exact⟨v,rfl,h.imp hQ⟩
theorem Agl(T:I8 w0)(S:ST w0 w (Co bc ca cc pa pc bm n C++H))(hC:ND C)(bg:ca=none↔C.AM=[])(hN:n<=N)(ke:N<1000000)(s:ByteArray) :
  Calls Tryz.prog f.Dj #[.pointer (some ⟨bc,0,none⟩),.string s] w (AG (VM w0 H bc bm (N+1) (AeB C s))):=by
 have au:=A9 s;refine On (Q:=AeB C s) S bg hN s (λ h=>.inl ⟨h,rfl,rfl,rfl⟩) (λ rf bT h0 hle H' b a c wx hc S=>?_);rcases bT with ⟨h,rfl⟩ | ⟨h,rfl⟩ | ⟨h,rfl⟩
 ·refine (WQ S hc (by omega) bg hN).mono ?_;rintro e w' ⟨v,rfl,hr⟩;exact⟨v,rfl,hr.imp λ d fs C' hq=>.inr ⟨h0,hle,.inl ⟨h,hq⟩⟩⟩
 ·refine (WM T S hc (by omega) hC bg hN ke).mono ?_;rintro e w' ⟨v,rfl,hr⟩;exact⟨v,rfl,hr.imp λ d fs C' hq=>.inr ⟨h0,hle,.inr (.inl ⟨h,hq⟩)⟩⟩
 ·refine (AgO T S hc (by omega) hC bg hN).mono ?_;rintro e w' ⟨v,rfl,hr⟩;exact⟨v,rfl,hr.imp λ d fs C' hq=>.inr ⟨h0,hle,.inr (.inr ⟨h,hq⟩)⟩⟩
end
/-! ### what a command keeps -/
theorem AiP{k m:List Km}(h:∀ i,(mapOf k i).isSome=(mapOf m i).isSome):UI k=UI m :=
 ((List.perm_ext_iff_of_nodup (EE k) (EE m)).2 λ i=>by rw [FE,FE,<- HK,<- HK,h]).length_eq
theorem AfD{k:List Km}{c:Km}:UI (k++[c])=if (mapOf k c.1).isSome=true then UI k else UI k+1:=by
 by_cases h:(mapOf k c.1).isSome=true
 ·rw [if_pos h];refine AiP λ i=>?_;rw [Vw];split
  ·rename_i e;subst e;rw [h];rfl
  ·rfl
 ·rw [if_neg h];have hn:c.1∉Kg k:=λ hm=>h (HK.2 ((FE k c.1).1 hm));have:=((List.perm_ext_iff_of_nodup (EE (k++[c])) (List.nodup_cons.2 ⟨hn,EE k⟩)).2 λ i=>by
   rw [FE,List.mem_cons,FE,List.map_append,AlY];simp only [List.map_cons,List.map_nil,AlZ];exact Or.comm).length_eq
  exact this
structure JQ(C:Cn):Prop where
 ok:ND C
 few:UI C.k<=64
 empty:C.AM=[]->C.parts=[]
theorem Mw(ps qs:List H6):A4 (ps++qs)=A4 ps+A4 qs:=by simp [A4]
theorem Aeo{ps:List H6}{i n r:Nat}{nm:ByteArray}(h:r=A4 (Od ps i n)):A4 (Wf ps i n (nm,r))=A4 ps:=by
 have e:ps=ps.take i++(Od ps i n++ps.drop (i+n)):=by
  rw [Od,<- List.drop_drop,List.take_append_drop,List.take_append_drop]
 have h2:=congrArg A4 e;rw [Mw,Mw] at h2;rw [Wf,Mw,Mw,h2,h];simp [A4];omega
theorem Yf.rows{C:Cn}{cs:List BQ}{rows:List (List AB)}{d:Nat × Nat}{fs:List Kv}{C':Cn}(h:Yf C cs rows d fs C'):(d.1≠0/\fs=[]/\C'=C)\/(d=(0,A4 C'.parts)/\fs.length=1/\A4 C'.parts=A4 C.parts+rows.length/\C'.k=C.k/\C'.AM=C.AM/\cs=C.AM/\C'.parts.length=C.parts.length+1/\∃ nm,nm.size=64/\C'.parts=C.parts++[(nm,rows.length)]):=by
 rcases h with ⟨_,rfl,rfl,rfl⟩ | ⟨_,_,rfl,rfl,rfl⟩ | ⟨h1,h2,b,hb,rfl,rfl,rfl⟩
 ·exact .inl ⟨by decide,rfl,rfl⟩
 ·exact .inl ⟨by decide,rfl,rfl⟩
 ·refine .inr ⟨rfl,rfl,?_,rfl,rfl,h1,by simp,_,Js _,rfl⟩;rw [Gg]
theorem UF.inv{C:Cn}{x y:Nat}{cs:List BQ}{rows:List (List AB)}{d:Nat × Nat}{fs:List Kv}{C':Cn}(hI:JQ C)(hs:Bv cs rows)(aQ:rows≠[])(hx:x<=Cr)(jd:1<=y)(hy:y<=Cr)(h:UF C x y cs rows d fs C'):JQ C':=by
 rcases h with ⟨_,_,_,_,_,rfl⟩ | ⟨_,_,_,_,_,rfl⟩ | ⟨_,_,_,_,rfl⟩ | ⟨h1,h2,C1,hA,rfl⟩
 ·exact hI
 ·exact hI
 ·exact hI
 have iA:∀ D:Cn,D.k=C.k->UI (D.k++[((x,y,d):Km)])<=64:=λ D e=>by
  rw [e,AfD];have:=hI.few;split
  ·exact this
  ·rename_i hn;have:=h2 (by simpa using hn);omega
 have hb:=IZ (ps:=C.parts) λ p hp=>(hI.ok.parts p hp).2.2;have iZ:=hI.ok.np;have hl:=hs.len;have fB:1<=rows.length:=by
  cases rows with
  | nil=>exact absurd rfl aQ
  | cons r rs=>simp
 rcases hA with ⟨_,rfl,rfl,rfl⟩ | ⟨_,_,rfl,rfl,rfl⟩ | ⟨h3,h4,b,dC,rfl,rfl,rfl⟩
 ·refine⟨⟨hI.ok.np,hI.ok.parts,λ c hc=>?_,hI.ok.AM⟩,iA _ rfl,hI.empty⟩;rcases AlY.1 hc with h | h
  ·exact hI.ok.Dt c h
  ·rw [AlZ.1 h];exact⟨hx,⟨jd,hy⟩,by simp,by simp⟩
 ·refine⟨⟨hI.ok.np,hI.ok.parts,λ c hc=>?_,hI.ok.AM⟩,iA _ rfl,hI.empty⟩;rcases AlY.1 hc with h | h
  ·exact hI.ok.Dt c h
  ·rw [AlZ.1 h];exact⟨hx,⟨jd,hy⟩,by simp,by simp⟩
 ·have hr:A4 (C.parts++[(Fe (BC b),rows.length)])<=Cr:=by
   rw [Gg];unfold Cr;show A4 C.parts+rows.length<=_;omega
  refine⟨⟨?_,λ p hp=>?_,λ c hc=>?_,hI.ok.AM⟩,iA _ rfl,λ h=>?_⟩
  ·show (C.parts++[(Fe (BC b),rows.length)]).length<=256;rw [List.length_append];simp only [List.length_cons,List.length_nil];omega
  ·rcases AlY.1 hp with h | h
   ·exact hI.ok.parts p h
   ·rw [AlZ.1 h];exact⟨Js _,fB,hl⟩
  ·rcases AlY.1 hc with h | h
   ·exact hI.ok.Dt c h
   ·rw [AlZ.1 h];exact⟨hx,⟨jd,hy⟩,by simp,hr⟩
  ·exact absurd (h3.trans h) (Vh hs.right)
theorem Afo.inv{C:Cn}{cs:List BQ}{d:Nat × Nat}{fs:List Kv}{C':Cn}(hI:JQ C)(hR:Aq cs=true)(h:Afo C cs d fs C'):JQ C':=by
 rcases h with ⟨_,_,_,rfl⟩ | ⟨h1,_,_,rfl⟩
 ·exact hI
 ·exact⟨⟨hI.ok.np,hI.ok.parts,hI.ok.Dt,.inr hR⟩,hI.few,λ h=>hI.empty h1⟩
theorem Ad3.inv{C:Cn}{ns:List ByteArray}{t:ByteArray}{d:Nat × Nat}{fs:List Kv}{C':Cn}(hI:JQ C)(h1:2<=ns.length)(h:Ad3 C ns t d fs C'):JQ C':=by
 rcases h with ⟨_,_,_,rfl⟩ | ⟨i,rows,⟨g1,g2,g3,g4⟩,rfl,_,_⟩
 ·exact hI
 have cD:=((L3 (by omega)).1 (OD g1).1).1;have aD:=(OD g1).2;have aQ:C.AM≠[]:=Vh g2.right;have iZ:=hI.ok.np;have bM:(Od C.parts i ns.length).length=ns.length:=by rw [Od,List.length_take,List.length_drop];omega
 have dP:1<=rows.length:=by
  rw [g4];cases hc:Od C.parts i ns.length with
  | nil=>rw [hc] at bM;simp at bM;omega
  | cons p ps =>
   have:p∈C.parts:=List.mem_of_mem_drop (List.mem_of_mem_take (show p∈(C.parts.drop i).take ns.length by rw [show (C.parts.drop i).take ns.length=Od C.parts i ns.length from rfl,hc];simp));have:=(hI.ok.parts p this).2.1;simp only [A4,List.map_cons,List.sum_cons];omega
 refine⟨⟨?_,λ p hp=>?_,hI.ok.Dt,hI.ok.AM⟩,hI.few,λ h=>absurd h aQ⟩
 ·show (Wf C.parts i ns.length _).length<=256;rw [Wf];simp only [List.length_append,List.length_take,List.length_drop,List.length_cons,List.length_nil];omega
 ·have hp:p∈Wf C.parts i ns.length (Fe t,rows.length):=hp;rw [Wf,AlY,AlY,AlZ] at hp;rcases hp with (h | rfl) | h
  ·exact hI.ok.parts p (List.mem_of_mem_take h)
  ·exact⟨Js _,dP,g2.len⟩
  ·exact hI.ok.parts p (List.mem_of_mem_drop h)
theorem Xk{l:List UInt8}{x:Nat × Nat × List BQ × List (List AB)}{k:Nat}(h:XR l 1=some (x,k)):x.1<=Cr/\1<=x.2.1/\x.2.1<=Cr/\Bv x.2.2.1 x.2.2.2/\x.2.2.2≠[]:=by
 obtain⟨a1,a2,a3,h1,h2,h3,h4,h5⟩:=Xe h;have g1:=(HM h1).2;have g2:=(HM h2).2;exact⟨g1.2,g2.1,g2.2,(LH h4).1,h5⟩
theorem AcQ{l:List UInt8}{x:List ByteArray × ByteArray}{k:Nat}(h:Aam l 1=some (x,k)):2<=x.1.length:=by
 unfold Aam at h;obtain⟨y1,h1,h⟩:=Option.bind_eq_some_iff.1 h;obtain⟨y2,h2,h⟩:=Option.bind_eq_some_iff.1 h;obtain⟨y3,h3,h⟩:=Option.map_eq_some_iff.1 h;cases h;have:=Rl _ h2;have:=(HM h1).2.1;simp only;omega
theorem AeB.inv{C:Cn}{s:ByteArray}{d:Nat × Nat}{fs:List Kv}{C':Cn}(hI:JQ C)(h:AeB C s d fs C'):JQ C':=by
 rcases h with ⟨_,_,_,rfl⟩ | ⟨_,_,⟨_,h⟩ | ⟨_,h⟩ | ⟨_,h⟩⟩
 ·exact hI
 ·rcases h with ⟨cs,h1,h2⟩ | ⟨_,_,_,rfl⟩
  ·exact h2.inv hI (DA h1)
  ·exact hI
 ·rcases h with ⟨x,h1,h2⟩ | ⟨_,_,_,rfl⟩
  ·obtain⟨g1,g2,g3,g4,g5⟩:=Xk h1;exact h2.inv hI g4 g5 g1 g2 g3
  ·exact hI
 ·rcases h with ⟨x,h1,h2⟩ | ⟨_,_,_,rfl⟩
  ·exact h2.inv hI (AcQ h1)
  ·exact hI
/-! ### CatalogTwice -/
/-! ### CatalogRows -/
theorem AeB.rows{C:Cn}{s:ByteArray}{d:Nat × Nat}{fs:List Kv}{C':Cn}(h:AeB C s d fs C') :
  fs.length<=1/\((0<s.size/\(Ay s 0).toNat=2/\d.1=0/\fs.length=1/\d.2=A4 C'.parts/\A4 C.parts<A4 C'.parts)\/(¬ (0<s.size/\(Ay s 0).toNat=2/\d.1=0/\fs.length=1)/\A4 C'.parts=A4 C.parts)):=by
 rcases h with ⟨_,rfl,rfl,rfl⟩ | ⟨h0,hle,⟨hk,h⟩ | ⟨hk,h⟩ | ⟨hk,h⟩⟩
 ·exact⟨by simp,.inr ⟨by simp,rfl⟩⟩
 ·rcases h with ⟨cs,_,⟨_,rfl,rfl,rfl⟩ | ⟨_,rfl,rfl,rfl⟩⟩ | ⟨_,rfl,rfl,rfl⟩ <;> exact⟨by simp,.inr ⟨by simp,rfl⟩⟩
 ·rcases h with ⟨x,h1,h⟩ | ⟨_,rfl,rfl,rfl⟩
  ·obtain⟨_,_,_,_,aQ⟩:=Xk h1;have hl:0<x.2.2.2.length:=List.length_pos_iff.2 aQ;rcases h with ⟨t,_,_,_,rfl,rfl⟩ | ⟨t,_,_,_,rfl,rfl⟩ | ⟨_,_,_,rfl,rfl⟩ | ⟨_,_,C1,hA,rfl⟩
   ·exact⟨by simp,.inr ⟨by simp,rfl⟩⟩
   ·exact⟨by simp,.inr ⟨by simp,rfl⟩⟩
   ·exact⟨by simp,.inr ⟨by simp,rfl⟩⟩
   ·rcases hA.rows with ⟨h2,rfl,rfl⟩ | ⟨rfl,h3,h4,_⟩
    ·exact⟨by simp,.inr ⟨by simp,rfl⟩⟩
    ·exact⟨by omega,.inl ⟨h0,hk,rfl,h3,rfl,show A4 C.parts<A4 C1.parts by omega⟩⟩
  ·exact⟨by simp,.inr ⟨by simp,rfl⟩⟩
 ·rcases h with ⟨x,_,⟨_,rfl,rfl,rfl⟩ | ⟨i,rows,hM,rfl,rfl,rfl⟩⟩ | ⟨_,rfl,rfl,rfl⟩
  ·exact⟨by simp,.inr ⟨by simp,rfl⟩⟩
  ·exact⟨by simp,.inr ⟨λ h=>by omega,Aeo hM.2.2.2⟩⟩
  ·exact⟨by simp,.inr ⟨by simp,rfl⟩⟩
end Go.Proofs.YtpnaifmmggnimaaGreatDoor
namespace Go.Proofs.YtpnaifmmggnimaaGreatDoor
set_option maxRecDepth 100000
open Go.Dn Go.Proofs
open Go.RowKit (Below)
set_option linter.unusedVariables false
/-! ### a snapshot read anew -/
end Go.Proofs.YtpnaifmmggnimaaGreatDoor
namespace Go.Proofs.YtpnaifmmggnimaaGreatDoor
open _root_.List renaming length_append -> Ak1
set_option maxRecDepth 100000
open Go.Dn Go.Proofs
open Go.RowKit (Below)
set_option linter.unusedVariables false
def Kc(a:Option Addr)(c:Nat)(fs:List Kv):It:=It.row ty.GD 2 a fs.length c (BH fs)
theorem Ajw:MN Tryz.prog 32=some (ty.GD,2,32,.agg #[.string ⟨#[]⟩,.string ⟨#[]⟩]):=by kernel_rfl
theorem AeT(fs:List Kv):(BH fs).length=fs.length*2:=by
 induction fs with
 | nil=>rfl
 | cons p ps ih =>
  show ([Value.string p.1,.string p.2]++BH ps).length=_;rw [Ak1,ih,List.length_cons];simp only [List.length_cons,List.length_nil];omega
theorem AeL(fs:List Kv):∀ u∈BH fs,u.oneCell'=true:=by
 intro u hu;obtain⟨v,_,hv⟩:=List.mem_flatMap.1 hu;simp only [List.mem_cons,List.not_mem_nil,or_false] at hv;rcases hv with rfl | rfl <;> rfl
theorem YX(fs gs:List Kv):BH (fs++gs)=BH fs++BH gs:=by simp [BH]
structure Itm where
 x0:Int
 x1:Int
 x2:Int
 a3:Option Addr
 c3:Nat
 cs:List BQ
 a4:Option Addr
 c4:Nat
 ps:List BG
 x5:Int
 x6:Int
 x7:Bool
 x8:ByteArray
def Vb(t:Itm):List Value:=[.int .i64 t.x0,.int .i64 t.x1,.int .i64 t.x2,.slice t.a3 t.cs.length t.c3,.slice t.a4 t.ps.length t.c4,.int .i64 t.x5,.int .i64 t.x6,.bool t.x7,.string t.x8]
def AaB(ts:List Itm):List Value:=ts.flatMap Vb
structure UM(w:World)(t:Itm):Prop where
 h0 : -9223372036854775808<=t.x0/\t.x0<=9223372036854775807
 h5 : -9223372036854775808<=t.x5/\t.x5<=9223372036854775807
 h6 : -9223372036854775808<=t.x6/\t.x6<=9223372036854775807
 h8:t.x8.size<=140737488355328
 AM:Rd w t.a3 (BM t.cs)
 hn:t.cs.length<=9223372036854775807
 hq:∀ c∈t.cs,c.1.size<=9223372036854775807
 rows:Bb w t.a4 t.ps
 hm:t.ps.length<=9223372036854775807
 hv:∀ r∈rws t.ps,∀ v∈r,BN v
 hp:t.ps.length<=t.c4
theorem AaK(ts:List Itm)(i j:Nat)(hi:i<ts.length)(hj:j<9):(AaB ts)[i*9+j]?=(Vb ts[i])[j]?:=by
 induction ts generalizing i with
 | nil=>simp at hi
 | cons p ps ih =>
  show (Vb p++AaB ps)[_]?=_;cases i with
  | zero=>rw [Nat.zero_mul,Nat.zero_add,List.getElem?_append_left (by simp [Vb];omega)];rfl
  | succ i =>
   rw [List.getElem?_append_right (by simp [Vb];omega)];rw [show (i+1)*9+j-(Vb p).length=i*9+j by simp [Vb];omega,ih i (by simpa using hi)];rfl
section
variable {w0 w:World}{H:List It}
theorem AgT{a:Option Addr}{ts:List Itm}(h:Rd w a (AaB ts)){i:Nat}(hi:i<ts.length):∃ p,a=some p/\∀ j (hj:j<9) v,(Vb ts[i])[j]?=some v->w.cell? ((p.add (i*9)).add j)=some v:=by
 obtain⟨p,hp,_⟩:=h (i*9+0) _ (by rw [AaK ts i 0 hi (by omega)];rfl);refine⟨p,hp,λ j hj v hv=>?_⟩;obtain⟨q,hq,hc⟩:=h (i*9+j) v (by rw [AaK ts i j hi hj];exact hv);rw [hp] at hq;cases hq;rw [BK];exact hc
theorem AhR(S:ST w0 w H){n:Nat}{ac:Option Addr}{cx:Nat}{xs qs:List Kv}{aq:Option Addr}{cq:Nat}(hn:H[n]?=some (Kc ac cx xs))(hs:Rd w aq (BH qs))(hl:xs.length+qs.length<=1000000){f:Value->World->Prop}
  (hf:∀ a' c' w',ST w0 w' (H.set n (Kc a' c' (xs++qs)))->f (.slice a' (xs++qs).length c') w') :
  DE Tryz.prog (Builtin.append_ #[32,32] 32 #[.slice ac xs.length cx,.slice aq qs.length cq]) f w:=by
 refine S.app n hn Ajw rfl (by omega) (by omega) hs (AeT qs) (AeL qs) (by omega) λ a' c' w' S'=>?_;rw [<- YX] at S';have:=hf a' c' w' (by unfold Kc;rw [Ak1];exact S');rwa [Ak1] at this
theorem Yr{b cc pc kc:Nat}{ca pa ka:Option Addr}{C:YM}{ra:Option Addr}{rc:Nat}{gs:List Grp}(S:ST w0 w (DZ b ca cc pa pc ka kc C++H))(hC:D6 C)(hg:Rd w ra (gs.map VP))(oM:gs.length=C.parts.length)(jb:∀ g∈gs,P6 g)(ob:∀ g∈gs,Bb w g.1 g.2.2){t:Itm}(ht:UM w t) :
  Calls Tryz.prog f.NB #[.pointer (some ⟨b,0,none⟩),.slice ra gs.length rc,.agg #[.int .i64 t.x0,.int .i64 t.x1,.int .i64 t.x2,.slice t.a3 t.cs.length t.c3,.slice t.a4 t.ps.length t.c4,.int .i64 t.x5,.int .i64 t.x6,.bool t.x7,.string t.x8]] w (AG λ v w'=>∃ s:ByteArray,v=.string s/\s.size<=140737488355328/\Below w.heap.size w w') :=
 Ab0 S hC hg oM jb ob t.x0 t.x1 t.x2 t.x5 t.x6 ht.h0 ht.h5 ht.h6 t.a3 t.a4 t.c3 t.c4 t.x7 t.x8 ht.h8 ht.AM ht.hn ht.hq ht.rows ht.hm ht.hv ht.hp
theorem UM.grown{t:Itm}(h:UM w t){w':World}(B:Below w.heap.size w w'):UM w' t:=⟨h.h0,h.h5,h.h6,h.h8,h.AM.grown B,h.hn,h.hq,h.rows.grown B,h.hm,h.hv,h.hp⟩
end
end Go.Proofs.YtpnaifmmggnimaaGreatDoor
namespace Go.Dn
open _root_.List renaming getElem?_eq_getElem -> AlV, getElem?_map -> AmF
set_option maxRecDepth 100000
set_option linter.unusedVariables false
variable {H:Type}{enc:TypeId × Value->H}
theorem SM{P:Program}{e:TypeId}:∀ {ds:List (DataW H)} {i:Nat} {d:DataW H},ds[i]?=some d->∀ m∈d.weights P e,m∈DataW.weightsAll P e ds
 | x :: ds,0,d,h,m,hm=>by
  simp only [List.getElem?_cons_zero,Option.some.injEq] at h;subst h;unfold DataW.weightsAll;exact List.mem_append_left _ hm
 | x :: ds,i+1,d,h,m,hm=>by
  unfold DataW.weightsAll;exact List.mem_append_right _ (SM (by simpa using h) m hm)
theorem Ad9{P:Program}{ts:List TypeId}{ds:List (DataW H)}(hZ:(DataW.weightsEach P ts ds).all (·<=reachBytes)=true){j:Nat}{t e:TypeId}{d:DataW H}(ht:ts[j]?=some t)(hd:ds[j]?=some d)(hu:P.underlying t=some (.slice e))
  {W:World} {base fuel:Nat} {held:Bool} {a:Option Addr} {l c:Nat} {p:List MemPlace} (hf:DataW.trod enc P W base (λ _=>true) held fuel t (Value.slice a l c).cells.toList=some (d,p))
  {fs:Array Field} (he:P.underlying e=some (.struct fs)) {k:Nat} {f:Field} (hk:fs.toList[k]?=some f) (hfs:P.underlying f.type=some .string) (gH:P.cellsOf f.type=1)
  {i:Nat} (hi:i<l) {s:ByteArray} {b:Addr} (ha:a=some b) (hs:W.cell? ((b.add (i*P.cellsOf e)).add f.offset)=some (.string s)):s.size<=reachBytes:=by
 rcases DataW.trod_slice hu hf with ⟨hc,_⟩ | ⟨a',len,cap,elems,rest,n,_,hc,hx,_,hl,_,hlen,hel,_,_⟩
 ·have:[Value.slice a l c]=[Value.slice none 0 0]:=hc;simp at this;omega
 ·have dw:[Value.slice a l c]=[Value.slice (some a') len cap]:=hc;simp only [List.cons.injEq,Value.slice.injEq,and_true] at dw;obtain⟨e1,rfl,rfl⟩:=dw;rw [ha] at e1;cases e1;simp only [Prod.mk.injEq] at hx;have h1:=hel i hi;rw [AlV (by omega)] at h1;obtain⟨aC,h2,h3⟩:=Option.bind_eq_some_iff.1 h1;cases n with
  | zero=>simp [DataW.trod] at h3
  | succ n =>
   unfold DataW.trod at h3;rw [he] at h3;simp only at h3;split at h3
   ·rename_i bM;obtain⟨xs,bN,hy⟩:=Option.map_eq_some_iff.1 h3;have hg:=mapM_some_get bN k f hk;have ct:=mapM_some_length bN;have aO:=(List.getElem?_eq_some_iff.1 hk).1;rw [AlV (by omega)] at hg;obtain⟨s',im,eB,_⟩:=DataW.trod_string hfs hg;rw [gH] at im;have h4:aC[f.offset]?=some (.string s'):=by
     have:=congrArg (λ x:List Value=>x[0]?) im;simpa [List.getElem?_take,List.getElem?_drop] using this
    have qA:=(List.getElem?_eq_some_iff.1 h4).1;have h5:=(World.cells?_some h2).2.2 f.offset (by rw [<- bM];exact qA);rw [hs,h4] at h5;cases h5;have h6:s.data.toList.length∈d.weights P t:=by
     rw [hx.1];unfold DataW.weights;rw [hu];refine List.mem_cons_of_mem _ (List.mem_append_left _ (SM (i:=i) (d:=elems[i].1) (by rw [AmF,AlV (by omega)];rfl) _ ?_));rw [<- hy];unfold DataW.weights;rw [he];refine DataW.weights_mem_each (j:=k) (t:=f.type) (d:=xs[k].1) ?_ ?_ _ ?_
     ·rw [AmF,hk];rfl
     ·rw [AmF,AlV (by omega)];rfl
     ·rw [eB];simp [DataW.weights]
    have h7:=List.all_eq_true.1 hZ _ (DataW.weights_mem_each ht hd _ h6);simpa using h7
   ·cases h3
end Go.Dn
namespace Go.Proofs.YtpnaifmmggnimaaGreatDoor
open _root_.Int renaming toNat_natCast -> Ak4
open _root_.List.Perm renaming append_left -> AmU
open _root_.List.Sublist renaming refl -> AmN
open _root_.List renaming perm_append_comm -> AmT
open _root_.Nat renaming le_trans -> Ali
set_option maxRecDepth 100000
open Go.Dn Go.Proofs
open Go.RowKit (Below)
set_option linter.unusedVariables false
theorem Ai9:PV Tryz.prog ty.Lf=some [(ty.int,0),(ty.int64,1),(ty.int64,2),(ty.AX,3),(ty.Cd,4),(ty.int,5),(ty.int,6),(ty.bool,7),(ty.string,8)]:=by kernel_rfl
theorem Abi:Tryz.prog.cellsOf ty.Lf=9:=by kernel_rfl
theorem AcS:Tryz.prog.cellsOf ty.AX=1:=by kernel_rfl
theorem Ac3:Tryz.prog.cellsOf ty.Cd=1:=by kernel_rfl
theorem AfQ:Tryz.prog.underlying ty.AX=some (.slice ty.Di):=by kernel_rfl
theorem Agc:Tryz.prog.underlying ty.Cd=some (.slice ty.CH):=by kernel_rfl
theorem AbZ{x:Int}(h:(Lit.int .i64 x).wf=true) : -9223372036854775808<=x/\x<=9223372036854775807:=by
 simpa [Lit.wf,IntKind.min,IntKind.max,IntKind.signed,IntKind.bits] using h
structure Ai3(w:World)(t:Itm):Prop where
 ok:t.x8.size<=140737488355328->UM w t
theorem JD{w:World}:∀ m r,r.length=Tryz.prog.cellsOf ty.Lf->Go.Dn.Good Tryz.prog w m ty.Lf r->∃ x,r=Vb x/\Ai3 w x:=by
 intro m r hl h;obtain⟨_,n,hf⟩:=h.fields Ai9;rw [Abi] at hl
 match r,hl with
 | [v0,v1,v2,v3,v4,v5,v6,v7,v8],_ =>
  simp only [List.mem_cons,List.not_mem_nil,or_false,forall_eq_or_imp,forall_eq,RV,Sd,VL,Ms,AcS,Ac3] at hf;obtain⟨h0,h1,h2,h3,h4,h5,h6,h7,h8⟩:=hf;obtain⟨x0,e0,q0⟩:=h0.int Qr;obtain⟨x1,e1,_⟩:=h1.int Rr;obtain⟨x2,e2,_⟩:=h2.int Rr;obtain⟨a3,c3,cs,e3,g3⟩:=h3.list AfQ _ _ Tb;obtain⟨a4,c4,ps,e4,g4⟩:=h4.list Agc _ _ YZ;obtain⟨x5,e5,q5⟩:=h5.int Qr;obtain⟨x6,e6,q6⟩:=h6.int Qr;obtain⟨x7,e7⟩:=h7.bool W5;obtain⟨x8,e8,_⟩:=h8.str UY;obtain⟨k1,k2,k3⟩:=Age g3;obtain⟨r1,r2,r3,_⟩:=AfK g4;simp only [List.drop_zero,List.take_succ_cons,List.take_zero,List.drop_succ_cons,List.cons.injEq,and_true] at e0 e1 e2 e3 e4 e5 e6 e7 e8;refine⟨⟨x0,x1,x2,a3,c3,cs,a4,c4,ps,x5,x6,x7,x8⟩,?_,⟨λ hz=>⟨AbZ q0,AbZ q5,AbZ q6,hz,k1,k2,k3,r1,r2,r3,g4.1⟩⟩⟩;rw [e0,e1,e2,e3,e4,e5,e6,e7,e8];rfl
def Ym(w:World)(a:Option Addr)(n:Nat):Prop:=∀ i<n,∀ b s,a=some b->w.cell? ((b.add (i*9)).add 8)=some (.string s)->s.size<=reachBytes
theorem Oz{w:World}{a:Option Addr}{ts:List Itm}{c:Nat}(g:GL w Vb (Ai3 w) a ts c)(z:Ym w a ts.length) :
  Rd w a (AaB ts)/\(∀ t∈ts,UM w t)/\ts.length<=9223372036854775807:=by
 refine⟨g.2.2.2.1,λ t ht=>(g.2.2.2.2 t ht).ok ?_,Ali (Ali g.1 g.2.1) (by decide)⟩;obtain⟨i,hi,rfl⟩:=List.getElem_of_mem ht;obtain⟨p,hp,hc⟩:=AgT g.2.2.2.1 hi;exact Ali (z i hi p _ hp (hc 8 (by omega) _ rfl)) (by decide)
structure Aiu(w wx:World)(bc bm b:Nat)(i:Nat)(C:Cn)(D:YM)(fs:List Kv)(gs:List Grp)(fa:Option Addr)(fc:Nat)(ra:Option Addr):Prop where
 inv:JQ C
 doc:D6 D
 nf:fs.length<=i
 sz:∀ f∈fs,f.2.size<=140737488355328
 all:∀ p∈D.parts,∃ f∈fs,f.1=p.1
 gl:gs.length=D.parts.length
 go:∀ g∈gs,P6 g
 rd:Rd wx ra (gs.map VP)
 ga:∀ g∈gs,Bb wx g.1 g.2.2
 st:∃ ca cc pa pc n da dc di dj ka kc,(ca=none↔C.AM=[])/\n<=i/\ST w wx (Co bc ca cc pa pc bm n C++(DZ b da dc di dj ka kc D++[Kc fa fc fs]))
section
variable {w:World}
theorem Afq{w1 w2:World}{bc bm:Nat}(B1:Below w.heap.size w w1)(S:ST w1 w2 (Co bc none 0 none 0 bm 0 ⟨[],[],[]⟩)){k:Nat->World->Prop}
  (hk:∀ b w3,Aiu w w3 bc bm b 0 ⟨[],[],[]⟩ ⟨[],[],[]⟩ [] [] none 0 none->k b w3):DT #[.slice none 0 0,.slice none 0 0,.slice none 0 0] ty.Fg k w2:=by
 have S:=((ST.start w).grown B1).join S;refine S.An λ b6 w3 _ _ S=>hk b6 w3 ?_;have S:=((S.nil ty.JC 4).nil ty.LP 2).nil ty.Di 3;have S:ST w w3 (DZ b6 none 0 none 0 none 0 ⟨[],[],[]⟩++Co bc none 0 none 0 bm 0 ⟨[],[],[]⟩):=S.pull 3 rfl;have S:=S.nil ty.GD 2;have S:ST w w3 (Co bc none 0 none 0 bm 0 ⟨[],[],[]⟩++(DZ b6 none 0 none 0 none 0 ⟨[],[],[]⟩++[Kc none 0 []])):=by
  refine S.perm ?_;refine (AmT (l₁:=It.row ty.GD 2 none 0 0 [] :: DZ b6 none 0 none 0 none 0 ⟨[],[],[]⟩) (l₂:=Co bc none 0 none 0 bm 0 ⟨[],[],[]⟩)).trans ?_;exact AmU _ (AmT (l₁:=[Kc none 0 []]) (l₂:=DZ b6 none 0 none 0 none 0 ⟨[],[],[]⟩))
 exact⟨⟨⟨by simp,by simp,by simp,.inl rfl⟩,by decide,λ _=>rfl⟩,⟨by simp,by simp,by simp,.inl rfl⟩,by simp,by simp,by simp,rfl,by simp,Rd.nil _ _,by simp,_,_,_,_,_,_,_,_,_,_,_,⟨λ _=>rfl,λ _=>rfl⟩,Nat.le_refl 0,S⟩
end
section
variable {w:World}{sa:Option Addr}{sc:Nat}{ts:List Itm}
set_option maxHeartbeats 4000000 in
theorem RN(T:I8 w)(zd:Rd w sa (AaB ts))(hts:∀ t∈ts,UM w t)(hn:ts.length<=9223372036854775807) :
  Calls Tryz.prog f.Il #[.slice sa ts.length sc] w (AG λ v w'=>v=.bool true/\Below w.heap.size w w'):=by
 apply R.Jj
 delta R.A R.Ab R.Be R.AjO R.Cb R.Cp R.Cs R.Ct R.E R.F R.G R.I R.J R.Ks R.Lb R.Li R.Ls R.Lt R.N R.O R.P R.MJ R.Aiw R.S R.Am R.T R.W R.X R.Z R.Zb;try dsimp only [R.Ps]
 refine (Af0 T).mono ?_;rintro _ w1 ⟨_,rfl,rfl,B1⟩;refine⟨_,rfl,(Af7 w1).mono ?_⟩;rintro _ w2 ⟨_,rfl,bc,bm,rfl,S0⟩;refine⟨_,rfl,Afq B1 S0 λ b6 w3 L0=>?_⟩;refine⟨λ s wx=>∃(i:Nat) (C:Cn) (D:YM) (fs:List Kv) (gs:List Grp) (fa:Option Addr) (fc:Nat) (ra:Option Addr) (rc:Nat),s=[.slice fa fs.length fc,.slice ra gs.length rc,.int .i64 (A4 C.parts:Int),.int .i64 (i:Int)]/\i<=60/\i<=ts.length/\Aiu w wx bc bm b6 i C D fs gs fa fc ra,λ s _=>match s with
  | [_,_,_,.int _ i]=>ts.length-i.toNat
  | _=>0,⟨0,_,_,_,_,_,_,_,0,rfl,by omega,by omega,L0⟩,?_⟩
 rintro fa _ fc ra _ rc _ _ w4 ⟨i,C,D,fs,gs,_,_,_,_,aA,hi60,hi,L⟩;cases aA;obtain⟨ca,cc,pa,pc,n,da,dc,di,dj,ka,kc,bg,nK,S⟩:=L.st;refine Aa (λ aB=>Aa (λ ao=>?_) (λ _=>⟨rfl,S.Ar⟩)) (λ _=>⟨rfl,S.Ar⟩);have aD:i<ts.length:=by omega
 obtain⟨p,hp,hc⟩:=AgT (zd.grown S.Ar) aD;obtain⟨t,het⟩:∃ t,t=ts[i]:=⟨_,rfl⟩;have xM:=(hts ts[i] (List.getElem_mem aD)).grown S.Ar;rw [<- het] at hc xM;have c0:=hc 0 (by omega) _ rfl;rw [Db] at c0;subst hp;refine⟨⟨by omega,aB⟩,?_⟩;simp only [Av,Ak4];refine⟨_,c0,_,hc 1 (by omega) _ rfl,_,hc 2 (by omega) _ rfl,_,_,_,hc 3 (by omega) _ rfl,_,_,_,hc 4 (by omega) _ rfl,_,hc 5 (by omega) _ rfl,_,hc 6 (by omega) _ rfl,_,hc 7 (by omega) _ rfl,_,hc 8 (by omega) _ rfl,?_⟩;refine (Yr (S.drop 4) L.doc L.rd L.gl L.go L.ga xM).mono ?_;rintro _ w5 ⟨_,rfl,s,rfl,hs,B5⟩;have S:=S.grown B5;refine⟨_,rfl,(Agl T S L.inv.ok bg nK (by omega) s).mono ?_⟩;rintro _ w6 ⟨_,rfl,d,vV,C',xh,gB,kg,pb,pd,n',hQ,rfl,wT,cg,S⟩;obtain⟨d1,d2⟩:=d;have jo:=hQ.inv L.inv;refine⟨_,_,_,_,_,rfl,S.An λ hJ w7 _ _ S=>S.BR 0 rfl (aC:=#[.int .i64 (d1:Int),.int .i64 0]) (by simp) rfl λ w8 S=>S.BR 0 rfl (aC:=#[.int .i64 (d1:Int),.int .i64 (d2:Int)]) (by simp) rfl λ w9 S=>?_⟩
 have S:ST w w9 (DZ b6 da dc di dj ka kc D++(It.cells hJ #[.int .i64 (d1:Int),.int .i64 (d2:Int)] ty.A0 :: (Co bc gB kg pb pd bm n' C'++[Kc fa fc fs]))):=by
  have S1:ST w w9 ((It.cells hJ #[.int .i64 (d1:Int),.int .i64 (d2:Int)] ty.A0 :: Co bc gB kg pb pd bm n' C')++(DZ b6 da dc di dj ka kc D++[Kc fa fc fs])) :=
   S.sub (.cons_cons _ (.cons _ (AmN _)))
  exact S1.perm (List.perm_append_comm_assoc _ _ _)
 refine (Aar S L.doc s hs).mono ?_;rintro _ bZ ⟨_,rfl,e,lh,D',ry,lr,m9,pe,pf,jq,kE,rfl,fe,gO,qy,uf,S⟩;obtain⟨e1,e2⟩:=e;refine⟨_,_,_,_,_,rfl,S.An λ ox aX _ _ S=>S.BR 0 rfl (aC:=#[.int .i64 (e1:Int),.int .i64 0]) (by simp) rfl λ bJ S=>S.BR 0 rfl (aC:=#[.int .i64 (e1:Int),.int .i64 (e2:Int)]) (by simp) rfl λ aj S=>?_⟩;have S:ST w aj (Co bc gB kg pb pd bm n' C'++(Kc fa fc fs :: It.rd ry (BH lh) :: It.cells hJ #[.int .i64 (d1:Int),.int .i64 (d2:Int)] ty.A0 :: DZ b6 lr m9 pe pf jq kE D')):=by
  have S1:=S.drop 1;have S2:ST w aj ((It.rd ry (BH lh) :: DZ b6 lr m9 pe pf jq kE D'++[It.cells hJ #[.int .i64 (d1:Int),.int .i64 (d2:Int)] ty.A0])++(Co bc gB kg pb pd bm n' C'++[Kc fa fc fs])):=S1;refine (S2.perm (List.perm_append_comm_assoc _ _ _)).perm (AmU _ ?_);refine List.perm_append_comm.trans (.cons _ ?_);exact .cons _ (AmT (l₁:=DZ b6 lr m9 pe pf jq kE D') (l₂:=[It.cells hJ #[.int .i64 (d1:Int),.int .i64 (d2:Int)] ty.A0]))
 refine (AbG S jo.ok.np).mono ?_;rintro _ an ⟨_,rfl,a53,c53,rfl,yE⟩;have S:=S.grown yE.Ar;have fH:∀ p∈C'.parts,p.2<=1024:=λ p hp=>(jo.ok.parts p hp).2.2;have iZ:=jo.ok.np;refine⟨_,_,_,rfl,λ s wx=>wx=an/\∃ k:Nat,s=[.int .i64 (A4 (C'.parts.take k):Int),.int .i64 (k:Int)]/\k<=C'.parts.length,λ s _=>match s with
  | [_,.int _ k]=>C'.parts.length-k.toNat
  | _=>0,⟨rfl,0,rfl,by omega⟩,?_⟩
 rintro _ _ ah ⟨yq,k,aA,hk⟩;subst yq;cases aA;refine Aa (λ aO=>?_) (λ hkg=>?_)
 ·have aO:k<C'.parts.length:=by omega
  obtain⟨q,rfl,_,q1⟩:=LG (yE.rd 0 rfl) aO;refine⟨⟨by omega,by omega⟩,_,by rw [Ak4];exact q1,?_⟩;have g1:=IZ (ps:=C'.parts.take k) λ p hp=>fH p (List.mem_of_mem_take hp);have g2:=fH C'.parts[k] (List.getElem_mem aO);rw [List.length_take] at g1;have e:A4 (C'.parts.take (k+1))=A4 (C'.parts.take k)+C'.parts[k].2:=by rw [List.take_succ_eq_append_getElem aO,Gg]
  have ew:IntKind.i64.wrap ((A4 (C'.parts.take k):Int)+(C'.parts[k].2:Int))=(A4 (C'.parts.take (k+1)):Int):=by rw [wrap_i64 (by omega) (by omega),e];omega
  rw [ew,Ae (by omega)];exact⟨⟨rfl,k+1,rfl,by omega⟩,by simp only [Ak4];omega⟩
 obtain rfl:k=C'.parts.length:=by omega
 rw [List.take_length];obtain⟨dh,aG⟩:=hQ.rows;refine⟨λ st wx=>wx=ah/\∃ q:Bool,st=[.bool q]/\(q=true↔0<s.size/\(Ay s 0).toNat=2/\d1=0/\vV.length=1),?_,?_⟩
 ·have no:¬ (0<s.size/\(Ay s 0).toNat=2/\d1=0/\vV.length=1)->(λ (st:List Value) (wx:World)=>wx=ah/\∃ q:Bool,st=[.bool q]/\(q=true↔0<s.size/\(Ay s 0).toNat=2/\d1=0/\vV.length=1)) [.bool false] ah:=λ h=>⟨rfl,false,rfl,⟨(λ h=>by cases h),λ h2=>absurd h2 h⟩⟩;rw [AZ];have hz:s=⟨#[]⟩↔s.size=0:=by
   constructor
   ·rintro rfl;rfl
   ·intro h;have hd:s.data.size=0:=h;cases s with
    | mk d =>
     have:d=#[]:=Array.eq_empty_of_size_eq_zero hd;rw [this]
  refine Au (Aa (λ h=>no λ h2=>?_) (λ h=>?_))
  ·have:=hz.1 h;omega
  have wQ:0<s.size:=Nat.pos_of_ne_zero λ e=>h (hz.2 e);refine⟨⟨by omega,by omega⟩,Ao (λ h2=>?_) (λ h2=>no λ h3=>by omega)⟩;refine⟨_,S.cell 6 rfl rfl,Ao (λ h3=>?_) (λ h3=>no λ h4=>by omega)⟩;refine⟨rfl,_,rfl,?_⟩;have gw:d1=0:=by omega
  have ax:(Ay s 0).toNat=2:=by omega
  simp only [wQ,ax,gw,true_and,beq_iff_eq];omega
 rintro _ cf ⟨wk,q,aA,hq⟩;subst wk;cases aA;refine⟨λ st wx=>st=[]/\wx=cf,?_,?_⟩
 ·refine Ap (λ rW=>?_) (λ yB=>?_)
  ·have h4:=hq.1 rW;rcases aG with ⟨_,_,_,_,g5,g6⟩ | ⟨g1,_⟩
   ·simp only at g5;refine⟨_,S.cell 6 rfl rfl,Ah (λ h=>absurd (by rw [g5]) h) (λ _=>Aa (λ h=>by omega) (λ _=>?_))⟩;rw [rW];exact Ap (λ h=>by cases h) (λ _=>Aa (λ h=>by omega) (λ _=>⟨rfl,rfl⟩))
   ·exact absurd h4 g1
  ·rcases aG with ⟨g1,g2,g3,g4,_,_⟩ | ⟨_,g6⟩
   ·have:=hq.2 ⟨g1,g2,g3,g4⟩;rw [yB] at this;cases this
   ·rw [yB];refine Ap (λ _=>Ah (λ h=>absurd (by rw [g6]) h) (λ _=>Aa (λ h=>by omega) (λ _=>⟨rfl,rfl⟩))) (λ h=>by cases h)
 rintro cP ⟨_,vT⟩;subst vT;have x9:=L.nf;refine AhR S (n:=4) rfl (S.get 5 rfl) (by omega) λ a' c' eK S=>⟨_,_,_,rfl,?_⟩;have aF:∀ p∈D'.parts,∃ f∈fs++lh,f.1=p.1:=λ p hp=>by
  rcases uf p hp with h | ⟨f,hf,he⟩
  ·obtain⟨f,hf,he⟩:=L.all p h;exact⟨f,List.mem_append_left _ hf,he⟩
  ·exact⟨f,List.mem_append_right _ hf,he⟩
 have aw:∀ f∈fs++lh,f.2.size<=140737488355328:=λ f hf=>by
  rcases List.mem_append.1 hf with h | h
  ·exact L.sz f h
  ·exact qy f h
 have cj:(fs++lh).length<=i+1:=by rw [List.length_append];omega
 have SD:ST w eK (DZ b6 lr m9 pe pf jq kE D'++[]):=S.drop 7;refine (AhS SD fe (S.rd 4 rfl) (by omega) aw aF).mono ?_;rintro _ ff ⟨_,rfl,oa,oc,nP,rfl,uQ,pM,T2⟩;have S:=S.grown T2.Ar;obtain⟨k1,k2⟩:=Ahy T2 pM;rw [Ae (by omega)];refine⟨_,_,_,_,_,_,rfl,⟨i+1,C',D',fs++lh,nP,a',c',oa,oc,rfl,by omega,by omega,jo,fe,cj,aw,aF,uQ,pM,k1,k2,gB,kg,pb,pd,n',lr,m9,pe,pf,jq,kE,wT,cg,?_⟩,by simp only [Ak4];omega⟩;have S1:ST w ff (Co bc gB kg pb pd bm n' C'++(Kc a' c' (fs++lh) :: DZ b6 lr m9 pe pf jq kE D')) :=
  S.sub (List.Sublist.append (AmN _) (.cons_cons _ (.cons _ (.cons _ (AmN _)))))
 exact S1.perm (AmU _ (AmT (l₁:=[Kc a' c' (fs++lh)]) (l₂:=DZ b6 lr m9 pe pf jq kE D')))
end
theorem KW{w:World}(T:I8 w)(a:Option Addr)(ts:List Itm)(c:Nat)(g:GL w Vb (Ai3 w) a ts c)(_y:c*Tryz.prog.bytesOf ty.Lf<=reachBytes)(z:Ym w a ts.length) :
  Calls Tryz.prog f.Il #[.slice a ts.length c] w (AG λ v w'=>v=.bool true/\Below w.heap.size w w') :=
 RN T (Oz g z).1 (Oz g z).2.1 (Oz g z).2.2
end Go.Proofs.YtpnaifmmggnimaaGreatDoor
