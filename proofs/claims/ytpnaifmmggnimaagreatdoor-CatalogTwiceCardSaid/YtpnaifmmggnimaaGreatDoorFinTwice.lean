/-
  Texts of this claim, laid one behind the other by a program of mine (install.py): G.FinTwice.
-/
import Derived.Test.YtpnaifmmggnimaaGreatDoorRows
import Derived.Test.YtpnaifmmggnimaaGreatDoorCards
import Derived.Test.YtpnaifmmggnimaaGreatDoorTie
import Derived.WalkKit
import Derived.ProofKit
import Derived.OpenShut
import Derived.ShutString
import Derived.ChangeOld
import Derived.Below
import Derived.Lay
import Derived.LaidOnce
import Derived.SevenTiedAt
import Derived.Test.YtpnaifmmggnimaaGreatDoorM1
import Derived.Test.YtpnaifmmggnimaaGreatDoorM9
import Derived.Test.YtpnaifmmggnimaaGreatDoorM12
/-
  Rows.CatalogTwiceCardSaid: the call of stackyard/stackyardlaw22.CatalogTwice returns true, whatever the input, and each argument reads behind it as it read before; the listed variables hold what the program's text lays. From the fG Kb.
-/
namespace Go.Proofs.YtpnaifmmggnimaaGreatDoor.catalogTwice
open Go.ChangeShapes Go.WideShapes Go.ChangeAt Go.RowKit
open Go.ChangeMaps (open_string shut_string)
open Go.Dn
set_option linter.unusedVariables false
theorem own:ownKnob Tryz.prog.godebug=none:=by kernel_rfl
theorem laidOut:laidOutB Tryz.prog=true:=by kernel_rfl
set_option maxRecDepth 100000 in
theorem lifted(os:Os)(started:os.Started)(H:Type)(enc:TypeId × Value->H) :
  ReturnsInHanded {} Tryz.checked os 3 .any (λ w args=>(Rows.catalogTwiceSpec.pre enc Tryz.prog Tryz.f3 [] false w args/\laidMetH Tryz.prog Rows.catalogTwiceRow.laid w)/\sizedMet enc Tryz.prog Tryz.f3 (OpenSpec.ofChange Rows.catalogTwiceSpec) false w args)
   (Rows.catalogTwiceSpec.post enc Tryz.prog Tryz.f3 false true false false):=by
 refine HW (C:=Tryz.checked) (X:=λ w _=>laidMetH Tryz.prog Rows.catalogTwiceRow.laid w) (λ _ _ _ hh h=>h.of_heap hh) own started (by kernel_rfl) Tryz.func3
  (ChangeSpec.witness_shaped (enc:=enc) (C:=Tryz.checked) (os:=os) (X:=λ w _=>laidMetH Tryz.prog Rows.catalogTwiceRow.laid w) false (World.laidAll Tryz.prog os Rows.catalogTwiceRow.laid) #[.slice none 0 0] 8 (World.laidAll_os _ _ _)
   (World.shaped_of_ZipB (by kernel_rfl) (by kernel_rfl)) (by kernel_rfl) (by kernel_rfl) (by kernel_rfl)
   (by rw [MakeChecks.laidMetH_plain _ _ _ (by kernel_rfl)];exact laidMet_laidAll _ (by kernel_rfl) (by kernel_rfl))) ?_
 intro W base args ds gs before lj hW hZ hL hS;rw [MakeChecks.laidMetH_plain _ _ _ (by kernel_rfl)] at hL;have bU:∀(j:Nat) t v,Tryz.f3.params[j]?=some t->args[j]?=some v->Value.okWide Tryz.prog W .any base t v:=lj;have hW':=hW;obtain⟨p,q,hA0,hV,rfl,rb,eS⟩:=hW;have hA:DataW.TrodAll enc Tryz.prog W 0 (λ _=>true) true Tryz.f3.params.toList args.toList ds p:=hA0;rw [Tryz.params3] at hA bU;obtain⟨v0,vs0,d0,ds0,p0,q0,fN,rfl,rfl,h0,r0⟩:=trodAll_cons hA;obtain⟨rfl,rfl,rfl⟩:=trodAll_nil r0;obtain rfl:args=#[v0]:=by cases args;simp_all
 obtain⟨rfl,rfl⟩:=trodVars_none hV;have k0:=h0;have lt0:∀ x∈p0,x.block<W.heap.size:=by obtain⟨m,hm⟩:=k0;exact DataW.trod_lt m _ _ _ hm
 obtain⟨sa0,sl0,sc0,rfl⟩:=okWide_slice Tryz.underlying22 (bU 0 22 v0 rfl rfl);obtain⟨fu0,fQ⟩:=h0;have y0:=Wr hZ (j:=0) rfl rfl Tryz.underlying22 fQ;obtain⟨xs0,rfl,gl0⟩:=(JD _ _ _ _ fQ).gl Tryz.underlying22 _ _ (JE);have z0:XQ W sa0 xs0.length:=λ i hi b s hb hs=>AfA (P:=Tryz.prog) hZ (j:=0) rfl rfl Tryz.underlying22 fQ Tryz.underlying37 (k:=8) rfl VH Mw hi hb (by rw [ZQ];exact hs);clear hA0 lj;refine (Kb (w:=W) (Aiu rfl rfl rfl hL) sa0 xs0 sc0 gl0 y0 z0).mono ?_;rintro _ W' ⟨_,rfl,rfl,Ar⟩;exact⟨_,rfl,_,_,_,[],_,[],hW',trodAll_mk1 (shut_bool Tryz.underlying4 _),(trodAll_cons_mk (Below.trod laidOut (by kernel_rfl) (of_decide_eq_true (by kernel_rfl)) k0 Ar lt0) trodAll_mk0),rfl,Ar.frame _,λ h=>by cases h⟩
/-! ### the row's closed facts, one by one -/
theorem xn:Rows.catalogTwiceRow.wf (OpenSpec.ofChange Rows.catalogTwiceSpec)=true:=by kernel_rfl
theorem tk:mapsRowed Tryz.prog=true:=by kernel_rfl
theorem fa4:Tryz.f3.params.all (Tryz.prog.readableRec ·)=true:=by kernel_rfl
theorem fa5:namedTie Tryz.prog Rows.catalogTwiceRow.named Rows.catalogTwiceSpec.vars=true:=by kernel_rfl
theorem fa6:((Rows.catalogTwiceRow.stops==[]) && (Tryz.prog.stops==[]) && (Rows.catalogTwiceRow.knobs==[]) && (Tryz.prog.stopKnobs==[]))=true:=by kernel_rfl
theorem fa7:(Rows.catalogTwiceRow.inPlace==Tryz.prog.inPlace 3)=true:=by kernel_rfl
theorem fa8:(Rows.catalogTwiceRow.unfollowed==Tryz.prog.unfollowed 3)=true:=by kernel_rfl
theorem fa9:(Rows.catalogTwiceRow.recurses==Tryz.prog.recurses 3)=true:=by kernel_rfl
theorem Akq:(Rows.catalogTwiceRow.named==Tryz.prog.varsNamed 3)=true:=by kernel_rfl
theorem Akr:((Rows.catalogTwiceRow.maps==(Tryz.f3.params.toList++Rows.catalogTwiceSpec.plain.varTypes Tryz.prog).any (Tryz.prog.mapsRec ·)) && (Rows.catalogTwiceRow.ifaces==(Tryz.f3.params.toList++Rows.catalogTwiceSpec.plain.varTypes Tryz.prog).any (Tryz.prog.ifacesRec ·)) && (Rows.catalogTwiceRow.mapsOut==Tryz.prog.mapsAmong Tryz.f3.resultTypes.toList))=true:=by kernel_rfl
theorem Aks:(Rows.catalogTwiceRow.loops==(Tryz.f3.params.toList++Rows.catalogTwiceSpec.plain.varTypes Tryz.prog).any (Tryz.prog.loopsFrom ·))=true:=by kernel_rfl
theorem Akt:(Rows.catalogTwiceRow.wideKeys==(Tryz.f3.params.toList++Rows.catalogTwiceSpec.plain.varTypes Tryz.prog++Tryz.f3.resultTypes.toList).any (Tryz.prog.wideKeysFrom ·))=true:=by kernel_rfl
theorem Aku:(Rows.catalogTwiceSpec.vars.all (Tryz.prog.varReadable ·) && Tryz.f3.resultTypes.all (λ t=>Tryz.prog.readableRec t && decide (t<Tryz.prog.types.size)) && (Rows.catalogTwiceRow.ifacesOut==Tryz.f3.resultTypes.toList.any (Tryz.prog.ifacesRec ·)) && (Rows.catalogTwiceRow.loopsOut==Tryz.f3.resultTypes.toList.any (Tryz.prog.loopsFrom ·)))=true:=by kernel_rfl
theorem Akv:(Rows.catalogTwiceRow.plainKeys==Tryz.prog.plainKeys)=true:=by kernel_rfl
theorem Akw:(Rows.catalogTwiceRow.shortTexts.isNone && Tryz.prog.stopsHeard && Tryz.prog.mayEnter && (Rows.catalogTwiceRow.lifted==Tryz.prog.liftsFinal) && (Tryz.prog.make==some Rows.catalogTwiceRow.make) && (Rows.catalogTwiceRow.pinned==Rows.catalogTwiceRow.pinnedBy))=true:=by kernel_rfl
theorem AjV:Rows.catalogTwiceRow.domain.isEmpty=true:=by kernel_rfl
theorem AjW:(Rows.catalogTwiceRow.kinds==[])=true:=by kernel_rfl
theorem Akx:(Rows.catalogTwiceRow.veiled==(Tryz.f3.params.toList++Rows.catalogTwiceSpec.plain.varTypes Tryz.prog++Tryz.f3.resultTypes.toList).any (Tryz.prog.veiledRec ·))=true:=by kernel_rfl
theorem Aky:Rows.catalogTwiceRow.veiledFits Tryz.prog Tryz.f3.params.toList (Tryz.f3.params.toList++Rows.catalogTwiceSpec.plain.varTypes Tryz.prog++Tryz.f3.resultTypes.toList)=true:=by kernel_rfl
theorem closed:joinedFacts Tryz.prog 3 Tryz.f3 Rows.catalogTwiceSpec Rows.catalogTwiceRow=true:=AeX xn laidOut tk fa4 fa5 fa6 fa7 fa8 fa9 Akq Akr Aks Akt Aku Akv Akw AjV AjW Akx Aky
theorem named : Tryz.prog.funcNamed "stackyard/stackyardlaw22.CatalogTwice" = some 3 := by kernel_rfl
theorem fb1:Rows.catalogTwiceRow.wfByText (OpenSpec.ofChange Rows.catalogTwiceSpec)=true:=by kernel_rfl
theorem fb2 : Tryz.prog.mainIs = some ((true, "7c7aa9cb9611bc7df85649b0d4d1ea91da13c01b7a3fe7e1c6a61ebf69742f23").1, (true, "7c7aa9cb9611bc7df85649b0d4d1ea91da13c01b7a3fe7e1c6a61ebf69742f23").2.toList) := by kernel_rfl
theorem fb3:false=Tryz.prog.looks []:=by kernel_rfl
theorem fb4:([22].all λ u=>!Tryz.prog.wantsStandIn u)=true:=by kernel_rfl
theorem fb5:false=Rows.catalogTwiceRow.goesBy Tryz.prog:=by kernel_rfl
theorem Aft:Rows.CatalogTwiceSaid :=
 OpenClaim.holds_of_wide 3 Tryz.f3 rfl rfl rfl rfl rfl rfl rfl ⟨rfl,rfl,rfl,rfl,rfl⟩ rfl rfl rfl rfl rfl named Tryz.func3 closed
  (of_decide_eq_true (by kernel_rfl)) (by unfold Func.isWrapper;first | (rw [if_pos (by decide +kernel)];kernel_rfl) | (rw [if_neg (by decide +kernel)];exact⟨rfl,rfl⟩))
  (λ os started H enc _=>lifted os started H enc)
theorem proved:Rows.CatalogTwiceCardSaid :=
 Claim7.holds_tied_plain_at .later [] [.data, .data, .data, .data, .pinned] true (true, "7c7aa9cb9611bc7df85649b0d4d1ea91da13c01b7a3fe7e1c6a61ebf69742f23") false
  Aft (λ _ h=>by cases h) fb1 (λ _ h=>by cases h) catalogTwice_row_tie rfl ⟨rfl,rfl⟩ fb2 rfl
  (λ f fn hf nB=>by
   obtain rfl:f=3:=Option.some.inj (named.symm.trans hf) |>.symm;obtain rfl:fn=Tryz.f3:=(Option.some.inj (Tryz.func3.symm.trans nB)).symm;exact⟨fb3,λ j t ht=>by
    rw [Tryz.params3] at ht;have hm:t∈[22]:=by simpa using Array.mem_of_getElem? ht
    exact (show Tryz.prog.wantsStandIn t=false by simpa using List.all_eq_true.1 fb4 t hm)⟩)
  fb5
end Go.Proofs.YtpnaifmmggnimaaGreatDoor.catalogTwice
namespace Go.Proofs.YtpnaifmmggnimaaGreatDoor
theorem catalogTwice_holds:Rows.CatalogTwiceCardSaid:=catalogTwice.proved
end Go.Proofs.YtpnaifmmggnimaaGreatDoor
