/-
  Texts of this claim, laid one behind the other by a program of mine (install.py): G.FinRows.
-/
import Derived.Test.YtpnaifmmggnimaaGreatDoorRows
import Derived.Test.YtpnaifmmggnimaaGreatDoorCards
import Derived.Test.YtpnaifmmggnimaaGreatDoorTie
import Derived.WalkKit
import Derived.ProofKit
import Derived.OpenShut
import Derived.ShutString
import Derived.ChangeOld
import Derived.Below
import Derived.Lay
import Derived.LaidOnce
import Derived.SevenTiedAt
import Derived.Test.YtpnaifmmggnimaaGreatDoorM1
import Derived.Test.YtpnaifmmggnimaaGreatDoorM9
import Derived.Test.YtpnaifmmggnimaaGreatDoorM12
/-
  Rows.CatalogRowsCardSaid: the call of stackyard/stackyardlaw22.CatalogRows returns true, whatever the input, and each argument reads behind it as it read before; the listed variables hold what the program's text lays. From the fC KW.
-/
namespace Go.Proofs.YtpnaifmmggnimaaGreatDoor.catalogRows
open Go.ChangeShapes Go.WideShapes Go.ChangeAt Go.RowKit
open Go.ChangeMaps (open_string shut_string)
open Go.Dn
set_option linter.unusedVariables false
theorem own:ownKnob Tryz.prog.godebug=none:=by kernel_rfl
theorem laidOut:laidOutB Tryz.prog=true:=by kernel_rfl
set_option maxRecDepth 100000 in
theorem lifted(os:Os)(started:os.Started)(H:Type)(enc:TypeId × Value->H) :
  ReturnsInHanded {} Tryz.checked os 4 .any (λ w args=>(Rows.catalogRowsSpec.pre enc Tryz.prog Tryz.f4 [] false w args/\laidMetH Tryz.prog Rows.catalogRowsRow.laid w)/\sizedMet enc Tryz.prog Tryz.f4 (OpenSpec.ofChange Rows.catalogRowsSpec) false w args)
   (Rows.catalogRowsSpec.post enc Tryz.prog Tryz.f4 false true false false):=by
 refine Hz (C:=Tryz.checked) (X:=λ w _=>laidMetH Tryz.prog Rows.catalogRowsRow.laid w) (λ _ _ _ hh h=>h.of_heap hh) own started (by kernel_rfl) Tryz.func4
  (ChangeSpec.witness_shaped (enc:=enc) (C:=Tryz.checked) (os:=os) (X:=λ w _=>laidMetH Tryz.prog Rows.catalogRowsRow.laid w) false (World.laidAll Tryz.prog os Rows.catalogRowsRow.laid) #[.slice none 0 0] 8 (World.laidAll_os _ _ _)
   (World.shaped_of_ZipB (by kernel_rfl) (by kernel_rfl)) (by kernel_rfl) (by kernel_rfl) (by kernel_rfl)
   (by rw [MakeChecks.laidMetH_plain _ _ _ (by kernel_rfl)];exact laidMet_laidAll _ (by kernel_rfl) (by kernel_rfl))) ?_
 intro W base args ds gs before lQ hW hZ hL hS;rw [MakeChecks.laidMetH_plain _ _ _ (by kernel_rfl)] at hL;have bQ:∀(j:Nat) t v,Tryz.f4.params[j]?=some t->args[j]?=some v->Value.okWide Tryz.prog W .any base t v:=lQ;have hW':=hW;obtain⟨p,q,hA0,hV,rfl,qy,eM⟩:=hW;have hA:DataW.TrodAll enc Tryz.prog W 0 (λ _=>true) true Tryz.f4.params.toList args.toList ds p:=hA0;rw [Tryz.params4] at hA bQ;obtain⟨v0,vs0,d0,ds0,p0,q0,fE,rfl,rfl,h0,r0⟩:=trodAll_cons hA;obtain⟨rfl,rfl,rfl⟩:=trodAll_nil r0;obtain rfl:args=#[v0]:=by cases args;simp_all
 obtain⟨rfl,rfl⟩:=trodVars_none hV;have k0:=h0;have lt0:∀ x∈p0,x.block<W.heap.size:=by obtain⟨m,hm⟩:=k0;exact DataW.trod_lt m _ _ _ hm
 obtain⟨sa0,sl0,sc0,rfl⟩:=okWide_slice Tryz.underlying22 (bQ 0 22 v0 rfl rfl);obtain⟨fu0,fF⟩:=h0;have y0:=V8 hZ (j:=0) rfl rfl Tryz.underlying22 fF;obtain⟨xs0,rfl,gl0⟩:=(JN _ _ _ _ fF).gl Tryz.underlying22 _ _ (JD);have z0:Ym W sa0 xs0.length:=λ i hi b s hb hs=>Ad9 (P:=Tryz.prog) hZ (j:=0) rfl rfl Tryz.underlying22 fF Tryz.underlying37 (k:=8) rfl UY Ms hi hb (by rw [Abi];exact hs);clear hA0 lQ;refine (KW (w:=W) (AhE rfl rfl rfl hL) sa0 xs0 sc0 gl0 y0 z0).mono ?_;rintro _ W' ⟨_,rfl,rfl,Ar⟩;exact⟨_,rfl,_,_,_,[],_,[],hW',trodAll_mk1 (shut_bool Tryz.underlying4 _),(trodAll_cons_mk (Below.trod laidOut (by kernel_rfl) (of_decide_eq_true (by kernel_rfl)) k0 Ar lt0) trodAll_mk0),rfl,Ar.frame _,λ h=>by cases h⟩
/-! ### the row's closed facts, one by one -/
theorem xh:Rows.catalogRowsRow.wf (OpenSpec.ofChange Rows.catalogRowsSpec)=true:=by kernel_rfl
theorem xE:mapsRowed Tryz.prog=true:=by kernel_rfl
theorem fa4:Tryz.f4.params.all (Tryz.prog.readableRec ·)=true:=by kernel_rfl
theorem fa5:namedTie Tryz.prog Rows.catalogRowsRow.named Rows.catalogRowsSpec.vars=true:=by kernel_rfl
theorem fa6:((Rows.catalogRowsRow.stops==[]) && (Tryz.prog.stops==[]) && (Rows.catalogRowsRow.knobs==[]) && (Tryz.prog.stopKnobs==[]))=true:=by kernel_rfl
theorem fa7:(Rows.catalogRowsRow.inPlace==Tryz.prog.inPlace 4)=true:=by kernel_rfl
theorem fa8:(Rows.catalogRowsRow.unfollowed==Tryz.prog.unfollowed 4)=true:=by kernel_rfl
theorem fa9:(Rows.catalogRowsRow.recurses==Tryz.prog.recurses 4)=true:=by kernel_rfl
theorem Akh:(Rows.catalogRowsRow.named==Tryz.prog.varsNamed 4)=true:=by kernel_rfl
theorem Akp:((Rows.catalogRowsRow.maps==(Tryz.f4.params.toList++Rows.catalogRowsSpec.plain.varTypes Tryz.prog).any (Tryz.prog.mapsRec ·)) && (Rows.catalogRowsRow.ifaces==(Tryz.f4.params.toList++Rows.catalogRowsSpec.plain.varTypes Tryz.prog).any (Tryz.prog.ifacesRec ·)) && (Rows.catalogRowsRow.mapsOut==Tryz.prog.mapsAmong Tryz.f4.resultTypes.toList))=true:=by kernel_rfl
theorem Akq:(Rows.catalogRowsRow.loops==(Tryz.f4.params.toList++Rows.catalogRowsSpec.plain.varTypes Tryz.prog).any (Tryz.prog.loopsFrom ·))=true:=by kernel_rfl
theorem Akb:(Rows.catalogRowsRow.wideKeys==(Tryz.f4.params.toList++Rows.catalogRowsSpec.plain.varTypes Tryz.prog++Tryz.f4.resultTypes.toList).any (Tryz.prog.wideKeysFrom ·))=true:=by kernel_rfl
theorem Akv:(Rows.catalogRowsSpec.vars.all (Tryz.prog.varReadable ·) && Tryz.f4.resultTypes.all (λ t=>Tryz.prog.readableRec t && decide (t<Tryz.prog.types.size)) && (Rows.catalogRowsRow.ifacesOut==Tryz.f4.resultTypes.toList.any (Tryz.prog.ifacesRec ·)) && (Rows.catalogRowsRow.loopsOut==Tryz.f4.resultTypes.toList.any (Tryz.prog.loopsFrom ·)))=true:=by kernel_rfl
theorem Aks:(Rows.catalogRowsRow.plainKeys==Tryz.prog.plainKeys)=true:=by kernel_rfl
theorem Akf:(Rows.catalogRowsRow.shortTexts.isNone && Tryz.prog.stopsHeard && Tryz.prog.mayEnter && (Rows.catalogRowsRow.lifted==Tryz.prog.liftsFinal) && (Tryz.prog.make==some Rows.catalogRowsRow.make) && (Rows.catalogRowsRow.pinned==Rows.catalogRowsRow.pinnedBy))=true:=by kernel_rfl
theorem Aj7:Rows.catalogRowsRow.domain.isEmpty=true:=by kernel_rfl
theorem Aj2:(Rows.catalogRowsRow.kinds==[])=true:=by kernel_rfl
theorem Akr:(Rows.catalogRowsRow.veiled==(Tryz.f4.params.toList++Rows.catalogRowsSpec.plain.varTypes Tryz.prog++Tryz.f4.resultTypes.toList).any (Tryz.prog.veiledRec ·))=true:=by kernel_rfl
theorem Akj:Rows.catalogRowsRow.veiledFits Tryz.prog Tryz.f4.params.toList (Tryz.f4.params.toList++Rows.catalogRowsSpec.plain.varTypes Tryz.prog++Tryz.f4.resultTypes.toList)=true:=by kernel_rfl
theorem closed:joinedFacts Tryz.prog 4 Tryz.f4 Rows.catalogRowsSpec Rows.catalogRowsRow=true:=Ae2 xh laidOut xE fa4 fa5 fa6 fa7 fa8 fa9 Akh Akp Akq Akb Akv Aks Akf Aj7 Aj2 Akr Akj
theorem named : Tryz.prog.funcNamed "stackyard/stackyardlaw22.CatalogRows" = some 4 := by kernel_rfl
theorem fb1:Rows.catalogRowsRow.wfByText (OpenSpec.ofChange Rows.catalogRowsSpec)=true:=by kernel_rfl
theorem fb2 : Tryz.prog.mainIs = some ((true, "7c7aa9cb9611bc7df85649b0d4d1ea91da13c01b7a3fe7e1c6a61ebf69742f23").1, (true, "7c7aa9cb9611bc7df85649b0d4d1ea91da13c01b7a3fe7e1c6a61ebf69742f23").2.toList) := by kernel_rfl
theorem fb3:false=Tryz.prog.looks []:=by kernel_rfl
theorem fb4:([22].all λ u=>!Tryz.prog.wantsStandIn u)=true:=by kernel_rfl
theorem fb5:false=Rows.catalogRowsRow.goesBy Tryz.prog:=by kernel_rfl
theorem Afn:Rows.CatalogRowsSaid :=
 OpenClaim.holds_of_wide 4 Tryz.f4 rfl rfl rfl rfl rfl rfl rfl ⟨rfl,rfl,rfl,rfl,rfl⟩ rfl rfl rfl rfl rfl named Tryz.func4 closed
  (of_decide_eq_true (by kernel_rfl)) (by unfold Func.isWrapper;first | (rw [if_pos (by decide +kernel)];kernel_rfl) | (rw [if_neg (by decide +kernel)];exact⟨rfl,rfl⟩))
  (λ os started H enc _=>lifted os started H enc)
theorem proved:Rows.CatalogRowsCardSaid :=
 Claim7.holds_tied_plain_at .later [] [.data, .data, .data, .data, .pinned] true (true, "7c7aa9cb9611bc7df85649b0d4d1ea91da13c01b7a3fe7e1c6a61ebf69742f23") false
  Afn (λ _ h=>by cases h) fb1 (λ _ h=>by cases h) catalogRows_row_tie rfl ⟨rfl,rfl⟩ fb2 rfl
  (λ f fn hf o5=>by
   obtain rfl:f=4:=Option.some.inj (named.symm.trans hf) |>.symm;obtain rfl:fn=Tryz.f4:=(Option.some.inj (Tryz.func4.symm.trans o5)).symm;exact⟨fb3,λ j t ht=>by
    rw [Tryz.params4] at ht;have hm:t∈[22]:=by simpa using Array.mem_of_getElem? ht
    exact (show Tryz.prog.wantsStandIn t=false by simpa using List.all_eq_true.1 fb4 t hm)⟩)
  fb5
end Go.Proofs.YtpnaifmmggnimaaGreatDoor.catalogRows
namespace Go.Proofs.YtpnaifmmggnimaaGreatDoor
theorem catalogRows_holds:Rows.CatalogRowsCardSaid:=catalogRows.proved
end Go.Proofs.YtpnaifmmggnimaaGreatDoor
