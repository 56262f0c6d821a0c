/-
  Texts of this claim, laid one behind the other by a program of mine (install.py): G.FinOn.
-/
import Derived.Test.YtpnaifmmggnimaaGreatDoorRows
import Derived.Test.YtpnaifmmggnimaaGreatDoorCards
import Derived.Test.YtpnaifmmggnimaaGreatDoorTie
import Derived.WalkKit
import Derived.ProofKit
import Derived.OpenShut
import Derived.ShutString
import Derived.ChangeOld
import Derived.Below
import Derived.Lay
import Derived.LaidOnce
import Derived.SevenTiedAt
import Derived.Test.YtpnaifmmggnimaaGreatDoorM1
import Derived.Test.YtpnaifmmggnimaaGreatDoorM9
import Derived.Test.YtpnaifmmggnimaaGreatDoorM12
/-
  Rows.CatalogOnCardSaid: the call of stackyard/stackyardlaw22.CatalogOn returns true, whatever the input, and each argument reads behind it as it read before; the listed variables hold what the program's text lays. From the fP NR.
-/
namespace Go.Proofs.YtpnaifmmggnimaaGreatDoor.catalogOn
open _root_.Go.Proofs.Tryz renaming prog -> Aix
open Go.ChangeShapes Go.WideShapes Go.ChangeAt Go.RowKit
open Go.ChangeMaps (open_string shut_string)
open Go.Dn
set_option linter.unusedVariables false
theorem own:ownKnob Aix.godebug=none:=by kernel_rfl
theorem laidOut:laidOutB Aix=true:=by kernel_rfl
set_option maxRecDepth 100000 in
theorem lifted(os:Os)(started:os.Started)(H:Type)(enc:TypeId × Value->H) :
  ReturnsInHanded {} Tryz.checked os 7 .any (λ w args=>(Rows.catalogOnSpec.pre enc Aix Tryz.f7 [] false w args/\laidMetH Aix Rows.catalogOnRow.laid w)/\sizedMet enc Aix Tryz.f7 (OpenSpec.ofChange Rows.catalogOnSpec) false w args)
   (Rows.catalogOnSpec.post enc Aix Tryz.f7 false true false false):=by
 refine Hx (C:=Tryz.checked) (X:=λ w _=>laidMetH Aix Rows.catalogOnRow.laid w) (λ _ _ _ hh h=>h.of_heap hh) own started (by kernel_rfl) Tryz.func7
  (ChangeSpec.witness_shaped (enc:=enc) (C:=Tryz.checked) (os:=os) (X:=λ w _=>laidMetH Aix Rows.catalogOnRow.laid w) false (World.laidAll Aix os Rows.catalogOnRow.laid) #[.slice none 0 0,.int .i64 0] 8 (World.laidAll_os _ _ _)
   (World.shaped_of_ZipB (by kernel_rfl) (by kernel_rfl)) (by kernel_rfl) (by kernel_rfl) (by kernel_rfl)
   (by rw [MakeChecks.laidMetH_plain _ _ _ (by kernel_rfl)];exact laidMet_laidAll _ (by kernel_rfl) (by kernel_rfl))) ?_
 intro W base args ds gs before mF hW hZ hL hS;rw [MakeChecks.laidMetH_plain _ _ _ (by kernel_rfl)] at hL;have bS:∀(j:Nat) t v,Tryz.f7.params[j]?=some t->args[j]?=some v->Value.okWide Aix W .any base t v:=mF;have hW':=hW;obtain⟨p,q,hA0,hV,rfl,sM,dm⟩:=hW;have hA:DataW.TrodAll enc Aix W 0 (λ _=>true) true Tryz.f7.params.toList args.toList ds p:=hA0;rw [Tryz.params7] at hA bS;obtain⟨v0,vs0,d0,ds0,p0,q0,fV,rfl,rfl,h0,r0⟩:=trodAll_cons hA;obtain⟨v1,vs1,d1,ds1,p1,q1,rfl,rfl,rfl,h1,r1⟩:=trodAll_cons r0;obtain⟨rfl,rfl,rfl⟩:=trodAll_nil r1;obtain rfl:args=#[v0,v1]:=by cases args;simp_all
 obtain⟨rfl,rfl⟩:=trodVars_none hV;have k0:=h0;have lt0:∀ x∈p0,x.block<W.heap.size:=by obtain⟨m,hm⟩:=k0;exact DataW.trod_lt m _ _ _ hm
 obtain⟨sa0,sl0,sc0,rfl⟩:=okWide_slice Tryz.underlying22 (bS 0 22 v0 rfl rfl);obtain⟨fu0,fY⟩:=h0;have y0:=U4 hZ (j:=0) rfl rfl Tryz.underlying22 fY;obtain⟨xs0,rfl,gl0⟩:=(Jb _ _ _ _ fY).gl Tryz.underlying22 _ _ (Jc);have z0:Ww W sa0 xs0.length:=λ i hi b s hb hs=>AcR (P:=Aix) hZ (j:=0) rfl rfl Tryz.underlying22 fY Tryz.underlying37 (k:=8) rfl Us LG hi hb (by rw [XP];exact hs);have k1:=h1;have lt1:∀ x∈p1,x.block<W.heap.size:=by obtain⟨m,hm⟩:=k1;exact DataW.trod_lt m _ _ _ hm
 obtain⟨a1,rfl,rfl,rfl,w1⟩:=open_int Tryz.underlying3 (bS 1 3 v1 rfl rfl) h1;clear hA0 mF;refine (NR (w:=W) (AfL rfl rfl rfl hL) sa0 xs0 sc0 gl0 y0 z0 a1 w1).mono ?_;rintro _ W' ⟨_,rfl,rfl,Ar⟩;exact⟨_,rfl,_,_,_,[],_,[],hW',trodAll_mk1 (shut_bool Tryz.underlying4 _),(trodAll_cons_mk (Below.trod laidOut (by kernel_rfl) (of_decide_eq_true (by kernel_rfl)) k0 Ar lt0) (trodAll_cons_mk (shut_int Tryz.underlying3 w1) trodAll_mk0)),rfl,Ar.frame _,λ h=>by cases h⟩
/-! ### the row's closed facts, one by one -/
theorem ld:Rows.catalogOnRow.wf (OpenSpec.ofChange Rows.catalogOnSpec)=true:=by kernel_rfl
theorem uP:mapsRowed Aix=true:=by kernel_rfl
theorem fa4:Tryz.f7.params.all (Aix.readableRec ·)=true:=by kernel_rfl
theorem fa5:namedTie Aix Rows.catalogOnRow.named Rows.catalogOnSpec.vars=true:=by kernel_rfl
theorem fa6:((Rows.catalogOnRow.stops==[]) && (Aix.stops==[]) && (Rows.catalogOnRow.knobs==[]) && (Aix.stopKnobs==[]))=true:=by kernel_rfl
theorem fa7:(Rows.catalogOnRow.inPlace==Aix.inPlace 7)=true:=by kernel_rfl
theorem fa8:(Rows.catalogOnRow.unfollowed==Aix.unfollowed 7)=true:=by kernel_rfl
theorem fa9:(Rows.catalogOnRow.recurses==Aix.recurses 7)=true:=by kernel_rfl
theorem AhD:(Rows.catalogOnRow.named==Aix.varsNamed 7)=true:=by kernel_rfl
theorem AhE:((Rows.catalogOnRow.maps==(Tryz.f7.params.toList++Rows.catalogOnSpec.plain.varTypes Aix).any (Aix.mapsRec ·)) && (Rows.catalogOnRow.ifaces==(Tryz.f7.params.toList++Rows.catalogOnSpec.plain.varTypes Aix).any (Aix.ifacesRec ·)) && (Rows.catalogOnRow.mapsOut==Aix.mapsAmong Tryz.f7.resultTypes.toList))=true:=by kernel_rfl
theorem AhF:(Rows.catalogOnRow.loops==(Tryz.f7.params.toList++Rows.catalogOnSpec.plain.varTypes Aix).any (Aix.loopsFrom ·))=true:=by kernel_rfl
theorem AhG:(Rows.catalogOnRow.wideKeys==(Tryz.f7.params.toList++Rows.catalogOnSpec.plain.varTypes Aix++Tryz.f7.resultTypes.toList).any (Aix.wideKeysFrom ·))=true:=by kernel_rfl
theorem AhH:(Rows.catalogOnSpec.vars.all (Aix.varReadable ·) && Tryz.f7.resultTypes.all (λ t=>Aix.readableRec t && decide (t<Aix.types.size)) && (Rows.catalogOnRow.ifacesOut==Tryz.f7.resultTypes.toList.any (Aix.ifacesRec ·)) && (Rows.catalogOnRow.loopsOut==Tryz.f7.resultTypes.toList.any (Aix.loopsFrom ·)))=true:=by kernel_rfl
theorem AhI:(Rows.catalogOnRow.plainKeys==Aix.plainKeys)=true:=by kernel_rfl
theorem AhJ:(Rows.catalogOnRow.shortTexts.isNone && Aix.stopsHeard && Aix.mayEnter && (Rows.catalogOnRow.lifted==Aix.liftsFinal) && (Aix.make==some Rows.catalogOnRow.make) && (Rows.catalogOnRow.pinned==Rows.catalogOnRow.pinnedBy))=true:=by kernel_rfl
theorem Ag8:Rows.catalogOnRow.domain.isEmpty=true:=by kernel_rfl
theorem Ag9:(Rows.catalogOnRow.kinds==[])=true:=by kernel_rfl
theorem AhK:(Rows.catalogOnRow.veiled==(Tryz.f7.params.toList++Rows.catalogOnSpec.plain.varTypes Aix++Tryz.f7.resultTypes.toList).any (Aix.veiledRec ·))=true:=by kernel_rfl
theorem AhL:Rows.catalogOnRow.veiledFits Aix Tryz.f7.params.toList (Tryz.f7.params.toList++Rows.catalogOnSpec.plain.varTypes Aix++Tryz.f7.resultTypes.toList)=true:=by kernel_rfl
theorem closed:joinedFacts Aix 7 Tryz.f7 Rows.catalogOnSpec Rows.catalogOnRow=true:=Acj ld laidOut uP fa4 fa5 fa6 fa7 fa8 fa9 AhD AhE AhF AhG AhH AhI AhJ Ag8 Ag9 AhK AhL
theorem named : Aix.funcNamed "stackyard/stackyardlaw22.CatalogOn" = some 7 := by kernel_rfl
theorem fb1:Rows.catalogOnRow.wfByText (OpenSpec.ofChange Rows.catalogOnSpec)=true:=by kernel_rfl
theorem fb2 : Aix.mainIs = some ((true, "7c7aa9cb9611bc7df85649b0d4d1ea91da13c01b7a3fe7e1c6a61ebf69742f23").1, (true, "7c7aa9cb9611bc7df85649b0d4d1ea91da13c01b7a3fe7e1c6a61ebf69742f23").2.toList) := by kernel_rfl
theorem fb3:false=Aix.looks []:=by kernel_rfl
theorem fb4:([22,3].all λ u=>!Aix.wantsStandIn u)=true:=by kernel_rfl
theorem fb5:false=Rows.catalogOnRow.goesBy Aix:=by kernel_rfl
theorem AcI:Rows.CatalogOnSaid :=
 OpenClaim.holds_of_wide 7 Tryz.f7 rfl rfl rfl rfl rfl rfl rfl ⟨rfl,rfl,rfl,rfl,rfl⟩ rfl rfl rfl rfl rfl named Tryz.func7 closed
  (of_decide_eq_true (by kernel_rfl)) (by unfold Func.isWrapper;first | (rw [if_pos (by decide +kernel)];kernel_rfl) | (rw [if_neg (by decide +kernel)];exact⟨rfl,rfl⟩))
  (λ os started H enc _=>lifted os started H enc)
theorem proved:Rows.CatalogOnCardSaid :=
 Claim7.holds_tied_plain_at .later [] [.data, .data, .data, .data, .pinned] true (true, "7c7aa9cb9611bc7df85649b0d4d1ea91da13c01b7a3fe7e1c6a61ebf69742f23") false
  AcI (λ _ h=>by cases h) fb1 (λ _ h=>by cases h) catalogOn_row_tie rfl ⟨rfl,rfl⟩ fb2 rfl
  (λ f fn hf nW=>by
   obtain rfl:f=7:=Option.some.inj (named.symm.trans hf) |>.symm;obtain rfl:fn=Tryz.f7:=(Option.some.inj (Tryz.func7.symm.trans nW)).symm;exact⟨fb3,λ j t ht=>by
    rw [Tryz.params7] at ht;have hm:t∈[22,3]:=by simpa using Array.mem_of_getElem? ht
    exact (show Aix.wantsStandIn t=false by simpa using List.all_eq_true.1 fb4 t hm)⟩)
  fb5
end Go.Proofs.YtpnaifmmggnimaaGreatDoor.catalogOn
namespace Go.Proofs.YtpnaifmmggnimaaGreatDoor
theorem catalogOn_holds:Rows.CatalogOnCardSaid:=catalogOn.proved
end Go.Proofs.YtpnaifmmggnimaaGreatDoor
