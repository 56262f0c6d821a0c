/-
  Texts of this claim, laid one behind the other by a program of mine (install.py): Y.FinTop.
-/
import Derived.Test.YtoepjfblppfabaaGreatDoorRows
import Derived.Test.YtoepjfblppfabaaGreatDoorCards
import Derived.Test.YtoepjfblppfabaaGreatDoorTie
import Derived.WalkKit
import Derived.ProofKit
import Derived.OpenShut
import Derived.ShutString
import Derived.ChangeOld
import Derived.Below
import Derived.Lay
import Derived.LaidOnce
import Derived.SevenTiedAt
import Derived.Test.YtoepjfblppfabaaGreatDoorM1
import Derived.Test.YtoepjfblppfabaaGreatDoorM6
import Derived.Test.YtoepjfblppfabaaGreatDoorM12
/-
  Rows.TopRowsCardSaid: the call of stackyard/stackyardtop.TopRows returns true, whatever the input, and each argument reads behind it as it read before; the listed variables hold what the program's text lays. From the dp SY.
-/
namespace Go.Proofs.YtoepjfblppfabaaGreatDoor.topRows
open Go.ChangeShapes Go.WideShapes Go.ChangeAt Go.RowKit
open Go.ChangeMaps (open_string shut_string)
open Go.Dn
set_option linter.unusedVariables false
theorem own:ownKnob Tryz.prog.godebug=none:=by kernel_rfl
theorem laidOut:laidOutB Tryz.prog=true:=by kernel_rfl
set_option maxRecDepth 100000 in
theorem lifted(os:Os)(started:os.Started)(H:Type)(enc:TypeId × Value->H) :
  ReturnsInHanded {} Tryz.checked os 3 .any (λ w args=>(Rows.topRowsSpec.pre enc Tryz.prog Tryz.f3 [] false w args/\laidMetH Tryz.prog Rows.topRowsRow.laid w)/\sizedMet enc Tryz.prog Tryz.f3 (OpenSpec.ofChange Rows.topRowsSpec) false w args)
   (Rows.topRowsSpec.post enc Tryz.prog Tryz.f3 false true false false):=by
 refine G6 (C:=Tryz.checked) (X:=λ w _=>laidMetH Tryz.prog Rows.topRowsRow.laid w) (λ _ _ _ hh h=>h.of_heap hh) own started (by kernel_rfl) Tryz.func3
  (ChangeSpec.witness_shaped (enc:=enc) (C:=Tryz.checked) (os:=os) (X:=λ w _=>laidMetH Tryz.prog Rows.topRowsRow.laid w) false (World.laidAll Tryz.prog os Rows.topRowsRow.laid) #[.slice none 0 0,.slice none 0 0] 8 (World.laidAll_os _ _ _)
   (World.shaped_of_ZipB (by kernel_rfl) (by kernel_rfl)) (by kernel_rfl) (by kernel_rfl) (by kernel_rfl)
   (by rw [MakeChecks.laidMetH_plain _ _ _ (by kernel_rfl)];exact laidMet_laidAll _ (by kernel_rfl) (by kernel_rfl))) ?_
 intro W base args ds gs before jc hW hZ hL hS;rw [MakeChecks.laidMetH_plain _ _ _ (by kernel_rfl)] at hL;have bU:∀(j:Nat) t v,Tryz.f3.params[j]?=some t->args[j]?=some v->Value.okWide Tryz.prog W .any base t v:=jc;have xH:=hW;obtain⟨p,q,hA0,hV,rfl,hfz,eo⟩:=hW;have hA:DataW.TrodAll enc Tryz.prog W 0 (λ _=>true) true Tryz.f3.params.toList args.toList ds p:=hA0;rw [Tryz.params3] at hA bU;obtain⟨v0,vs0,d0,ds0,p0,q0,dQ,rfl,rfl,h0,r0⟩:=trodAll_cons hA;obtain⟨v1,vs1,d1,ds1,p1,q1,rfl,rfl,rfl,h1,r1⟩:=trodAll_cons r0;obtain⟨rfl,rfl,rfl⟩:=trodAll_nil r1;obtain rfl:args=#[v0,v1]:=by cases args;simp_all
 obtain⟨rfl,rfl⟩:=trodVars_none hV;have k0:=h0;have ym:∀ x∈p0,x.block<W.heap.size:=by obtain⟨m,hm⟩:=k0;exact DataW.trod_lt m _ _ _ hm
 obtain⟨sa0,sl0,sc0,rfl⟩:=okWide_slice Tryz.underlying22 (bU 0 22 v0 rfl rfl);obtain⟨fu0,k9⟩:=h0;have y0:=MK hZ (j:=0) rfl rfl Tryz.underlying22 k9;obtain⟨xs0,rfl,gl0⟩:=(Gz _ _ _ _ k9).gl Tryz.underlying22 _ _ (RP);have k1:=h1;have yn:∀ x∈p1,x.block<W.heap.size:=by obtain⟨m,hm⟩:=k1;exact DataW.trod_lt m _ _ _ hm
 obtain⟨sa1,sl1,sc1,rfl⟩:=okWide_slice Tryz.underlying23 (bU 1 23 v1 rfl rfl);obtain⟨fu1,gh⟩:=h1;have y1:=MK hZ (j:=1) rfl rfl Tryz.underlying23 gh;obtain⟨xs1,rfl,gl1⟩:=(Gz _ _ _ _ gh).gl Tryz.underlying23 _ _ (Xu);clear hA0 jc;refine (SY (w:=W) (Amw rfl rfl rfl rfl rfl rfl rfl rfl rfl hS hL) sa0 xs0 sc0 gl0 y0 sa1 xs1 sc1 gl1 y1).mono ?_;rintro _ W' ⟨_,rfl,rfl,An⟩;exact⟨_,rfl,_,_,_,[],_,[],xH,trodAll_mk1 (shut_bool Tryz.underlying4 _),(trodAll_cons_mk (Below.trod laidOut (by kernel_rfl) (of_decide_eq_true (by kernel_rfl)) k0 An ym) (trodAll_cons_mk (Below.trod laidOut (by kernel_rfl) (of_decide_eq_true (by kernel_rfl)) k1 An yn) trodAll_mk0)),rfl,An.frame _,λ h=>by cases h⟩
/-! ### the row's closed facts, one by one -/
theorem fa1:Rows.topRowsRow.wf (OpenSpec.ofChange Rows.topRowsSpec)=true:=by kernel_rfl
theorem fa3:mapsRowed Tryz.prog=true:=by kernel_rfl
theorem fa4:Tryz.f3.params.all (Tryz.prog.readableRec ·)=true:=by kernel_rfl
theorem fa5:namedTie Tryz.prog Rows.topRowsRow.named Rows.topRowsSpec.vars=true:=by kernel_rfl
theorem fa6:((Rows.topRowsRow.stops==[]) && (Tryz.prog.stops==[]) && (Rows.topRowsRow.knobs==[]) && (Tryz.prog.stopKnobs==[]))=true:=by kernel_rfl
theorem fa7:(Rows.topRowsRow.inPlace==Tryz.prog.inPlace 3)=true:=by kernel_rfl
theorem fa8:(Rows.topRowsRow.unfollowed==Tryz.prog.unfollowed 3)=true:=by kernel_rfl
theorem fa9:(Rows.topRowsRow.recurses==Tryz.prog.recurses 3)=true:=by kernel_rfl
theorem AmH:(Rows.topRowsRow.named==Tryz.prog.varsNamed 3)=true:=by kernel_rfl
theorem AmI:((Rows.topRowsRow.maps==(Tryz.f3.params.toList++Rows.topRowsSpec.plain.varTypes Tryz.prog).any (Tryz.prog.mapsRec ·)) && (Rows.topRowsRow.ifaces==(Tryz.f3.params.toList++Rows.topRowsSpec.plain.varTypes Tryz.prog).any (Tryz.prog.ifacesRec ·)) && (Rows.topRowsRow.mapsOut==Tryz.prog.mapsAmong Tryz.f3.resultTypes.toList))=true:=by kernel_rfl
theorem AmJ:(Rows.topRowsRow.loops==(Tryz.f3.params.toList++Rows.topRowsSpec.plain.varTypes Tryz.prog).any (Tryz.prog.loopsFrom ·))=true:=by kernel_rfl
theorem AmK:(Rows.topRowsRow.wideKeys==(Tryz.f3.params.toList++Rows.topRowsSpec.plain.varTypes Tryz.prog++Tryz.f3.resultTypes.toList).any (Tryz.prog.wideKeysFrom ·))=true:=by kernel_rfl
theorem AmL:(Rows.topRowsSpec.vars.all (Tryz.prog.varReadable ·) && Tryz.f3.resultTypes.all (λ t=>Tryz.prog.readableRec t && decide (t<Tryz.prog.types.size)) && (Rows.topRowsRow.ifacesOut==Tryz.f3.resultTypes.toList.any (Tryz.prog.ifacesRec ·)) && (Rows.topRowsRow.loopsOut==Tryz.f3.resultTypes.toList.any (Tryz.prog.loopsFrom ·)))=true:=by kernel_rfl
theorem AmM:(Rows.topRowsRow.plainKeys==Tryz.prog.plainKeys)=true:=by kernel_rfl
theorem AmN:(Rows.topRowsRow.shortTexts.isNone && Tryz.prog.stopsHeard && Tryz.prog.mayEnter && (Rows.topRowsRow.lifted==Tryz.prog.liftsFinal) && (Tryz.prog.make==some Rows.topRowsRow.make) && (Rows.topRowsRow.pinned==Rows.topRowsRow.pinnedBy))=true:=by kernel_rfl
theorem AlZ:Rows.topRowsRow.domain.isEmpty=true:=by kernel_rfl
theorem Al0:(Rows.topRowsRow.kinds==[])=true:=by kernel_rfl
theorem AmO:(Rows.topRowsRow.veiled==(Tryz.f3.params.toList++Rows.topRowsSpec.plain.varTypes Tryz.prog++Tryz.f3.resultTypes.toList).any (Tryz.prog.veiledRec ·))=true:=by kernel_rfl
theorem AmP:Rows.topRowsRow.veiledFits Tryz.prog Tryz.f3.params.toList (Tryz.f3.params.toList++Rows.topRowsSpec.plain.varTypes Tryz.prog++Tryz.f3.resultTypes.toList)=true:=by kernel_rfl
theorem closed:joinedFacts Tryz.prog 3 Tryz.f3 Rows.topRowsSpec Rows.topRowsRow=true:=AeO fa1 laidOut fa3 fa4 fa5 fa6 fa7 fa8 fa9 AmH AmI AmJ AmK AmL AmM AmN AlZ Al0 AmO AmP
theorem named : Tryz.prog.funcNamed "stackyard/stackyardtop.TopRows" = some 3 := by kernel_rfl
theorem fb1:Rows.topRowsRow.wfByText (OpenSpec.ofChange Rows.topRowsSpec)=true:=by kernel_rfl
theorem fb2 : Tryz.prog.mainIs = some ((true, "38c8647ab8d6683ba486663d0bb34db32e0b94f26c69641dd7abb13c1f9efb66").1, (true, "38c8647ab8d6683ba486663d0bb34db32e0b94f26c69641dd7abb13c1f9efb66").2.toList) := by kernel_rfl
theorem fb3:true=Tryz.prog.looks []:=by kernel_rfl
theorem fb4:([22,23].all λ u=>!Tryz.prog.wantsStandIn u)=true:=by kernel_rfl
theorem AmX:Tryz.prog.funcs.any Func.goes=false:=by kernel_rfl
theorem fb5:false=Rows.topRowsRow.goesBy Tryz.prog:=(AeD AmX _).symm
theorem Afi:Rows.TopRowsSaid :=
 OpenClaim.holds_of_wide 3 Tryz.f3 rfl rfl rfl rfl rfl rfl rfl ⟨rfl,rfl,rfl,rfl,rfl⟩ rfl rfl rfl rfl rfl named Tryz.func3 closed
  (of_decide_eq_true (by kernel_rfl)) (by unfold Func.isWrapper;first | (rw [if_pos (by decide +kernel)];kernel_rfl) | (rw [if_neg (by decide +kernel)];exact⟨rfl,rfl⟩))
  (λ os started H enc _=>lifted os started H enc)
theorem proved:Rows.TopRowsCardSaid :=
 Claim7.holds_tied_plain_at .later [] [.data, .data, .data, .data, .sentinel, .sentinel, .data, .data, .data, .data, .data, .data, .data, .data, .pinned] true (true, "38c8647ab8d6683ba486663d0bb34db32e0b94f26c69641dd7abb13c1f9efb66") true
  Afi (λ _ h=>by cases h) fb1 (λ _ h=>by cases h) topRows_row_tie rfl ⟨rfl,rfl⟩ fb2 rfl
  (λ f fn hf dq=>by
   obtain rfl:f=3:=Option.some.inj (named.symm.trans hf) |>.symm;obtain rfl:fn=Tryz.f3:=(Option.some.inj (Tryz.func3.symm.trans dq)).symm;exact⟨fb3,λ j t ht=>by
    rw [Tryz.params3] at ht;have hm:t∈[22,23]:=by simpa using Array.mem_of_getElem? ht
    exact (show Tryz.prog.wantsStandIn t=false by simpa using List.all_eq_true.1 fb4 t hm)⟩)
  fb5
end Go.Proofs.YtoepjfblppfabaaGreatDoor.topRows
namespace Go.Proofs.YtoepjfblppfabaaGreatDoor
theorem topRows_holds:Rows.TopRowsCardSaid:=topRows.proved
end Go.Proofs.YtoepjfblppfabaaGreatDoor
