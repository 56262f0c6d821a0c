/-
  Texts of this claim, laid one behind the other by a program of mine (install.py): Z.FinWrong.
-/
import Derived.Test.YtegnhfeclchlmaaGreatDoorRows
import Derived.Test.YtegnhfeclchlmaaGreatDoorCards
import Derived.Test.YtegnhfeclchlmaaGreatDoorTie
import Derived.WalkKit
import Derived.ProofKit
import Derived.OpenShut
import Derived.ShutString
import Derived.ChangeOld
import Derived.Below
import Derived.Lay
import Derived.LaidOnce
import Derived.SevenTiedAt
import Derived.Test.YtegnhfeclchlmaaGreatDoorM1
import Derived.Test.YtegnhfeclchlmaaGreatDoorM6
import Derived.Test.YtegnhfeclchlmaaGreatDoorM11
/-
  Rows.ExecWrongCardSaid: the call of stackyard/stackyardlaw17.ExecWrong returns true, whatever the input, and each argument reads behind it as it read before; the listed variables hold what the program's text lays. From the dK LV.
-/
namespace Go.Proofs.YtegnhfeclchlmaaGreatDoor.execWrong
open Go.ChangeShapes Go.WideShapes Go.ChangeAt Go.RowKit
open Go.ChangeMaps (open_string shut_string)
open Go.Dn
set_option linter.unusedVariables false
theorem own:ownKnob Tryz.prog.godebug=none:=by kernel_rfl
theorem laidOut:laidOutB Tryz.prog=true:=by kernel_rfl
set_option maxRecDepth 100000 in
theorem lifted(os:Os)(started:os.Started)(H:Type)(enc:TypeId × Value->H) :
  ReturnsInHanded {} Tryz.checked os 3 .any (λ w args=>(Rows.execWrongSpec.pre enc Tryz.prog Tryz.f3 [] false w args/\laidMetH Tryz.prog Rows.execWrongRow.laid w)/\sizedMet enc Tryz.prog Tryz.f3 (OpenSpec.ofChange Rows.execWrongSpec) false w args)
   (Rows.execWrongSpec.post enc Tryz.prog Tryz.f3 false true false false):=by
 refine Gr (C:=Tryz.checked) (X:=λ w _=>laidMetH Tryz.prog Rows.execWrongRow.laid w) (λ _ _ _ hh h=>h.of_heap hh) own started (by kernel_rfl) Tryz.func3
  (ChangeSpec.witness_shaped (enc:=enc) (C:=Tryz.checked) (os:=os) (X:=λ w _=>laidMetH Tryz.prog Rows.execWrongRow.laid w) false (World.laidAll Tryz.prog os Rows.execWrongRow.laid) #[.slice none 0 0,.slice none 0 0,(.agg #[.slice none 0 0,.slice none 0 0,.slice none 0 0,.slice none 0 0,.int .i64 0])] 8 (World.laidAll_os _ _ _)
   (World.shaped_of_ZipB (by kernel_rfl) (by kernel_rfl)) (by kernel_rfl) (by kernel_rfl) (by kernel_rfl)
   (by rw [MakeChecks.laidMetH_plain _ _ _ (by kernel_rfl)];exact laidMet_laidAll _ (by kernel_rfl) (by kernel_rfl))) ?_
 intro W base args ds gs before hU hW hZ hL hS;rw [MakeChecks.laidMetH_plain _ _ _ (by kernel_rfl)] at hL;have bj:∀(j:Nat) t v,Tryz.f3.params[j]?=some t->args[j]?=some v->Value.okWide Tryz.prog W .any base t v:=hU;have rR:=hW;obtain⟨p,q,hA0,hV,rfl,hfz,pS⟩:=hW;have hA:DataW.TrodAll enc Tryz.prog W 0 (λ _=>true) true Tryz.f3.params.toList args.toList ds p:=hA0;rw [Tryz.params3] at hA bj;obtain⟨v0,vs0,d0,ds0,p0,q0,cf,rfl,rfl,h0,r0⟩:=trodAll_cons hA;obtain⟨v1,vs1,d1,ds1,p1,q1,rfl,rfl,rfl,h1,r1⟩:=trodAll_cons r0;obtain⟨v2,vs2,d2,ds2,p2,q2,rfl,rfl,rfl,h2,r2⟩:=trodAll_cons r1;obtain⟨rfl,rfl,rfl⟩:=trodAll_nil r2;obtain rfl:args=#[v0,v1,v2]:=by cases args;simp_all
 obtain⟨rfl,rfl⟩:=trodVars_none hV;have k0:=h0;have tD:∀ x∈p0,x.block<W.heap.size:=by obtain⟨m,hm⟩:=k0;exact DataW.trod_lt m _ _ _ hm
 obtain⟨sa0,sl0,sc0,rfl⟩:=okWide_slice Tryz.underlying22 (bj 0 22 v0 rfl rfl);obtain⟨fu0,lO⟩:=h0;have y0:=KG hZ (j:=0) rfl rfl Tryz.underlying22 lO;obtain⟨j3,rfl,gl0⟩:=(Eb _ _ _ _ lO).gl Tryz.underlying22 _ _ (Is);have k1:=h1;have tE:∀ x∈p1,x.block<W.heap.size:=by obtain⟨m,hm⟩:=k1;exact DataW.trod_lt m _ _ _ hm
 obtain⟨sa1,sl1,sc1,rfl⟩:=okWide_slice Tryz.underlying22 (bj 1 22 v1 rfl rfl);obtain⟨fu1,lP⟩:=h1;have y1:=KG hZ (j:=1) rfl rfl Tryz.underlying22 lP;obtain⟨xs1,rfl,gl1⟩:=(Eb _ _ _ _ lP).gl Tryz.underlying22 _ _ (Is);have k2:=h2;have tF:∀ x∈p2,x.block<W.heap.size:=by obtain⟨m,hm⟩:=k2;exact DataW.trod_lt m _ _ _ hm
 obtain⟨x2,rfl,y2⟩:=AfJ (bj 2 27 v2 rfl rfl) h2;clear hA0 hU;refine (LV (w:=W) (Ait rfl rfl rfl rfl rfl rfl rfl rfl rfl hS hL) sa0 j3 sc0 gl0 y0 sa1 xs1 sc1 gl1 y1 x2 y2).mono ?_;rintro _ W' ⟨_,rfl,rfl,Ag⟩;exact⟨_,rfl,_,_,_,[],_,[],rR,trodAll_mk1 (shut_bool Tryz.underlying4 _),(trodAll_cons_mk (Below.trod laidOut (by kernel_rfl) (of_decide_eq_true (by kernel_rfl)) k0 Ag tD) (trodAll_cons_mk (Below.trod laidOut (by kernel_rfl) (of_decide_eq_true (by kernel_rfl)) k1 Ag tE) (trodAll_cons_mk (Below.trod laidOut (by kernel_rfl) (of_decide_eq_true (by kernel_rfl)) k2 Ag tF) trodAll_mk0))),rfl,Ag.frame _,λ h=>by cases h⟩
/-! ### the row's closed facts, one by one -/
theorem fa1:Rows.execWrongRow.wf (OpenSpec.ofChange Rows.execWrongSpec)=true:=by kernel_rfl
theorem fa3:mapsRowed Tryz.prog=true:=by kernel_rfl
theorem fa4:Tryz.f3.params.all (Tryz.prog.readableRec ·)=true:=by kernel_rfl
theorem fa5:namedTie Tryz.prog Rows.execWrongRow.named Rows.execWrongSpec.vars=true:=by kernel_rfl
theorem fa6:((Rows.execWrongRow.stops==[]) && (Tryz.prog.stops==[]) && (Rows.execWrongRow.knobs==[]) && (Tryz.prog.stopKnobs==[]))=true:=by kernel_rfl
theorem fa7:(Rows.execWrongRow.inPlace==Tryz.prog.inPlace 3)=true:=by kernel_rfl
theorem fa8:(Rows.execWrongRow.unfollowed==Tryz.prog.unfollowed 3)=true:=by kernel_rfl
theorem fa9:(Rows.execWrongRow.recurses==Tryz.prog.recurses 3)=true:=by kernel_rfl
theorem AiF:(Rows.execWrongRow.named==Tryz.prog.varsNamed 3)=true:=by kernel_rfl
theorem AiG:((Rows.execWrongRow.maps==(Tryz.f3.params.toList++Rows.execWrongSpec.plain.varTypes Tryz.prog).any (Tryz.prog.mapsRec ·)) && (Rows.execWrongRow.ifaces==(Tryz.f3.params.toList++Rows.execWrongSpec.plain.varTypes Tryz.prog).any (Tryz.prog.ifacesRec ·)) && (Rows.execWrongRow.mapsOut==Tryz.prog.mapsAmong Tryz.f3.resultTypes.toList))=true:=by kernel_rfl
theorem AiH:(Rows.execWrongRow.loops==(Tryz.f3.params.toList++Rows.execWrongSpec.plain.varTypes Tryz.prog).any (Tryz.prog.loopsFrom ·))=true:=by kernel_rfl
theorem AiI:(Rows.execWrongRow.wideKeys==(Tryz.f3.params.toList++Rows.execWrongSpec.plain.varTypes Tryz.prog++Tryz.f3.resultTypes.toList).any (Tryz.prog.wideKeysFrom ·))=true:=by kernel_rfl
theorem AiJ:(Rows.execWrongSpec.vars.all (Tryz.prog.varReadable ·) && Tryz.f3.resultTypes.all (λ t=>Tryz.prog.readableRec t && decide (t<Tryz.prog.types.size)) && (Rows.execWrongRow.ifacesOut==Tryz.f3.resultTypes.toList.any (Tryz.prog.ifacesRec ·)) && (Rows.execWrongRow.loopsOut==Tryz.f3.resultTypes.toList.any (Tryz.prog.loopsFrom ·)))=true:=by kernel_rfl
theorem AiK:(Rows.execWrongRow.plainKeys==Tryz.prog.plainKeys)=true:=by kernel_rfl
theorem AiL:(Rows.execWrongRow.shortTexts.isNone && Tryz.prog.stopsHeard && Tryz.prog.mayEnter && (Rows.execWrongRow.lifted==Tryz.prog.liftsFinal) && (Tryz.prog.make==some Rows.execWrongRow.make) && (Rows.execWrongRow.pinned==Rows.execWrongRow.pinnedBy))=true:=by kernel_rfl
theorem Ah0:Rows.execWrongRow.domain.isEmpty=true:=by kernel_rfl
theorem Ah1:(Rows.execWrongRow.kinds==[])=true:=by kernel_rfl
theorem AiM:(Rows.execWrongRow.veiled==(Tryz.f3.params.toList++Rows.execWrongSpec.plain.varTypes Tryz.prog++Tryz.f3.resultTypes.toList).any (Tryz.prog.veiledRec ·))=true:=by kernel_rfl
theorem AiN:Rows.execWrongRow.veiledFits Tryz.prog Tryz.f3.params.toList (Tryz.f3.params.toList++Rows.execWrongSpec.plain.varTypes Tryz.prog++Tryz.f3.resultTypes.toList)=true:=by kernel_rfl
theorem closed:joinedFacts Tryz.prog 3 Tryz.f3 Rows.execWrongSpec Rows.execWrongRow=true:=Acb fa1 laidOut fa3 fa4 fa5 fa6 fa7 fa8 fa9 AiF AiG AiH AiI AiJ AiK AiL Ah0 Ah1 AiM AiN
theorem named : Tryz.prog.funcNamed "stackyard/stackyardlaw17.ExecWrong" = some 3 := by kernel_rfl
theorem fb1:Rows.execWrongRow.wfByText (OpenSpec.ofChange Rows.execWrongSpec)=true:=by kernel_rfl
theorem fb2 : Tryz.prog.mainIs = some ((true, "e3339e91a1ecc2f057915876e520a0b49c9282a45b6d8721b416e0980b85f868").1, (true, "e3339e91a1ecc2f057915876e520a0b49c9282a45b6d8721b416e0980b85f868").2.toList) := by kernel_rfl
theorem fb3:false=Tryz.prog.looks []:=by kernel_rfl
theorem fb4:([22,22,27].all λ u=>!Tryz.prog.wantsStandIn u)=true:=by kernel_rfl
theorem AiR:Tryz.prog.funcs.any Func.goes=false:=by kernel_rfl
theorem fb5:false=Rows.execWrongRow.goesBy Tryz.prog:=(AbZ AiR _).symm
theorem Acv:Rows.ExecWrongSaid :=
 OpenClaim.holds_of_wide 3 Tryz.f3 rfl rfl rfl rfl rfl rfl rfl ⟨rfl,rfl,rfl,rfl,rfl⟩ rfl rfl rfl rfl rfl named Tryz.func3 closed
  (of_decide_eq_true (by kernel_rfl)) (by unfold Func.isWrapper;first | (rw [if_pos (by decide +kernel)];kernel_rfl) | (rw [if_neg (by decide +kernel)];exact⟨rfl,rfl⟩))
  (λ os started H enc _=>lifted os started H enc)
theorem proved:Rows.ExecWrongCardSaid :=
 Claim7.holds_tied_plain_at .later [] [.data, .data, .data, .data, .data, .data, .data, .data, .data, .data, .data, .data, .pinned] true (true, "e3339e91a1ecc2f057915876e520a0b49c9282a45b6d8721b416e0980b85f868") false
  Acv (λ _ h=>by cases h) fb1 (λ _ h=>by cases h) execWrong_row_tie rfl ⟨rfl,rfl⟩ fb2 rfl
  (λ f fn hf df=>by
   obtain rfl:f=3:=Option.some.inj (named.symm.trans hf) |>.symm;obtain rfl:fn=Tryz.f3:=(Option.some.inj (Tryz.func3.symm.trans df)).symm;exact⟨fb3,λ j t ht=>by
    rw [Tryz.params3] at ht;have hm:t∈[22,22,27]:=by simpa using Array.mem_of_getElem? ht
    exact (show Tryz.prog.wantsStandIn t=false by simpa using List.all_eq_true.1 fb4 t hm)⟩)
  fb5
end Go.Proofs.YtegnhfeclchlmaaGreatDoor.execWrong
namespace Go.Proofs.YtegnhfeclchlmaaGreatDoor
theorem execWrong_holds:Rows.ExecWrongCardSaid:=execWrong.proved
end Go.Proofs.YtegnhfeclchlmaaGreatDoor
