/-
  Texts of this claim, laid one behind the other by a program of mine (install.py): P.FinQBrackets.
-/
import Derived.Test.YtbpdfpfgijhokaaGreatDoorRows
import Derived.Test.YtbpdfpfgijhokaaGreatDoorCards
import Derived.Test.YtbpdfpfgijhokaaGreatDoorTie
import Derived.WalkKit
import Derived.ProofKit
import Derived.OpenShut
import Derived.ShutString
import Derived.ChangeOld
import Derived.Below
import Derived.Lay
import Derived.LaidOnce
import Derived.SevenTiedAt
import Derived.Test.YtbpdfpfgijhokaaGreatDoorM1
import Derived.Test.YtbpdfpfgijhokaaGreatDoorM6
import Derived.Test.YtbpdfpfgijhokaaGreatDoorM9
/-
  Rows.QueryBracketsCardSaid: the call of stackyard/stackyardlaw11.QueryBrackets returns true, whatever the input, and each argument reads behind it as it read before; the listed variables hold what the program's text lays. From the contract QueryBrackets_ok.
-/
namespace Go.Proofs.YtbpdfpfgijhokaaGreatDoor.queryBrackets
open Go.ChangeShapes Go.WideShapes Go.ChangeAt Go.RowKit
open Go.ChangeMaps (open_string shut_string)
open Go.Dn
set_option linter.unusedVariables false
theorem own : ownKnob Tryz.prog.godebug = none := by kernel_rfl
theorem laidOut : laidOutB Tryz.prog = true := by kernel_rfl
set_option maxRecDepth 100000 in
theorem lifted (os : Os) (started : os.Started) (H : Type) (enc : TypeId × Value → H) :
    ReturnsInHanded {} Tryz.checked os 12 .any (fun w args => (Rows.queryBracketsSpec.pre enc Tryz.prog Tryz.f12 [] false w args ∧ laidMetH Tryz.prog Rows.queryBracketsRow.laid w) ∧ sizedMet enc Tryz.prog Tryz.f12 (OpenSpec.ofChange Rows.queryBracketsSpec) false w args)
      (Rows.queryBracketsSpec.post enc Tryz.prog Tryz.f12 false true false false) := by
  refine returnsInHanded_and_shaped (C := Tryz.checked) (X := fun w _ => laidMetH Tryz.prog Rows.queryBracketsRow.laid w) (fun _ _ _ hh h => h.of_heap hh) own started (by kernel_rfl) Tryz.func12
    (ChangeSpec.witness_shaped (enc := enc) (C := Tryz.checked) (os := os) (X := fun w _ => laidMetH Tryz.prog Rows.queryBracketsRow.laid w) false (World.laidAll Tryz.prog os Rows.queryBracketsRow.laid) #[(.agg #[.slice none 0 0, .slice none 0 0, .slice none 0 0, .slice none 0 0, .int .i64 0])] 8 (World.laidAll_os _ _ _)
      (World.shaped_of_ZipB (by kernel_rfl) (by kernel_rfl)) (by kernel_rfl) (by kernel_rfl) (by kernel_rfl)
      (by rw [MakeChecks.laidMetH_plain _ _ _ (by kernel_rfl)]; exact laidMet_laidAll _ (by kernel_rfl) (by kernel_rfl))) ?_
  intro W base args ds gs before hval0 hW hZ hL hS
  rw [MakeChecks.laidMetH_plain _ _ _ (by kernel_rfl)] at hL
  have hval : ∀ (j : Nat) t v, Tryz.f12.params[j]? = some t → args[j]? = some v → Value.okWide Tryz.prog W .any base t v := hval0
  have hW' := hW
  obtain ⟨p, q, hA0, hV, rfl, hfz, hnd⟩ := hW
  have hA : DataW.TrodAll enc Tryz.prog W 0 (fun _ => true) true Tryz.f12.params.toList args.toList ds p := hA0
  rw [Tryz.params12] at hA hval
  obtain ⟨v0, vs0, d0, ds0, p0, q0, hargs, rfl, rfl, h0, r0⟩ := trodAll_cons hA
  obtain ⟨rfl, rfl, rfl⟩ := trodAll_nil r0
  obtain rfl : args = #[v0] := by cases args; simp_all
  obtain ⟨rfl, rfl⟩ := trodVars_none hV
  have k0 := h0
  have lt0 : ∀ x ∈ p0, x.block < W.heap.size := by obtain ⟨m, hm⟩ := k0; exact DataW.trod_lt m _ _ _ hm
  obtain ⟨x0, rfl, y0⟩ := open_qu (hval 0 27 v0 rfl rfl) h0
  clear hA0 hval0
  refine (QueryBrackets_ok (w := W) (env2_of rfl rfl hL (env_of rfl rfl rfl rfl hS hL)) x0 y0).mono ?_
  rintro _ W' ⟨_, rfl, rfl, bel⟩
  exact ⟨_, rfl, _, _, _, [], _, [], hW', trodAll_mk1 (shut_bool Tryz.underlying4 _), (trodAll_cons_mk (Below.trod laidOut (by kernel_rfl) (of_decide_eq_true (by kernel_rfl)) k0 bel lt0) trodAll_mk0), rfl, bel.frame _, fun h => by cases h⟩
/-! ### the row's closed facts, one by one -/
theorem fa1 : Rows.queryBracketsRow.wf (OpenSpec.ofChange Rows.queryBracketsSpec) = true := by kernel_rfl
theorem fa3 : mapsRowed Tryz.prog = true := by kernel_rfl
theorem fa4 : Tryz.f12.params.all (Tryz.prog.readableRec ·) = true := by kernel_rfl
theorem fa5 : namedTie Tryz.prog Rows.queryBracketsRow.named Rows.queryBracketsSpec.vars = true := by kernel_rfl
theorem fa6 : ((Rows.queryBracketsRow.stops == []) && (Tryz.prog.stops == []) && (Rows.queryBracketsRow.knobs == []) && (Tryz.prog.stopKnobs == [])) = true := by kernel_rfl
theorem fa7 : (Rows.queryBracketsRow.inPlace == Tryz.prog.inPlace 12) = true := by kernel_rfl
theorem fa8 : (Rows.queryBracketsRow.unfollowed == Tryz.prog.unfollowed 12) = true := by kernel_rfl
theorem fa9 : (Rows.queryBracketsRow.recurses == Tryz.prog.recurses 12) = true := by kernel_rfl
theorem fa10 : (Rows.queryBracketsRow.named == Tryz.prog.varsNamed 12) = true := by kernel_rfl
theorem fa11 : ((Rows.queryBracketsRow.maps == (Tryz.f12.params.toList ++ Rows.queryBracketsSpec.plain.varTypes Tryz.prog).any (Tryz.prog.mapsRec ·)) && (Rows.queryBracketsRow.ifaces == (Tryz.f12.params.toList ++ Rows.queryBracketsSpec.plain.varTypes Tryz.prog).any (Tryz.prog.ifacesRec ·)) && (Rows.queryBracketsRow.mapsOut == Tryz.prog.mapsAmong Tryz.f12.resultTypes.toList)) = true := by kernel_rfl
theorem fa12 : (Rows.queryBracketsRow.loops == (Tryz.f12.params.toList ++ Rows.queryBracketsSpec.plain.varTypes Tryz.prog).any (Tryz.prog.loopsFrom ·)) = true := by kernel_rfl
theorem fa13 : (Rows.queryBracketsRow.wideKeys == (Tryz.f12.params.toList ++ Rows.queryBracketsSpec.plain.varTypes Tryz.prog ++ Tryz.f12.resultTypes.toList).any (Tryz.prog.wideKeysFrom ·)) = true := by kernel_rfl
theorem fa14 : (Rows.queryBracketsSpec.vars.all (Tryz.prog.varReadable ·) && Tryz.f12.resultTypes.all (fun t => Tryz.prog.readableRec t && decide (t < Tryz.prog.types.size)) && (Rows.queryBracketsRow.ifacesOut == Tryz.f12.resultTypes.toList.any (Tryz.prog.ifacesRec ·)) && (Rows.queryBracketsRow.loopsOut == Tryz.f12.resultTypes.toList.any (Tryz.prog.loopsFrom ·))) = true := by kernel_rfl
theorem fa15 : (Rows.queryBracketsRow.plainKeys == Tryz.prog.plainKeys) = true := by kernel_rfl
theorem fa16 : (Rows.queryBracketsRow.shortTexts.isNone && Tryz.prog.stopsHeard && Tryz.prog.mayEnter && (Rows.queryBracketsRow.lifted == Tryz.prog.liftsFinal) && (Tryz.prog.make == some Rows.queryBracketsRow.make) && (Rows.queryBracketsRow.pinned == Rows.queryBracketsRow.pinnedBy)) = true := by kernel_rfl
theorem fa16a : Rows.queryBracketsRow.domain.isEmpty = true := by kernel_rfl
theorem fa16b : (Rows.queryBracketsRow.kinds == []) = true := by kernel_rfl
theorem fa17 : (Rows.queryBracketsRow.veiled == (Tryz.f12.params.toList ++ Rows.queryBracketsSpec.plain.varTypes Tryz.prog ++ Tryz.f12.resultTypes.toList).any (Tryz.prog.veiledRec ·)) = true := by kernel_rfl
theorem fa18 : Rows.queryBracketsRow.veiledFits Tryz.prog Tryz.f12.params.toList (Tryz.f12.params.toList ++ Rows.queryBracketsSpec.plain.varTypes Tryz.prog ++ Tryz.f12.resultTypes.toList) = true := by kernel_rfl
theorem closed : joinedFacts Tryz.prog 12 Tryz.f12 Rows.queryBracketsSpec Rows.queryBracketsRow = true := joined_of fa1 laidOut fa3 fa4 fa5 fa6 fa7 fa8 fa9 fa10 fa11 fa12 fa13 fa14 fa15 fa16 fa16a fa16b fa17 fa18
theorem named : Tryz.prog.funcNamed "stackyard/stackyardlaw11.QueryBrackets" = some 12 := by kernel_rfl
theorem fb1 : Rows.queryBracketsRow.wfByText (OpenSpec.ofChange Rows.queryBracketsSpec) = true := by kernel_rfl
theorem fb2 : Tryz.prog.mainIs = some ((true, "652e9a8779766fd48671660a2841e33c913a23bf69c6d1c3f5af8c8f70f5e51c").1, (true, "652e9a8779766fd48671660a2841e33c913a23bf69c6d1c3f5af8c8f70f5e51c").2.toList) := by kernel_rfl
theorem fb3 : true = Tryz.prog.looks [] := by kernel_rfl
theorem fb4 : ([27].all fun u => !Tryz.prog.wantsStandIn u) = true := by kernel_rfl
theorem fb5 : false = Rows.queryBracketsRow.goesBy Tryz.prog := by kernel_rfl
theorem row_holds : Rows.QueryBracketsSaid :=
  OpenClaim.holds_of_wide 12 Tryz.f12 rfl rfl rfl rfl rfl rfl rfl ⟨rfl, rfl, rfl, rfl, rfl⟩ rfl rfl rfl rfl rfl named Tryz.func12 closed
    (of_decide_eq_true (by kernel_rfl)) (by unfold Func.isWrapper; first | (rw [if_pos (by decide +kernel)]; kernel_rfl) | (rw [if_neg (by decide +kernel)]; exact ⟨rfl, rfl⟩))
    (fun os started H enc _ => lifted os started H enc)
theorem proved : Rows.QueryBracketsCardSaid :=
  Claim7.holds_tied_plain_at .later [] [.data, .data, .data, .data, .sentinel, .sentinel, .data, .data, .data, .pinned] true (true, "652e9a8779766fd48671660a2841e33c913a23bf69c6d1c3f5af8c8f70f5e51c") true
    row_holds (fun _ h => by cases h) fb1 (fun _ h => by cases h) queryBrackets_row_tie rfl ⟨rfl, rfl⟩ fb2 rfl
    (fun f fn hf hfn => by
      obtain rfl : f = 12 := Option.some.inj (named.symm.trans hf) |>.symm
      obtain rfl : fn = Tryz.f12 := (Option.some.inj (Tryz.func12.symm.trans hfn)).symm
      exact ⟨fb3, fun j t ht => by
        rw [Tryz.params12] at ht
        have hm : t ∈ [27] := by simpa using Array.mem_of_getElem? ht
        exact (show Tryz.prog.wantsStandIn t = false by simpa using List.all_eq_true.1 fb4 t hm)⟩)
    fb5
end Go.Proofs.YtbpdfpfgijhokaaGreatDoor.queryBrackets
namespace Go.Proofs.YtbpdfpfgijhokaaGreatDoor
theorem queryBrackets_holds : Rows.QueryBracketsCardSaid := queryBrackets.proved
end Go.Proofs.YtbpdfpfgijhokaaGreatDoor
