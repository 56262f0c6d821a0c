/-
  Texts of this claim, laid one behind the other by a program of mine (install.py): P.FinLess.
-/
import Derived.Test.YtbpdfpfgijhokaaGreatDoorRows
import Derived.Test.YtbpdfpfgijhokaaGreatDoorCards
import Derived.Test.YtbpdfpfgijhokaaGreatDoorTie
import Derived.WalkKit
import Derived.ProofKit
import Derived.OpenShut
import Derived.ShutString
import Derived.ChangeOld
import Derived.Below
import Derived.Lay
import Derived.LaidOnce
import Derived.SevenTiedAt
import Derived.Test.YtbpdfpfgijhokaaGreatDoorM1
import Derived.Test.YtbpdfpfgijhokaaGreatDoorM3
import Derived.Test.YtbpdfpfgijhokaaGreatDoorM8
/-
  Rows.PlanLessCardSaid: the call of stackyard/stackyardlaw12.PlanLess returns true, whatever the input, and each argument reads behind it as it read before; the listed variables hold what the program's text lays. From the contract PlanLess_ok.
-/
namespace Go.Proofs.YtbpdfpfgijhokaaGreatDoor.planLess
open Go.ChangeShapes Go.WideShapes Go.ChangeAt Go.RowKit
open Go.ChangeMaps (open_string shut_string)
open Go.Dn
set_option linter.unusedVariables false
theorem own : ownKnob Tryz.prog.godebug = none := by kernel_rfl
theorem laidOut : laidOutB Tryz.prog = true := by kernel_rfl
set_option maxRecDepth 100000 in
theorem lifted (os : Os) (started : os.Started) (H : Type) (enc : TypeId × Value → H) :
    ReturnsInHanded {} Tryz.checked os 6 .any (fun w args => (Rows.planLessSpec.pre enc Tryz.prog Tryz.f6 [] false w args ∧ laidMetH Tryz.prog Rows.planLessRow.laid w) ∧ sizedMet enc Tryz.prog Tryz.f6 (OpenSpec.ofChange Rows.planLessSpec) false w args)
      (Rows.planLessSpec.post enc Tryz.prog Tryz.f6 false true false false) := by
  refine returnsInHanded_and_shaped (C := Tryz.checked) (X := fun w _ => laidMetH Tryz.prog Rows.planLessRow.laid w) (fun _ _ _ hh h => h.of_heap hh) own started (by kernel_rfl) Tryz.func6
    (ChangeSpec.witness_shaped (enc := enc) (C := Tryz.checked) (os := os) (X := fun w _ => laidMetH Tryz.prog Rows.planLessRow.laid w) false (World.laidAll Tryz.prog os Rows.planLessRow.laid) #[.slice none 0 0, (.agg #[.slice none 0 0, .slice none 0 0, .slice none 0 0, .slice none 0 0, .int .i64 0]), .int .i64 0] 8 (World.laidAll_os _ _ _)
      (World.shaped_of_ZipB (by kernel_rfl) (by kernel_rfl)) (by kernel_rfl) (by kernel_rfl) (by kernel_rfl)
      (by rw [MakeChecks.laidMetH_plain _ _ _ (by kernel_rfl)]; exact laidMet_laidAll _ (by kernel_rfl) (by kernel_rfl))) ?_
  intro W base args ds gs before hval0 hW hZ hL hS
  rw [MakeChecks.laidMetH_plain _ _ _ (by kernel_rfl)] at hL
  have hval : ∀ (j : Nat) t v, Tryz.f6.params[j]? = some t → args[j]? = some v → Value.okWide Tryz.prog W .any base t v := hval0
  have hW' := hW
  obtain ⟨p, q, hA0, hV, rfl, hfz, hnd⟩ := hW
  have hA : DataW.TrodAll enc Tryz.prog W 0 (fun _ => true) true Tryz.f6.params.toList args.toList ds p := hA0
  rw [Tryz.params6] at hA hval
  obtain ⟨v0, vs0, d0, ds0, p0, q0, hargs, rfl, rfl, h0, r0⟩ := trodAll_cons hA
  obtain ⟨v1, vs1, d1, ds1, p1, q1, rfl, rfl, rfl, h1, r1⟩ := trodAll_cons r0
  obtain ⟨v2, vs2, d2, ds2, p2, q2, rfl, rfl, rfl, h2, r2⟩ := trodAll_cons r1
  obtain ⟨rfl, rfl, rfl⟩ := trodAll_nil r2
  obtain rfl : args = #[v0, v1, v2] := by cases args; simp_all
  obtain ⟨rfl, rfl⟩ := trodVars_none hV
  have k0 := h0
  have lt0 : ∀ x ∈ p0, x.block < W.heap.size := by obtain ⟨m, hm⟩ := k0; exact DataW.trod_lt m _ _ _ hm
  obtain ⟨sa0, sl0, sc0, rfl⟩ := okWide_slice Tryz.underlying22 (hval 0 22 v0 rfl rfl)
  obtain ⟨fu0, hf0⟩ := h0
  have y0 := sized_of_trod hZ (j := 0) rfl rfl Tryz.underlying22 hf0
  obtain ⟨xs0, rfl, gl0⟩ := (good_of_trod _ _ _ _ hf0).gl Tryz.underlying22 _ _ (good_api_Column)
  have k1 := h1
  have lt1 : ∀ x ∈ p1, x.block < W.heap.size := by obtain ⟨m, hm⟩ := k1; exact DataW.trod_lt m _ _ _ hm
  obtain ⟨x1, rfl, y1⟩ := open_qu (hval 1 27 v1 rfl rfl) h1
  have k2 := h2
  have lt2 : ∀ x ∈ p2, x.block < W.heap.size := by obtain ⟨m, hm⟩ := k2; exact DataW.trod_lt m _ _ _ hm
  obtain ⟨a2, rfl, rfl, rfl, w2⟩ := open_int Tryz.underlying3 (hval 2 3 v2 rfl rfl) h2
  clear hA0 hval0
  refine (PlanLess_ok (w := W) (env_of rfl rfl rfl rfl hS hL) sa0 xs0 sc0 gl0 y0 x1 y1 a2 w2).mono ?_
  rintro _ W' ⟨_, rfl, rfl, bel⟩
  exact ⟨_, rfl, _, _, _, [], _, [], hW', trodAll_mk1 (shut_bool Tryz.underlying4 _), (trodAll_cons_mk (Below.trod laidOut (by kernel_rfl) (of_decide_eq_true (by kernel_rfl)) k0 bel lt0) (trodAll_cons_mk (Below.trod laidOut (by kernel_rfl) (of_decide_eq_true (by kernel_rfl)) k1 bel lt1) (trodAll_cons_mk (shut_int Tryz.underlying3 w2) trodAll_mk0))), rfl, bel.frame _, fun h => by cases h⟩
/-! ### the row's closed facts, one by one -/
theorem fa1 : Rows.planLessRow.wf (OpenSpec.ofChange Rows.planLessSpec) = true := by kernel_rfl
theorem fa3 : mapsRowed Tryz.prog = true := by kernel_rfl
theorem fa4 : Tryz.f6.params.all (Tryz.prog.readableRec ·) = true := by kernel_rfl
theorem fa5 : namedTie Tryz.prog Rows.planLessRow.named Rows.planLessSpec.vars = true := by kernel_rfl
theorem fa6 : ((Rows.planLessRow.stops == []) && (Tryz.prog.stops == []) && (Rows.planLessRow.knobs == []) && (Tryz.prog.stopKnobs == [])) = true := by kernel_rfl
theorem fa7 : (Rows.planLessRow.inPlace == Tryz.prog.inPlace 6) = true := by kernel_rfl
theorem fa8 : (Rows.planLessRow.unfollowed == Tryz.prog.unfollowed 6) = true := by kernel_rfl
theorem fa9 : (Rows.planLessRow.recurses == Tryz.prog.recurses 6) = true := by kernel_rfl
theorem fa10 : (Rows.planLessRow.named == Tryz.prog.varsNamed 6) = true := by kernel_rfl
theorem fa11 : ((Rows.planLessRow.maps == (Tryz.f6.params.toList ++ Rows.planLessSpec.plain.varTypes Tryz.prog).any (Tryz.prog.mapsRec ·)) && (Rows.planLessRow.ifaces == (Tryz.f6.params.toList ++ Rows.planLessSpec.plain.varTypes Tryz.prog).any (Tryz.prog.ifacesRec ·)) && (Rows.planLessRow.mapsOut == Tryz.prog.mapsAmong Tryz.f6.resultTypes.toList)) = true := by kernel_rfl
theorem fa12 : (Rows.planLessRow.loops == (Tryz.f6.params.toList ++ Rows.planLessSpec.plain.varTypes Tryz.prog).any (Tryz.prog.loopsFrom ·)) = true := by kernel_rfl
theorem fa13 : (Rows.planLessRow.wideKeys == (Tryz.f6.params.toList ++ Rows.planLessSpec.plain.varTypes Tryz.prog ++ Tryz.f6.resultTypes.toList).any (Tryz.prog.wideKeysFrom ·)) = true := by kernel_rfl
theorem fa14 : (Rows.planLessSpec.vars.all (Tryz.prog.varReadable ·) && Tryz.f6.resultTypes.all (fun t => Tryz.prog.readableRec t && decide (t < Tryz.prog.types.size)) && (Rows.planLessRow.ifacesOut == Tryz.f6.resultTypes.toList.any (Tryz.prog.ifacesRec ·)) && (Rows.planLessRow.loopsOut == Tryz.f6.resultTypes.toList.any (Tryz.prog.loopsFrom ·))) = true := by kernel_rfl
theorem fa15 : (Rows.planLessRow.plainKeys == Tryz.prog.plainKeys) = true := by kernel_rfl
theorem fa16 : (Rows.planLessRow.shortTexts.isNone && Tryz.prog.stopsHeard && Tryz.prog.mayEnter && (Rows.planLessRow.lifted == Tryz.prog.liftsFinal) && (Tryz.prog.make == some Rows.planLessRow.make) && (Rows.planLessRow.pinned == Rows.planLessRow.pinnedBy)) = true := by kernel_rfl
theorem fa16a : Rows.planLessRow.domain.isEmpty = true := by kernel_rfl
theorem fa16b : (Rows.planLessRow.kinds == []) = true := by kernel_rfl
theorem fa17 : (Rows.planLessRow.veiled == (Tryz.f6.params.toList ++ Rows.planLessSpec.plain.varTypes Tryz.prog ++ Tryz.f6.resultTypes.toList).any (Tryz.prog.veiledRec ·)) = true := by kernel_rfl
theorem fa18 : Rows.planLessRow.veiledFits Tryz.prog Tryz.f6.params.toList (Tryz.f6.params.toList ++ Rows.planLessSpec.plain.varTypes Tryz.prog ++ Tryz.f6.resultTypes.toList) = true := by kernel_rfl
theorem closed : joinedFacts Tryz.prog 6 Tryz.f6 Rows.planLessSpec Rows.planLessRow = true := joined_of fa1 laidOut fa3 fa4 fa5 fa6 fa7 fa8 fa9 fa10 fa11 fa12 fa13 fa14 fa15 fa16 fa16a fa16b fa17 fa18
theorem named : Tryz.prog.funcNamed "stackyard/stackyardlaw12.PlanLess" = some 6 := by kernel_rfl
theorem fb1 : Rows.planLessRow.wfByText (OpenSpec.ofChange Rows.planLessSpec) = true := by kernel_rfl
theorem fb2 : Tryz.prog.mainIs = some ((true, "652e9a8779766fd48671660a2841e33c913a23bf69c6d1c3f5af8c8f70f5e51c").1, (true, "652e9a8779766fd48671660a2841e33c913a23bf69c6d1c3f5af8c8f70f5e51c").2.toList) := by kernel_rfl
theorem fb3 : true = Tryz.prog.looks [] := by kernel_rfl
theorem fb4 : ([22, 27, 3].all fun u => !Tryz.prog.wantsStandIn u) = true := by kernel_rfl
theorem fb5 : false = Rows.planLessRow.goesBy Tryz.prog := by kernel_rfl
theorem row_holds : Rows.PlanLessSaid :=
  OpenClaim.holds_of_wide 6 Tryz.f6 rfl rfl rfl rfl rfl rfl rfl ⟨rfl, rfl, rfl, rfl, rfl⟩ rfl rfl rfl rfl rfl named Tryz.func6 closed
    (of_decide_eq_true (by kernel_rfl)) (by unfold Func.isWrapper; first | (rw [if_pos (by decide +kernel)]; kernel_rfl) | (rw [if_neg (by decide +kernel)]; exact ⟨rfl, rfl⟩))
    (fun os started H enc _ => lifted os started H enc)
theorem proved : Rows.PlanLessCardSaid :=
  Claim7.holds_tied_plain_at .later [] [.data, .data, .data, .data, .data, .data, .data, .pinned] true (true, "652e9a8779766fd48671660a2841e33c913a23bf69c6d1c3f5af8c8f70f5e51c") true
    row_holds (fun _ h => by cases h) fb1 (fun _ h => by cases h) planLess_row_tie rfl ⟨rfl, rfl⟩ fb2 rfl
    (fun f fn hf hfn => by
      obtain rfl : f = 6 := Option.some.inj (named.symm.trans hf) |>.symm
      obtain rfl : fn = Tryz.f6 := (Option.some.inj (Tryz.func6.symm.trans hfn)).symm
      exact ⟨fb3, fun j t ht => by
        rw [Tryz.params6] at ht
        have hm : t ∈ [22, 27, 3] := by simpa using Array.mem_of_getElem? ht
        exact (show Tryz.prog.wantsStandIn t = false by simpa using List.all_eq_true.1 fb4 t hm)⟩)
    fb5
end Go.Proofs.YtbpdfpfgijhokaaGreatDoor.planLess
namespace Go.Proofs.YtbpdfpfgijhokaaGreatDoor
theorem planLess_holds : Rows.PlanLessCardSaid := planLess.proved
end Go.Proofs.YtbpdfpfgijhokaaGreatDoor
