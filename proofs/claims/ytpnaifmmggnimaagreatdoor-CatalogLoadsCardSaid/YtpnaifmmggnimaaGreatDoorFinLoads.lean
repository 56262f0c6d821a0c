/-
  Texts of this claim, laid one behind the other by a program of mine (install.py): G.FinLoads.
-/
import Derived.Test.YtpnaifmmggnimaaGreatDoorRows
import Derived.Test.YtpnaifmmggnimaaGreatDoorCards
import Derived.Test.YtpnaifmmggnimaaGreatDoorTie
import Derived.WalkKit
import Derived.ProofKit
import Derived.OpenShut
import Derived.ShutString
import Derived.ChangeOld
import Derived.Below
import Derived.Lay
import Derived.LaidOnce
import Derived.SevenTiedAt
import Derived.Test.YtpnaifmmggnimaaGreatDoorM1
import Derived.Test.YtpnaifmmggnimaaGreatDoorM7
import Derived.Test.YtpnaifmmggnimaaGreatDoorM9
/-
  Rows.CatalogLoadsCardSaid: the call of stackyard/stackyardlaw22.CatalogLoads returns true, whatever the input, and each argument reads behind it as it read before; the listed variables hold what the program's text lays. From the contract CatalogLoads_ok.
-/
namespace Go.Proofs.YtpnaifmmggnimaaGreatDoor.catalogLoads
open Go.ChangeShapes Go.WideShapes Go.ChangeAt Go.RowKit
open Go.ChangeMaps (open_string shut_string)
open Go.Dn
set_option linter.unusedVariables false
theorem own : ownKnob Tryz.prog.godebug = none := by kernel_rfl
theorem laidOut : laidOutB Tryz.prog = true := by kernel_rfl
set_option maxRecDepth 100000 in
theorem lifted (os : Os) (started : os.Started) (H : Type) (enc : TypeId × Value → H) :
    ReturnsInHanded {} Tryz.checked os 8 .any (fun w args => (Rows.catalogLoadsSpec.pre enc Tryz.prog Tryz.f8 [] false w args ∧ laidMetH Tryz.prog Rows.catalogLoadsRow.laid w) ∧ sizedMet enc Tryz.prog Tryz.f8 (OpenSpec.ofChange Rows.catalogLoadsSpec) false w args)
      (Rows.catalogLoadsSpec.post enc Tryz.prog Tryz.f8 false true false false) := by
  refine returnsInHanded_and_shaped (C := Tryz.checked) (X := fun w _ => laidMetH Tryz.prog Rows.catalogLoadsRow.laid w) (fun _ _ _ hh h => h.of_heap hh) own started (by kernel_rfl) Tryz.func8
    (ChangeSpec.witness_shaped (enc := enc) (C := Tryz.checked) (os := os) (X := fun w _ => laidMetH Tryz.prog Rows.catalogLoadsRow.laid w) false (World.laidAll Tryz.prog os Rows.catalogLoadsRow.laid) #[.string ByteArray.empty] 8 (World.laidAll_os _ _ _)
      (World.shaped_of_ZipB (by kernel_rfl) (by kernel_rfl)) (by kernel_rfl) (by kernel_rfl) (by kernel_rfl)
      (by rw [MakeChecks.laidMetH_plain _ _ _ (by kernel_rfl)]; exact laidMet_laidAll _ (by kernel_rfl) (by kernel_rfl))) ?_
  intro W base args ds gs before hval0 hW hZ hL hS
  rw [MakeChecks.laidMetH_plain _ _ _ (by kernel_rfl)] at hL
  have hval : ∀ (j : Nat) t v, Tryz.f8.params[j]? = some t → args[j]? = some v → Value.okWide Tryz.prog W .any base t v := hval0
  have hW' := hW
  obtain ⟨p, q, hA0, hV, rfl, hfz, hnd⟩ := hW
  have hA : DataW.TrodAll enc Tryz.prog W 0 (fun _ => true) true Tryz.f8.params.toList args.toList ds p := hA0
  rw [Tryz.params8] at hA hval
  obtain ⟨v0, vs0, d0, ds0, p0, q0, hargs, rfl, rfl, h0, r0⟩ := trodAll_cons hA
  obtain ⟨rfl, rfl, rfl⟩ := trodAll_nil r0
  obtain rfl : args = #[v0] := by cases args; simp_all
  obtain ⟨rfl, rfl⟩ := trodVars_none hV
  have k0 := h0
  have lt0 : ∀ x ∈ p0, x.block < W.heap.size := by obtain ⟨m, hm⟩ := k0; exact DataW.trod_lt m _ _ _ hm
  have z0 := fun (b : ByteArray) (hb : d0 = .lit (.string b.data.toList)) => sized_string hZ (j := 0) rfl (congrArg some hb)
  obtain ⟨a0, rfl, rfl, rfl, w0⟩ := open_string Tryz.underlying9 (hval 0 9 v0 rfl rfl) h0
  have y0 := z0 a0 rfl
  clear hA0 hval0
  refine (CatalogLoads_ok (w := W) (tabs_of rfl rfl rfl hL) a0 y0).mono ?_
  rintro _ W' ⟨_, rfl, rfl, bel⟩
  exact ⟨_, rfl, _, _, _, [], _, [], hW', trodAll_mk1 (shut_bool Tryz.underlying4 _), (trodAll_cons_mk (shut_string Tryz.underlying9 w0) trodAll_mk0), rfl, bel.frame _, fun h => by cases h⟩
/-! ### the row's closed facts, one by one -/
theorem fa1 : Rows.catalogLoadsRow.wf (OpenSpec.ofChange Rows.catalogLoadsSpec) = true := by kernel_rfl
theorem fa3 : mapsRowed Tryz.prog = true := by kernel_rfl
theorem fa4 : Tryz.f8.params.all (Tryz.prog.readableRec ·) = true := by kernel_rfl
theorem fa5 : namedTie Tryz.prog Rows.catalogLoadsRow.named Rows.catalogLoadsSpec.vars = true := by kernel_rfl
theorem fa6 : ((Rows.catalogLoadsRow.stops == []) && (Tryz.prog.stops == []) && (Rows.catalogLoadsRow.knobs == []) && (Tryz.prog.stopKnobs == [])) = true := by kernel_rfl
theorem fa7 : (Rows.catalogLoadsRow.inPlace == Tryz.prog.inPlace 8) = true := by kernel_rfl
theorem fa8 : (Rows.catalogLoadsRow.unfollowed == Tryz.prog.unfollowed 8) = true := by kernel_rfl
theorem fa9 : (Rows.catalogLoadsRow.recurses == Tryz.prog.recurses 8) = true := by kernel_rfl
theorem fa10 : (Rows.catalogLoadsRow.named == Tryz.prog.varsNamed 8) = true := by kernel_rfl
theorem fa11 : ((Rows.catalogLoadsRow.maps == (Tryz.f8.params.toList ++ Rows.catalogLoadsSpec.plain.varTypes Tryz.prog).any (Tryz.prog.mapsRec ·)) && (Rows.catalogLoadsRow.ifaces == (Tryz.f8.params.toList ++ Rows.catalogLoadsSpec.plain.varTypes Tryz.prog).any (Tryz.prog.ifacesRec ·)) && (Rows.catalogLoadsRow.mapsOut == Tryz.prog.mapsAmong Tryz.f8.resultTypes.toList)) = true := by kernel_rfl
theorem fa12 : (Rows.catalogLoadsRow.loops == (Tryz.f8.params.toList ++ Rows.catalogLoadsSpec.plain.varTypes Tryz.prog).any (Tryz.prog.loopsFrom ·)) = true := by kernel_rfl
theorem fa13 : (Rows.catalogLoadsRow.wideKeys == (Tryz.f8.params.toList ++ Rows.catalogLoadsSpec.plain.varTypes Tryz.prog ++ Tryz.f8.resultTypes.toList).any (Tryz.prog.wideKeysFrom ·)) = true := by kernel_rfl
theorem fa14 : (Rows.catalogLoadsSpec.vars.all (Tryz.prog.varReadable ·) && Tryz.f8.resultTypes.all (fun t => Tryz.prog.readableRec t && decide (t < Tryz.prog.types.size)) && (Rows.catalogLoadsRow.ifacesOut == Tryz.f8.resultTypes.toList.any (Tryz.prog.ifacesRec ·)) && (Rows.catalogLoadsRow.loopsOut == Tryz.f8.resultTypes.toList.any (Tryz.prog.loopsFrom ·))) = true := by kernel_rfl
theorem fa15 : (Rows.catalogLoadsRow.plainKeys == Tryz.prog.plainKeys) = true := by kernel_rfl
theorem fa16 : (Rows.catalogLoadsRow.shortTexts.isNone && Tryz.prog.stopsHeard && Tryz.prog.mayEnter && (Rows.catalogLoadsRow.lifted == Tryz.prog.liftsFinal) && (Tryz.prog.make == some Rows.catalogLoadsRow.make) && (Rows.catalogLoadsRow.pinned == Rows.catalogLoadsRow.pinnedBy)) = true := by kernel_rfl
theorem fa16a : Rows.catalogLoadsRow.domain.isEmpty = true := by kernel_rfl
theorem fa16b : (Rows.catalogLoadsRow.kinds == []) = true := by kernel_rfl
theorem fa17 : (Rows.catalogLoadsRow.veiled == (Tryz.f8.params.toList ++ Rows.catalogLoadsSpec.plain.varTypes Tryz.prog ++ Tryz.f8.resultTypes.toList).any (Tryz.prog.veiledRec ·)) = true := by kernel_rfl
theorem fa18 : Rows.catalogLoadsRow.veiledFits Tryz.prog Tryz.f8.params.toList (Tryz.f8.params.toList ++ Rows.catalogLoadsSpec.plain.varTypes Tryz.prog ++ Tryz.f8.resultTypes.toList) = true := by kernel_rfl
theorem closed : joinedFacts Tryz.prog 8 Tryz.f8 Rows.catalogLoadsSpec Rows.catalogLoadsRow = true := joined_of fa1 laidOut fa3 fa4 fa5 fa6 fa7 fa8 fa9 fa10 fa11 fa12 fa13 fa14 fa15 fa16 fa16a fa16b fa17 fa18
theorem named : Tryz.prog.funcNamed "stackyard/stackyardlaw22.CatalogLoads" = some 8 := by kernel_rfl
theorem fb1 : Rows.catalogLoadsRow.wfByText (OpenSpec.ofChange Rows.catalogLoadsSpec) = true := by kernel_rfl
theorem fb2 : Tryz.prog.mainIs = some ((true, "7c7aa9cb9611bc7df85649b0d4d1ea91da13c01b7a3fe7e1c6a61ebf69742f23").1, (true, "7c7aa9cb9611bc7df85649b0d4d1ea91da13c01b7a3fe7e1c6a61ebf69742f23").2.toList) := by kernel_rfl
theorem fb3 : false = Tryz.prog.looks [] := by kernel_rfl
theorem fb4 : ([9].all fun u => !Tryz.prog.wantsStandIn u) = true := by kernel_rfl
theorem fb5 : false = Rows.catalogLoadsRow.goesBy Tryz.prog := by kernel_rfl
theorem row_holds : Rows.CatalogLoadsSaid :=
  OpenClaim.holds_of_wide 8 Tryz.f8 rfl rfl rfl rfl rfl rfl rfl ⟨rfl, rfl, rfl, rfl, rfl⟩ rfl rfl rfl rfl rfl named Tryz.func8 closed
    (of_decide_eq_true (by kernel_rfl)) (by unfold Func.isWrapper; first | (rw [if_pos (by decide +kernel)]; kernel_rfl) | (rw [if_neg (by decide +kernel)]; exact ⟨rfl, rfl⟩))
    (fun os started H enc _ => lifted os started H enc)
theorem proved : Rows.CatalogLoadsCardSaid :=
  Claim7.holds_tied_plain_at .later [] [.data, .data, .data, .data, .pinned] true (true, "7c7aa9cb9611bc7df85649b0d4d1ea91da13c01b7a3fe7e1c6a61ebf69742f23") false
    row_holds (fun _ h => by cases h) fb1 (fun _ h => by cases h) catalogLoads_row_tie rfl ⟨rfl, rfl⟩ fb2 rfl
    (fun f fn hf hfn => by
      obtain rfl : f = 8 := Option.some.inj (named.symm.trans hf) |>.symm
      obtain rfl : fn = Tryz.f8 := (Option.some.inj (Tryz.func8.symm.trans hfn)).symm
      exact ⟨fb3, fun j t ht => by
        rw [Tryz.params8] at ht
        have hm : t ∈ [9] := by simpa using Array.mem_of_getElem? ht
        exact (show Tryz.prog.wantsStandIn t = false by simpa using List.all_eq_true.1 fb4 t hm)⟩)
    fb5
end Go.Proofs.YtpnaifmmggnimaaGreatDoor.catalogLoads
namespace Go.Proofs.YtpnaifmmggnimaaGreatDoor
theorem catalogLoads_holds : Rows.CatalogLoadsCardSaid := catalogLoads.proved
end Go.Proofs.YtpnaifmmggnimaaGreatDoor
