/-
  Texts of this claim, laid one behind the other by a program of mine (install.py): P.FinQBack.
-/
import Derived.Test.YtbpdfpfgijhokaaGreatDoorRows
import Derived.Test.YtbpdfpfgijhokaaGreatDoorCards
import Derived.Test.YtbpdfpfgijhokaaGreatDoorTie
import Derived.WalkKit
import Derived.ProofKit
import Derived.OpenShut
import Derived.ShutString
import Derived.ChangeOld
import Derived.Below
import Derived.Lay
import Derived.LaidOnce
import Derived.SevenTiedAt
import Derived.Test.YtbpdfpfgijhokaaGreatDoorM1
import Derived.Test.YtbpdfpfgijhokaaGreatDoorM6
import Derived.Test.YtbpdfpfgijhokaaGreatDoorM9
/-
  Rows.QueryBackCardSaid: the call of stackyard/stackyardlaw11.QueryBack returns true, whatever the input, and each argument reads behind it as it read before; the listed variables hold what the program's text lays. From the contract QueryBack_ok.
-/
namespace Go.Proofs.YtbpdfpfgijhokaaGreatDoor.queryBack
open Go.ChangeShapes Go.WideShapes Go.ChangeAt Go.RowKit
open Go.ChangeMaps (open_string shut_string)
open Go.Dn
set_option linter.unusedVariables false
theorem own : ownKnob Tryz.prog.godebug = none := by kernel_rfl
theorem laidOut : laidOutB Tryz.prog = true := by kernel_rfl
set_option maxRecDepth 100000 in
theorem lifted (os : Os) (started : os.Started) (H : Type) (enc : TypeId × Value → H) :
    ReturnsInHanded {} Tryz.checked os 11 .any (fun w args => (Rows.queryBackSpec.pre enc Tryz.prog Tryz.f11 [] false w args ∧ laidMetH Tryz.prog Rows.queryBackRow.laid w) ∧ sizedMet enc Tryz.prog Tryz.f11 (OpenSpec.ofChange Rows.queryBackSpec) false w args)
      (Rows.queryBackSpec.post enc Tryz.prog Tryz.f11 false true false false) := by
  refine returnsInHanded_and_shaped (C := Tryz.checked) (X := fun w _ => laidMetH Tryz.prog Rows.queryBackRow.laid w) (fun _ _ _ hh h => h.of_heap hh) own started (by kernel_rfl) Tryz.func11
    (ChangeSpec.witness_shaped (enc := enc) (C := Tryz.checked) (os := os) (X := fun w _ => laidMetH Tryz.prog Rows.queryBackRow.laid w) false (World.laidAll Tryz.prog os Rows.queryBackRow.laid) #[(.agg #[.slice none 0 0, .slice none 0 0, .slice none 0 0, .slice none 0 0, .int .i64 0]), .string ByteArray.empty] 8 (World.laidAll_os _ _ _)
      (World.shaped_of_ZipB (by kernel_rfl) (by kernel_rfl)) (by kernel_rfl) (by kernel_rfl) (by kernel_rfl)
      (by rw [MakeChecks.laidMetH_plain _ _ _ (by kernel_rfl)]; exact laidMet_laidAll _ (by kernel_rfl) (by kernel_rfl))) ?_
  intro W base args ds gs before hval0 hW hZ hL hS
  rw [MakeChecks.laidMetH_plain _ _ _ (by kernel_rfl)] at hL
  have hval : ∀ (j : Nat) t v, Tryz.f11.params[j]? = some t → args[j]? = some v → Value.okWide Tryz.prog W .any base t v := hval0
  have hW' := hW
  obtain ⟨p, q, hA0, hV, rfl, hfz, hnd⟩ := hW
  have hA : DataW.TrodAll enc Tryz.prog W 0 (fun _ => true) true Tryz.f11.params.toList args.toList ds p := hA0
  rw [Tryz.params11] at hA hval
  obtain ⟨v0, vs0, d0, ds0, p0, q0, hargs, rfl, rfl, h0, r0⟩ := trodAll_cons hA
  obtain ⟨v1, vs1, d1, ds1, p1, q1, rfl, rfl, rfl, h1, r1⟩ := trodAll_cons r0
  obtain ⟨rfl, rfl, rfl⟩ := trodAll_nil r1
  obtain rfl : args = #[v0, v1] := by cases args; simp_all
  obtain ⟨rfl, rfl⟩ := trodVars_none hV
  have k0 := h0
  have lt0 : ∀ x ∈ p0, x.block < W.heap.size := by obtain ⟨m, hm⟩ := k0; exact DataW.trod_lt m _ _ _ hm
  obtain ⟨x0, rfl, y0⟩ := open_qu (hval 0 27 v0 rfl rfl) h0
  have k1 := h1
  have lt1 : ∀ x ∈ p1, x.block < W.heap.size := by obtain ⟨m, hm⟩ := k1; exact DataW.trod_lt m _ _ _ hm
  have z1 := fun (b : ByteArray) (hb : d1 = .lit (.string b.data.toList)) => sized_string hZ (j := 1) rfl (congrArg some hb)
  obtain ⟨a1, rfl, rfl, rfl, w1⟩ := open_string Tryz.underlying9 (hval 1 9 v1 rfl rfl) h1
  have y1 := z1 a1 rfl
  clear hA0 hval0
  refine (QueryBack_ok (w := W) (env2_of rfl rfl hL (env_of rfl rfl rfl rfl hS hL)) x0 y0 a1 y1).mono ?_
  rintro _ W' ⟨_, rfl, rfl, bel⟩
  exact ⟨_, rfl, _, _, _, [], _, [], hW', trodAll_mk1 (shut_bool Tryz.underlying4 _), (trodAll_cons_mk (Below.trod laidOut (by kernel_rfl) (of_decide_eq_true (by kernel_rfl)) k0 bel lt0) (trodAll_cons_mk (shut_string Tryz.underlying9 w1) trodAll_mk0)), rfl, bel.frame _, fun h => by cases h⟩
/-! ### the row's closed facts, one by one -/
theorem fa1 : Rows.queryBackRow.wf (OpenSpec.ofChange Rows.queryBackSpec) = true := by kernel_rfl
theorem fa3 : mapsRowed Tryz.prog = true := by kernel_rfl
theorem fa4 : Tryz.f11.params.all (Tryz.prog.readableRec ·) = true := by kernel_rfl
theorem fa5 : namedTie Tryz.prog Rows.queryBackRow.named Rows.queryBackSpec.vars = true := by kernel_rfl
theorem fa6 : ((Rows.queryBackRow.stops == []) && (Tryz.prog.stops == []) && (Rows.queryBackRow.knobs == []) && (Tryz.prog.stopKnobs == [])) = true := by kernel_rfl
theorem fa7 : (Rows.queryBackRow.inPlace == Tryz.prog.inPlace 11) = true := by kernel_rfl
theorem fa8 : (Rows.queryBackRow.unfollowed == Tryz.prog.unfollowed 11) = true := by kernel_rfl
theorem fa9 : (Rows.queryBackRow.recurses == Tryz.prog.recurses 11) = true := by kernel_rfl
theorem fa10 : (Rows.queryBackRow.named == Tryz.prog.varsNamed 11) = true := by kernel_rfl
theorem fa11 : ((Rows.queryBackRow.maps == (Tryz.f11.params.toList ++ Rows.queryBackSpec.plain.varTypes Tryz.prog).any (Tryz.prog.mapsRec ·)) && (Rows.queryBackRow.ifaces == (Tryz.f11.params.toList ++ Rows.queryBackSpec.plain.varTypes Tryz.prog).any (Tryz.prog.ifacesRec ·)) && (Rows.queryBackRow.mapsOut == Tryz.prog.mapsAmong Tryz.f11.resultTypes.toList)) = true := by kernel_rfl
theorem fa12 : (Rows.queryBackRow.loops == (Tryz.f11.params.toList ++ Rows.queryBackSpec.plain.varTypes Tryz.prog).any (Tryz.prog.loopsFrom ·)) = true := by kernel_rfl
theorem fa13 : (Rows.queryBackRow.wideKeys == (Tryz.f11.params.toList ++ Rows.queryBackSpec.plain.varTypes Tryz.prog ++ Tryz.f11.resultTypes.toList).any (Tryz.prog.wideKeysFrom ·)) = true := by kernel_rfl
theorem fa14 : (Rows.queryBackSpec.vars.all (Tryz.prog.varReadable ·) && Tryz.f11.resultTypes.all (fun t => Tryz.prog.readableRec t && decide (t < Tryz.prog.types.size)) && (Rows.queryBackRow.ifacesOut == Tryz.f11.resultTypes.toList.any (Tryz.prog.ifacesRec ·)) && (Rows.queryBackRow.loopsOut == Tryz.f11.resultTypes.toList.any (Tryz.prog.loopsFrom ·))) = true := by kernel_rfl
theorem fa15 : (Rows.queryBackRow.plainKeys == Tryz.prog.plainKeys) = true := by kernel_rfl
theorem fa16 : (Rows.queryBackRow.shortTexts.isNone && Tryz.prog.stopsHeard && Tryz.prog.mayEnter && (Rows.queryBackRow.lifted == Tryz.prog.liftsFinal) && (Tryz.prog.make == some Rows.queryBackRow.make) && (Rows.queryBackRow.pinned == Rows.queryBackRow.pinnedBy)) = true := by kernel_rfl
theorem fa16a : Rows.queryBackRow.domain.isEmpty = true := by kernel_rfl
theorem fa16b : (Rows.queryBackRow.kinds == []) = true := by kernel_rfl
theorem fa17 : (Rows.queryBackRow.veiled == (Tryz.f11.params.toList ++ Rows.queryBackSpec.plain.varTypes Tryz.prog ++ Tryz.f11.resultTypes.toList).any (Tryz.prog.veiledRec ·)) = true := by kernel_rfl
theorem fa18 : Rows.queryBackRow.veiledFits Tryz.prog Tryz.f11.params.toList (Tryz.f11.params.toList ++ Rows.queryBackSpec.plain.varTypes Tryz.prog ++ Tryz.f11.resultTypes.toList) = true := by kernel_rfl
theorem closed : joinedFacts Tryz.prog 11 Tryz.f11 Rows.queryBackSpec Rows.queryBackRow = true := joined_of fa1 laidOut fa3 fa4 fa5 fa6 fa7 fa8 fa9 fa10 fa11 fa12 fa13 fa14 fa15 fa16 fa16a fa16b fa17 fa18
theorem named : Tryz.prog.funcNamed "stackyard/stackyardlaw11.QueryBack" = some 11 := by kernel_rfl
theorem fb1 : Rows.queryBackRow.wfByText (OpenSpec.ofChange Rows.queryBackSpec) = true := by kernel_rfl
theorem fb2 : Tryz.prog.mainIs = some ((true, "652e9a8779766fd48671660a2841e33c913a23bf69c6d1c3f5af8c8f70f5e51c").1, (true, "652e9a8779766fd48671660a2841e33c913a23bf69c6d1c3f5af8c8f70f5e51c").2.toList) := by kernel_rfl
theorem fb3 : true = Tryz.prog.looks [] := by kernel_rfl
theorem fb4 : ([27, 9].all fun u => !Tryz.prog.wantsStandIn u) = true := by kernel_rfl
theorem fb5 : false = Rows.queryBackRow.goesBy Tryz.prog := by kernel_rfl
theorem row_holds : Rows.QueryBackSaid :=
  OpenClaim.holds_of_wide 11 Tryz.f11 rfl rfl rfl rfl rfl rfl rfl ⟨rfl, rfl, rfl, rfl, rfl⟩ rfl rfl rfl rfl rfl named Tryz.func11 closed
    (of_decide_eq_true (by kernel_rfl)) (by unfold Func.isWrapper; first | (rw [if_pos (by decide +kernel)]; kernel_rfl) | (rw [if_neg (by decide +kernel)]; exact ⟨rfl, rfl⟩))
    (fun os started H enc _ => lifted os started H enc)
theorem proved : Rows.QueryBackCardSaid :=
  Claim7.holds_tied_plain_at .later [] [.data, .data, .data, .data, .sentinel, .sentinel, .data, .data, .data, .pinned] true (true, "652e9a8779766fd48671660a2841e33c913a23bf69c6d1c3f5af8c8f70f5e51c") true
    row_holds (fun _ h => by cases h) fb1 (fun _ h => by cases h) queryBack_row_tie rfl ⟨rfl, rfl⟩ fb2 rfl
    (fun f fn hf hfn => by
      obtain rfl : f = 11 := Option.some.inj (named.symm.trans hf) |>.symm
      obtain rfl : fn = Tryz.f11 := (Option.some.inj (Tryz.func11.symm.trans hfn)).symm
      exact ⟨fb3, fun j t ht => by
        rw [Tryz.params11] at ht
        have hm : t ∈ [27, 9] := by simpa using Array.mem_of_getElem? ht
        exact (show Tryz.prog.wantsStandIn t = false by simpa using List.all_eq_true.1 fb4 t hm)⟩)
    fb5
end Go.Proofs.YtbpdfpfgijhokaaGreatDoor.queryBack
namespace Go.Proofs.YtbpdfpfgijhokaaGreatDoor
theorem queryBack_holds : Rows.QueryBackCardSaid := queryBack.proved
end Go.Proofs.YtbpdfpfgijhokaaGreatDoor
