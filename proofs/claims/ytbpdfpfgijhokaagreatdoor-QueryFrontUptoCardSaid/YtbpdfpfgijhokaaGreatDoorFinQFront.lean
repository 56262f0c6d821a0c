/-
  Texts of this claim, laid one behind the other by a program of mine (install.py): P.FinQFront.
-/
import Derived.Test.YtbpdfpfgijhokaaGreatDoorRows
import Derived.Test.YtbpdfpfgijhokaaGreatDoorCards
import Derived.Test.YtbpdfpfgijhokaaGreatDoorTie
import Derived.WalkKit
import Derived.ProofKit
import Derived.OpenShut
import Derived.ShutString
import Derived.ChangeOld
import Derived.Below
import Derived.Lay
import Derived.LaidOnce
import Derived.SevenTiedAt
import Derived.Test.YtbpdfpfgijhokaaGreatDoorM1
import Derived.Test.YtbpdfpfgijhokaaGreatDoorM6
import Derived.Test.YtbpdfpfgijhokaaGreatDoorM8
/-
  Rows.QueryFrontUptoCardSaid: the call of stackyard/stackyardlaw11.QueryFront returns true, whatever the input whose bulk is at most 1048576, and each argument reads behind it as it read before; the listed variables hold what the program's text lays. From the contract QueryFront_ok.
-/
namespace Go.Proofs.YtbpdfpfgijhokaaGreatDoor.queryFront
open Go.ChangeShapes Go.WideShapes Go.ChangeAt Go.RowKit
open Go.ChangeMaps (open_string shut_string)
open Go.Dn
set_option linter.unusedVariables false
theorem own : ownKnob Tryz.prog.godebug = none := by kernel_rfl
theorem laidOut : laidOutB Tryz.prog = true := by kernel_rfl
set_option maxRecDepth 100000 in
theorem lifted (os : Os) (started : os.Started) (H : Type) (enc : TypeId × Value → H) (F : Stop.Interp) :
    ReturnsInHanded {} Tryz.checked os 9 .any (fun w args => ((Rows.OpenSpec.upto Rows.queryFrontSpec).pre enc Tryz.prog Tryz.f9 [] false w args ∧ laidMetH Tryz.prog Rows.queryFrontUptoRow.laid w) ∧ sizedMet enc Tryz.prog Tryz.f9 (Rows.OpenSpec.upto Rows.queryFrontSpec) false w args)
      (((Rows.OpenSpec.upto Rows.queryFrontSpec).at F).post enc Tryz.prog Tryz.f9 false true false false) := by
  refine returnsInHanded_cond_shaped (C := Tryz.checked) (k := Rows.uptoSmall) rfl (X := fun w _ => laidMetH Tryz.prog Rows.queryFrontUptoRow.laid w) (fun _ _ _ hh h => h.of_heap hh) own started (by kernel_rfl) Tryz.func9
    (witness_cond_shaped (enc := enc) (C := Tryz.checked) (os := os) (k := Rows.uptoSmall) rfl (X := fun w _ => laidMetH Tryz.prog Rows.queryFrontUptoRow.laid w) false (World.laidAll Tryz.prog os Rows.queryFrontUptoRow.laid) #[.string ByteArray.empty] 8 (World.laidAll_os _ _ _)
      (World.shaped_of_ZipB (by kernel_rfl) (by kernel_rfl)) (by kernel_rfl) (x := ([.lit (.string [])], [], [])) (by kernel_rfl) rfl (by kernel_rfl) (by kernel_rfl)
      (by rw [MakeChecks.laidMetH_plain _ _ _ (by kernel_rfl)]; exact laidMet_laidAll _ (by kernel_rfl) (by kernel_rfl))) ?_
  intro W base args ds gs before hval0 hW hsm hZ hL hS
  have hsm : Rows.uptoBulkAll (ds ++ gs) ≤ 1048576 := of_decide_eq_true hsm
  rw [MakeChecks.laidMetH_plain _ _ _ (by kernel_rfl)] at hL
  have hval : ∀ (j : Nat) t v, Tryz.f9.params[j]? = some t → args[j]? = some v → Value.okWide Tryz.prog W .any base t v := hval0
  have hW' := hW
  obtain ⟨p, q, hA0, hV, rfl, hfz, hnd⟩ := hW
  have hA : DataW.TrodAll enc Tryz.prog W 0 (fun _ => true) true Tryz.f9.params.toList args.toList ds p := hA0
  rw [Tryz.params9] at hA hval
  obtain ⟨v0, vs0, d0, ds0, p0, q0, hargs, rfl, rfl, h0, r0⟩ := trodAll_cons hA
  obtain ⟨rfl, rfl, rfl⟩ := trodAll_nil r0
  obtain rfl : args = #[v0] := by cases args; simp_all
  obtain ⟨rfl, rfl⟩ := trodVars_none hV
  have k0 := h0
  have lt0 : ∀ x ∈ p0, x.block < W.heap.size := by obtain ⟨m, hm⟩ := k0; exact DataW.trod_lt m _ _ _ hm
  have z0 := fun (b : ByteArray) (hb : d0 = .lit (.string b.data.toList)) => sized_string hZ (j := 0) rfl (congrArg some hb)
  obtain ⟨a0, rfl, rfl, rfl, w0⟩ := open_string Tryz.underlying9 (hval 0 9 v0 rfl rfl) h0
  have y0 := z0 a0 rfl
  clear hA0 hval0
  have hsz : a0.size ≤ 4000000 := by
    rw [← bl_length]
    simp only [List.append_nil, Rows.uptoBulkAll, Rows.uptoBulk] at hsm
    exact Nat.le_trans (Nat.le_trans (Nat.le_succ _) hsm) (by decide)
  refine (QueryFront_core (w := W) (env2_of rfl rfl hL (env_of rfl rfl rfl rfl hS hL)) a0 hsz).mono ?_
  rintro _ W' ⟨_, rfl, rfl, bel⟩
  exact ⟨_, rfl, _, _, _, [], _, [], hW', trodAll_mk1 (shut_bool Tryz.underlying4 _), (trodAll_cons_mk (shut_string Tryz.underlying9 w0) trodAll_mk0), rfl, bel.frame _, fun h => by cases h⟩
/-! ### the row's closed facts, one by one -/
theorem fa1 : Rows.queryFrontUptoRow.wf (OpenSpec.ofChange (Rows.OpenSpec.upto Rows.queryFrontSpec).bare) = true := by kernel_rfl
theorem fa3 : mapsRowed Tryz.prog = true := by kernel_rfl
theorem fa4 : Tryz.f9.params.all (Tryz.prog.readableRec ·) = true := by kernel_rfl
theorem fa5 : namedTie Tryz.prog Rows.queryFrontUptoRow.named (Rows.OpenSpec.upto Rows.queryFrontSpec).bare.vars = true := by kernel_rfl
theorem fa6 : ((Rows.queryFrontUptoRow.stops == []) && (Tryz.prog.stops == []) && (Rows.queryFrontUptoRow.knobs == []) && (Tryz.prog.stopKnobs == [])) = true := by kernel_rfl
theorem fa7 : (Rows.queryFrontUptoRow.inPlace == Tryz.prog.inPlace 9) = true := by kernel_rfl
theorem fa8 : (Rows.queryFrontUptoRow.unfollowed == Tryz.prog.unfollowed 9) = true := by kernel_rfl
theorem fa9 : (Rows.queryFrontUptoRow.recurses == Tryz.prog.recurses 9) = true := by kernel_rfl
theorem fa10 : (Rows.queryFrontUptoRow.named == Tryz.prog.varsNamed 9) = true := by kernel_rfl
theorem fa11 : ((Rows.queryFrontUptoRow.maps == (Tryz.f9.params.toList ++ (Rows.OpenSpec.upto Rows.queryFrontSpec).bare.plain.varTypes Tryz.prog).any (Tryz.prog.mapsRec ·)) && (Rows.queryFrontUptoRow.ifaces == (Tryz.f9.params.toList ++ (Rows.OpenSpec.upto Rows.queryFrontSpec).bare.plain.varTypes Tryz.prog).any (Tryz.prog.ifacesRec ·)) && (Rows.queryFrontUptoRow.mapsOut == Tryz.prog.mapsAmong Tryz.f9.resultTypes.toList)) = true := by kernel_rfl
theorem fa12 : (Rows.queryFrontUptoRow.loops == (Tryz.f9.params.toList ++ (Rows.OpenSpec.upto Rows.queryFrontSpec).bare.plain.varTypes Tryz.prog).any (Tryz.prog.loopsFrom ·)) = true := by kernel_rfl
theorem fa13 : (Rows.queryFrontUptoRow.wideKeys == (Tryz.f9.params.toList ++ (Rows.OpenSpec.upto Rows.queryFrontSpec).bare.plain.varTypes Tryz.prog ++ Tryz.f9.resultTypes.toList).any (Tryz.prog.wideKeysFrom ·)) = true := by kernel_rfl
theorem fa14 : ((Rows.OpenSpec.upto Rows.queryFrontSpec).bare.vars.all (Tryz.prog.varReadable ·) && Tryz.f9.resultTypes.all (fun t => Tryz.prog.readableRec t && decide (t < Tryz.prog.types.size)) && (Rows.queryFrontUptoRow.ifacesOut == Tryz.f9.resultTypes.toList.any (Tryz.prog.ifacesRec ·)) && (Rows.queryFrontUptoRow.loopsOut == Tryz.f9.resultTypes.toList.any (Tryz.prog.loopsFrom ·))) = true := by kernel_rfl
theorem fa15 : (Rows.queryFrontUptoRow.plainKeys == Tryz.prog.plainKeys) = true := by kernel_rfl
theorem fa16 : (Rows.queryFrontUptoRow.shortTexts.isNone && Tryz.prog.stopsHeard && Tryz.prog.mayEnter && (Rows.queryFrontUptoRow.lifted == Tryz.prog.liftsFinal) && (Tryz.prog.make == some Rows.queryFrontUptoRow.make) && (Rows.queryFrontUptoRow.pinned == Rows.queryFrontUptoRow.pinnedBy)) = true := by kernel_rfl
theorem fa16a : Rows.queryFrontUptoRow.domain.isEmpty = true := by kernel_rfl
theorem fa16b : (Rows.queryFrontUptoRow.kinds == []) = true := by kernel_rfl
theorem fa17 : (Rows.queryFrontUptoRow.veiled == (Tryz.f9.params.toList ++ (Rows.OpenSpec.upto Rows.queryFrontSpec).bare.plain.varTypes Tryz.prog ++ Tryz.f9.resultTypes.toList).any (Tryz.prog.veiledRec ·)) = true := by kernel_rfl
theorem fa18 : Rows.queryFrontUptoRow.veiledFits Tryz.prog Tryz.f9.params.toList (Tryz.f9.params.toList ++ (Rows.OpenSpec.upto Rows.queryFrontSpec).bare.plain.varTypes Tryz.prog ++ Tryz.f9.resultTypes.toList) = true := by kernel_rfl
theorem closed : joinedFacts Tryz.prog 9 Tryz.f9 (Rows.OpenSpec.upto Rows.queryFrontSpec).bare Rows.queryFrontUptoRow = true := joined_of fa1 laidOut fa3 fa4 fa5 fa6 fa7 fa8 fa9 fa10 fa11 fa12 fa13 fa14 fa15 fa16 fa16a fa16b fa17 fa18
theorem named : Tryz.prog.funcNamed "stackyard/stackyardlaw11.QueryFront" = some 9 := by kernel_rfl
theorem fb1 : Rows.queryFrontUptoRow.wfByText (Rows.OpenSpec.upto Rows.queryFrontSpec) = true := by kernel_rfl
theorem fb2 : Tryz.prog.mainIs = some ((true, "652e9a8779766fd48671660a2841e33c913a23bf69c6d1c3f5af8c8f70f5e51c").1, (true, "652e9a8779766fd48671660a2841e33c913a23bf69c6d1c3f5af8c8f70f5e51c").2.toList) := by kernel_rfl
theorem fb3 : true = Tryz.prog.looks [] := by kernel_rfl
theorem fb4 : ([9].all fun u => !Tryz.prog.wantsStandIn u) = true := by kernel_rfl
theorem fb5 : false = Rows.queryFrontUptoRow.goesBy Tryz.prog := by kernel_rfl
theorem row_holds : Rows.QueryFrontUptoSaid :=
  OpenClaim.holds_of_cond 9 Tryz.f9 rfl rfl rfl rfl rfl rfl rfl ⟨rfl, rfl, rfl, rfl, rfl⟩ rfl rfl rfl rfl rfl named Tryz.func9 closed
    (of_decide_eq_true (by kernel_rfl)) (by unfold Func.isWrapper; first | (rw [if_pos (by decide +kernel)]; kernel_rfl) | (rw [if_neg (by decide +kernel)]; exact ⟨rfl, rfl⟩))
    (fun os started H enc _ F => lifted os started H enc F)
theorem proved : Rows.QueryFrontUptoCardSaid :=
  Claim7.holds_tied_plain_at .later [] [.data, .data, .data, .data, .sentinel, .sentinel, .data, .data, .data, .pinned] true (true, "652e9a8779766fd48671660a2841e33c913a23bf69c6d1c3f5af8c8f70f5e51c") true
    row_holds (fun _ h => by cases h) fb1 (fun _ h => by cases h) queryFrontUpto_row_tie rfl ⟨rfl, rfl⟩ fb2 rfl
    (fun f fn hf hfn => by
      obtain rfl : f = 9 := Option.some.inj (named.symm.trans hf) |>.symm
      obtain rfl : fn = Tryz.f9 := (Option.some.inj (Tryz.func9.symm.trans hfn)).symm
      exact ⟨fb3, fun j t ht => by
        rw [Tryz.params9] at ht
        have hm : t ∈ [9] := by simpa using Array.mem_of_getElem? ht
        exact (show Tryz.prog.wantsStandIn t = false by simpa using List.all_eq_true.1 fb4 t hm)⟩)
    fb5
end Go.Proofs.YtbpdfpfgijhokaaGreatDoor.queryFront
namespace Go.Proofs.YtbpdfpfgijhokaaGreatDoor
theorem queryFront_holds : Rows.QueryFrontUptoCardSaid := queryFront.proved
end Go.Proofs.YtbpdfpfgijhokaaGreatDoor
