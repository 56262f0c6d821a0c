/-
  Texts of this claim, laid one behind the other by a program of mine (install.py): G.FinWords.
-/
import Derived.Test.YtpnaifmmggnimaaGreatDoorRows
import Derived.Test.YtpnaifmmggnimaaGreatDoorCards
import Derived.Test.YtpnaifmmggnimaaGreatDoorTie
import Derived.WalkKit
import Derived.ProofKit
import Derived.OpenShut
import Derived.ShutString
import Derived.ChangeOld
import Derived.Below
import Derived.Lay
import Derived.LaidOnce
import Derived.SevenTiedAt
import Derived.Test.YtpnaifmmggnimaaGreatDoorM1
import Derived.Test.YtpnaifmmggnimaaGreatDoorM7
import Derived.Test.YtpnaifmmggnimaaGreatDoorM8
/-
  Rows.CatalogWordsCardSaid: the call of stackyard/stackyardlaw22.CatalogWords returns true, whatever the input, and each argument reads behind it as it read before; the listed variables hold what the program's text lays. From the contract CatalogWords_ok.
-/
namespace Go.Proofs.YtpnaifmmggnimaaGreatDoor.catalogWords
open Go.ChangeShapes Go.WideShapes Go.ChangeAt Go.RowKit
open Go.ChangeMaps (open_string shut_string)
open Go.Dn
set_option linter.unusedVariables false
theorem own : ownKnob Tryz.prog.godebug = none := by kernel_rfl
theorem laidOut : laidOutB Tryz.prog = true := by kernel_rfl
set_option maxRecDepth 100000 in
theorem lifted (os : Os) (started : os.Started) (H : Type) (enc : TypeId × Value → H) :
    ReturnsInHanded {} Tryz.checked os 5 .any (fun w args => (Rows.catalogWordsSpec.pre enc Tryz.prog Tryz.f5 [] false w args ∧ laidMetH Tryz.prog Rows.catalogWordsRow.laid w) ∧ sizedMet enc Tryz.prog Tryz.f5 (OpenSpec.ofChange Rows.catalogWordsSpec) false w args)
      (Rows.catalogWordsSpec.post enc Tryz.prog Tryz.f5 false true false false) := by
  refine returnsInHanded_and_shaped (C := Tryz.checked) (X := fun w _ => laidMetH Tryz.prog Rows.catalogWordsRow.laid w) (fun _ _ _ hh h => h.of_heap hh) own started (by kernel_rfl) Tryz.func5
    (ChangeSpec.witness_shaped (enc := enc) (C := Tryz.checked) (os := os) (X := fun w _ => laidMetH Tryz.prog Rows.catalogWordsRow.laid w) false (World.laidAll Tryz.prog os Rows.catalogWordsRow.laid) #[.int .i64 0, .int .i64 0, .slice none 0 0, .slice none 0 0, .slice none 0 0, .string ByteArray.empty] 8 (World.laidAll_os _ _ _)
      (World.shaped_of_ZipB (by kernel_rfl) (by kernel_rfl)) (by kernel_rfl) (by kernel_rfl) (by kernel_rfl)
      (by rw [MakeChecks.laidMetH_plain _ _ _ (by kernel_rfl)]; exact laidMet_laidAll _ (by kernel_rfl) (by kernel_rfl))) ?_
  intro W base args ds gs before hval0 hW hZ hL hS
  rw [MakeChecks.laidMetH_plain _ _ _ (by kernel_rfl)] at hL
  have hval : ∀ (j : Nat) t v, Tryz.f5.params[j]? = some t → args[j]? = some v → Value.okWide Tryz.prog W .any base t v := hval0
  have hW' := hW
  obtain ⟨p, q, hA0, hV, rfl, hfz, hnd⟩ := hW
  have hA : DataW.TrodAll enc Tryz.prog W 0 (fun _ => true) true Tryz.f5.params.toList args.toList ds p := hA0
  rw [Tryz.params5] at hA hval
  obtain ⟨v0, vs0, d0, ds0, p0, q0, hargs, rfl, rfl, h0, r0⟩ := trodAll_cons hA
  obtain ⟨v1, vs1, d1, ds1, p1, q1, rfl, rfl, rfl, h1, r1⟩ := trodAll_cons r0
  obtain ⟨v2, vs2, d2, ds2, p2, q2, rfl, rfl, rfl, h2, r2⟩ := trodAll_cons r1
  obtain ⟨v3, vs3, d3, ds3, p3, q3, rfl, rfl, rfl, h3, r3⟩ := trodAll_cons r2
  obtain ⟨v4, vs4, d4, ds4, p4, q4, rfl, rfl, rfl, h4, r4⟩ := trodAll_cons r3
  obtain ⟨v5, vs5, d5, ds5, p5, q5, rfl, rfl, rfl, h5, r5⟩ := trodAll_cons r4
  obtain ⟨rfl, rfl, rfl⟩ := trodAll_nil r5
  obtain rfl : args = #[v0, v1, v2, v3, v4, v5] := by cases args; simp_all
  obtain ⟨rfl, rfl⟩ := trodVars_none hV
  have k0 := h0
  have lt0 : ∀ x ∈ p0, x.block < W.heap.size := by obtain ⟨m, hm⟩ := k0; exact DataW.trod_lt m _ _ _ hm
  obtain ⟨a0, rfl, rfl, rfl, w0⟩ := open_int Tryz.underlying2 (hval 0 2 v0 rfl rfl) h0
  have k1 := h1
  have lt1 : ∀ x ∈ p1, x.block < W.heap.size := by obtain ⟨m, hm⟩ := k1; exact DataW.trod_lt m _ _ _ hm
  obtain ⟨a1, rfl, rfl, rfl, w1⟩ := open_int Tryz.underlying2 (hval 1 2 v1 rfl rfl) h1
  have k2 := h2
  have lt2 : ∀ x ∈ p2, x.block < W.heap.size := by obtain ⟨m, hm⟩ := k2; exact DataW.trod_lt m _ _ _ hm
  obtain ⟨sa2, sl2, sc2, rfl⟩ := okWide_slice Tryz.underlying27 (hval 2 27 v2 rfl rfl)
  obtain ⟨fu2, hf2⟩ := h2
  have y2 := sized_of_trod hZ (j := 2) rfl rfl Tryz.underlying27 hf2
  obtain ⟨xs2, rfl, gl2⟩ := (good_of_trod _ _ _ _ hf2).gl Tryz.underlying27 _ _ (good_api_Column)
  have k3 := h3
  have lt3 : ∀ x ∈ p3, x.block < W.heap.size := by obtain ⟨m, hm⟩ := k3; exact DataW.trod_lt m _ _ _ hm
  obtain ⟨sa3, sl3, sc3, rfl⟩ := okWide_slice Tryz.underlying35 (hval 3 35 v3 rfl rfl)
  obtain ⟨fu3, hf3⟩ := h3
  have y3 := sized_of_trod hZ (j := 3) rfl rfl Tryz.underlying35 hf3
  obtain ⟨xs3, rfl, gl3⟩ := (good_of_trod _ _ _ _ hf3).gl Tryz.underlying35 _ _ (good_api_Row)
  have k4 := h4
  have lt4 : ∀ x ∈ p4, x.block < W.heap.size := by obtain ⟨m, hm⟩ := k4; exact DataW.trod_lt m _ _ _ hm
  obtain ⟨sa4, sl4, sc4, rfl⟩ := okWide_slice Tryz.underlying50 (hval 4 50 v4 rfl rfl)
  obtain ⟨fu4, hf4⟩ := h4
  have y4 := sized_of_trod hZ (j := 4) rfl rfl Tryz.underlying50 hf4
  obtain ⟨xs4, rfl, gl4⟩ := (good_of_trod _ _ _ _ hf4).gl Tryz.underlying50 _ _ (good_str Tryz.underlying9)
  have k5 := h5
  have lt5 : ∀ x ∈ p5, x.block < W.heap.size := by obtain ⟨m, hm⟩ := k5; exact DataW.trod_lt m _ _ _ hm
  have z5 := fun (b : ByteArray) (hb : d5 = .lit (.string b.data.toList)) => sized_string hZ (j := 5) rfl (congrArg some hb)
  obtain ⟨a5, rfl, rfl, rfl, w5⟩ := open_string Tryz.underlying9 (hval 5 9 v5 rfl rfl) h5
  have y5 := z5 a5 rfl
  clear hA0 hval0
  refine (CatalogWords_ok (w := W) (tabs_of rfl rfl rfl hL) a0 w0 a1 w1 sa2 xs2 sc2 gl2 y2 sa3 xs3 sc3 gl3 y3 sa4 xs4 sc4 gl4 y4 a5 y5).mono ?_
  rintro _ W' ⟨_, rfl, rfl, bel⟩
  exact ⟨_, rfl, _, _, _, [], _, [], hW', trodAll_mk1 (shut_bool Tryz.underlying4 _), (trodAll_cons_mk (shut_int Tryz.underlying2 w0) (trodAll_cons_mk (shut_int Tryz.underlying2 w1) (trodAll_cons_mk (Below.trod laidOut (by kernel_rfl) (of_decide_eq_true (by kernel_rfl)) k2 bel lt2) (trodAll_cons_mk (Below.trod laidOut (by kernel_rfl) (of_decide_eq_true (by kernel_rfl)) k3 bel lt3) (trodAll_cons_mk (Below.trod laidOut (by kernel_rfl) (of_decide_eq_true (by kernel_rfl)) k4 bel lt4) (trodAll_cons_mk (shut_string Tryz.underlying9 w5) trodAll_mk0)))))), rfl, bel.frame _, fun h => by cases h⟩
/-! ### the row's closed facts, one by one -/
theorem fa1 : Rows.catalogWordsRow.wf (OpenSpec.ofChange Rows.catalogWordsSpec) = true := by kernel_rfl
theorem fa3 : mapsRowed Tryz.prog = true := by kernel_rfl
theorem fa4 : Tryz.f5.params.all (Tryz.prog.readableRec ·) = true := by kernel_rfl
theorem fa5 : namedTie Tryz.prog Rows.catalogWordsRow.named Rows.catalogWordsSpec.vars = true := by kernel_rfl
theorem fa6 : ((Rows.catalogWordsRow.stops == []) && (Tryz.prog.stops == []) && (Rows.catalogWordsRow.knobs == []) && (Tryz.prog.stopKnobs == [])) = true := by kernel_rfl
theorem fa7 : (Rows.catalogWordsRow.inPlace == Tryz.prog.inPlace 5) = true := by kernel_rfl
theorem fa8 : (Rows.catalogWordsRow.unfollowed == Tryz.prog.unfollowed 5) = true := by kernel_rfl
theorem fa9 : (Rows.catalogWordsRow.recurses == Tryz.prog.recurses 5) = true := by kernel_rfl
theorem fa10 : (Rows.catalogWordsRow.named == Tryz.prog.varsNamed 5) = true := by kernel_rfl
theorem fa11 : ((Rows.catalogWordsRow.maps == (Tryz.f5.params.toList ++ Rows.catalogWordsSpec.plain.varTypes Tryz.prog).any (Tryz.prog.mapsRec ·)) && (Rows.catalogWordsRow.ifaces == (Tryz.f5.params.toList ++ Rows.catalogWordsSpec.plain.varTypes Tryz.prog).any (Tryz.prog.ifacesRec ·)) && (Rows.catalogWordsRow.mapsOut == Tryz.prog.mapsAmong Tryz.f5.resultTypes.toList)) = true := by kernel_rfl
theorem fa12 : (Rows.catalogWordsRow.loops == (Tryz.f5.params.toList ++ Rows.catalogWordsSpec.plain.varTypes Tryz.prog).any (Tryz.prog.loopsFrom ·)) = true := by kernel_rfl
theorem fa13 : (Rows.catalogWordsRow.wideKeys == (Tryz.f5.params.toList ++ Rows.catalogWordsSpec.plain.varTypes Tryz.prog ++ Tryz.f5.resultTypes.toList).any (Tryz.prog.wideKeysFrom ·)) = true := by kernel_rfl
theorem fa14 : (Rows.catalogWordsSpec.vars.all (Tryz.prog.varReadable ·) && Tryz.f5.resultTypes.all (fun t => Tryz.prog.readableRec t && decide (t < Tryz.prog.types.size)) && (Rows.catalogWordsRow.ifacesOut == Tryz.f5.resultTypes.toList.any (Tryz.prog.ifacesRec ·)) && (Rows.catalogWordsRow.loopsOut == Tryz.f5.resultTypes.toList.any (Tryz.prog.loopsFrom ·))) = true := by kernel_rfl
theorem fa15 : (Rows.catalogWordsRow.plainKeys == Tryz.prog.plainKeys) = true := by kernel_rfl
theorem fa16 : (Rows.catalogWordsRow.shortTexts.isNone && Tryz.prog.stopsHeard && Tryz.prog.mayEnter && (Rows.catalogWordsRow.lifted == Tryz.prog.liftsFinal) && (Tryz.prog.make == some Rows.catalogWordsRow.make) && (Rows.catalogWordsRow.pinned == Rows.catalogWordsRow.pinnedBy)) = true := by kernel_rfl
theorem fa16a : Rows.catalogWordsRow.domain.isEmpty = true := by kernel_rfl
theorem fa16b : (Rows.catalogWordsRow.kinds == []) = true := by kernel_rfl
theorem fa17 : (Rows.catalogWordsRow.veiled == (Tryz.f5.params.toList ++ Rows.catalogWordsSpec.plain.varTypes Tryz.prog ++ Tryz.f5.resultTypes.toList).any (Tryz.prog.veiledRec ·)) = true := by kernel_rfl
theorem fa18 : Rows.catalogWordsRow.veiledFits Tryz.prog Tryz.f5.params.toList (Tryz.f5.params.toList ++ Rows.catalogWordsSpec.plain.varTypes Tryz.prog ++ Tryz.f5.resultTypes.toList) = true := by kernel_rfl
theorem closed : joinedFacts Tryz.prog 5 Tryz.f5 Rows.catalogWordsSpec Rows.catalogWordsRow = true := joined_of fa1 laidOut fa3 fa4 fa5 fa6 fa7 fa8 fa9 fa10 fa11 fa12 fa13 fa14 fa15 fa16 fa16a fa16b fa17 fa18
theorem named : Tryz.prog.funcNamed "stackyard/stackyardlaw22.CatalogWords" = some 5 := by kernel_rfl
theorem fb1 : Rows.catalogWordsRow.wfByText (OpenSpec.ofChange Rows.catalogWordsSpec) = true := by kernel_rfl
theorem fb2 : Tryz.prog.mainIs = some ((true, "7c7aa9cb9611bc7df85649b0d4d1ea91da13c01b7a3fe7e1c6a61ebf69742f23").1, (true, "7c7aa9cb9611bc7df85649b0d4d1ea91da13c01b7a3fe7e1c6a61ebf69742f23").2.toList) := by kernel_rfl
theorem fb3 : false = Tryz.prog.looks [] := by kernel_rfl
theorem fb4 : ([2, 2, 27, 35, 50, 9].all fun u => !Tryz.prog.wantsStandIn u) = true := by kernel_rfl
theorem fb5 : false = Rows.catalogWordsRow.goesBy Tryz.prog := by kernel_rfl
theorem row_holds : Rows.CatalogWordsSaid :=
  OpenClaim.holds_of_wide 5 Tryz.f5 rfl rfl rfl rfl rfl rfl rfl ⟨rfl, rfl, rfl, rfl, rfl⟩ rfl rfl rfl rfl rfl named Tryz.func5 closed
    (of_decide_eq_true (by kernel_rfl)) (by unfold Func.isWrapper; first | (rw [if_pos (by decide +kernel)]; kernel_rfl) | (rw [if_neg (by decide +kernel)]; exact ⟨rfl, rfl⟩))
    (fun os started H enc _ => lifted os started H enc)
theorem proved : Rows.CatalogWordsCardSaid :=
  Claim7.holds_tied_plain_at .later [] [.data, .data, .data, .data, .pinned] true (true, "7c7aa9cb9611bc7df85649b0d4d1ea91da13c01b7a3fe7e1c6a61ebf69742f23") false
    row_holds (fun _ h => by cases h) fb1 (fun _ h => by cases h) catalogWords_row_tie rfl ⟨rfl, rfl⟩ fb2 rfl
    (fun f fn hf hfn => by
      obtain rfl : f = 5 := Option.some.inj (named.symm.trans hf) |>.symm
      obtain rfl : fn = Tryz.f5 := (Option.some.inj (Tryz.func5.symm.trans hfn)).symm
      exact ⟨fb3, fun j t ht => by
        rw [Tryz.params5] at ht
        have hm : t ∈ [2, 2, 27, 35, 50, 9] := by simpa using Array.mem_of_getElem? ht
        exact (show Tryz.prog.wantsStandIn t = false by simpa using List.all_eq_true.1 fb4 t hm)⟩)
    fb5
end Go.Proofs.YtpnaifmmggnimaaGreatDoor.catalogWords
namespace Go.Proofs.YtpnaifmmggnimaaGreatDoor
theorem catalogWords_holds : Rows.CatalogWordsCardSaid := catalogWords.proved
end Go.Proofs.YtpnaifmmggnimaaGreatDoor
