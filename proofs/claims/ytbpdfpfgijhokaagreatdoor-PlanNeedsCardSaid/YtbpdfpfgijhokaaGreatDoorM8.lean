/-
  Texts of this claim, laid one behind the other by a program of mine (install.py): P.PlW, P.PlX, P.PlY, P.PlArg.
-/
import Derived.Test.YtbpdfpfgijhokaaGreatDoorM7
namespace Go.Proofs.YtbpdfpfgijhokaaGreatDoor
set_option maxRecDepth 100000
open Go.Dn Go.Proofs
open Go.RowKit (Below)
set_option linter.unusedVariables false
structure ArgsP (w : World) (cs : List Col) (a1 : Option Addr) (q : Qu) (ai aw ag ao : Option Addr) (ci c1 : Nat) : Prop where
  E : Env w
  r : Rd w a1 (colsL cs)
  n : cs.length ≤ 9223372036854775807
  s : ∀ c ∈ cs, c.1.size ≤ 9223372036854775807
  Q : QAt w q ai aw ag ao
  c : q.it.length ≤ ci
  cc : cs.length ≤ c1
theorem ArgsP.grown {w w' : World} {cs : List Col} {a1 : Option Addr} {q : Qu} {ai aw ag ao : Option Addr} {ci c1 : Nat} (h : ArgsP w cs a1 q ai aw ag ao ci c1) (B : Below w.heap.size w w') : ArgsP w' cs a1 q ai aw ag ao ci c1 :=
  ⟨h.E.grown B, h.r.grown B, h.n, h.s, h.Q.grown B, h.c, h.cc⟩
theorem stP {w0 w : World} {H : List It} (S : ST w0 w H) (n : Nat) {b : Nat} {p : Pl} {a0 ai aw ag ao a6 : Option Addr} {c0 ci cw cg co c6 : Nat} (hn : H[n]? = some (plI b p a0 c0 ai ci aw cw ag cg ao co a6 c6))
    {Q : Option Addr → Nat → Nat → Option Addr → Nat → Nat → Option Addr → Nat → Nat → Option Addr → Nat → Nat → Option Addr → Nat → Nat → Int → Option Addr → Nat → Nat → Bool → Prop}
    (hq : Q a0 p.cs.length c0 ai p.q.it.length ci aw p.q.wh.length cw ag p.q.gr.length cg ao p.q.od.length co p.q.lim a6 p.out.length c6 p.g) :
      ∃ (r0 : Option Addr) (r0l r0c : Nat), w.cell? ⟨b, 0, none⟩ = some (.slice r0 r0l r0c) ∧ ∃ (r1 : Option Addr) (r1l r1c : Nat), w.cell? ⟨b, 1, none⟩ = some (.slice r1 r1l r1c) ∧ ∃ (r2 : Option Addr) (r2l r2c : Nat), w.cell? ⟨b, 2, none⟩ = some (.slice r2 r2l r2c) ∧ ∃ (r3 : Option Addr) (r3l r3c : Nat), w.cell? ⟨b, 3, none⟩ = some (.slice r3 r3l r3c) ∧
      ∃ (r4 : Option Addr) (r4l r4c : Nat), w.cell? ⟨b, 4, none⟩ = some (.slice r4 r4l r4c) ∧ ∃ r5 : Int, w.cell? ⟨b, 5, none⟩ = some (.int .i64 r5) ∧ ∃ (r6 : Option Addr) (r6l r6c : Nat), w.cell? ⟨b, 6, none⟩ = some (.slice r6 r6l r6c) ∧ ∃ r7 : Bool, w.cell? ⟨b, 7, none⟩ = some (.bool r7) ∧
      Q r0 r0l r0c r1 r1l r1c r2 r2l r2c r3 r3l r3c r4 r4l r4c r5 r6 r6l r6c r7 :=
  ⟨_, _, _, S.cell n hn rfl, _, _, _, S.cell n hn rfl, _, _, _, S.cell n hn rfl, _, _, _, S.cell n hn rfl, _, _, _, S.cell n hn rfl, _, S.cell n hn rfl, _, _, _, S.cell n hn rfl, _, S.cell n hn rfl, hq⟩
theorem right_len {cs : List Col} (h : rightCols cs = true) : cs.length ≤ 16 := by
  unfold rightCols at h
  simp only [Bool.and_eq_true, decide_eq_true_eq] at h
  exact h.1.1.2
theorem make_err0 {cs : List Col} {q : Qu} {e : Int} (h : makeP cs q = .error e) : e ≠ 0 := by
  by_cases h1 : rightCols cs = true
  · by_cases h2 : rightQ q = true
    · rw [← run_make h1 h2] at h
      have : ∀ {l : List Prt}, runP cs q l = .error e → e ≠ 0 := by
        intro l
        induction l with
        | nil => intro h; cases h
        | cons p l ih =>
          intro h
          unfold runP at h
          split at h
          · rename_i hp; cases h; exact step_err hp
          · split at h
            · rename_i hr; cases h; exact ih hr
            · cases h
      exact this h
    · unfold makeP at h
      rw [if_neg (by simp [h1]), if_pos (by simpa using h2)] at h
      cases h; decide
  · unfold makeP at h
    rw [if_pos (by simpa using h1)] at h
    cases h; decide
theorem needed_len (cs : List Col) (q : Qu) : (neededL cs q).length ≤ cs.length := by
  have := List.length_filter_le (usedB cs q) (List.range cs.length)
  rwa [List.length_range] at this
theorem plan_is {cs : List Col} {q : Qu} (h : (planOf cs q).2 = 0) : ∃ out, makeP cs q = .ok out ∧ (planOf cs q) = (⟨cs, q, out, gathersQ q⟩, 0) := by
  cases hm : makeP cs q with
  | ok out => exact ⟨out, rfl, by rw [planOf, hm]⟩
  | error e =>
    rw [planOf, hm] at h
    exact absurd h (make_err0 hm)
section
variable {w : World} {cs : List Col} {a1 : Option Addr} {c1 : Nat} {q : Qu} {ai aw ag ao : Option Addr} {ci cw cg co : Nat}
theorem PlanNeeds_core (A : ArgsP w cs a1 q ai aw ag ao ci c1) : Calls Tryz.prog f.law12_PlanNeeds #[.slice a1 cs.length c1, .agg ⟨quL q ai aw ag ao ci cw cg co⟩] w (Ret fun v w' => v = .bool true ∧ Below w.heap.size w w') := by
  apply R.law12_PlanNeeds_calls
  unfold R.law12_PlanNeeds
  refine (ST.start w).newB fun b7 w1 _ _ S1 => S1.call (law12_shown_ok (A.E.grown S1.bel)) fun w2 _ S2 => ⟨_, rfl, ?_⟩
  have S2 : ST w w2 [quI b7 q ai aw ag ao ci cw cg co] := S2
  have A2 := A.grown S2.bel
  refine stQ S2 0 rfl ((plan_Make_ok A2.E A2.r A2.n A2.s A2.Q A2.c).mono ?_)
  rintro _ w3 ⟨_, rfl, a0, c0, bi, di, bw, dw, bg, dg, bo, d_o, a6, c6, rfl, P3, hc3, B3⟩
  have S3 := S2.grown B3
  refine ⟨_, _, _, _, _, _, _, _, _, _, _, _, _, _, _, _, _, _, _, _, _, rfl, (ST.start w3).newB fun b25 w4 _ B4 T4 => T4.sto8 0 rfl fun w12 T12 => ?_⟩
  have T12 : ST w3 w12 [plI b25 (planOf cs q).1 a0 c0 bi di bw dw bg dg bo d_o a6 c6] := T12
  refine IFB_ne (fun _ => ⟨rfl, (S3.join T12).bel⟩) (fun h0 => ?_)
  obtain ⟨out, hm, hp⟩ := plan_is h0
  rw [hp] at T12 P3
  obtain ⟨h1, h2, _⟩ := makeP_ok hm
  refine T12.draw fun w13 _ T13 => IFB_true (stP T13 0 rfl (stP T13 0 rfl ((plan_Needs_ok (A.E.grown (S3.join T13).bel) (P3.grown T13.bel) (rightQ_small h2).1).mono ?_)))
  rintro _ w14 ⟨_, rfl, an, cn, rfl, hn14, B14⟩
  have T14 := T13.grown B14
  refine ⟨_, _, _, rfl, ⟨T14.cell 0 rfl rfl, T14.cell 0 rfl rfl, T14.cell 0 rfl rfl, T14.cell 0 rfl rfl, T14.cell 0 rfl rfl, T14.cell 0 rfl rfl, T14.cell 0 rfl rfl, T14.cell 0 rfl rfl⟩, (ref12_Needs_ok (P3.grown T14.bel) (rightQ_small h2).1 (right_len h1)).mono ?_⟩
  rintro _ w15 ⟨_, rfl, am, cm, rfl, hn15, B15⟩
  have T15 := T14.grown B15
  have hl := needed_len cs q
  have e : (neededL cs q).length = ((neededL cs q).map fun n : Nat => (n : Int)).length := by rw [List.length_map]
  refine ⟨_, _, _, rfl, ?_⟩
  rw [show (neededL (⟨cs, q, out, gathersQ q⟩ : Pl).cs (⟨cs, q, out, gathersQ q⟩ : Pl).q).length = ((neededL cs q).map fun n : Nat => (n : Int)).length from e]
  exact T15.call (ref12_SameInts_ok (hn14.grown B15) hn15 (by rw [← e]; have := right_len h1; omega)) fun w16 _ T16 => ⟨_, rfl, rfl, (S3.join T16).bel⟩
end
section
variable {w : World} {cs : List Col} {a1 : Option Addr} {c1 : Nat} {q : Qu} {ai aw ag ao : Option Addr} {ci cw cg co : Nat}
end
section
variable {w : World} {cs : List Col} {a1 : Option Addr} {c1 : Nat} {q : Qu} {ai aw ag ao : Option Addr} {ci cw cg co : Nat}
end
def colQ (c : Col) : Prop := c.1.size ≤ maxLen
theorem fld_col : fieldsT Tryz.prog ty.api_Column = some [(ty.string, 0), (ty.int, 1), (ty.bool, 2)] := by kernel_rfl
theorem cells_colP : Tryz.prog.cellsOf ty.api_Column = 3 := by kernel_rfl
theorem good_api_Column {w : World} : ∀ m r, r.length = Tryz.prog.cellsOf ty.api_Column → Go.Dn.Good Tryz.prog w m ty.api_Column r → ∃ x, r = colC x ∧ colQ x := by
  intro m r hl h
  obtain ⟨_, n, hf⟩ := h.fields fld_col
  rw [cells_colP] at hl
  match r, hl with
  | [v0, v1, v2], _ =>
    simp only [List.mem_cons, List.not_mem_nil, or_false, forall_eq_or_imp, forall_eq, cells_intP, cells_boolP, cells_strP] at hf
    obtain ⟨h0, h1, h2⟩ := hf
    obtain ⟨x0, e0, q0⟩ := h0.str und_strP
    obtain ⟨x1, e1, q1⟩ := h1.int und_intP
    obtain ⟨x2, e2⟩ := h2.bool und_boolP
    refine ⟨(x0, x1, x2), ?_, q0⟩
    simp only [List.drop_zero, List.take_succ_cons, List.take_zero, List.drop_succ_cons, List.cons.injEq, and_true] at e0 e1 e2
    rw [e0, e1, e2]
    rfl
theorem open_qu {H : Type} {enc : TypeId × Value → H} {W : World} {base b : Nat} {sp : Nat → Bool} {held : Bool} {v : Value} {d : DataW H} {p : List MemPlace} (hv : Value.okWide Tryz.prog W .any base ty.api_Query v) (h : DataW.Trod enc Tryz.prog W b sp held ty.api_Query v d p) :
    ∃ x : List Value, v = .agg ⟨x⟩ ∧ ∃ q, QuC (fun _ => False) W q x := by
  obtain ⟨cs, rfl⟩ := okWide_agg fld_qu hv
  obtain ⟨n, hn⟩ := h
  obtain ⟨q, hq⟩ := good_qu (good_of_trod n _ _ _ hn)
  exact ⟨cs.toList, rfl, q, hq⟩
theorem args_of {w : World} (E : Env w) {a : Option Addr} {cs : List Col} {c : Nat} (g : GL w colC colQ a cs c) {x : List Value} (hx : ∃ q, QuC (fun _ => False) w q x) :
    ∃ q ai aw ag ao ci cw cg co, x = quL q ai aw ag ao ci cw cg co ∧ ArgsP w cs a q ai aw ag ao ci c := by
  obtain ⟨q, hq⟩ := hx
  obtain ⟨ai, aw, ag, ao, ci, cw, cg, co, rfl, Q, hci, _⟩ := hq.at
  exact ⟨q, ai, aw, ag, ao, ci, cw, cg, co, rfl, E, g.2.2.2.1, Nat.le_trans (Nat.le_trans g.1 g.2.1) (by decide), fun v hv => Nat.le_trans (g.2.2.2.2 v hv) (by decide), Q, hci, g.1⟩
theorem PlanNeeds_ok {w : World} (E : Env w) (a : Option Addr) (cs : List Col) (c : Nat) (g : GL w colC colQ a cs c) (_y : c * Tryz.prog.bytesOf ty.api_Column ≤ reachBytes) (x : List Value) (hx : ∃ q, QuC (fun _ => False) w q x) :
    Calls Tryz.prog f.law12_PlanNeeds #[.slice a cs.length c, .agg ⟨x⟩] w (Ret fun r w' => r = .bool true ∧ Below w.heap.size w w') := by
  obtain ⟨q, ai, aw, ag, ao, ci, cw, cg, co, rfl, A⟩ := args_of E g hx
  exact PlanNeeds_core A
end Go.Proofs.YtbpdfpfgijhokaaGreatDoor
