/-
  Texts of this claim, laid one behind the other by a program of mine (install.py): P.Tree, P.PlW, P.PlX, P.PlY, P.PlArg.
-/
import Derived.Test.YtbpdfpfgijhokaaGreatDoorM4
import Derived.Test.YtbpdfpfgijhokaaGreatDoorM3
import Derived.Test.YtbpdfpfgijhokaaGreatDoorM7
namespace Go.Proofs.YtbpdfpfgijhokaaGreatDoor
set_option maxRecDepth 100000
open Go.Dn Go.Proofs
open Go.RowKit (Below)
set_option linter.unusedVariables false
section
variable {P : Program} {w : World}
theorem good_fields1 {n : Nat} {t : TypeId} {cs : List Value} {l : List (TypeId × Nat)} (h : Go.Dn.Good P w (n + 1) t cs) (ht : fieldsT P t = some l) :
    cs.length = P.cellsOf t ∧ ∀ x ∈ l, Go.Dn.Good P w n x.1 ((cs.drop x.2).take (P.cellsOf x.1)) := by
  unfold fieldsT at ht
  split at ht
  · rename_i fs hu
    unfold Go.Dn.Good at h
    rw [hu] at h
    cases ht
    refine ⟨h.1, fun x hx => ?_⟩
    obtain ⟨f, hf, rfl⟩ := List.mem_map.1 hx
    exact h.2 f hf
  · cases ht
theorem good_slice1 {n : Nat} {t e : TypeId} {cs : List Value} (h : Go.Dn.Good P w (n + 1) t cs) (ht : P.underlying t = some (.slice e)) : ∃ a len cap, cs = [.slice a len cap] ∧ len ≤ cap ∧ cap ≤ maxLen ∧ (a = none → cap = 0) ∧
    ∃ rows : List (List Value), rows.length = len ∧ Rd w a rows.flatten ∧ ∀ r ∈ rows, r.length = P.cellsOf e ∧ Go.Dn.Good P w n e r := by
  unfold Go.Dn.Good at h
  rw [ht] at h
  exact h
end
theorem wf64 {x : Int} (h : (Lit.int .i64 x).wf = true) : i64 x := by simpa [Lit.wf, IntKind.min, IntKind.max, IntKind.signed, IntKind.bits] using h
theorem cells_intP : Tryz.prog.cellsOf ty.int = 1 := by kernel_rfl
theorem cells_int64P : Tryz.prog.cellsOf ty.int64 = 1 := by kernel_rfl
theorem cells_strP : Tryz.prog.cellsOf ty.string = 1 := by kernel_rfl
theorem cells_boolP : Tryz.prog.cellsOf ty.bool = 1 := by kernel_rfl
theorem cells_valP : Tryz.prog.cellsOf ty.api_Value = 3 := by kernel_rfl
theorem cells_exP : Tryz.prog.cellsOf ty.api_Expr = 6 := by kernel_rfl
theorem cells_LexP : Tryz.prog.cellsOf ty.L_api_Expr = 1 := by kernel_rfl
theorem cells_itP : Tryz.prog.cellsOf ty.api_Item = 8 := by kernel_rfl
theorem cells_LitP : Tryz.prog.cellsOf ty.L_api_Item = 1 := by kernel_rfl
theorem cells_keyP : Tryz.prog.cellsOf ty.api_Key = 2 := by kernel_rfl
theorem cells_LkeyP : Tryz.prog.cellsOf ty.L_api_Key = 1 := by kernel_rfl
theorem cells_quP : Tryz.prog.cellsOf ty.api_Query = 5 := by kernel_rfl
theorem und_intP : Tryz.prog.underlying ty.int = some (.int .i64) := by kernel_rfl
theorem und_int64P : Tryz.prog.underlying ty.int64 = some (.int .i64) := by kernel_rfl
theorem und_strP : Tryz.prog.underlying ty.string = some .string := by kernel_rfl
theorem und_boolP : Tryz.prog.underlying ty.bool = some .bool := by kernel_rfl
theorem und_LexP : Tryz.prog.underlying ty.L_api_Expr = some (.slice ty.api_Expr) := by kernel_rfl
theorem und_LitP : Tryz.prog.underlying ty.L_api_Item = some (.slice ty.api_Item) := by kernel_rfl
theorem und_LkeyP : Tryz.prog.underlying ty.L_api_Key = some (.slice ty.api_Key) := by kernel_rfl
theorem fld_val : fieldsT Tryz.prog ty.api_Value = some [(ty.int, 0), (ty.int64, 1), (ty.string, 2)] := by kernel_rfl
theorem fld_ex : fieldsT Tryz.prog ty.api_Expr = some [(ty.int, 0), (ty.string, 1), (ty.api_Value, 2), (ty.L_api_Expr, 5)] := by kernel_rfl
theorem fld_it : fieldsT Tryz.prog ty.api_Item = some [(ty.string, 0), (ty.int, 1), (ty.api_Expr, 2)] := by kernel_rfl
theorem fld_key : fieldsT Tryz.prog ty.api_Key = some [(ty.int, 0), (ty.bool, 1)] := by kernel_rfl
theorem fld_qu : fieldsT Tryz.prog ty.api_Query = some [(ty.L_api_Item, 0), (ty.L_api_Expr, 1), (ty.L_api_Expr, 2), (ty.L_api_Key, 3), (ty.int, 4)] := by kernel_rfl
section
variable {w : World}
theorem good_val {n : Nat} {cs : List Value} (h : Go.Dn.Good Tryz.prog w n ty.api_Value cs) : ∃ v : Val, cs = [.int .i64 v.1, .int .i64 v.2.1, .string v.2.2] ∧ i64 v.1 ∧ i64 v.2.1 ∧ v.2.2.size ≤ maxLen := by
  obtain ⟨hl, m, hf⟩ := h.fields fld_val
  rw [cells_valP] at hl
  match cs, hl with
  | [v0, v1, v2], _ =>
    simp only [List.mem_cons, List.not_mem_nil, or_false, forall_eq_or_imp, forall_eq, cells_intP, cells_int64P, cells_strP] at hf
    obtain ⟨h0, h1, h2⟩ := hf
    obtain ⟨x0, e0, q0⟩ := h0.int und_intP
    obtain ⟨x1, e1, q1⟩ := h1.int und_int64P
    obtain ⟨x2, e2, q2⟩ := h2.str und_strP
    simp only [List.drop_zero, List.take_succ_cons, List.take_zero, List.drop_succ_cons, List.cons.injEq, and_true] at e0 e1 e2
    exact ⟨(x0, x1, x2), by rw [e0, e1, e2], wf64 q0, wf64 q1, q2⟩
theorem rows_all {α : Type} {C : α → List Value → Prop} : ∀ {rows : List (List Value)}, (∀ r ∈ rows, ∃ x, C x r) → ∃ xs : List α, xs.length = rows.length ∧ RowsC C xs rows.flatten
  | [], _ => ⟨[], rfl, rfl⟩
  | r :: rows, h => by
    obtain ⟨x, hx⟩ := h r (by simp)
    obtain ⟨xs, h1, h2⟩ := rows_all (rows := rows) fun r hr => h r (by simp [hr])
    exact ⟨x :: xs, by simp [h1], by rw [List.flatten_cons]; exact ⟨r, _, rfl, hx, h2⟩⟩
theorem good_ex : ∀ (n : Nat) (cs : List Value), Go.Dn.Good Tryz.prog w n ty.api_Expr cs → ∃ x, ExC (fun _ => False) w x cs := by
  intro n
  induction n using Nat.strongRecOn with
  | ind n ih =>
    intro cs h
    cases n with
    | zero => exact h.elim
    | succ n =>
      obtain ⟨hl, hf⟩ := good_fields1 h fld_ex
      rw [cells_exP] at hl
      match cs, hl with
      | [v0, v1, v2, v3, v4, v5], _ =>
        simp only [List.mem_cons, List.not_mem_nil, or_false, forall_eq_or_imp, forall_eq, cells_intP, cells_strP, cells_valP, cells_LexP] at hf
        obtain ⟨h0, h1, h2, h5⟩ := hf
        obtain ⟨x0, e0, q0⟩ := h0.int und_intP
        obtain ⟨x1, e1, q1⟩ := h1.str und_strP
        obtain ⟨v, e2, q2, q3, q4⟩ := good_val h2
        cases n with
        | zero => exact h5.elim
        | succ n =>
          obtain ⟨a, len, cap, e5, g1, g2, g3, rows, rfl, g4, g5⟩ := good_slice1 h5 und_LexP
          obtain ⟨ks, k1, k2⟩ := rows_all (C := ExC (fun _ => False) w) (rows := rows) fun r hr => ih n (by omega) r (g5 r hr).2
          simp only [List.drop_zero, List.take_succ_cons, List.take_zero, List.drop_succ_cons, List.cons.injEq, and_true] at e0 e1 e2 e5
          obtain ⟨e2, e3, e4⟩ := e2
          refine ⟨.mk x0 x1 v ks, ?_⟩
          have := ExC.close (F := fun _ => False) (w := w) (x := .mk x0 x1 v ks) (a := a) (cap := cap) g4 (fun _ _ _ h => h) (by show ks.length ≤ cap; omega) g2 g3 ⟨wf64 q0, q1, q2, q3, q4⟩ (rowsC_exL.1 k2)
          rw [e0, e1, e2, e3, e4, e5]
          rw [← k1]
          exact this
theorem good_it {n : Nat} {cs : List Value} (h : Go.Dn.Good Tryz.prog w n ty.api_Item cs) : ∃ x, ItC (fun _ => False) w x cs := by
  obtain ⟨hl, m, hf⟩ := h.fields fld_it
  rw [cells_itP] at hl
  match cs, hl with
  | v0 :: v1 :: c, hl =>
    simp only [List.mem_cons, List.not_mem_nil, or_false, forall_eq_or_imp, forall_eq, cells_intP, cells_strP, cells_exP] at hf
    obtain ⟨h0, h1, h2⟩ := hf
    obtain ⟨x0, e0, q0⟩ := h0.str und_strP
    obtain ⟨x1, e1, q1⟩ := h1.int und_intP
    simp only [List.drop_zero, List.take_succ_cons, List.take_zero, List.drop_succ_cons, List.cons.injEq, and_true] at e0 e1 h2
    rw [List.take_of_length_le (by simp at hl; omega)] at h2
    obtain ⟨x, hx⟩ := good_ex _ _ h2
    exact ⟨(x0, x1, x), c, by rw [e0, e1], hx, q0, wf64 q1⟩
theorem good_key {n : Nat} {cs : List Value} (h : Go.Dn.Good Tryz.prog w n ty.api_Key cs) : ∃ x, keyC x cs := by
  obtain ⟨hl, m, hf⟩ := h.fields fld_key
  rw [cells_keyP] at hl
  match cs, hl with
  | [v0, v1], _ =>
    simp only [List.mem_cons, List.not_mem_nil, or_false, forall_eq_or_imp, forall_eq, cells_intP, cells_boolP] at hf
    obtain ⟨h0, h1⟩ := hf
    obtain ⟨x0, e0, q0⟩ := h0.int und_intP
    obtain ⟨x1, e1⟩ := h1.bool und_boolP
    simp only [List.drop_zero, List.take_succ_cons, List.take_zero, List.drop_succ_cons, List.cons.injEq, and_true] at e0 e1
    exact ⟨(x0, x1), by rw [e0, e1], wf64 q0⟩
theorem good_sl {α : Type} {C : α → List Value → Prop} {n : Nat} {t e : TypeId} {cs : List Value} (h : Go.Dn.Good Tryz.prog w n t cs) (ht : Tryz.prog.underlying t = some (.slice e)) (hC : ∀ m r, Go.Dn.Good Tryz.prog w m e r → ∃ x, C x r) : ∃ l v, cs = [v] ∧ SlC (fun _ => False) w C l v := by
  obtain ⟨a, len, cap, rfl, h1, h2, h3, m, rows, rfl, hr, hrs⟩ := h.slice ht
  obtain ⟨l, k1, k2⟩ := rows_all (C := C) (rows := rows) fun r hr => hC m r (hrs r hr).2
  exact ⟨l, _, rfl, ⟨a, cap, _, by rw [k1], hr, fun _ _ _ h => h, by omega, h2, h3, k2⟩⟩
theorem good_qu {n : Nat} {cs : List Value} (h : Go.Dn.Good Tryz.prog w n ty.api_Query cs) : ∃ q, QuC (fun _ => False) w q cs := by
  obtain ⟨hl, m, hf⟩ := h.fields fld_qu
  rw [cells_quP] at hl
  match cs, hl with
  | [v0, v1, v2, v3, v4], _ =>
    simp only [List.mem_cons, List.not_mem_nil, or_false, forall_eq_or_imp, forall_eq, cells_intP, cells_LitP, cells_LexP, cells_LkeyP] at hf
    obtain ⟨h0, h1, h2, h3, h4⟩ := hf
    obtain ⟨l0, u0, e0, s0⟩ := good_sl h0 und_LitP fun _ _ h => good_it h
    obtain ⟨l1, u1, e1, s1⟩ := good_sl h1 und_LexP fun _ _ h => good_ex _ _ h
    obtain ⟨l2, u2, e2, s2⟩ := good_sl h2 und_LexP fun _ _ h => good_ex _ _ h
    obtain ⟨l3, u3, e3, s3⟩ := good_sl h3 und_LkeyP fun _ _ h => good_key h
    obtain ⟨x4, e4, q4⟩ := h4.int und_intP
    simp only [List.drop_zero, List.take_succ_cons, List.take_zero, List.drop_succ_cons, List.cons.injEq, and_true] at e0 e1 e2 e3 e4
    refine ⟨⟨l0, l1, l2, l3, x4⟩, ⟨u0, u1, u2, u3, by rw [e0, e1, e2, e3, e4], s0, s1, s2, s3, wf64 q4⟩⟩
end
structure ArgsP (w : World) (cs : List Col) (a1 : Option Addr) (q : Qu) (ai aw ag ao : Option Addr) (ci c1 : Nat) : Prop where
  E : Env w
  r : Rd w a1 (colsL cs)
  n : cs.length ≤ 9223372036854775807
  s : ∀ c ∈ cs, c.1.size ≤ 9223372036854775807
  Q : QAt w q ai aw ag ao
  c : q.it.length ≤ ci
  cc : cs.length ≤ c1
theorem ArgsP.grown {w w' : World} {cs : List Col} {a1 : Option Addr} {q : Qu} {ai aw ag ao : Option Addr} {ci c1 : Nat} (h : ArgsP w cs a1 q ai aw ag ao ci c1) (B : Below w.heap.size w w') : ArgsP w' cs a1 q ai aw ag ao ci c1 :=
  ⟨h.E.grown B, h.r.grown B, h.n, h.s, h.Q.grown B, h.c, h.cc⟩
theorem stP {w0 w : World} {H : List It} (S : ST w0 w H) (n : Nat) {b : Nat} {p : Pl} {a0 ai aw ag ao a6 : Option Addr} {c0 ci cw cg co c6 : Nat} (hn : H[n]? = some (plI b p a0 c0 ai ci aw cw ag cg ao co a6 c6))
    {Q : Option Addr → Nat → Nat → Option Addr → Nat → Nat → Option Addr → Nat → Nat → Option Addr → Nat → Nat → Option Addr → Nat → Nat → Int → Option Addr → Nat → Nat → Bool → Prop}
    (hq : Q a0 p.cs.length c0 ai p.q.it.length ci aw p.q.wh.length cw ag p.q.gr.length cg ao p.q.od.length co p.q.lim a6 p.out.length c6 p.g) :
      ∃ (r0 : Option Addr) (r0l r0c : Nat), w.cell? ⟨b, 0, none⟩ = some (.slice r0 r0l r0c) ∧ ∃ (r1 : Option Addr) (r1l r1c : Nat), w.cell? ⟨b, 1, none⟩ = some (.slice r1 r1l r1c) ∧ ∃ (r2 : Option Addr) (r2l r2c : Nat), w.cell? ⟨b, 2, none⟩ = some (.slice r2 r2l r2c) ∧ ∃ (r3 : Option Addr) (r3l r3c : Nat), w.cell? ⟨b, 3, none⟩ = some (.slice r3 r3l r3c) ∧
      ∃ (r4 : Option Addr) (r4l r4c : Nat), w.cell? ⟨b, 4, none⟩ = some (.slice r4 r4l r4c) ∧ ∃ r5 : Int, w.cell? ⟨b, 5, none⟩ = some (.int .i64 r5) ∧ ∃ (r6 : Option Addr) (r6l r6c : Nat), w.cell? ⟨b, 6, none⟩ = some (.slice r6 r6l r6c) ∧ ∃ r7 : Bool, w.cell? ⟨b, 7, none⟩ = some (.bool r7) ∧
      Q r0 r0l r0c r1 r1l r1c r2 r2l r2c r3 r3l r3c r4 r4l r4c r5 r6 r6l r6c r7 :=
  ⟨_, _, _, S.cell n hn rfl, _, _, _, S.cell n hn rfl, _, _, _, S.cell n hn rfl, _, _, _, S.cell n hn rfl, _, _, _, S.cell n hn rfl, _, S.cell n hn rfl, _, _, _, S.cell n hn rfl, _, S.cell n hn rfl, hq⟩
theorem right_len {cs : List Col} (h : rightCols cs = true) : cs.length ≤ 16 := by
  unfold rightCols at h
  simp only [Bool.and_eq_true, decide_eq_true_eq] at h
  exact h.1.1.2
theorem make_err0 {cs : List Col} {q : Qu} {e : Int} (h : makeP cs q = .error e) : e ≠ 0 := by
  by_cases h1 : rightCols cs = true
  · by_cases h2 : rightQ q = true
    · rw [← run_make h1 h2] at h
      have : ∀ {l : List Prt}, runP cs q l = .error e → e ≠ 0 := by
        intro l
        induction l with
        | nil => intro h; cases h
        | cons p l ih =>
          intro h
          unfold runP at h
          split at h
          · rename_i hp; cases h; exact step_err hp
          · split at h
            · rename_i hr; cases h; exact ih hr
            · cases h
      exact this h
    · unfold makeP at h
      rw [if_neg (by simp [h1]), if_pos (by simpa using h2)] at h
      cases h; decide
  · unfold makeP at h
    rw [if_pos (by simpa using h1)] at h
    cases h; decide
theorem needed_len (cs : List Col) (q : Qu) : (neededL cs q).length ≤ cs.length := by
  have := List.length_filter_le (usedB cs q) (List.range cs.length)
  rwa [List.length_range] at this
theorem plan_is {cs : List Col} {q : Qu} (h : (planOf cs q).2 = 0) : ∃ out, makeP cs q = .ok out ∧ (planOf cs q) = (⟨cs, q, out, gathersQ q⟩, 0) := by
  cases hm : makeP cs q with
  | ok out => exact ⟨out, rfl, by rw [planOf, hm]⟩
  | error e =>
    rw [planOf, hm] at h
    exact absurd h (make_err0 hm)
section
variable {w : World} {cs : List Col} {a1 : Option Addr} {c1 : Nat} {q : Qu} {ai aw ag ao : Option Addr} {ci cw cg co : Nat}
end
theorem name_size {s : ByteArray} (h : isNameB s = true) : s.size ≤ 24 := by
  simp only [isNameB, Bool.and_eq_true, decide_eq_true_eq] at h
  exact h.2
theorem right_sizes {cs : List Col} (h : rightCols cs = true) : ∀ c ∈ cs, c.1.size ≤ 9223372036854775807 := fun c hc => Nat.le_trans (name_size (right_colOk h hc).1) (by decide)
theorem colsL_take {cs : List Col} {n : Nat} (h : n ≤ cs.length) : colsL (cs.take n) = (colsL cs).take (n * 3) := by
  conv => rhs; rw [← List.take_append_drop n cs, colsL_append]
  exact (List.take_left' (by rw [cols_len, List.length_take, Nat.min_eq_left h])).symm
theorem colsL_drop {cs : List Col} {n : Nat} (h : n ≤ cs.length) : colsL (cs.drop n) = (colsL cs).drop (n * 3) := by
  conv => rhs; rw [← List.take_append_drop n cs, colsL_append]
  exact (List.drop_left' (by rw [cols_len, List.length_take, Nat.min_eq_left h])).symm
section
variable {w : World} {cs : List Col} {a1 : Option Addr} {c1 : Nat} {q : Qu} {ai aw ag ao : Option Addr} {ci cw cg co : Nat}
theorem PlanLess_core (A : ArgsP w cs a1 q ai aw ag ao ci c1) (c : Int) : Calls Tryz.prog f.law12_PlanLess #[.slice a1 cs.length c1, .agg ⟨quL q ai aw ag ao ci cw cg co⟩, .int .i64 c] w (Ret fun v w' => v = .bool true ∧ Below w.heap.size w w') := by
  apply R.law12_PlanLess_calls
  unfold R.law12_PlanLess
  refine (ST.start w).newB fun b7 w1 _ _ S1 => S1.call (law12_shown_ok (A.E.grown S1.bel)) fun w2 _ S2 => ⟨_, rfl, ?_⟩
  have S2 : ST w w2 [quI b7 q ai aw ag ao ci cw cg co] := S2
  have A2 := A.grown S2.bel
  refine stQ S2 0 rfl ((plan_Make_ok A2.E A2.r A2.n A2.s A2.Q A2.c).mono ?_)
  rintro _ w3 ⟨_, rfl, a0, c0, bi, di, bw, dw, bg, dg, bo, d_o, a6, c6, rfl, P3, hc3, B3⟩
  have S3 := S2.grown B3
  refine ⟨_, _, _, _, _, _, _, _, _, _, _, _, _, _, _, _, _, _, _, _, _, rfl, (ST.start w3).newB fun b25 w4 _ B4 T4 => T4.sto8 0 rfl fun w12 T12 => ?_⟩
  have T12 : ST w3 w12 [plI b25 (planOf cs q).1 a0 c0 bi di bw dw bg dg bo d_o a6 c6] := T12
  have fin : ∀ {w'} {H : List It}, ST w3 w' H → Value.bool true = .bool true ∧ Below w.heap.size w w' := fun T => ⟨rfl, (S3.join T).bel⟩
  refine IFB_ne (fun _ => fin T12) (fun h0 => IFB_dec (fun _ => fin T12) (fun hc0 => IFB_dec (fun _ => fin T12) (fun hcl => IFB_dec (fun _ => fin T12) (fun hl2 => ?_))))
  obtain ⟨out, hm, hp⟩ := plan_is h0
  rw [hp] at T12 P3
  obtain ⟨h1, h2, _⟩ := makeP_ok hm
  obtain ⟨k, rfl⟩ : ∃ k : Nat, c = k := ⟨c.toNat, by omega⟩
  have hk : k < cs.length := by omega
  refine stP T12 0 rfl ((plan_Needs_ok (A.E.grown (S3.join T12).bel) (P3.grown T12.bel) (rightQ_small h2).1).mono ?_)
  rintro _ w13 ⟨_, rfl, an, cn, rfl, hn13, B13⟩
  have T13 := T12.grown B13
  have hnl := needed_len cs q
  have h16 := right_len h1
  refine ⟨_, _, _, rfl, forUp (neededL cs q).length (fun i w' => Rd w' an (((neededL cs q).map fun n : Nat => (n : Int)).map (Value.int .i64)) ∧ (∀ n ∈ (neededL cs q).take i, n ≠ k) ∧ ST w3 w' [plI b25 ⟨cs, q, out, gathersQ q⟩ a0 c0 bi di bw dw bg dg bo d_o a6 c6]) (by omega) ⟨hn13, by simp, T13⟩ fun I M i w14 hi h next => ?_⟩
  obtain ⟨hn14, hall, T14⟩ := h
  refine IFB_dec (fun hlt => ⟨⟨by omega, hlt⟩, ?_⟩) (fun hge => ?_)
  · have hil : i < (neededL cs q).length := by change (i : Int) < ((neededL cs q).length : Int) at hlt; omega
    obtain ⟨p, hpp, hcell⟩ := hn14 i (.int .i64 ((neededL cs q)[i] : Int)) (by simp [hil])
    subst hpp
    refine ⟨_, by rw [Int.toNat_natCast, Nat.mul_one]; exact hcell, IFB_eq (fun _ => fin T14) (fun hne => next _ hil ⟨hn14, fun n hn => ?_, T14⟩)⟩
    rw [List.take_succ_eq_append_getElem hil] at hn
    rcases List.mem_append.1 hn with hn | hn
    · exact hall n hn
    · rw [List.mem_singleton.1 hn]; omega
  rw [List.take_of_length_le (by change ¬ (i : Int) < ((neededL cs q).length : Int) at hge; omega)] at hall
  have hu : usedB cs q k = false := by
    cases hu : usedB cs q k with
    | false => rfl
    | true => exact absurd rfl (hall k (needed_mem.2 hu))
  have hcc := A.cc
  have ew : IntKind.i64.wrap ((k : Int) + 1) = ((k + 1 : Nat) : Int) := wrap_succ (by omega)
  obtain ⟨less, hless⟩ : ∃ less, less = cs.eraseIdx k := ⟨_, rfl⟩
  have hlesse : less = cs.take k ++ cs.drop (k + 1) := by rw [hless, List.eraseIdx_eq_take_drop_succ]
  refine T14.draw fun w15 _ T15 => ⟨⟨by omega, by omega, by omega⟩, ?_⟩
  rw [ew, Int.toNat_natCast, Int.toNat_natCast]
  refine ⟨⟨by omega, by omega, by omega⟩, T15.mk0 tCols (by omega) A.n fun bm w16 T16 => ⟨_, _, _, rfl, ?_⟩⟩
  have hr16 : Rd w16 a1 (colsL cs) := A.r.grown (S3.join T16).bel
  have hs1 := hr16.sla 0 k c1 3 (by omega)
  rw [Nat.zero_mul, List.drop_zero, Nat.sub_zero, ← colsL_take (by omega)] at hs1
  refine T16.app 0 rfl tCols rfl (by omega) (by omega) hs1 (mm := k - 0) (by rw [cols_len, List.length_take]; omega) (cols_one _) (by omega) fun a2 c2 w17 T17 => ⟨_, _, _, rfl, ?_⟩
  have hr17 : Rd w17 a1 (colsL cs) := A.r.grown (S3.join T17).bel
  have hs2 := hr17.sla (k + 1) cs.length c1 3 (by omega)
  rw [← colsL_drop (by omega), List.take_of_length_le (by rw [cols_len, List.length_drop]; omega)] at hs2
  refine T17.app 0 rfl tCols rfl (by omega) (by omega) hs2 (mm := cs.length - (k + 1)) (by rw [cols_len, List.length_drop]) (cols_one _) (by omega) fun a3 c3 w18 T18 => ⟨_, _, _, rfl, ?_⟩
  have hll : less.length = 0 + (k - 0) + (cs.length - (k + 1)) := by rw [hlesse, List.length_append, List.length_take, List.length_drop]; omega
  have T18 : ST w3 w18 [colsI a3 c3 less, plI b25 ⟨cs, q, out, gathersQ q⟩ a0 c0 bi di bw dw bg dg bo d_o a6 c6] := by
    have e : colsI a3 c3 less = It.row ty.api_Column 3 a3 (0 + (k - 0) + (cs.length - (k + 1))) c3 ([] ++ colsL (cs.take k) ++ colsL (cs.drop (k + 1))) := by
      unfold colsI
      rw [hll, hlesse, colsL_append, List.nil_append]
    rw [e]
    exact T18
  have S18 := S3.join T18
  have A18 := A.grown S18.bel
  rw [← hll]
  have hm2 : makeP less q = .ok out := by rw [hless, make_less hk (by omega) h1 hu, hm]
  have hp2 : planOf less q = (⟨less, q, out, gathersQ q⟩, 0) := by rw [planOf, hm2]
  refine stQ S18 2 rfl ((plan_Make_ok A18.E (T18.rd 0 rfl) (by omega) (right_sizes (by rw [hless]; exact right_less hk (by omega) h1)) A18.Q A18.c).mono ?_)
  rintro _ w19 ⟨_, rfl, a0', c0', bi', di', bw', dw', bg', dg', bo', do', a6', c6', rfl, P19, _, B19⟩
  rw [hp2] at P19 ⊢
  have T19 := T18.grown B19
  refine ⟨_, _, _, _, _, _, _, _, _, _, _, _, _, _, _, _, _, _, _, _, _, rfl, (ST.start w19).newB fun b62 w20 _ _ U20 => U20.sto8 0 rfl fun w28 U28 => ?_⟩
  have U28 : ST w19 w28 [plI b62 ⟨less, q, out, gathersQ q⟩ a0' c0' bi' di' bw' dw' bg' dg' bo' do' a6' c6'] := U28
  have T28 := T19.join U28
  have P28 := P3.grown T28.bel
  refine IFB_true (IFB_eq (fun _ => ⟨_, _, _, T28.cell 2 rfl rfl, _, _, _, T28.cell 0 rfl rfl, U28.call (ref05_Same_ok P28.out (P19.grown U28.bel).out P28.nout) fun w29 _ U29 => ⟨_, rfl, IFB_true ?_⟩⟩) (fun h => absurd rfl h))
  have T29 := T19.join U29
  refine ⟨_, T29.cell 2 rfl rfl, _, T29.cell 0 rfl rfl, IFB_yes (beq_self_eq_true _) (stP T29 0 rfl ((plan_Needs_ok (A.E.grown (S3.join T29).bel) (P19.grown U29.bel) (rightQ_small h2).1).mono ?_))⟩
  rintro _ w30 ⟨_, rfl, am, cm, rfl, _, B30⟩
  refine ⟨_, _, _, rfl, ?_, (S3.join (T29.grown B30)).bel⟩
  congr 1
  rw [beq_iff_eq]
  show ((neededL less q).length : Int) = ((neededL cs q).length : Int)
  rw [hless, needs_less hk hu]
end
section
variable {w : World} {cs : List Col} {a1 : Option Addr} {c1 : Nat} {q : Qu} {ai aw ag ao : Option Addr} {ci cw cg co : Nat}
end
def colQ (c : Col) : Prop := c.1.size ≤ maxLen
theorem fld_col : fieldsT Tryz.prog ty.api_Column = some [(ty.string, 0), (ty.int, 1), (ty.bool, 2)] := by kernel_rfl
theorem cells_colP : Tryz.prog.cellsOf ty.api_Column = 3 := by kernel_rfl
theorem good_api_Column {w : World} : ∀ m r, r.length = Tryz.prog.cellsOf ty.api_Column → Go.Dn.Good Tryz.prog w m ty.api_Column r → ∃ x, r = colC x ∧ colQ x := by
  intro m r hl h
  obtain ⟨_, n, hf⟩ := h.fields fld_col
  rw [cells_colP] at hl
  match r, hl with
  | [v0, v1, v2], _ =>
    simp only [List.mem_cons, List.not_mem_nil, or_false, forall_eq_or_imp, forall_eq, cells_intP, cells_boolP, cells_strP] at hf
    obtain ⟨h0, h1, h2⟩ := hf
    obtain ⟨x0, e0, q0⟩ := h0.str und_strP
    obtain ⟨x1, e1, q1⟩ := h1.int und_intP
    obtain ⟨x2, e2⟩ := h2.bool und_boolP
    refine ⟨(x0, x1, x2), ?_, q0⟩
    simp only [List.drop_zero, List.take_succ_cons, List.take_zero, List.drop_succ_cons, List.cons.injEq, and_true] at e0 e1 e2
    rw [e0, e1, e2]
    rfl
theorem open_qu {H : Type} {enc : TypeId × Value → H} {W : World} {base b : Nat} {sp : Nat → Bool} {held : Bool} {v : Value} {d : DataW H} {p : List MemPlace} (hv : Value.okWide Tryz.prog W .any base ty.api_Query v) (h : DataW.Trod enc Tryz.prog W b sp held ty.api_Query v d p) :
    ∃ x : List Value, v = .agg ⟨x⟩ ∧ ∃ q, QuC (fun _ => False) W q x := by
  obtain ⟨cs, rfl⟩ := okWide_agg fld_qu hv
  obtain ⟨n, hn⟩ := h
  obtain ⟨q, hq⟩ := good_qu (good_of_trod n _ _ _ hn)
  exact ⟨cs.toList, rfl, q, hq⟩
theorem args_of {w : World} (E : Env w) {a : Option Addr} {cs : List Col} {c : Nat} (g : GL w colC colQ a cs c) {x : List Value} (hx : ∃ q, QuC (fun _ => False) w q x) :
    ∃ q ai aw ag ao ci cw cg co, x = quL q ai aw ag ao ci cw cg co ∧ ArgsP w cs a q ai aw ag ao ci c := by
  obtain ⟨q, hq⟩ := hx
  obtain ⟨ai, aw, ag, ao, ci, cw, cg, co, rfl, Q, hci, _⟩ := hq.at
  exact ⟨q, ai, aw, ag, ao, ci, cw, cg, co, rfl, E, g.2.2.2.1, Nat.le_trans (Nat.le_trans g.1 g.2.1) (by decide), fun v hv => Nat.le_trans (g.2.2.2.2 v hv) (by decide), Q, hci, g.1⟩
theorem PlanLess_ok {w : World} (E : Env w) (a : Option Addr) (cs : List Col) (c : Nat) (g : GL w colC colQ a cs c) (_y : c * Tryz.prog.bytesOf ty.api_Column ≤ reachBytes) (x : List Value) (hx : ∃ q, QuC (fun _ => False) w q x) (k : Int) (_w : (Lit.int .i64 k).wf = true) :
    Calls Tryz.prog f.law12_PlanLess #[.slice a cs.length c, .agg ⟨x⟩, .int .i64 k] w (Ret fun r w' => r = .bool true ∧ Below w.heap.size w w') := by
  obtain ⟨q, ai, aw, ag, ao, ci, cw, cg, co, rfl, A⟩ := args_of E g hx
  exact PlanLess_core A k
end Go.Proofs.YtbpdfpfgijhokaaGreatDoor
