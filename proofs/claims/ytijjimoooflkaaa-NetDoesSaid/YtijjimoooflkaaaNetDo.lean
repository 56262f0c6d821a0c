/-
  The network's methods that look, take, copy, turn, send and cut.
-/
import Derived.Test.YtijjimoooflkaaaNet
namespace Go.Proofs.Ytijjimoooflkaaa
open Go.Dn Go.Proofs
open Go.RowKit (Below)
set_option linter.unusedVariables false

def zMsg : Value := .agg #[.int .i64 0, .int .i64 0, .string ⟨#[]⟩]
theorem tMsg : slT Try.prog ty.L_api_Msg = some (ty.api_Msg, 3, 32, zMsg) := by kernel_rfl
theorem zMsg_size : zMsg.cells.size = 3 := rfl
theorem zMsg_one : ∀ v ∈ zMsg.cells.toList, v.oneCell' = true := by
  intro v hv
  simp [zMsg, Value.cells] at hv
  rcases hv with rfl | rfl <;> rfl

/-! ### Look -/
theorem lookM_none {l : List Msg} {i : Int} (h : i < 0 ∨ (l.length : Int) ≤ i) : lookM l i = none := by
  unfold lookM
  rcases h with h | h
  · rw [if_pos h]
  · by_cases h0 : i < 0
    · rw [if_pos h0]
    · rw [if_neg h0]; exact List.getElem?_eq_none (by omega)
theorem lookM_some {l : List Msg} {i : Nat} (h : i < l.length) : lookM l (i : Int) = some l[i] := by
  unfold lookM
  rw [if_neg (by omega), Int.toNat_natCast, List.getElem?_eq_getElem h]

theorem row_msg {w : World} {a : Option Addr} {c : Nat} {l : List Msg} (hr : Row w ty.api_Msg 3 a l.length c (cellsM l)) {i : Nat} (h : i < l.length) :
    ∃ g, a = some ⟨g, 0, none⟩ ∧ w.cell? ((⟨g, 0, none⟩ : Addr).add (i * 3)) = some (.int .i64 l[i].1) ∧ w.cell? (((⟨g, 0, none⟩ : Addr).add (i * 3)).add 1) = some (.int .i64 l[i].2.1) ∧
      w.cell? (((⟨g, 0, none⟩ : Addr).add (i * 3)).add 2) = some (.string l[i].2.2) := by
  obtain ⟨g, hg⟩ : ∃ g, a = some ⟨g, 0, none⟩ := by
    rcases hr.2 with ⟨_, h0, _⟩ | ⟨g, cur, rfl, _⟩
    · omega
    · exact ⟨g, rfl⟩
  subst hg
  have key : ∀ j (hj : j < 3) v, (msgC l[i])[j]? = some v → w.cell? (((⟨g, 0, none⟩ : Addr).add (i * 3)).add j) = some v := by
    intro j hj v hv
    rw [← cellsM_get l i h j hj] at hv
    obtain ⟨p, hp, hc⟩ := hr.rd _ _ hv
    cases hp
    rw [addr_add_add]
    exact hc
  refine ⟨g, rfl, ?_, key 1 (by omega) _ rfl, key 2 (by omega) _ rfl⟩
  have := key 0 (by omega) _ rfl
  rwa [addr_add_zero] at this

theorem net_queue_Look_ok {w : World} {b : Nat} {S : NetS} {a : Option Addr} {c : Nat} (h : NetAt w b S a c) (i : Int) :
    Calls Try.prog f.net_queue_Look #[.pointer (some ⟨b, 0, none⟩), .int .i64 i] w (Ret fun v w' => v = lookV (lookM S.l i) ∧ Below w.heap.size w w') := by
  apply R.net_queue_Look_calls
  unfold R.net_queue_Look
  refine (SH.start (fun _ => False) w).new fun b3 w1 hb3 S1 => ?_
  have h1 := h.keeps S1.keeps (by simp) (by simp)
  have none_case : lookM S.l i = none → ∀ w2, SH (fun _ => False) w w2 [(b3, #[.int .i64 0, .int .i64 0, .string ⟨#[]⟩], 37)] →
      (Value.tuple #[.agg #[.int .i64 0, .int .i64 0, .string ⟨#[]⟩], .bool false] = lookV (lookM S.l i) ∧ Below w.heap.size w w2) := by
    intro hn w2 S2
    rw [hn]
    exact ⟨rfl, S2.below⟩
  refine IFB_dec (fun hi => ?_) (fun hi => ?_)
  · refine S1.sto3 0 rfl fun w4 S4 => ⟨_, S4.cell 0 rfl rfl, _, S4.cell 0 rfl rfl, _, S4.cell 0 rfl rfl, ?_⟩
    exact none_case (lookM_none (.inl hi)) w4 S4
  · refine (net_queue_Many_ok h1).mono ?_
    rintro _ _ ⟨_, rfl, rfl, rfl⟩
    refine ⟨_, rfl, IFB_dec (fun hge => ?_) (fun hlt => ?_)⟩
    · refine S1.sto3 0 rfl fun w4 S4 => ⟨_, S4.cell 0 rfl rfl, _, S4.cell 0 rfl rfl, _, S4.cell 0 rfl rfl, ?_⟩
      exact none_case (lookM_none (.inr (by omega))) w4 S4
    · refine ⟨_, _, _, h1.l0, ⟨by omega, by omega⟩, ?_⟩
      obtain ⟨k, rfl⟩ : ∃ k : Nat, i = k := ⟨i.toNat, by omega⟩
      have hk : k < S.l.length := by omega
      obtain ⟨g, rfl, c0, c1, c2⟩ := row_msg h1.row hk
      refine ⟨_, c0, _, c1, _, c2, ?_⟩
      refine S1.sto3 0 rfl fun w4 S4 => ⟨_, S4.cell 0 rfl rfl, _, S4.cell 0 rfl rfl, _, S4.cell 0 rfl rfl, ?_⟩
      rw [lookM_some hk]
      exact ⟨rfl, S4.below⟩

/-- how a caller opens what Look and its like hand back -/
theorem lookV_open (o : Option Msg) : lookV o = .tuple #[.agg #[.int .i64 (o.getD noMsg).1, .int .i64 (o.getD noMsg).2.1, .string (o.getD noMsg).2.2], .bool o.isSome] := rfl

theorem net_Net_Look_ok {w : World} {b : Nat} {S : NetS} {a : Option Addr} {c : Nat} (h : NetAt w b S a c) (i : Int) :
    Calls Try.prog f.net_Net_Look #[.pointer (some ⟨b, 0, none⟩), .int .i64 i] w (Ret fun v w' => v = lookV (lookM S.l i) ∧ Below w.heap.size w w') := by
  apply R.net_Net_Look_calls
  unfold R.net_Net_Look
  refine (SH.start (fun _ => False) w).new fun b3 w1 hb3 S1 => ?_
  refine (net_Net_in_ok w1 b).mono ?_
  rintro _ _ ⟨_, rfl, rfl, rfl⟩
  refine ⟨_, rfl, (net_queue_Look_ok (h.keeps S1.keeps (by simp) (by simp)) i).mono ?_⟩
  rintro _ w3 ⟨_, rfl, rfl, hb⟩
  refine ⟨_, _, _, _, rfl, ?_⟩
  exact (S1.grown hb).sto3 0 rfl fun w4 S4 => ⟨_, S4.cell 0 rfl rfl, _, S4.cell 0 rfl rfl, _, S4.cell 0 rfl rfl, rfl, S4.below⟩

/-! ### Delete -/
theorem slices_Delete_ok {w : World} {a : Option Addr} {c : Nat} {l : List Msg} (hr : Row w ty.api_Msg 3 a l.length c (cellsM l)) {i : Nat} (hi : i < l.length) (hl : l.length ≤ 2000) :
    Calls Try.prog f.slices_Delete_api_Msg_api_Msg #[.slice a l.length c, .int .i64 (i : Int), .int .i64 (IntKind.i64.wrap ((i : Int) + 1))] w
      (Ret fun v w' => v = .slice a (l.eraseIdx i).length c ∧ Row w' ty.api_Msg 3 a (l.eraseIdx i).length c (cellsM (l.eraseIdx i)) ∧ Keeps (fun k => rowB a = some k) w w') := by
  rw [wrap_succ (by omega)]
  apply R.slices_Delete_api_Msg_api_Msg_calls
  unfold R.slices_Delete_api_Msg_api_Msg
  have hle := hr.le
  have hel : (l.eraseIdx i).length = l.length - 1 := List.length_eraseIdx_of_lt hi
  refine ⟨⟨by omega, by omega, by omega, by omega⟩, ?_⟩
  refine IFB_of (fun he => ?_) (fun _ => ?_)
  · exfalso
    simp at he
    omega
  have hr1 : Row w.drew ty.api_Msg 3 a l.length c (cellsM l) := hr.grown ((Below.refl _ w).drew)
  show _ ∧ _
  refine ⟨⟨by omega, by omega, by omega⟩, ⟨by omega, by omega, by omega⟩, ?_⟩
  have hs0 : SLA a 0 c 3 = a := by
    unfold SLA
    split
    · rfl
    · cases a <;> simp [addr_add_zero]
  rw [hs0]
  simp only [Int.toNat_natCast, Nat.sub_zero]
  have hsrc := (hr1.rd).sla (i + 1) l.length c 3 hle
  rw [List.take_of_length_le (by rw [List.length_drop, cellsM_len]; omega)] at hsrc
  have hnews : ((cellsM l).drop ((i + 1) * 3)).length = (l.length - (i + 1)) * 3 := by rw [List.length_drop, cellsM_len]; omega
  obtain ⟨w2, hrun, hrow, hk⟩ := append_fits (ty := ty.L_api_Msg) (mc := c - (i + 1)) tMsg (by omega) (hr1.front (i := i) (by omega)) hsrc hnews (fun u hu => cellsM_one l u (List.mem_of_mem_drop hu)) (by omega)
  unfold OPR
  rw [hrun]
  refine ⟨a, i + (l.length - (i + 1)), c, rfl, ⟨by omega, by omega, by omega⟩, ?_⟩
  obtain ⟨w3, hrun3, hrow3, hk3⟩ := clear_behind tMsg zMsg_size zMsg_one hrow (h := l.length) (by omega) hle
  simp only [hrun3]
  refine ⟨trivial, ?_, ?_, ?_⟩
  · rw [hel]; congr 1; omega
  · have hcells : (cellsM l).take (i * 3) ++ (cellsM l).drop ((i + 1) * 3) = cellsM (l.eraseIdx i) := by
      rw [cellsM_take, cellsM_drop, ← cellsM_append, List.eraseIdx_eq_take_drop_succ]
    rw [hcells] at hrow3
    rw [hel]
    have : i + (l.length - (i + 1)) = l.length - 1 := by omega
    rw [this] at hrow3
    exact hrow3
  · exact ((Keeps.refl _ w).drew.trans hk (fun _ _ h => h)).trans hk3 (fun _ _ h => h)

/-! ### Take -/
theorem NetAt.sh {w : World} {b : Nat} {S : NetS} {a : Option Addr} {c : Nat} (h : NetAt w b S a c) : SH (fun k => k = b ∨ rowB a = some k) w w [(b, netCells a c S, ty.net_Net)] where
  keeps := .refl _ _
  mem := by intro x hx; simp only [List.mem_singleton] at hx; subst hx; exact h.blk
  nodup := by simp
  own := by intro x hx; simp only [List.mem_singleton] at hx; subst hx; exact .inl (.inl rfl)
theorem netCells_l (a a' : Option Addr) (c c' : Nat) (S : NetS) (l : List Msg) : (netCells a c S).setIfInBounds 0 (.slice a' l.length c') = netCells a' c' { S with l := l } := by
  simp [netCells]
theorem netCells_lost (a : Option Addr) (c : Nat) (S : NetS) (x : Int) : (netCells a c S).setIfInBounds 1 (.int .i64 x) = netCells a c { S with lost := x } := by
  simp [netCells]
theorem netCells_size (a : Option Addr) (c : Nat) (S : NetS) : (netCells a c S).size = S.cuts.length + 3 := by simp [netCells]
theorem netCells_cut (a : Option Addr) (c : Nat) (S : NetS) (i : Nat) (x : Bool) : (netCells a c S).setIfInBounds (3 + i) (.bool x) = netCells a c { S with cuts := S.cuts.set i x } := by
  simp only [netCells]
  rw [show 3 + i = i + 1 + 1 + 1 by omega]
  simp

theorem takeL_some {l : List Msg} (i : Nat) : takeL l (i : Int) = l.eraseIdx i := by
  unfold takeL
  rw [if_neg (by omega), Int.toNat_natCast]
theorem takeL_none {l : List Msg} {i : Int} (h : lookM l i = none) : takeL l i = l := by
  unfold takeL lookM at *
  split
  · rfl
  · rename_i h0
    rw [if_neg h0] at h
    exact List.eraseIdx_of_length_le (by simpa using h)

theorem net_queue_Take_ok {w : World} {b : Nat} {S : NetS} {a : Option Addr} {c : Nat} (h : NetAt w b S a c) (i : Int) :
    Calls Try.prog f.net_queue_Take #[.pointer (some ⟨b, 0, none⟩), .int .i64 i] w (Ret fun v w' => v = lookV (lookM S.l i) ∧ NetAt w' b { S with l := takeL S.l i } a c ∧ Turn b a a w w') := by
  apply R.net_queue_Take_calls
  unfold R.net_queue_Take
  refine h.sh.newB fun b3 w1 hb3 B1 S1 => ?_
  have h1 : NetAt w1 b S a c := h.grown B1
  refine (net_queue_Look_ok h1 i).mono ?_
  rintro _ w2 ⟨_, rfl, rfl, B2⟩
  refine ⟨_, _, _, _, rfl, ?_⟩
  have h2 := h1.grown B2
  refine (S1.grown B2).newB fun b9 w3 hb9 B3 S3 => ?_
  have h3 := h2.grown B3
  have hrow9 : ∀ k, rowB a = some k → k ≠ b9 := fun k hk he => by have := h2.row.lt hk; omega
  have hrow3 : ∀ k, rowB a = some k → k ≠ b3 := fun k hk he => by have := h.row.lt hk; omega
  refine S3.sto3K 0 rfl fun w4 K4 S4 => ?_
  have h4 : NetAt w4 b S a c := ⟨S4.get 2 rfl, h3.row.keeps K4 hrow9, h.ne, h.cuts, h.small, h.few⟩
  cases ho : lookM S.l i with
  | none =>
    refine IFB_false ⟨_, S4.cell 0 rfl rfl, _, S4.cell 0 rfl rfl, _, S4.cell 0 rfl rfl, ?_⟩
    refine S4.sto3K 1 rfl fun w5 K5 S5 => ⟨_, S5.cell 1 rfl rfl, _, S5.cell 1 rfl rfl, _, S5.cell 1 rfl rfl, by rw [ho]; rfl, ?_, S5.keeps, fun k hk => .inl hk⟩
    rw [takeL_none ho]
    exact ⟨S5.get 2 rfl, h4.row.keeps K5 hrow3, h.ne, h.cuts, h.small, h.few⟩
  | some m =>
    have hi0 : ¬ i < 0 := by intro hlt; rw [lookM_none (.inl hlt)] at ho; cases ho
    obtain ⟨n, rfl⟩ : ∃ n : Nat, i = n := ⟨i.toNat, by omega⟩
    have hn : n < S.l.length := by
      rcases Nat.lt_or_ge n S.l.length with hh | hh
      · exact hh
      · rw [lookM_none (.inr (by omega))] at ho; cases ho
    refine IFB_true ⟨_, _, _, h4.l0, ?_⟩
    refine (slices_Delete_ok h4.row hn h.few).mono ?_
    rintro _ w5 ⟨_, rfl, rfl, R5, K5⟩
    refine ⟨_, _, _, rfl, ?_⟩
    have S5 := S4.kept K5 (by
      intro x hx
      simp only [List.set_cons_zero, List.mem_cons, List.not_mem_nil, or_false] at hx
      rcases hx with rfl | rfl | rfl
      · exact fun hk => hrow9 _ hk rfl
      · exact fun hk => hrow3 _ hk rfl
      · exact h.ne) (fun k _ hk => .inr hk)
    refine S5.stoK 2 rfl (by rw [netCells_size]; omega) fun w6 K6 S6 => ?_
    rw [netCells_l] at S6
    refine ⟨_, S6.cell 0 rfl rfl, _, S6.cell 0 rfl rfl, _, S6.cell 0 rfl rfl, ?_⟩
    refine S6.sto3K 1 rfl fun w7 K7 S7 => ⟨_, S7.cell 1 rfl rfl, _, S7.cell 1 rfl rfl, _, S7.cell 1 rfl rfl, by rw [ho]; rfl, ?_, S7.keeps, fun k hk => .inl hk⟩
    rw [takeL_some]
    refine ⟨S7.get 2 rfl, (R5.keeps K6 ?_).keeps K7 hrow3, h.ne, h.cuts, h.small, ?_⟩
    · intro k hk he
      subst he
      exact h.ne hk
    · have := h.few
      rw [List.length_eraseIdx]
      split <;> omega

theorem net_Net_Take_ok {w : World} {b : Nat} {S : NetS} {a : Option Addr} {c : Nat} (h : NetAt w b S a c) (i : Int) :
    Calls Try.prog f.net_Net_Take #[.pointer (some ⟨b, 0, none⟩), .int .i64 i] w (Ret fun v w' => v = lookV (lookM S.l i) ∧ NetAt w' b { S with l := takeL S.l i } a c ∧ Turn b a a w w') := by
  apply R.net_Net_Take_calls
  unfold R.net_Net_Take
  refine (SH.start (fun k => k = b ∨ rowB a = some k) w).newB fun b3 w1 hb3 B1 S1 => ?_
  refine (net_Net_in_ok w1 b).mono ?_
  rintro _ _ ⟨_, rfl, rfl, rfl⟩
  refine ⟨_, rfl, (net_queue_Take_ok (h.grown B1) i).mono ?_⟩
  rintro _ w3 ⟨_, rfl, rfl, h3, T3⟩
  refine ⟨_, _, _, _, rfl, ?_⟩
  have hb : b < w.heap.size := h.lt
  have hr3 : ∀ k, rowB a = some k → k ≠ b3 := fun k hk he => by have := h.row.lt hk; omega
  have S3 := S1.kept T3.keeps (by
    intro x hx
    simp only [List.mem_singleton] at hx
    subst hx
    rintro (he | hk)
    · simp only at he; omega
    · exact hr3 _ hk rfl) (fun k _ hk => hk)
  refine S3.sto3K 0 rfl fun w4 K4 S4 => ⟨_, S4.cell 0 rfl rfl, _, S4.cell 0 rfl rfl, _, S4.cell 0 rfl rfl, rfl, ?_, S4.keeps, fun k hk => .inl hk⟩
  exact h3.keeps K4 (by omega) hr3

/-! ### Append one message -/
theorem append_msg {w : World} {a : Option Addr} {c : Nat} {l : List Msg} (hr : Row w ty.api_Msg 3 a l.length c (cellsM l)) (hl : l.length ≤ 2000) {m : Msg} {b : Nat} {t : TypeId}
    (hb : w.heap[b]? = some (.cells #[.int .i64 m.1, .int .i64 m.2.1, .string m.2.2] t (0, 0))) {f : Value → World → Prop}
    (hf : ∀ a' c' w', Row w' ty.api_Msg 3 a' (l ++ [m]).length c' (cellsM (l ++ [m])) → Keeps (fun k => rowB a = some k) w w' → (∀ k, rowB a' = some k → rowB a = some k ∨ w.heap.size ≤ k) → f (.slice a' (l ++ [m]).length c') w') :
    OPR Try.prog (Builtin.append_ #[ty.L_api_Msg, ty.L_api_Msg] ty.L_api_Msg #[.slice a l.length c, .slice (some ⟨b, 0, none⟩) 1 1]) f w := by
  have hsrc : Rd w (some ⟨b, 0, none⟩) (cellsM [m]) := by
    have := Rd.of_block0 hb
    simpa [cellsM, msgC] using this
  obtain ⟨a', c', w', hrun, hrow, hk, hnew⟩ := append_row (ty := ty.L_api_Msg) (mc := 1) tMsg zMsg_size (by omega) (by omega) hr hsrc (m := 1) (by rw [cellsM_len]; rfl) (cellsM_one _) (by omega)
  unfold OPR
  rw [hrun]
  have hlen : (l ++ [m]).length = l.length + 1 := by simp
  rw [← cellsM_append, ← hlen] at hrow
  rw [← hlen]
  exact hf a' c' w' hrow hk hnew

/-! ### Copy -/
theorem net_queue_Copy_ok {w : World} {b : Nat} {S : NetS} {a : Option Addr} {c : Nat} (h : NetAt w b S a c) (i : Int) :
    Calls Try.prog f.net_queue_Copy #[.pointer (some ⟨b, 0, none⟩), .int .i64 i] w (Ret fun v w' => v = .bool (copyB S.l i) ∧ ∃ a' c', NetAt w' b { S with l := copyL S.l i } a' c' ∧ Turn b a a' w w') := by
  apply R.net_queue_Copy_calls
  unfold R.net_queue_Copy
  refine (net_queue_Look_ok h i).mono ?_
  rintro _ w1 ⟨_, rfl, rfl, B1⟩
  refine ⟨_, _, _, _, rfl, ?_⟩
  have h1 := h.grown B1
  refine (h.sh.grown B1).newB fun b8 w2 hb8 B2 S2 => ?_
  have hrow8 : ∀ k, rowB a = some k → k ≠ b8 := fun k hk he => by have := h1.row.lt hk; omega
  refine S2.sto3K 0 rfl fun w5 K5 S5 => ?_
  have h5 : NetAt w5 b S a c := ⟨S5.get 1 rfl, (h1.grown B2).row.keeps K5 hrow8, h.ne, h.cuts, h.small, h.few⟩
  cases ho : lookM S.l i with
  | none =>
    refine IFB_true ⟨by simp [copyB, ho], a, c, ?_, S5.keeps, fun k hk => .inl hk⟩
    simp only [copyL, ho]
    exact h5
  | some m =>
    refine IFB_false ((net_queue_Many_ok h5).mono ?_)
    rintro _ _ ⟨_, rfl, rfl, rfl⟩
    refine ⟨_, rfl, IFB_dec (fun hge => ?_) (fun hlt => ?_)⟩
    · have hn : ¬ S.l.length < 2000 := by omega
      refine ⟨by simp [copyB, hn], a, c, ?_, S5.keeps, fun k hk => .inl hk⟩
      simp only [copyL, ho, hn, if_false]
      exact h5
    · have hn : S.l.length < 2000 := by omega
      refine S5.drawB fun w6 B6 S6 => ⟨_, _, _, (h5.grown B6).l0, _, S6.cell 0 rfl rfl, _, S6.cell 0 rfl rfl, _, S6.cell 0 rfl rfl, ?_⟩
      refine S6.newB fun b15 w7 hb15 B7 S7 => ⟨((h5.grown B6).grown B7).l0, ?_⟩
      have h7 := (h5.grown B6).grown B7
      simp only [ho, Option.getD_some] at S7 ⊢
      refine append_msg (m := m) h7.row h.few (S7.get 0 rfl) fun a' c' w8 R8 K8 N8 => ?_
      refine ⟨_, _, _, rfl, ?_⟩
      have hrow15 : ∀ k, rowB a = some k → k ≠ b15 := fun k hk he => by have := (h5.grown B6).row.lt hk; omega
      have S8 := S7.kept K8 (by
        intro x hx
        simp only [List.set_cons_zero, List.mem_cons, List.not_mem_nil, or_false] at hx
        rcases hx with rfl | rfl | rfl
        · exact fun hk => hrow15 _ hk rfl
        · exact fun hk => hrow8 _ hk rfl
        · exact h.ne) (fun k _ hk => .inr hk)
      refine S8.stoK 2 rfl (by rw [netCells_size]; omega) fun w9 K9 S9 => ?_
      rw [netCells_l] at S9
      have hb7 : b < w7.heap.size := h7.lt
      have hne' : rowB a' ≠ some b := by
        intro hk
        rcases N8 b hk with hk' | hk'
        · exact h.ne hk'
        · omega
      refine ⟨by simp [copyB, ho, hn], a', c', ?_, S9.keeps, fun k hk => ?_⟩
      · simp only [copyL, ho, hn, if_true]
        refine ⟨S9.get 2 rfl, R8.keeps K9 (fun k hk he => by subst he; exact hne' hk), hne', h.cuts, h.small, by simp; omega⟩
      · rcases N8 k hk with hk' | hk'
        · exact .inl hk'
        · refine .inr (Nat.le_trans ?_ hk')
          exact S7.keeps.size
theorem net_Net_Copy_ok {w : World} {b : Nat} {S : NetS} {a : Option Addr} {c : Nat} (h : NetAt w b S a c) (i : Int) :
    Calls Try.prog f.net_Net_Copy #[.pointer (some ⟨b, 0, none⟩), .int .i64 i] w (Ret fun v w' => v = .bool (copyB S.l i) ∧ ∃ a' c', NetAt w' b { S with l := copyL S.l i } a' c' ∧ Turn b a a' w w') := by
  apply R.net_Net_Copy_calls
  refine (net_Net_in_ok w b).mono ?_
  rintro _ _ ⟨_, rfl, rfl, rfl⟩
  refine ⟨_, rfl, (net_queue_Copy_ok h i).mono ?_⟩
  rintro _ w3 ⟨_, rfl, rfl, r⟩
  exact ⟨_, rfl, rfl, r⟩

/-! ### Turn -/
/-- one byte is stored into the bytes of a text -/
theorem sto_byte {w : World} {b : Nat} {cs : Array Value} {e : TypeId} {l : List UInt8} (hh : w.heap[b]? = some (.cells cs e (cs.size, cs.size + 1))) (hsc : l.length ≤ cs.size) (htk : cs.toList.take l.length = l.map byteV)
    {j : Nat} (hj : j < l.length) {x : UInt8} {k : World → Prop} (hk : ∀ w', Keeps (· = b) w w' → Rd w' (some ⟨b, 0, none⟩) ((l.set j x).map byteV) → k w') : STO ((⟨b, 0, none⟩ : Addr).add (j * 1)) (.int .u8 (x.toNat : Int)) k w := by
  rw [addr_add_blk, Nat.mul_one, Nat.zero_add]
  have hjc : j < cs.size := by omega
  refine ⟨?_, ?_, hk _ (keeps_setCell w b j _) ?_⟩
  · simp [World.cell?, hh, hjc]
  · have : ¬ cs.size ≤ j := by omega
    simp [World.frozen?, hh, this]
  · have h2 := heap_setCell_at (i := j) hh (.int .u8 (x.toNat : Int))
    have h3 := (Rd.of_block0 h2).take l.length
    rw [Array.toList_setIfInBounds, List.take_set, htk] at h3
    rw [List.map_set]
    exact h3

theorem turnL_none {l : List Msg} {i at_ : Int} {c : UInt8} (h : turnB l i at_ = false) : turnL l i at_ c = l := by
  unfold turnB turnL at *
  split
  · rename_i m hm
    rw [hm] at h
    simp only [decide_eq_false_iff_not] at h
    rw [if_neg h]
  · rfl

theorem net_queue_Turn_ok {w : World} {b : Nat} {S : NetS} {a : Option Addr} {c : Nat} (h : NetAt w b S a c) (i at_ : Int) (x : UInt8) :
    Calls Try.prog f.net_queue_Turn #[.pointer (some ⟨b, 0, none⟩), .int .i64 i, .int .i64 at_, .int .u8 (x.toNat : Int)] w (Ret fun v w' => v = .bool (turnB S.l i at_) ∧ NetAt w' b { S with l := turnL S.l i at_ x } a c ∧ Turn b a a w w') := by
  apply R.net_queue_Turn_calls
  unfold R.net_queue_Turn
  refine (net_queue_Look_ok h i).mono ?_
  rintro _ w1 ⟨_, rfl, rfl, B1⟩
  refine ⟨_, _, _, _, rfl, ?_⟩
  have h1 := h.grown B1
  refine (h.sh.grown B1).newB fun b8 w2 hb8 B2 S2 => ?_
  have hrow8 : ∀ k, rowB a = some k → k ≠ b8 := fun k hk he => by have := h1.row.lt hk; omega
  refine S2.sto3K 0 rfl fun w5 K5 S5 => ?_
  have h5 : NetAt w5 b S a c := ⟨S5.get 1 rfl, (h1.grown B2).row.keeps K5 hrow8, h.ne, h.cuts, h.small, h.few⟩
  have no : turnB S.l i at_ = false → (Value.bool false = .bool (turnB S.l i at_) ∧ NetAt w5 b { S with l := turnL S.l i at_ x } a c ∧ Turn b a a w w5) := by
    intro hn
    rw [hn, turnL_none hn]
    exact ⟨rfl, h5, S5.keeps, fun k hk => .inl hk⟩
  cases ho : lookM S.l i with
  | none => exact IFB_true (no (by simp [turnB, ho]))
  | some m =>
    simp only [ho, Option.getD_some, List.set_cons_zero] at S5
    refine IFB_false (IFB_dec (fun h0 => no (by simp [turnB, ho]; omega)) (fun h0 => ⟨_, S5.cell 0 rfl rfl, IFB_dec (fun hge => no (by simp [turnB, ho]; omega)) (fun hlt => ⟨_, S5.cell 0 rfl rfl, ?_⟩)⟩))
    have hi0 : ¬ i < 0 := by intro hlt; rw [lookM_none (.inl hlt)] at ho; cases ho
    obtain ⟨n, rfl⟩ : ∃ n : Nat, i = n := ⟨i.toNat, by omega⟩
    have hn : n < S.l.length := by
      rcases Nat.lt_or_ge n S.l.length with hh | hh
      · exact hh
      · rw [lookM_none (.inr (by omega))] at ho; cases ho
    have hm : S.l[n] = m := by rw [lookM_some hn] at ho; simpa using ho
    obtain ⟨j, rfl⟩ : ∃ j : Nat, at_ = j := ⟨at_.toNat, by omega⟩
    have hlen := bl_length m.2.2
    refine bytes_of_string tbytes m.2.2 w5 fun bb cc cs e w6 hbb B6 hh hcc hsc htk => ?_
    refine ⟨_, _, _, rfl, ⟨by omega, by omega⟩, ?_⟩
    rw [Int.toNat_natCast]
    have h6 := h5.grown B6
    refine sto_byte (l := bl m.2.2) hh (by omega) (by rw [hlen]; exact htk) (j := j) (by omega) fun w7 K7 hrd => ?_
    have hrowbb : ∀ k, rowB a = some k → k ≠ bb := fun k hk he => by have := h5.row.lt hk; omega
    have hbbb : b ≠ bb := by have := h5.lt; omega
    have h7 := h6.keeps K7 hbbb hrowbb
    have S7 := (S5.grown B6).kept K7 (by
      intro y hy
      simp only [List.mem_cons, List.not_mem_nil, or_false] at hy
      rcases hy with rfl | rfl
      · have := S5.lt List.mem_cons_self; simp only at this ⊢; omega
      · exact hbbb) (fun k hk he => by subst he; exfalso; have := S5.keeps.size; omega)
    refine S7.drawB fun w8 B8 S8 => ⟨_, _, _, (h7.grown B8).l0, ?_⟩
    refine string_of_bytes tbytes (l := (bl m.2.2).set j x) (by simp [hlen]) (hrd.grown B8) ?_
    refine ⟨_, rfl, (h7.grown B8).l0, ⟨by omega, by omega⟩, ?_⟩
    have h8 := h7.grown B8
    obtain ⟨g, rfl, _⟩ := row_msg h8.row hn
    show STO ((Addr.add ⟨g, 0, none⟩ (n * 3)).add 2) _ _ _
    rw [addr_add_blk, addr_add_blk, Nat.zero_add]
    refine h8.row.sto (by omega) fun w9 R9 K9 => ?_
    have hT : turnB S.l (n : Int) (j : Int) = true := by simp [turnB, ho]; omega
    have hL : turnL S.l (n : Int) (j : Int) x = S.l.set n (m.1, m.2.1, turned m.2.2 (j : Int) x) := by
      simp only [turnL, ho]
      rw [if_pos (by omega), Int.toNat_natCast]
    rw [hT, hL]
    have hgb : g ≠ b := fun he => h.ne (by rw [he]; rfl)
    have hsame : netCells (some ⟨g, 0, none⟩) c { S with l := S.l.set n (m.1, m.2.1, turned m.2.2 (j : Int) x) } = netCells (some ⟨g, 0, none⟩) c S := by simp [netCells]
    refine ⟨rfl, ⟨by rw [hsame]; exact K9.at (S8.get 1 rfl) (fun he => hgb he.symm), ?_, h.ne, h.cuts, h.small, by simpa using h.few⟩, ?_, fun k hk => .inl hk⟩
    · have := R9
      rw [cellsM_set S.l n hn, hm] at this
      simpa [turned] using this
    · exact S8.keeps.trans K9 (fun k _ he => .inr (by rw [he]; rfl))
theorem net_Net_Turn_ok {w : World} {b : Nat} {S : NetS} {a : Option Addr} {c : Nat} (h : NetAt w b S a c) (i at_ : Int) (x : UInt8) :
    Calls Try.prog f.net_Net_Turn #[.pointer (some ⟨b, 0, none⟩), .int .i64 i, .int .i64 at_, .int .u8 (x.toNat : Int)] w (Ret fun v w' => v = .bool (turnB S.l i at_) ∧ NetAt w' b { S with l := turnL S.l i at_ x } a c ∧ Turn b a a w w') := by
  apply R.net_Net_Turn_calls
  refine (net_Net_in_ok w b).mono ?_
  rintro _ _ ⟨_, rfl, rfl, rfl⟩
  refine ⟨_, rfl, (net_queue_Turn_ok h i at_ x).mono ?_⟩
  rintro _ w3 ⟨_, rfl, rfl, r⟩
  exact ⟨_, rfl, rfl, r⟩

/-! ### Send, Cut, New -/
theorem lineOk_small {n x y : Int} (h : lineOk n x y) (hn : n ≤ 7) : 0 ≤ x ∧ x < 8 ∧ 0 ≤ y ∧ y < 8 := by unfold lineOk at h; omega
theorem net_Net_Send_ok {w : World} {b : Nat} {S : NetS} {a : Option Addr} {c : Nat} (h : NetAt w b S a c) (m : Msg) :
    Calls Try.prog f.net_Net_Send #[.pointer (some ⟨b, 0, none⟩), .agg #[.int .i64 m.1, .int .i64 m.2.1, .string m.2.2]] w (Ret fun v w' => v = .int .i64 (sendE S.n m) ∧ ∃ a' c', NetAt w' b (sendN S m) a' c' ∧ Turn b a a' w w') := by
  apply R.net_Net_Send_calls
  unfold R.net_Net_Send
  refine h.sh.newB fun b5 w1 hb5 B1 S1 => ⟨_, S1.cell 0 rfl rfl, _, S1.cell 0 rfl rfl, ?_⟩
  have h1 := h.grown B1
  have hrow5 : ∀ k, rowB a = some k → k ≠ b5 := fun k hk he => by have := h.row.lt hk; omega
  refine (net_Net_line_ok h1 m.1 m.2.1).mono ?_
  rintro _ _ ⟨_, rfl, rfl, rfl⟩
  refine ⟨_, rfl, ?_⟩
  by_cases hl : lineOk S.n m.1 m.2.1
  · have hE : cutE S.n m.1 m.2.1 = 0 := by simp [cutE, hl]
    rw [hE]
    refine IFB_false ⟨_, S1.cell 0 rfl rfl, IFB_dec (fun hbig => ?_) (fun hsm => ?_)⟩
    · have hn : ¬ (lineOk S.n m.1 m.2.1 ∧ m.2.2.size ≤ 600000) := by omega
      refine ⟨by simp only [sendE, hn, if_false], a, c, ?_, S1.keeps, fun k hk => .inl hk⟩
      simp only [sendN, hn, if_false]
      exact h1
    · have hy : lineOk S.n m.1 m.2.1 ∧ m.2.2.size ≤ 600000 := ⟨hl, by omega⟩
      obtain ⟨q1, q2, q3, q4⟩ := lineOk_small hl h.small
      refine S1.drawB fun w3 B3 S3 => ⟨_, S3.cell 0 rfl rfl, ⟨q1, q2⟩, _, S3.cell 0 rfl rfl, ⟨q3, q4⟩, ?_⟩
      have h3 := h1.grown B3
      have hp : placeOf m.1 m.2.1 < 64 := by unfold placeOf; omega
      refine ⟨S.cuts.getD (placeOf m.1 m.2.1) false, ?_, ?_⟩
      · rw [addr_add_blk, addr_add_blk, Nat.mul_one]
        have := h3.l3 hp
        unfold placeOf at this
        rwa [← Nat.add_assoc] at this
      have lost : ∀ w3, SH (fun k => k = b ∨ rowB a = some k) w w3 [(b5, #[.int .i64 m.1, .int .i64 m.2.1, .string m.2.2], 37), (b, netCells a c S, ty.net_Net)] → NetAt w3 b S a c →
          (S.cuts.getD (placeOf m.1 m.2.1) false = true ∨ 2000 ≤ S.l.length) → STO ⟨b, 1, none⟩ (.int .i64 (IntKind.i64.wrap (S.lost + 1))) (fun w4 => Value.int .i64 0 = .int .i64 (sendE S.n m) ∧ ∃ a' c', NetAt w4 b (sendN S m) a' c' ∧ Turn b a a' w w4) w3 := by
        intro w3 S3 h3 hc
        refine S3.stoK 1 rfl (by rw [netCells_size]; omega) fun w4 K4 S4 => ?_
        rw [netCells_lost] at S4
        refine ⟨by simp only [sendE, hy, if_true, and_self], a, c, ?_, S4.keeps, fun k hk => .inl hk⟩
        simp only [sendN, hy, if_true, hc, and_self]
        exact ⟨S4.get 1 rfl, h3.row.keeps K4 (fun k hk he => h.ne (by rw [← he]; exact hk)), h.ne, h.cuts, h.small, h.few⟩
      refine IFB_of (fun hc => ⟨_, h3.l1, lost w3 S3 h3 (.inl hc)⟩) (fun hc => ⟨_, _, _, h3.l0, IFB_dec (fun hf => ⟨_, h3.l1, lost w3 S3 h3 (.inr (by omega))⟩) (fun hf => ?_)⟩)
      refine S3.drawB fun w6 B6 S6 => ⟨_, _, _, (h3.grown B6).l0, _, S6.cell 0 rfl rfl, _, S6.cell 0 rfl rfl, _, S6.cell 0 rfl rfl, ?_⟩
      refine S6.newB fun b15 w7 hb15 B7 S7 => ⟨((h3.grown B6).grown B7).l0, ?_⟩
      have h7 := (h3.grown B6).grown B7
      refine append_msg (m := m) h7.row h.few (S7.get 0 rfl) fun a' c' w8 R8 K8 N8 => ?_
      refine ⟨_, _, _, rfl, ?_⟩
      have hrow15 : ∀ k, rowB a = some k → k ≠ b15 := fun k hk he => by have := (h3.grown B6).row.lt hk; omega
      have S8 := S7.kept K8 (by
        intro x hx
        simp only [List.mem_cons, List.not_mem_nil, or_false] at hx
        rcases hx with rfl | rfl | rfl
        · exact fun hk => hrow15 _ hk rfl
        · exact fun hk => hrow5 _ hk rfl
        · exact h.ne) (fun k _ hk => .inr hk)
      refine S8.stoK 2 rfl (by rw [netCells_size]; omega) fun w9 K9 S9 => ?_
      rw [netCells_l] at S9
      have hb7 : b < w7.heap.size := h7.lt
      have hne' : rowB a' ≠ some b := by
        intro hk
        rcases N8 b hk with hk' | hk'
        · exact h.ne hk'
        · omega
      have hcn : ¬ (S.cuts.getD (placeOf m.1 m.2.1) false = true ∨ 2000 ≤ S.l.length) := by
        rw [hc]; simp; omega
      refine ⟨by simp only [sendE, hy, if_true, and_self], a', c', ?_, S9.keeps, fun k hk => ?_⟩
      · simp only [sendN, hy, if_true, hcn, if_false, and_self]
        refine ⟨S9.get 2 rfl, R8.keeps K9 (fun k hk he => by subst he; exact hne' hk), hne', h.cuts, h.small, by simp; omega⟩
      · rcases N8 k hk with hk' | hk'
        · exact .inl hk'
        · exact .inr (Nat.le_trans S7.keeps.size hk')
  · have hE : cutE S.n m.1 m.2.1 = 2 := by simp [cutE, hl]
    rw [hE]
    have hn : ¬ (lineOk S.n m.1 m.2.1 ∧ m.2.2.size ≤ 600000) := fun hh => hl hh.1
    refine IFB_true ⟨by simp only [sendE, hn, if_false], a, c, ?_, S1.keeps, fun k hk => .inl hk⟩
    simp only [sendN, hn, if_false]
    exact h1

theorem net_Net_Cut_ok {w : World} {b : Nat} {S : NetS} {a : Option Addr} {c : Nat} (h : NetAt w b S a c) (x y : Int) (t : Bool) :
    Calls Try.prog f.net_Net_Cut #[.pointer (some ⟨b, 0, none⟩), .int .i64 x, .int .i64 y, .bool t] w (Ret fun v w' => v = .int .i64 (cutE S.n x y) ∧ NetAt w' b { S with cuts := cutC S.n S.cuts x y t } a c ∧ Turn b a a w w') := by
  apply R.net_Net_Cut_calls
  unfold R.net_Net_Cut
  refine (net_Net_line_ok h x y).mono ?_
  rintro _ _ ⟨_, rfl, rfl, rfl⟩
  refine ⟨_, rfl, ?_⟩
  by_cases hl : lineOk S.n x y
  · have hE : cutE S.n x y = 0 := by simp [cutE, hl]
    rw [hE]
    obtain ⟨q1, q2, q3, q4⟩ := lineOk_small hl h.small
    refine IFB_true ⟨⟨q1, q2⟩, ⟨q3, q4⟩, ?_⟩
    have hp : placeOf x y < 64 := by unfold placeOf; omega
    rw [addr_add_blk, addr_add_blk, Nat.mul_one, Nat.add_assoc]
    refine h.sh.stoK 0 rfl (by rw [netCells_size, h.cuts]; unfold placeOf at hp; omega) fun w4 K4 S4 => ?_
    rw [netCells_cut] at S4
    refine ⟨rfl, ?_, S4.keeps, fun k hk => .inl hk⟩
    simp only [cutC, hl, if_true]
    exact ⟨S4.get 0 rfl, h.row.keeps K4 (fun k hk he => h.ne (by rw [← he]; exact hk)), h.ne, by simpa using h.cuts, h.small, h.few⟩
  · have hE : cutE S.n x y = 2 := by simp [cutE, hl]
    rw [hE]
    refine IFB_false ⟨rfl, ?_, .refl _ _, fun k hk => .inl hk⟩
    simp only [cutC, hl, if_false]
    exact h

def newNet (n : Int) : NetS := ⟨n, [], 0, List.replicate 64 false⟩
theorem net_New_bad (w : World) (n : Int) (hn : n < 1 ∨ 7 < n) : Calls Try.prog f.net_New #[.int .i64 n] w (Ret fun v w' => v = .tuple #[.pointer none, .int .i64 2] ∧ w' = w) := by
  apply R.net_New_calls
  unfold R.net_New
  refine IFB_dec (fun _ => ⟨rfl, rfl⟩) (fun h1 => IFB_dec (fun _ => ⟨rfl, rfl⟩) (fun h2 => by omega))
theorem net_New_ok (w : World) (n : Int) (h1 : 1 ≤ n) (h2 : n ≤ 7) : Calls Try.prog f.net_New #[.int .i64 n] w (Ret fun v w' => ∃ b, v = .tuple #[.pointer (some ⟨b, 0, none⟩), .int .i64 0] ∧ w.heap.size ≤ b ∧ NetAt w' b (newNet n) none 0 ∧ Below w.heap.size w w') := by
  apply R.net_New_calls
  unfold R.net_New
  refine IFB_dec (fun _ => by omega) (fun _ => IFB_dec (fun _ => by omega) (fun _ => ?_))
  refine (SH.start (fun _ => False) w).newB fun b w1 hb B1 S1 => ⟨b, rfl, hb, ⟨S1.get 0 rfl, Row.nil _ _ _, by simp [rowB], by simp [newNet], h2, by simp [newNet]⟩, B1⟩
end Go.Proofs.Ytijjimoooflkaaa
