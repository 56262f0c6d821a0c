/-
  The document's network: Take, Turn, New.
-/
import Derived.Test.YtijjimoooflkaaaRefNet
namespace Go.Proofs.Ytijjimoooflkaaa
open Go.Dn Go.Proofs
open Go.RowKit (Below)
set_option linter.unusedVariables false
section
variable {w : World} {r : Nat} {S : NetS} {a : Option Addr} {c g : Nat}

theorem sla0 (a : Option Addr) (c sz : Nat) : SLA a 0 c sz = a := by
  unfold SLA
  split
  · rfl
  · cases a <;> simp [addr_add_zero]

theorem ref_Take_ok (h : RefAt w r S a c g) (i : Int) : Calls Try.prog f.ref20_Net_Take #[.pointer (some ⟨r, 0, none⟩), .int .i64 i] w (Ret fun v w' => v = lookV (lookM S.l i) ∧ ∃ a' c', RefAt w' r { S with l := takeL S.l i } a' c' g ∧ RTurn r g a a' w w') := by
  apply R.ref20_Net_Take_calls
  unfold R.ref20_Net_Take
  refine (SH.start (fun _ => True) w).newB fun b3 w1 hb3 B1 S1 => (ref_Look_ok (h.grown B1) i).mono ?_
  rintro _ w2 ⟨_, rfl, rfl, B2⟩
  refine ⟨_, _, _, _, rfl, (S1.grown B2).lit3 fun b9 w6 hb9 B6 S6 => ?_⟩
  have B6' := below_trans (below_trans B1 B2) B6
  have h6 := h.grown B6'
  have hs2 := (below_trans B1 B2).size
  cases ho : lookM S.l i with
  | none =>
    refine IFB_false ⟨_, S6.cell 0 rfl rfl, _, S6.cell 0 rfl rfl, _, S6.cell 0 rfl rfl, S6.sto3K 1 rfl fun w17 K17 S17 => ⟨_, S17.cell 1 rfl rfl, _, S17.cell 1 rfl rfl, _, S17.cell 1 rfl rfl, by rw [ho]; rfl, a, c, ?_, ?_⟩⟩
    · rw [takeL_none ho]
      exact h6.keeps K17 fun k hk he => by have := h.ltG k hk; omega
    · exact ⟨(Keeps.of_below B6').trans K17 fun k hk he => by omega, fun k hk => .inl hk⟩
  | some m =>
    have hi0 : ¬ i < 0 := by intro hlt; rw [lookM_none (.inl hlt)] at ho; cases ho
    obtain ⟨n, rfl⟩ : ∃ n : Nat, i = n := ⟨i.toNat, by omega⟩
    have hn : n < S.l.length := by
      rcases Nat.lt_or_ge n S.l.length with hh | hh
      · exact hh
      · rw [lookM_none (.inr (by omega))] at ho; cases ho
    have hle := h.row.le
    have hfew := h.few
    refine IFB_true (S6.drawB fun w7 B7 S7 => ⟨_, _, _, (h6.grown B7).c1, _, _, _, (h6.grown B7).c1, ⟨by omega, by omega, by omega⟩, ?_⟩)
    have h7 := h6.grown B7
    have B7' := below_trans B6' B7
    refine make_row0 tMsg (by omega) (by omega) fun bn w8 hbn B8 R8 => ⟨_, _, _, rfl, (h7.grown B8).c1, ?_⟩
    have h8 := h7.grown B8
    have B8' := below_trans B7' B8
    have S8 := S7.grown B8
    rw [sla0]
    simp only [Int.toNat_natCast, Nat.sub_zero]
    -- the front
    have src1 : Rd w8 a (cellsM (S.l.take n)) := by rw [← cellsM_take]; exact h8.row.rd.take _
    obtain ⟨w9, run9, R9, K9⟩ := append_fits (ty := ty.L_api_Msg) (mc := c) tMsg (by omega) R8 src1 (m := n) (by rw [cellsM_len, List.length_take]; omega) (cellsM_one _) (by omega)
    unfold OPR
    rw [run9]
    have off9 : ∀ k, k < w7.heap.size → ¬ (rowB (some (⟨bn, 0, none⟩ : Addr)) = some k) := fun k hk he => by simp [rowB] at he; omega
    have h9 : RefAt w9 r S a c g := h8.keeps K9 fun k hk => off9 k (h7.ltG k hk)
    refine ⟨_, _, _, rfl, _, _, _, h9.c1, ?_⟩
    rw [wrap_succ (by omega), Int.toNat_natCast]
    refine ⟨⟨by omega, by omega, by omega⟩, ?_⟩
    have src2 := h9.row.rd.sla (n + 1) S.l.length c 3 hle
    rw [cellsM_drop, List.take_of_length_le (by rw [cellsM_len, List.length_drop]; omega)] at src2
    rw [Nat.zero_add] at R9 ⊢
    obtain ⟨w10, run10, R10, K10⟩ := append_fits (ty := ty.L_api_Msg) (mc := c - (n + 1)) tMsg (by omega) R9 src2 (m := S.l.length - (n + 1)) (by rw [cellsM_len, List.length_drop]) (cellsM_one _) (by omega)
    simp only [run10]
    have h10 : RefAt w10 r S a c g := h9.keeps K10 fun k hk => off9 k (h7.ltG k hk)
    refine ⟨_, _, _, rfl, ?_⟩
    have e1 : [] ++ cellsM (S.l.take n) ++ cellsM (S.l.drop (n + 1)) = cellsM (S.l.eraseIdx n) := by
      rw [List.nil_append, ← cellsM_append, List.eraseIdx_eq_take_drop_succ]
    have e2 : n + (S.l.length - (n + 1)) = (S.l.eraseIdx n).length := by rw [List.length_eraseIdx_of_lt hn]; omega
    rw [e1, e2] at R10
    rw [e2]
    have hH : ∀ (x : Ent), x ∈ [(b9, #[Value.int .i64 m.1, .int .i64 m.2.1, .string m.2.2], (37 : TypeId)), (b3, #[.int .i64 0, .int .i64 0, .string ⟨#[]⟩], 37)] → x.1 < w7.heap.size := fun x hx => by
      have := (S7.drop 0).lt (x := x)
      simp only [ho, Option.getD_some, List.drop_zero] at this
      exact this hx
    have S8' := S8
    simp only [ho, Option.getD_some] at S8'
    have S9 := S8'.kept K9 (fun x hx => off9 _ (hH x hx)) (fun _ _ _ => trivial)
    have S10 := S9.kept K10 (fun x hx => off9 _ (hH x hx)) (fun _ _ _ => trivial)
    refine sto_blk h10.blk (show 1 < 4 by decide) fun w11 K11 hb11 => ?_
    have S11 := S10.kept K11 (fun x hx he => by
      simp only [List.mem_cons, List.not_mem_nil, or_false] at hx
      have := h.lt
      rcases hx with rfl | rfl
      · simp only at he; omega
      · simp only at he; omega) (fun _ _ _ => trivial)
    refine ⟨_, S11.cell 0 rfl rfl, _, S11.cell 0 rfl rfl, _, S11.cell 0 rfl rfl, S11.sto3K 1 rfl fun w14 K14 S14 => ⟨_, S14.cell 1 rfl rfl, _, S14.cell 1 rfl rfl, _, S14.cell 1 rfl rfl, rfl, some ⟨bn, 0, none⟩, S.l.length, ?_, ?_, ?_⟩⟩
    · rw [takeL_some]
      have hbn3 : bn ≠ b3 := by have := hH _ (List.mem_cons_of_mem _ (List.mem_singleton.2 rfl)); simp only at this; omega
      have h11 : RefAt w11 r { S with l := S.l.eraseIdx n } (some ⟨bn, 0, none⟩) S.l.length g := by
        refine ⟨by rw [hb11]; simp [refCells], R10.keeps K11 fun k hk he => by subst he; exact off9 _ h7.lt hk, K11.at h10.cutr h.rg, fun he => off9 _ h7.lt he, fun he => off9 _ h7.ltg he, h.rg, h.cuts, h.small, ?_, ?_⟩
        · simp only; rw [← e2]; omega
        · intro m' hm'
          exact h.data _ (List.mem_of_mem_eraseIdx hm')
      refine h11.keeps K14 ?_
      rintro k (hk | hk | hk) he
      · have := h.lt; omega
      · have := h.ltg; omega
      · simp [rowB] at hk; omega
    · have hw := B7'.size
      refine ((((Keeps.of_below B8').trans K9 fun k hk he => ?_).trans K10 fun k hk he => ?_).trans K11 fun k _ hk => .inl hk).trans K14 fun k hk he => by omega
      · simp [rowB] at he; omega
      · simp [rowB] at he; omega
    · intro k hk
      simp [rowB] at hk
      have hw := B7'.size
      exact .inr (by omega)

theorem turned_parts (d : ByteArray) (j : Nat) (x : UInt8) (hj : j < d.size) : (d.extract 0 j ++ sof [x]) ++ d.extract (j + 1) d.size = turned d (j : Int) x := by
  apply bl_inj
  have hl := bl_length d
  rw [bl_append, bl_append, bl_extract, bl_extract, bl_sof, turned, bl_sof, Int.toNat_natCast, List.drop_zero, Nat.sub_zero, List.take_of_length_le (l := (bl d).drop (j + 1)) (by rw [List.length_drop]; omega), List.append_assoc]
  rw [List.set_eq_take_append_cons_drop, if_pos (by omega)]
  rfl

theorem ref_Turn_ok (h : RefAt w r S a c g) (i at_ : Int) (x : UInt8) : Calls Try.prog f.ref20_Net_Turn #[.pointer (some ⟨r, 0, none⟩), .int .i64 i, .int .i64 at_, .int .u8 (x.toNat : Int)] w (Ret fun v w' => v = .bool (turnB S.l i at_) ∧ RefAt w' r { S with l := turnL S.l i at_ x } a c g ∧ RTurn r g a a w w') := by
  apply R.ref20_Net_Turn_calls
  unfold R.ref20_Net_Turn
  refine (ref_Look_ok h i).mono ?_
  rintro _ w1 ⟨_, rfl, rfl, B1⟩
  refine ⟨_, _, _, _, rfl, ((SH.start (fun _ => False) w).grown B1).lit3 fun b8 w5 hb8 B5 S5 => ?_⟩
  have B5' := below_trans B1 B5
  have h5 := h.grown B5'
  have no : turnB S.l i at_ = false → (Value.bool false = .bool (turnB S.l i at_) ∧ RefAt w5 r { S with l := turnL S.l i at_ x } a c g ∧ RTurn r g a a w w5) := by
    intro hn
    rw [hn, turnL_none hn]
    exact ⟨rfl, h5, Keeps.of_below B5', fun k hk => .inl hk⟩
  cases ho : lookM S.l i with
  | none => exact IFB_true (no (by simp [turnB, ho]))
  | some m =>
    rw [ho] at S5
    refine IFB_false (IFB_dec (fun h0 => no (by simp [turnB, ho]; omega)) (fun h0 => ⟨_, S5.cell 0 rfl rfl, IFB_dec (fun hge => no (by simp [turnB, ho] at hge ⊢; omega)) (fun hlt => ?_)⟩))
    simp only [Option.getD_some] at hlt S5
    have hi0 : ¬ i < 0 := by intro hlt; rw [lookM_none (.inl hlt)] at ho; cases ho
    obtain ⟨n, rfl⟩ : ∃ n : Nat, i = n := ⟨i.toNat, by omega⟩
    have hn : n < S.l.length := by
      rcases Nat.lt_or_ge n S.l.length with hh | hh
      · exact hh
      · rw [lookM_none (.inr (by omega))] at ho; cases ho
    have hm : S.l[n] = m := by rw [lookM_some hn] at ho; simpa using ho
    have hms : m.2.2.size ≤ 600000 := h.data _ (hm ▸ List.getElem_mem hn)
    obtain ⟨j, rfl⟩ : ∃ j : Nat, at_ = j := ⟨at_.toNat, by omega⟩
    have hj : j < m.2.2.size := by omega
    refine S5.drawB fun w6 B6 S6 => ⟨_, _, _, (h5.grown B6).c1, _, S6.cell 0 rfl rfl, ⟨by omega, by omega, by omega⟩, _, S6.cell 0 rfl rfl, ⟨?_, ?_, by omega⟩, ?_⟩
    · rw [wrap_succ (by omega)]; omega
    · rw [wrap_succ (by omega)]; omega
    have h6 := h5.grown B6
    refine S6.newB fun b15 w7 hb15 B7 S7 => ⟨S7.cell 1 rfl rfl, S7.cell 1 rfl rfl, (h6.grown B7).c1, ?_⟩
    have h7 := h6.grown B7
    have B7' := below_trans (below_trans B5' B6) B7
    refine string_of_bytes tbytes (l := [x]) rfl (Rd.of_block0 (S7.get 0 rfl)) ⟨_, rfl, S7.cell 1 rfl rfl, S7.cell 1 rfl rfl, h7.c1, ?_⟩
    rw [wrap_succ (by omega)]
    simp only [Int.toNat_natCast]
    have hsz : ((m.2.2.extract 0 j).size = j) := by simp; omega
    refine ⟨by rw [hsz]; simp [size_sof]; omega, ?_, ⟨by omega, by omega⟩, ?_⟩
    · rw [ByteArray.size_append, hsz, size_sof]
      simp
      omega
    rw [turned_parts _ _ _ hj]
    obtain ⟨g', hg', _⟩ := row_msg h7.row hn
    subst hg'
    simp only [PTR]
    rw [addr_add_blk, addr_add_blk, Nat.zero_add]
    refine h7.row.sto (by omega) fun w9 R9 K9 => ?_
    have hT : turnB S.l (n : Int) (j : Int) = true := by simp [turnB, ho]; omega
    have hL : turnL S.l (n : Int) (j : Int) x = S.l.set n (m.1, m.2.1, turned m.2.2 (j : Int) x) := by
      simp only [turnL, ho]
      rw [if_pos (by omega), Int.toNat_natCast]
    rw [hT, hL]
    rw [cellsM_set S.l n hn, hm] at R9
    refine ⟨rfl, ⟨?_, ?_, K9.at h7.cutr (fun he => h.neg (by rw [he]; rfl)), h.ner, h.neg, h.rg, h.cuts, h.small, by simpa using h.few, ?_⟩, (Keeps.of_below B7').trans K9 fun k _ he => .inr (.inr (by rw [he]; rfl)), fun k hk => .inl hk⟩
    · rw [K9.at h7.blk (fun he => h.ner (by rw [he]; rfl))]
      simp [refCells]
    · simpa using R9
    · intro m' hm'
      rcases List.mem_or_eq_of_mem_set hm' with h1 | h1
      · exact h.data _ h1
      · subst h1
        show (turned m.2.2 (j : Int) x).size ≤ 600000
        rw [turned, size_sof, List.length_set, bl_length]
        exact hms

def newRef (n : Int) : NetS := ⟨n, [], 0, List.replicate (n.toNat * n.toNat) false⟩
theorem ref_New_bad (w : World) (n : Int) (hn : n < 1 ∨ 7 < n) : Calls Try.prog f.ref20_New #[.int .i64 n] w (Ret fun v w' => v = .tuple #[.pointer none, .int .i64 2] ∧ w' = w) := by
  apply R.ref20_New_calls
  unfold R.ref20_New
  refine IFB_dec (fun _ => ⟨rfl, rfl⟩) (fun h1 => IFB_dec (fun _ => ⟨rfl, rfl⟩) (fun h2 => by omega))
theorem ref_New_ok (w : World) (n : Int) (h1 : 1 ≤ n) (h2 : n ≤ 7) : Calls Try.prog f.ref20_New #[.int .i64 n] w (Ret fun v w' => ∃ r g, v = .tuple #[.pointer (some ⟨r, 0, none⟩), .int .i64 0] ∧ w.heap.size ≤ r ∧ w.heap.size ≤ g ∧ RefAt w' r (newRef n) none 0 g ∧ Below w.heap.size w w') := by
  apply R.ref20_New_calls
  unfold R.ref20_New
  refine IFB_dec (fun _ => by omega) (fun _ => IFB_dec (fun _ => by omega) (fun _ => ?_))
  obtain ⟨k, rfl⟩ : ∃ k : Nat, n = k := ⟨n.toNat, by omega⟩
  have hk : k * k ≤ 49 := Nat.le_trans (Nat.mul_le_mul (by omega : k ≤ 7) (by omega : k ≤ 7)) (by omega)
  have e : IntKind.i64.wrap ((k : Int) * k) = ((k * k : Nat) : Int) := by rw [← Int.natCast_mul, wrap_i64 (by omega) (by omega)]
  rw [e]
  refine make_new tBools (by omega) (by omega) (by omega) (by omega) fun g w1 hg B1 hc1 => ⟨_, _, _, rfl, ?_⟩
  rw [Int.toNat_natCast, Nat.mul_one] at hc1
  refine (SH.start (fun _ => False) w1).newB fun r w2 hr B2 S2 => ⟨r, g, rfl, by have := B1.size; omega, hg, ⟨?_, Row.nil _ _ _, ?_, by simp [rowB], by simp [rowB], ?_, by simp [newRef], ⟨h1, h2⟩, by simp [newRef], by simp [newRef]⟩, below_trans B1 B2⟩
  · have := S2.get 0 rfl
    rw [this]
    simp only [Int.toNat_natCast, refCells, newRef, List.length_replicate, List.length_nil]
  · rw [B2.block g (Array.getElem?_eq_some_iff.1 hc1).1, hc1]
    simp only [newRef, Int.toNat_natCast, List.map_replicate]
    congr 2
    rw [← madeCells_one (.bool false) rfl]
  · have := (Array.getElem?_eq_some_iff.1 hc1).1; omega
end
end Go.Proofs.Ytijjimoooflkaaa
