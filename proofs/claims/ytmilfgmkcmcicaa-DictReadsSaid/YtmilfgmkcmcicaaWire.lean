/-
  Numbers and texts as bytes: what the program's wire layer lays.
-/
import Derived.Test.YtmilfgmkcmcicaaRead
import Derived.Test.YtmilfgmkcmcicaaDnLaws4
import Derived.Test.YtmilfgmkcmcicaaDnNums
namespace Go.Proofs.Ytmilfgmkcmcicaa
open Go.Dn Go.Proofs
open Go.RowKit (Below)
set_option linter.unusedVariables false
set_option maxRecDepth 20000

theorem tbytes : bytesT Try.prog ty.string ty.L_uint8 = true := by kernel_rfl
theorem tB : slT Try.prog ty.L_uint8 = some (ty.uint8, 1, 1, .int .u8 0) := by kernel_rfl
theorem zB : (Value.int .u8 0).cells.size = 1 := rfl
theorem bytes_one (l : List UInt8) : ∀ u ∈ l.map byteV, u.oneCell' = true := by
  intro u hu
  obtain ⟨c, _, rfl⟩ := List.mem_map.1 hu
  exact byteV_one c

/-- a slice of bytes in new memory -/
structure NewB (w w' : World) (l : List UInt8) (a : Option Addr) (c : Nat) : Prop where
  row : Row w' ty.uint8 1 a l.length c (l.map byteV)
  new : ∀ k, rowB a = some k → w.heap.size ≤ k
  bel : Below w.heap.size w w'
theorem below_trans {a b c : World} (h : Below a.heap.size a b) (h' : Below b.heap.size b c) : Below a.heap.size a c := h.trans (h'.mono h.size)
theorem NewB.rd {w w' : World} {l : List UInt8} {a : Option Addr} {c : Nat} (h : NewB w w' l a c) : Rd w' a (l.map byteV) := h.row.rd
theorem NewB.grown {w w' w2 : World} {l : List UInt8} {a : Option Addr} {c : Nat} (h : NewB w w' l a c) (hb : Below w'.heap.size w' w2) : NewB w w2 l a c := ⟨h.row.grown hb, h.new, below_trans h.bel hb⟩
theorem NewB.before {w0 w w' : World} {l : List UInt8} {a : Option Addr} {c : Nat} (hb : Below w0.heap.size w0 w) (h : NewB w w' l a c) : NewB w0 w' l a c := ⟨h.row, fun k hk => Nat.le_trans hb.size (h.new k hk), below_trans hb h.bel⟩

/-- one byte onto a row -/
theorem append_byte {w : World} {a : Option Addr} {c : Nat} {l : List UInt8} (hr : Row w ty.uint8 1 a l.length c (l.map byteV)) (hl : l.length + 1 ≤ 140737488355328) {x : UInt8} {v : Value} (hv : v = byteV x) {b : Nat} {t : TypeId}
    (hb : w.heap[b]? = some (.cells #[v] t (0, 0))) {f : Value → World → Prop}
    (hf : ∀ a' c' w', Row w' ty.uint8 1 a' (l ++ [x]).length c' ((l ++ [x]).map byteV) → Keeps (fun k => rowB a = some k) w w' → (∀ k, rowB a' = some k → rowB a = some k ∨ w.heap.size ≤ k) → f (.slice a' (l ++ [x]).length c') w') :
    OPR Try.prog (Builtin.append_ #[ty.L_uint8, ty.L_uint8] ty.L_uint8 #[.slice a l.length c, .slice (some ⟨b, 0, none⟩) 1 1]) f w := by
  subst hv
  have hsrc : Rd w (some ⟨b, 0, none⟩) ([x].map byteV) := by
    have := Rd.of_block0 hb
    simpa using this
  obtain ⟨a', c', w', hrun, hrow, hk, hnew⟩ := append_row (ty := ty.L_uint8) (mc := 1) tB zB (by omega) (by omega) hr hsrc (m := 1) rfl (bytes_one _) (by omega)
  unfold OPR
  rw [hrun]
  have hlen : (l ++ [x]).length = l.length + 1 := by simp
  rw [← List.map_append, ← hlen] at hrow
  rw [← hlen]
  exact hf a' c' w' hrow hk hnew
/-- bytes onto a row -/
theorem append_bytes {w : World} {a : Option Addr} {c : Nat} {l : List UInt8} (hr : Row w ty.uint8 1 a l.length c (l.map byteV)) {m : List UInt8} {b : Option Addr} {mc : Nat} (hb : Rd w b (m.map byteV)) (hl : l.length + m.length ≤ 140737488355328) {f : Value → World → Prop}
    (hf : ∀ a' c' w', Row w' ty.uint8 1 a' (l ++ m).length c' ((l ++ m).map byteV) → Keeps (fun k => rowB a = some k) w w' → (∀ k, rowB a' = some k → rowB a = some k ∨ w.heap.size ≤ k) → f (.slice a' (l ++ m).length c') w') :
    OPR Try.prog (Builtin.append_ #[ty.L_uint8, ty.L_uint8] ty.L_uint8 #[.slice a l.length c, .slice b m.length mc]) f w := by
  obtain ⟨a', c', w', hrun, hrow, hk, hnew⟩ := append_row (ty := ty.L_uint8) (mc := mc) tB zB (by omega) (by omega) hr hb (m := m.length) (by simp) (bytes_one _) (by omega)
  unfold OPR
  rw [hrun]
  have hlen : (l ++ m).length = l.length + m.length := by simp
  rw [← List.map_append, ← hlen] at hrow
  rw [← hlen]
  exact hf a' c' w' hrow hk hnew
/-- a text onto a row -/
theorem append_text {w : World} {a : Option Addr} {c : Nat} {l : List UInt8} (hr : Row w ty.uint8 1 a l.length c (l.map byteV)) (s : ByteArray) (hl : l.length + s.size ≤ 140737488355328) {f : Value → World → Prop}
    (hf : ∀ a' c' w', Row w' ty.uint8 1 a' (l ++ bl s).length c' ((l ++ bl s).map byteV) → Keeps (fun k => rowB a = some k) w w' → (∀ k, rowB a' = some k → rowB a = some k ∨ w.heap.size ≤ k) → f (.slice a' (l ++ bl s).length c') w') :
    OPR Try.prog (Builtin.append_ #[ty.L_uint8, ty.string] ty.L_uint8 #[.slice a l.length c, .string s]) f w := by
  obtain ⟨a', c', w', hrun, hrow, hk, hnew⟩ := append_string (ty := ty.L_uint8) tB (show Try.prog.underlying ty.string = some .string by kernel_rfl) zB (by omega) hr s (by omega)
  unfold OPR
  rw [hrun]
  have hlen : (l ++ bl s).length = l.length + s.size := by rw [List.length_append, bl_length]
  rw [← List.map_append, ← hlen] at hrow
  rw [← hlen]
  exact hf a' c' w' hrow hk hnew

/-! ### digits -/
def digitsL (n : Nat) : List UInt8 := if h : n < 128 then [UInt8.ofNat n] else UInt8.ofNat (n % 128 + 128) :: digitsL (n / 128)
termination_by n
decreasing_by omega
theorem digitsL_pos (n : Nat) : digitsL n ≠ [] := by unfold digitsL; split <;> simp
theorem digitsL_len : ∀ (k n : Nat), n < 128 ^ (k + 1) → (digitsL n).length ≤ k + 1
  | 0, n, h => by unfold digitsL; rw [dif_pos (by simpa using h)]; simp
  | k + 1, n, h => by
    unfold digitsL
    split
    · simp
    · have := digitsL_len k (n / 128) (by rw [Nat.pow_succ] at h; exact Nat.div_lt_of_lt_mul (by rw [Nat.mul_comm]; exact h))
      simp only [List.length_cons]
      omega
theorem digitsL_len10 {n : Nat} (h : n < 18446744073709551616) : (digitsL n).length ≤ 10 := digitsL_len 9 n (Nat.lt_trans h (by decide))

theorem and127 {n : Nat} (h : n < 18446744073709551616) : (BitVec.ofInt 64 (n : Int) &&& BitVec.ofInt 64 127).toNat = n % 128 := by
  rw [BitVec.toNat_and, BitVec.ofInt_natCast, BitVec.toNat_ofNat, Nat.mod_eq_of_lt (by omega)]
  have := Nat.and_two_pow_sub_one_eq_mod n 7
  exact this
theorem low7 {n : Nat} (h : n < 18446744073709551616) : IntKind.u8.wrap (IntKind.u64.wrap (((BitVec.ofInt 64 (n : Int) &&& BitVec.ofInt 64 127).toNat : Int))) = ((n % 128 : Nat) : Int) := by
  rw [and127 h, wrap_u64_id (by omega) (by omega), wrap_u8_id (by omega) (by omega)]
theorem or128 {x : Nat} (h : x < 128) : IntKind.u8.wrap (((BitVec.ofInt 8 (x : Int) ||| BitVec.ofInt 8 128).toNat : Int)) = ((x + 128 : Nat) : Int) := by
  have e : (BitVec.ofInt 8 (x : Int) ||| BitVec.ofInt 8 128).toNat = x + 128 := by
    rw [BitVec.toNat_or, BitVec.ofInt_natCast, BitVec.toNat_ofNat, Nat.mod_eq_of_lt (by omega)]
    have := Nat.two_pow_add_eq_or_of_lt (i := 7) (b := x) (by omega) 1
    rw [Nat.or_comm]
    have h2 : (BitVec.ofInt 8 128).toNat = 128 := by decide
    rw [h2]
    have h3 : 2 ^ 7 * 1 ||| x = 2 ^ 7 * 1 + x := this.symm
    have h4 : (128 : Nat) ||| x = 128 + x := h3
    rw [h4]
    omega
  rw [e, wrap_u8_id (by omega) (by omega)]
theorem shr7 (n : Nat) : Int.fdiv (n : Int) (2 ^ (min 7 64)) = ((n / 128 : Nat) : Int) := by
  rw [Int.fdiv_eq_ediv_of_nonneg _ (by decide)]
  norm_cast

theorem byteV_of {x : Nat} (h : x < 256) : Value.int .u8 (x : Int) = byteV (UInt8.ofNat x) := by
  unfold byteV
  congr 1
  simp
  omega

theorem wire_digits_ok (w : World) (n : Nat) (hn : n < 18446744073709551616) : Calls Try.prog f.wire_digits #[.int .u64 (n : Int)] w (Ret fun v w' => ∃ a c, v = .slice a (digitsL n).length c ∧ NewB w w' (digitsL n) a c) := by
  apply R.wire_digits_calls
  unfold R.wire_digits
  refine ⟨fun s w1 => ∃ (m : Nat) (a : Option Addr) (c : Nat) (l : List UInt8), s = [.int .u64 (m : Int), .slice a l.length c] ∧ m < 18446744073709551616 ∧ l ++ digitsL m = digitsL n ∧ NewB w w1 l a c,
    fun s _ => match s with
      | [.int _ i, _] => i.toNat
      | _ => 0, ⟨n, none, 0, [], rfl, hn, rfl, Row.nil _ _ _, by simp [rowB], .refl _ _⟩, ?_⟩
  rintro _ a _ c w1 ⟨m, _, _, l, hs, hm, hl, h1⟩
  cases hs
  have hlen : l.length + 1 ≤ 140737488355328 := by
    have := digitsL_len10 hn
    rw [← hl] at this
    simp at this
    omega
  rw [shr7, low7 hm]
  refine IFB_eq (fun h0 => ?_) (fun h0 => ?_)
  · have hm0 : m < 128 := by omega
    refine (SH.start (fun _ => False) w1).newB fun b5 w2 hb5 B2 S2 => ?_
    refine append_byte (h1.grown B2).row hlen (x := UInt8.ofNat m) (by rw [Nat.mod_eq_of_lt hm0]; exact byteV_of (by omega)) (S2.get 0 rfl) fun a' c' w3 R3 K3 N3 => ⟨_, _, _, rfl, ?_⟩
    have e : l ++ [UInt8.ofNat m] = digitsL n := by rw [← hl]; conv => rhs; unfold digitsL; rw [dif_pos hm0]
    rw [e] at R3
    rw [e]
    refine ⟨a', c', rfl, R3, fun k hk => ?_, (h1.grown B2).bel.trans (K3.below (h1.grown B2).bel.size fun k hk he => by have := h1.new k he; omega)⟩
    rcases N3 k hk with h | h
    · exact h1.new k h
    · exact Nat.le_trans (h1.grown B2).bel.size h
  · have hm0 : ¬ m < 128 := by omega
    rw [or128 (Nat.mod_lt _ (by omega))]
    refine (SH.start (fun _ => False) w1).newB fun b5 w2 hb5 B2 S2 => ?_
    refine append_byte (h1.grown B2).row hlen (x := UInt8.ofNat (m % 128 + 128)) (byteV_of (by omega)) (S2.get 0 rfl) fun a' c' w3 R3 K3 N3 => ⟨_, _, _, rfl, ?_⟩
    refine ⟨⟨m / 128, a', c', _, rfl, by omega, ?_, R3, fun k hk => ?_, (h1.grown B2).bel.trans (K3.below (h1.grown B2).bel.size fun k hk he => by have := h1.new k he; omega)⟩, ?_⟩
    · rw [← hl]
      conv => rhs; rhs; unfold digitsL; rw [dif_neg hm0]
      simp
    · rcases N3 k hk with h | h
      · exact h1.new k h
      · exact Nat.le_trans (h1.grown B2).bel.size h
    · simp only [Int.toNat_natCast]
      omega

/-! ### Concat -/
abbrev PartB := Option Addr × Nat × List UInt8
def partV1 (p : PartB) : Value := .slice p.1 p.2.2.length p.2.1
def flatB (ps : List PartB) : List UInt8 := ps.flatMap (·.2.2)
theorem flatB_take (ps : List PartB) (k : Nat) (hk : k < ps.length) : flatB (ps.take (k + 1)) = flatB (ps.take k) ++ ps[k].2.2 := by
  unfold flatB
  rw [List.take_succ_eq_append_getElem hk, List.flatMap_append]
  simp
theorem flatB_le (ps : List PartB) (k : Nat) : (flatB (ps.take k)).length ≤ (flatB ps).length := by
  have : flatB ps = flatB (ps.take k) ++ flatB (ps.drop k) := by
    unfold flatB
    rw [← List.flatMap_append, List.take_append_drop]
  rw [this, List.length_append]
  omega

theorem slices_Grow_nil (w : World) (n : Nat) (hn : n ≤ 140737488355328) : Calls Try.prog f.slices_Grow_byte_byte #[.slice none 0 0, .int .i64 (n : Int)] w
    (Ret fun v w' => ∃ a c, v = .slice a 0 c ∧ n ≤ c ∧ Row w' ty.uint8 1 a 0 c [] ∧ (∀ k, rowB a = some k → w.heap.size ≤ k) ∧ Below w.heap.size w w') := by
  apply R.slices_Grow_byte_byte_calls
  unfold R.slices_Grow_byte_byte
  have e0 : IntKind.i64.wrap (((0 : Nat) : Int) - ((0 : Nat) : Int)) = 0 := by rw [wrap_i64 (by omega) (by omega)]; omega
  have e1 : IntKind.i64.wrap ((n : Int) - 0) = (n : Int) := by rw [wrap_i64 (by omega) (by omega)]; omega
  refine IFB_dec (fun h => by omega) (fun _ => ?_)
  rw [e0, e1]
  refine IFB_dec (fun hp => ⟨⟨by omega, by omega, by omega⟩, ?_⟩) (fun hp => ?_)
  · obtain ⟨c', w', hrun, hrow, hc, hb⟩ := append_zeros (u := ty.int) (ty := ty.L_uint8) tB (show Try.prog.underlying ty.int = some (.int .i64) by kernel_rfl) zB (by omega) (by omega) (w := w) (m := n) (by omega) (by omega)
    have hs : SLA none 0 0 1 = none := rfl
    unfold OPR
    rw [hs]
    simp only [Nat.sub_zero, hrun]
    refine ⟨_, _, _, rfl, ⟨by omega, by omega, by omega⟩, some ⟨w.heap.size, 0, none⟩, c', ?_, hc, hrow, fun k hk => by simp [rowB] at hk; omega, hb⟩
    have : SLA (some (⟨w.heap.size, 0, none⟩ : Addr)) 0 c' 1 = some ⟨w.heap.size, 0, none⟩ := by
      unfold SLA
      split
      · rfl
      · simp [addr_add_zero]
    rw [this]
  · have : n = 0 := by omega
    subst this
    exact ⟨none, 0, rfl, Nat.le_refl _, Row.nil _ _ _, by simp [rowB], .refl _ _⟩

theorem slices_Concat_ok {w : World} {a : Option Addr} {c : Nat} (ps : List PartB) (hp : Rd w a (ps.map partV1)) (hb : ∀ p ∈ ps, Rd w p.1 (p.2.2.map byteV)) (hn : ps.length < 9223372036854775807) (hl : (flatB ps).length ≤ 140737488355328) :
    Calls Try.prog f.slices_Concat_byte_byte #[.slice a ps.length c] w (Ret fun v w' => ∃ a c, v = .slice a (flatB ps).length c ∧ NewB w w' (flatB ps) a c) := by
  apply R.slices_Concat_byte_byte_calls
  unfold R.slices_Concat_byte_byte
  refine ⟨fun s w1 => ∃ k : Nat, s = [.int .i64 ((flatB (ps.take k)).length : Int), .int .i64 k] ∧ k ≤ ps.length ∧ w1 = w,
    fun s _ => match s with
      | [_, .int _ i] => ps.length - i.toNat
      | _ => 0, ⟨0, rfl, Nat.zero_le _, rfl⟩, ?_⟩
  rintro _ _ w1 ⟨k, hs, hk, rfl⟩
  cases hs
  refine IFB_dec (fun hlt => ⟨⟨by omega, hlt⟩, ?_⟩) (fun hge => ?_)
  · have hkl : k < ps.length := by omega
    obtain ⟨p, rfl, hc⟩ := hp k (partV1 ps[k]) (by simp [hkl])
    have h1 := flatB_le ps (k + 1)
    rw [flatB_take ps k hkl, List.length_append] at h1
    refine ⟨_, _, _, by rw [Int.toNat_natCast, Nat.mul_one]; exact hc, ?_⟩
    have e : IntKind.i64.wrap (((flatB (ps.take k)).length : Int) + (ps[k].2.2.length : Int)) = ((flatB (ps.take (k + 1))).length : Int) := by
      rw [flatB_take ps k hkl, List.length_append, wrap_i64 (by omega) (by omega)]; omega
    rw [e]
    refine IFB_dec (fun h => by omega) (fun _ => ?_)
    rw [wrap_succ (by omega)]
    refine ⟨⟨k + 1, rfl, by omega, rfl⟩, ?_⟩
    simp only [Int.toNat_natCast]
    omega
  · have hke : k = ps.length := by omega
    subst hke
    rw [List.take_length]
    refine (slices_Grow_nil w1 _ hl).mono ?_
    rintro _ w2 ⟨_, rfl, a2, c2, rfl, hc2, R2, N2, B2⟩
    refine ⟨_, _, _, rfl, ?_⟩
    refine ⟨fun s w3 => ∃ (k : Nat) (a3 : Option Addr) (c3 : Nat), s = [.slice a3 (flatB (ps.take k)).length c3, .int .i64 k] ∧ k ≤ ps.length ∧ NewB w1 w3 (flatB (ps.take k)) a3 c3,
      fun s _ => match s with
        | [_, .int _ i] => ps.length - i.toNat
        | _ => 0, ⟨0, a2, c2, rfl, Nat.zero_le _, R2, N2, B2⟩, ?_⟩
    rintro a3 _ c3 _ w3 ⟨k, _, _, hs, hk, h3⟩
    cases hs
    refine IFB_dec (fun hlt => ⟨⟨by omega, hlt⟩, ?_⟩) (fun hge => ?_)
    · have hkl : k < ps.length := by omega
      obtain ⟨p, rfl, hc⟩ := (hp.grown h3.bel) k (partV1 ps[k]) (by simp [hkl])
      have h1 := flatB_le ps (k + 1)
      rw [flatB_take ps k hkl, List.length_append] at h1
      refine ⟨_, _, _, by rw [Int.toNat_natCast, Nat.mul_one]; exact hc, ?_⟩
      refine append_bytes h3.row ((hb _ (List.getElem_mem hkl)).grown h3.bel) (by omega) fun a' c' w4 R4 K4 N4 => ⟨_, _, _, rfl, ?_⟩
      rw [← flatB_take ps k hkl] at R4 ⊢
      rw [wrap_succ (by omega)]
      refine ⟨⟨k + 1, a', c', rfl, by omega, R4, fun j hj => ?_, h3.bel.trans (K4.below h3.bel.size fun j hj he => by have := h3.new j he; omega)⟩, ?_⟩
      · rcases N4 j hj with h | h
        · exact h3.new j h
        · exact Nat.le_trans h3.bel.size h
      · simp only [Int.toNat_natCast]
        omega
    · have hke : k = ps.length := by omega
      subst hke
      rw [List.take_length] at h3 ⊢
      exact ⟨a3, c3, rfl, h3⟩
end Go.Proofs.Ytmilfgmkcmcicaa
