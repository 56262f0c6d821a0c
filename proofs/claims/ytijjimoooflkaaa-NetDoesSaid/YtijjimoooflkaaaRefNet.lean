/-
  The document's network in memory: what each of its methods does.
-/
import Derived.Test.YtijjimoooflkaaaOrderLaw
import Derived.Test.YtijjimoooflkaaaDnLaws3
namespace Go.Proofs.Ytijjimoooflkaaa
open Go.Dn Go.Proofs
open Go.RowKit (Below)
set_option linter.unusedVariables false

theorem tBools : slT Try.prog ty.L_bool = some (ty.bool, 1, 1, .bool false) := by kernel_rfl

def rplace (n x y : Int) : Nat := (x.toNat - 1) * n.toNat + (y.toNat - 1)
def rsendN (S : NetS) (m : Msg) : NetS :=
  if lineOk S.n m.1 m.2.1 ∧ m.2.2.size ≤ 600000 then
    if S.cuts.getD (rplace S.n m.1 m.2.1) false = true ∨ 2000 ≤ S.l.length then { S with lost := IntKind.i64.wrap (S.lost + 1) } else { S with l := S.l ++ [m] }
  else S
def rcutC (n : Int) (cuts : List Bool) (x y : Int) (b : Bool) : List Bool := if lineOk n x y then cuts.set (rplace n x y) b else cuts
def refCells (a : Option Addr) (c g : Nat) (S : NetS) : Array Value := #[.int .i64 S.n, .slice a S.l.length c, .slice (some ⟨g, 0, none⟩) S.cuts.length S.cuts.length, .int .i64 S.lost]
structure RefAt (w : World) (r : Nat) (S : NetS) (a : Option Addr) (c g : Nat) : Prop where
  blk : w.heap[r]? = some (.cells (refCells a c g S) ty.ref20_Net (0, 0))
  row : Row w ty.api_Msg 3 a S.l.length c (cellsM S.l)
  cutr : w.heap[g]? = some (.cells ⟨S.cuts.map .bool⟩ ty.bool (0, 0))
  ner : rowB a ≠ some r
  neg : rowB a ≠ some g
  rg : g ≠ r
  cuts : S.cuts.length = S.n.toNat * S.n.toNat
  small : 1 ≤ S.n ∧ S.n ≤ 7
  few : S.l.length ≤ 2000
  data : ∀ m ∈ S.l, m.2.2.size ≤ 600000
def rG (r g : Nat) (a : Option Addr) (k : Nat) : Prop := k = r ∨ k = g ∨ rowB a = some k
structure RTurn (r g : Nat) (a a' : Option Addr) (w w' : World) : Prop where
  keeps : Keeps (rG r g a) w w'
  new : ∀ k, rowB a' = some k → rowB a = some k ∨ w.heap.size ≤ k
section
variable {w : World} {r : Nat} {S : NetS} {a : Option Addr} {c g : Nat}
theorem RefAt.c0 (h : RefAt w r S a c g) : w.cell? ⟨r, 0, none⟩ = some (.int .i64 S.n) := by simp [World.cell?, h.blk, refCells]
theorem RefAt.c1 (h : RefAt w r S a c g) : w.cell? ⟨r, 1, none⟩ = some (.slice a S.l.length c) := by simp [World.cell?, h.blk, refCells]
theorem RefAt.c2 (h : RefAt w r S a c g) : w.cell? ⟨r, 2, none⟩ = some (.slice (some ⟨g, 0, none⟩) S.cuts.length S.cuts.length) := by simp [World.cell?, h.blk, refCells]
theorem RefAt.c3 (h : RefAt w r S a c g) : w.cell? ⟨r, 3, none⟩ = some (.int .i64 S.lost) := by simp [World.cell?, h.blk, refCells]
theorem RefAt.lt (h : RefAt w r S a c g) : r < w.heap.size := (Array.getElem?_eq_some_iff.1 h.blk).1
theorem RefAt.ltg (h : RefAt w r S a c g) : g < w.heap.size := (Array.getElem?_eq_some_iff.1 h.cutr).1
theorem RefAt.ltG (h : RefAt w r S a c g) : ∀ k, rG r g a k → k < w.heap.size := by
  rintro k (rfl | rfl | hk)
  · exact h.lt
  · exact h.ltg
  · exact h.row.lt hk
theorem RefAt.keeps {F : Nat → Prop} {w' : World} (h : RefAt w r S a c g) (hk : Keeps F w w') (hn : ∀ k, rG r g a k → ¬ F k) : RefAt w' r S a c g :=
  ⟨hk.at h.blk (hn r (.inl rfl)), h.row.keeps hk fun k hk => hn k (.inr (.inr hk)), hk.at h.cutr (hn g (.inr (.inl rfl))), h.ner, h.neg, h.rg, h.cuts, h.small, h.few, h.data⟩
theorem RefAt.grown {w' : World} (h : RefAt w r S a c g) (hb : Below w.heap.size w w') : RefAt w' r S a c g := h.keeps (F := fun _ => False) (Keeps.of_below hb) (by simp)
theorem lookM_mem {l : List Msg} {i : Int} {m : Msg} (h : lookM l i = some m) : m ∈ l := by
  unfold lookM at h
  split at h
  · cases h
  · exact List.mem_of_getElem? h
theorem rplace_int {n x y : Int} (h : lineOk n x y) (hn : n ≤ 7) : IntKind.i64.wrap (IntKind.i64.wrap (IntKind.i64.wrap (IntKind.i64.wrap (x - 1) * n) + y) - 1) = (rplace n x y : Int) ∧ rplace n x y < n.toNat * n.toNat := by
  obtain ⟨h1, h2, h3, h4, h5⟩ := h
  obtain ⟨x, rfl⟩ : ∃ k : Nat, x = k := ⟨x.toNat, by omega⟩
  obtain ⟨y, rfl⟩ : ∃ k : Nat, y = k := ⟨y.toNat, by omega⟩
  obtain ⟨n, rfl⟩ : ∃ k : Nat, n = k := ⟨n.toNat, by omega⟩
  unfold rplace
  simp only [Int.toNat_natCast]
  obtain ⟨x', rfl⟩ : ∃ k : Nat, x = k + 1 := ⟨x - 1, by omega⟩
  obtain ⟨y', rfl⟩ : ∃ k : Nat, y = k + 1 := ⟨y - 1, by omega⟩
  have hx : x' < 7 := by omega
  have hy : y' < 7 := by omega
  have hn7 : n < 8 := by omega
  have hmul : (x' : Int) * n = ((x' * n : Nat) : Int) := by rw [Int.natCast_mul]
  have hb : x' * n ≤ 49 := Nat.le_trans (Nat.mul_le_mul (Nat.le_of_lt_succ (by omega : x' < 8)) (by omega : n ≤ 7)) (by omega)
  rw [wrap_i64 (n := ((x' + 1 : Nat) : Int) - 1) (by omega) (by omega), show ((x' + 1 : Nat) : Int) - 1 = (x' : Int) by omega, hmul, wrap_i64 (n := ((x' * n : Nat) : Int)) (by omega) (by omega),
    wrap_i64 (n := ((x' * n : Nat) : Int) + ((y' + 1 : Nat) : Int)) (by omega) (by omega), wrap_i64 (by omega) (by omega)]
  simp only [Nat.add_sub_cancel]
  refine ⟨by omega, ?_⟩
  have : x' * n + n ≤ n * n := by
    have : (x' + 1) * n ≤ n * n := Nat.mul_le_mul_right _ (by omega)
    rw [Nat.add_mul, Nat.one_mul] at this
    exact this
  omega
theorem ref_line_ok (h : RefAt w r S a c g) (x y : Int) : Calls Try.prog f.ref20_Net_line #[.pointer (some ⟨r, 0, none⟩), .int .i64 x, .int .i64 y] w (Ret fun v w' => v = .bool (decide (lineOk S.n x y)) ∧ w' = w) := by
  apply R.ref20_Net_line_calls
  unfold R.ref20_Net_line
  have no : ¬ lineOk S.n x y → Value.bool false = .bool (decide (lineOk S.n x y)) := fun hh => by simp [hh]
  refine IFB_dec (fun h1 => ⟨_, h.c0, IFB_dec (fun h2 => IFB_dec (fun h3 => ⟨_, h.c0, IFB_dec (fun h4 => ⟨?_, rfl⟩) (fun h4 => ⟨no ?_, rfl⟩)⟩) (fun h3 => ⟨no ?_, rfl⟩)) (fun h2 => ⟨no ?_, rfl⟩)⟩) (fun h1 => ⟨no ?_, rfl⟩)
  · by_cases hxy : x = y
    · have : ¬ lineOk S.n x y := by unfold lineOk; omega
      subst hxy
      simp [this]
    · have : lineOk S.n x y := by unfold lineOk; omega
      simp [this, hxy]
  all_goals unfold lineOk; omega

theorem ref_Look_ok (h : RefAt w r S a c g) (i : Int) : Calls Try.prog f.ref20_Net_Look #[.pointer (some ⟨r, 0, none⟩), .int .i64 i] w (Ret fun v w' => v = lookV (lookM S.l i) ∧ Below w.heap.size w w') := by
  apply R.ref20_Net_Look_calls
  unfold R.ref20_Net_Look
  refine (SH.start (fun _ => False) w).newB fun b3 w1 hb3 B1 S1 => ?_
  have h1 := h.grown B1
  refine IFB_dec (fun hi => ?_) (fun hi => ⟨_, _, _, h1.c1, IFB_dec (fun hge => ?_) (fun hlt => ⟨_, _, _, h1.c1, ⟨by omega, by omega⟩, ?_⟩)⟩)
  · refine S1.sto3 0 rfl fun w4 S4 => ⟨_, S4.cell 0 rfl rfl, _, S4.cell 0 rfl rfl, _, S4.cell 0 rfl rfl, ?_, S4.below⟩
    rw [lookM_none (.inl hi)]; rfl
  · refine S1.sto3 0 rfl fun w4 S4 => ⟨_, S4.cell 0 rfl rfl, _, S4.cell 0 rfl rfl, _, S4.cell 0 rfl rfl, ?_, S4.below⟩
    rw [lookM_none (.inr (by omega))]; rfl
  · obtain ⟨k, rfl⟩ : ∃ k : Nat, i = k := ⟨i.toNat, by omega⟩
    have hk : k < S.l.length := by omega
    obtain ⟨g', rfl, c0, c1, c2⟩ := row_msg h1.row hk
    refine ⟨_, c0, _, c1, _, c2, S1.sto3 0 rfl fun w4 S4 => ⟨_, S4.cell 0 rfl rfl, _, S4.cell 0 rfl rfl, _, S4.cell 0 rfl rfl, ?_, S4.below⟩⟩
    rw [lookM_some hk]; rfl

/-- the row turns to another one -/
theorem RefAt.row' {w1 w2 w3 : World} {l : List Msg} {a' : Option Addr} {c' : Nat} (h : RefAt w1 r S a c g) (hR : Row w2 ty.api_Msg 3 a' l.length c' (cellsM l)) (K2 : Keeps (fun k => rowB a = some k) w1 w2) (N2 : ∀ k, rowB a' = some k → rowB a = some k ∨ w1.heap.size ≤ k)
    (K3 : Keeps (· = r) w2 w3) (hb : w3.heap[r]? = some (.cells ((refCells a c g S).setIfInBounds 1 (.slice a' l.length c')) ty.ref20_Net (0, 0))) (hl : l.length ≤ 2000) (hd : ∀ m ∈ l, m.2.2.size ≤ 600000) : RefAt w3 r { S with l := l } a' c' g := by
  have hne : ∀ k, rowB a' = some k → k ≠ r ∧ k ≠ g := by
    intro k hk
    rcases N2 k hk with h1 | h1
    · exact ⟨fun he => h.ner (he ▸ h1), fun he => h.neg (he ▸ h1)⟩
    · have := h.lt; have := h.ltg; omega
  refine ⟨by rw [hb]; simp [refCells], hR.keeps K3 fun k hk => (hne k hk).1, K3.at (K2.at h.cutr h.neg) h.rg, fun he => (hne _ he).1 rfl, fun he => (hne _ he).2 rfl, h.rg, h.cuts, h.small, hl, hd⟩

theorem ref_Copy_ok (h : RefAt w r S a c g) (i : Int) : Calls Try.prog f.ref20_Net_Copy #[.pointer (some ⟨r, 0, none⟩), .int .i64 i] w (Ret fun v w' => v = .bool (copyB S.l i) ∧ ∃ a' c', RefAt w' r { S with l := copyL S.l i } a' c' g ∧ RTurn r g a a' w w') := by
  apply R.ref20_Net_Copy_calls
  unfold R.ref20_Net_Copy
  refine (ref_Look_ok h i).mono ?_
  rintro _ w1 ⟨_, rfl, rfl, B1⟩
  refine ⟨_, _, _, _, rfl, ((SH.start (fun _ => False) w).grown B1).lit3 fun b8 w5 hb8 B5 S5 => ?_⟩
  have B5' := below_trans B1 B5
  have h5 := h.grown B5'
  have T5 : RTurn r g a a w w5 := ⟨Keeps.of_below B5', fun k hk => .inl hk⟩
  cases ho : lookM S.l i with
  | none =>
    refine IFB_true ⟨by simp [copyB, ho], a, c, ?_, T5⟩
    simp only [copyL, ho]
    exact h5
  | some m =>
    refine IFB_false ⟨_, _, _, h5.c1, IFB_dec (fun hge => ?_) (fun hlt => ?_)⟩
    · have hn : ¬ S.l.length < 2000 := by omega
      refine ⟨by simp [copyB, hn], a, c, ?_, T5⟩
      simp only [copyL, ho, hn, if_false]
      exact h5
    · have hn : S.l.length < 2000 := by omega
      rw [ho] at S5
      refine S5.drawB fun w6 B6 S6 => ⟨_, _, _, (h5.grown B6).c1, _, S6.cell 0 rfl rfl, _, S6.cell 0 rfl rfl, _, S6.cell 0 rfl rfl, ?_⟩
      refine S6.newB fun b15 w7 hb15 B7 S7 => ⟨((h5.grown B6).grown B7).c1, ?_⟩
      have h7 := (h5.grown B6).grown B7
      have B7' := below_trans (below_trans B5' B6) B7
      refine append_msg (m := m) h7.row h.few (S7.get 0 rfl) fun a' c' w8 R8 K8 N8 => ⟨_, _, _, rfl, ?_⟩
      refine sto_blk (K8.at h7.blk h7.ner) (show 1 < 4 by decide) fun w9 K9 hb9 => ⟨by simp [copyB, ho, hn], a', c', ?_, ?_, fun k hk => ?_⟩
      · simp only [copyL, ho, hn, if_true]
        refine h7.row' R8 K8 N8 K9 hb9 (by simp; omega) fun m' hm' => ?_
        rcases List.mem_append.1 hm' with h1 | h1
        · exact h.data _ h1
        · simp only [List.mem_singleton] at h1
          subst h1
          exact h.data _ (lookM_mem ho)
      · exact ((Keeps.of_below B7').trans K8 fun k _ hk => .inr (.inr hk)).trans K9 fun k _ hk => .inl hk
      · rcases N8 k hk with hk' | hk'
        · exact .inl hk'
        · exact .inr (Nat.le_trans B7'.size hk')

theorem ref_Cut_ok (h : RefAt w r S a c g) (x y : Int) (t : Bool) : Calls Try.prog f.ref20_Net_Cut #[.pointer (some ⟨r, 0, none⟩), .int .i64 x, .int .i64 y, .bool t] w (Ret fun v w' => v = .int .i64 (cutE S.n x y) ∧ RefAt w' r { S with cuts := rcutC S.n S.cuts x y t } a c g ∧ RTurn r g a a w w') := by
  apply R.ref20_Net_Cut_calls
  unfold R.ref20_Net_Cut
  refine (ref_line_ok h x y).mono ?_
  rintro _ w ⟨_, rfl, rfl, rfl⟩
  refine ⟨_, rfl, IFB_not (IFB_dec (fun hl => ?_) (fun hl => ?_))⟩
  · have hE : cutE S.n x y = 0 := by simp [cutE, hl]
    rw [hE]
    refine (SH.start (fun _ => False) w).drawB fun w2 B2 S2 => ⟨_, _, _, (h.grown B2).c2, _, (h.grown B2).c0, ?_⟩
    have h2 := h.grown B2
    obtain ⟨e, hp⟩ := rplace_int hl h.small.2
    rw [e]
    have hc := h.cuts
    refine ⟨⟨by omega, by omega⟩, ?_⟩
    show STO ((⟨g, 0, none⟩ : Addr).add _) _ _ _
    rw [addr_add_blk, Int.toNat_natCast, Nat.mul_one, Nat.zero_add]
    refine sto_blk h2.cutr (by simp; omega) fun w3 K3 hb3 => ⟨rfl, ?_, (Keeps.of_below B2).trans K3 fun k _ hk => .inr (.inl hk), fun k hk => .inl hk⟩
    simp only [rcutC, hl, if_true]
    refine ⟨?_, h2.row.keeps K3 fun k hk he => h.neg (he ▸ hk), ?_, h.ner, h.neg, h.rg, by simpa using h.cuts, h.small, h.few, h.data⟩
    · rw [K3.at h2.blk (Ne.symm h.rg)]
      simp [refCells]
    · rw [hb3, List.map_set]
      simp
  · have hE : cutE S.n x y = 2 := by simp [cutE, hl]
    rw [hE]
    refine ⟨rfl, ?_, .refl _ _, fun k hk => .inl hk⟩
    simp only [rcutC, hl, if_false]
    exact h

theorem ref_Send_ok (h : RefAt w r S a c g) (m : Msg) : Calls Try.prog f.ref20_Net_Send #[.pointer (some ⟨r, 0, none⟩), .agg #[.int .i64 m.1, .int .i64 m.2.1, .string m.2.2]] w (Ret fun v w' => v = .int .i64 (sendE S.n m) ∧ ∃ a' c', RefAt w' r (rsendN S m) a' c' g ∧ RTurn r g a a' w w') := by
  apply R.ref20_Net_Send_calls
  unfold R.ref20_Net_Send
  refine (SH.start (fun _ => False) w).newB fun b5 w1 hb5 B1 S1 => ⟨_, S1.cell 0 rfl rfl, _, S1.cell 0 rfl rfl, (ref_line_ok (h.grown B1) m.1 m.2.1).mono ?_⟩
  rintro _ w1 ⟨_, rfl, rfl, rfl⟩
  have h1 := h.grown B1
  have T1 : RTurn r g a a w w1 := ⟨Keeps.of_below B1, fun k hk => .inl hk⟩
  have no : ¬ (lineOk S.n m.1 m.2.1 ∧ m.2.2.size ≤ 600000) → (Value.int .i64 2 = .int .i64 (sendE S.n m) ∧ ∃ a' c', RefAt w1 r (rsendN S m) a' c' g ∧ RTurn r g a a' w w1) := by
    intro hn
    refine ⟨by simp only [sendE, hn, if_false], a, c, ?_, T1⟩
    simp only [rsendN, hn, if_false]
    exact h1
  refine ⟨_, rfl, IFB_not (IFB_dec (fun hl => ⟨_, S1.cell 0 rfl rfl, IFB_dec (fun hs => no (by omega)) (fun hs => ?_)⟩) (fun hl => no (fun hh => hl hh.1)))⟩
  have hy : lineOk S.n m.1 m.2.1 ∧ m.2.2.size ≤ 600000 := ⟨hl, by omega⟩
  have hE : sendE S.n m = 0 := by simp only [sendE, hy, if_true, and_self]
  rw [hE]
  refine S1.drawB fun w3 B3 S3 => ⟨_, _, _, (h1.grown B3).c2, _, S3.cell 0 rfl rfl, _, (h1.grown B3).c0, _, S3.cell 0 rfl rfl, ?_⟩
  have h3 := h1.grown B3
  obtain ⟨e, hp⟩ := rplace_int hl h.small.2
  rw [e]
  have hc := h.cuts
  refine ⟨⟨by omega, by omega⟩, S.cuts.getD (rplace S.n m.1 m.2.1) false, ?_, ?_⟩
  · rw [addr_add_blk, Int.toNat_natCast, Nat.mul_one, Nat.zero_add]
    have : rplace S.n m.1 m.2.1 < S.cuts.length := by omega
    simp [World.cell?, h3.cutr, this]
  have B3' := below_trans B1 B3
  have lost : (S.cuts.getD (rplace S.n m.1 m.2.1) false = true ∨ 2000 ≤ S.l.length) → STO ⟨r, 3, none⟩ (.int .i64 (IntKind.i64.wrap (S.lost + 1))) (fun w4 => Value.int .i64 0 = .int .i64 0 ∧ ∃ a' c', RefAt w4 r (rsendN S m) a' c' g ∧ RTurn r g a a' w w4) w3 := by
    intro hcut
    refine sto_blk h3.blk (show 3 < 4 by decide) fun w4 K4 hb4 => ⟨rfl, a, c, ?_, (Keeps.of_below B3').trans K4 fun k _ hk => .inl hk, fun k hk => .inl hk⟩
    simp only [rsendN, hy, if_true, hcut, and_self]
    exact ⟨by rw [hb4]; simp [refCells], h3.row.keeps K4 fun k hk he => h.ner (he ▸ hk), K4.at h3.cutr h.rg, h.ner, h.neg, h.rg, h.cuts, h.small, h.few, h.data⟩
  refine IFB_of (fun hcut => ⟨_, h3.c3, lost (.inl hcut)⟩) (fun hcut => ⟨_, _, _, h3.c1, IFB_dec (fun hf => ⟨_, h3.c3, lost (.inr (by omega))⟩) (fun hf => ?_)⟩)
  refine S3.drawB fun w6 B6 S6 => ⟨_, _, _, (h3.grown B6).c1, _, S6.cell 0 rfl rfl, _, S6.cell 0 rfl rfl, _, S6.cell 0 rfl rfl, ?_⟩
  refine S6.newB fun b15 w7 hb15 B7 S7 => ⟨((h3.grown B6).grown B7).c1, ?_⟩
  have h7 := (h3.grown B6).grown B7
  have B7' := below_trans (below_trans B3' B6) B7
  refine append_msg (m := m) h7.row h.few (S7.get 0 rfl) fun a' c' w8 R8 K8 N8 => ⟨_, _, _, rfl, ?_⟩
  have hcn : ¬ (S.cuts.getD (rplace S.n m.1 m.2.1) false = true ∨ 2000 ≤ S.l.length) := by rw [hcut]; simp; omega
  refine sto_blk (K8.at h7.blk h7.ner) (show 1 < 4 by decide) fun w9 K9 hb9 => ⟨rfl, a', c', ?_, ?_, fun k hk => ?_⟩
  · simp only [rsendN, hy, if_true, hcn, if_false, and_self]
    refine h7.row' R8 K8 N8 K9 hb9 (by simp; omega) fun m' hm' => ?_
    rcases List.mem_append.1 hm' with h1 | h1
    · exact h.data _ h1
    · simp only [List.mem_singleton] at h1
      subst h1
      exact hy.2
  · exact ((Keeps.of_below B7').trans K8 fun k _ hk => .inr (.inr hk)).trans K9 fun k _ hk => .inl hk
  · rcases N8 k hk with hk' | hk'
    · exact .inl hk'
    · exact .inr (Nat.le_trans B7'.size hk')
end
end Go.Proofs.Ytijjimoooflkaaa
