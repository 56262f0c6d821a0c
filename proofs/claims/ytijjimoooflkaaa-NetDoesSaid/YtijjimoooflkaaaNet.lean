/-
  A network in memory: its block, the row of its messages; what each method does.
-/
import Derived.Test.YtijjimoooflkaaaSeal
import Derived.Test.YtijjimoooflkaaaDnLaws2
namespace Go.Proofs.Ytijjimoooflkaaa
open Go.Dn Go.Proofs
open Go.RowKit (Below)
set_option linter.unusedVariables false

abbrev Msg := Int × Int × ByteArray
def msgC (m : Msg) : List Value := [.int .i64 m.1, .int .i64 m.2.1, .string m.2.2]
def msgV (m : Msg) : Value := .agg #[.int .i64 m.1, .int .i64 m.2.1, .string m.2.2]
def noMsg : Msg := (0, 0, ⟨#[]⟩)
def cellsM (l : List Msg) : List Value := l.flatMap msgC
theorem cellsM_len (l : List Msg) : (cellsM l).length = l.length * 3 := by
  induction l with
  | nil => rfl
  | cons m l ih => simp only [cellsM, List.flatMap_cons, List.length_append, List.length_cons] at *; rw [ih]; simp [msgC]; omega
theorem cellsM_append (l m : List Msg) : cellsM (l ++ m) = cellsM l ++ cellsM m := by simp [cellsM]
theorem cellsM_get : ∀ (l : List Msg) (i : Nat) (h : i < l.length) (j : Nat) (hj : j < 3), (cellsM l)[i * 3 + j]? = (msgC l[i])[j]?
  | m :: l, 0, h, j, hj => by
    simp only [cellsM, List.flatMap_cons, List.getElem_cons_zero, Nat.zero_mul, Nat.zero_add]
    rw [List.getElem?_append_left (by simp [msgC]; omega)]
  | m :: l, i + 1, h, j, hj => by
    have := cellsM_get l i (by simpa using h) j hj
    simp only [cellsM, List.flatMap_cons, List.getElem_cons_succ] at this ⊢
    rw [List.getElem?_append_right (by simp [msgC]; omega), ← this]
    congr 1
    simp [msgC]
    omega
theorem cellsM_take : ∀ (l : List Msg) (i : Nat), (cellsM l).take (i * 3) = cellsM (l.take i)
  | [], i => by simp [cellsM]
  | m :: l, 0 => by simp [cellsM]
  | m :: l, i + 1 => by
    have := cellsM_take l i
    simp only [cellsM, List.flatMap_cons, List.take_succ_cons] at this ⊢
    have h3 : (i + 1) * 3 = (msgC m).length + i * 3 := by simp [msgC]; omega
    rw [h3, List.take_length_add_append, this]
theorem cellsM_drop : ∀ (l : List Msg) (i : Nat), (cellsM l).drop (i * 3) = cellsM (l.drop i)
  | [], i => by simp [cellsM]
  | m :: l, 0 => by simp [cellsM]
  | m :: l, i + 1 => by
    have := cellsM_drop l i
    simp only [cellsM, List.flatMap_cons, List.drop_succ_cons] at this ⊢
    have h3 : (i + 1) * 3 = (msgC m).length + i * 3 := by simp [msgC]; omega
    rw [h3, List.drop_length_add_append, this]
theorem cellsM_one (l : List Msg) : ∀ u ∈ cellsM l, u.oneCell' = true := by
  intro u hu
  simp only [cellsM, List.mem_flatMap] at hu
  obtain ⟨m, _, hm⟩ := hu
  simp [msgC] at hm
  rcases hm with rfl | rfl | rfl <;> rfl
theorem cellsM_set : ∀ (l : List Msg) (i : Nat) (h : i < l.length) (d : ByteArray), (cellsM l).set (i * 3 + 2) (.string d) = cellsM (l.set i (l[i].1, l[i].2.1, d))
  | m :: l, 0, h, d => by simp [cellsM, msgC]
  | m :: l, i + 1, h, d => by
    have := cellsM_set l i (by simpa using h) d
    simp only [cellsM, List.flatMap_cons, List.set_cons_succ, List.getElem_cons_succ] at this ⊢
    rw [List.set_append_right _ _ (by simp [msgC]; omega), ← this]
    congr 2
    simp [msgC]
    omega

structure NetS where
  n : Int
  l : List Msg
  lost : Int
  cuts : List Bool

def lineOk (n f t : Int) : Prop := 1 ≤ f ∧ 1 ≤ t ∧ f ≤ n ∧ t ≤ n ∧ f ≠ t
instance (n f t : Int) : Decidable (lineOk n f t) := by unfold lineOk; infer_instance
def placeOf (f t : Int) : Nat := f.toNat * 8 + t.toNat
def lookM (l : List Msg) (i : Int) : Option Msg := if i < 0 then none else l[i.toNat]?
def lookV (o : Option Msg) : Value := .tuple #[msgV (o.getD noMsg), .bool o.isSome]
def sendE (n : Int) (m : Msg) : Int := if lineOk n m.1 m.2.1 ∧ m.2.2.size ≤ 600000 then 0 else 2
def sendN (S : NetS) (m : Msg) : NetS :=
  if lineOk S.n m.1 m.2.1 ∧ m.2.2.size ≤ 600000 then
    if S.cuts.getD (placeOf m.1 m.2.1) false = true ∨ 2000 ≤ S.l.length then { S with lost := IntKind.i64.wrap (S.lost + 1) } else { S with l := S.l ++ [m] }
  else S
def takeL (l : List Msg) (i : Int) : List Msg := if i < 0 then l else l.eraseIdx i.toNat
def copyB (l : List Msg) (i : Int) : Bool := (lookM l i).isSome && decide (l.length < 2000)
def copyL (l : List Msg) (i : Int) : List Msg :=
  match lookM l i with
  | some m => if l.length < 2000 then l ++ [m] else l
  | none => l
def turnB (l : List Msg) (i at_ : Int) : Bool :=
  match lookM l i with
  | some m => decide (0 ≤ at_ ∧ at_ < m.2.2.size)
  | none => false
def turned (d : ByteArray) (at_ : Int) (c : UInt8) : ByteArray := sof ((bl d).set at_.toNat c)
def turnL (l : List Msg) (i at_ : Int) (c : UInt8) : List Msg :=
  match lookM l i with
  | some m => if 0 ≤ at_ ∧ at_ < m.2.2.size then l.set i.toNat (m.1, m.2.1, turned m.2.2 at_ c) else l
  | none => l
def cutE (n f t : Int) : Int := if lineOk n f t then 0 else 2
def cutC (n : Int) (cuts : List Bool) (f t : Int) (b : Bool) : List Bool := if lineOk n f t then cuts.set (placeOf f t) b else cuts

def netCells (a : Option Addr) (c : Nat) (S : NetS) : Array Value := ⟨.slice a S.l.length c :: .int .i64 S.lost :: .int .i64 S.n :: S.cuts.map Value.bool⟩
/-- the network S at block b, its messages' row at a -/
structure NetAt (w : World) (b : Nat) (S : NetS) (a : Option Addr) (c : Nat) : Prop where
  blk : w.heap[b]? = some (.cells (netCells a c S) ty.net_Net (0, 0))
  row : Row w ty.api_Msg 3 a S.l.length c (cellsM S.l)
  ne : rowB a ≠ some b
  cuts : S.cuts.length = 64
  small : S.n ≤ 7
  few : S.l.length ≤ 2000
/-- what a call on it may change: its block, its row; the row is the same one or a new one -/
structure Turn (b : Nat) (a a' : Option Addr) (w w' : World) : Prop where
  keeps : Keeps (fun k => k = b ∨ rowB a = some k) w w'
  new : ∀ k, rowB a' = some k → rowB a = some k ∨ w.heap.size ≤ k

theorem NetAt.cell {w : World} {b : Nat} {S : NetS} {a : Option Addr} {c : Nat} (h : NetAt w b S a c) {i : Nat} {v : Value} (hv : (netCells a c S)[i]? = some v) : w.cell? ⟨b, i, none⟩ = some v := by
  simp [World.cell?, h.blk, hv]
theorem NetAt.l0 {w : World} {b : Nat} {S : NetS} {a : Option Addr} {c : Nat} (h : NetAt w b S a c) : w.cell? ⟨b, 0, none⟩ = some (.slice a S.l.length c) := h.cell rfl
theorem NetAt.l1 {w : World} {b : Nat} {S : NetS} {a : Option Addr} {c : Nat} (h : NetAt w b S a c) : w.cell? ⟨b, 1, none⟩ = some (.int .i64 S.lost) := h.cell rfl
theorem NetAt.l2 {w : World} {b : Nat} {S : NetS} {a : Option Addr} {c : Nat} (h : NetAt w b S a c) : w.cell? ⟨b, 2, none⟩ = some (.int .i64 S.n) := h.cell rfl
theorem NetAt.l3 {w : World} {b : Nat} {S : NetS} {a : Option Addr} {c : Nat} (h : NetAt w b S a c) {i : Nat} (hi : i < 64) : w.cell? ⟨b, 3 + i, none⟩ = some (.bool (S.cuts.getD i false)) := by
  have hl := h.cuts
  refine h.cell ?_
  have : (netCells a c S)[3 + i]? = (S.cuts.map Value.bool)[i]? := by
    simp only [netCells, List.getElem?_toArray]
    rw [show 3 + i = i + 1 + 1 + 1 by omega]
    simp
  rw [this]
  simp [hl, hi]
theorem NetAt.lt {w : World} {b : Nat} {S : NetS} {a : Option Addr} {c : Nat} (h : NetAt w b S a c) : b < w.heap.size := (Array.getElem?_eq_some_iff.1 h.blk).1
theorem NetAt.keeps {F : Nat → Prop} {w w' : World} {b : Nat} {S : NetS} {a : Option Addr} {c : Nat} (h : NetAt w b S a c) (hk : Keeps F w w') (hb : ¬ F b) (hr : ∀ k, rowB a = some k → ¬ F k) : NetAt w' b S a c :=
  ⟨hk.at h.blk hb, h.row.keeps hk hr, h.ne, h.cuts, h.small, h.few⟩
theorem NetAt.grown {w w' : World} {b : Nat} {S : NetS} {a : Option Addr} {c : Nat} (h : NetAt w b S a c) (hk : Below w.heap.size w w') : NetAt w' b S a c :=
  h.keeps (F := fun _ => False) (Keeps.of_below hk) (by simp) (by simp)
theorem Turn.of_below {b : Nat} {a : Option Addr} {w w' : World} (h : Below w.heap.size w w') : Turn b a a w w' := ⟨Keeps.of_below h, fun _ hk => .inl hk⟩
theorem Turn.before {b : Nat} {a a' : Option Addr} {w w1 w2 : World} (h1 : Below w.heap.size w w1) (h : Turn b a a' w1 w2) : Turn b a a' w w2 :=
  ⟨(Keeps.of_below h1).trans h.keeps (fun _ _ h => h), fun k hk => (h.new k hk).imp id fun h => Nat.le_trans h1.size h⟩
theorem Turn.behind {b : Nat} {a a' : Option Addr} {w w1 w2 : World} (h : Turn b a a' w w1) (h1 : Below w1.heap.size w1 w2) : Turn b a a' w w2 :=
  ⟨h.keeps.trans (Keeps.of_below (F := fun _ => False) h1) (by simp), h.new⟩

theorem below_new2 {w w1 : World} (h : Below w.heap.size w w1) (o : Obj) : Below w.heap.size w (w1.alloc o) := h.alloc h.size o
theorem below_sto {w w1 : World} (h : Below w.heap.size w w1) {b i : Nat} (hb : w.heap.size ≤ b) (v : Value) : Below w.heap.size w (w1.setCell ⟨b, i, none⟩ v) := h.setCell hb v

/-! ### what only reads -/
theorem net_queue_Many_ok {w : World} {b : Nat} {S : NetS} {a : Option Addr} {c : Nat} (h : NetAt w b S a c) :
    Calls Try.prog f.net_queue_Many #[.pointer (some ⟨b, 0, none⟩)] w (Ret fun v w' => v = .int .i64 (S.l.length : Int) ∧ w' = w) := by
  apply R.net_queue_Many_calls
  exact ⟨_, _, _, h.l0, rfl, rfl⟩
theorem net_queue_Lost_ok {w : World} {b : Nat} {S : NetS} {a : Option Addr} {c : Nat} (h : NetAt w b S a c) :
    Calls Try.prog f.net_queue_Lost #[.pointer (some ⟨b, 0, none⟩)] w (Ret fun v w' => v = .int .i64 S.lost ∧ w' = w) := by
  apply R.net_queue_Lost_calls
  exact ⟨_, h.l1, rfl, rfl⟩
theorem net_Net_in_ok (w : World) (b : Nat) : Calls Try.prog f.net_Net_in #[.pointer (some ⟨b, 0, none⟩)] w (Ret fun v w' => v = .pointer (some ⟨b, 0, none⟩) ∧ w' = w) := by
  apply R.net_Net_in_calls
  exact ⟨rfl, rfl⟩
theorem net_Net_Many_ok {w : World} {b : Nat} {S : NetS} {a : Option Addr} {c : Nat} (h : NetAt w b S a c) :
    Calls Try.prog f.net_Net_Many #[.pointer (some ⟨b, 0, none⟩)] w (Ret fun v w' => v = .int .i64 (S.l.length : Int) ∧ w' = w) := by
  apply R.net_Net_Many_calls
  refine (net_Net_in_ok w b).mono ?_
  rintro _ _ ⟨_, rfl, rfl, rfl⟩
  refine ⟨_, rfl, (net_queue_Many_ok h).mono ?_⟩
  rintro _ _ ⟨_, rfl, rfl, rfl⟩
  exact ⟨_, rfl, rfl, rfl⟩
theorem net_Net_Lost_ok {w : World} {b : Nat} {S : NetS} {a : Option Addr} {c : Nat} (h : NetAt w b S a c) :
    Calls Try.prog f.net_Net_Lost #[.pointer (some ⟨b, 0, none⟩)] w (Ret fun v w' => v = .int .i64 S.lost ∧ w' = w) := by
  apply R.net_Net_Lost_calls
  refine (net_Net_in_ok w b).mono ?_
  rintro _ _ ⟨_, rfl, rfl, rfl⟩
  refine ⟨_, rfl, (net_queue_Lost_ok h).mono ?_⟩
  rintro _ _ ⟨_, rfl, rfl, rfl⟩
  exact ⟨_, rfl, rfl, rfl⟩
theorem net_Net_line_ok {w : World} {b : Nat} {S : NetS} {a : Option Addr} {c : Nat} (h : NetAt w b S a c) (x y : Int) :
    Calls Try.prog f.net_Net_line #[.pointer (some ⟨b, 0, none⟩), .int .i64 x, .int .i64 y] w (Ret fun v w' => v = .int .i64 (cutE S.n x y) ∧ w' = w) := by
  apply R.net_Net_line_calls
  unfold R.net_Net_line
  have no : ¬ lineOk S.n x y → cutE S.n x y = 2 := fun hh => by simp [cutE, hh]
  refine IFB_dec (fun h1 => ?_) (fun h1 => ⟨_, h.l2, IFB_dec (fun h2 => ?_) (fun h2 => IFB_eq (fun h3 => ?_) (fun h3 => ?_))⟩)
  · refine ⟨by rw [no]; unfold lineOk; split at h1 <;> omega, rfl⟩
  · refine ⟨by rw [no]; unfold lineOk; split at h2 <;> omega, rfl⟩
  · refine ⟨by rw [no]; unfold lineOk; omega, rfl⟩
  · have : lineOk S.n x y := by
      unfold lineOk
      split at h1 <;> split at h2 <;> omega
    exact ⟨by simp [cutE, this], rfl⟩
end Go.Proofs.Ytijjimoooflkaaa
