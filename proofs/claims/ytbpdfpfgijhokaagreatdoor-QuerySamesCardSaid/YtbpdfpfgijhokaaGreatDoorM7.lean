/-
  Texts of this claim, laid one behind the other by a program of mine (install.py): P.Qp1, P.Qp2, P.Qp3, P.Qp4, P.ReadQ, P.Qp5, P.Qp6, P.Qr, P.Tree, P.PlW, P.Qs, P.PlX, P.PlY, P.PlArg, P.Qt, P.Inj4.
-/
import Derived.Test.YtbpdfpfgijhokaaGreatDoorM6
import Derived.Test.YtbpdfpfgijhokaaGreatDoorRead
import Derived.Test.YtbpdfpfgijhokaaGreatDoorM3
import Derived.Tactics
import Derived.Tactics2
import Derived.Defers
import Derived.Recover
import Derived.Laws.Pointers
import Derived.Test.YtbpdfpfgijhokaaGreatDoorM4
namespace Go.Proofs.YtbpdfpfgijhokaaGreatDoor
set_option maxRecDepth 100000
open Go.Dn Go.Proofs
open Go.RowKit (Below)
set_option linter.unusedVariables false
abbrev ppL (b : Nat) (x : Option Addr) (c : Nat) (L : List Tk) (H : List It) : List It := It.cells b #[.slice x L.length c] ty.query_parser :: It.rd x (tksL L) :: H
def PS (w0 w : World) (b : Nat) (L : List Tk) (H : List It) : Prop := ∃ x c, L.length ≤ c ∧ c ≤ 9223372036854775807 ∧ ST w0 w (ppL b x c L H)
theorem ppL_in {w0 w : World} {H : List It} {b : Nat} {x : Option Addr} {c : Nat} {L : List Tk} {y : It} (S : ST w0 w (y :: ppL b x c L H)) : ST w0 w (ppL b x c L (y :: H)) := (S.pull 2 rfl).pull 2 rfl
section
variable {w w0 : World} {H : List It} {b : Nat} {L : List Tk} {t : Tk}
theorem PS.newB (S : PS w0 w b L H) {cs : Array Value} {ty : TypeId} {k : Nat → World → Prop} (hk : ∀ b' w', PS w0 w' b L (It.cells b' cs ty :: H) → k b' w') : NEWB cs ty k w := by
  obtain ⟨x, c, h1, h2, S⟩ := S
  exact S.newB fun b' w' _ _ S' => hk b' w' ⟨x, c, h1, h2, ppL_in S'⟩
theorem PS.cell (S : PS w0 w b L H) (n : Nat) {b' : Nat} {cs : Array Value} {ty : TypeId} (hn : H[n]? = some (It.cells b' cs ty)) {i : Nat} {v : Value} (hv : cs[i]? = some v) : w.cell? ⟨b', i, none⟩ = some v := by
  obtain ⟨x, c, h1, h2, S⟩ := S
  exact S.cell (n + 2) hn hv
theorem PS.sto (S : PS w0 w b L H) (n : Nat) {b' : Nat} {cs cs' : Array Value} {ty : TypeId} (hn : H[n]? = some (It.cells b' cs ty)) {i : Nat} {v : Value} {k : World → Prop} (hi : i < cs.size) (hc : cs.setIfInBounds i v = cs')
    (hk : ∀ w', PS w0 w' b L (H.set n (It.cells b' cs' ty)) → k w') : STO ⟨b', i, none⟩ v k w := by
  obtain ⟨x, c, h1, h2, S⟩ := S
  exact S.sto (n + 2) hn hi hc fun w' S' => hk w' ⟨x, c, h1, h2, S'⟩
theorem PS.draw (S : PS w0 w b L H) {k : World → Prop} (hk : ∀ w', PS w0 w' b L H → k w') : DRAW k w := by
  obtain ⟨x, c, h1, h2, S⟩ := S
  exact S.draw fun w' _ S' => hk w' ⟨x, c, h1, h2, S'⟩
theorem PS.grown (S : PS w0 w b L H) {w' : World} (B : Below w.heap.size w w') : PS w0 w' b L H := by
  obtain ⟨x, c, h1, h2, S⟩ := S
  exact ⟨x, c, h1, h2, S.grown B⟩
theorem PS.drop (S : PS w0 w b L H) (n : Nat) : PS w0 w b L (H.drop n) := by
  obtain ⟨x, c, h1, h2, S⟩ := S
  exact ⟨x, c, h1, h2, S.sub (List.Sublist.cons_cons _ (List.Sublist.cons_cons _ (List.drop_sublist n H)))⟩
theorem PS.bel (S : PS w0 w b L H) : Below w0.heap.size w0 w := by
  obtain ⟨x, c, h1, h2, S⟩ := S
  exact S.bel
theorem PS.call (S : PS w0 w b L H) {P : Program} {f : FuncId} {args : Array Value} {Q : Ending → World → Prop} {v : Value} (h : Calls P f args w (Ret fun r w' => r = v ∧ Below w.heap.size w w')) (hk : ∀ w', PS w0 w' b L H → Q (.returned v) w') : Calls P f args w Q :=
  h.mono (by rintro _ w' ⟨_, rfl, rfl, B⟩; exact hk w' (S.grown B))
theorem PS.perm (S : PS w0 w b L H) {H' : List It} (h : H.Perm H') : PS w0 w b L H' := by
  obtain ⟨x, c, h1, h2, S⟩ := S
  exact ⟨x, c, h1, h2, S.perm ((h.cons _).cons _)⟩
theorem PS.lit6 (S : PS w0 w b L H) {z0 z1 z2 z3 z4 z5 v0 v1 v2 v3 v4 v5 : Value} {ty : TypeId} {k : Nat → World → Prop} (hk : ∀ b' w', PS w0 w' b L (It.cells b' #[v0, v1, v2, v3, v4, v5] ty :: H) → k b' w') :
    NEWB #[z0, z1, z2, z3, z4, z5] ty (fun b w => STO ⟨b, 0, none⟩ v0 (fun w => STO ⟨b, 1, none⟩ v1 (fun w => STO ⟨b, 2, none⟩ v2 (fun w => STO ⟨b, 3, none⟩ v3 (fun w => STO ⟨b, 4, none⟩ v4 (fun w => STO ⟨b, 5, none⟩ v5 (fun w => k b w) w) w) w) w) w) w) w := by
  obtain ⟨x, c, h1, h2, S⟩ := S
  exact S.lit6 fun b' w' _ S' => hk b' w' ⟨x, c, h1, h2, ppL_in S'⟩
theorem PS.lit3 (S : PS w0 w b L H) {z0 z1 z2 v0 v1 v2 : Value} {ty : TypeId} {k : Nat → World → Prop} (hk : ∀ b' w', PS w0 w' b L (It.cells b' #[v0, v1, v2] ty :: H) → k b' w') :
    NEWB #[z0, z1, z2] ty (fun b w => STO ⟨b, 0, none⟩ v0 (fun w => STO ⟨b, 1, none⟩ v1 (fun w => STO ⟨b, 2, none⟩ v2 (fun w => k b w) w) w) w) w := by
  obtain ⟨x, c, h1, h2, S⟩ := S
  exact S.lit3 fun b' w' _ S' => hk b' w' ⟨x, c, h1, h2, ppL_in S'⟩
theorem PS.stEx (S : PS w0 w b L H) (n : Nat) {b' : Nat} {x0 x1 x2 x3 x4 x5 : Value} {t0 t2 t3 : Int} {t1 t4 : ByteArray} {a5 : Option Addr} {l5 c5 : Nat} {t : TypeId} (hn : H[n]? = some (It.cells b' #[x0, x1, x2, x3, x4, x5] t)) {Q : Int → ByteArray → Int → Int → ByteArray → Option Addr → Nat → Nat → World → Prop}
    (hk : ∀ w', PS w0 w' b L (H.set n (It.cells b' #[.int .i64 t0, .string t1, .int .i64 t2, .int .i64 t3, .string t4, .slice a5 l5 c5] t)) → Q t0 t1 t2 t3 t4 a5 l5 c5 w') :
    STO ⟨b', 0, none⟩ (.int .i64 t0) (fun w => STO ⟨b', 1, none⟩ (.string t1) (fun w => STO ⟨b', 2, none⟩ (.int .i64 t2) (fun w => STO ⟨b', 3, none⟩ (.int .i64 t3) (fun w => STO ⟨b', 4, none⟩ (.string t4) (fun w => STO ⟨b', 5, none⟩ (.slice a5 l5 c5) (fun w =>
      ∃ r0 : Int, w.cell? ⟨b', 0, none⟩ = some (.int .i64 r0) ∧ ∃ r1 : ByteArray, w.cell? ⟨b', 1, none⟩ = some (.string r1) ∧ ∃ r2 : Int, w.cell? ⟨b', 2, none⟩ = some (.int .i64 r2) ∧ ∃ r3 : Int, w.cell? ⟨b', 3, none⟩ = some (.int .i64 r3) ∧ ∃ r4 : ByteArray, w.cell? ⟨b', 4, none⟩ = some (.string r4) ∧
      ∃ (r5 : Option Addr) (r5l r5c : Nat), w.cell? ⟨b', 5, none⟩ = some (.slice r5 r5l r5c) ∧ Q r0 r1 r2 r3 r4 r5 r5l r5c w) w) w) w) w) w) w := by
  obtain ⟨x, c, h1, h2, S⟩ := S
  exact Go.Proofs.YtbpdfpfgijhokaaGreatDoor.stEx S (n + 2) hn fun w' S' => hk w' ⟨x, c, h1, h2, S'⟩
theorem PS.stX (S : PS w0 w b L H) (n : Nat) {b' : Nat} {x : Ex} {a : Option Addr} {cap : Nat} (hn : H[n]? = some (exI b' (exHead x a cap))) {Q : Int → ByteArray → Int → Int → ByteArray → Option Addr → Nat → Nat → Prop} (hq : Q x.op x.nm x.v.1 x.v.2.1 x.v.2.2 a x.ks.length cap) :
    ∃ t0 : Int, w.cell? ⟨b', 0, none⟩ = some (.int .i64 t0) ∧ ∃ t1 : ByteArray, w.cell? ⟨b', 1, none⟩ = some (.string t1) ∧ ∃ t2 : Int, w.cell? ⟨b', 2, none⟩ = some (.int .i64 t2) ∧ ∃ t3 : Int, w.cell? ⟨b', 3, none⟩ = some (.int .i64 t3) ∧ ∃ t4 : ByteArray, w.cell? ⟨b', 4, none⟩ = some (.string t4) ∧
      ∃ (t5 : Option Addr) (l c : Nat), w.cell? ⟨b', 5, none⟩ = some (.slice t5 l c) ∧ Q t0 t1 t2 t3 t4 t5 l c := by
  obtain ⟨y, c, h1, h2, S⟩ := S
  exact Go.Proofs.YtbpdfpfgijhokaaGreatDoor.stX S (n + 2) hn hq
/-! ### tokens -/
def isB (t : Tk) (s : ByteArray) : Bool := decide (t.2.1 = 1 ∨ t.2.1 = 4) && decide (t.2.2 = s)
def tkV (t : Tk) : Value := .agg #[.int .i64 t.1, .int .i64 t.2.1, .string t.2.2]
theorem pnext_ok (S : PS w0 w b (t :: L) H) : Calls Tryz.prog f.query_parser_next #[.pointer (some ⟨b, 0, none⟩)] w (Ret fun r w' => r = tkV t ∧ PS w0 w' b (t :: L) H) := by
  obtain ⟨x, c, hc, hc2, S⟩ := S
  apply R.query_parser_next_calls
  unfold R.query_parser_next
  refine S.newB fun b2 w1 _ _ S1 => ?_
  obtain ⟨p, hp, c0, c1, c2⟩ := tk_at (show Rd w1 x (tksL (t :: L)) from S1.get 2 rfl) (i := 0) (by simp)
  subst hp
  exact PTR_i ⟨_, _, _, S1.cell 1 rfl rfl, ⟨by omega, by rw [List.length_cons]; omega⟩, PTR_i ⟨_, c0, _, c1, _, c2, S1.sto3 0 rfl fun w4 S4 => ⟨_, S4.cell 0 rfl rfl, _, S4.cell 0 rfl rfl, _, S4.cell 0 rfl rfl, rfl, _, c, hc, hc2, S4.drop 1⟩⟩⟩
theorem pskip_ok (S : PS w0 w b (t :: L) H) : Calls Tryz.prog f.query_parser_skip #[.pointer (some ⟨b, 0, none⟩)] w (Ret fun r w' => r = tkV t ∧ PS w0 w' b L H) := by
  obtain ⟨x, c, hc, hc2, S⟩ := S
  rw [List.length_cons] at hc
  apply R.query_parser_skip_calls
  unfold R.query_parser_skip
  refine S.newB fun b2 w1 _ _ S1 => ?_
  obtain ⟨p, hp, c0, c1, c2⟩ := tk_at (show Rd w1 x (tksL (t :: L)) from S1.get 2 rfl) (i := 0) (by simp)
  subst hp
  refine PTR_i ⟨_, _, _, S1.cell 1 rfl rfl, ⟨by omega, by rw [List.length_cons]; omega⟩, PTR_i ⟨_, c0, _, c1, _, c2, S1.lit3 fun b9 w5 _ S5 => PTR_i ⟨_, _, _, S5.cell 2 rfl rfl, ⟨by omega, by rw [List.length_cons]; omega, by rw [List.length_cons]; omega⟩, PTR_i ?_⟩⟩⟩
  refine S5.sto 2 rfl (cs' := #[.slice (SLA (some p) 1 c 3) L.length (c - 1)]) (by simp) rfl fun w6 S6 => ⟨_, S6.cell 0 rfl rfl, _, S6.cell 0 rfl rfl, _, S6.cell 0 rfl rfl, S6.sto3 1 rfl fun w9 S9 => ⟨_, S9.cell 1 rfl rfl, _, S9.cell 1 rfl rfl, _, S9.cell 1 rfl rfl, rfl, SLA (some p) 1 c 3, c - 1, by omega, by omega, ?_⟩⟩
  have hr : Rd w9 (some p) (tksL (t :: L)) := S9.get 3 rfl
  have h2 := hr.sla 1 (L.length + 1) c 3 hc
  have e : ((tksL (t :: L)).drop (1 * 3)).take ((L.length + 1 - 1) * 3) = tksL L := by
    show (tksL L).take ((L.length + 1 - 1) * 3) = tksL L
    have : (tksL L).length = L.length * 3 := by
      clear hr h2 c0 c1 c2 S9 S6 S5 S1 S hc
      induction L with
      | nil => rfl
      | cons t L ih =>
        show (tkC t ++ tksL L).length = _
        rw [List.length_append, ih, List.length_cons]
        show 3 + L.length * 3 = _
        omega
    exact List.take_of_length_le (by omega)
  rw [e] at h2
  have S10 := S9.chg 3 rfl (Keeps.refl _ w9) (It.rd (SLA (some p) 1 c 3) (tksL L)) h2 fun k hk => .inl (by
    have : (It.rd (some p) (tksL (t :: L))).blk = some p.block := rfl
    rw [this]
    cases hL : tksL L with
    | nil => rw [hL] at hk; cases hk
    | cons v vs =>
      rw [hL] at hk
      have hk : rowB (SLA (some p) 1 c 3) = some k := hk
      unfold SLA at hk
      split at hk
      · exact hk
      · simpa [rowB, addr_add_block] using hk)
  exact S10.drop 2
theorem pis_ok (S : PS w0 w b (t :: L) H) (s : ByteArray) : Calls Tryz.prog f.query_parser_is #[.pointer (some ⟨b, 0, none⟩), .string s] w (Ret fun r w' => r = .bool (isB t s) ∧ PS w0 w' b (t :: L) H) := by
  apply R.query_parser_is_calls
  unfold R.query_parser_is
  refine (pnext_ok S).mono ?_
  rintro _ w1 ⟨_, rfl, rfl, S1⟩
  refine ⟨_, _, _, rfl, S1.lit3 fun b7 w5 S5 => ⟨_, S5.cell 0 rfl rfl, ?_⟩⟩
  have S6 := S5.drop 1
  refine IFB_eq (fun h => ⟨_, S5.cell 0 rfl rfl, ?_, S6⟩) (fun h => ⟨_, S5.cell 0 rfl rfl, IFB_eq (fun h4 => ⟨_, S5.cell 0 rfl rfl, ?_, S6⟩) (fun h4 => ⟨?_, S6⟩)⟩)
  · rw [isB, decide_eq_true (.inl h), Bool.true_and, bytesEq_iff]
  · rw [isB, decide_eq_true (.inr h4), Bool.true_and, bytesEq_iff]
  · rw [isB, decide_eq_false (by rintro (h1 | h1) <;> contradiction), Bool.false_and]
theorem pisN (S : PS w0 w b (t :: L) H) {s : ByteArray} (h : isB t s = false) {Q : Ending → World → Prop} (hk : ∀ w', PS w0 w' b (t :: L) H → Q (.returned (.bool false)) w') : Calls Tryz.prog f.query_parser_is #[.pointer (some ⟨b, 0, none⟩), .string s] w Q := by
  refine (pis_ok S s).mono ?_
  rintro _ w' ⟨_, rfl, rfl, S'⟩
  rw [h]
  exact hk w' S'
theorem ptake_ok (S : PS w0 w b (t :: L) H) (s : ByteArray) : Calls Tryz.prog f.query_parser_take #[.pointer (some ⟨b, 0, none⟩), .string s] w (Ret fun r w' => r = .bool (isB t s) ∧ PS w0 w' b (if isB t s = true then L else t :: L) H) := by
  apply R.query_parser_take_calls
  unfold R.query_parser_take
  refine (pis_ok S s).mono ?_
  rintro _ w1 ⟨_, rfl, rfl, S1⟩
  refine ⟨_, rfl, IFB_of (fun h => (pskip_ok S1).mono ?_) (fun h => ⟨by rw [h], by rw [if_neg (by rw [h]; decide)]; exact S1⟩)⟩
  rintro _ w2 ⟨_, rfl, rfl, S2⟩
  exact ⟨_, _, _, rfl, by rw [h], by rw [if_pos h]; exact S2⟩
theorem ptakeN (S : PS w0 w b (t :: L) H) {s : ByteArray} (h : isB t s = false) {Q : Ending → World → Prop} (hk : ∀ w', PS w0 w' b (t :: L) H → Q (.returned (.bool false)) w') : Calls Tryz.prog f.query_parser_take #[.pointer (some ⟨b, 0, none⟩), .string s] w Q := by
  refine (ptake_ok S s).mono ?_
  rintro _ w' ⟨_, rfl, rfl, S'⟩
  rw [h, if_neg (by decide)] at S'
  rw [h]
  exact hk w' S'
theorem ptakeY (S : PS w0 w b (t :: L) H) {s : ByteArray} (h : isB t s = true) {Q : Ending → World → Prop} (hk : ∀ w', PS w0 w' b L H → Q (.returned (.bool true)) w') : Calls Tryz.prog f.query_parser_take #[.pointer (some ⟨b, 0, none⟩), .string s] w Q := by
  refine (ptake_ok S s).mono ?_
  rintro _ w' ⟨_, rfl, rfl, S'⟩
  rw [h, if_pos rfl] at S'
  rw [h]
  exact hk w' S'
theorem pneedY {b9 : Nat} {s : ByteArray} (S : PS w0 w b (t :: L) (It.cells b9 #[.string s] ty.string :: H)) (h : isB t s = true) {Q : Ending → World → Prop} (hk : ∀ w', PS w0 w' b L H → Q (.returned (.tuple #[])) w') : Calls Tryz.prog f.query_parser_need #[.pointer (some ⟨b, 0, none⟩), .slice (some ⟨b9, 0, none⟩) 1 1] w Q := by
  have hh : Calls Tryz.prog f.query_parser_need #[.pointer (some ⟨b, 0, none⟩), .slice (some ⟨b9, 0, none⟩) 1 1] w (Ret fun v w' => v = .tuple #[] ∧ PS w0 w' b L H) := by
    apply R.query_parser_need_calls
    unfold R.query_parser_need
    refine forUp 1 (fun j w => PS w0 w b (if j = 0 then t :: L else L) (It.cells b9 #[.string s] ty.string :: H)) (by omega) S fun I M j w1 hj S1 next => ?_
    refine IFB_dec (fun hlt => ⟨⟨by omega, hlt⟩, ?_⟩) (fun hge => ⟨rfl, ?_⟩)
    · have hj0 : j = 0 := by change (j : Int) < ((1 : Nat) : Int) at hlt; omega
      subst hj0
      exact PTR_i ⟨_, S1.cell 0 rfl rfl, ptakeY S1 h fun w2 S2 => ⟨_, rfl, IFB_not (IFB_true (next _ (by omega) S2))⟩⟩
    · change ¬ (j : Int) < ((1 : Nat) : Int) at hge
      rw [if_neg (by omega)] at S1
      exact S1.drop 1
  refine hh.mono ?_
  rintro _ w' ⟨_, rfl, rfl, S'⟩
  exact hk w' S'
theorem pnameY (E : Env w0) (S : PS w0 w b (t :: L) H) (h1 : t.2.1 = 1) (h2 : isKeyB t.2.2 = false) {Q : Ending → World → Prop} (hk : ∀ w', PS w0 w' b L H → Q (.returned (.string t.2.2)) w') : Calls Tryz.prog f.query_parser_name #[.pointer (some ⟨b, 0, none⟩)] w Q := by
  have hh : Calls Tryz.prog f.query_parser_name #[.pointer (some ⟨b, 0, none⟩)] w (Ret fun v w' => v = .string t.2.2 ∧ PS w0 w' b L H) := by
    apply R.query_parser_name_calls
    unfold R.query_parser_name
    refine (pnext_ok S).mono ?_
    rintro _ w1 ⟨_, rfl, rfl, S1⟩
    refine ⟨_, _, _, rfl, S1.lit3 fun b6 w5 S5 => ⟨_, S5.cell 0 rfl rfl, IFB_ne (fun h => absurd h1 h) (fun _ => ⟨_, S5.cell 0 rfl rfl, call0 (query_isKey_ok _ (E.grown S5.bel)) ⟨_, rfl, IFB_no h2 ((pskip_ok (S5.drop 1)).mono ?_)⟩⟩)⟩⟩
    rintro _ w7 ⟨_, rfl, rfl, S7⟩
    exact ⟨_, _, _, rfl, rfl, S7⟩
  refine hh.mono ?_
  rintro _ w' ⟨_, rfl, rfl, S'⟩
  exact hk w' S'
def powF (t : Tk) : Int × Int :=
  if t.2.1 = 3 then (0, 0) else if t.2.2 = ⟨#[111, 114]⟩ then (1, 13) else if t.2.2 = ⟨#[97, 110, 100]⟩ then (2, 12) else if t.2.2 = ⟨#[61]⟩ then (5, 9) else if t.2.2 = ⟨#[60]⟩ then (5, 10) else if t.2.2 = ⟨#[60, 61]⟩ then (5, 11) else
  if t.2.2 = ⟨#[43]⟩ then (6, 3) else if t.2.2 = ⟨#[45]⟩ then (6, 4) else if t.2.2 = ⟨#[42]⟩ then (7, 5) else if t.2.2 = ⟨#[47]⟩ then (7, 6) else if t.2.2 = ⟨#[37]⟩ then (7, 7) else (0, 0)
theorem ppower_ok (t : Tk) : Calls Tryz.prog f.query_power #[tkV t] w (Ret fun r w' => r = .tuple #[.int .i64 (powF t).1, .int .i64 (powF t).2] ∧ Below w.heap.size w w') := by
  apply R.query_power_calls
  unfold R.query_power
  refine (ST.start w).newB fun b4 w1 _ _ S1 => ⟨_, S1.cell 0 rfl rfl, ?_⟩
  unfold powF
  refine IFB_eq (fun h => ⟨by rw [if_pos h], S1.bel⟩) (fun h => ?_)
  rw [if_neg h]
  refine ⟨_, S1.cell 0 rfl rfl, ?_⟩
  simp only [bytesEq_iff]
  refine IFB_dec (fun h => ⟨by rw [if_pos h], S1.bel⟩) (fun h => ?_)
  rw [if_neg h]
  refine IFB_dec (fun h => ⟨by rw [if_pos h], S1.bel⟩) (fun h => ?_)
  rw [if_neg h]
  refine IFB_dec (fun h => ⟨by rw [if_pos h], S1.bel⟩) (fun h => ?_)
  rw [if_neg h]
  refine IFB_dec (fun h => ⟨by rw [if_pos h], S1.bel⟩) (fun h => ?_)
  rw [if_neg h]
  refine IFB_dec (fun h => ⟨by rw [if_pos h], S1.bel⟩) (fun h => ?_)
  rw [if_neg h]
  refine IFB_dec (fun h => ⟨by rw [if_pos h], S1.bel⟩) (fun h => ?_)
  rw [if_neg h]
  refine IFB_dec (fun h => ⟨by rw [if_pos h], S1.bel⟩) (fun h => ?_)
  rw [if_neg h]
  refine IFB_dec (fun h => ⟨by rw [if_pos h], S1.bel⟩) (fun h => ?_)
  rw [if_neg h]
  refine IFB_dec (fun h => ⟨by rw [if_pos h], S1.bel⟩) (fun h => ?_)
  rw [if_neg h]
  refine IFB_dec (fun h => ⟨by rw [if_pos h], S1.bel⟩) (fun h => ?_)
  rw [if_neg h]
  exact ⟨rfl, S1.bel⟩
end
abbrev zex (b : Nat) : It := It.cells b #[.int .i64 0, .string E0, .int .i64 0, .int .i64 0, .string E0, .slice none 0 0] ty.api_Expr
abbrev tkI (b : Nat) (t : Tk) : It := It.cells b #[.int .i64 t.1, .int .i64 t.2.1, .string t.2.2] ty.query_token
def XR (f : FuncId) (more : List Value) (L L' : List Tk) (x : Ex) (Z : Option Addr → Nat → List It → Prop) : Prop :=
  ∀ {w0 w : World} {H : List It} {b : Nat}, Env w0 → PS w0 w b L H → Calls Tryz.prog f ⟨.pointer (some ⟨b, 0, none⟩) :: more⟩ w (Ret fun r w' => ∃ a cap K, Z a cap K ∧ r = .agg ⟨exHead x a cap⟩ ∧ PS w0 w' b L' (K ++ H))
def FR (lv : Int) (L L' : List Tk) (x : Ex) (own : Int) (Z : Option Addr → Nat → List It → Prop) : Prop :=
  ∀ {w0 w : World} {H : List It} {b : Nat}, Env w0 → PS w0 w b L H → Calls Tryz.prog f.query_parser_front #[.pointer (some ⟨b, 0, none⟩), .int .i64 lv] w (Ret fun r w' => ∃ a cap K, Z a cap K ∧ r = .tuple #[.agg ⟨exHead x a cap⟩, .int .i64 own] ∧ PS w0 w' b L' (K ++ H))
def leafR (a : Option Addr) (cap : Nat) (K : List It) : Prop := a = none ∧ cap = 0 ∧ K = []
structure PName (t : Tk) : Prop where
  w : t.2.1 = 1
  k : isKeyB t.2.2 = false
  hd : ∀ s ∈ headW, isB t s = false
section
variable {t u o : Tk} {L L1 L2 L' : List Tk} {x y : Ex} {Z Rx Ry : Option Addr → Nat → List It → Prop}
theorem patom_name (h : PName t) : XR f.query_parser_atom [] (t :: L) L (colX t.2.2) leafR := by
  intro w0 w H b E S
  apply R.query_parser_atom_calls
  unfold R.query_parser_atom
  refine S.newB fun b2 w1 S1 => (pnext_ok S1).mono ?_
  rintro _ w2 ⟨_, rfl, rfl, S2⟩
  refine ⟨_, _, _, rfl, S2.lit3 fun b7 w6 S6 => ⟨_, S6.cell 0 rfl rfl, IFB_eq (fun h2 => absurd (h.w.symm.trans h2) (by decide)) (fun _ => ⟨_, S6.cell 0 rfl rfl, IFB_eq (fun h3 => absurd (h.w.symm.trans h3) (by decide)) (fun _ => ?_)⟩)⟩⟩
  refine ⟨fun st w => st = [.bool false] ∧ PS w0 w b (t :: L) (tkI b7 t :: zex b2 :: H), pisN S6 (h.hd _ (by simp [headW])) fun w24 S24 => ⟨_, rfl, IFB_false (pisN S24 (h.hd _ (by simp [headW])) fun w25 S25 => ⟨_, rfl, IFB_false (pisN S25 (h.hd _ (by simp [headW])) fun w26 S26 => ⟨_, rfl, rfl, S26⟩)⟩)⟩, ?_⟩
  rintro _ w27 ⟨hst, S27⟩
  cases hst
  exact IFB_false (ptakeN S27 (h.hd _ (by simp [headW])) fun w36 S36 => ⟨_, rfl, IFB_false (ptakeN S36 (h.hd _ (by simp [headW])) fun w56 S56 => ⟨_, rfl, IFB_false (pnameY E S56 h.w h.k fun w73 S73 => ⟨_, rfl, S73.stEx 1 rfl fun w79 S79 => ⟨none, 0, [], ⟨rfl, rfl, rfl⟩, rfl, S79.drop 2⟩⟩)⟩)⟩)
def numX (n : Int) : Ex := .mk 2 E0 (1, n, E0) []
theorem patom_num (h : t.2.1 = 2) {n : Int} (hp : ∀ {w : World}, Calls Tryz.prog f.query_plain #[.string t.2.2] w (Ret fun r w' => r = .string t.2.2 ∧ Below w.heap.size w w'))
    (hc : ∀ {w : World}, Env w → Calls Tryz.prog f.query_constant #[.string t.2.2] w (Ret fun r w' => r = .agg ⟨exHead (numX n) none 0⟩ ∧ Below w.heap.size w w')) : XR f.query_parser_atom [] (t :: L) L (numX n) leafR := by
  intro w0 w H b E S
  apply R.query_parser_atom_calls
  unfold R.query_parser_atom
  refine S.newB fun b2 w1 S1 => (pnext_ok S1).mono ?_
  rintro _ w2 ⟨_, rfl, rfl, S2⟩
  refine ⟨_, _, _, rfl, S2.lit3 fun b7 w6 S6 => ⟨_, S6.cell 0 rfl rfl, IFB_eq (fun _ => (pskip_ok S6).mono ?_) (fun h2 => absurd h h2)⟩⟩
  rintro _ w7 ⟨_, rfl, rfl, S7⟩
  exact ⟨_, _, _, rfl, S7.call hp fun w8 S8 => ⟨_, rfl, S8.call (hc (E.grown S8.bel)) fun w9 S9 => ⟨_, _, _, _, _, _, _, _, rfl, S9.stEx 1 rfl fun w15 S15 => ⟨none, 0, [], ⟨rfl, rfl, rfl⟩, rfl, S15.drop 2⟩⟩⟩⟩
theorem ps_mid {w0 w : World} {b : Nat} {K H : List It} {z : It} (S : PS w0 w b L (K ++ z :: H)) : PS w0 w b L (z :: (K ++ H)) := S.perm List.perm_middle
theorem patom_par (h4 : t.2.1 = 4) (hh : ∀ s ∈ [(⟨#[110, 117, 108, 108]⟩ : ByteArray), ⟨#[116, 114, 117, 101]⟩, ⟨#[102, 97, 108, 115, 101]⟩, ⟨#[108, 101, 110]⟩], isB t s = false) (ho : isB t ⟨#[40]⟩ = true) (hx : XR f.query_parser_expr [.int .i64 1] L1 (u :: L2) x Z) (hu : isB u ⟨#[41]⟩ = true) :
    XR f.query_parser_atom [] (t :: L1) L2 x Z := by
  intro w0 w H b E S
  apply R.query_parser_atom_calls
  unfold R.query_parser_atom
  refine S.newB fun b2 w1 S1 => (pnext_ok S1).mono ?_
  rintro _ w2 ⟨_, rfl, rfl, S2⟩
  refine ⟨_, _, _, rfl, S2.lit3 fun b7 w6 S6 => ⟨_, S6.cell 0 rfl rfl, IFB_eq (fun h2 => absurd (h4.symm.trans h2) (by decide)) (fun _ => ⟨_, S6.cell 0 rfl rfl, IFB_eq (fun h3 => absurd (h4.symm.trans h3) (by decide)) (fun _ => ?_)⟩)⟩⟩
  refine ⟨fun st w => st = [.bool false] ∧ PS w0 w b (t :: L1) (tkI b7 t :: zex b2 :: H), pisN S6 (hh _ (by simp)) fun w24 S24 => ⟨_, rfl, IFB_false (pisN S24 (hh _ (by simp)) fun w25 S25 => ⟨_, rfl, IFB_false (pisN S25 (hh _ (by simp)) fun w26 S26 => ⟨_, rfl, rfl, S26⟩)⟩)⟩, ?_⟩
  rintro _ w27 ⟨hst, S27⟩
  cases hst
  refine IFB_false (ptakeN S27 (hh _ (by simp)) fun w36 S36 => ⟨_, rfl, IFB_false (ptakeY S36 ho fun w56 S56 => ⟨_, rfl, IFB_true ((hx E S56).mono ?_)⟩)⟩)
  rintro _ w57 ⟨_, rfl, a, cap, K, hR, rfl, S57⟩
  have S57 : PS w0 w57 b (u :: L2) (zex b2 :: (tkI b7 t :: (K ++ H))) := ((ps_mid S57).perm (List.Perm.cons _ List.perm_middle)).perm (List.Perm.swap _ _ _)
  refine ⟨_, _, _, _, _, _, _, _, rfl, S57.lit6 fun b107 w64 S64 => S64.newB fun b108 w65 S65 => pneedY S65 hu fun w66 S66 => ⟨rfl, S66.stX 0 rfl (S66.stEx 1 rfl fun w72 S72 => ⟨a, cap, K, hR, rfl, S72.drop 3⟩)⟩⟩
theorem pminus_ok (hx : XR f.query_parser_atom [] (t :: L) L' x Z) (hm : isB t ⟨#[45]⟩ = false) : XR f.query_parser_minus [] (t :: L) L' x Z := by
  intro w0 w H b E S
  apply R.query_parser_minus_calls
  unfold R.query_parser_minus
  refine S.newB fun b2 w1 S1 => ptakeN S1 hm fun w2 S2 => ⟨_, rfl, IFB_not (IFB_false ((hx E S2).mono ?_))⟩
  rintro _ w3 ⟨_, rfl, a, cap, K, hR, rfl, S3⟩
  exact ⟨_, _, _, _, _, _, _, _, rfl, (ps_mid S3).stEx 0 rfl fun w9 S9 => ⟨a, cap, K, hR, rfl, S9.drop 1⟩⟩
theorem pfront_ok {lv : Int} (hx : XR f.query_parser_minus [] (t :: L) L' x Z) (hn : isB t ⟨#[110, 111, 116]⟩ = false) : FR lv (t :: L) L' x 9 Z := by
  intro w0 w H b E S
  apply R.query_parser_front_calls
  unfold R.query_parser_front
  refine S.newB fun b3 w1 S1 => IFB_dec (fun _ => ptakeN S1 hn fun w2 S2 => ⟨_, rfl, IFB_false ((hx E S2).mono ?_)⟩) (fun _ => (hx E S1).mono ?_)
  · rintro _ w11 ⟨_, rfl, a, cap, K, hR, rfl, S3⟩
    exact ⟨_, _, _, _, _, _, _, _, rfl, (ps_mid S3).stEx 0 rfl fun w9 S9 => ⟨a, cap, K, hR, rfl, S9.drop 1⟩⟩
  · rintro _ w18 ⟨_, rfl, a, cap, K, hR, rfl, S3⟩
    exact ⟨_, _, _, _, _, _, _, _, rfl, (ps_mid S3).stEx 0 rfl fun w9 S9 => ⟨a, cap, K, hR, rfl, S9.drop 1⟩⟩
def isW : ByteArray := ⟨#[105, 115]⟩
theorem pexpr_end {lv own : Int} (hf : FR lv L (u :: L') x own Z) (hi : isB u isW = false) (hp : (powF u).1 < lv ∨ (powF u).1 = 0) : XR f.query_parser_expr [.int .i64 lv] L (u :: L') x Z := by
  intro w0 w H b E S
  apply R.query_parser_expr_calls
  unfold R.query_parser_expr
  refine S.newB fun b3 w1 S1 => (hf E S1).mono ?_
  rintro _ w2 ⟨_, rfl, a, cap, K, hR, rfl, S2⟩
  refine ⟨_, _, _, _, _, _, _, _, _, rfl, (ps_mid S2).lit6 fun b12 w9 S9 => ?_⟩
  have S9 : PS w0 w9 b (u :: L') (exI b12 (exHead x a cap) :: zex b3 :: (K ++ H)) := S9
  refine ⟨fun st w => st = [.int .i64 own] ∧ PS w0 w b (u :: L') (exI b12 (exHead x a cap) :: zex b3 :: (K ++ H)), fun _ _ => 0, ⟨rfl, S9⟩, ?_⟩
  rintro t w10 ⟨hst, S10⟩
  cases hst
  refine pisN S10 hi fun w11 S11 => ⟨_, rfl, IFB_false ((pnext_ok S11).mono ?_)⟩
  rintro _ w33 ⟨_, rfl, rfl, S33⟩
  refine ⟨_, _, _, rfl, S33.call (ppower_ok u) fun w34 S34 => ⟨_, _, rfl, fun _ _ => False, IFB_dec (fun _ => ?_) (fun hge => IFB_eq (fun _ => ?_) (fun hne => ?_)), fun _ h => h.elim⟩⟩
  · exact S34.stX 0 rfl (S34.stEx 1 rfl fun w40 S40 => ⟨a, cap, K, hR, rfl, S40.drop 2⟩)
  · exact S34.stX 0 rfl (S34.stEx 1 rfl fun w40 S40 => ⟨a, cap, K, hR, rfl, S40.drop 2⟩)
  · rcases hp with hp | hp
    · exact absurd hp hge
    · exact absurd hp hne
def opR (x y : Ex) (Rx Ry : Option Addr → Nat → List It → Prop) (a : Option Addr) (cap : Nat) (K : List It) : Prop :=
  ∃ k a0 c0 K0 a1 c1 K1, Rx a0 c0 K0 ∧ Ry a1 c1 K1 ∧ a = some ⟨k, 0, none⟩ ∧ cap = 2 ∧ K = It.cells k ⟨exHead x a0 c0 ++ exHead y a1 c1⟩ ty.api_Expr :: (K1 ++ K0)
theorem PS.sto6 {w0 w : World} {b : Nat} {H : List It} (S : PS w0 w b L H) (n : Nat) {b' : Nat} {x0 x1 x2 x3 x4 x5 v0 v1 v2 v3 v4 v5 : Value} {ty : TypeId} (hn : H[n]? = some (It.cells b' #[x0, x1, x2, x3, x4, x5] ty)) {k : World → Prop} (hk : ∀ w', PS w0 w' b L (H.set n (It.cells b' #[v0, v1, v2, v3, v4, v5] ty)) → k w') :
    STO ⟨b', 0, none⟩ v0 (fun w => STO ⟨b', 1, none⟩ v1 (fun w => STO ⟨b', 2, none⟩ v2 (fun w => STO ⟨b', 3, none⟩ v3 (fun w => STO ⟨b', 4, none⟩ v4 (fun w => STO ⟨b', 5, none⟩ v5 k w) w) w) w) w) w := by
  have hlt := (List.getElem?_eq_some_iff.1 hn).1
  have g : ∀ {x : It}, (H.set n x)[n]? = some x := List.getElem?_set_self hlt
  refine S.sto n hn (cs' := #[v0, x1, x2, x3, x4, x5]) (by simp) rfl fun w1 S1 => S1.sto n g (cs' := #[v0, v1, x2, x3, x4, x5]) (by simp) rfl fun w2 S2 => ?_
  rw [List.set_set] at S2
  refine S2.sto n g (cs' := #[v0, v1, v2, x3, x4, x5]) (by simp) rfl fun w3 S3 => ?_
  rw [List.set_set] at S3
  refine S3.sto n g (cs' := #[v0, v1, v2, v3, x4, x5]) (by simp) rfl fun w4 S4 => ?_
  rw [List.set_set] at S4
  refine S4.sto n g (cs' := #[v0, v1, v2, v3, v4, x5]) (by simp) rfl fun w5 S5 => ?_
  rw [List.set_set] at S5
  refine S5.sto n g (cs' := #[v0, v1, v2, v3, v4, v5]) (by simp) rfl fun w6 S6 => ?_
  rw [List.set_set] at S6
  exact hk w6 S6
theorem pexpr_op {lv m : Int} (hf : FR lv L (o :: L1) x 9 Rx) (hm : IntKind.i64.wrap ((powF o).1 + 1) = m) (hy : XR f.query_parser_expr [.int .i64 m] L1 (u :: L2) y Ry) (hio : isB o isW = false) (hlv : lv ≤ (powF o).1) (h1 : 6 ≤ (powF o).1) (h8 : (powF o).1 ≤ 8) (hi : isB u isW = false) (hp : (powF u).1 = 0) :
    XR f.query_parser_expr [.int .i64 lv] L (u :: L2) (.mk (powF o).2 E0 V0 [x, y]) (opR x y Rx Ry) := by
  intro w0 w H b E S
  apply R.query_parser_expr_calls
  unfold R.query_parser_expr
  refine S.newB fun b3 w1 S1 => (hf E S1).mono ?_
  rintro _ w2 ⟨_, rfl, a0, c0, K0, hRx, rfl, S2⟩
  refine ⟨_, _, _, _, _, _, _, _, _, rfl, (ps_mid S2).lit6 fun b12 w9 S9 => ?_⟩
  have S9 : PS w0 w9 b (o :: L1) (exI b12 (exHead x a0 c0) :: zex b3 :: (K0 ++ H)) := S9
  obtain ⟨X, hX⟩ : ∃ X, X = Ex.mk (powF o).2 E0 V0 [x, y] := ⟨_, rfl⟩
  rw [← hX]
  refine ⟨fun st w => (st = [.int .i64 9] ∧ PS w0 w b (o :: L1) (exI b12 (exHead x a0 c0) :: zex b3 :: (K0 ++ H))) ∨ (st = [.int .i64 (powF o).1] ∧ ∃ a cap K, opR x y Rx Ry a cap K ∧ PS w0 w b (u :: L2) (exI b12 (exHead X a cap) :: zex b3 :: (K ++ H))),
    fun st _ => match st with | [.int _ t] => if t = 9 then 1 else 0 | _ => 0, .inl ⟨rfl, S9⟩, ?_⟩
  rintro t w10 (⟨hst, S10⟩ | ⟨hst, a, cap, K, hR, S10⟩)
  · cases hst
    refine pisN S10 hio fun w11 S11 => ⟨_, rfl, IFB_false ((pnext_ok S11).mono ?_)⟩
    rintro _ w33 ⟨_, rfl, rfl, S33⟩
    refine ⟨_, _, _, rfl, S33.call (ppower_ok o) fun w34 S34 => ⟨_, _, rfl, fun _ w => PS w0 w b (o :: L1) (exI b12 (exHead x a0 c0) :: zex b3 :: (K0 ++ H)), IFB_dec (fun h => absurd h (by omega)) (fun _ => IFB_eq (fun h => absurd h (by omega)) (fun _ => IFB_dec (fun h => absurd h (by omega)) (fun _ => IFB_eq (fun h => absurd h (by omega)) (fun _ => S34)))), fun w59 S59 => (pskip_ok S59).mono ?_⟩⟩
    rintro _ w60 ⟨_, rfl, rfl, S60⟩
    refine ⟨_, _, _, rfl, S60.draw fun w61 S61 => S61.stX 0 rfl ?_⟩
    rw [hm]
    refine (hy E S61).mono ?_
    rintro _ w62 ⟨_, rfl, a1, c1, K1, hRy, rfl, S62⟩
    have S62 : PS w0 w62 b (u :: L2) (exI b12 (exHead x a0 c0) :: zex b3 :: (K1 ++ (K0 ++ H))) := (ps_mid S62).perm (List.Perm.cons _ List.perm_middle)
    refine ⟨_, _, _, _, _, _, _, _, rfl, ⟨S62.cell 0 rfl rfl, S62.cell 0 rfl rfl, S62.cell 0 rfl rfl, S62.cell 0 rfl rfl, S62.cell 0 rfl rfl, S62.cell 0 rfl rfl⟩, S62.newB fun k w63 S63 => S63.sto6 1 rfl fun w69 S69 => ⟨.inr ⟨rfl, some ⟨k, 0, none⟩, 2, It.cells k ⟨exHead x a0 c0 ++ exHead y a1 c1⟩ ty.api_Expr :: (K1 ++ K0), ⟨k, a0, c0, K0, a1, c1, K1, hRx, hRy, rfl, rfl, rfl⟩, ?_⟩, ?_⟩⟩
    · have S70 : PS w0 w69 b (u :: L2) (It.cells k ⟨exHead x a0 c0 ++ exHead y a1 c1⟩ ty.api_Expr :: exI b12 (exHead X (some ⟨k, 0, none⟩) 2) :: zex b3 :: (K1 ++ (K0 ++ H))) := by rw [hX]; exact S69
      rw [← List.append_assoc] at S70
      exact (S70.perm (List.Perm.swap _ _ _)).perm (List.Perm.cons _ (List.Perm.swap _ _ _))
    · show (if (powF o).1 = 9 then 1 else 0) < (if (9 : Int) = 9 then 1 else 0)
      rw [if_neg (by omega), if_pos rfl]
      decide
  · cases hst
    refine pisN S10 hi fun w11 S11 => ⟨_, rfl, IFB_false ((pnext_ok S11).mono ?_)⟩
    rintro _ w33 ⟨_, rfl, rfl, S33⟩
    refine ⟨_, _, _, rfl, S33.call (ppower_ok u) fun w34 S34 => ⟨_, _, rfl, fun _ _ => False, IFB_dec (fun _ => ?_) (fun hge => IFB_eq (fun _ => ?_) (fun hne => absurd hp hne)), fun _ h => h.elim⟩⟩
    · exact S34.stX 0 rfl (S34.stEx 1 rfl fun w40 S40 => ⟨a, cap, K, hR, rfl, S40.drop 2⟩)
    · exact S34.stX 0 rfl (S34.stEx 1 rfl fun w40 S40 => ⟨a, cap, K, hR, rfl, S40.drop 2⟩)
end
section
variable {w0 w : World} {b : Nat} {L L' : List Tk} {H : List It}
theorem PS.front (A : List It) {K : List It} (S : PS w0 w b L (K ++ (A ++ H))) : PS w0 w b L (A ++ (K ++ H)) := S.perm (List.perm_append_comm_assoc K A H)
theorem PS.ok (S : PS w0 w b L H) : ∀ it ∈ H, it.ok w := by
  obtain ⟨x, c, h1, h2, S⟩ := S
  exact fun it hi => S.ok it (List.mem_cons_of_mem _ (List.mem_cons_of_mem _ hi))
theorem PS.nil (S : PS w0 w b L H) (e : TypeId) (sz : Nat) : PS w0 w b L (It.row e sz none 0 0 [] :: H) := by
  obtain ⟨x, c, h1, h2, S⟩ := S
  exact ⟨x, c, h1, h2, ppL_in (S.nil e sz)⟩
theorem PS.rdc (S : PS w0 w b L H) (n : Nat) {b' : Nat} {cs : Array Value} {t : TypeId} (hn : H[n]? = some (It.cells b' cs t)) : Rd w (some ⟨b', 0, none⟩) cs.toList := by
  obtain ⟨x, c, h1, h2, S⟩ := S
  exact S.rdc (n + 2) hn
theorem PS.rw (S : PS w0 w b L H) (n : Nat) {e : TypeId} {sz : Nat} {a : Option Addr} {m c : Nat} {xs : List Value} (hn : H[n]? = some (It.row e sz a m c xs)) : Row w e sz a m c xs := by
  obtain ⟨x, c, h1, h2, S⟩ := S
  exact S.rw (n + 2) hn
theorem PS.app (S : PS w0 w b L H) (n : Nat) {P : Program} {t ty e : TypeId} {sz bytes : Nat} {z : Value} {a : Option Addr} {m c : Nat} {xs : List Value} (hn : H[n]? = some (It.row e sz a m c xs)) (hT : slT P t = some (e, sz, bytes, z)) (hz : z.cells.size = sz) (hsz : 0 < sz) (hb0 : 0 < bytes)
    {b2 : Option Addr} {mm mc : Nat} {news : List Value} (hs : Rd w b2 news) (hl : news.length = mm * sz) (h1 : ∀ u ∈ news, u.oneCell' = true) (hby : (m + mm) * bytes ≤ 140737488355328) {f : Value → World → Prop}
    (hf : ∀ a' c' w', PS w0 w' b L (H.set n (It.row e sz a' (m + mm) c' (xs ++ news))) → f (.slice a' (m + mm) c') w') : OPR P (Builtin.append_ #[t, t] ty #[.slice a m c, .slice b2 mm mc]) f w := by
  obtain ⟨x, cc, g1, g2, S⟩ := S
  exact S.app (n + 2) hn hT hz hsz hb0 hs hl h1 hby fun a' c' w' S' => hf a' c' w' ⟨x, cc, g1, g2, S'⟩
theorem PS.stoR (S : PS w0 w b L H) (n : Nat) {e : TypeId} {sz g m c : Nat} {xs : List Value} (hn : H[n]? = some (It.row e sz (some ⟨g, 0, none⟩) m c xs)) {j : Nat} (hj : j < m * sz) {v : Value} {k : World → Prop}
    (hk : ∀ w', PS w0 w' b L (H.set n (It.row e sz (some ⟨g, 0, none⟩) m c (xs.set j v))) → k w') : STO ⟨g, j, none⟩ v k w := by
  obtain ⟨x, cc, g1, g2, S⟩ := S
  exact S.stoR (n + 2) hn hj fun w' S' => hk w' ⟨x, cc, g1, g2, S'⟩
theorem PS.stoR6 (S : PS w0 w b L H) (n : Nat) {e : TypeId} {g c : Nat} {x0 x1 x2 x3 x4 x5 v0 v1 v2 v3 v4 v5 : Value} (hn : H[n]? = some (It.row e 6 (some ⟨g, 0, none⟩) 1 c [x0, x1, x2, x3, x4, x5])) {k : World → Prop}
    (hk : ∀ w', PS w0 w' b L (H.set n (It.row e 6 (some ⟨g, 0, none⟩) 1 c [v0, v1, v2, v3, v4, v5])) → k w') :
    STO ⟨g, 0, none⟩ v0 (fun w => STO ⟨g, 1, none⟩ v1 (fun w => STO ⟨g, 2, none⟩ v2 (fun w => STO ⟨g, 3, none⟩ v3 (fun w => STO ⟨g, 4, none⟩ v4 (fun w => STO ⟨g, 5, none⟩ v5 k w) w) w) w) w) w := by
  have hlt := (List.getElem?_eq_some_iff.1 hn).1
  have gg : ∀ {x : It}, (H.set n x)[n]? = some x := List.getElem?_set_self hlt
  refine S.stoR n hn (by omega) fun w1 S1 => S1.stoR n gg (by omega) fun w2 S2 => ?_
  rw [List.set_set] at S2
  refine S2.stoR n gg (by omega) fun w3 S3 => ?_
  rw [List.set_set] at S3
  refine S3.stoR n gg (by omega) fun w4 S4 => ?_
  rw [List.set_set] at S4
  refine S4.stoR n gg (by omega) fun w5 S5 => ?_
  rw [List.set_set] at S5
  refine S5.stoR n gg (by omega) fun w6 S6 => ?_
  rw [List.set_set] at S6
  exact hk w6 S6
theorem PS.sto8 (S : PS w0 w b L H) (n : Nat) {b' : Nat} {x0 x1 x2 x3 x4 x5 x6 x7 v0 v1 v2 v3 v4 v5 v6 v7 : Value} {t : TypeId} (hn : H[n]? = some (It.cells b' #[x0, x1, x2, x3, x4, x5, x6, x7] t)) {k : World → Prop} (hk : ∀ w', PS w0 w' b L (H.set n (It.cells b' #[v0, v1, v2, v3, v4, v5, v6, v7] t)) → k w') :
    STO ⟨b', 0, none⟩ v0 (fun w => STO ⟨b', 1, none⟩ v1 (fun w => STO ⟨b', 2, none⟩ v2 (fun w => STO ⟨b', 3, none⟩ v3 (fun w => STO ⟨b', 4, none⟩ v4 (fun w => STO ⟨b', 5, none⟩ v5 (fun w => STO ⟨b', 6, none⟩ v6 (fun w => STO ⟨b', 7, none⟩ v7 k w) w) w) w) w) w) w) w := by
  obtain ⟨x, cc, g1, g2, S⟩ := S
  exact S.sto8 (n + 2) hn fun w' S' => hk w' ⟨x, cc, g1, g2, S'⟩
theorem PS.stIx6 (S : PS w0 w b L H) (n : Nat) {b' : Nat} {x0 x1 x2 x3 x4 x5 x6 x7 v2 v3 v4 v5 v6 v7 : Value} {t : TypeId} (hn : H[n]? = some (It.cells b' #[x0, x1, x2, x3, x4, x5, x6, x7] t)) {k : World → Prop}
    (hk : ∀ w', PS w0 w' b L (H.set n (It.cells b' #[x0, x1, v2, v3, v4, v5, v6, v7] t)) → k w') :
    STO ⟨b', 2, none⟩ v2 (fun w => STO ⟨b', 3, none⟩ v3 (fun w => STO ⟨b', 4, none⟩ v4 (fun w => STO ⟨b', 5, none⟩ v5 (fun w => STO ⟨b', 6, none⟩ v6 (fun w => STO ⟨b', 7, none⟩ v7 k w) w) w) w) w) w := by
  obtain ⟨x, cc, g1, g2, S⟩ := S
  exact Go.Proofs.YtbpdfpfgijhokaaGreatDoor.stIx6 S (n + 2) hn fun w' S' => hk w' ⟨x, cc, g1, g2, S'⟩
theorem PS.stI (S : PS w0 w b L H) (n : Nat) {b' : Nat} {i : Itm} {a : Option Addr} {cap : Nat} (hn : H[n]? = some (itI b' i a cap)) {Q : ByteArray → Int → Int → ByteArray → Int → Int → ByteArray → Option Addr → Nat → Nat → Prop} (hq : Q i.1 i.2.1 i.2.2.op i.2.2.nm i.2.2.v.1 i.2.2.v.2.1 i.2.2.v.2.2 a i.2.2.ks.length cap) :
    ∃ t0 : ByteArray, w.cell? ⟨b', 0, none⟩ = some (.string t0) ∧ ∃ t1 : Int, w.cell? ⟨b', 1, none⟩ = some (.int .i64 t1) ∧ ∃ t2 : Int, w.cell? ⟨b', 2, none⟩ = some (.int .i64 t2) ∧ ∃ t3 : ByteArray, w.cell? ⟨b', 3, none⟩ = some (.string t3) ∧ ∃ t4 : Int, w.cell? ⟨b', 4, none⟩ = some (.int .i64 t4) ∧ ∃ t5 : Int, w.cell? ⟨b', 5, none⟩ = some (.int .i64 t5) ∧ ∃ t6 : ByteArray, w.cell? ⟨b', 6, none⟩ = some (.string t6) ∧
      ∃ (t7 : Option Addr) (l c : Nat), w.cell? ⟨b', 7, none⟩ = some (.slice t7 l c) ∧ Q t0 t1 t2 t3 t4 t5 t6 t7 l c := by
  obtain ⟨x, cc, g1, g2, S⟩ := S
  exact Go.Proofs.YtbpdfpfgijhokaaGreatDoor.stI S (n + 2) hn hq
theorem PS.stItm (S : PS w0 w b L H) (n : Nat) {b' : Nat} {x0 x1 x2 x3 x4 x5 x6 x7 : Value} {t1 t2 t4 t5 : Int} {t0 t3 t6 : ByteArray} {a7 : Option Addr} {l7 c7 : Nat} {t : TypeId} (hn : H[n]? = some (It.cells b' #[x0, x1, x2, x3, x4, x5, x6, x7] t)) {Q : ByteArray → Int → Int → ByteArray → Int → Int → ByteArray → Option Addr → Nat → Nat → World → Prop}
    (hk : ∀ w', PS w0 w' b L (H.set n (It.cells b' #[.string t0, .int .i64 t1, .int .i64 t2, .string t3, .int .i64 t4, .int .i64 t5, .string t6, .slice a7 l7 c7] t)) → Q t0 t1 t2 t3 t4 t5 t6 a7 l7 c7 w') :
    STO ⟨b', 0, none⟩ (.string t0) (fun w => STO ⟨b', 1, none⟩ (.int .i64 t1) (fun w => STO ⟨b', 2, none⟩ (.int .i64 t2) (fun w => STO ⟨b', 3, none⟩ (.string t3) (fun w => STO ⟨b', 4, none⟩ (.int .i64 t4) (fun w => STO ⟨b', 5, none⟩ (.int .i64 t5) (fun w => STO ⟨b', 6, none⟩ (.string t6) (fun w => STO ⟨b', 7, none⟩ (.slice a7 l7 c7) (fun w =>
      ∃ r0 : ByteArray, w.cell? ⟨b', 0, none⟩ = some (.string r0) ∧ ∃ r1 : Int, w.cell? ⟨b', 1, none⟩ = some (.int .i64 r1) ∧ ∃ r2 : Int, w.cell? ⟨b', 2, none⟩ = some (.int .i64 r2) ∧ ∃ r3 : ByteArray, w.cell? ⟨b', 3, none⟩ = some (.string r3) ∧ ∃ r4 : Int, w.cell? ⟨b', 4, none⟩ = some (.int .i64 r4) ∧ ∃ r5 : Int, w.cell? ⟨b', 5, none⟩ = some (.int .i64 r5) ∧ ∃ r6 : ByteArray, w.cell? ⟨b', 6, none⟩ = some (.string r6) ∧
      ∃ (r7 : Option Addr) (l c : Nat), w.cell? ⟨b', 7, none⟩ = some (.slice r7 l c) ∧ Q r0 r1 r2 r3 r4 r5 r6 r7 l c w) w) w) w) w) w) w) w) w := by
  obtain ⟨x, cc, g1, g2, S⟩ := S
  exact Go.Proofs.YtbpdfpfgijhokaaGreatDoor.stItm S (n + 2) hn fun w' S' => hk w' ⟨x, cc, g1, g2, S'⟩
/-! ### what is led to is an expression -/
def RX (x : Ex) (Z : Option Addr → Nat → List It → Prop) : Prop := ∀ {w : World} {a : Option Addr} {cap : Nat} {K : List It}, Z a cap K → (∀ it ∈ K, it.ok w) → XC w x (exHead x a cap)
theorem rx_leaf {op : Int} {s : ByteArray} {v : Val} (h1 : i64 op) (h2 : s.size ≤ maxLen) (h3 : i64 v.1) (h4 : i64 v.2.1) (h5 : v.2.2.size ≤ maxLen) : RX (.mk op s v []) leafR := by
  rintro w a cap K ⟨rfl, rfl, rfl⟩ _
  exact ExC.close (rs := []) (Rd.nil _ _) (by simp) (Nat.le_refl _) (by decide) (fun _ => rfl) ⟨h1, h2, h3, h4, h5⟩ ExL.nil
theorem rx_op {op : Int} {x y : Ex} {Rx Ry : Option Addr → Nat → List It → Prop} (hop : i64 op) (hx : RX x Rx) (hy : RX y Ry) : RX (.mk op E0 V0 [x, y]) (opR x y Rx Ry) := by
  rintro w a cap K ⟨k, a0, c0, K0, a1, c1, K1, h0, h1, rfl, rfl, rfl⟩ hok
  have hk : w.heap[k]? = some (.cells ⟨exHead x a0 c0 ++ exHead y a1 c1⟩ ty.api_Expr (0, 0)) := hok (It.cells k ⟨exHead x a0 c0 ++ exHead y a1 c1⟩ ty.api_Expr) (by simp)
  have g0 := hx h0 fun it hi => hok it (by simp [hi])
  have g1 := hy h1 fun it hi => hok it (by simp [hi])
  exact ExC.close (rs := exHead x a0 c0 ++ exHead y a1 c1) (Rd.of_block0 hk) (by simp) (Nat.le_refl _) (by decide) (fun h => by cases h) ⟨hop, by show E0.size ≤ maxLen; decide, ⟨by show -9223372036854775808 ≤ (0 : Int); decide, by show (0 : Int) ≤ 9223372036854775807; decide⟩, ⟨by show -9223372036854775808 ≤ (0 : Int); decide, by show (0 : Int) ≤ 9223372036854775807; decide⟩, by show E0.size ≤ maxLen; decide⟩ (rowsC_exL.1 (RowsC.append (RowsC.one g0) (RowsC.one g1)))
/-! ### an item that sums -/
theorem gat_at (E : Env w) {j : Nat} {v : Value} (h : gatherCells[j]? = some v) : w.cell? ⟨0, j, none⟩ = some v := by
  obtain ⟨p, hp, hc⟩ := E.gat j v h
  cases hp
  rw [addr_add_blk, Nat.zero_add] at hc
  exact hc
def sumW : ByteArray := ⟨#[115, 117, 109]⟩
theorem pgather_ok (E : Env w) : Calls Tryz.prog f.query_gathering #[.string sumW] w (Ret fun r w' => r = .int .i64 3 ∧ w' = w) := by
  apply R.query_gathering_calls
  unfold R.query_gathering
  refine ⟨_, gat_at E (j := 0) rfl, _, gat_at E (j := 1) rfl, _, gat_at E (j := 2) rfl, _, gat_at E (j := 3) rfl, _, gat_at E (j := 4) rfl, _, gat_at E (j := 5) rfl, forUp 6 (fun j w' => j ≤ 3 ∧ w' = w) (by omega) ⟨by omega, rfl⟩ fun I M j w1 hj h next => ?_⟩
  obtain ⟨hj3, rfl⟩ := h
  refine IFB_dec (fun hlt => ⟨⟨by omega, hlt⟩, ?_⟩) (fun hge => by omega)
  rcases (show j = 0 ∨ j = 1 ∨ j = 2 ∨ j = 3 by omega) with rfl | rfl | rfl | rfl
  · exact ⟨_, rfl, IFB_dec (fun h => absurd h (by decide)) (fun _ => next _ (by omega) ⟨by omega, rfl⟩)⟩
  · exact ⟨_, rfl, IFB_dec (fun h => absurd h (by decide)) (fun _ => next _ (by omega) ⟨by omega, rfl⟩)⟩
  · exact ⟨_, rfl, IFB_dec (fun _ => IFB_no (by rw [bytesEq_iff]; decide) (next _ (by omega) ⟨by omega, rfl⟩)) (fun h => absurd h (by decide))⟩
  · exact ⟨_, rfl, IFB_dec (fun _ => IFB_yes (by rw [bytesEq_iff]; decide) ⟨rfl, rfl⟩) (fun h => absurd h (by decide))⟩
def IR (L L' : List Tk) (i : Itm) (Z : Option Addr → Nat → List It → Prop) : Prop :=
  ∀ {w0 w : World} {H : List It} {b : Nat}, Env w0 → PS w0 w b L H → Calls Tryz.prog f.query_parser_item #[.pointer (some ⟨b, 0, none⟩)] w (Ret fun r w' => ∃ a cap K, Z a cap K ∧ r = .agg ⟨itHead i a cap⟩ ∧ PS w0 w' b L' (K ++ H))
end
theorem pitem_ok {g o cl s nm : Tk} {L1 L2 : List Tk} {x : Ex} {Z : Option Addr → Nat → List It → Prop} (hg : g.2.1 = 1) (hg2 : g.2.2 = sumW) (ho : isB o ⟨#[40]⟩ = true) (hx : XR f.query_parser_expr [.int .i64 1] L1 (cl :: s :: nm :: L2) x Z) (hc : isB cl ⟨#[41]⟩ = true) (hs : isB s asW = true) (h1 : nm.2.1 = 1) (h2 : isKeyB nm.2.2 = false) :
    IR (g :: o :: L1) L2 (nm.2.2, 3, x) Z := by
  intro w0 w H b E S
  apply R.query_parser_item_calls
  unfold R.query_parser_item
  refine S.newB fun b2 w1 S1 => S1.newB fun b3 w2 S2 => S2.sto8 0 rfl fun w10 S10 => ?_
  have S10 : PS w0 w10 b (g :: o :: L1) (It.cells b3 #[.string E0, .int .i64 0, .int .i64 0, .string E0, .int .i64 0, .int .i64 0, .string E0, .slice none 0 0] ty.api_Item :: It.cells b2 #[.string E0, .int .i64 0, .int .i64 0, .string E0, .int .i64 0, .int .i64 0, .string E0, .slice none 0 0] ty.api_Item :: H) := S10
  refine ⟨fun st w => st = [.int .i64 3] ∧ PS w0 w b (g :: o :: L1) (It.cells b3 #[.string E0, .int .i64 0, .int .i64 0, .string E0, .int .i64 0, .int .i64 0, .string E0, .slice none 0 0] ty.api_Item :: It.cells b2 #[.string E0, .int .i64 0, .int .i64 0, .string E0, .int .i64 0, .int .i64 0, .string E0, .slice none 0 0] ty.api_Item :: H), (pnext_ok S10).mono ?_, ?_⟩
  · rintro _ w11 ⟨_, rfl, rfl, S11⟩
    refine ⟨_, _, _, rfl, S11.lit3 fun b8 w15 S15 => ⟨_, S15.cell 0 rfl rfl, IFB_eq (fun _ => ⟨_, S15.cell 0 rfl rfl, ?_⟩) (fun h => absurd hg h)⟩⟩
    rw [hg2]
    exact call0 (pgather_ok (E.grown S15.bel)) ⟨_, rfl, rfl, S15.drop 1⟩
  rintro _ w17 ⟨hst, S17⟩
  cases hst
  refine ⟨fun _ w => ∃ a cap K, Z a cap K ∧ PS w0 w b (s :: nm :: L2) (itI b3 (E0, 3, x) a cap :: It.cells b2 #[.string E0, .int .i64 0, .int .i64 0, .string E0, .int .i64 0, .int .i64 0, .string E0, .slice none 0 0] ty.api_Item :: (K ++ H)), IFB_eq (fun h => by cases h) (fun _ => (pskip_ok S17).mono ?_), ?_⟩
  · rintro _ w25 ⟨_, rfl, rfl, S25⟩
    refine ⟨_, _, _, rfl, S25.newB fun b26 w26 S26 => pneedY S26 ho fun w27 S27 => ⟨rfl, S27.sto 0 rfl (cs' := #[.string E0, .int .i64 3, .int .i64 0, .string E0, .int .i64 0, .int .i64 0, .string E0, .slice none 0 0]) (by show 1 < 8; omega) rfl fun w28 S28 => IFB_eq (fun h => by cases h) (fun _ => (hx E S28).mono ?_)⟩⟩
    rintro _ w42 ⟨_, rfl, a, cap, K, hR, rfl, S42⟩
    have S42 := PS.front [It.cells b3 #[.string E0, .int .i64 3, .int .i64 0, .string E0, .int .i64 0, .int .i64 0, .string E0, .slice none 0 0] ty.api_Item, It.cells b2 #[.string E0, .int .i64 0, .int .i64 0, .string E0, .int .i64 0, .int .i64 0, .string E0, .slice none 0 0] ty.api_Item] S42
    exact ⟨_, _, _, _, _, _, _, _, rfl, S42.stIx6 0 rfl fun w48 S48 => S48.newB fun b48 w49 S49 => pneedY S49 hc fun w50 S50 => ⟨rfl, a, cap, K, hR, S50⟩⟩
  rintro w51 ⟨a, cap, K, hR, S51⟩
  refine S51.newB fun b51 w52 S52 => pneedY S52 hs fun w53 S53 => ⟨rfl, pnameY E S53 h1 h2 fun w54 S54 => ⟨_, rfl, S54.sto 0 rfl (cs' := ⟨itHead (nm.2.2, 3, x) a cap⟩) (by show 0 < 8; omega) rfl fun w55 S55 => ?_⟩⟩
  have S55 : PS w0 w55 b L2 (itI b3 (nm.2.2, 3, x) a cap :: It.cells b2 #[.string E0, .int .i64 0, .int .i64 0, .string E0, .int .i64 0, .int .i64 0, .string E0, .slice none 0 0] ty.api_Item :: (K ++ H)) := S55
  exact S55.stI 0 rfl (S55.stItm 1 rfl fun w63 S63 => ⟨a, cap, K, hR, rfl, S63.drop 2⟩)
/-! ### lists of one -/
theorem plist_one {w0 w : World} {b : Nat} {u : Tk} {L : List Tk} {fr : FuncId} {c0 c1 : Value} (he : enters Tryz.prog fr = true) (hu : isB u ⟨#[44]⟩ = false) {Q : World → Prop} (hr : Calls Tryz.prog fr #[c0, c1] w (Ret fun v w' => v = .tuple #[] ∧ ∃ H', PS w0 w' b (u :: L) H' ∧ ∀ w'', PS w0 w'' b (u :: L) H' → Q w'')) :
    Calls Tryz.prog f.query_parser_list #[.pointer (some ⟨b, 0, none⟩), .func (.func fr) #[] #[c0, c1]] w (Ret fun v w' => v = .tuple #[] ∧ Q w') := by
  apply R.query_parser_list_calls
  unfold R.query_parser_list
  simp only [he, cond_true]
  refine Calls.mono (R := Ret fun v w' => v = .tuple #[] ∧ ∃ H', PS w0 w' b (u :: L) H' ∧ ∀ w'', PS w0 w'' b (u :: L) H' → Q w'') hr ?_
  rintro _ w1 ⟨_, rfl, rfl, H', S1, hQ⟩
  refine ⟨rfl, fun _ w => PS w0 w b (u :: L) H', fun _ _ => 0, S1, fun w2 S2 => ptakeN S2 hu fun w3 S3 => ⟨_, rfl, IFB_false ⟨trivial, hQ _ S3⟩⟩⟩
def zKey : Value := .agg #[.int .i64 0, .bool false]
theorem tKeys : slT Tryz.prog ty.L_api_Key = some (ty.api_Key, 2, 16, zKey) := by kernel_rfl
abbrev keysI (a : Option Addr) (n c : Nat) (rs : List Value) : It := It.row ty.api_Key 2 a n c rs
abbrev QA (ai : Option Addr) (ni ci : Nat) (rs : List Value) (ag : Option Addr) (ng cg : Nat) (gs : List Value) (ao : Option Addr) (no co : Nat) (os : List Value) (b4 b2 b b3 : Nat) : List It :=
  [itemsI ai ni ci rs, exsI ag ng cg gs, keysI ao no co os, It.cells b4 #[.slice ai ni ci, .slice none 0 0, .slice ag ng cg, .slice ao no co, .int .i64 (-1)] ty.api_Query, It.cells b2 #[.pointer (some ⟨b, 0, none⟩)] ty.P_query_parser, zqb b3]
theorem pc1_ok {w0 w : World} {b b2 b3 b4 : Nat} {L L' : List Tk} {H : List It} {i : Itm} {Z : Option Addr → Nat → List It → Prop} {ag : Option Addr} {ng cg : Nat} {gs : List Value} {ao : Option Addr} {no co : Nat} {os : List Value} (E : Env w0) (hI : IR L L' i Z) (S : PS w0 w b L (QA none 0 0 [] ag ng cg gs ao no co os b4 b2 b b3 ++ H)) :
    Calls Tryz.prog f.query_parser_query_c1 #[.pointer (some ⟨b4, 0, none⟩), .pointer (some ⟨b2, 0, none⟩)] w (Ret fun v w' => v = .tuple #[] ∧ ∃ a cap K a1 c1, Z a cap K ∧ PS w0 w' b L' (QA a1 1 c1 (itHead i a cap) ag ng cg gs ao no co os b4 b2 b b3 ++ (K ++ H))) := by
  apply R.query_parser_query_c1_calls
  unfold R.query_parser_query_c1
  refine S.draw fun w1 S1 => ⟨_, _, _, S1.cell 3 rfl rfl, _, S1.cell 4 rfl rfl, (hI E S1).mono ?_⟩
  rintro _ w2 ⟨_, rfl, a, cap, K, hR, rfl, S2⟩
  have S2 := PS.front (QA none 0 0 [] ag ng cg gs ao no co os b4 b2 b b3) S2
  refine ⟨_, _, _, _, _, _, _, _, _, _, rfl, S2.cell 3 rfl rfl, S2.newB fun b14 w3 S3 => ⟨S3.cell 4 rfl rfl, ?_⟩⟩
  refine S3.app 1 rfl tItems rfl (by omega) (by omega) (S3.rdc 0 rfl) (mm := 1) rfl (it_one i a cap) (by omega) fun a1 c1 w4 S4 => ⟨_, _, _, rfl, S4.sto 4 rfl (cs' := #[.slice a1 1 c1, .slice none 0 0, .slice ag ng cg, .slice ao no co, .int .i64 (-1)]) (by simp) rfl fun w5 S5 => ⟨rfl, a, cap, K, a1, c1, hR, S5.drop 1⟩⟩
theorem pc2_ok {w0 w : World} {b b2 b3 b4 : Nat} {L L' : List Tk} {H : List It} {x : Ex} {ai : Option Addr} {ni ci : Nat} {rs : List Value} {ao : Option Addr} {no co : Nat} {os : List Value} (E : Env w0) (hX : XR f.query_parser_expr [.int .i64 1] L L' x leafR) (S : PS w0 w b L (QA ai ni ci rs none 0 0 [] ao no co os b4 b2 b b3 ++ H)) :
    Calls Tryz.prog f.query_parser_query_c2 #[.pointer (some ⟨b4, 0, none⟩), .pointer (some ⟨b2, 0, none⟩)] w (Ret fun v w' => v = .tuple #[] ∧ ∃ a1 c1, PS w0 w' b L' (QA ai ni ci rs a1 1 c1 (exHead x none 0) ao no co os b4 b2 b b3 ++ H)) := by
  apply R.query_parser_query_c2_calls
  unfold R.query_parser_query_c2
  refine S.draw fun w1 S1 => ⟨_, _, _, S1.cell 3 rfl rfl, _, S1.cell 4 rfl rfl, (hX E S1).mono ?_, S1.newB fun b16 w19 S19 => ⟨S19.cell 5 rfl rfl, S19.cell 4 rfl rfl, (hX E S19).mono ?_⟩⟩
  · rintro _ w2 ⟨_, rfl, _, _, _, ⟨rfl, rfl, rfl⟩, rfl, S2⟩
    refine ⟨_, _, _, _, _, _, _, _, rfl, S2.cell 3 rfl rfl, S2.newB fun b12 w3 S3 => ⟨S3.cell 4 rfl rfl, ?_⟩⟩
    refine S3.app 2 rfl tExs rfl (by omega) (by omega) (S3.rdc 0 rfl) (mm := 1) rfl (ex_one (.mk 0 E0 V0 []) none 0) (by omega) fun a1 c1 w4 S4 => ⟨_, _, _, rfl, ⟨by omega, by decide⟩, ?_⟩
    have hrow := S4.rw 2 rfl
    rcases hrow with ⟨_, ⟨_, h0, _⟩ | ⟨g, cur, rfl, _⟩⟩
    · cases h0
    refine PTR_i ⟨S4.stoR6 2 rfl fun w10 S10 => S10.sto 4 rfl (cs' := #[.slice ai ni ci, .slice none 0 0, .slice (some ⟨g, 0, none⟩) 1 c1, .slice ao no co, .int .i64 (-1)]) (by simp) rfl fun w11 S11 => ⟨rfl, _, c1, S11.drop 1⟩, S4.sto 4 rfl (cs' := #[.slice ai ni ci, .slice none 0 0, .slice (some ⟨g, 0, none⟩) 1 c1, .slice ao no co, .int .i64 (-1)]) (by simp) rfl fun w12 S12 => S12.stoR6 2 rfl fun w18 S18 => ⟨rfl, _, c1, S18.drop 1⟩⟩
  · rintro _ w20 ⟨_, rfl, _, _, _, ⟨rfl, rfl, rfl⟩, rfl, S2⟩
    refine ⟨_, _, _, _, _, _, _, _, rfl, S2.cell 4 rfl rfl, ?_⟩
    refine PS.app S2 2 rfl tExs rfl (by omega) (by omega) (S2.rdc 0 rfl) (mm := 1) rfl (ex_one (.mk 0 E0 V0 []) none 0) (by omega) fun a1 c1 w4 S4 => ⟨_, _, _, rfl, ⟨by omega, by decide⟩, ?_⟩
    have hrow := S4.rw 2 rfl
    rcases hrow with ⟨_, ⟨_, h0, _⟩ | ⟨g, cur, rfl, _⟩⟩
    · cases h0
    refine PTR_i ⟨S4.stoR6 2 rfl fun w10 S10 => S10.sto 4 rfl (cs' := #[.slice ai ni ci, .slice none 0 0, .slice (some ⟨g, 0, none⟩) 1 c1, .slice ao no co, .int .i64 (-1)]) (by simp) rfl fun w11 S11 => ⟨rfl, _, c1, S11.drop 1⟩, S4.sto 4 rfl (cs' := #[.slice ai ni ci, .slice none 0 0, .slice (some ⟨g, 0, none⟩) 1 c1, .slice ao no co, .int .i64 (-1)]) (by simp) rfl fun w12 S12 => S12.stoR6 2 rfl fun w18 S18 => ⟨rfl, _, c1, S18.drop 1⟩⟩
def descW : ByteArray := ⟨#[100, 101, 115, 99]⟩
theorem pc3_ok {w0 w : World} {b b2 b3 b4 : Nat} {nm d : Tk} {L : List Tk} {H K : List It} {i : Itm} {a : Option Addr} {cap : Nat} {ai : Option Addr} {ci : Nat} {ag : Option Addr} {ng cg : Nat} {gs : List Value} (E : Env w0) (h1 : nm.2.1 = 1) (h2 : isKeyB nm.2.2 = false) (hd : isB d descW = true) (hp : placeOf [i] nm.2.2 = some 0)
    (hC : ∀ {w' : World}, (∀ it ∈ K, it.ok w') → ItC (fun _ => False) w' i (itHead i a cap)) (S : PS w0 w b (nm :: d :: L) (QA ai 1 ci (itHead i a cap) ag ng cg gs none 0 0 [] b4 b2 b b3 ++ (K ++ H))) :
    Calls Tryz.prog f.query_parser_query_c3 #[.pointer (some ⟨b4, 0, none⟩), .pointer (some ⟨b2, 0, none⟩)] w (Ret fun v w' => v = .tuple #[] ∧ ∃ a1 c1, PS w0 w' b L (QA ai 1 ci (itHead i a cap) ag ng cg gs a1 1 c1 [.int .i64 0, .bool true] b4 b2 b b3 ++ (K ++ H))) := by
  have pl : ∀ {w' : World} {L' : List Tk} (n : Nat) {H' : List It} (S : PS w0 w' b L' H') (hn : H'[n]? = some (itemsI ai 1 ci (itHead i a cap))) (hk : ∀ it ∈ K, it ∈ H') {Q : Ending → World → Prop} (hQ : ∀ w'', PS w0 w'' b L' H' → Q (.returned (.int .i64 0)) w''), Calls Tryz.prog f.query_place #[.slice ai 1 ci, .string nm.2.2] w' Q := by
    intro w' L' n H' S hn hk Q hQ
    refine (query_place_ok (l := [i]) (S.rw n hn).rd (RowsC.one (hC fun it hi => S.ok it (hk it hi))) (by show 1 ≤ 9223372036854775807; decide) nm.2.2).mono ?_
    rintro _ w'' ⟨_, rfl, rfl, B⟩
    rw [hp]
    exact hQ w'' (S.grown B)
  have hmem : ∀ (A : List It), ∀ it ∈ K, it ∈ A ++ (K ++ H) := fun A it hi => by simp [hi]
  apply R.query_parser_query_c3_calls
  unfold R.query_parser_query_c3
  refine ⟨fun st w => ∃ b9, st = [.pointer (some ⟨b9, 0, none⟩)] ∧ PS w0 w b (d :: L) (It.cells b9 #[.int .i64 0, .bool false] ty.api_Key :: (QA ai 1 ci (itHead i a cap) ag ng cg gs none 0 0 [] b4 b2 b b3 ++ (K ++ H))),
    S.draw fun w1 S1 => ⟨_, _, _, S1.cell 3 rfl rfl, _, S1.cell 4 rfl rfl, pnameY E S1 h1 h2 fun w2 S2 => ⟨_, rfl, S2.cell 3 rfl rfl, pl 0 S2 rfl (hmem _) fun w3 S3 => ⟨_, rfl, S3.newB fun b9 w4 S4 => S4.sto 0 rfl (cs' := #[.int .i64 0, .bool false]) (by simp) rfl fun w5 S5 => S5.sto 0 rfl (cs' := #[.int .i64 0, .bool false]) (by simp) rfl fun w6 S6 => ⟨b9, rfl, S6⟩⟩,
      S2.newB fun b10 w7 S7 => ⟨S7.cell 4 rfl rfl, pl 1 S7 rfl (fun it hi => List.mem_cons_of_mem _ (hmem _ it hi)) fun w8 S8 => ⟨_, rfl, S8.sto 0 rfl (cs' := #[.int .i64 0, .bool false]) (by simp) rfl fun w9 S9 => S9.sto 0 rfl (cs' := #[.int .i64 0, .bool false]) (by simp) rfl fun w10 S10 => ⟨b10, rfl, S10⟩⟩⟩⟩,
      S1.newB fun b13 w11 S11 => ⟨S11.cell 5 rfl rfl, S11.cell 4 rfl rfl, pnameY E S11 h1 h2 fun w12 S12 => ⟨_, rfl, S12.cell 4 rfl rfl, pl 1 S12 rfl (fun it hi => List.mem_cons_of_mem _ (hmem _ it hi)) fun w13 S13 => ⟨_, rfl, S13.sto 0 rfl (cs' := #[.int .i64 0, .bool false]) (by simp) rfl fun w14 S14 => S14.sto 0 rfl (cs' := #[.int .i64 0, .bool false]) (by simp) rfl fun w15 S15 => ⟨b13, rfl, S15⟩⟩⟩⟩⟩, ?_⟩
  rintro k w16 ⟨b9, hst, S16⟩
  obtain rfl : k = some ⟨b9, 0, none⟩ := by simpa using hst
  refine ⟨_, S16.cell 5 rfl rfl, ptakeY S16 hd fun w17 S17 => ⟨_, rfl, PTR_i (S17.sto 0 rfl (i := 1) (cs' := #[.int .i64 0, .bool true]) (by simp) rfl fun w18 S18 => ⟨_, _, _, S18.cell 4 rfl rfl, PTR_i ⟨_, S18.cell 0 rfl rfl, _, S18.cell 0 rfl rfl, S18.newB fun b28 w19 S19 => ?_⟩⟩)⟩⟩
  refine S19.app 4 rfl tKeys rfl (by omega) (by omega) (S19.rdc 0 rfl) (mm := 1) rfl (by intro u hu; simp at hu; rcases hu with rfl | rfl <;> rfl) (by omega) fun a1 c1 w20 S20 => ⟨_, _, _, rfl, S20.sto 5 rfl (cs' := #[.slice ai 1 ci, .slice none 0 0, .slice ag ng cg, .slice a1 1 c1, .int .i64 (-1)]) (by simp) rfl fun w21 S21 => ⟨rfl, a1, c1, S21.drop 2⟩⟩
/-! ### one text -/
def kSel : Tk := (0, 1, ⟨#[115, 101, 108, 101, 99, 116]⟩)
def kSum : Tk := (7, 1, ⟨#[115, 117, 109]⟩)
def kO1 : Tk := (10, 4, ⟨#[40]⟩)
def kA : Tk := (12, 1, ⟨#[97]⟩)
def kStar : Tk := (13, 4, ⟨#[42]⟩)
def kO2 : Tk := (14, 4, ⟨#[40]⟩)
def kB : Tk := (15, 1, ⟨#[98]⟩)
def kPlus : Tk := (16, 4, ⟨#[43]⟩)
def kOne : Tk := (17, 2, ⟨#[49]⟩)
def kC1 : Tk := (18, 4, ⟨#[41]⟩)
def kC2 : Tk := (20, 4, ⟨#[41]⟩)
def kAs : Tk := (22, 1, ⟨#[97, 115]⟩)
def kS : Tk := (25, 1, ⟨#[115]⟩)
def kGroup : Tk := (27, 1, ⟨#[103, 114, 111, 117, 112]⟩)
def kBy : Tk := (33, 1, ⟨#[98, 121]⟩)
def kC : Tk := (36, 1, ⟨#[99]⟩)
def kOrder : Tk := (38, 1, ⟨#[111, 114, 100, 101, 114]⟩)
def kBy2 : Tk := (44, 1, ⟨#[98, 121]⟩)
def kS2 : Tk := (47, 1, ⟨#[115]⟩)
def kDesc : Tk := (49, 1, ⟨#[100, 101, 115, 99]⟩)
def kEnd : Tk := (53, 0, E0)
def T1 : List Tk := [kSel, kSum, kO1, kA, kStar, kO2, kB, kPlus, kOne, kC1, kC2, kAs, kS, kGroup, kBy, kC, kOrder, kBy2, kS2, kDesc, kEnd]
def eSum : Ex := .mk 3 E0 V0 [colX ⟨#[98]⟩, numX 1]
def eMul : Ex := .mk 5 E0 V0 [colX ⟨#[97]⟩, eSum]
def iS : Itm := (⟨#[115]⟩, 3, eMul)
def Q1 : Qu := ⟨[iS], [], [colX ⟨#[99]⟩], [(0, true)], -1⟩
def sumR := opR (colX ⟨#[98]⟩) (numX 1) leafR leafR
def mulR := opR (colX ⟨#[97]⟩) eSum leafR sumR
theorem pn_a : PName kA := ⟨rfl, by decide, show ∀ s ∈ headW, isB kA s = false by decide⟩
theorem pn_b : PName kB := ⟨rfl, by decide, show ∀ s ∈ headW, isB kB s = false by decide⟩
theorem pn_c : PName kC := ⟨rfl, by decide, show ∀ s ∈ headW, isB kC s = false by decide⟩
section
variable {L : List Tk}
theorem rd_sum (hp : ∀ {w : World}, Calls Tryz.prog f.query_plain #[.string kOne.2.2] w (Ret fun r w' => r = .string kOne.2.2 ∧ Below w.heap.size w w')) (hc : ∀ {w : World}, Env w → Calls Tryz.prog f.query_constant #[.string kOne.2.2] w (Ret fun r w' => r = .agg ⟨exHead (numX 1) none 0⟩ ∧ Below w.heap.size w w')) :
    XR f.query_parser_expr [.int .i64 1] (kB :: kPlus :: kOne :: kC1 :: L) (kC1 :: L) eSum sumR :=
  pexpr_op (o := kPlus) (m := 7) (pfront_ok (pminus_ok (patom_name pn_b) (by decide)) (by decide)) (by decide) (pexpr_end (pfront_ok (pminus_ok (patom_num rfl hp hc) (by decide)) (by decide)) (by decide) (.inr (by decide))) (by decide) (by decide) (by decide) (by decide) (by decide) (by decide)
theorem rd_mul (hp : ∀ {w : World}, Calls Tryz.prog f.query_plain #[.string kOne.2.2] w (Ret fun r w' => r = .string kOne.2.2 ∧ Below w.heap.size w w')) (hc : ∀ {w : World}, Env w → Calls Tryz.prog f.query_constant #[.string kOne.2.2] w (Ret fun r w' => r = .agg ⟨exHead (numX 1) none 0⟩ ∧ Below w.heap.size w w')) :
    XR f.query_parser_expr [.int .i64 1] (kA :: kStar :: kO2 :: kB :: kPlus :: kOne :: kC1 :: kC2 :: L) (kC2 :: L) eMul mulR :=
  pexpr_op (o := kStar) (m := 8) (pfront_ok (pminus_ok (patom_name pn_a) (by decide)) (by decide)) (by decide) (pexpr_end (pfront_ok (pminus_ok (patom_par (t := kO2) rfl (by decide) (by decide) (rd_sum hp hc) (by decide)) (by decide)) (by decide)) (by decide) (.inr (by decide))) (by decide) (by decide) (by decide) (by decide) (by decide) (by decide)
end
abbrev QL (a : Option Addr) (cap : Nat) (K : List It) (a1 : Option Addr) (c1 : Nat) (ag : Option Addr) (cg : Nat) (ao : Option Addr) (co : Nat) : List It :=
  itemsI a1 1 c1 (itHead iS a cap) :: exsI ag 1 cg (exHead (colX kC.2.2) none 0) :: keysI ao 1 co [.int .i64 0, .bool true] :: K
theorem PS.sub {w0 w : World} {b : Nat} {L : List Tk} {H H' : List It} (S : PS w0 w b L H) (h : H'.Sublist H) : PS w0 w b L H' := by
  obtain ⟨x, c, h1, h2, S⟩ := S
  exact ⟨x, c, h1, h2, S.sub (.cons_cons _ (.cons_cons _ h))⟩
theorem PS.sto5 {w0 w : World} {b : Nat} {L : List Tk} {H : List It} (S : PS w0 w b L H) (n : Nat) {b' : Nat} {x0 x1 x2 x3 x4 v0 v1 v2 v3 v4 : Value} {t : TypeId} (hn : H[n]? = some (It.cells b' #[x0, x1, x2, x3, x4] t)) {k : World → Prop} (hk : ∀ w', PS w0 w' b L (H.set n (It.cells b' #[v0, v1, v2, v3, v4] t)) → k w') :
    STO ⟨b', 0, none⟩ v0 (fun w => STO ⟨b', 1, none⟩ v1 (fun w => STO ⟨b', 2, none⟩ v2 (fun w => STO ⟨b', 3, none⟩ v3 (fun w => STO ⟨b', 4, none⟩ v4 k w) w) w) w) w := by
  obtain ⟨x, cc, g1, g2, S⟩ := S
  exact S.sto5 (n + 2) hn fun w' S' => hk w' ⟨x, cc, g1, g2, S'⟩
theorem rx_mul : RX eMul mulR := rx_op (by decide) (rx_leaf (by decide) (by decide) (by decide) (by decide) (by decide)) (rx_op (by decide) (rx_leaf (by decide) (by decide) (by decide) (by decide) (by decide)) (rx_leaf (by decide) (by decide) (by decide) (by decide) (by decide)))
theorem qat1 {w : World} {a : Option Addr} {cap : Nat} {K : List It} {a1 ag ao : Option Addr} (hR : mulR a cap K) (hk : ∀ it ∈ K, it.ok w) (r1 : Rd w a1 (itHead iS a cap)) (r2 : Rd w ag (exHead (colX kC.2.2) none 0)) (r3 : Rd w ao [.int .i64 0, .bool true]) : QAt w Q1 a1 none ag ao where
  it := ⟨_, r1, RowsC.one ⟨_, rfl, rx_mul hR hk, by decide, by decide⟩⟩
  wh := ⟨[], Rd.nil _ _, rfl⟩
  gr := ⟨_, r2, RowsC.one (colX_c w (by decide))⟩
  od := ⟨_, r3, RowsC.one ⟨rfl, by decide⟩⟩
  nit := by decide
  nwh := by decide
  ngr := by decide
  nod := by decide
  lim := by decide
theorem pquery_ok (hp : ∀ {w : World}, Calls Tryz.prog f.query_plain #[.string kOne.2.2] w (Ret fun r w' => r = .string kOne.2.2 ∧ Below w.heap.size w w')) (hc : ∀ {w : World}, Env w → Calls Tryz.prog f.query_constant #[.string kOne.2.2] w (Ret fun r w' => r = .agg ⟨exHead (numX 1) none 0⟩ ∧ Below w.heap.size w w'))
    {w0 w : World} {b : Nat} {H : List It} (E : Env w0) (S : PS w0 w b T1 H) : Calls Tryz.prog f.query_parser_query #[.pointer (some ⟨b, 0, none⟩)] w (Ret fun r w' => ∃ a cap K a1 c1 ag cg ao co, mulR a cap K ∧ r = .agg ⟨quL Q1 a1 none ag ao c1 0 cg co⟩ ∧ PS w0 w' b [kEnd] (QL a cap K a1 c1 ag cg ao co ++ H)) := by
  apply R.query_parser_query_calls
  unfold R.query_parser_query
  refine S.newB fun b2 w1 S1 => S1.newB fun b3 w2 S2 => S2.newB fun b4 w3 S3 => ?_
  refine S3.sto 0 rfl (cs' := #[.slice none 0 0, .slice none 0 0, .slice none 0 0, .slice none 0 0, .int .i64 0]) (by simp) rfl fun w4 S4 => S4.sto 0 rfl (cs' := #[.slice none 0 0, .slice none 0 0, .slice none 0 0, .slice none 0 0, .int .i64 0]) (by simp) rfl fun w5 S5 => S5.sto 0 rfl (cs' := #[.slice none 0 0, .slice none 0 0, .slice none 0 0, .slice none 0 0, .int .i64 0]) (by simp) rfl fun w6 S6 =>
    S6.sto 0 rfl (cs' := #[.slice none 0 0, .slice none 0 0, .slice none 0 0, .slice none 0 0, .int .i64 0]) (by simp) rfl fun w7 S7 => S7.sto 0 rfl (cs' := #[.slice none 0 0, .slice none 0 0, .slice none 0 0, .slice none 0 0, .int .i64 (-1)]) (by simp) rfl fun w8 S8 => ?_
  have S8 : PS w0 w8 b T1 (QA none 0 0 [] none 0 0 [] none 0 0 [] b4 b2 b b3 ++ H) := (((S8.perm (List.Perm.cons _ (List.Perm.swap _ _ _))).nil ty.api_Key 2).nil ty.api_Expr 6).nil ty.api_Item 8
  refine ⟨_, S8.cell 4 rfl rfl, S8.newB fun b6 w9 S9 => pneedY S9 (by decide) fun w10 S10 => ⟨rfl, _, S10.cell 4 rfl rfl, ?_⟩⟩
  refine (plist_one (w0 := w0) (u := kGroup) (L := [kBy, kC, kOrder, kBy2, kS2, kDesc, kEnd]) (Q := fun w' => ∃ a cap K a1 c1, mulR a cap K ∧ PS w0 w' b [kGroup, kBy, kC, kOrder, kBy2, kS2, kDesc, kEnd] (QA a1 1 c1 (itHead iS a cap) none 0 0 [] none 0 0 [] b4 b2 b b3 ++ (K ++ H))) (by kernel_rfl) (by decide) ((pc1_ok E (pitem_ok (g := kSum) (o := kO1) (cl := kC2) (s := kAs) (nm := kS) rfl rfl (by decide) (rd_mul hp hc) (by decide) (by decide) rfl (by decide)) S10).mono ?_)).mono ?_
  · rintro _ w' ⟨_, rfl, rfl, a, cap, K, a1, c1, hR, S'⟩
    exact ⟨_, rfl, rfl, _, S', fun w'' S'' => ⟨a, cap, K, a1, c1, hR, S''⟩⟩
  rintro _ w11 ⟨_, rfl, rfl, a, cap, K, a1, c1, hR, S11⟩
  have hC : ∀ {w' : World}, (∀ it ∈ K, it.ok w') → ItC (fun _ => False) w' iS (itHead iS a cap) := fun hk => ⟨_, rfl, rx_mul hR hk, by decide, by decide⟩
  refine ⟨rfl, fun _ w => PS w0 w b [kGroup, kBy, kC, kOrder, kBy2, kS2, kDesc, kEnd] (QA a1 1 c1 (itHead iS a cap) none 0 0 [] none 0 0 [] b4 b2 b b3 ++ (K ++ H)), ⟨_, S11.cell 4 rfl rfl, ptakeN S11 (by decide) fun w12 S12 => ⟨_, rfl, IFB_false S12⟩⟩, fun w16 S16 => ?_⟩
  refine ⟨fun _ w => ∃ ag cg, PS w0 w b [kOrder, kBy2, kS2, kDesc, kEnd] (QA a1 1 c1 (itHead iS a cap) ag 1 cg (exHead (colX kC.2.2) none 0) none 0 0 [] b4 b2 b b3 ++ (K ++ H)), ⟨_, S16.cell 4 rfl rfl, ptakeY S16 (by decide) fun w17 S17 => ⟨_, rfl, IFB_true ⟨_, S17.cell 4 rfl rfl, S17.newB fun b27 w18 S18 => pneedY S18 (by decide) fun w19 S19 => ⟨rfl, _, S19.cell 4 rfl rfl, ?_⟩⟩⟩⟩, ?_⟩
  · refine (plist_one (w0 := w0) (u := kOrder) (L := [kBy2, kS2, kDesc, kEnd]) (Q := fun w' => ∃ ag cg, PS w0 w' b [kOrder, kBy2, kS2, kDesc, kEnd] (QA a1 1 c1 (itHead iS a cap) ag 1 cg (exHead (colX kC.2.2) none 0) none 0 0 [] b4 b2 b b3 ++ (K ++ H))) (by kernel_rfl) (by decide) ((pc2_ok E (pexpr_end (pfront_ok (pminus_ok (patom_name pn_c) (by decide)) (by decide)) (by decide) (.inr (by decide))) S19).mono ?_)).mono ?_
    · rintro _ w' ⟨_, rfl, rfl, a2, c2, S'⟩
      exact ⟨_, rfl, rfl, _, S', fun w'' S'' => ⟨a2, c2, S''⟩⟩
    rintro _ w20 ⟨_, rfl, rfl, ag, cg, S20⟩
    exact ⟨rfl, ag, cg, S20⟩
  rintro w21 ⟨ag, cg, S21⟩
  refine ⟨fun _ w => ∃ ao co, PS w0 w b [kEnd] (QA a1 1 c1 (itHead iS a cap) ag 1 cg (exHead (colX kC.2.2) none 0) ao 1 co [.int .i64 0, .bool true] b4 b2 b b3 ++ (K ++ H)), ⟨_, S21.cell 4 rfl rfl, ptakeY S21 (by decide) fun w22 S22 => ⟨_, rfl, IFB_true ⟨_, S22.cell 4 rfl rfl, S22.newB fun b36 w23 S23 => pneedY S23 (by decide) fun w24 S24 => ⟨rfl, _, S24.cell 4 rfl rfl, ?_⟩⟩⟩⟩, ?_⟩
  · refine (plist_one (w0 := w0) (u := kEnd) (L := []) (Q := fun w' => ∃ ao co, PS w0 w' b [kEnd] (QA a1 1 c1 (itHead iS a cap) ag 1 cg (exHead (colX kC.2.2) none 0) ao 1 co [.int .i64 0, .bool true] b4 b2 b b3 ++ (K ++ H))) (by kernel_rfl) (by decide) ((pc3_ok (nm := kS2) (d := kDesc) E rfl (by decide) (by decide) (by decide) hC S24).mono ?_)).mono ?_
    · rintro _ w' ⟨_, rfl, rfl, a2, c2, S'⟩
      exact ⟨_, rfl, rfl, _, S', fun w'' S'' => ⟨a2, c2, S''⟩⟩
    rintro _ w25 ⟨_, rfl, rfl, ao, co, S25⟩
    exact ⟨rfl, ao, co, S25⟩
  rintro w26 ⟨ao, co, S26⟩
  refine ⟨fun _ w => PS w0 w b [kEnd] (QA a1 1 c1 (itHead iS a cap) ag 1 cg (exHead (colX kC.2.2) none 0) ao 1 co [.int .i64 0, .bool true] b4 b2 b b3 ++ (K ++ H)), ⟨_, S26.cell 4 rfl rfl, ptakeN S26 (by decide) fun w27 S27 => ⟨_, rfl, IFB_false S27⟩⟩, fun w30 S30 => ⟨_, S30.cell 4 rfl rfl, (pnext_ok S30).mono ?_⟩⟩
  rintro _ w31 ⟨_, rfl, rfl, S31⟩
  refine ⟨_, _, _, rfl, S31.lit3 fun b53 w35 S35 => ⟨_, S35.cell 0 rfl rfl, IFB_ne (fun h => absurd rfl h) (fun _ => ?_)⟩⟩
  refine ⟨_, _, _, S35.cell 4 rfl rfl, _, _, _, S35.cell 4 rfl rfl, _, _, _, S35.cell 4 rfl rfl, _, _, _, S35.cell 4 rfl rfl, _, S35.cell 4 rfl rfl, ?_⟩
  exact S35.sto5 6 rfl fun w40 S40 => ⟨_, _, _, S40.cell 6 rfl rfl, _, _, _, S40.cell 6 rfl rfl, _, _, _, S40.cell 6 rfl rfl, _, _, _, S40.cell 6 rfl rfl, _, S40.cell 6 rfl rfl, a, cap, K, a1, c1, ag, cg, ao, co, hR, rfl, S40.sub (.cons _ (.cons_cons _ (.cons_cons _ (.cons_cons _ (.cons _ (.cons _ (.cons _ (.refl _))))))))⟩
end Go.Proofs.YtbpdfpfgijhokaaGreatDoor
namespace Go.Proofs.YtbpdfpfgijhokaaGreatDoor
open Go.Dn Go.Proofs
set_option maxRecDepth 100000
set_option linter.unusedVariables false
namespace R
def strings_HasPrefix (s_1 : ByteArray) (prefix_2 : ByteArray) (k : Value → World → Prop) (w0 : World) : Prop :=
  Calls Tryz.prog f.in_stringslite_HasPrefix #[.string s_1, .string prefix_2] w0 (fun e_4 w1 => ∃ t7_3 : Bool, e_4 = .returned (.bool t7_3) ∧ k (.bool t7_3) w1)
theorem strings_HasPrefix_calls (s_1 : ByteArray) (prefix_2 : ByteArray) (k : Value → World → Prop) (w0 : World) (h : strings_HasPrefix s_1 prefix_2 k w0) : Calls Tryz.prog f.strings_HasPrefix #[.string s_1, .string prefix_2] w0 (fun e w => ∃ v, e = .returned v ∧ k v w) :=
  dFun_calls mixed (L := []) (C := []) (Eq.mpr (by kernel_rfl) h)
def strings_trimLeftByte (s_1 : ByteArray) (c_2 : Int) (k : Value → World → Prop) (w0 : World) : Prop :=
  ∃ (I_3 : List Value → World → Prop) (M_3 : List Value → World → Nat), I_3 [.string s_1] w0 ∧ ∀ (s_4 : ByteArray), ∀ w1 : World, I_3 [.string s_4] w1 → IFB (decide ((s_4.size : Int) > 0)) (((0 : Int) ≤ 0 ∧ 0 < (s_4.size : Int)) ∧ IFB (((sget s_4 0).toNat : Int) == c_2) (((0 : Int) ≤ 1 ∧ 1 ≤ (s_4.size : Int) ∧ (s_4.size : Int) ≤ (s_4.size : Int)) ∧ I_3 [.string (ByteArray.extract s_4 1 s_4.size)] w1 ∧ M_3 [.string (ByteArray.extract s_4 1 s_4.size)] w1 < M_3 [.string s_4] w1) (k (.string s_4) w1)) (k (.string s_4) w1)
theorem strings_trimLeftByte_calls (s_1 : ByteArray) (c_2 : Int) (k : Value → World → Prop) (w0 : World) (h : strings_trimLeftByte s_1 c_2 k w0) : Calls Tryz.prog f.strings_trimLeftByte #[.string s_1, .int .u8 c_2] w0 (fun e w => ∃ v, e = .returned v ∧ k v w) :=
  dFun_calls mixed (L := [(1, ⟨[(0, .string ⟨#[]⟩)], [1]⟩)]) (C := []) (Eq.mpr (by kernel_rfl) h)
def in_stringslite_HasPrefix (s_1 : ByteArray) (prefix_2 : ByteArray) (k : Value → World → Prop) (w0 : World) : Prop :=
  IFB (decide ((s_1.size : Int) ≥ (prefix_2.size : Int))) (((0 : Int) ≤ (0 : Int) ∧ (0 : Int) ≤ (prefix_2.size : Int) ∧ (prefix_2.size : Int) ≤ (s_1.size : Int)) ∧ k (.bool (bytesEq (ByteArray.extract s_1 0 prefix_2.size) prefix_2)) w0) (k (.bool false) w0)
theorem in_stringslite_HasPrefix_calls (s_1 : ByteArray) (prefix_2 : ByteArray) (k : Value → World → Prop) (w0 : World) (h : in_stringslite_HasPrefix s_1 prefix_2 k w0) : Calls Tryz.prog f.in_stringslite_HasPrefix #[.string s_1, .string prefix_2] w0 (fun e w => ∃ v, e = .returned v ∧ k v w) :=
  dFun_calls mixed (L := []) (C := []) (Eq.mpr (by kernel_rfl) h)
end R
end Go.Proofs.YtbpdfpfgijhokaaGreatDoor
namespace Go.Proofs.YtbpdfpfgijhokaaGreatDoor
set_option maxRecDepth 100000
open Go.Dn Go.Proofs
open Go.RowKit (Below)
set_option linter.unusedVariables false
/-! ### plain -/
def blankCh (c : UInt8) : Bool := decide (c.toNat = 32 ∨ c.toNat = 10)
def blankS : ByteArray := ⟨#[32, 10]⟩
def digS : ByteArray := ⟨#[48, 49, 50, 51, 52, 53, 54, 55, 56, 57]⟩
def signS : ByteArray := ⟨#[40, 41, 44, 43, 45, 42, 47, 37, 61, 60]⟩
theorem set_blank (c : UInt8) : decide (Lib.indexByte blankS.data.toList c ≥ 0) = blankCh c := by
  have := byte_all (p := fun c => decide (Lib.indexByte blankS.data.toList c ≥ 0) == blankCh c) (by kernel_rfl) c
  simpa using this
theorem set_let (c : UInt8) : decide (Lib.indexByte lettersS.data.toList c ≥ 0) = isLet c := by
  have := byte_all (p := fun c => decide (Lib.indexByte lettersS.data.toList c ≥ 0) == isLet c) (by kernel_rfl) c
  simpa using this
theorem set_dig (c : UInt8) : decide (Lib.indexByte digS.data.toList c ≥ 0) = isDig c := by
  have := byte_all (p := fun c => decide (Lib.indexByte digS.data.toList c ≥ 0) == isDig c) (by kernel_rfl) c
  simpa using this
theorem set_word (c : UInt8) : decide (Lib.indexByte othersS.data.toList c ≥ 0) = wordCh c := by
  have := byte_all (p := fun c => decide (Lib.indexByte othersS.data.toList c ≥ 0) == wordCh c) (by kernel_rfl) c
  simpa using this
theorem set_sign (c : UInt8) : decide (Lib.indexByte signS.data.toList c ≥ 0) = signCh c := by
  have := byte_all (p := fun c => decide (Lib.indexByte signS.data.toList c ≥ 0) == signCh c) (by kernel_rfl) c
  simpa using this
def firstP : List UInt8 → Int × Nat
  | [] => (0, 0)
  | c :: r => if isLet c then (1, runN wordCh (c :: r)) else if isDig c then (2, runN isDig (c :: r)) else
    if (c :: r).take 2 = [60, 61] then (4, 2) else if signCh c then (4, 1) else (0, 0)
def toksP : Nat → List UInt8 → Nat → Option (List Tk)
  | 0, _, _ => none
  | f + 1, l, at_ =>
    if l.drop (runN blankCh l) = [] then some [(((at_ + runN blankCh l : Nat) : Int), 0, E0)] else
    if ((l.drop (runN blankCh l)).headD 0).toNat = 39 then none else
    if (firstP (l.drop (runN blankCh l))).2 = 0 then none else
    match toksP f ((l.drop (runN blankCh l)).drop (firstP (l.drop (runN blankCh l))).2) (at_ + runN blankCh l + (firstP (l.drop (runN blankCh l))).2) with
    | none => none
    | some T => some ((((at_ + runN blankCh l : Nat) : Int), (firstP (l.drop (runN blankCh l))).1, sof ((l.drop (runN blankCh l)).take (firstP (l.drop (runN blankCh l))).2)) :: T)
theorem firstP_le (l : List UInt8) : (firstP l).2 ≤ l.length := by
  cases l with
  | nil => simp [firstP]
  | cons c r =>
    have h1 := runN_le wordCh (c :: r)
    have h2 := runN_le isDig (c :: r)
    simp only [firstP]
    split
    · exact h1
    · split
      · exact h2
      · split
        · rename_i h
          have := congrArg List.length h
          simp only [List.length_take, List.length_cons, List.length_nil] at this
          simp only [List.length_cons]
          omega
        · split <;> simp
section
variable {w : World} {s : ByteArray}
theorem pspan_ok {am : ByteArray} {p : UInt8 → Bool} (hp : ∀ c, decide (Lib.indexByte am.data.toList c ≥ 0) = p c) (hs : s.size ≤ 9223372036854775800) : Calls Tryz.prog f.query_span #[.string s, .string am] w (Ret fun r w' => r = .int .i64 ((runN p (bl s) : Nat) : Int) ∧ w' = w) := by
  apply R.query_span_calls
  unfold R.query_span
  have hbl := bl_length s
  refine forUp s.size (fun j w' => (∀ c ∈ (bl s).take j, p c = true) ∧ w' = w) (by omega) ⟨by simp, rfl⟩ fun I M j w1 hj h next => ?_
  obtain ⟨hall, rfl⟩ := h
  refine IFB_dec (fun hlt => ⟨⟨by omega, hlt⟩, (Tryz.strings_IndexByte am ((sget s ((j : Int).toNat)).toNat : Int) w1).mono ?_⟩) (fun hge => ⟨?_, rfl⟩)
  · have hjl : j < (bl s).length := by omega
    rintro _ w2 ⟨rfl, rfl⟩
    refine ⟨_, rfl, ?_⟩
    have e : ((sget s ((j : Int).toNat)).toNat : Int).toNat.toUInt8 = sget s j := by simp
    rw [e, hp, sget_at (by omega)]
    refine IFB_of (fun h3 => next _ (by omega) ⟨all_snoc hjl hall h3, rfl⟩) (fun h3 => ⟨?_, rfl⟩)
    rw [runN_at (by omega) hall fun _ => h3]
  · rw [runN_at (n := j) (by omega) hall fun h => by omega]
theorem phas_ok (p : ByteArray) (hp : p.size ≤ s.size ∨ s.size < p.size) : Calls Tryz.prog f.strings_HasPrefix #[.string s, .string p] w (Ret fun r w' => r = .bool (decide (p.size ≤ s.size) && decide (s.extract 0 p.size = p)) ∧ w' = w) := by
  apply R.strings_HasPrefix_calls
  unfold R.strings_HasPrefix
  have hh : Calls Tryz.prog f.in_stringslite_HasPrefix #[.string s, .string p] w (Ret fun r w' => r = .bool (decide (p.size ≤ s.size) && decide (s.extract 0 p.size = p)) ∧ w' = w) := by
    apply R.in_stringslite_HasPrefix_calls
    unfold R.in_stringslite_HasPrefix
    refine IFB_dec (fun h => ⟨⟨by omega, by omega, by omega⟩, ?_, rfl⟩) (fun h => ⟨?_, rfl⟩)
    · rw [decide_eq_true (by omega), Bool.true_and, bytesEq_iff]
    · rw [decide_eq_false (by omega), Bool.false_and]
  exact call0 hh ⟨_, rfl, rfl, rfl⟩
theorem pfirst_ok (h0 : 0 < s.size) (hq : (sget s 0).toNat ≠ 39) (hs : s.size ≤ 9223372036854775800) : Calls Tryz.prog f.query_first #[.string s] w (Ret fun r w' => r = .tuple #[.int .i64 (firstP (bl s)).1, .int .i64 (((firstP (bl s)).2 : Nat) : Int)] ∧ w' = w) := by
  apply R.query_first_calls
  unfold R.query_first
  obtain ⟨c, r, hcr⟩ : ∃ c r, bl s = c :: r := by
    cases h : bl s with
    | nil => have := bl_length s; rw [h] at this; simp at this; omega
    | cons c r => exact ⟨c, r, rfl⟩
  have hlen : s.size = r.length + 1 := by rw [← bl_length, hcr]; simp
  have g0 : sget s 0 = c := by rw [sget_eq, hcr]; rfl
  have e : ((sget s 0).toNat : Int).toNat.toUInt8 = c := by rw [g0]; simp
  rw [g0] at hq
  refine ⟨⟨by omega, by omega⟩, (Tryz.strings_IndexByte lettersS ((sget s 0).toNat : Int) w).mono ?_⟩
  rintro _ w1 ⟨rfl, rfl⟩
  refine ⟨_, rfl, ?_⟩
  rw [e, set_let]
  unfold firstP
  rw [hcr]
  refine IFB_of (fun h1 => call0 (pspan_ok set_word hs) ⟨_, rfl, ?_, rfl⟩) (fun h1 => (Tryz.strings_IndexByte digS ((sget s 0).toNat : Int) w1).mono ?_)
  · simp only [h1, if_true, hcr]
  rintro _ w3 ⟨rfl, rfl⟩
  refine ⟨_, rfl, ?_⟩
  rw [e, set_dig]
  refine IFB_of (fun h2 => call0 (pspan_ok set_dig hs) ⟨_, rfl, ?_, rfl⟩) (fun h2 => IFB_eq (fun h => absurd h (by rw [g0]; omega)) (fun _ => call0 (phas_ok _ (by omega)) ⟨_, rfl, ?_⟩))
  · simp only [h1, h2, if_true, hcr, Bool.false_eq_true, if_false]
  have hx : (decide ((⟨#[60, 61]⟩ : ByteArray).size ≤ s.size) && decide (s.extract 0 (⟨#[60, 61]⟩ : ByteArray).size = ⟨#[60, 61]⟩)) = decide ((c :: r).take 2 = [60, 61]) := by
    rw [Bool.eq_iff_iff, Bool.and_eq_true, decide_eq_true_eq, decide_eq_true_eq, decide_eq_true_eq, extract_eq, hcr]
    show (2 ≤ s.size ∧ sof (((c :: r).drop 0).take (2 - 0)) = ⟨#[60, 61]⟩) ↔ _
    rw [List.drop_zero, Nat.sub_zero]
    constructor
    · rintro ⟨_, h⟩
      have := congrArg bl h
      rw [bl_sof] at this
      exact this
    · intro h
      refine ⟨?_, by rw [h]; rfl⟩
      have := congrArg List.length h
      simp only [List.length_take, List.length_cons, List.length_nil] at this
      omega
  rw [hx]
  refine IFB_dec (fun h3 => ⟨?_, rfl⟩) (fun h3 => (Tryz.strings_IndexByte signS ((sget s 0).toNat : Int) w3).mono ?_)
  · simp only [h1, h2, h3, Bool.false_eq_true, if_false, if_true]
    rfl
  rintro _ w7 ⟨rfl, rfl⟩
  refine ⟨_, rfl, ?_⟩
  rw [e, set_sign]
  refine IFB_of (fun h4 => ⟨?_, rfl⟩) (fun h4 => ⟨?_, rfl⟩)
  · simp only [h1, h2, h3, h4, Bool.false_eq_true, if_false, if_true]
    rfl
  · simp only [h1, h2, h3, h4, Bool.false_eq_true, if_false]
    rfl
theorem ptokens_ok : Calls Tryz.prog f.query_tokens #[.string s] w (Ret fun v w' => ∃ b, v = .func (.func f.query_tokens_c1) #[] #[.pointer (some ⟨b, 0, none⟩)] ∧ ST w w' [It.cells b #[.string s] ty.string]) := by
  apply R.query_tokens_calls
  unfold R.query_tokens
  exact (ST.start w).newB fun b1 w1 _ _ S1 => ⟨b1, rfl, S1⟩
end
theorem ptokens_c1 {w0 w : World} {s : ByteArray} {T : List Tk} {f0 L b : Nat} {I : List Tk → List It → Prop} {J : List It → Prop} (hT : toksP f0 (bl s) 0 = some T) (hs : s.size ≤ 9223372036854775800) (hy : Yld w0 L T (fun t vs => vs = [tkV t]) I J) {HN B : List It} (hI : I [] B) (S : ST w0 w (It.cells b #[.string s] ty.string :: (HN ++ B))) :
    Calls Tryz.prog f.query_tokens_c1 #[.func (.yield L) #[] #[], .pointer (some ⟨b, 0, none⟩)] w (Ret fun _ w' => ∃ B', ST w0 w' (HN ++ B') ∧ (I T B' ∨ J B')) := by
  apply R.query_tokens_c1_calls
  unfold R.query_tokens_c1
  have hbl := bl_length s
  refine ⟨fun st w => ∃ (n k : Nat) (D rest : List Tk) (B' : List It), st = [.int .i64 (n : Int)] ∧ n ≤ s.size ∧ toksP k ((bl s).drop n) n = some rest ∧ T = D ++ rest ∧ I D B' ∧ ST w0 w (It.cells b #[.string s] ty.string :: (HN ++ B')), fun st _ => match st with | [.int _ t] => s.size - t.toNat | _ => 0, ⟨0, f0, [], T, B, rfl, by omega, hT, rfl, hI, S⟩, ?_⟩
  rintro at_ w1 ⟨n, k, D, rest, B1, hst, hn, hk, hTD, hI1, S1⟩
  cases hst
  cases k with
  | zero => cases hk
  | succ k =>
  obtain ⟨l, hl⟩ : ∃ l, l = (bl s).drop n := ⟨_, rfl⟩
  have hll : l.length = s.size - n := by rw [hl, List.length_drop]; omega
  have hle := runN_le blankCh l
  obtain ⟨m, hm⟩ : ∃ m, m = runN blankCh l := ⟨_, rfl⟩
  rw [← hl, toksP, ← hm] at hk
  rw [← hm] at hle
  refine ⟨_, S1.cell 0 rfl rfl, ⟨by omega, by omega, by omega⟩, ?_⟩
  have hse : (s.extract n s.size).size = s.size - n := by rw [← bl_length, bl_extract]; simp [bl_length]
  have hbe : bl (s.extract n s.size) = l := by rw [bl_extract, ← hl, List.take_of_length_le (by omega)]
  rw [Int.toNat_natCast]
  refine call0 (pspan_ok (s := s.extract n s.size) (am := ⟨#[32, 10]⟩) set_blank (by omega)) ⟨_, rfl, _, S1.cell 0 rfl rfl, ?_⟩
  rw [hbe, ← hm]
  have ew : IntKind.i64.wrap ((n : Int) + (m : Int)) = ((n + m : Nat) : Int) := by rw [wrap_i64 (by omega) (by omega)]; omega
  rw [ew]
  have hyl : ∀ {x : Tk} {rest' : List Tk} {w2 : World}, rest = x :: rest' → ST w0 w2 (It.cells b #[.string s] ty.string :: (HN ++ B1)) → YLD Tryz.prog L #[tkV x] (fun y w' => ∃ B', ST w0 w' (It.cells b #[.string s] ty.string :: (HN ++ B')) ∧ ((y = true ∧ I (D ++ [x]) B') ∨ (y = false ∧ J B'))) w2 := fun hr S2 => hy D _ _ [tkV _] (It.cells b #[.string s] ty.string :: HN) B1 _ (by rw [hTD, hr]) hI1 S2 rfl
  refine IFB_eq (fun he => ?_) (fun hne => ?_)
  · have hnil : l.drop m = [] := List.drop_eq_nil_of_le (by omega)
    rw [if_pos hnil] at hk
    have hr := (Option.some.inj hk).symm
    refine (hyl hr S1).mono ?_
    rintro y w3 ⟨B', S3, ⟨_, hI3⟩ | ⟨_, hJ⟩⟩
    · exact ⟨B', S3.drop 1, .inl (by rw [hTD, hr]; exact hI3)⟩
    · exact ⟨B', S3.drop 1, .inr hJ⟩
  · have hml : m < l.length := by omega
    have hnn : l.drop m ≠ [] := fun h => by have := congrArg List.length h; simp only [List.length_drop, List.length_nil] at this; omega
    rw [if_neg hnn] at hk
    split at hk
    · cases hk
    rename_i hq
    split at hk
    · cases hk
    rename_i hf0
    obtain ⟨q, hqq⟩ : ∃ q, q = firstP (l.drop m) := ⟨_, rfl⟩
    rw [← hqq] at hk hf0
    have hql : q.2 ≤ s.size - (n + m) := by
      have := firstP_le (l.drop m)
      rw [← hqq, List.length_drop] at this
      omega
    have hdd : l.drop m = (bl s).drop (n + m) := by rw [hl, List.drop_drop]
    have hse2 : (s.extract (n + m) s.size).size = s.size - (n + m) := by rw [← bl_length, bl_extract]; simp [bl_length]
    have hbe2 : bl (s.extract (n + m) s.size) = l.drop m := by rw [bl_extract, ← hdd, List.take_of_length_le (by rw [List.length_drop]; omega)]
    refine ⟨_, S1.cell 0 rfl rfl, ⟨by omega, by omega, by omega⟩, ?_⟩
    rw [Int.toNat_natCast]
    have hh : sget (s.extract (n + m) s.size) 0 = (l.drop m).headD 0 := by
      rw [sget_eq, hbe2]
      all_goals (cases l.drop m <;> rfl)
    refine call0 (pfirst_ok (s := s.extract (n + m) s.size) (by omega) (by rw [hh]; exact hq) (by omega)) ⟨_, _, rfl, _, S1.cell 0 rfl rfl, ?_⟩
    rw [hbe2, ← hqq]
    have ew2 : IntKind.i64.wrap (((n + m : Nat) : Int) + (q.2 : Int)) = ((n + m + q.2 : Nat) : Int) := by rw [wrap_i64 (by omega) (by omega)]; omega
    rw [ew2, Int.toNat_natCast]
    refine ⟨⟨by omega, by omega, by omega⟩, ?_⟩
    have hex : s.extract (n + m) (n + m + q.2) = sof ((l.drop m).take q.2) := by rw [extract_eq, hdd, Nat.add_sub_cancel_left]
    rw [hex]
    split at hk
    · cases hk
    rename_i T' hT'
    have hr := (Option.some.inj hk).symm
    refine (hyl hr S1).mono ?_
    rintro y w5 ⟨B', S5, ⟨rfl, hI5⟩ | ⟨rfl, hJ⟩⟩
    · refine IFB_not (IFB_true (IFB_eq (fun h => absurd h (by omega)) (fun _ => ⟨⟨n + m + q.2, k, D ++ [_], T', B', rfl, by omega, ?_, by rw [hTD, hr]; simp, hI5, S5⟩, by simp only [Int.toNat_natCast]; omega⟩)))
      rw [hdd, List.drop_drop] at hT'
      exact hT'
    · exact IFB_not (IFB_false ⟨B', S5.drop 1, .inr hJ⟩)
end Go.Proofs.YtbpdfpfgijhokaaGreatDoor
namespace Go.Proofs.YtbpdfpfgijhokaaGreatDoor
set_option maxRecDepth 100000
open Go.Dn Go.Proofs
open Go.RowKit (Below)
set_option linter.unusedVariables false
def oneS : ByteArray := ⟨#[49]⟩
theorem below_bytesWorld (w : World) (e : TypeId) (t : ByteArray) : Below w.heap.size w (Lib.bytesWorld w e t) := by
  unfold Lib.bytesWorld
  have h1 : Keeps (fun k => k = w.heap.size) w (w.drew.alloc (.cells (Lib.bytesCells w e t) e)) := (Keeps.refl _ w).drew.alloc _
  have h2 := freeze_keeps (fun k => k = w.heap.size) (w.drew.alloc (.cells (Lib.bytesCells w e t) e)) ⟨w.heap.size, (Lib.bytesCells w e t).size, none⟩ 1 rfl
  exact (h1.trans h2 (fun _ _ h => h)).below (Nat.le_refl _) (fun k hk he => by omega)
theorem iface_nil {k : Bool → Prop} (h : k true) : IFACEV .nilIface k := h
section
variable {w : World}
theorem ptrimB_one : Calls Tryz.prog f.strings_trimLeftByte #[.string oneS, .int .u8 48] w (Ret fun r w' => r = .string oneS ∧ w' = w) := by
  apply R.strings_trimLeftByte_calls
  unfold R.strings_trimLeftByte
  refine ⟨fun st w' => st = [.string oneS] ∧ w' = w, fun _ _ => 0, ⟨rfl, rfl⟩, ?_⟩
  rintro s w1 ⟨hst, rfl⟩
  cases hst
  exact IFB_dec (fun _ => ⟨⟨by decide, by decide⟩, IFB_eq (fun h => absurd h (by decide)) (fun _ => ⟨rfl, rfl⟩)⟩) (fun h => absurd (by decide) h)
theorem ptrim_one : Calls Tryz.prog f.strings_TrimLeft #[.string oneS, .string ⟨#[48]⟩] w (Ret fun r w' => r = .string oneS ∧ w' = w) := by
  apply R.strings_TrimLeft_calls
  unfold R.strings_TrimLeft
  exact IFB_no (by rw [bytesEq_iff]; decide) (IFB_no (by rw [bytesEq_iff]; decide) ⟨fun _ _ => False, IFB_eq (fun _ => ⟨⟨by decide, by decide⟩, IFB_dec (fun _ => ⟨⟨by decide, by decide⟩, call0 ptrimB_one ⟨_, rfl, rfl, rfl⟩⟩) (fun h => absurd (by decide) h)⟩) (fun h => absurd (by decide) h), fun _ h => h.elim⟩)
theorem pplain_one : Calls Tryz.prog f.query_plain #[.string kOne.2.2] w (Ret fun r w' => r = .string kOne.2.2 ∧ Below w.heap.size w w') := by
  apply R.query_plain_calls
  unfold R.query_plain
  exact call0 ptrim_one ⟨_, rfl, IFB_not (IFB_no (by rw [bytesEq_iff]; decide) ⟨rfl, .refl _ _⟩)⟩
theorem pvalue_one (E : Env w) : Calls Tryz.prog f.value_Parse #[.string oneS] w (Ret fun r w' => r = .tuple #[.agg #[.int .i64 1, .int .i64 1, .string E0], .int .i64 0] ∧ Below w.heap.size w w') := by
  apply R.value_Parse_calls
  unfold R.value_Parse
  refine (ST.start w).newB fun b2 w1 _ _ S1 => IFB_no (by rw [bytesEq_iff]; decide) (IFB_no (by rw [bytesEq_iff]; decide) (IFB_no (by rw [bytesEq_iff]; decide) (S1.lit3 fun b12 w14 _ S14 => ⟨fun st w' => st = [.bool false] ∧ ST w w' [It.cells b12 #[.int .i64 1, .int .i64 0, .string E0] ty.api_Value, It.cells b2 #[.int .i64 0, .int .i64 0, .string E0] ty.api_Value], IFB_dec (fun h => absurd h (by decide)) (fun _ => ⟨rfl, S14⟩), ?_⟩)))
  rintro _ w15 ⟨hst, S15⟩
  cases hst
  refine IFB_false ((Tryz.strconv_ParseInt_10_at64_ok oneS (by decide) 1 (by kernel_rfl) w15).mono ?_)
  rintro _ w30 ⟨rfl, hw⟩
  have B30 : Below w15.heap.size w15 w30 := by
    rcases hw with rfl | ⟨tt, rfl⟩
    · exact .refl _ _
    · exact below_bytesWorld _ _ _
  have S30 := S15.grown B30
  refine ⟨_, _, rfl, iface_nil (IFB_false ((Tryz.strconv_FormatInt_10 1 (by decide) (by decide) w30 (E.grown S30.bel).pow).mono ?_))⟩
  rintro _ w34 ⟨rfl, k, os, rfl⟩
  have S34 := S30.grown (below_grow w30 k os)
  refine ⟨_, rfl, IFB_not (IFB_yes (by kernel_rfl) (S34.sto 0 rfl (cs' := #[.int .i64 1, .int .i64 1, .string E0]) (by simp) rfl fun w38 S38 => ⟨_, S38.cell 0 rfl rfl, _, S38.cell 0 rfl rfl, _, S38.cell 0 rfl rfl, S38.sto3 1 rfl fun w41 S41 => ⟨_, S41.cell 1 rfl rfl, _, S41.cell 1 rfl rfl, _, S41.cell 1 rfl rfl, rfl, S41.bel⟩⟩))⟩
theorem pconst_one (E : Env w) : Calls Tryz.prog f.query_constant #[.string kOne.2.2] w (Ret fun r w' => r = .agg ⟨exHead (numX 1) none 0⟩ ∧ Below w.heap.size w w') := by
  apply R.query_constant_calls
  unfold R.query_constant
  refine (ST.start w).newB fun b2 w1 _ _ S1 => S1.call (pvalue_one (E.grown S1.bel)) fun w2 _ S2 => ⟨_, _, _, _, rfl, S2.lit3 fun b8 w6 _ S6 => IFB_ne (fun h => absurd rfl h) (fun _ => ⟨_, S6.cell 0 rfl rfl, _, S6.cell 0 rfl rfl, _, S6.cell 0 rfl rfl, stEx S6 1 rfl fun w19 S19 => ⟨rfl, S19.bel⟩⟩)⟩
end
theorem read_idle (p q r : Addr) (w : World) :
    CallsD Tryz.prog 99 #[.pointer (some p), .pointer (some q), .pointer (some r)] .returning w fun e u' w' => e = .returned (.tuple #[]) ∧ u' = .returning ∧ w' = w := by
  refine callsD_of_wpS Tryz.func99 rfl fun c₀ cs hu => ?_
  apply wpS_seq
  apply wpS_region
  simp [wpOpsS, go_sem, recoverD, hu, Tryz.ntmps99, Exit.thenS]
  refine wpS_of_wp ?_
  go_wp2
  cases c₀
  simp_all [bodyPostS, results, Tryz.results99]
theorem pread_ok {w0 w : World} {H : List It} (E : Env w0) {x : Option Addr} {c : Nat} (S : ST w0 w (It.rd x (tksL T1) :: H)) (hc : T1.length ≤ c) (hc2 : c ≤ 9223372036854775807) : Calls Tryz.prog 60 #[.slice x T1.length c] w (Ret fun v w' => ∃ a cap K a1 c1 ag cg ao co, mulR a cap K ∧ v = .tuple #[.agg ⟨quL Q1 a1 none ag ao c1 0 cg co⟩, .int .i64 0, .bool true] ∧ ST w0 w' (QL a cap K a1 c1 ag cg ao co ++ H)) := by
  have hmf : ∀ (fn : Fn) (first cap : Array Value) (w : World), (Instr.makeFunc fn first cap).run Tryz.prog w = .ok (.func fn first cap) w := fun _ _ _ _ => rfl
  have key : NEWB #[.slice none 0 0, .slice none 0 0, .slice none 0 0, .slice none 0 0, .int .i64 0] ty.api_Query (fun b1 w1 => NEWB #[.int .i64 0] ty.int (fun b2 w2 => NEWB #[.bool false] ty.bool (fun b3 w3 => NEWB #[.slice x T1.length c] ty.query_parser (fun b4 w4 => ST w0 w4 [It.cells b4 #[.slice x T1.length c] ty.query_parser, It.cells b3 #[.bool false] ty.bool, It.cells b2 #[.int .i64 0] ty.int, zqb b1] ∧ ST w0 w4 (It.cells b4 #[.slice x T1.length c] ty.query_parser :: It.cells b3 #[.bool false] ty.bool :: It.cells b2 #[.int .i64 0] ty.int :: zqb b1 :: It.rd x (tksL T1) :: H)) w3) w2) w1) w :=
    S.newB fun b1 w1 _ _ S1 => S1.newB fun b2 w2 _ _ S2 => S2.newB fun b3 w3 _ _ S3 => S3.newB fun b4 w4 _ _ S4 => ⟨S4.sub (.cons_cons _ (.cons_cons _ (.cons_cons _ (.cons_cons _ (List.nil_sublist _))))), S4⟩
  unfold NEWB at key
  simp only [World.size_alloc] at key
  obtain ⟨_, S4⟩ := key
  have P4 : PS w0 _ _ T1 _ := ⟨x, c, hc, hc2, S4.pull 4 rfl |>.pull 1 rfl⟩
  generalize hn : T1.length = n at *
  go_enter_defers Tryz.func60, Tryz.ntmps60
  go_wp2_with (fail)
  refine (pquery_ok pplain_one pconst_one E P4).mono ?_
  rintro _ w5 ⟨_, rfl, a, cap, K, a1, c1, ag, cg, ao, co, hR, rfl, P5⟩
  have st1 : STOREC (quL Q1 a1 none ag ao c1 0 cg co) ⟨w.heap.size, 0, none⟩ 0 (fun w6 => PS w0 w6 (w.heap.size + 1 + 1 + 1) [kEnd] (It.cells w.heap.size ⟨quL Q1 a1 none ag ao c1 0 cg co⟩ ty.api_Query :: It.cells (w.heap.size + 1) #[.int .i64 0] ty.int :: It.cells (w.heap.size + 1 + 1) #[.bool false] ty.bool :: (QL a cap K a1 c1 ag cg ao co ++ H))) w5 := by
    have P6 := (PS.front [It.cells (w.heap.size + 1 + 1) #[.bool false] ty.bool, It.cells (w.heap.size + 1) #[.int .i64 0] ty.int, zqb w.heap.size] P5)
    exact PS.sto5 ((P6.perm (List.Perm.swap _ _ _)).perm ((List.Perm.cons _ (List.Perm.swap _ _ _)).trans (List.Perm.swap _ _ _))) 0 rfl fun w6 S6 => S6.perm (List.Perm.cons _ (List.Perm.refl _))
  obtain ⟨w6, S6, hr6⟩ := STOREC_run (P := Tryz.prog) _ _ _ _ _ st1
  obtain ⟨_, z2, S7⟩ := S6.sto 1 rfl (i := 0) (v := .int .i64 0) (cs' := #[.int .i64 0]) (by simp) rfl fun w7 S7 => S7
  have c2 := S6.cell 1 rfl (i := 0) rfl
  obtain ⟨_, z3, S8⟩ := S7.sto 2 rfl (i := 0) (v := .bool true) (cs' := #[.bool true]) (by simp) rfl fun w8 S8 => S8
  have c3 := S7.cell 2 rfl (i := 0) rfl
  go_wp2_with (fail)
  generalize (w6.setCell ⟨w.heap.size + 1, 0, none⟩ (.int .i64 0)).setCell ⟨w.heap.size + 1 + 1, 0, none⟩ (.bool true) = w8 at S8 ⊢
  have d0 : w8.cell? ⟨w.heap.size, 0, none⟩ = some (.slice a1 1 c1) := S8.cell 0 rfl rfl
  have d1 : w8.cell? ⟨w.heap.size, 1, none⟩ = some (.slice none 0 0) := S8.cell 0 rfl rfl
  have d2 : w8.cell? ⟨w.heap.size, 2, none⟩ = some (.slice ag 1 cg) := S8.cell 0 rfl rfl
  have d3 : w8.cell? ⟨w.heap.size, 3, none⟩ = some (.slice ao 1 co) := S8.cell 0 rfl rfl
  have d4 : w8.cell? ⟨w.heap.size, 4, none⟩ = some (.int .i64 (-1)) := S8.cell 0 rfl rfl
  have d5 : w8.cell? ⟨w.heap.size + 1, 0, none⟩ = some (.int .i64 0) := S8.cell 1 rfl rfl
  have d6 : w8.cell? ⟨w.heap.size + 1 + 1, 0, none⟩ = some (.bool true) := S8.cell 2 rfl rfl
  have S9 : ST w0 w8 (QL a cap K a1 c1 ag cg ao co ++ H) := by
    obtain ⟨_, _, _, _, S9⟩ := S8.drop 3
    exact S9.drop 2
  refine leaves_cons (f := 99) (args := #[.pointer (some ⟨w.heap.size, 0, none⟩), .pointer (some ⟨w.heap.size + 1, 0, none⟩), .pointer (some ⟨w.heap.size + 1 + 1, 0, none⟩)]) (by simp) (by simp [go_sem]) ?_
  refine (read_idle _ _ _ _).mono ?_
  rintro e u' w'' ⟨rfl, rfl, rfl⟩
  simp [Leaves, settle, results, Tryz.results60, go_sem, d0, d1, d2, d3, d4, d5, d6]
  exact ⟨_, rfl, a, cap, K, hR, a1, c1, ag, cg, ao, co, rfl, S9⟩
section
variable {P : Program} {w : World}
theorem good_fields1 {n : Nat} {t : TypeId} {cs : List Value} {l : List (TypeId × Nat)} (h : Go.Dn.Good P w (n + 1) t cs) (ht : fieldsT P t = some l) :
    cs.length = P.cellsOf t ∧ ∀ x ∈ l, Go.Dn.Good P w n x.1 ((cs.drop x.2).take (P.cellsOf x.1)) := by
  unfold fieldsT at ht
  split at ht
  · rename_i fs hu
    unfold Go.Dn.Good at h
    rw [hu] at h
    cases ht
    refine ⟨h.1, fun x hx => ?_⟩
    obtain ⟨f, hf, rfl⟩ := List.mem_map.1 hx
    exact h.2 f hf
  · cases ht
theorem good_slice1 {n : Nat} {t e : TypeId} {cs : List Value} (h : Go.Dn.Good P w (n + 1) t cs) (ht : P.underlying t = some (.slice e)) : ∃ a len cap, cs = [.slice a len cap] ∧ len ≤ cap ∧ cap ≤ maxLen ∧ (a = none → cap = 0) ∧
    ∃ rows : List (List Value), rows.length = len ∧ Rd w a rows.flatten ∧ ∀ r ∈ rows, r.length = P.cellsOf e ∧ Go.Dn.Good P w n e r := by
  unfold Go.Dn.Good at h
  rw [ht] at h
  exact h
end
theorem wf64 {x : Int} (h : (Lit.int .i64 x).wf = true) : i64 x := by simpa [Lit.wf, IntKind.min, IntKind.max, IntKind.signed, IntKind.bits] using h
theorem cells_intP : Tryz.prog.cellsOf ty.int = 1 := by kernel_rfl
theorem cells_int64P : Tryz.prog.cellsOf ty.int64 = 1 := by kernel_rfl
theorem cells_strP : Tryz.prog.cellsOf ty.string = 1 := by kernel_rfl
theorem cells_boolP : Tryz.prog.cellsOf ty.bool = 1 := by kernel_rfl
theorem cells_valP : Tryz.prog.cellsOf ty.api_Value = 3 := by kernel_rfl
theorem cells_exP : Tryz.prog.cellsOf ty.api_Expr = 6 := by kernel_rfl
theorem cells_LexP : Tryz.prog.cellsOf ty.L_api_Expr = 1 := by kernel_rfl
theorem cells_itP : Tryz.prog.cellsOf ty.api_Item = 8 := by kernel_rfl
theorem cells_LitP : Tryz.prog.cellsOf ty.L_api_Item = 1 := by kernel_rfl
theorem cells_keyP : Tryz.prog.cellsOf ty.api_Key = 2 := by kernel_rfl
theorem cells_LkeyP : Tryz.prog.cellsOf ty.L_api_Key = 1 := by kernel_rfl
theorem cells_quP : Tryz.prog.cellsOf ty.api_Query = 5 := by kernel_rfl
theorem und_intP : Tryz.prog.underlying ty.int = some (.int .i64) := by kernel_rfl
theorem und_int64P : Tryz.prog.underlying ty.int64 = some (.int .i64) := by kernel_rfl
theorem und_strP : Tryz.prog.underlying ty.string = some .string := by kernel_rfl
theorem und_boolP : Tryz.prog.underlying ty.bool = some .bool := by kernel_rfl
theorem und_LexP : Tryz.prog.underlying ty.L_api_Expr = some (.slice ty.api_Expr) := by kernel_rfl
theorem und_LitP : Tryz.prog.underlying ty.L_api_Item = some (.slice ty.api_Item) := by kernel_rfl
theorem und_LkeyP : Tryz.prog.underlying ty.L_api_Key = some (.slice ty.api_Key) := by kernel_rfl
theorem fld_val : fieldsT Tryz.prog ty.api_Value = some [(ty.int, 0), (ty.int64, 1), (ty.string, 2)] := by kernel_rfl
theorem fld_ex : fieldsT Tryz.prog ty.api_Expr = some [(ty.int, 0), (ty.string, 1), (ty.api_Value, 2), (ty.L_api_Expr, 5)] := by kernel_rfl
theorem fld_it : fieldsT Tryz.prog ty.api_Item = some [(ty.string, 0), (ty.int, 1), (ty.api_Expr, 2)] := by kernel_rfl
theorem fld_key : fieldsT Tryz.prog ty.api_Key = some [(ty.int, 0), (ty.bool, 1)] := by kernel_rfl
theorem fld_qu : fieldsT Tryz.prog ty.api_Query = some [(ty.L_api_Item, 0), (ty.L_api_Expr, 1), (ty.L_api_Expr, 2), (ty.L_api_Key, 3), (ty.int, 4)] := by kernel_rfl
section
variable {w : World}
theorem good_val {n : Nat} {cs : List Value} (h : Go.Dn.Good Tryz.prog w n ty.api_Value cs) : ∃ v : Val, cs = [.int .i64 v.1, .int .i64 v.2.1, .string v.2.2] ∧ i64 v.1 ∧ i64 v.2.1 ∧ v.2.2.size ≤ maxLen := by
  obtain ⟨hl, m, hf⟩ := h.fields fld_val
  rw [cells_valP] at hl
  match cs, hl with
  | [v0, v1, v2], _ =>
    simp only [List.mem_cons, List.not_mem_nil, or_false, forall_eq_or_imp, forall_eq, cells_intP, cells_int64P, cells_strP] at hf
    obtain ⟨h0, h1, h2⟩ := hf
    obtain ⟨x0, e0, q0⟩ := h0.int und_intP
    obtain ⟨x1, e1, q1⟩ := h1.int und_int64P
    obtain ⟨x2, e2, q2⟩ := h2.str und_strP
    simp only [List.drop_zero, List.take_succ_cons, List.take_zero, List.drop_succ_cons, List.cons.injEq, and_true] at e0 e1 e2
    exact ⟨(x0, x1, x2), by rw [e0, e1, e2], wf64 q0, wf64 q1, q2⟩
theorem rows_all {α : Type} {C : α → List Value → Prop} : ∀ {rows : List (List Value)}, (∀ r ∈ rows, ∃ x, C x r) → ∃ xs : List α, xs.length = rows.length ∧ RowsC C xs rows.flatten
  | [], _ => ⟨[], rfl, rfl⟩
  | r :: rows, h => by
    obtain ⟨x, hx⟩ := h r (by simp)
    obtain ⟨xs, h1, h2⟩ := rows_all (rows := rows) fun r hr => h r (by simp [hr])
    exact ⟨x :: xs, by simp [h1], by rw [List.flatten_cons]; exact ⟨r, _, rfl, hx, h2⟩⟩
theorem good_ex : ∀ (n : Nat) (cs : List Value), Go.Dn.Good Tryz.prog w n ty.api_Expr cs → ∃ x, ExC (fun _ => False) w x cs := by
  intro n
  induction n using Nat.strongRecOn with
  | ind n ih =>
    intro cs h
    cases n with
    | zero => exact h.elim
    | succ n =>
      obtain ⟨hl, hf⟩ := good_fields1 h fld_ex
      rw [cells_exP] at hl
      match cs, hl with
      | [v0, v1, v2, v3, v4, v5], _ =>
        simp only [List.mem_cons, List.not_mem_nil, or_false, forall_eq_or_imp, forall_eq, cells_intP, cells_strP, cells_valP, cells_LexP] at hf
        obtain ⟨h0, h1, h2, h5⟩ := hf
        obtain ⟨x0, e0, q0⟩ := h0.int und_intP
        obtain ⟨x1, e1, q1⟩ := h1.str und_strP
        obtain ⟨v, e2, q2, q3, q4⟩ := good_val h2
        cases n with
        | zero => exact h5.elim
        | succ n =>
          obtain ⟨a, len, cap, e5, g1, g2, g3, rows, rfl, g4, g5⟩ := good_slice1 h5 und_LexP
          obtain ⟨ks, k1, k2⟩ := rows_all (C := ExC (fun _ => False) w) (rows := rows) fun r hr => ih n (by omega) r (g5 r hr).2
          simp only [List.drop_zero, List.take_succ_cons, List.take_zero, List.drop_succ_cons, List.cons.injEq, and_true] at e0 e1 e2 e5
          obtain ⟨e2, e3, e4⟩ := e2
          refine ⟨.mk x0 x1 v ks, ?_⟩
          have := ExC.close (F := fun _ => False) (w := w) (x := .mk x0 x1 v ks) (a := a) (cap := cap) g4 (fun _ _ _ h => h) (by show ks.length ≤ cap; omega) g2 g3 ⟨wf64 q0, q1, q2, q3, q4⟩ (rowsC_exL.1 k2)
          rw [e0, e1, e2, e3, e4, e5]
          rw [← k1]
          exact this
theorem good_it {n : Nat} {cs : List Value} (h : Go.Dn.Good Tryz.prog w n ty.api_Item cs) : ∃ x, ItC (fun _ => False) w x cs := by
  obtain ⟨hl, m, hf⟩ := h.fields fld_it
  rw [cells_itP] at hl
  match cs, hl with
  | v0 :: v1 :: c, hl =>
    simp only [List.mem_cons, List.not_mem_nil, or_false, forall_eq_or_imp, forall_eq, cells_intP, cells_strP, cells_exP] at hf
    obtain ⟨h0, h1, h2⟩ := hf
    obtain ⟨x0, e0, q0⟩ := h0.str und_strP
    obtain ⟨x1, e1, q1⟩ := h1.int und_intP
    simp only [List.drop_zero, List.take_succ_cons, List.take_zero, List.drop_succ_cons, List.cons.injEq, and_true] at e0 e1 h2
    rw [List.take_of_length_le (by simp at hl; omega)] at h2
    obtain ⟨x, hx⟩ := good_ex _ _ h2
    exact ⟨(x0, x1, x), c, by rw [e0, e1], hx, q0, wf64 q1⟩
theorem good_key {n : Nat} {cs : List Value} (h : Go.Dn.Good Tryz.prog w n ty.api_Key cs) : ∃ x, keyC x cs := by
  obtain ⟨hl, m, hf⟩ := h.fields fld_key
  rw [cells_keyP] at hl
  match cs, hl with
  | [v0, v1], _ =>
    simp only [List.mem_cons, List.not_mem_nil, or_false, forall_eq_or_imp, forall_eq, cells_intP, cells_boolP] at hf
    obtain ⟨h0, h1⟩ := hf
    obtain ⟨x0, e0, q0⟩ := h0.int und_intP
    obtain ⟨x1, e1⟩ := h1.bool und_boolP
    simp only [List.drop_zero, List.take_succ_cons, List.take_zero, List.drop_succ_cons, List.cons.injEq, and_true] at e0 e1
    exact ⟨(x0, x1), by rw [e0, e1], wf64 q0⟩
theorem good_sl {α : Type} {C : α → List Value → Prop} {n : Nat} {t e : TypeId} {cs : List Value} (h : Go.Dn.Good Tryz.prog w n t cs) (ht : Tryz.prog.underlying t = some (.slice e)) (hC : ∀ m r, Go.Dn.Good Tryz.prog w m e r → ∃ x, C x r) : ∃ l v, cs = [v] ∧ SlC (fun _ => False) w C l v := by
  obtain ⟨a, len, cap, rfl, h1, h2, h3, m, rows, rfl, hr, hrs⟩ := h.slice ht
  obtain ⟨l, k1, k2⟩ := rows_all (C := C) (rows := rows) fun r hr => hC m r (hrs r hr).2
  exact ⟨l, _, rfl, ⟨a, cap, _, by rw [k1], hr, fun _ _ _ h => h, by omega, h2, h3, k2⟩⟩
theorem good_qu {n : Nat} {cs : List Value} (h : Go.Dn.Good Tryz.prog w n ty.api_Query cs) : ∃ q, QuC (fun _ => False) w q cs := by
  obtain ⟨hl, m, hf⟩ := h.fields fld_qu
  rw [cells_quP] at hl
  match cs, hl with
  | [v0, v1, v2, v3, v4], _ =>
    simp only [List.mem_cons, List.not_mem_nil, or_false, forall_eq_or_imp, forall_eq, cells_intP, cells_LitP, cells_LexP, cells_LkeyP] at hf
    obtain ⟨h0, h1, h2, h3, h4⟩ := hf
    obtain ⟨l0, u0, e0, s0⟩ := good_sl h0 und_LitP fun _ _ h => good_it h
    obtain ⟨l1, u1, e1, s1⟩ := good_sl h1 und_LexP fun _ _ h => good_ex _ _ h
    obtain ⟨l2, u2, e2, s2⟩ := good_sl h2 und_LexP fun _ _ h => good_ex _ _ h
    obtain ⟨l3, u3, e3, s3⟩ := good_sl h3 und_LkeyP fun _ _ h => good_key h
    obtain ⟨x4, e4, q4⟩ := h4.int und_intP
    simp only [List.drop_zero, List.take_succ_cons, List.take_zero, List.drop_succ_cons, List.cons.injEq, and_true] at e0 e1 e2 e3 e4
    refine ⟨⟨l0, l1, l2, l3, x4⟩, ⟨u0, u1, u2, u3, by rw [e0, e1, e2, e3, e4], s0, s1, s2, s3, wf64 q4⟩⟩
end
section
variable {w : World} {cs : List Col} {a1 : Option Addr} {c1 : Nat} {q : Qu} {ai aw ag ao : Option Addr} {ci cw cg co : Nat}
end
def txt1 : ByteArray := ⟨#[115, 101, 108, 101, 99, 116, 32, 115, 117, 109, 40, 32, 97, 42, 40, 98, 43, 49, 41, 32, 41, 32, 97, 115, 32, 115, 32, 103, 114, 111, 117, 112, 32, 98, 121, 32, 99, 32, 111, 114, 100, 101, 114, 32, 98, 121, 32, 115, 32, 100, 101, 115, 99]⟩
def out1 : ByteArray := ⟨#[115, 101, 108, 101, 99, 116, 32, 115, 117, 109, 40, 97, 32, 42, 32, 40, 98, 32, 43, 32, 49, 41, 41, 32, 97, 115, 32, 115, 32, 103, 114, 111, 117, 112, 32, 98, 121, 32, 99, 32, 111, 114, 100, 101, 114, 32, 98, 121, 32, 115, 32, 100, 101, 115, 99]⟩
theorem toks1 : toksP 60 (bl txt1) 0 = some T1 := by kernel_rfl
theorem show1 : showQ Q1 = .tuple #[.string out1, .int .i64 0] := by kernel_rfl
abbrev ptkI (a : Option Addr) (c : Nat) (T : List Tk) : It := It.row ty.query_token 3 a T.length c (tksL T)
theorem tPks : slT Tryz.prog ty.L_query_token = some (ty.query_token, 3, 32, zTk) := by kernel_rfl
theorem T1_end : ∀ x ∈ T1, x.2.2 = E0 → ¬ x.1 < (txt1.size : Int) := by decide
theorem pparse1 {w : World} (E : Env w) : Calls Tryz.prog f.query_Parse #[.string txt1] w (Ret fun v w' => ∃ ai ag ao ci cg co, v = .tuple #[.agg ⟨quL Q1 ai none ag ao ci 0 cg co⟩, .int .i64 0, .int .i64 0] ∧ QAt w' Q1 ai none ag ao ∧ Below w.heap.size w w') := by
  apply R.query_Parse_calls
  unfold R.query_Parse
  refine (ST.start w).newB fun b2 w1 _ _ S1 => S1.newB fun b3 w2 _ _ S2 => S2.newB fun b4 w3 _ _ S3 => S3.newB fun b5 w4 _ _ S4 => ⟨_, S4.cell 3 rfl rfl, IFB_dec (fun h => absurd h (by decide)) (fun _ => S4.newB fun b14 w12 _ _ S12 => ⟨_, S12.cell 4 rfl rfl, ptokens_ok.mono ?_⟩)⟩
  rintro _ w13 ⟨_, rfl, bt, rfl, P13⟩
  have S13 := (S12.nil ty.query_token 3).join P13
  refine ⟨_, _, _, rfl, by kernel_rfl, fun rr hst hpe hy => ?_⟩
  have S14 := S13.range rr
  obtain ⟨L, hL⟩ : ∃ L, L = w13.heap.size + 1 := ⟨_, rfl⟩
  obtain ⟨m, hm⟩ : ∃ m, m = w13.heap.size := ⟨_, rfl⟩
  rw [← hL] at S14 hy ⊢
  rw [← hm] at S14 ⊢
  have S15 : ST w ((w13.alloc (.deferred (some []))).alloc (.loop rr)) (It.cells bt #[.string txt1] ty.string :: ([It.obj m (.deferred (some []))] ++ [ptkI none 0 [], It.cells b14 #[.slice none 0 0] ty.L_query_token, It.obj L (.loop rr), It.cells b5 #[.int .i64 0] ty.api_Errno, It.cells b4 #[.int .i64 0] ty.int, zqb b3, It.cells b2 #[.string txt1] ty.string])) :=
    (((S14.pull 4 rfl).pull 4 rfl).pull 3 rfl).pull 4 rfl
  refine (ptokens_c1 (I := fun D B => ∃ a c, B = [ptkI a c D, It.cells b14 #[.slice a D.length c] ty.L_query_token, It.obj L (.loop rr), It.cells b5 #[.int .i64 0] ty.api_Errno, It.cells b4 #[.int .i64 0] ty.int, zqb b3, It.cells b2 #[.string txt1] ty.string]) (J := fun _ => False) toks1 (by decide) ?_ ⟨none, 0, rfl⟩ S15).mono ?_
  · rintro D x rest vs HN _ w14 htot ⟨a, c, rfl⟩ S rfl
    have S := ST.mid (B := []) [ptkI a c D, It.cells b14 #[.slice a D.length c] ty.L_query_token, It.obj L (.loop rr), It.cells b5 #[.int .i64 0] ty.api_Errno, It.cells b4 #[.int .i64 0] ty.int, zqb b3, It.cells b2 #[.string txt1] ty.string] S
    have hxm : x ∈ T1 := by rw [htot]; simp
    have hD : D.length ≤ 21 := by
      have := congrArg List.length htot
      simp only [List.length_append, List.length_cons] at this
      have h21 : T1.length = 21 := rfl
      omega
    refine hy _ _ _ _ w14 (S.get 2 rfl) ?_
    refine S.lit3 fun b22 w18 _ S => S.begr 3 rfl fun w19 S => ⟨_, S.cell 0 rfl rfl, ?_⟩
    have app : ∀ {k : Bool → World → Prop}, (∀ w', (∃ B', ST w w' (HN ++ B') ∧ ∃ a c, B' = [ptkI a c (D ++ [x]), It.cells b14 #[.slice a (D ++ [x]).length c] ty.L_query_token, It.obj L (.loop rr), It.cells b5 #[.int .i64 0] ty.api_Errno, It.cells b4 #[.int .i64 0] ty.int, zqb b3, It.cells b2 #[.string txt1] ty.string]) → k true w') →
        ∃ (t32 : Option Addr) (t32l t32c : Nat), w19.cell? ⟨b14, 0, none⟩ = some (.slice t32 t32l t32c) ∧ ∃ t330 : Int, w19.cell? ⟨b22, 0, none⟩ = some (.int .i64 t330) ∧ ∃ t331 : Int, w19.cell? ⟨b22, 1, none⟩ = some (.int .i64 t331) ∧ ∃ t332 : ByteArray, w19.cell? ⟨b22, 2, none⟩ = some (.string t332) ∧
          NEWB #[.int .i64 t330, .int .i64 t331, .string t332] 103 (fun b31 w28 => OPR Tryz.prog (Builtin.append_ #[98, 98] 98 #[.slice t32 t32l t32c, .slice (some ⟨b31, 0, none⟩) 1 1]) (fun r w29 => ∃ (t35 : Option Addr) (t35l t35c : Nat), r = .slice t35 t35l t35c ∧ STO ⟨b14, 0, none⟩ (.slice t35 t35l t35c) (fun w30 => ENDR rr L k none w30) w29) w28) w19 := fun hk => by
      refine ⟨_, _, _, S.cell 2 rfl rfl, _, S.cell 0 rfl rfl, _, S.cell 0 rfl rfl, _, S.cell 0 rfl rfl, S.newB fun b31 w28 _ _ S28 => ?_⟩
      refine S28.app 2 rfl tPks rfl (by omega) (by omega) (S28.rdc 0 rfl) (mm := 1) rfl (by intro u hu; simp at hu; rcases hu with rfl | rfl | rfl <;> rfl) (by omega) fun a' c' w29 S29 => ⟨_, _, _, rfl, S29.sto 3 rfl (cs' := #[.slice a' (D.length + 1) c']) (by simp) rfl fun w30 S30 => S30.endr0 4 hst hpe rfl fun w' S' => hk w' ⟨[ptkI a' c' (D ++ [x]), It.cells b14 #[.slice a' (D ++ [x]).length c'] ty.L_query_token, It.obj L (.loop rr), It.cells b5 #[.int .i64 0] ty.api_Errno, It.cells b4 #[.int .i64 0] ty.int, zqb b3, It.cells b2 #[.string txt1] ty.string], ?_, a', c', rfl⟩⟩
      have S9 := S'.drop 2
      have e : ptkI a' c' (D ++ [x]) = It.row ty.query_token 3 a' (D.length + 1) c' (tksL D ++ tkC x) := by
        show It.row ty.query_token 3 a' (D ++ [x]).length c' (tksL (D ++ [x])) = _
        rw [List.length_append, List.length_singleton]
        simp [tksL]
      rw [e, List.length_append, List.length_singleton]
      exact ST.unmid (B := []) [It.row ty.query_token 3 a' (D.length + 1) c' (tksL D ++ tkC x), It.cells b14 #[.slice a' (D.length + 1) c'] ty.L_query_token, It.obj L (.loop rr), It.cells b5 #[.int .i64 0] ty.api_Errno, It.cells b4 #[.int .i64 0] ty.int, zqb b3, It.cells b2 #[.string txt1] ty.string] S9
    rw [bytesEq_iff]
    refine IFB_dec (fun he => ⟨_, S.cell 0 rfl rfl, _, S.cell 7 rfl rfl, IFB_dec (fun hlt => absurd hlt (T1_end x hxm he)) (fun _ => app fun w' ⟨B', h1, h2⟩ => ⟨B', h1, .inl ⟨rfl, h2⟩⟩)⟩) (fun _ => app fun w' ⟨B', h1, h2⟩ => ⟨B', h1, .inl ⟨rfl, h2⟩⟩)
  · rintro _ w35 ⟨_, rfl, B', S35, ⟨a, c, rfl⟩ | h⟩
    rotate_left
    · cases h
    have S35 := ST.mid (B := []) [ptkI a c T1, It.cells b14 #[.slice a T1.length c] ty.L_query_token, It.obj L (.loop rr), It.cells b5 #[.int .i64 0] ty.api_Errno, It.cells b4 #[.int .i64 0] ty.int, zqb b3, It.cells b2 #[.string txt1] ty.string] S35
    refine ⟨⟨_, rfl⟩, S35.endl0 2 hst hpe rfl fun w36 S36 => .inl ⟨rfl, _, _, _, S36.cell 1 rfl rfl, ?_⟩⟩
    have hrow := S36.rw 0 rfl
    have hcap : T1.length ≤ c ∧ c ≤ 9223372036854775807 := by
      rcases hrow.2 with ⟨_, h0, _⟩ | ⟨_, _, _, _, h1, h2, _⟩
      · cases h0
      · exact ⟨h1, h2⟩
    refine (pread_ok E (S36.toRd 0 rfl) hcap.1 hcap.2).mono ?_
    rintro _ w37 ⟨_, rfl, x, cap, K, a1, c1, ag, cg, ao, co, hR, rfl, S37⟩
    refine ⟨_, _, _, _, _, _, _, _, _, _, _, _, _, _, _, rfl, S37.newB fun b58 w38 _ _ S38 => S38.sto5 0 rfl fun w42 S42 => IFB_not (IFB_true ?_)⟩
    have q42 : ∀ {w' : World} {H : List It}, ST w w' (quI b58 Q1 a1 none ag ao c1 0 cg co :: (QL x cap K a1 c1 ag cg ao co ++ H)) → QAt w' Q1 a1 none ag ao := fun S => qat1 hR (fun it hi => S.ok it (by simp [hi])) (S.rd 1 rfl) (S.rd 2 rfl) (S.rd 3 rfl)
    have S42 : ST w w42 (quI b58 Q1 a1 none ag ao c1 0 cg co :: (QL x cap K a1 c1 ag cg ao co ++ [It.cells b14 #[.slice a T1.length c] ty.L_query_token, It.obj L (.loop { rr with state := .exhausted, pending := none }), It.cells b5 #[.int .i64 0] ty.api_Errno, It.cells b4 #[.int .i64 0] ty.int, zqb b3, It.cells b2 #[.string txt1] ty.string, It.obj m (.deferred (some []))])) := S42
    refine stQ S42 0 rfl (S42.call (query_Show_ok (E.grown S42.bel) (q42 S42)) fun w50 _ S50 => ?_)
    rw [show1]
    refine ⟨_, _, rfl, IFB_ne (fun h => absurd rfl h) (fun _ => stQ S50 0 rfl ?_)⟩
    have S51 : ST w w50 (zqb b3 :: It.cells b4 #[.int .i64 0] ty.int :: It.cells b5 #[.int .i64 0] ty.api_Errno :: It.obj m (.deferred (some [])) :: quI b58 Q1 a1 none ag ao c1 0 cg co :: (QL x cap K a1 c1 ag cg ao co ++ [])) := by
      have S := ST.mid (B := []) (X := quI b58 Q1 a1 none ag ao c1 0 cg co :: QL x cap K a1 c1 ag cg ao co) [It.cells b14 #[.slice a T1.length c] ty.L_query_token, It.obj L (.loop { rr with state := .exhausted, pending := none }), It.cells b5 #[.int .i64 0] ty.api_Errno, It.cells b4 #[.int .i64 0] ty.int, zqb b3, It.cells b2 #[.string txt1] ty.string, It.obj m (.deferred (some []))] (by simpa using S50)
      have S := S.drop 2
      exact ((((S.pull 4 rfl).pull 1 rfl).pull 2 rfl).pull 3 rfl).sub (.cons_cons _ (.cons_cons _ (.cons_cons _ (.cons_cons _ (.cons _ (.refl _))))))
    refine S51.sto5 0 rfl fun w62 S62 => S62.sto 1 rfl (cs' := #[.int .i64 0]) (by simp) rfl fun w63 S63 => S63.sto 2 rfl (cs' := #[.int .i64 0]) (by simp) rfl fun w64 S64 => ⟨S64.get 3 rfl, ?_⟩
    have S65 := S64.put 3 rfl (.deferred none)
    refine ⟨_, _, _, S65.cell 0 rfl rfl, _, _, _, S65.cell 0 rfl rfl, _, _, _, S65.cell 0 rfl rfl, _, _, _, S65.cell 0 rfl rfl, _, S65.cell 0 rfl rfl, _, S65.cell 1 rfl rfl, _, S65.cell 2 rfl rfl, a1, ag, ao, c1, cg, co, rfl, ?_, S65.bel⟩
    exact qat1 hR (fun it hi => S65.ok it (by simp [hi])) (S65.rd 5 rfl) (S65.rd 6 rfl) (S65.rd 7 rfl)
theorem law11_shown_ok {w : World} (E : Env w) : Calls Tryz.prog f.law11_shown #[] w (Ret fun r w' => r = .bool true ∧ Below w.heap.size w w') := by
  apply R.law11_shown_calls
  unfold R.law11_shown
  refine (pparse1 E).mono ?_
  rintro _ w1 ⟨_, rfl, ai, ag, ao, ci, cg, co, rfl, Q, B1⟩
  refine ⟨_, _, _, _, _, _, _, _, _, _, _, _, _, _, _, rfl, (ST.start w1).newB fun b9 w2 _ _ S2 => S2.sto5 0 rfl fun w7 S7 => ?_⟩
  have S7 : ST w1 w7 [quI b9 Q1 ai none ag ao ci 0 cg co] := S7
  refine stQ S7 0 rfl (S7.call (query_Show_ok ((E.grown B1).grown S7.bel) (Q.grown S7.bel)) fun w8 _ S8 => ?_)
  rw [show1]
  exact ⟨_, _, rfl, IFB_true (IFB_true ⟨by rw [bytesEq_iff]; exact congrArg Value.bool (decide_eq_true rfl), below_j B1 S8.bel⟩)⟩
section
variable {w : World} {cs : List Col} {a1 : Option Addr} {c1 : Nat} {q : Qu} {ai aw ag ao : Option Addr} {ci cw cg co : Nat}
end
section
variable {w : World} {cs : List Col} {a1 : Option Addr} {c1 : Nat} {q : Qu} {ai aw ag ao : Option Addr} {ci cw cg co : Nat}
end
theorem open_qu {H : Type} {enc : TypeId × Value → H} {W : World} {base b : Nat} {sp : Nat → Bool} {held : Bool} {v : Value} {d : DataW H} {p : List MemPlace} (hv : Value.okWide Tryz.prog W .any base ty.api_Query v) (h : DataW.Trod enc Tryz.prog W b sp held ty.api_Query v d p) :
    ∃ x : List Value, v = .agg ⟨x⟩ ∧ ∃ q, QuC (fun _ => False) W q x := by
  obtain ⟨cs, rfl⟩ := okWide_agg fld_qu hv
  obtain ⟨n, hn⟩ := h
  obtain ⟨q, hq⟩ := good_qu (good_of_trod n _ _ _ hn)
  exact ⟨cs.toList, rfl, q, hq⟩
section
variable {w : World} {q u : Qu} {ai aw ag ao bi bw bg bo : Option Addr} {ci cw cg co di dw dg d_o : Nat}
theorem ref11_Alike2_ok (Q : QAt w q ai aw ag ao) (Q' : QAt w u bi bw bg bo) : Calls Tryz.prog f.ref11_Alike #[.agg ⟨quL q ai aw ag ao ci cw cg co⟩, .agg ⟨quL u bi bw bg bo di dw dg d_o⟩] w (Ret fun r w' => ∃ b, r = .bool b ∧ (b = true ↔ q = u) ∧ Below w.heap.size w w') := by
  apply R.ref11_Alike_calls
  unfold R.ref11_Alike
  obtain ⟨ri, hri, hCi⟩ := Q.it
  obtain ⟨rw_, hrw, hCw⟩ := Q.wh
  obtain ⟨rg, hrg, hCg⟩ := Q.gr
  obtain ⟨ro, hro, hCo⟩ := Q.od
  obtain ⟨si, hsi, hDi⟩ := Q'.it
  obtain ⟨sw, hsw, hDw⟩ := Q'.wh
  obtain ⟨sg, hsg, hDg⟩ := Q'.gr
  obtain ⟨so, hso, hDo⟩ := Q'.od
  have n1 := Q.nit
  have n2 := Q.nwh
  have n3 := Q.ngr
  have n4 := Q.nod
  have no : ∀ {w' : World} {H : List It}, ST w w' H → q ≠ u → ∃ b, Value.bool false = .bool b ∧ (b = true ↔ q = u) ∧ Below w.heap.size w w' := fun S h => ⟨false, rfl, by simp [h], S.bel⟩
  refine (ST.start w).newB fun b11 w1 _ _ S1 => S1.newB fun b12 w2 _ _ S2 => ?_
  have S2 : ST w w2 [quI b12 u bi bw bg bo di dw dg d_o, quI b11 q ai aw ag ao ci cw cg co] := S2
  refine ⟨_, _, _, S2.cell 1 rfl rfl, _, _, _, S2.cell 0 rfl rfl, IFB_ne (fun h => no S2 fun e => h (by rw [e])) (fun l1 => ⟨_, _, _, S2.cell 1 rfl rfl, _, _, _, S2.cell 0 rfl rfl, IFB_ne (fun h => no S2 fun e => h (by rw [e])) (fun l2 => ⟨_, _, _, S2.cell 1 rfl rfl, _, _, _, S2.cell 0 rfl rfl, IFB_ne (fun h => no S2 fun e => h (by rw [e])) (fun l3 => ⟨_, _, _, S2.cell 1 rfl rfl, _, _, _, S2.cell 0 rfl rfl, IFB_ne (fun h => no S2 fun e => h (by rw [e])) (fun l4 => ⟨_, S2.cell 1 rfl rfl, _, S2.cell 0 rfl rfl, IFB_ne (fun h => no S2 fun e => h (by rw [e])) (fun l5 => ?_)⟩)⟩)⟩)⟩)⟩
  have next : ∀ (l i : Nat), i < l → l ≤ 9223372036854775807 → IntKind.i64.wrap ((i : Int) + 1) = ((i + 1 : Nat) : Int) ∧ l - ((i + 1 : Nat) : Int).toNat < l - ((i : Nat) : Int).toNat := fun l i h h2 => ⟨wrap_succ (by omega), by simp only [Int.toNat_natCast]; omega⟩
  refine ⟨fun st w3 => ∃ i : Nat, st = [.int .i64 (i : Int)] ∧ i ≤ q.it.length ∧ q.it.take i = u.it.take i ∧ ST w w3 [quI b12 u bi bw bg bo di dw dg d_o, quI b11 q ai aw ag ao ci cw cg co], fun st _ => match st with | [.int _ t] => q.it.length - t.toNat | _ => 0, ⟨0, rfl, by omega, rfl, S2⟩, ?_⟩
  rintro t w3 ⟨i, hst, hi, htit, S3⟩
  cases hst
  refine ⟨_, _, _, S3.cell 1 rfl rfl, IFB_dec (fun hlt => ⟨_, _, _, S3.cell 1 rfl rfl, ⟨by omega, hlt⟩, ?_⟩) (fun hge => ?_)⟩
  · have hil : i < q.it.length := by change (i : Int) < (q.it.length : Int) at hlt; omega
    have hil' : i < u.it.length := by omega
    obtain ⟨p, a3, cap3, hpa, hxk, hsz, cellA⟩ := item_at (hri.grown S3.bel) hCi hil
    subst hpa
    refine ⟨_, by rw [Int.toNat_natCast]; exact cellA 0 _ rfl, _, by rw [Int.toNat_natCast]; exact cellA 1 _ rfl, _, by rw [Int.toNat_natCast]; exact cellA 2 _ rfl, _, by rw [Int.toNat_natCast]; exact cellA 3 _ rfl, _, by rw [Int.toNat_natCast]; exact cellA 4 _ rfl, _, by rw [Int.toNat_natCast]; exact cellA 5 _ rfl, _, by rw [Int.toNat_natCast]; exact cellA 6 _ rfl, _, _, _, by rw [Int.toNat_natCast]; exact cellA 7 _ rfl, S3.lit8 fun b36 w12 _ S12 => ?_⟩
    have S12 : ST w w12 [itI b36 q.it[i] a3 cap3, quI b12 u bi bw bg bo di dw dg d_o, quI b11 q (some p) aw ag ao ci cw cg co] := S12
    obtain ⟨p', a4, cap4, hpb, hyk, hsz', cellB⟩ := item_at (hsi.grown S12.bel) hDi hil'
    subst hpb
    refine ⟨_, _, _, S12.cell 1 rfl rfl, ⟨by omega, by show (i : Int) < (u.it.length : Int); omega⟩, _, by rw [Int.toNat_natCast]; exact cellB 0 _ rfl, _, by rw [Int.toNat_natCast]; exact cellB 1 _ rfl, _, by rw [Int.toNat_natCast]; exact cellB 2 _ rfl, _, by rw [Int.toNat_natCast]; exact cellB 3 _ rfl, _, by rw [Int.toNat_natCast]; exact cellB 4 _ rfl, _, by rw [Int.toNat_natCast]; exact cellB 5 _ rfl, _, by rw [Int.toNat_natCast]; exact cellB 6 _ rfl, _, _, _, by rw [Int.toNat_natCast]; exact cellB 7 _ rfl, S12.lit8 fun b47 w21 _ S21 => ?_⟩
    have S21 : ST w w21 [itI b47 u.it[i] a4 cap4, itI b36 q.it[i] a3 cap3, quI b12 u (some p') bw bg bo di dw dg d_o, quI b11 q (some p) aw ag ao ci cw cg co] := S21
    refine ⟨_, S21.cell 1 rfl rfl, _, S21.cell 1 rfl rfl, _, S21.cell 1 rfl rfl, _, S21.cell 1 rfl rfl, _, S21.cell 1 rfl rfl, _, _, _, S21.cell 1 rfl rfl, _, S21.cell 0 rfl rfl, _, S21.cell 0 rfl rfl, _, S21.cell 0 rfl rfl, _, S21.cell 0 rfl rfl, _, S21.cell 0 rfl rfl, _, _, _, S21.cell 0 rfl rfl, (ref10_Alike_ok q.it[i].2.2 u.it[i].2.2 w21 a3 cap3 a4 cap4 (hxk.grown S21.bel) (hyk.grown S21.bel)).mono ?_⟩
    rintro _ w22 ⟨_, rfl, rfl, B22⟩
    have S22 := S21.grown B22
    have ne : ∀ {P : Itm → Itm → Prop}, (∀ x, P x x) → ¬ P q.it[i] u.it[i] → q ≠ u := fun hP h e => h (by subst e; exact hP _)
    refine ⟨_, rfl, _, S22.cell 1 rfl rfl, _, S22.cell 0 rfl rfl, IFB_not ?_⟩
    rw [bytesEq_iff]
    refine IFB_dec (fun m1 => ⟨_, S22.cell 1 rfl rfl, _, S22.cell 0 rfl rfl, IFB_ne (fun h => no S22 (ne (P := fun x y => x.2.1 = y.2.1) (fun _ => rfl) h)) (fun m2 => IFB_not (IFB_of (fun he => ?_) (fun hne => no S22 (ne (P := fun x y => x.2.2.same y.2.2 = true) (fun _ => same_self _) (by rw [hne]; decide)))))⟩) (fun h => no S22 (ne (P := fun x y => x.1 = y.1) (fun _ => rfl) h))
    obtain ⟨e1, e2⟩ := next _ _ hil n1
    rw [e1]
    have m3 := (same_iff _ _).1 he
    exact ⟨⟨i + 1, rfl, by omega, by rw [List.take_succ_eq_append_getElem hil, List.take_succ_eq_append_getElem hil', htit, show q.it[i] = u.it[i] from Prod.ext m1 (Prod.ext m2 m3)], S22.drop 2⟩, e2⟩
  have eit : q.it = u.it := by
    have hge' : ¬ (i : Int) < (q.it.length : Int) := hge
    rw [List.take_of_length_le (by omega), List.take_of_length_le (by omega)] at htit
    exact htit
  refine ⟨fun st w3 => ∃ i : Nat, st = [.int .i64 (i : Int)] ∧ i ≤ q.wh.length ∧ q.wh.take i = u.wh.take i ∧ ST w w3 [quI b12 u bi bw bg bo di dw dg d_o, quI b11 q ai aw ag ao ci cw cg co], fun st _ => match st with | [.int _ t] => q.wh.length - t.toNat | _ => 0, ⟨0, rfl, by omega, rfl, S3⟩, ?_⟩
  clear hge
  rintro t w3 ⟨i, hst, hi, htwh, S5⟩
  cases hst
  refine ⟨_, _, _, S5.cell 1 rfl rfl, IFB_dec (fun hlt => S5.draw fun w4 _ S4 => ⟨_, _, _, S4.cell 1 rfl rfl, ⟨by omega, hlt⟩, ?_⟩) (fun hge => ?_)⟩
  · have hil : i < q.wh.length := by change (i : Int) < (q.wh.length : Int) at hlt; omega
    have hil' : i < u.wh.length := by omega
    obtain ⟨p, a3, cap3, hpa, hxk, cellA⟩ := exs_at (hrw.grown S4.bel) hCw hil
    obtain ⟨p', a4, cap4, hpb, hyk, cellB⟩ := exs_at (hsw.grown S4.bel) hDw hil'
    subst hpa
    subst hpb
    refine ⟨_, by rw [Int.toNat_natCast]; exact cellA 0 _ rfl, _, by rw [Int.toNat_natCast]; exact cellA 1 _ rfl, _, by rw [Int.toNat_natCast]; exact cellA 2 _ rfl, _, by rw [Int.toNat_natCast]; exact cellA 3 _ rfl, _, by rw [Int.toNat_natCast]; exact cellA 4 _ rfl, _, _, _, by rw [Int.toNat_natCast]; exact cellA 5 _ rfl, _, _, _, S4.cell 0 rfl rfl, ⟨by omega, by show (i : Int) < (u.wh.length : Int); omega⟩, _, by rw [Int.toNat_natCast]; exact cellB 0 _ rfl, _, by rw [Int.toNat_natCast]; exact cellB 1 _ rfl, _, by rw [Int.toNat_natCast]; exact cellB 2 _ rfl, _, by rw [Int.toNat_natCast]; exact cellB 3 _ rfl, _, by rw [Int.toNat_natCast]; exact cellB 4 _ rfl, _, _, _, by rw [Int.toNat_natCast]; exact cellB 5 _ rfl, (ref10_Alike_ok q.wh[i] u.wh[i] w4 a3 cap3 a4 cap4 (hxk.grown S4.bel) (hyk.grown S4.bel)).mono ?_⟩
    rintro _ w22 ⟨_, rfl, rfl, B22⟩
    have S22 := S4.grown B22
    refine ⟨_, rfl, IFB_not (IFB_of (fun he => ?_) (fun hne => no S22 fun e => ?_))⟩
    · obtain ⟨e1, e2⟩ := next _ _ hil n2
      rw [e1]
      exact ⟨⟨i + 1, rfl, by omega, by rw [List.take_succ_eq_append_getElem hil, List.take_succ_eq_append_getElem hil', htwh, (same_iff _ _).1 he], S22⟩, e2⟩
    · subst e
      rw [same_self] at hne
      cases hne
  have ewh : q.wh = u.wh := by
    have hge' : ¬ (i : Int) < (q.wh.length : Int) := hge
    rw [List.take_of_length_le (by omega), List.take_of_length_le (by omega)] at htwh
    exact htwh
  refine ⟨fun st w3 => ∃ i : Nat, st = [.int .i64 (i : Int)] ∧ i ≤ q.gr.length ∧ q.gr.take i = u.gr.take i ∧ ST w w3 [quI b12 u bi bw bg bo di dw dg d_o, quI b11 q ai aw ag ao ci cw cg co], fun st _ => match st with | [.int _ t] => q.gr.length - t.toNat | _ => 0, ⟨0, rfl, by omega, rfl, S5⟩, ?_⟩
  clear hge
  rintro t w3 ⟨i, hst, hi, htgr, S6⟩
  cases hst
  refine ⟨_, _, _, S6.cell 1 rfl rfl, IFB_dec (fun hlt => S6.draw fun w4 _ S4 => ⟨_, _, _, S4.cell 1 rfl rfl, ⟨by omega, hlt⟩, ?_⟩) (fun hge => ?_)⟩
  · have hil : i < q.gr.length := by change (i : Int) < (q.gr.length : Int) at hlt; omega
    have hil' : i < u.gr.length := by omega
    obtain ⟨p, a3, cap3, hpa, hxk, cellA⟩ := exs_at (hrg.grown S4.bel) hCg hil
    obtain ⟨p', a4, cap4, hpb, hyk, cellB⟩ := exs_at (hsg.grown S4.bel) hDg hil'
    subst hpa
    subst hpb
    refine ⟨_, by rw [Int.toNat_natCast]; exact cellA 0 _ rfl, _, by rw [Int.toNat_natCast]; exact cellA 1 _ rfl, _, by rw [Int.toNat_natCast]; exact cellA 2 _ rfl, _, by rw [Int.toNat_natCast]; exact cellA 3 _ rfl, _, by rw [Int.toNat_natCast]; exact cellA 4 _ rfl, _, _, _, by rw [Int.toNat_natCast]; exact cellA 5 _ rfl, _, _, _, S4.cell 0 rfl rfl, ⟨by omega, by show (i : Int) < (u.gr.length : Int); omega⟩, _, by rw [Int.toNat_natCast]; exact cellB 0 _ rfl, _, by rw [Int.toNat_natCast]; exact cellB 1 _ rfl, _, by rw [Int.toNat_natCast]; exact cellB 2 _ rfl, _, by rw [Int.toNat_natCast]; exact cellB 3 _ rfl, _, by rw [Int.toNat_natCast]; exact cellB 4 _ rfl, _, _, _, by rw [Int.toNat_natCast]; exact cellB 5 _ rfl, (ref10_Alike_ok q.gr[i] u.gr[i] w4 a3 cap3 a4 cap4 (hxk.grown S4.bel) (hyk.grown S4.bel)).mono ?_⟩
    rintro _ w22 ⟨_, rfl, rfl, B22⟩
    have S22 := S4.grown B22
    refine ⟨_, rfl, IFB_not (IFB_of (fun he => ?_) (fun hne => no S22 fun e => ?_))⟩
    · obtain ⟨e1, e2⟩ := next _ _ hil n3
      rw [e1]
      exact ⟨⟨i + 1, rfl, by omega, by rw [List.take_succ_eq_append_getElem hil, List.take_succ_eq_append_getElem hil', htgr, (same_iff _ _).1 he], S22⟩, e2⟩
    · subst e
      rw [same_self] at hne
      cases hne
  have egr : q.gr = u.gr := by
    have hge' : ¬ (i : Int) < (q.gr.length : Int) := hge
    rw [List.take_of_length_le (by omega), List.take_of_length_le (by omega)] at htgr
    exact htgr
  refine ⟨fun st w3 => ∃ i : Nat, st = [.int .i64 (i : Int)] ∧ i ≤ q.od.length ∧ q.od.take i = u.od.take i ∧ ST w w3 [quI b12 u bi bw bg bo di dw dg d_o, quI b11 q ai aw ag ao ci cw cg co], fun st _ => match st with | [.int _ t] => q.od.length - t.toNat | _ => 0, ⟨0, rfl, by omega, rfl, S6⟩, ?_⟩
  clear hge
  rintro t w3 ⟨i, hst, hi, htod, S7⟩
  cases hst
  refine ⟨_, _, _, S7.cell 1 rfl rfl, IFB_dec (fun hlt => S7.draw fun w4 _ S4 => ⟨_, _, _, S4.cell 1 rfl rfl, ⟨by omega, hlt⟩, ?_⟩) (fun hge => ⟨true, rfl, ⟨fun _ => ?_, fun _ => rfl⟩, S7.bel⟩)⟩
  · have hil : i < q.od.length := by change (i : Int) < (q.od.length : Int) at hlt; omega
    have hil' : i < u.od.length := by omega
    obtain ⟨p, hpa, hk0, hk1, _⟩ := key_at (hro.grown S4.bel) hCo hil
    obtain ⟨p', hpb, hj0, hj1, _⟩ := key_at (hso.grown S4.bel) hDo hil'
    subst hpa
    subst hpb
    refine ⟨_, by rw [Int.toNat_natCast]; exact hk0, _, by rw [Int.toNat_natCast]; exact hk1, _, _, _, S4.cell 0 rfl rfl, ⟨by omega, by show (i : Int) < (u.od.length : Int); omega⟩, _, by rw [Int.toNat_natCast]; exact hj0, _, by rw [Int.toNat_natCast]; exact hj1, IFB_not (IFB_of (fun he => ?_) (fun hne => no S4 fun e => ?_))⟩
    · obtain ⟨e1, e2⟩ := next _ _ hil n4
      rw [e1]
      refine ⟨⟨i + 1, rfl, by omega, ?_, S4⟩, e2⟩
      rw [List.take_succ_eq_append_getElem hil, List.take_succ_eq_append_getElem hil', htod]
      congr 2
      simp at he
      exact Prod.ext he.1 he.2
    · subst e
      simp at hne
  · have eod : q.od = u.od := by
      have hge' : ¬ (i : Int) < (q.od.length : Int) := hge
      rw [List.take_of_length_le (by omega), List.take_of_length_le (by omega)] at htod
      exact htod
    obtain ⟨a, b, c, d, e⟩ := q
    obtain ⟨a', b', c', d', e'⟩ := u
    simp only at eit ewh egr eod l5
    rw [eit, ewh, egr, eod, l5]
theorem quP_of (h : rightQ q = true) (Q : QAt w q ai aw ag ao) : QuP q := by
  obtain ⟨ri, _, hCi⟩ := Q.it
  obtain ⟨rw_, _, hCw⟩ := Q.wh
  obtain ⟨rg, _, hCg⟩ := Q.gr
  refine ⟨(rightQ_small h).1, fun i hi => ?_, rows_fit hCw, rows_fit hCg, Q.lim⟩
  obtain ⟨j, hj, rfl⟩ := List.mem_iff_getElem.1 hi
  obtain ⟨c, _, hx, _⟩ := RowsC.get (n := 8) (fun x c h => ItC.len h) hCi j hj
  exact hx.fit
theorem QuerySames_core (E : Env w) (Q : QAt w q ai aw ag ao) (Q' : QAt w u bi bw bg bo) : Calls Tryz.prog f.law11_QuerySames #[.agg ⟨quL q ai aw ag ao ci cw cg co⟩, .agg ⟨quL u bi bw bg bo di dw dg d_o⟩] w (Ret fun v w' => v = .bool true ∧ Below w.heap.size w w') := by
  apply R.law11_QuerySames_calls
  unfold R.law11_QuerySames
  refine (ST.start w).newB fun b11 w1 _ _ S1 => S1.newB fun b12 w2 _ _ S2 => S2.call (law11_shown_ok (E.grown S2.bel)) fun w3 _ S3 => ⟨_, rfl, S3.draw fun w4 _ S4 => IFB_true ?_⟩
  have S4 : ST w w4 [quI b12 u bi bw bg bo di dw dg d_o, quI b11 q ai aw ag ao ci cw cg co] := S4
  have five : ∀ {w' : World}, ST w w' [quI b12 u bi bw bg bo di dw dg d_o, quI b11 q ai aw ag ao ci cw cg co] → (w'.cell? ⟨b12, 0, none⟩ = some (.slice bi u.it.length di) ∧ w'.cell? ⟨b12, 1, none⟩ = some (.slice bw u.wh.length dw) ∧ w'.cell? ⟨b12, 2, none⟩ = some (.slice bg u.gr.length dg) ∧ w'.cell? ⟨b12, 3, none⟩ = some (.slice bo u.od.length d_o) ∧ w'.cell? ⟨b12, 4, none⟩ = some (.int .i64 u.lim)) ∧
      (w'.cell? ⟨b11, 0, none⟩ = some (.slice ai q.it.length ci) ∧ w'.cell? ⟨b11, 1, none⟩ = some (.slice aw q.wh.length cw) ∧ w'.cell? ⟨b11, 2, none⟩ = some (.slice ag q.gr.length cg) ∧ w'.cell? ⟨b11, 3, none⟩ = some (.slice ao q.od.length co) ∧ w'.cell? ⟨b11, 4, none⟩ = some (.int .i64 q.lim)) := fun S => ⟨⟨S.cell 0 rfl rfl, S.cell 0 rfl rfl, S.cell 0 rfl rfl, S.cell 0 rfl rfl, S.cell 0 rfl rfl⟩, ⟨S.cell 1 rfl rfl, S.cell 1 rfl rfl, S.cell 1 rfl rfl, S.cell 1 rfl rfl, S.cell 1 rfl rfl⟩⟩
  obtain ⟨B, hB⟩ : ∃ B, B = (rightQ q && rightQ u && decide (quT q = quT u)) := ⟨_, rfl⟩
  have same : Calls Tryz.prog f.query_Same #[.agg ⟨quL q ai aw ag ao ci cw cg co⟩, .agg ⟨quL u bi bw bg bo di dw dg d_o⟩] w4 (Ret fun r w' => r = .bool B ∧ Below w4.heap.size w4 w') := by
    apply R.query_Same_calls
    unfold R.query_Same
    refine (ST.start w4).newB fun c11 v1 _ _ T1 => T1.newB fun c12 v2 _ _ T2 => ?_
    have T2 : ST w4 v2 [quI c12 u bi bw bg bo di dw dg d_o, quI c11 q ai aw ag ao ci cw cg co] := T2
    have Q4 := Q.grown (S4.join T2).bel
    refine stQ T2 1 rfl (T2.call (query_Show_ok (E.grown (S4.join T2).bel) Q4) fun v3 _ T3 => ?_)
    have sh : ∀ q : Qu, showQ q = .tuple #[.string (if rightQ q = true then quT q else ⟨#[]⟩), .int .i64 (if rightQ q = true then 0 else 110)] := fun q => by unfold showQ; split <;> rfl
    rw [sh]
    refine ⟨_, _, rfl, stQ T3 0 rfl (T3.call (query_Show_ok (E.grown (S4.join T3).bel) (Q'.grown (S4.join T3).bel)) fun v4 _ T4 => ?_)⟩
    rw [sh]
    refine ⟨_, _, rfl, ?_⟩
    by_cases r1 : rightQ q = true
    · rw [if_pos r1]
      by_cases r2 : rightQ u = true
      · rw [if_pos r2, if_pos r1, if_pos r2]
        exact IFB_true (IFB_true ⟨by rw [hB, r1, r2, bytesEq_iff]; rfl, T4.bel⟩)
      · rw [if_neg r2]
        exact IFB_true (IFB_false ⟨by rw [hB, r1, show rightQ u = false by simpa using r2]; rfl, T4.bel⟩)
    · rw [if_neg r1]
      exact IFB_false ⟨by rw [hB, show rightQ q = false by simpa using r1]; rfl, T4.bel⟩
  refine stQ S4 1 rfl (stQ S4 0 rfl (stQ S4 1 rfl (stQ S4 0 rfl (S4.call same fun w5 _ S5 => ⟨_, rfl, (five S5).1, (five S5).2, ?_⟩))))
  have rsame : Calls Tryz.prog f.ref11_Same #[.agg ⟨quL q ai aw ag ao ci cw cg co⟩, .agg ⟨quL u bi bw bg bo di dw dg d_o⟩] w5 (Ret fun r w' => r = .bool B ∧ Below w5.heap.size w5 w') := by
    apply R.ref11_Same_calls
    unfold R.ref11_Same
    refine (ST.start w5).newB fun c11 v1 _ _ T1 => T1.newB fun c12 v2 _ _ T2 => ?_
    have T2 : ST w5 v2 [quI c12 u bi bw bg bo di dw dg d_o, quI c11 q ai aw ag ao ci cw cg co] := T2
    refine stQ T2 1 rfl (T2.call (ref11_Right_ok (Q.grown (S5.join T2).bel)) fun v3 _ T3 => ⟨_, rfl, stQ T3 0 rfl (T3.call (ref11_Right_ok (Q'.grown (S5.join T3).bel)) fun v4 _ T4 => ⟨_, rfl, IFB_of (fun r1 => IFB_of (fun r2 => stQ T4 1 rfl (stQ T4 0 rfl ((ref11_Alike2_ok (Q.grown (S5.join T4).bel) (Q'.grown (S5.join T4).bel)).mono ?_))) (fun r2 => ⟨by rw [hB, r1, r2]; rfl, T4.bel⟩)) (fun r1 => ⟨by rw [hB, r1]; rfl, T4.bel⟩)⟩)⟩)
    rintro _ v5 ⟨_, rfl, b, rfl, hb, B5⟩
    refine ⟨_, rfl, ?_, (T4.grown B5).bel⟩
    congr 1
    rw [hB, r1, r2, Bool.true_and, Bool.true_and, Bool.eq_iff_iff, hb, decide_eq_true_eq]
    exact ⟨fun e => by rw [e], fun e => quT_inj (quP_of r1 Q) (quP_of r2 Q') e⟩
  exact S5.call rsame fun w6 _ S6 => ⟨_, rfl, by rw [beq_self_eq_true], S6.bel⟩
end
theorem QuerySames_ok {w : World} (E : Env w) (x : List Value) (hx : ∃ q, QuC (fun _ => False) w q x) (y : List Value) (hy : ∃ q, QuC (fun _ => False) w q y) : Calls Tryz.prog f.law11_QuerySames #[.agg ⟨x⟩, .agg ⟨y⟩] w (Ret fun r w' => r = .bool true ∧ Below w.heap.size w w') := by
  obtain ⟨q, hq⟩ := hx
  obtain ⟨u, hu⟩ := hy
  obtain ⟨ai, aw, ag, ao, ci, cw, cg, co, rfl, Q, _⟩ := hq.at
  obtain ⟨bi, bw, bg, bo, di, dw, dg, d_o, rfl, Q', _⟩ := hu.at
  exact QuerySames_core E Q Q'
end Go.Proofs.YtbpdfpfgijhokaaGreatDoor
