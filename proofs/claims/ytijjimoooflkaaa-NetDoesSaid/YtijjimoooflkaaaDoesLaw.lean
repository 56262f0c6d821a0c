/-
  A network does just as the document says.
-/
import Derived.Test.YtijjimoooflkaaaRefNet2
namespace Go.Proofs.Ytijjimoooflkaaa
open Go.Dn Go.Proofs
open Go.RowKit (Below)
set_option linter.unusedVariables false

structure Rel (S R : NetS) : Prop where
  n : R.n = S.n
  l : R.l = S.l
  lost : R.lost = S.lost
  cuts : ∀ x y, lineOk S.n x y → S.cuts.getD (placeOf x y) false = R.cuts.getD (rplace S.n x y) false

theorem getD_set (l : List Bool) (i j : Nat) (v : Bool) : (l.set i v).getD j false = if i = j ∧ i < l.length then v else l.getD j false := by
  rw [List.getD_eq_getElem?_getD, List.getElem?_set, List.getD_eq_getElem?_getD]
  by_cases h : i = j
  · subst h
    by_cases h2 : i < l.length
    · simp [h2]
    · simp [h2]
  · simp [h]
theorem getD_rep (m j : Nat) : (List.replicate m false).getD j false = false := by
  rw [List.getD_eq_getElem?_getD, List.getElem?_replicate]
  split <;> rfl
theorem place_inj {n x y x' y' : Int} (h : lineOk n x y) (h' : lineOk n x' y') (hn : n ≤ 7) : placeOf x y = placeOf x' y' ↔ (x = x' ∧ y = y') := by
  unfold lineOk at h h'
  unfold placeOf
  omega
theorem rplace_inj {n x y x' y' : Int} (h : lineOk n x y) (h' : lineOk n x' y') : rplace n x y = rplace n x' y' ↔ (x = x' ∧ y = y') := by
  unfold lineOk at h h'
  unfold rplace
  constructor
  · intro he
    have hx : x.toNat = x'.toNat := by
      rcases Nat.lt_trichotomy x.toNat x'.toNat with hlt | heq | hlt
      · have := Nat.mul_le_mul_right n.toNat (show x.toNat - 1 + 1 ≤ x'.toNat - 1 by omega)
        rw [Nat.add_mul, Nat.one_mul] at this
        omega
      · exact heq
      · have := Nat.mul_le_mul_right n.toNat (show x'.toNat - 1 + 1 ≤ x.toNat - 1 by omega)
        rw [Nat.add_mul, Nat.one_mul] at this
        omega
    rw [hx] at he
    omega
  · rintro ⟨rfl, rfl⟩; rfl

theorem Rel.send {S R : NetS} (h : Rel S R) (m : Msg) : Rel (sendN S m) (rsendN R m) := by
  unfold sendN rsendN
  rw [h.n, h.l]
  by_cases h1 : lineOk S.n m.1 m.2.1 ∧ m.2.2.size ≤ 600000
  · rw [if_pos h1, if_pos h1, h.cuts _ _ h1.1]
    by_cases h2 : R.cuts.getD (rplace S.n m.1 m.2.1) false = true ∨ 2000 ≤ S.l.length
    · rw [if_pos h2, if_pos h2, h.lost]
      exact ⟨rfl, rfl, rfl, h.cuts⟩
    · rw [if_neg h2, if_neg h2]
      exact ⟨rfl, rfl, h.lost, h.cuts⟩
  · rw [if_neg h1, if_neg h1]
    exact h
theorem Rel.list {S R : NetS} (h : Rel S R) (f : List Msg → List Msg) : Rel { S with l := f S.l } { R with l := f R.l } := ⟨h.n, by simp only [h.l], h.lost, h.cuts⟩
theorem Rel.cut {S R : NetS} (h : Rel S R) (hs : S.cuts.length = 64) (hn : S.n ≤ 7) (hr : R.cuts.length = S.n.toNat * S.n.toNat) (x y : Int) (t : Bool) : Rel { S with cuts := cutC S.n S.cuts x y t } { R with cuts := rcutC R.n R.cuts x y t } := by
  refine ⟨h.n, h.l, h.lost, fun x' y' h' => ?_⟩
  show (cutC S.n S.cuts x y t).getD _ _ = (rcutC R.n R.cuts x y t).getD _ _
  unfold cutC rcutC
  rw [h.n]
  by_cases hl : lineOk S.n x y
  · rw [if_pos hl, if_pos hl, getD_set, getD_set, h.cuts _ _ h']
    have p1 := (rplace_int hl hn).2
    have p2 : placeOf x y < 64 := by have := lineOk_small hl hn; unfold placeOf; omega
    rw [hs, hr]
    simp only [p1, p2, and_true]
    by_cases hxy : x = x' ∧ y = y'
    · rw [if_pos ((place_inj hl h' hn).2 hxy), if_pos ((rplace_inj hl h').2 hxy)]
    · rw [if_neg fun he => hxy ((place_inj hl h' hn).1 he), if_neg fun he => hxy ((rplace_inj hl h').1 he)]
  · rw [if_neg hl, if_neg hl]
    exact h.cuts _ _ h'

structure Pair (B : Nat) (W w : World) (b : Nat) (S : NetS) (a : Option Addr) (c : Nat) (r : Nat) (R : NetS) (ar : Option Addr) (cr g : Nat) : Prop where
  net : NI B W w b S a c
  ref : RefAt w r R ar cr g
  low : ∀ k, rG r g ar k → B ≤ k
  dis : ∀ k, rG r g ar k → ¬ (k = b ∨ rowB a = some k)
section
variable {B : Nat} {W w : World} {b : Nat} {S : NetS} {a : Option Addr} {c : Nat} {r : Nat} {R : NetS} {ar : Option Addr} {cr g : Nat}
theorem Pair.grown {w' : World} (h : Pair B W w b S a c r R ar cr g) (hb : Below w.heap.size w w') : Pair B W w' b S a c r R ar cr g := ⟨h.net.grown hb, h.ref.grown hb, h.low, h.dis⟩
theorem Pair.old (h : Pair B W w b S a c r R ar cr g) : ∀ k, (k = b ∨ rowB a = some k) → k < w.heap.size := by
  rintro k (rfl | hk)
  · exact h.net.net.lt
  · exact h.net.net.row.lt hk
theorem Pair.turn {w' : World} {S' : NetS} {a' : Option Addr} {c' : Nat} (h : Pair B W w b S a c r R ar cr g) (hn : NetAt w' b S' a' c') (T : Turn b a a' w w') : Pair B W w' b S' a' c' r R ar cr g := by
  refine ⟨h.net.turn hn T, h.ref.keeps T.keeps h.dis, h.low, fun k hk => ?_⟩
  rintro (he | he)
  · exact h.dis k hk (.inl he)
  · rcases T.new k he with h1 | h1
    · exact h.dis k hk (.inr h1)
    · have := h.ref.ltG k hk; omega
theorem Pair.rturn {w' : World} {R' : NetS} {ar' : Option Addr} {cr' : Nat} (h : Pair B W w b S a c r R ar cr g) (hn : RefAt w' r R' ar' cr' g) (T : RTurn r g ar ar' w w') : Pair B W w' b S a c r R' ar' cr' g := by
  have hnet : NetAt w' b S a c := h.net.net.keeps T.keeps (fun hk => h.dis _ hk (.inl rfl)) (fun k he hk => h.dis _ hk (.inr he))
  have old : ∀ k, rG r g ar' k → rG r g ar k ∨ w.heap.size ≤ k := by
    rintro k (hk | hk | hk)
    · exact .inl (.inl hk)
    · exact .inl (.inr (.inl hk))
    · rcases T.new k hk with h1 | h1
      · exact .inl (.inr (.inr h1))
      · exact .inr h1
  refine ⟨⟨hnet, h.net.hb, h.net.hr, h.net.bel.trans (T.keeps.below h.net.size fun k hk hg => ?_), h.net.hB⟩, hn, fun k hk => ?_, fun k hk he => ?_⟩
  · have := h.low k hg; omega
  · rcases old k hk with h1 | h1
    · exact h.low k h1
    · exact Nat.le_trans h.net.size h1
  · rcases old k hk with h1 | h1
    · exact h.dis k h1 he
    · have := h.old k he; omega

/-- behind a round: the two go on alike -/
def Goes (B : Nat) (W w : World) (b r g : Nat) : Prop := ∃ S a c R ar cr, Pair B W w b S a c r R ar cr g ∧ Rel S R

theorem does_ok (h : Pair B W w b S a c r R ar cr g) (hr : Rel S R) (kd fm to i : Int) (d : ByteArray) : Calls Try.prog f.law20_does #[.pointer (some ⟨b, 0, none⟩), .pointer (some ⟨r, 0, none⟩), .agg #[.int .i64 kd, .int .i64 fm, .int .i64 to, .int .i64 i, .string d]] w
    (Ret fun v w' => v = .bool true ∧ Goes B W w' b r g) := by
  apply Go.Proofs.Ytijjimoooflkaaa.R.law20_does_calls
  unfold Go.Proofs.Ytijjimoooflkaaa.R.law20_does
  refine (SH.start (fun _ => True) w).newB fun b8 w1 hb8 B1 S1 => ⟨_, S1.cell 0 rfl rfl, ?_⟩
  have h1 := h.grown B1
  have m8 : ∀ x ∈ [(b8, #[Value.int .i64 kd, .int .i64 fm, .int .i64 to, .int .i64 i, .string d], (53 : TypeId))], w.heap.size ≤ x.1 := by simpa using hb8
  refine IFB_eq (fun _ => ?_) (fun _ => IFB_eq (fun _ => ?_) (fun _ => IFB_eq (fun _ => ?_) (fun _ => IFB_eq (fun _ => ?_) (fun _ => IFB_eq (fun _ => ?_) (fun _ => ?_)))))
  · refine ⟨_, S1.cell 0 rfl rfl, _, S1.cell 0 rfl rfl, _, S1.cell 0 rfl rfl, S1.lit3 fun b13 w5 hb13 B5 S5 => S5.drawB fun w6 B6 S6 => ⟨_, S6.cell 0 rfl rfl, _, S6.cell 0 rfl rfl, _, S6.cell 0 rfl rfl, _, S6.cell 0 rfl rfl, _, S6.cell 0 rfl rfl, _, S6.cell 0 rfl rfl, ?_⟩⟩
    have h6 := (h1.grown B5).grown B6
    refine (net_Net_Send_ok h6.net.net (fm, to, d)).mono ?_
    rintro _ w7 ⟨_, rfl, rfl, a', c', hn, T⟩
    have S7 := S6.off T.keeps w.heap.size (by have := B1.size; simp; omega) h.old
    have h7 := h6.turn hn T
    refine ⟨_, rfl, ⟨S7.cell 0 rfl rfl, S7.cell 0 rfl rfl, S7.cell 0 rfl rfl⟩, (ref_Send_ok h7.ref (fm, to, d)).mono ?_⟩
    rintro _ w8 ⟨_, rfl, rfl, ar', cr', hn8, T8⟩
    refine ⟨_, rfl, ?_, _, _, _, _, _, _, h7.rturn hn8 T8, hr.send _⟩
    rw [hr.n]
    simp
  · refine ⟨_, S1.cell 0 rfl rfl, (net_Net_Take_ok h1.net.net i).mono ?_⟩
    rintro _ w9 ⟨_, rfl, rfl, hn, T⟩
    have S9 := S1.off T.keeps w.heap.size m8 h.old
    have h9 := h1.turn hn T
    refine ⟨_, _, _, _, rfl, S9.lit3 fun b30 w13 hb30 B13 S13 => ⟨_, S13.cell 1 rfl rfl, (ref_Take_ok (h9.grown B13).ref i).mono ?_⟩⟩
    rintro _ w14 ⟨_, rfl, rfl, ar', cr', hn14, T14⟩
    have h14 := (h9.grown B13).rturn hn14 T14
    have S14 := S13.off T14.keeps w.heap.size (by have := T.keeps.size; have := B1.size; simp; omega) h.ref.ltG
    refine ⟨_, _, _, _, rfl, S14.lit3 fun b37 w18 hb37 B18 S18 => ⟨_, S18.cell 1 rfl rfl, _, S18.cell 1 rfl rfl, _, S18.cell 1 rfl rfl, _, S18.cell 0 rfl rfl, _, S18.cell 0 rfl rfl, _, S18.cell 0 rfl rfl, ?_⟩⟩
    rw [hr.l, beq_str]
    simp only [BEq.rfl, decide_true, Bool.and_self]
    exact IFB_true ⟨trivial, _, _, _, _, _, _, h14.grown B18, hr.list (takeL · i)⟩
  · refine S1.drawB fun w19 B19 S19 => ⟨_, S19.cell 0 rfl rfl, _, S19.cell 0 rfl rfl, (net_Net_Copy_ok (h1.grown B19).net.net i).mono ?_⟩
    rintro _ w20 ⟨_, rfl, rfl, a', c', hn, T⟩
    have S20 := S19.off T.keeps w.heap.size m8 h.old
    have h20 := (h1.grown B19).turn hn T
    refine ⟨_, rfl, S20.cell 0 rfl rfl, (ref_Copy_ok h20.ref i).mono ?_⟩
    rintro _ w21 ⟨_, rfl, rfl, ar', cr', hn8, T8⟩
    refine ⟨_, rfl, ?_, _, _, _, _, _, _, h20.rturn hn8 T8, hr.list (copyL · i)⟩
    rw [hr.l]
    simp
  · refine S1.drawB fun w22 B22 S22 => ⟨_, S22.cell 0 rfl rfl, _, S22.cell 0 rfl rfl, _, S22.cell 0 rfl rfl, _, S22.cell 0 rfl rfl, _, S22.cell 0 rfl rfl, _, S22.cell 0 rfl rfl, ?_⟩
    obtain ⟨x, hx⟩ : ∃ x : UInt8, IntKind.u8.wrap fm = (x.toNat : Int) := ⟨UInt8.ofNat (IntKind.u8.wrap fm).toNat, by rw [wrap_u8]; simp; omega⟩
    rw [hx]
    refine (net_Net_Turn_ok (h1.grown B22).net.net i to x).mono ?_
    rintro _ w23 ⟨_, rfl, rfl, hn, T⟩
    have S23 := S22.off T.keeps w.heap.size m8 h.old
    have h23 := (h1.grown B22).turn hn T
    refine ⟨_, rfl, S23.cell 0 rfl rfl, S23.cell 0 rfl rfl, S23.cell 0 rfl rfl, (ref_Turn_ok h23.ref i to x).mono ?_⟩
    rintro _ w21 ⟨_, rfl, rfl, hn8, T8⟩
    refine ⟨_, rfl, ?_, _, _, _, _, _, _, h23.rturn hn8 T8, hr.list (turnL · i to x)⟩
    rw [hr.l]
    simp
  · refine S1.drawB fun w25 B25 S25 => ⟨_, S25.cell 0 rfl rfl, _, S25.cell 0 rfl rfl, _, S25.cell 0 rfl rfl, _, S25.cell 0 rfl rfl, _, S25.cell 0 rfl rfl, _, S25.cell 0 rfl rfl, (net_Net_Cut_ok (h1.grown B25).net.net fm to _).mono ?_⟩
    rintro _ w26 ⟨_, rfl, rfl, hn, T⟩
    have S26 := S25.off T.keeps w.heap.size m8 h.old
    have h26 := (h1.grown B25).turn hn T
    refine ⟨_, rfl, S26.cell 0 rfl rfl, S26.cell 0 rfl rfl, S26.cell 0 rfl rfl, (ref_Cut_ok h26.ref fm to _).mono ?_⟩
    rintro _ w27 ⟨_, rfl, rfl, hn8, T8⟩
    refine ⟨_, rfl, ?_, _, _, _, _, _, _, h26.rturn hn8 T8, hr.cut h.net.net.cuts h.net.net.small (by rw [h.ref.cuts, hr.n]) _ _ _⟩
    rw [hr.n]
    simp
  · refine ⟨_, S1.cell 0 rfl rfl, (net_Net_Look_ok h1.net.net i).mono ?_⟩
    rintro _ w28 ⟨_, rfl, rfl, B28⟩
    have S28 := S1.grown B28
    refine ⟨_, _, _, _, rfl, S28.lit3 fun b76 w32 hb76 B32 S32 => ⟨_, S32.cell 1 rfl rfl, (ref_Look_ok ((h1.grown B28).grown B32).ref i).mono ?_⟩⟩
    rintro _ w33 ⟨_, rfl, rfl, B33⟩
    have S33 := S32.grown B33
    refine ⟨_, _, _, _, rfl, S33.lit3 fun b83 w37 hb83 B37 S37 => ⟨_, S37.cell 1 rfl rfl, _, S37.cell 1 rfl rfl, _, S37.cell 1 rfl rfl, _, S37.cell 0 rfl rfl, _, S37.cell 0 rfl rfl, _, S37.cell 0 rfl rfl, ?_⟩⟩
    rw [hr.l, beq_str]
    simp only [BEq.rfl, decide_true, Bool.and_self]
    exact IFB_true ⟨trivial, _, _, _, _, _, _, (((h1.grown B28).grown B32).grown B33).grown B37, hr⟩
end

/-- a call of the script -/
structure OpD where
  kd : Int
  fm : Int
  to : Int
  i : Int
  d : ByteArray
def opC (x : OpD) : List Value := [.int .i64 x.kd, .int .i64 x.fm, .int .i64 x.to, .int .i64 x.i, .string x.d]
def opQ (x : OpD) : Prop := True

theorem rd_get {α : Type} {w : World} {a : Option Addr} {xs : List α} {g : α → List Value} {sz : Nat} (hg : ∀ x, (g x).length = sz) (h : Rd w a (xs.flatMap g)) {k : Nat} (hk : k < xs.length) {j : Nat} {v : Value} (hv : (g xs[k])[j]? = some v) :
    ∃ p, a = some p ∧ w.cell? (p.add (k * sz + j)) = some v := by
  refine h _ _ ?_
  clear h
  induction xs generalizing k with
  | nil => simp at hk
  | cons x xs ih =>
    rw [List.flatMap_cons]
    cases k with
    | zero =>
      replace hv : (g x)[j]? = some v := hv
      have := (List.getElem?_eq_some_iff.1 hv).1
      rw [Nat.zero_mul, Nat.zero_add, List.getElem?_append_left this]
      exact hv
    | succ k =>
      rw [List.getElem?_append_right (by rw [hg, Nat.add_mul, Nat.one_mul]; omega), hg]
      have := ih (k := k) (by simpa using hk) hv
      rw [← this]
      congr 1
      rw [Nat.add_mul, Nat.one_mul]
      omega

set_option maxRecDepth 20000 in
theorem NetDoes_ok (w : World) (n : Int) (sa : Option Addr) (xs : List OpD) (sc : Nat) (gs : GL w opC opQ sa xs sc) :
    Calls Try.prog f.law20_NetDoes #[.int .i64 n, .slice sa xs.length sc] w (Ret fun v w' => v = .bool true ∧ Below w.heap.size w w') := by
  apply R2.law20_NetDoes_calls
  unfold R2.law20_NetDoes
  refine (shown_ok w).mono ?_
  rintro _ w1 ⟨_, rfl, rfl, B1⟩
  refine ⟨_, rfl, ?_⟩
  by_cases hn : n < 1 ∨ 7 < n
  · refine (net_New_bad w1 n hn).mono ?_
    rintro _ w1 ⟨_, rfl, rfl, rfl⟩
    refine ⟨_, _, rfl, (ref_New_bad w1 n hn).mono ?_⟩
    rintro _ w1 ⟨_, rfl, rfl, rfl⟩
    refine ⟨_, _, rfl, fun s w4 => s = [.bool true] ∧ w4 = w1, IFB_true ⟨rfl, rfl⟩, ?_⟩
    rintro _ w4 ⟨hs, rfl⟩
    cases hs
    exact IFB_true (IFB_true (IFB_true ⟨rfl, B1⟩))
  refine (net_New_ok w1 n (by omega) (by omega)).mono ?_
  rintro _ w2 ⟨_, rfl, b, rfl, hb, hN, B2⟩
  refine ⟨_, _, rfl, (ref_New_ok w2 n (by omega) (by omega)).mono ?_⟩
  rintro _ w3 ⟨_, rfl, r, g, rfl, hrr, hgg, hR, B3⟩
  have s1 := B1.size
  have s2 := B2.size
  have P3 : Goes w.heap.size w w3 b r g := by
    refine ⟨_, _, _, _, _, _, ⟨⟨hN.grown B3, by omega, by simp [rowB], below_trans (below_trans B1 B2) B3, Nat.le_refl _⟩, hR, ?_, ?_⟩, rfl, rfl, rfl, ?_⟩
    · rintro k (hk | hk | hk)
      · omega
      · omega
      · simp [rowB] at hk
    · have := hN.lt
      rintro k (hk | hk | hk) (he | he)
      · omega
      · simp [rowB] at he
      · omega
      · simp [rowB] at he
      · simp [rowB] at hk
      · simp [rowB] at he
    · intro x y hl
      show (List.replicate 64 false).getD _ _ = (List.replicate (n.toNat * n.toNat) false).getD _ _
      rw [getD_rep, getD_rep]
  refine ⟨_, _, rfl, fun s w4 => s = [.bool false] ∧ w4 = w3, IFB_false ⟨rfl, rfl⟩, ?_⟩
  rintro _ w4 ⟨hs, rfl⟩
  cases hs
  refine IFB_false ⟨fun s w10 => Goes w.heap.size w w10 b r g, ?_, ?_⟩
  · refine ⟨fun s w5 => ∃ k : Nat, s = [.int .i64 k] ∧ k ≤ 400 ∧ Goes w.heap.size w w5 b r g,
      fun s _ => match s with
        | [.int _ i] => 400 - i.toNat
        | _ => 0, ⟨0, rfl, by omega, P3⟩, ?_⟩
    rintro i w5 ⟨k, hs, hk, S, a, c, R, ar, cr, h5, rel⟩
    cases hs
    refine IFB_dec (fun hlt => IFB_dec (fun hk4 => ⟨⟨by omega, hlt⟩, ?_⟩) (fun _ => ⟨S, a, c, R, ar, cr, h5, rel⟩)) (fun _ => ⟨S, a, c, R, ar, cr, h5, rel⟩)
    have hkx : k < xs.length := by omega
    have hrd : Rd w5 sa (xs.flatMap opC) := gs.2.2.2.1.grown h5.net.bel
    obtain ⟨p, rfl, c0⟩ := rd_get (sz := 5) (fun _ => rfl) hrd hkx (j := 0) rfl
    have cj : ∀ j v, (opC xs[k])[j]? = some v → w5.cell? ((p.add ((k : Int).toNat * 5)).add j) = some v := by
      intro j v hv
      obtain ⟨p', hp', hc⟩ := rd_get (sz := 5) (fun _ => rfl) hrd hkx hv
      cases hp'
      rw [addr_add_add, Int.toNat_natCast]
      exact hc
    refine ⟨_, by have := cj 0 _ rfl; rwa [addr_add_zero] at this, _, cj 1 _ rfl, _, cj 2 _ rfl, _, cj 3 _ rfl, _, cj 4 _ rfl, (does_ok h5 rel _ _ _ _ _).mono ?_⟩
    rintro _ w6 ⟨_, rfl, rfl, S, a, c, R, ar, cr, h6, rel⟩
    refine ⟨_, rfl, (SH.start (fun _ => False) w6).drawB fun w7 B7 S7 => IFB_false ?_⟩
    have h7 := h6.grown B7
    show ∃ _, _
    refine ⟨_, _, _, by rw [addr_add_blk]; exact h7.ref.c1, (net_Net_Many_ok h7.net.net).mono ?_⟩
    rintro _ w7 ⟨_, rfl, rfl, rfl⟩
    refine ⟨_, rfl, by rw [addr_add_blk]; exact h7.ref.c1, IFB_ne (fun hne => absurd (by rw [rel.l]) hne) (fun _ => ?_)⟩
    show ∃ _, _
    refine ⟨_, by rw [addr_add_blk]; exact h7.ref.c3, (net_Net_Lost_ok h7.net.net).mono ?_⟩
    rintro _ w7 ⟨_, rfl, rfl, rfl⟩
    refine ⟨_, rfl, by rw [addr_add_blk]; exact h7.ref.c3, IFB_ne (fun hne => absurd rel.lost.symm hne) (fun _ => ?_)⟩
    rw [wrap_succ (by omega)]
    refine ⟨⟨k + 1, rfl, by omega, S, a, c, R, ar, cr, h7, rel⟩, ?_⟩
    simp only [Int.toNat_natCast]
    omega
  · rintro w10 ⟨S, a, c, R, ar, cr, h10, rel⟩
    refine ⟨fun s w11 => ∃ k : Nat, s = [.int .i64 k] ∧ k ≤ R.l.length ∧ Pair w.heap.size w w11 b S a c r R ar cr g,
      fun s _ => match s with
        | [.int _ i] => R.l.length - i.toNat
        | _ => 0, ⟨0, rfl, by omega, h10⟩, ?_⟩
    rintro i w11 ⟨k, hs, hk, h11⟩
    cases hs
    have hfew := h10.ref.few
    show ∃ _, _
    refine ⟨_, _, _, by rw [addr_add_blk]; exact h11.ref.c1, IFB_dec (fun hlt => ?_) (fun hge => ⟨rfl, h11.net.bel⟩)⟩
    have hkl : k < R.l.length := by omega
    refine (net_Net_Look_ok h11.net.net k).mono ?_
    rintro _ w12 ⟨_, rfl, rfl, B12⟩
    have hS : k < S.l.length := by rw [← rel.l]; exact hkl
    rw [lookM_some hS]
    refine ⟨_, _, _, _, rfl, (SH.start (fun _ => False) w12).lit3 fun b41 w16 _ B16 S16 => S16.drawB fun w17 B17 S17 => IFB_false ?_⟩
    have h17 := ((h11.grown B12).grown B16).grown B17
    show ∃ _, _
    refine ⟨_, S17.cell 0 rfl rfl, _, S17.cell 0 rfl rfl, _, S17.cell 0 rfl rfl, _, _, _, by rw [addr_add_blk]; exact h17.ref.c1, ⟨by omega, by omega⟩, ?_⟩
    obtain ⟨g', rfl, c0, c1, c2⟩ := row_msg h17.ref.row hkl
    refine ⟨_, c0, _, c1, _, c2, ?_⟩
    have e : R.l[k] = S.l[k] := by simp only [rel.l]
    rw [beq_str, e]
    simp only [Option.getD_some, BEq.rfl, decide_true, Bool.and_self, Bool.not_true]
    refine IFB_false ?_
    rw [wrap_succ (by omega)]
    refine ⟨⟨k + 1, rfl, by omega, h17⟩, ?_⟩
    simp only [Int.toNat_natCast]
    omega
end Go.Proofs.Ytijjimoooflkaaa
namespace Go.Proofs.Ytijjimoooflkaaa
open Go.Dn Go.Proofs
theorem cells_int : Try.prog.cellsOf 3 = 1 := by kernel_rfl
theorem cells_str : Try.prog.cellsOf 9 = 1 := by kernel_rfl
theorem good_stackyardlaw20_Op {w : World} : ∀ m r, r.length = Try.prog.cellsOf 53 → Go.Dn.Good Try.prog w m 53 r → ∃ x, r = opC x ∧ opQ x := by
  intro m r hl h
  obtain ⟨_, n, hf⟩ := h.struct Try.underlying53
  have hl : r.length = 5 := hl.trans (by kernel_rfl)
  match r, hl with
  | [v0, v1, v2, v3, v4], _ =>
    simp only [List.mem_cons, List.not_mem_nil, or_false, forall_eq_or_imp, forall_eq, cells_int, cells_str] at hf
    obtain ⟨h0, h1, h2, h3, h4⟩ := hf
    obtain ⟨x0, e0, _⟩ := h0.int Try.underlying3
    obtain ⟨x1, e1, _⟩ := h1.int Try.underlying3
    obtain ⟨x2, e2, _⟩ := h2.int Try.underlying3
    obtain ⟨x3, e3, _⟩ := h3.int Try.underlying3
    obtain ⟨x4, e4, _⟩ := h4.str Try.underlying9
    refine ⟨⟨x0, x1, x2, x3, x4⟩, ?_, trivial⟩
    simp at e0 e1 e2 e3 e4
    simp [opC, e0, e1, e2, e3, e4]
end Go.Proofs.Ytijjimoooflkaaa
