/-
  Messages that are taken from the front come in the order in which they were sent.
-/
import Derived.Test.YtijjimoooflkaaaSealLaw
import Derived.Test.YtijjimoooflkaaaRead2
import Derived.Test.YtijjimoooflkaaaDnOpen
namespace Go.Proofs.Ytijjimoooflkaaa
open Go.Dn Go.Proofs
open Go.RowKit (Below)
set_option linter.unusedVariables false

/-- a network whose blocks lie from B on, with its row's address -/
structure NI (B : Nat) (W w : World) (b : Nat) (S : NetS) (a : Option Addr) (c : Nat) : Prop where
  net : NetAt w b S a c
  hb : B ≤ b
  hr : ∀ k, rowB a = some k → B ≤ k
  bel : Below B W w
  hB : B ≤ W.heap.size
theorem NI.size {B : Nat} {W w : World} {b : Nat} {S : NetS} {a : Option Addr} {c : Nat} (h : NI B W w b S a c) : B ≤ w.heap.size := Nat.le_trans h.hB h.bel.size
theorem NI.grown {B : Nat} {W w w' : World} {b : Nat} {S : NetS} {a : Option Addr} {c : Nat} (h : NI B W w b S a c) (hb : Below w.heap.size w w') : NI B W w' b S a c :=
  ⟨h.net.grown hb, h.hb, h.hr, h.bel.trans (hb.mono h.size), h.hB⟩
theorem NI.turn {B : Nat} {W w w' : World} {b : Nat} {S S' : NetS} {a a' : Option Addr} {c c' : Nat} (h : NI B W w b S a c) (hn : NetAt w' b S' a' c') (T : Turn b a a' w w') : NI B W w' b S' a' c' := by
  refine ⟨hn, h.hb, fun k hk => ?_, h.bel.trans ?_, h.hB⟩
  · rcases T.new k hk with h1 | h1
    · exact h.hr k h1
    · exact Nat.le_trans h.size h1
  · refine T.keeps.below h.size fun k hk => ?_
    have hb := h.hb
    rintro (he | he)
    · omega
    · have := h.hr k he; omega
/-- a row of messages beside the network -/
structure Beside (B : Nat) (w : World) (b : Nat) (a : Option Addr) (l : List Msg) (a' : Option Addr) (c' : Nat) : Prop where
  row : Row w ty.api_Msg 3 a' l.length c' (cellsM l)
  ne : rowB a' ≠ some b
  off : ∀ k, rowB a' = some k → rowB a ≠ some k
  low : ∀ k, rowB a' = some k → B ≤ k
theorem Beside.grown {B : Nat} {w w' : World} {b : Nat} {a : Option Addr} {l : List Msg} {a' : Option Addr} {c' : Nat} (h : Beside B w b a l a' c') (hb : Below w.heap.size w w') : Beside B w' b a l a' c' :=
  ⟨h.row.grown hb, h.ne, h.off, h.low⟩
theorem Beside.turn {B : Nat} {w w' : World} {b : Nat} {a a2 : Option Addr} {l : List Msg} {a' : Option Addr} {c' : Nat} (h : Beside B w b a l a' c') (T : Turn b a a2 w w') : Beside B w' b a2 l a' c' := by
  refine ⟨h.row.keeps T.keeps fun k hk => ?_, h.ne, fun k hk he => ?_, h.low⟩
  · rintro (he | he)
    · subst he; exact h.ne hk
    · exact h.off k hk he
  · rcases T.new k he with h1 | h1
    · exact h.off k hk h1
    · have := h.row.lt hk; omega

theorem line3 (k : Nat) : lineOk 3 (1 + ((k % 3 : Nat) : Int)) (1 + (((k + 1) % 3 : Nat) : Int)) := by unfold lineOk; omega
theorem from3 (k : Nat) : IntKind.i64.wrap (1 + (Int.tmod (k : Int) 3)) = 1 + ((k % 3 : Nat) : Int) := by
  rw [Int.tmod_eq_emod_of_nonneg (by omega), wrap_i64 (by omega) (by omega)]
  omega

theorem NetOrder_ok (w : World) (da : Option Addr) (ds : List ByteArray) (dc : Nat) (gd : GL w strC strQ da ds dc) (ca : Option Addr) (cs : List Bool) (cc : Nat) (gc : GL w boolC boolQ ca cs cc) : Calls Try.prog f.law20_NetOrder #[.slice da ds.length dc, .slice ca cs.length cc] w (Ret fun v w' => v = .bool true ∧ Below w.heap.size w w') := by
  have hd : Rd w da (ds.map .string) := by have := gd.2.2.2.1; unfold strC at this; rwa [flat1] at this
  have hc : Rd w ca (cs.map .bool) := by have := gc.2.2.2.1; unfold boolC at this; rwa [flat1] at this
  apply R2.law20_NetOrder_calls
  unfold R2.law20_NetOrder
  refine (shown_ok w).mono ?_
  rintro _ w1 ⟨_, rfl, rfl, B1⟩
  refine ⟨_, rfl, (net_New_ok w1 3 (by omega) (by omega)).mono ?_⟩
  rintro _ w2 ⟨_, rfl, b, rfl, hb, hn, B2⟩
  refine ⟨_, _, rfl, IFB_ne (fun h => absurd rfl h) (fun _ => ?_)⟩
  have N2 : NI w.heap.size w w2 b (newNet 3) none 0 := ⟨hn, by have := B1.size; omega, by simp [rowB], below_trans B1 B2, Nat.le_refl _⟩
  refine ⟨fun s w14 => ∃ (a' : Option Addr) (c' : Nat) (l : List Msg) (lost : Int) (cuts : List Bool) (a : Option Addr) (c : Nat), s = [.slice a' l.length c', .int .i64 lost] ∧ NI w.heap.size w w14 b ⟨3, l, lost, cuts⟩ a c ∧ Beside w.heap.size w14 b a l a' c', ?_, ?_⟩
  · refine ⟨fun s w3 => ∃ (k : Nat) (a' : Option Addr) (c' : Nat) (l : List Msg) (lost : Nat) (cuts : List Bool) (a : Option Addr) (c : Nat), s = [.slice a' l.length c', .int .i64 lost, .int .i64 k] ∧ k ≤ 100 ∧ l.length ≤ k ∧ lost ≤ k ∧
        NI w.heap.size w w3 b ⟨3, l, lost, cuts⟩ a c ∧ Beside w.heap.size w3 b a l a' c',
      fun s _ => match s with
        | [_, _, .int _ i] => 100 - i.toNat
        | _ => 0, ⟨0, none, 0, [], 0, _, none, 0, rfl, by omega, by simp, by omega, N2, ⟨Row.nil _ _ _, by simp [rowB], by simp [rowB], by simp [rowB]⟩⟩, ?_⟩
    rintro wa wl wc lo i w3 ⟨k, a', c', l, lost, cuts, a, c, hs, hk, hl, hlo, N3, Z3⟩
    cases hs
    refine IFB_dec (fun h1 => IFB_dec (fun h2 => ?_) (fun h2 => ⟨wa, wc, l, _, cuts, a, c, rfl, N3, Z3⟩)) (fun h1 => ⟨wa, wc, l, _, cuts, a, c, rfl, N3, Z3⟩)
    have hkd : k < ds.length := by omega
    have hd3 : Rd w3 da (ds.map .string) := hd.grown N3.bel
    refine (SH.start (fun _ => True) w3).drawB fun w4 B4 S4 => ⟨⟨by omega, by omega⟩, ?_⟩
    obtain ⟨p, rfl, hp⟩ := hd3.grown B4 k (.string ds[k]) (by simp [hkd])
    have hp' : w4.cell? (p.add ((k : Int).toNat * 1)) = some (.string ds[k]) := by rw [Int.toNat_natCast, Nat.mul_one]; exact hp
    refine ⟨⟨by omega, by omega⟩, _, hp', _, hp', ⟨by omega, by split <;> omega, by split <;> omega⟩, ?_⟩
    have hsz := cut_size ds[k] 1000 (by omega)
    generalize hdd : (ds[k].extract 0 (((if 1000 < (ds[k].size : Int) then 1000 else (ds[k].size : Int))).toNat)) = d at hsz ⊢
    refine S4.newB fun b16 w5 hb16 B5 S5 => ?_
    have hp5 := (Keeps.of_below (F := fun _ => False) B5).cell hp' (by simp)
    refine ⟨hp5, hp5, S5.sto3K 0 rfl fun w8 K8 S8 => ?_⟩
    have f1 := from3 k
    have f2 : IntKind.i64.wrap (1 + (Int.tmod (IntKind.i64.wrap ((k : Int) + 1)) 3)) = 1 + (((k + 1) % 3 : Nat) : Int) := by rw [wrap_succ (by omega)]; exact from3 (k + 1)
    rw [f1, f2] at S8
    have hlo := line3 k
    have hsmall := lineOk_small hlo (by omega)
    have hplace : placeOf (1 + ((k % 3 : Nat) : Int)) (1 + (((k + 1) % 3 : Nat) : Int)) < 64 := by unfold placeOf; omega
    generalize (1 + ((k % 3 : Nat) : Int)) = x at hlo hplace hsmall S8
    generalize (1 + (((k + 1) % 3 : Nat) : Int)) = y at hlo hplace hsmall S8
    have B8 : Below w3.heap.size w3 w8 := (B4.trans (B5.mono B4.size)).trans (K8.below (Nat.le_trans B4.size B5.size) (fun k hk he => by have := B4.size; omega))
    have N8 := N3.grown B8
    have Z8 := Z3.grown B8
    have hbb : b16 ≠ b := by have := N3.net.lt; have := B4.size; omega
    have hba : rowB a ≠ some b16 := fun he => by have := N3.net.row.lt he; have := B4.size; omega
    refine ⟨fun s w9 => ∃ cut, s = [.bool cut] ∧ w9 = w8, ?_, ?_⟩
    · refine IFB_dec (fun h3 => ⟨⟨by omega, h3⟩, ?_⟩) (fun _ => ⟨_, rfl, rfl⟩)
      have hkc : k < cs.length := by omega
      obtain ⟨q, rfl, hq⟩ := (hc.grown N8.bel) k (.bool cs[k]) (by simp [hkc])
      exact ⟨_, by rw [Int.toNat_natCast, Nat.mul_one]; exact hq, _, rfl, rfl⟩
    rintro cut w9 ⟨_, hs, rfl⟩
    cases hs
    refine ⟨_, S8.cell 0 rfl rfl, _, S8.cell 0 rfl rfl, (net_Net_Cut_ok N8.net x y cut).mono ?_⟩
    rintro _ w10 ⟨_, rfl, rfl, hn10, T10⟩
    have N10 := N8.turn hn10 T10
    have Z10 := Z8.turn T10
    have off : ∀ z ∈ [(b16, #[Value.int .i64 x, .int .i64 y, .string d], 37)], ¬ (z.1 = b ∨ rowB a = some z.1) := by
      intro z hz
      simp only [List.mem_singleton] at hz
      subst hz
      rintro (h | h)
      · exact hbb h
      · exact hba h
    have S10 := S8.kept T10.keeps off (fun _ _ _ => trivial)
    refine ⟨_, rfl, _, S10.cell 0 rfl rfl, _, S10.cell 0 rfl rfl, _, S10.cell 0 rfl rfl, (net_Net_Send_ok N10.net (x, y, d)).mono ?_⟩
    rintro _ w11 ⟨_, rfl, rfl, a2, c2, hn11, T11⟩
    have N11 := N10.turn hn11 T11
    have Z11 := Z10.turn T11
    have S11 := S10.kept T11.keeps off (fun _ _ _ => trivial)
    have hcl := hn.cuts
    have e1 : cutE 3 x y = 0 := by unfold cutE; rw [if_pos hlo]
    have hso : lineOk 3 ((x, y, d) : Msg).1 ((x, y, d) : Msg).2.1 ∧ ((x, y, d) : Msg).2.2.size ≤ 600000 := ⟨hlo, by show d.size ≤ 600000; omega⟩
    have e2 : sendE 3 (x, y, d) = 0 := by unfold sendE; rw [if_pos hso]
    have e3 : sendN ⟨3, l, lost, cutC 3 cuts x y cut⟩ (x, y, d) = if cut then ⟨3, l, ((lost + 1 : Nat) : Int), cutC 3 cuts x y cut⟩ else ⟨3, l ++ [(x, y, d)], lost, cutC 3 cuts x y cut⟩ := by
      unfold sendN
      rw [if_pos hso]
      have hcut : (cutC 3 cuts x y cut).getD (placeOf x y) false = cut := by
        unfold cutC
        rw [if_pos hlo]
        have := N3.net.cuts
        simp only at this
        rw [List.getD_eq_getElem?_getD, List.getElem?_set_self (by omega)]
        rfl
      simp only [hcut]
      cases cut with
      | true => rw [if_pos (.inl rfl), if_pos rfl, wrap_i64 (by omega) (by omega)]; rfl
      | false => rw [if_neg (by simp; omega)]; rfl
    rw [show cutE ({ n := 3, l := l, lost := (lost : Int), cuts := cuts } : NetS).n x y = 0 from e1, show sendE ({ n := 3, l := l, lost := (lost : Int), cuts := cutC 3 cuts x y cut } : NetS).n (x, y, d) = 0 from e2]
    rw [show sendN { n := 3, l := l, lost := (lost : Int), cuts := cutC 3 cuts x y cut } (x, y, d) = _ from e3] at N11
    refine ⟨_, rfl, IFB_ne (fun h => absurd rfl h) (fun _ => IFB_ne (fun h => absurd rfl h) (fun _ => IFB_of (fun hcut => ?_) (fun hcut => ?_)))⟩
    · rw [hcut, if_pos rfl] at N11
      rw [wrap_succ (by omega), wrap_succ (by omega)]
      refine ⟨⟨k + 1, wa, wc, l, lost + 1, _, a2, c2, rfl, by omega, by omega, by omega, N11, Z11⟩, ?_⟩
      simp only [Int.toNat_natCast]
      omega
    · rw [hcut, if_neg (by simp)] at N11
      refine ⟨_, S11.cell 0 rfl rfl, _, S11.cell 0 rfl rfl, _, S11.cell 0 rfl rfl, S11.newB fun b33 w12 hb33 B12 S12 => ?_⟩
      have N12 := N11.grown B12
      have Z12 := Z11.grown B12
      refine append_msg Z12.row (by omega) (m := (x, y, d)) (S12.get 0 rfl) fun a4 c4 w13 hr K13 hnew => ⟨_, _, _, rfl, ?_⟩
      rw [wrap_succ (by omega)]
      have hnet13 : NetAt w13 b ⟨3, l ++ [(x, y, d)], lost, cutC 3 cuts x y false⟩ a2 c2 := by
        exact N12.net.keeps K13 Z12.ne fun k hk he => Z12.off k he hk
      have B13 : Below w.heap.size w w13 := N12.bel.trans (K13.below N12.size fun k hk he => by have := Z12.low k he; omega)
      refine ⟨⟨k + 1, a4, c4, l ++ [(x, y, d)], lost, _, a2, c2, rfl, by omega, by simp; omega, by omega, ⟨hnet13, N12.hb, N12.hr, B13, N12.hB⟩, ⟨hr, fun he => ?_, fun j hj he => ?_, fun j hj => ?_⟩⟩, ?_⟩
      · rcases hnew _ he with h | h
        · exact Z12.ne h
        · have := N12.net.lt; omega
      · rcases hnew _ hj with h | h
        · exact Z12.off _ h he
        · have := N12.net.row.lt he; omega
      · rcases hnew _ hj with h | h
        · exact Z12.low _ h
        · exact Nat.le_trans N12.size h
      · simp only [Int.toNat_natCast]
        omega
  · rintro wa wl wc lo w14 ⟨a', c', l, lost, cuts, a, c, hs, N14, Z14⟩
    cases hs
    refine ⟨fun s w15 => ∃ k : Nat, s = [.int .i64 k] ∧ k ≤ l.length ∧ NI w.heap.size w w15 b ⟨3, l.drop k, lo, cuts⟩ a c ∧ Beside w.heap.size w15 b a l wa wc,
      fun s _ => match s with
        | [.int _ i] => l.length - i.toNat
        | _ => 0, ⟨0, rfl, by omega, N14, Z14⟩, ?_⟩
    rintro i w15 ⟨k, hs, hk, N15, Z15⟩
    cases hs
    have hl2 := N14.net.few
    simp only at hl2
    refine IFB_dec (fun hlt => ?_) (fun hge => ?_)
    · have hkl : k < l.length := by omega
      refine (net_Net_Take_ok N15.net 0).mono ?_
      rintro _ w16 ⟨_, rfl, rfl, hn16, T16⟩
      have N16 := N15.turn hn16 T16
      have Z16 := Z15.turn T16
      have e1 : lookM (l.drop k) 0 = some l[k] := by
        have : 0 < (l.drop k).length := by rw [List.length_drop]; omega
        have h := lookM_some (i := 0) this
        simpa using h
      have e2 : takeL (l.drop k) 0 = l.drop (k + 1) := by
        have := takeL_some (l := l.drop k) 0
        rw [show ((0 : Nat) : Int) = 0 from rfl] at this
        rw [this, List.eraseIdx_zero, List.tail_drop]
      rw [show takeL ({ n := 3, l := l.drop k, lost := lo, cuts := cuts } : NetS).l 0 = _ from e2] at N16
      rw [show lookM ({ n := 3, l := l.drop k, lost := lo, cuts := cuts } : NetS).l 0 = _ from e1]
      refine ⟨_, _, _, _, rfl, (SH.start (fun _ => False) w16).new fun b46 w17 _ S17 => S17.sto3 0 rfl fun w20 S20 => S20.draw fun w21 S21 => ?_⟩
      have N21 := N16.grown S21.below
      have Z21 := Z16.grown S21.below
      refine IFB_false ⟨⟨by omega, by omega⟩, ?_⟩
      obtain ⟨g, rfl, h0, h1, h2⟩ := row_msg Z21.row hkl
      refine ⟨_, S21.cell 0 rfl rfl, _, S21.cell 0 rfl rfl, _, S21.cell 0 rfl rfl, _, h0, _, h1, _, h2, ?_⟩
      rw [beq_str]
      simp only [Option.getD_some, BEq.rfl, decide_true, Bool.and_self, Bool.not_true]
      refine IFB_false ?_
      rw [wrap_succ (by omega)]
      refine ⟨⟨k + 1, rfl, by omega, N21, Z21⟩, ?_⟩
      simp only [Int.toNat_natCast]
      omega
    · have hke : k = l.length := by omega
      subst hke
      refine (net_Net_Take_ok N15.net 0).mono ?_
      rintro _ w16 ⟨_, rfl, rfl, hn16, T16⟩
      have N16 := N15.turn hn16 T16
      have e1 : lookM (l.drop l.length) 0 = none := by simp [lookM]
      rw [show lookM ({ n := 3, l := l.drop l.length, lost := lo, cuts := cuts } : NetS).l 0 = _ from e1]
      refine ⟨_, _, _, _, rfl, (SH.start (fun _ => False) w16).new fun b46 w17 _ S17 => S17.sto3 0 rfl fun w20 S20 => IFB_true (IFB_true ?_)⟩
      have N20 := N16.grown S20.below
      refine (net_Net_Lost_ok N20.net).mono ?_
      rintro _ _ ⟨_, rfl, rfl, rfl⟩
      refine ⟨_, rfl, ?_, N20.bel⟩
      simp
end Go.Proofs.Ytijjimoooflkaaa
