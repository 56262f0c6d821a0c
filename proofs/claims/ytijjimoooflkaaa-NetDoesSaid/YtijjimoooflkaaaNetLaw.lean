/-
  The laws of the network that look at the program alone.
-/
import Derived.Test.YtijjimoooflkaaaNetDo
namespace Go.Proofs.Ytijjimoooflkaaa
open Go.Dn Go.Proofs
open Go.RowKit (Below)
set_option linter.unusedVariables false

/-- a network whose blocks all lie from B on, where below B nothing has changed since W -/
def NetIn (B : Nat) (W w : World) (b : Nat) (S : NetS) : Prop :=
  ∃ a c, NetAt w b S a c ∧ B ≤ b ∧ (∀ k, rowB a = some k → B ≤ k) ∧ Below B W w ∧ B ≤ W.heap.size
theorem NetIn.grown {B : Nat} {W w w' : World} {b : Nat} {S : NetS} (h : NetIn B W w b S) (hb : Below w.heap.size w w') : NetIn B W w' b S := by
  obtain ⟨a, c, h1, h2, h3, h4, h5⟩ := h
  exact ⟨a, c, h1.grown hb, h2, h3, h4.trans (hb.mono (Nat.le_trans h5 h4.size)), h5⟩
theorem NetIn.below {B : Nat} {W w : World} {b : Nat} {S : NetS} (h : NetIn B W w b S) : Below B W w := by
  obtain ⟨a, c, h1, h2, h3, h4, h5⟩ := h
  exact h4
theorem net_turned {B : Nat} {W w w' : World} {b : Nat} {S' : NetS} {a a' : Option Addr} {c' : Nat} (h2 : B ≤ b) (h3 : ∀ k, rowB a = some k → B ≤ k) (h4 : Below B W w) (h5 : B ≤ W.heap.size)
    (hn : NetAt w' b S' a' c') (T : Turn b a a' w w') : NetIn B W w' b S' := by
  refine ⟨a', c', hn, h2, fun k hk => ?_, h4.trans ?_, h5⟩
  · rcases T.new k hk with h | h
    · exact h3 k h
    · exact Nat.le_trans (Nat.le_trans h5 h4.size) h
  · refine T.keeps.below (Nat.le_trans h5 h4.size) fun k hk => ?_
    rintro (he | he)
    · omega
    · have := h3 k he; omega
section
variable {B : Nat} {W w : World} {b : Nat} {S : NetS}
theorem net_New_in (w : World) (n : Int) (h1 : 1 ≤ n) (h2 : n ≤ 7) (hB : Below B W w) (h5 : B ≤ W.heap.size) : Calls Try.prog f.net_New #[.int .i64 n] w (Ret fun v w' => ∃ b, v = .tuple #[.pointer (some ⟨b, 0, none⟩), .int .i64 0] ∧ NetIn B W w' b (newNet n)) := by
  refine (net_New_ok w n h1 h2).mono ?_
  rintro _ w' ⟨_, rfl, b, rfl, hb, hn, hw⟩
  have := hB.size
  exact ⟨_, rfl, b, rfl, none, 0, hn, by omega, by simp [rowB], hB.trans (hw.mono (by omega)), h5⟩
theorem net_Send_in (h : NetIn B W w b S) (m : Msg) : Calls Try.prog f.net_Net_Send #[.pointer (some ⟨b, 0, none⟩), .agg #[.int .i64 m.1, .int .i64 m.2.1, .string m.2.2]] w (Ret fun v w' => v = .int .i64 (sendE S.n m) ∧ NetIn B W w' b (sendN S m)) := by
  obtain ⟨a, c, h1, h2, h3, h4, h5⟩ := h
  refine (net_Net_Send_ok h1 m).mono ?_
  rintro _ w' ⟨_, rfl, rfl, a', c', hn, T⟩
  exact ⟨_, rfl, rfl, net_turned h2 h3 h4 h5 hn T⟩
theorem net_Take_in (h : NetIn B W w b S) (i : Int) : Calls Try.prog f.net_Net_Take #[.pointer (some ⟨b, 0, none⟩), .int .i64 i] w (Ret fun v w' => v = lookV (lookM S.l i) ∧ NetIn B W w' b { S with l := takeL S.l i }) := by
  obtain ⟨a, c, h1, h2, h3, h4, h5⟩ := h
  refine (net_Net_Take_ok h1 i).mono ?_
  rintro _ w' ⟨_, rfl, rfl, hn, T⟩
  exact ⟨_, rfl, rfl, net_turned h2 h3 h4 h5 hn T⟩
theorem net_Copy_in (h : NetIn B W w b S) (i : Int) : Calls Try.prog f.net_Net_Copy #[.pointer (some ⟨b, 0, none⟩), .int .i64 i] w (Ret fun v w' => v = .bool (copyB S.l i) ∧ NetIn B W w' b { S with l := copyL S.l i }) := by
  obtain ⟨a, c, h1, h2, h3, h4, h5⟩ := h
  refine (net_Net_Copy_ok h1 i).mono ?_
  rintro _ w' ⟨_, rfl, rfl, a', c', hn, T⟩
  exact ⟨_, rfl, rfl, net_turned h2 h3 h4 h5 hn T⟩
theorem net_Cut_in (h : NetIn B W w b S) (x y : Int) (t : Bool) : Calls Try.prog f.net_Net_Cut #[.pointer (some ⟨b, 0, none⟩), .int .i64 x, .int .i64 y, .bool t] w (Ret fun v w' => v = .int .i64 (cutE S.n x y) ∧ NetIn B W w' b { S with cuts := cutC S.n S.cuts x y t }) := by
  obtain ⟨a, c, h1, h2, h3, h4, h5⟩ := h
  refine (net_Net_Cut_ok h1 x y t).mono ?_
  rintro _ w' ⟨_, rfl, rfl, hn, T⟩
  exact ⟨_, rfl, rfl, net_turned h2 h3 h4 h5 hn T⟩
theorem net_Many_in (h : NetIn B W w b S) : Calls Try.prog f.net_Net_Many #[.pointer (some ⟨b, 0, none⟩)] w (Ret fun v w' => v = .int .i64 (S.l.length : Int) ∧ w' = w) := by
  obtain ⟨a, c, h1, _⟩ := h
  exact net_Net_Many_ok h1
theorem net_Lost_in (h : NetIn B W w b S) : Calls Try.prog f.net_Net_Lost #[.pointer (some ⟨b, 0, none⟩)] w (Ret fun v w' => v = .int .i64 S.lost ∧ w' = w) := by
  obtain ⟨a, c, h1, _⟩ := h
  exact net_Net_Lost_ok h1
end

def mA : Msg := (1, 2, ⟨#[97]⟩)
def mB : Msg := (2, 1, ⟨#[98]⟩)
theorem sends2 : (sendE 2 mA = 0) ∧ (sendE 2 mB = 0) ∧ sendN (newNet 2) mA = { newNet 2 with l := [mA] } ∧ sendN { newNet 2 with l := [mA] } mB = { newNet 2 with l := [mA, mB] } := by
  have ha : lineOk 2 mA.1 mA.2.1 ∧ mA.2.2.size ≤ 600000 := by unfold lineOk mA; decide
  have hb : lineOk 2 mB.1 mB.2.1 ∧ mB.2.2.size ≤ 600000 := by unfold lineOk mB; decide
  refine ⟨by simp only [sendE, ha, and_self, if_true], by simp only [sendE, hb, and_self, if_true], ?_, ?_⟩
  · have hc : ¬ ((newNet 2).cuts.getD (placeOf mA.1 mA.2.1) false = true ∨ 2000 ≤ (newNet 2).l.length) := by decide
    have ha' : lineOk (newNet 2).n mA.1 mA.2.1 ∧ mA.2.2.size ≤ 600000 := ha
    simp only [sendN, ha', and_self, if_true, hc, if_false]
    rfl
  · have hc : ¬ (({ newNet 2 with l := [mA] } : NetS).cuts.getD (placeOf mB.1 mB.2.1) false = true ∨ 2000 ≤ ({ newNet 2 with l := [mA] } : NetS).l.length) := by decide
    have hb' : lineOk ({ newNet 2 with l := [mA] } : NetS).n mB.1 mB.2.1 ∧ mB.2.2.size ≤ 600000 := hb
    simp only [sendN, hb', and_self, if_true, hc, if_false]
    rfl
theorem seal_empty : bytesEq (sof (sealL (bl ⟨#[]⟩))) ⟨#[0, 0, 0, 0]⟩ = true := by
  rw [bytesEq_iff]
  decide +kernel

theorem shown_ok (w : World) : Calls Try.prog f.law20_shown #[] w (Ret fun v w' => v = .bool true ∧ Below w.heap.size w w') := by
  obtain ⟨e1, e2, e3, e4⟩ := sends2
  apply R.law20_shown_calls
  unfold R.law20_shown
  refine (net_New_in w 2 (by omega) (by omega) (Below.refl w.heap.size w) (Nat.le_refl _)).mono ?_
  rintro _ w1 ⟨_, rfl, b, rfl, h1⟩
  refine ⟨_, _, rfl, (net_Send_in h1 mA).mono ?_⟩
  rintro _ w2 ⟨_, rfl, rfl, h2⟩
  rw [e3] at h2
  refine ⟨_, rfl, (net_Send_in h2 mB).mono ?_⟩
  rintro _ w3 ⟨_, rfl, rfl, h3⟩
  rw [e4] at h3
  refine ⟨_, rfl, (net_Take_in h3 0).mono ?_⟩
  rintro _ w4 ⟨_, rfl, rfl, h4⟩
  refine ⟨_, _, _, _, rfl, ?_⟩
  have hb4 := h4.below
  refine (SH.start (fun _ => False) w4).newB fun b13 w5 hb13 B5 S5 => ?_
  refine S5.sto3K 0 rfl fun w8 K8 S8 => ?_
  have h8 : NetIn w.heap.size w w8 b { newNet 2 with l := [mB] } := h4.grown S8.below
  rw [show sendE (newNet 2).n mA = 0 from e1, show sendE ({ newNet 2 with l := [mA] } : NetS).n mB = 0 from e2]
  refine IFB_true (IFB_true (IFB_true (IFB_true ⟨_, S8.cell 0 rfl rfl, _, S8.cell 0 rfl rfl, _, S8.cell 0 rfl rfl, ?_⟩)))
  rw [beq_str]
  refine IFB_true ((net_Many_in h8).mono ?_)
  rintro _ _ ⟨_, rfl, rfl, rfl⟩
  refine ⟨_, rfl, IFB_true ((net_Seal_ok _ ⟨#[]⟩ (by decide)).mono ?_)⟩
  rintro _ w10 ⟨_, rfl, rfl, hb⟩
  refine ⟨_, rfl, ?_, ?_⟩
  · rw [seal_empty]
  · exact (h8.grown hb).below
end Go.Proofs.Ytijjimoooflkaaa
