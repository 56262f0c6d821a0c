/-
  Of a nil network there is nothing.
-/
import Derived.Test.YtijjimoooflkaaaNetLaw
namespace Go.Proofs.Ytijjimoooflkaaa
open Go.Dn Go.Proofs
open Go.RowKit (Below)
set_option linter.unusedVariables false

theorem in_nil (w : World) : Calls Try.prog f.net_Net_in #[.pointer none] w (Ret fun v w' => v = .pointer none ∧ w' = w) := by
  apply R.net_Net_in_nil_calls
  exact ⟨rfl, rfl⟩
theorem qMany_nil (w : World) : Calls Try.prog f.net_queue_Many #[.pointer none] w (Ret fun v w' => v = .int .i64 0 ∧ w' = w) := by
  apply R.net_queue_Many_nil_calls
  exact ⟨rfl, rfl⟩
theorem qLost_nil (w : World) : Calls Try.prog f.net_queue_Lost #[.pointer none] w (Ret fun v w' => v = .int .i64 0 ∧ w' = w) := by
  apply R.net_queue_Lost_nil_calls
  exact ⟨rfl, rfl⟩
theorem Many_nil (w : World) : Calls Try.prog f.net_Net_Many #[.pointer none] w (Ret fun v w' => v = .int .i64 0 ∧ w' = w) := by
  apply R.net_Net_Many_nil_calls
  refine (in_nil w).mono ?_
  rintro _ _ ⟨_, rfl, rfl, rfl⟩
  refine ⟨_, rfl, (qMany_nil _).mono ?_⟩
  rintro _ _ ⟨_, rfl, rfl, rfl⟩
  exact ⟨_, rfl, rfl, rfl⟩
theorem Lost_nil (w : World) : Calls Try.prog f.net_Net_Lost #[.pointer none] w (Ret fun v w' => v = .int .i64 0 ∧ w' = w) := by
  apply R.net_Net_Lost_nil_calls
  refine (in_nil w).mono ?_
  rintro _ _ ⟨_, rfl, rfl, rfl⟩
  refine ⟨_, rfl, (qLost_nil _).mono ?_⟩
  rintro _ _ ⟨_, rfl, rfl, rfl⟩
  exact ⟨_, rfl, rfl, rfl⟩
theorem qLook_nil (w : World) (i : Int) : Calls Try.prog f.net_queue_Look #[.pointer none, .int .i64 i] w (Ret fun v w' => v = lookV none ∧ Below w.heap.size w w') := by
  apply R.net_queue_Look_nil_calls
  unfold R.net_queue_Look_nil
  refine (SH.start (fun _ => False) w).new fun b3 w1 hb3 S1 => ?_
  refine IFB_dec (fun hi => ?_) (fun hi => ?_)
  · exact S1.sto3 0 rfl fun w4 S4 => ⟨_, S4.cell 0 rfl rfl, _, S4.cell 0 rfl rfl, _, S4.cell 0 rfl rfl, rfl, S4.below⟩
  · refine (qMany_nil w1).mono ?_
    rintro _ _ ⟨_, rfl, rfl, rfl⟩
    refine ⟨_, rfl, IFB_dec (fun hge => ?_) (fun hlt => by omega)⟩
    exact S1.sto3 0 rfl fun w4 S4 => ⟨_, S4.cell 0 rfl rfl, _, S4.cell 0 rfl rfl, _, S4.cell 0 rfl rfl, rfl, S4.below⟩
theorem Look_nil (w : World) (i : Int) : Calls Try.prog f.net_Net_Look #[.pointer none, .int .i64 i] w (Ret fun v w' => v = lookV none ∧ Below w.heap.size w w') := by
  apply R.net_Net_Look_nil_calls
  unfold R.net_Net_Look_nil
  refine (SH.start (fun _ => False) w).new fun b3 w1 hb3 S1 => ?_
  refine (in_nil w1).mono ?_
  rintro _ _ ⟨_, rfl, rfl, rfl⟩
  refine ⟨_, rfl, (qLook_nil _ i).mono ?_⟩
  rintro _ w3 ⟨_, rfl, rfl, hb⟩
  refine ⟨_, _, _, _, rfl, ?_⟩
  exact (S1.grown hb).sto3 0 rfl fun w4 S4 => ⟨_, S4.cell 0 rfl rfl, _, S4.cell 0 rfl rfl, _, S4.cell 0 rfl rfl, rfl, S4.below⟩
theorem qTake_nil (w : World) (i : Int) : Calls Try.prog f.net_queue_Take #[.pointer none, .int .i64 i] w (Ret fun v w' => v = lookV none ∧ Below w.heap.size w w') := by
  apply R.net_queue_Take_nil_calls
  unfold R.net_queue_Take_nil
  refine (SH.start (fun _ => False) w).new fun b3 w1 hb3 S1 => ?_
  refine (qLook_nil _ i).mono ?_
  rintro _ w3 ⟨_, rfl, rfl, hb⟩
  refine ⟨_, _, _, _, rfl, (S1.grown hb).new fun b9 w4 _ S4 => S4.sto3 0 rfl fun w5 S5 => IFB_false ⟨_, S5.cell 0 rfl rfl, _, S5.cell 0 rfl rfl, _, S5.cell 0 rfl rfl, ?_⟩⟩
  exact S5.sto3 1 rfl fun w6 S6 => ⟨_, S6.cell 1 rfl rfl, _, S6.cell 1 rfl rfl, _, S6.cell 1 rfl rfl, rfl, S6.below⟩
theorem Take_nil (w : World) (i : Int) : Calls Try.prog f.net_Net_Take #[.pointer none, .int .i64 i] w (Ret fun v w' => v = lookV none ∧ Below w.heap.size w w') := by
  apply R.net_Net_Take_nil_calls
  unfold R.net_Net_Take_nil
  refine (SH.start (fun _ => False) w).new fun b3 w1 hb3 S1 => ?_
  refine (in_nil w1).mono ?_
  rintro _ _ ⟨_, rfl, rfl, rfl⟩
  refine ⟨_, rfl, (qTake_nil _ i).mono ?_⟩
  rintro _ w3 ⟨_, rfl, rfl, hb⟩
  refine ⟨_, _, _, _, rfl, ?_⟩
  exact (S1.grown hb).sto3 0 rfl fun w4 S4 => ⟨_, S4.cell 0 rfl rfl, _, S4.cell 0 rfl rfl, _, S4.cell 0 rfl rfl, rfl, S4.below⟩
theorem qCopy_nil (w : World) (i : Int) : Calls Try.prog f.net_queue_Copy #[.pointer none, .int .i64 i] w (Ret fun v w' => v = .bool false ∧ Below w.heap.size w w') := by
  apply R.net_queue_Copy_nil_calls
  unfold R.net_queue_Copy_nil
  refine (qLook_nil _ i).mono ?_
  rintro _ w3 ⟨_, rfl, rfl, hb⟩
  exact ⟨_, _, _, _, rfl, ((SH.start (fun _ => False) w).grown hb).new fun b9 w4 _ S4 => S4.sto3 0 rfl fun w5 S5 => IFB_true ⟨rfl, S5.below⟩⟩
theorem Copy_nil (w : World) (i : Int) : Calls Try.prog f.net_Net_Copy #[.pointer none, .int .i64 i] w (Ret fun v w' => v = .bool false ∧ Below w.heap.size w w') := by
  apply R.net_Net_Copy_nil_calls
  refine (in_nil w).mono ?_
  rintro _ _ ⟨_, rfl, rfl, rfl⟩
  refine ⟨_, rfl, (qCopy_nil _ i).mono ?_⟩
  rintro _ w3 ⟨_, rfl, rfl, hb⟩
  exact ⟨_, rfl, rfl, hb⟩
theorem qTurn_nil (w : World) (i a c : Int) : Calls Try.prog f.net_queue_Turn #[.pointer none, .int .i64 i, .int .i64 a, .int .u8 c] w (Ret fun v w' => v = .bool false ∧ Below w.heap.size w w') := by
  apply R.net_queue_Turn_nil_calls
  unfold R.net_queue_Turn_nil
  refine (qLook_nil _ i).mono ?_
  rintro _ w3 ⟨_, rfl, rfl, hb⟩
  exact ⟨_, _, _, _, rfl, ((SH.start (fun _ => False) w).grown hb).new fun b9 w4 _ S4 => S4.sto3 0 rfl fun w5 S5 => IFB_true ⟨rfl, S5.below⟩⟩
theorem Turn_nil (w : World) (i a c : Int) : Calls Try.prog f.net_Net_Turn #[.pointer none, .int .i64 i, .int .i64 a, .int .u8 c] w (Ret fun v w' => v = .bool false ∧ Below w.heap.size w w') := by
  apply R.net_Net_Turn_nil_calls
  refine (in_nil w).mono ?_
  rintro _ _ ⟨_, rfl, rfl, rfl⟩
  refine ⟨_, rfl, (qTurn_nil _ i a c).mono ?_⟩
  rintro _ w3 ⟨_, rfl, rfl, hb⟩
  exact ⟨_, rfl, rfl, hb⟩
theorem line_nil (w : World) (x y : Int) : Calls Try.prog f.net_Net_line #[.pointer none, .int .i64 x, .int .i64 y] w (Ret fun v w' => v = .int .i64 1 ∧ w' = w) := by
  apply R.net_Net_line_nil_calls
  exact ⟨rfl, rfl⟩
theorem Send_nil (w : World) (m : Msg) : Calls Try.prog f.net_Net_Send #[.pointer none, .agg #[.int .i64 m.1, .int .i64 m.2.1, .string m.2.2]] w (Ret fun v w' => v = .int .i64 1 ∧ Below w.heap.size w w') := by
  apply R.net_Net_Send_nil_calls
  unfold R.net_Net_Send_nil
  refine (SH.start (fun _ => False) w).new fun b5 w1 _ S1 => ⟨_, S1.cell 0 rfl rfl, _, S1.cell 0 rfl rfl, (line_nil _ _ _).mono ?_⟩
  rintro _ _ ⟨_, rfl, rfl, rfl⟩
  exact ⟨_, rfl, IFB_true ⟨rfl, S1.below⟩⟩
theorem Cut_nil (w : World) (x y : Int) (t : Bool) : Calls Try.prog f.net_Net_Cut #[.pointer none, .int .i64 x, .int .i64 y, .bool t] w (Ret fun v w' => v = .int .i64 1 ∧ w' = w) := by
  apply R.net_Net_Cut_nil_calls
  unfold R.net_Net_Cut_nil
  refine (line_nil _ _ _).mono ?_
  rintro _ _ ⟨_, rfl, rfl, rfl⟩
  exact ⟨_, rfl, IFB_false ⟨rfl, rfl⟩⟩

theorem NetNone_ok (w : World) (i : Int) : Calls Try.prog f.law20_NetNone #[.int .i64 i] w (Ret fun v w' => v = .bool true ∧ Below w.heap.size w w') := by
  apply R.law20_NetNone_calls
  unfold R.law20_NetNone
  refine (shown_ok w).mono ?_
  rintro _ w1 ⟨_, rfl, rfl, B1⟩
  refine ⟨_, rfl, (Look_nil w1 i).mono ?_⟩
  rintro _ w2 ⟨_, rfl, rfl, B2⟩
  refine ⟨_, _, _, _, rfl, (((SH.start (fun _ => False) w).grown B1).grown B2).new fun b9 w3 _ S3 => S3.sto3 0 rfl fun w6 S6 => (Take_nil w6 i).mono ?_⟩
  rintro _ w7 ⟨_, rfl, rfl, B7⟩
  refine ⟨_, _, _, _, rfl, (S6.grown B7).new fun b15 w8 _ S8 => S8.sto3 0 rfl fun w11 S11 => IFB_true (IFB_true (IFB_true ((Copy_nil w11 i).mono ?_)))⟩
  rintro _ w12 ⟨_, rfl, rfl, B12⟩
  refine ⟨_, rfl, IFB_true ((Turn_nil w12 i i 1).mono ?_)⟩
  rintro _ w13 ⟨_, rfl, rfl, B13⟩
  refine ⟨_, rfl, IFB_true ((Many_nil w13).mono ?_)⟩
  rintro _ _ ⟨_, rfl, rfl, rfl⟩
  refine ⟨_, rfl, IFB_true ((Lost_nil _).mono ?_)⟩
  rintro _ _ ⟨_, rfl, rfl, rfl⟩
  refine ⟨_, rfl, IFB_true ((Send_nil _ noMsg).mono ?_)⟩
  rintro _ w16 ⟨_, rfl, rfl, B16⟩
  refine ⟨_, rfl, IFB_true ((Cut_nil _ i i true).mono ?_)⟩
  rintro _ _ ⟨_, rfl, rfl, rfl⟩
  exact ⟨_, rfl, rfl, (((S11.grown B12).grown B13).grown B16).below⟩
end Go.Proofs.Ytijjimoooflkaaa
