/-
  Take, whatever the capacity; the law ValueBack.
-/
import Derived.Test.YtpaajmaecjjfjaaDoorBackLaw
import Derived.Test.YtpaajmaecjjfjaaDoorParse3
namespace Go.Proofs.YtpaajmaecjjfjaaDoor
open Go.Dn Go.Proofs
open Go.RowKit (Below)
set_option linter.unusedVariables false
set_option maxRecDepth 20000
section
variable {w : World} {a : Option Addr} {c : Nat} {l : List UInt8}
theorem wire_TakeText_any (hl : Rd w a (l.map byteV)) (hc : l.length ≤ c) (hs : l.length ≤ 140737488355328) (at_ : Int) (most : Nat) : Calls Tryd.prog f.wire_TakeText #[.slice a l.length c, .int .i64 at_, .int .i64 (most : Int)] w (Ret fun v w' => v = txtV (takeT l at_ most) ∧ w' = w) := by
  apply R.wire_TakeText_calls
  unfold R.wire_TakeText
  refine (wire_TakeNumber_ok hl hc hs at_).mono ?_
  rintro _ w ⟨_, rfl, rfl, rfl⟩
  cases ho : takeN l at_ with
  | none => exact ⟨_, _, _, rfl, IFB_true ⟨by simp only [takeT, ho]; rfl, rfl⟩⟩
  | some x =>
    obtain ⟨n, k⟩ := x
    obtain ⟨h1, h2, h3, h4, h5⟩ := takeN_bounds ho
    have no : (1048576 < n ∨ most < n ∨ l.length - k < n) → (Value.tuple #[.string ⟨#[]⟩, .int .i64 0, .int .i64 20] = txtV (takeT l at_ most) ∧ w = w) := by
      intro h
      refine ⟨?_, rfl⟩
      simp only [takeT, ho]
      rw [if_pos h]
      rfl
    refine ⟨_, _, _, rfl, IFB_false (IFB_dec (fun h => no (.inl (by omega))) (fun hn1 => ?_))⟩
    rw [wrap_i64 (n := (n : Int)) (by omega) (by omega), wrap_i64 (n := (l.length : Int) - (k : Int)) (by omega) (by omega)]
    refine IFB_dec (fun h => no (.inr (.inl (by omega)))) (fun hn2 => IFB_dec (fun h => no (.inr (.inr (by omega)))) (fun hn3 => ?_))
    have e : IntKind.i64.wrap ((k : Int) + (n : Int)) = ((k + n : Nat) : Int) := by rw [wrap_i64 (by omega) (by omega)]; omega
    rw [e]
    refine ⟨⟨by omega, by omega, by omega⟩, ?_⟩
    rw [Int.toNat_natCast, Int.toNat_natCast, Nat.add_sub_cancel_left]
    have hsl := hl.sla k (k + n) c 1 (by omega)
    rw [Nat.mul_one, Nat.mul_one, Nat.add_sub_cancel_left, ← List.map_drop, ← List.map_take] at hsl
    have hlen : ((l.drop k).take n).length = n := by rw [List.length_take, List.length_drop]; omega
    refine string_of_bytes tbytes hlen.symm hsl ⟨_, rfl, ?_, rfl⟩
    simp only [takeT, ho]
    rw [if_neg (by omega)]
    rfl
theorem value_Take_any (hl : Rd w a (l.map byteV)) (hc : l.length ≤ c) (hs : l.length ≤ 140737488355328) (at_ : Int) :
    Calls Tryd.prog f.value_Take #[.slice a l.length c, .int .i64 at_] w (Ret fun v w' => v = takenV (takeV l at_) ∧ Below w.heap.size w w') := by
  apply R.value_Take_calls
  unfold R.value_Take
  refine (SH.start (fun _ => False) w).newB fun b3 w1 hb3 B1 S1 => ?_
  refine IFB_dec (fun h => S1.res3 0 rfl fun w4 S4 => ⟨by simp [takeV, h, takenV], S4.below⟩) (fun h0 => IFB_dec (fun h => S1.res3 0 rfl fun w4 S4 => ⟨?_, S4.below⟩) (fun h1 => ?_))
  · unfold takeV
    rw [if_pos (.inr h)]
    rfl
  obtain ⟨at_, rfl⟩ : ∃ k : Nat, at_ = k := ⟨at_.toNat, by omega⟩
  have hat : at_ < l.length := by omega
  refine ⟨⟨by omega, by omega⟩, ?_⟩
  obtain ⟨p, hp, hcell⟩ := byte_at (hl.grown B1) hat
  subst hp
  have hg := byte_getD hat
  have hcc := l[at_].toNat_lt
  refine ⟨_, by rw [Int.toNat_natCast]; exact hcell, S1.lit3 fun b12 w11 hb12 B11 S11 => ?_⟩
  have hl11 : Rd w11 (some p) (l.map byteV) := hl.grown S11.below
  rw [wrap_i64 (n := (l[at_].toNat : Int)) (by omega) (by omega)] at S11
  rw [wrap_i64 (n := (at_ : Int) + 1) (by omega) (by omega)]
  have ht : takeV l (at_ : Int) = (if l[at_].toNat = 0 then some ((0, 0, E0), at_ + 1)
      else if l[at_].toNat = 1 then (takeN l ((at_ : Int) + 1)).map fun x => ((1, unzig x.1, E0), x.2)
      else if l[at_].toNat = 2 then (if (at_ : Int) + 1 < l.length ∧ (l.getD (at_ + 1) 0).toNat ≤ 1 then some ((2, ((l.getD (at_ + 1) 0).toNat : Int), E0), at_ + 2) else none)
      else if l[at_].toNat = 3 then (takeT l ((at_ : Int) + 1) 1024).map fun x => ((3, 0, sof x.1), x.2)
      else none) := by
    unfold takeV
    rw [if_neg (by omega), Int.toNat_natCast, hg]
  generalize hkk : l[at_].toNat = kk at ht S11 hcc
  refine ⟨fun s w18 => ∃ (nx e : Int) (v : Val), s = [.int .i64 nx, .int .i64 e] ∧ SH (fun _ => False) w w18 [(b12, #[.int .i64 v.1, .int .i64 v.2.1, .string v.2.2], 23), (b3, #[.int .i64 0, .int .i64 0, .string E0], 23)] ∧
      (e ≠ 0 → takeV l (at_ : Int) = none) ∧ (e = 0 → rightB v = false → takeV l (at_ : Int) = none) ∧ (e = 0 → rightB v = true → ∃ k : Nat, nx = k ∧ takeV l (at_ : Int) = some (v, k)), ?_, ?_⟩
  · refine ⟨_, S11.cell 0 rfl rfl, IFB_eq (fun h => ?_) (fun n0 => IFB_eq (fun h => ?_) (fun n1 => IFB_eq (fun h => ?_) (fun n2 => IFB_eq (fun h => ?_) (fun n3 => ?_))))⟩
    · have : kk = 0 := by omega
      subst this
      exact ⟨_, _, (0, 0, E0), rfl, S11, fun h => absurd rfl h, fun _ h => absurd h (by decide), fun _ _ => ⟨at_ + 1, by omega, by rw [ht]; simp⟩⟩
    · have : kk = 1 := by omega
      subst this
      refine (wire_TakeSigned_ok hl11 hc hs ((at_ : Int) + 1)).mono ?_
      rintro _ w11 ⟨_, rfl, rfl, rfl⟩
      cases ho : takeN l ((at_ : Int) + 1) with
      | none =>
        exact ⟨_, _, _, rfl, S11.sto 0 rfl (show 1 < 3 by decide) fun w13 S13 => ⟨_, _, (1, 0, E0), rfl, S13, fun _ => by rw [ht, ho]; simp, fun h => absurd h (by decide), fun h => absurd h (by decide)⟩⟩
      | some x =>
        obtain ⟨n, k⟩ := x
        exact ⟨_, _, _, rfl, S11.sto 0 rfl (show 1 < 3 by decide) fun w13 S13 => ⟨_, _, (1, unzig n, E0), rfl, S13, fun h => absurd rfl h, fun _ h => absurd h (by simp [rightB]), fun _ _ => ⟨k, rfl, by rw [ht, ho]; simp⟩⟩⟩
    · have : kk = 2 := by omega
      subst this
      refine (wire_TakeNumber_ok hl11 hc hs ((at_ : Int) + 1)).mono ?_
      rintro _ w11 ⟨_, rfl, rfl, rfl⟩
      have hcast : ((at_ : Int) + 1) = ((at_ + 1 : Nat) : Int) := by omega
      have hbb := bool_byte (l := l) (at_ := at_ + 1)
      cases ho : takeN l ((at_ : Int) + 1) with
      | none =>
        refine ⟨_, _, _, rfl, S11.sto 0 rfl (show 1 < 3 by decide) fun w13 S13 => ⟨_, _, (2, IntKind.i64.wrap 0, E0), rfl, S13, fun _ => ?_, fun h => absurd h (by decide), fun h => absurd h (by decide)⟩⟩
        rw [ht]
        simp only [if_neg (show ¬ (2 : Nat) = 0 by decide), if_neg (show ¬ (2 : Nat) = 1 by decide), if_true]
        rw [if_neg]
        rintro ⟨q1, q2⟩
        obtain ⟨n, k, q3, _⟩ := hbb.2 ⟨by omega, q2⟩
        rw [← hcast, ho] at q3
        cases q3
      | some x =>
        obtain ⟨n, k⟩ := x
        have hn := (takeN_bounds ho).1
        refine ⟨_, _, _, rfl, S11.sto 0 rfl (show 1 < 3 by decide) fun w13 S13 => ⟨_, _, (2, IntKind.i64.wrap (n : Int), E0), rfl, S13, fun h => absurd rfl h, fun _ hf => ?_, fun _ hr => ?_⟩⟩
        · rw [ht]
          simp only [if_neg (show ¬ (2 : Nat) = 0 by decide), if_neg (show ¬ (2 : Nat) = 1 by decide), if_true]
          rw [if_neg]
          rintro ⟨q1, q2⟩
          obtain ⟨n', k', q3, q4⟩ := hbb.2 ⟨by omega, q2⟩
          rw [← hcast, ho] at q3
          cases q3
          rcases q4 with rfl | rfl
          · exact absurd hf (by decide)
          · exact absurd hf (by decide)
        · have h01 : n = 0 ∨ n = 1 := by
            have := right_kind hr
            simp only at this
            rw [wrap_i64_def] at this
            split at this <;> omega
          obtain ⟨q1, q2⟩ := bool_byte.1 ⟨n, k, hcast ▸ ho, h01⟩
          obtain ⟨q3, q4⟩ := bool_next (hcast ▸ ho) h01
          refine ⟨k, rfl, ?_⟩
          rw [ht]
          simp only [if_neg (show ¬ (2 : Nat) = 0 by decide), if_neg (show ¬ (2 : Nat) = 1 by decide), if_true]
          rw [if_pos ⟨by omega, q2⟩, ← q3, wrap_i64 (by omega) (by omega), q4]
    · have : kk = 3 := by omega
      subst this
      refine (wire_TakeText_any hl11 hc hs ((at_ : Int) + 1) 1024).mono ?_
      rintro _ w11 ⟨_, rfl, rfl, rfl⟩
      cases ho : takeT l ((at_ : Int) + 1) 1024 with
      | none =>
        exact ⟨_, _, _, rfl, S11.sto 0 rfl (show 2 < 3 by decide) fun w13 S13 => ⟨_, _, (3, 0, E0), rfl, S13, fun _ => by rw [ht, ho]; simp, fun h => absurd h (by decide), fun h => absurd h (by decide)⟩⟩
      | some x =>
        obtain ⟨s, k⟩ := x
        have hsz : s.length ≤ 1024 := by
          unfold takeT at ho
          split at ho
          · split at ho
            · cases ho
            · simp only [Option.some.injEq, Prod.mk.injEq] at ho
              rw [← ho.1, List.length_take]
              omega
          · cases ho
        exact ⟨_, _, _, rfl, S11.sto 0 rfl (show 2 < 3 by decide) fun w13 S13 => ⟨_, _, (3, 0, sof s), rfl, S13, fun h => absurd rfl h, fun _ h => absurd h (by simp [rightB, size_sof, hsz]), fun _ _ => ⟨k, rfl, by rw [ht, ho]; simp⟩⟩⟩
    · have hno : takeV l (at_ : Int) = none := by rw [ht, if_neg (by omega), if_neg (by omega), if_neg (by omega), if_neg (by omega)]
      refine ⟨_, _, ((kk : Int), 0, E0), rfl, S11, fun _ => hno, fun _ _ => hno, fun _ h => ?_⟩
      exfalso
      have := right_kind h
      simp only at this
      omega
  · rintro _ _ w18 ⟨nx, e, v, hs', S18, g1, g2, g3⟩
    cases hs'
    refine IFB_ne (fun h => S18.res3 1 rfl fun w4 S4 => ⟨by rw [g1 h]; rfl, S4.below⟩) (fun h => S18.v3 0 rfl ((value_Right_ok w18 v).mono ?_))
    rintro _ w22 ⟨_, rfl, rfl, B22⟩
    have S22 := S18.grown B22
    refine ⟨_, rfl, IFB_not (IFB_of (fun hr => S22.v3 0 rfl (S22.res3 1 rfl fun w4 S4 => ⟨?_, S4.below⟩)) (fun hr => S22.res3 1 rfl fun w4 S4 => ⟨by rw [g2 h hr]; rfl, S4.below⟩))⟩
    obtain ⟨k, rfl, hk⟩ := g3 h hr
    rw [hk]
    rfl

end
theorem str_val {u v : Val} (h : u = v) : ((u.1 == v.1) && ((u.2.1 == v.2.1) && ((u.2.2 == v.2.2) && true))) = true := by
  subst h
  rw [beq_str]
  simp

theorem show_len {v : Val} (hr : rightB v = true) (qv : ValOk v) : (showL v).length ≤ 140737488351232 := by
  rcases show_cases hr _ rfl with ⟨_, h⟩ | ⟨_, h⟩ | ⟨_, h⟩ | ⟨_, h⟩ | ⟨_, hz, h⟩
  · rw [h]; decide
  · rw [h]
    have := itoa_len v.2.1 qv.lo qv.hi
    omega
  · rw [h]; decide
  · rw [h]; decide
  · rw [h]
    have := quoteL_len (bl v.2.2)
    have := bl_length v.2.2
    simp
    omega
theorem ValueBack_ok {w : World} (he : Env2 w) (v : Val) (qv : valQ v) (a : Option Addr) (xs : List Int) (c : Nat) (g : GL w (intC .u8) (intQ .u8) a xs c) (hz0 : c * Tryd.prog.bytesOf ty.uint8 ≤ reachBytes) (s : ByteArray) (hs0 : s.data.toList.length ≤ reachBytes) :
    Calls Tryd.prog f.law04_ValueBack #[valV v, .slice a xs.length c, .string s] w (Ret fun r w' => r = .bool true ∧ Below w.heap.size w w') := by
  have hs : s.size ≤ 140737488351232 := by rw [← bl_length]; exact hs0
  have hz : c ≤ 140737488351232 := by
    have e : Tryd.prog.bytesOf ty.uint8 = 1 := by kernel_rfl
    rw [e, Nat.mul_one] at hz0
    exact hz0
  have hl := bytes_arg g
  have hlen := bytesOf_len xs
  have hc := g.1
  rw [← hlen]
  rw [← hlen] at hc
  generalize bytesOf xs = l at hl hc
  apply R.law04_ValueBack_calls
  unfold R.law04_ValueBack
  refine (SH.start (fun _ => False) w).newB fun b6 w1 hb6 B1 S1 => (shown_ok (he.grown B1).env).mono ?_
  rintro _ w2 ⟨_, rfl, rfl, B2⟩
  have S2 := S1.grown B2
  refine ⟨_, rfl, S2.v3 0 rfl ((value_Lay_ok (c := 0) [] (Rd.nil _ _) v qv.1 (by simp)).mono ?_)⟩
  rintro _ w3 ⟨r3, rfl, h3⟩
  obtain ⟨a3, c3, rfl, h3, B3⟩ : ∃ a c, r3 = .tuple #[.slice a (layR [] v).length c, .int .i64 (layE v)] ∧ (rightB v = true → NewB w2 w3 (layL v) a c) ∧ Below w2.heap.size w2 w3 := by
    rcases h3 with ⟨hr, rfl, hb⟩ | ⟨hr, a, c, rfl, h⟩
    · exact ⟨none, 0, by simp [layR, layE, hr], fun h => (by rw [hr] at h; cases h), hb⟩
    · exact ⟨a, c, by simp [layR, layE, hr], fun _ => by simpa using h, h.bel⟩
  have S3 := S2.grown B3
  obtain ⟨st, hst, hst2⟩ : ∃ st, showV v = .tuple #[.string st, .int .i64 (layE v)] ∧ (rightB v = true → st = sof (showL v)) := by
    unfold showV layE
    cases hr : rightB v
    · exact ⟨_, rfl, fun h => by cases h⟩
    · exact ⟨_, rfl, fun _ => rfl⟩
  refine ⟨_, _, _, _, rfl, S3.v3 0 rfl ((value_Show_ok (he.grown S3.below).env v qv.1).mono ?_)⟩
  rintro _ w4 ⟨_, rfl, rfl, B4⟩
  have S4 := S3.grown B4
  rw [hst]
  refine ⟨_, _, rfl, IFB_ne (fun h => absurd rfl h) (fun _ => ?_)⟩
  refine ⟨fun _ w16 => Below w.heap.size w w16, IFB_eq (fun h0 => ?_) (fun _ => S4.below), ?_⟩
  · have hr : rightB v = true := by
      cases hr : rightB v
      · simp [layE, hr] at h0
      · rfl
    have hn3 := h3 hr
    have hn4 := hn3.grown B4
    have hR : layR [] v = layL v := by simp [layR, hr]
    have hlay : (layL v).length ≤ 2000 := by
      have := hn3.row.len
      rcases right_kind hr with h | h | ⟨h, _⟩ | ⟨h, hh⟩
      · simp [layL, h]
      · have := digitsL_len10 (zigN_lt qv.1.lo qv.1.hi)
        simp [layL, h]
        omega
      · simp [layL, h]
      · have := digitsL_len10 (n := v.2.2.size) (by omega)
        have := bl_length v.2.2
        simp [layL, h, textL]
        omega
    rw [hR]
    refine append_bytes hn4.row (hl.grown S4.below) (by omega) fun a5 c5 w5 R5 K5 N5 => ⟨_, _, _, rfl, ?_⟩
    have S5 : SH (fun _ => False) w w5 [(b6, #[.int .i64 v.1, .int .i64 v.2.1, .string v.2.2], 23)] := S4.kept K5 (fun x hx he => by
      have h1 := hn3.new _ he
      have h2 := S2.lt hx
      omega) (fun k hk he => by
      have h1 := hn3.new _ he
      have h2 := S2.below.size
      omega)
    refine (value_Take_any R5.rd R5.le (by rw [List.length_append]; omega) 0).mono ?_
    rintro _ w6 ⟨_, rfl, rfl, B6⟩
    have S6 := S5.grown B6
    rw [take_lay hr qv.1 l]
    refine ⟨_, _, _, _, _, rfl, S6.lit3 fun b29 w10 hb29 B10 S10 => (value_Parse_ok (he.grown S10.below) st (by rw [hst2 hr, size_sof]; exact show_len hr qv.1)).mono ?_⟩
    rintro _ w11 ⟨_, rfl, hp, B11⟩
    have S11 := S10.grown B11
    have hp2 := parsed_ok (s := st) v hr qv.1 (by rw [hst2 hr, bl_sof])
    have := parse_one hp hp2
    subst this
    refine ⟨_, _, _, _, rfl, S11.lit3 fun b35 w15 hb35 B15 S15 => IFB_ne (fun h => absurd rfl h) (fun _ => IFB_ne (fun h => absurd rfl h) (fun _ => S15.v3 1 rfl (S15.v3 2 rfl ?_)))⟩
    rw [str_val rfl]
    refine IFB_false (S15.v3 0 rfl (S15.v3 2 rfl ?_))
    rw [str_val rfl]
    exact IFB_false (IFB_ne (fun h => absurd rfl h) (fun _ => S15.below))
  intro w16 B16
  refine (value_Take_any (hl.grown B16) hc (by omega) 0).mono ?_
  rintro _ w17 ⟨_, rfl, rfl, B17⟩
  have S17 := SH.start (fun _ => False) w17
  have B17' := below_trans B16 B17
  obtain ⟨x, n, e, hx⟩ := taken_open (takeV l 0)
  rw [hx]
  refine ⟨_, _, _, _, _, rfl, S17.lit3 fun b55 w21 hb55 B21 S21 => ?_⟩
  refine ⟨fun _ w28 => Below w.heap.size w w28, IFB_eq (fun h0 => ?_) (fun _ => below_trans B17' S21.below), ?_⟩
  · subst h0
    cases ht : takeV l 0 with
    | none => rw [ht] at hx; simp [takenV] at hx
    | some xk =>
      obtain ⟨u, k⟩ := xk
      rw [ht] at hx
      simp only [takenV, Value.tuple.injEq, Array.mk.injEq, List.cons.injEq, Value.agg.injEq, Value.int.injEq, Value.string.injEq, true_and, and_true] at hx
      obtain ⟨⟨e1, e2, e3⟩, e4⟩ := hx
      obtain rfl : u = x := Prod.ext e1 (Prod.ext e2 e3)
      subst e4
      obtain ⟨q1, q2, q3, q4⟩ := lay_take ht
      refine S21.v3 0 rfl ((value_Lay_ok (c := 0) [] (Rd.nil _ _) u q2 (by simp)).mono ?_)
      rintro _ w22 ⟨_, rfl, h22⟩
      obtain ⟨a22, c22, rfl, r22, B22⟩ := lay_open h22
      have hR : layR [] u = l.take k := by simp [layR, q1, q4]
      have hE : layE u = 0 := by simp [layE, q1]
      rw [hR] at r22 ⊢
      rw [hE]
      have S22 := S21.grown B22
      have hkl : k = (l.take k).length := by rw [List.length_take]; omega
      have hsl0 := hl.sla 0 k c 1 (by omega)
      rw [Nat.zero_mul, List.drop_zero, Nat.sub_zero, Nat.mul_one, ← List.map_take] at hsl0
      refine ⟨_, _, _, _, rfl, S22.drawB fun w23 B23 S23 => IFB_ne (fun h => absurd rfl h) (fun _ => ⟨⟨by omega, by omega, by omega⟩, ?_, ?_⟩)⟩
      all_goals have hsl := hsl0.grown (below_trans B17' S23.below)
      all_goals rw [Int.toNat_natCast, Nat.sub_zero, Nat.sub_zero]
      · refine string_of_bytes tbytes rfl (r22.grown B23) ⟨_, rfl, string_of_bytes tbytes hkl hsl ⟨_, rfl, ?_⟩⟩
        rw [bytesEq_iff]
        exact IFB_not (IFB_dec (fun _ => below_trans B17' S23.below) (fun h => absurd rfl h))
      · refine string_of_bytes tbytes hkl hsl ⟨_, rfl, string_of_bytes tbytes rfl (r22.grown B23) ⟨_, rfl, ?_⟩⟩
        rw [bytesEq_iff]
        exact IFB_not (IFB_dec (fun _ => below_trans B17' S23.below) (fun h => absurd rfl h))
  intro w28 B28
  refine (value_Parse_ok (he.grown B28) s hs).mono ?_
  rintro _ w29 ⟨_, rfl, hp, B29⟩
  have B29' := below_trans B28 B29
  rcases hp with ⟨u, q1, q2, q3, rfl⟩ | ⟨_, rfl⟩
  · refine ⟨_, _, _, _, rfl, (SH.start (fun _ => False) w29).lit3 fun b76 w33 hb76 B33 S33 => IFB_ne (fun h => absurd rfl h) (fun _ => S33.v3 0 rfl ((value_Show_ok (he.grown (below_trans B29' B33)).env u q2).mono ?_))⟩
    rintro _ w34 ⟨_, rfl, rfl, B34⟩
    refine ⟨sof (showL u), 0, by unfold showV; rw [q1]; rfl, IFB_true (IFB_true ⟨?_, below_trans (below_trans B29' B33) B34⟩)⟩
    rw [bytesEq_iff, q3, sof_bl]
    simp
  · refine ⟨_, _, _, _, rfl, (SH.start (fun _ => False) w29).lit3 fun b76 w33 hb76 B33 S33 => IFB_ne (fun _ => IFB_true (IFB_true (S33.v3 0 rfl ⟨?_, below_trans B29' B33⟩))) (fun h => absurd h (by decide))⟩
    rw [beq_str]
    rfl
end Go.Proofs.YtpaajmaecjjfjaaDoor
