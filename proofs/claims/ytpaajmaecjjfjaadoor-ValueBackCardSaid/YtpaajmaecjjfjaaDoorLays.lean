/-
  Values out of bytes; the document's bytes of a value; the law ValueLays.
-/
import Derived.Test.YtpaajmaecjjfjaaDoorTake2
namespace Go.Dn
/-- a result of three cells: stored, and read -/
theorem SH.res3 {F : Nat → Prop} {w0 w : World} {H : List Ent} (S : SH F w0 w H) (n : Nat) {b : Nat} {x0 x1 x2 : Value} {t : TypeId} (hn : H[n]? = some (b, #[x0, x1, x2], t)) {v0 v1 : Int} {v2 : ByteArray} {Q : Int → Int → ByteArray → World → Prop}
    (hk : ∀ w', SH F w0 w' (H.set n (b, #[.int .i64 v0, .int .i64 v1, .string v2], t)) → Q v0 v1 v2 w') :
    STO ⟨b, 0, none⟩ (.int .i64 v0) (fun w => STO ⟨b, 1, none⟩ (.int .i64 v1) (fun w => STO ⟨b, 2, none⟩ (.string v2) (fun w => ∃ r0 : Int, w.cell? ⟨b, 0, none⟩ = some (.int .i64 r0) ∧ ∃ r1 : Int, w.cell? ⟨b, 1, none⟩ = some (.int .i64 r1) ∧ ∃ r2 : ByteArray, w.cell? ⟨b, 2, none⟩ = some (.string r2) ∧ Q r0 r1 r2 w) w) w) w := by
  have hlt := (List.getElem?_eq_some_iff.1 hn).1
  exact S.sto3K n hn fun w' _ S' => S'.v3 n (List.getElem?_set_self hlt) (hk w' S')
end Go.Dn
namespace Go.Proofs.YtpaajmaecjjfjaaDoor
open Go.Dn Go.Proofs
open Go.RowKit (Below)
set_option linter.unusedVariables false
set_option maxRecDepth 20000

section
variable {w : World} {a : Option Addr} {c : Nat} {l : List UInt8}
theorem byte_getD {i : Nat} (hi : i < l.length) : l.getD i 0 = l[i] := by simp [List.getD, hi]

theorem value_Take_ok (hl : Rd w a (l.map byteV)) (hc : l.length ≤ c) (hcm : c ≤ 9223372036854775807) (hs : l.length ≤ 140737488355328) (at_ : Int) :
    Calls Tryd.prog f.value_Take #[.slice a l.length c, .int .i64 at_] w (Ret fun v w' => v = takenV (takeV l at_) ∧ Below w.heap.size w w') := by
  apply R.value_Take_calls
  unfold R.value_Take
  refine (SH.start (fun _ => False) w).newB fun b3 w1 hb3 B1 S1 => ?_
  refine IFB_dec (fun h => S1.res3 0 rfl fun w4 S4 => ⟨by simp [takeV, h, takenV], S4.below⟩) (fun h0 => IFB_dec (fun h => S1.res3 0 rfl fun w4 S4 => ⟨?_, S4.below⟩) (fun h1 => ?_))
  · unfold takeV
    rw [if_pos (.inr h)]
    rfl
  obtain ⟨at_, rfl⟩ : ∃ k : Nat, at_ = k := ⟨at_.toNat, by omega⟩
  have hat : at_ < l.length := by omega
  refine ⟨⟨by omega, by omega⟩, ?_⟩
  obtain ⟨p, hp, hcell⟩ := byte_at (hl.grown B1) hat
  subst hp
  have hg := byte_getD hat
  have hcc := l[at_].toNat_lt
  refine ⟨_, by rw [Int.toNat_natCast]; exact hcell, S1.lit3 fun b12 w11 hb12 B11 S11 => ?_⟩
  have hl11 : Rd w11 (some p) (l.map byteV) := hl.grown S11.below
  rw [wrap_i64 (n := (l[at_].toNat : Int)) (by omega) (by omega)] at S11
  rw [wrap_i64 (n := (at_ : Int) + 1) (by omega) (by omega)]
  have ht : takeV l (at_ : Int) = (if l[at_].toNat = 0 then some ((0, 0, E0), at_ + 1)
      else if l[at_].toNat = 1 then (takeN l ((at_ : Int) + 1)).map fun x => ((1, unzig x.1, E0), x.2)
      else if l[at_].toNat = 2 then (if (at_ : Int) + 1 < l.length ∧ (l.getD (at_ + 1) 0).toNat ≤ 1 then some ((2, ((l.getD (at_ + 1) 0).toNat : Int), E0), at_ + 2) else none)
      else if l[at_].toNat = 3 then (takeT l ((at_ : Int) + 1) 1024).map fun x => ((3, 0, sof x.1), x.2)
      else none) := by
    unfold takeV
    rw [if_neg (by omega), Int.toNat_natCast, hg]
  generalize hkk : l[at_].toNat = kk at ht S11 hcc
  refine ⟨fun s w18 => ∃ (nx e : Int) (v : Val), s = [.int .i64 nx, .int .i64 e] ∧ SH (fun _ => False) w w18 [(b12, #[.int .i64 v.1, .int .i64 v.2.1, .string v.2.2], 23), (b3, #[.int .i64 0, .int .i64 0, .string E0], 23)] ∧
      (e ≠ 0 → takeV l (at_ : Int) = none) ∧ (e = 0 → rightB v = false → takeV l (at_ : Int) = none) ∧ (e = 0 → rightB v = true → ∃ k : Nat, nx = k ∧ takeV l (at_ : Int) = some (v, k)), ?_, ?_⟩
  · refine ⟨_, S11.cell 0 rfl rfl, IFB_eq (fun h => ?_) (fun n0 => IFB_eq (fun h => ?_) (fun n1 => IFB_eq (fun h => ?_) (fun n2 => IFB_eq (fun h => ?_) (fun n3 => ?_))))⟩
    · have : kk = 0 := by omega
      subst this
      exact ⟨_, _, (0, 0, E0), rfl, S11, fun h => absurd rfl h, fun _ h => absurd h (by decide), fun _ _ => ⟨at_ + 1, by omega, by rw [ht]; simp⟩⟩
    · have : kk = 1 := by omega
      subst this
      refine (wire_TakeSigned_ok hl11 hc hs ((at_ : Int) + 1)).mono ?_
      rintro _ w11 ⟨_, rfl, rfl, rfl⟩
      cases ho : takeN l ((at_ : Int) + 1) with
      | none =>
        exact ⟨_, _, _, rfl, S11.sto 0 rfl (show 1 < 3 by decide) fun w13 S13 => ⟨_, _, (1, 0, E0), rfl, S13, fun _ => by rw [ht, ho]; simp, fun h => absurd h (by decide), fun h => absurd h (by decide)⟩⟩
      | some x =>
        obtain ⟨n, k⟩ := x
        exact ⟨_, _, _, rfl, S11.sto 0 rfl (show 1 < 3 by decide) fun w13 S13 => ⟨_, _, (1, unzig n, E0), rfl, S13, fun h => absurd rfl h, fun _ h => absurd h (by simp [rightB]), fun _ _ => ⟨k, rfl, by rw [ht, ho]; simp⟩⟩⟩
    · have : kk = 2 := by omega
      subst this
      refine (wire_TakeNumber_ok hl11 hc hs ((at_ : Int) + 1)).mono ?_
      rintro _ w11 ⟨_, rfl, rfl, rfl⟩
      have hcast : ((at_ : Int) + 1) = ((at_ + 1 : Nat) : Int) := by omega
      have hbb := bool_byte (l := l) (at_ := at_ + 1)
      cases ho : takeN l ((at_ : Int) + 1) with
      | none =>
        refine ⟨_, _, _, rfl, S11.sto 0 rfl (show 1 < 3 by decide) fun w13 S13 => ⟨_, _, (2, IntKind.i64.wrap 0, E0), rfl, S13, fun _ => ?_, fun h => absurd h (by decide), fun h => absurd h (by decide)⟩⟩
        rw [ht]
        simp only [if_neg (show ¬ (2 : Nat) = 0 by decide), if_neg (show ¬ (2 : Nat) = 1 by decide), if_true]
        rw [if_neg]
        rintro ⟨q1, q2⟩
        obtain ⟨n, k, q3, _⟩ := hbb.2 ⟨by omega, q2⟩
        rw [← hcast, ho] at q3
        cases q3
      | some x =>
        obtain ⟨n, k⟩ := x
        have hn := (takeN_bounds ho).1
        refine ⟨_, _, _, rfl, S11.sto 0 rfl (show 1 < 3 by decide) fun w13 S13 => ⟨_, _, (2, IntKind.i64.wrap (n : Int), E0), rfl, S13, fun h => absurd rfl h, fun _ hf => ?_, fun _ hr => ?_⟩⟩
        · rw [ht]
          simp only [if_neg (show ¬ (2 : Nat) = 0 by decide), if_neg (show ¬ (2 : Nat) = 1 by decide), if_true]
          rw [if_neg]
          rintro ⟨q1, q2⟩
          obtain ⟨n', k', q3, q4⟩ := hbb.2 ⟨by omega, q2⟩
          rw [← hcast, ho] at q3
          cases q3
          rcases q4 with rfl | rfl
          · exact absurd hf (by decide)
          · exact absurd hf (by decide)
        · have h01 : n = 0 ∨ n = 1 := by
            have := right_kind hr
            simp only at this
            rw [wrap_i64_def] at this
            split at this <;> omega
          obtain ⟨q1, q2⟩ := bool_byte.1 ⟨n, k, hcast ▸ ho, h01⟩
          obtain ⟨q3, q4⟩ := bool_next (hcast ▸ ho) h01
          refine ⟨k, rfl, ?_⟩
          rw [ht]
          simp only [if_neg (show ¬ (2 : Nat) = 0 by decide), if_neg (show ¬ (2 : Nat) = 1 by decide), if_true]
          rw [if_pos ⟨by omega, q2⟩, ← q3, wrap_i64 (by omega) (by omega), q4]
    · have : kk = 3 := by omega
      subst this
      refine (wire_TakeText_ok hl11 hc hcm hs ((at_ : Int) + 1) 1024).mono ?_
      rintro _ w11 ⟨_, rfl, rfl, rfl⟩
      cases ho : takeT l ((at_ : Int) + 1) 1024 with
      | none =>
        exact ⟨_, _, _, rfl, S11.sto 0 rfl (show 2 < 3 by decide) fun w13 S13 => ⟨_, _, (3, 0, E0), rfl, S13, fun _ => by rw [ht, ho]; simp, fun h => absurd h (by decide), fun h => absurd h (by decide)⟩⟩
      | some x =>
        obtain ⟨s, k⟩ := x
        have hsz : s.length ≤ 1024 := by
          unfold takeT at ho
          split at ho
          · split at ho
            · cases ho
            · simp only [Option.some.injEq, Prod.mk.injEq] at ho
              rw [← ho.1, List.length_take]
              omega
          · cases ho
        exact ⟨_, _, _, rfl, S11.sto 0 rfl (show 2 < 3 by decide) fun w13 S13 => ⟨_, _, (3, 0, sof s), rfl, S13, fun h => absurd rfl h, fun _ h => absurd h (by simp [rightB, size_sof, hsz]), fun _ _ => ⟨k, rfl, by rw [ht, ho]; simp⟩⟩⟩
    · have hno : takeV l (at_ : Int) = none := by rw [ht, if_neg (by omega), if_neg (by omega), if_neg (by omega), if_neg (by omega)]
      refine ⟨_, _, ((kk : Int), 0, E0), rfl, S11, fun _ => hno, fun _ _ => hno, fun _ h => ?_⟩
      exfalso
      have := right_kind h
      simp only at this
      omega
  · rintro _ _ w18 ⟨nx, e, v, hs', S18, g1, g2, g3⟩
    cases hs'
    refine IFB_ne (fun h => S18.res3 1 rfl fun w4 S4 => ⟨by rw [g1 h]; rfl, S4.below⟩) (fun h => S18.v3 0 rfl ((value_Right_ok w18 v).mono ?_))
    rintro _ w22 ⟨_, rfl, rfl, B22⟩
    have S22 := S18.grown B22
    refine ⟨_, rfl, IFB_not (IFB_of (fun hr => S22.v3 0 rfl (S22.res3 1 rfl fun w4 S4 => ⟨?_, S4.below⟩)) (fun hr => S22.res3 1 rfl fun w4 S4 => ⟨by rw [g2 h hr]; rfl, S4.below⟩))⟩
    obtain ⟨k, rfl, hk⟩ := g3 h hr
    rw [hk]
    rfl

theorem ref_Take_ok (hl : Rd w a (l.map byteV)) (hc : l.length ≤ c) (hcm : c ≤ 9223372036854775807) (hs : l.length ≤ 140737488355328) (at_ : Int) :
    Calls Tryd.prog f.ref04_Take #[.slice a l.length c, .int .i64 at_] w (Ret fun v w' => v = takenV (takeV l at_) ∧ Below w.heap.size w w') := by
  apply R.ref04_Take_calls
  unfold R.ref04_Take
  refine (SH.start (fun _ => False) w).newB fun b3 w1 hb3 B1 S1 => ?_
  refine IFB_dec (fun h => S1.res3 0 rfl fun w4 S4 => ⟨by simp [takeV, h, takenV], S4.below⟩) (fun h0 => IFB_dec (fun h => S1.res3 0 rfl fun w4 S4 => ⟨?_, S4.below⟩) (fun h1 => ?_))
  · unfold takeV
    rw [if_pos (.inr h)]
    rfl
  obtain ⟨at_, rfl⟩ : ∃ k : Nat, at_ = k := ⟨at_.toNat, by omega⟩
  have hat : at_ < l.length := by omega
  refine ⟨⟨by omega, by omega⟩, ?_⟩
  obtain ⟨p, hp, hcell⟩ := byte_at (hl.grown B1) hat
  subst hp
  have hg := byte_getD hat
  have hcc := l[at_].toNat_lt
  refine ⟨_, by rw [Int.toNat_natCast]; exact hcell, S1.lit3 fun b12 w11 hb12 B11 S11 => ?_⟩
  have hl11 : Rd w11 (some p) (l.map byteV) := hl.grown S11.below
  rw [wrap_i64 (n := (l[at_].toNat : Int)) (by omega) (by omega)] at S11
  have ew : IntKind.i64.wrap ((at_ : Int) + 1) = ((at_ + 1 : Nat) : Int) := by rw [wrap_i64 (by omega) (by omega)]; omega
  rw [ew]
  have ht : takeV l (at_ : Int) = (if l[at_].toNat = 0 then some ((0, 0, E0), at_ + 1)
      else if l[at_].toNat = 1 then (takeN l ((at_ + 1 : Nat) : Int)).map fun x => ((1, unzig x.1, E0), x.2)
      else if l[at_].toNat = 2 then (if (at_ : Int) + 1 < l.length ∧ (l.getD (at_ + 1) 0).toNat ≤ 1 then some ((2, ((l.getD (at_ + 1) 0).toNat : Int), E0), at_ + 2) else none)
      else if l[at_].toNat = 3 then (takeT l ((at_ + 1 : Nat) : Int) 1024).map fun x => ((3, 0, sof x.1), x.2)
      else none) := by
    unfold takeV
    rw [if_neg (by omega), Int.toNat_natCast, hg, show (at_ : Int) + 1 = ((at_ + 1 : Nat) : Int) by omega]
  generalize hkk : l[at_].toNat = kk at ht S11 hcc
  refine ⟨fun s w18 => ∃ (nx e : Int) (v : Val), s = [.int .i64 nx, .int .i64 e] ∧ SH (fun _ => False) w w18 [(b12, #[.int .i64 v.1, .int .i64 v.2.1, .string v.2.2], 23), (b3, #[.int .i64 0, .int .i64 0, .string E0], 23)] ∧
      (e ≠ 0 → e = 20 ∧ takeV l (at_ : Int) = none) ∧ (e = 0 → ∃ k : Nat, nx = k ∧ takeV l (at_ : Int) = some (v, k)), ?_, ?_⟩
  · refine ⟨_, S11.cell 0 rfl rfl, IFB_eq (fun h => ?_) (fun n0 => IFB_eq (fun h => ?_) (fun n1 => IFB_eq (fun h => ?_) (fun n2 => IFB_eq (fun h => ?_) (fun n3 => ?_))))⟩
    · have : kk = 0 := by omega
      subst this
      exact ⟨_, _, (0, 0, E0), rfl, S11, fun h => absurd rfl h, fun _ => ⟨at_ + 1, rfl, by rw [ht]; simp⟩⟩
    · have : kk = 1 := by omega
      subst this
      refine (ref_TakeSigned_ok hl11 hs _ (by omega)).mono ?_
      rintro _ w11 ⟨_, rfl, rfl, rfl⟩
      cases ho : takeN l ((at_ + 1 : Nat) : Int) with
      | none =>
        exact ⟨_, _, _, rfl, S11.sto 0 rfl (show 1 < 3 by decide) fun w13 S13 => ⟨_, _, (1, 0, E0), rfl, S13, fun _ => ⟨rfl, by rw [ht, ho]; simp⟩, fun h => absurd h (by decide)⟩⟩
      | some x =>
        obtain ⟨n, k⟩ := x
        exact ⟨_, _, _, rfl, S11.sto 0 rfl (show 1 < 3 by decide) fun w13 S13 => ⟨_, _, (1, unzig n, E0), rfl, S13, fun h => absurd rfl h, fun _ => ⟨k, rfl, by rw [ht, ho]; simp⟩⟩⟩
    · have : kk = 2 := by omega
      subst this
      have no : ¬ ((at_ : Int) + 1 < l.length ∧ (l.getD (at_ + 1) 0).toNat ≤ 1) → takeV l (at_ : Int) = none := by
        intro hn
        rw [ht]
        simp only [if_neg (show ¬ (2 : Nat) = 0 by decide), if_neg (show ¬ (2 : Nat) = 1 by decide), if_true]
        rw [if_neg hn]
      refine IFB_dec (fun h => S11.res3 1 rfl fun w4 S4 => ⟨by rw [no (by omega)]; rfl, S4.below⟩) (fun h => ⟨⟨by omega, by omega⟩, ?_⟩)
      have hat2 : at_ + 1 < l.length := by omega
      obtain ⟨p', hp', hcell2⟩ := byte_at hl11 hat2
      cases hp'
      have hg2 := byte_getD hat2
      have hcc2 := l[at_ + 1].toNat_lt
      refine ⟨_, by rw [Int.toNat_natCast]; exact hcell2, IFB_dec (fun h => S11.res3 1 rfl fun w4 S4 => ⟨by rw [no (by rw [hg2]; omega)]; rfl, S4.below⟩) (fun h => ⟨⟨by omega, by omega⟩, _, by rw [Int.toNat_natCast]; exact hcell2, ?_⟩)⟩
      rw [wrap_i64 (n := (l[at_ + 1].toNat : Int)) (by omega) (by omega), wrap_i64 (n := ((at_ + 1 : Nat) : Int) + 1) (by omega) (by omega)]
      refine S11.sto 0 rfl (show 1 < 3 by decide) fun w13 S13 => ⟨_, _, (2, (l[at_ + 1].toNat : Int), E0), rfl, S13, fun h => absurd rfl h, fun _ => ⟨at_ + 2, by omega, ?_⟩⟩
      rw [ht]
      simp only [if_neg (show ¬ (2 : Nat) = 0 by decide), if_neg (show ¬ (2 : Nat) = 1 by decide), if_true]
      rw [if_pos ⟨by omega, by rw [hg2]; omega⟩, hg2]
    · have : kk = 3 := by omega
      subst this
      refine (ref_TakeText_ok hl11 hc hcm hs _ (by omega) 1024).mono ?_
      rintro _ w11 ⟨_, rfl, rfl, rfl⟩
      cases ho : takeT l ((at_ + 1 : Nat) : Int) 1024 with
      | none =>
        exact ⟨_, _, _, rfl, S11.sto 0 rfl (show 2 < 3 by decide) fun w13 S13 => ⟨_, _, (3, 0, E0), rfl, S13, fun _ => ⟨rfl, by rw [ht, ho]; simp⟩, fun h => absurd h (by decide)⟩⟩
      | some x =>
        obtain ⟨s, k⟩ := x
        exact ⟨_, _, _, rfl, S11.sto 0 rfl (show 2 < 3 by decide) fun w13 S13 => ⟨_, _, (3, 0, sof s), rfl, S13, fun h => absurd rfl h, fun _ => ⟨k, rfl, by rw [ht, ho]; simp⟩⟩⟩
    · have hno : takeV l (at_ : Int) = none := by rw [ht, if_neg (by omega), if_neg (by omega), if_neg (by omega), if_neg (by omega)]
      exact S11.res3 1 rfl fun w4 S4 => ⟨by rw [hno]; rfl, S4.below⟩
  · rintro _ _ w18 ⟨nx, e, v, hs', S18, g1, g2⟩
    cases hs'
    refine IFB_ne (fun h => S18.res3 1 rfl fun w4 S4 => ⟨by rw [(g1 h).2, (g1 h).1]; rfl, S4.below⟩) (fun h => S18.v3 0 rfl (S18.res3 1 rfl fun w4 S4 => ⟨?_, S4.below⟩))
    obtain ⟨k, rfl, hk⟩ := g2 h
    rw [hk]
    rfl
end
end Go.Proofs.YtpaajmaecjjfjaaDoor
