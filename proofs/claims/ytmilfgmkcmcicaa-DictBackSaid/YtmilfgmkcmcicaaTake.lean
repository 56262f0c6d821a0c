/-
  Texts taken from bytes: both sides.
-/
import Derived.Test.YtmilfgmkcmcicaaUnpack2
import Derived.Test.YtmilfgmkcmcicaaRefEnc2
namespace Go.Proofs.Ytmilfgmkcmcicaa
open Go.Dn Go.Proofs
open Go.RowKit (Below)
set_option linter.unusedVariables false
set_option maxRecDepth 20000

def takeMany (l : List UInt8) (at_ : Nat) : Nat → Option (List (List UInt8) × Nat)
  | 0 => some ([], at_)
  | k + 1 => match takeT l (at_ : Int) 1024 with
    | none => none
    | some x => (takeMany l x.2 k).map fun r => (x.1 :: r.1, r.2)
theorem takeT_le {l : List UInt8} {at_ : Int} {most : Nat} {s : List UInt8} {k : Nat} (h : takeT l at_ most = some (s, k)) : k ≤ l.length := by
  unfold takeT at h
  split at h
  · rename_i x hx
    have hb := takeN_bounds (n := x.1) (k := x.2) hx
    split at h
    · cases h
    · simp only [Option.some.injEq, Prod.mk.injEq] at h
      omega
  · cases h
theorem takeMany_len {l : List UInt8} : ∀ {n at_ : Nat} {r : List (List UInt8) × Nat}, takeMany l at_ n = some r → r.1.length = n
  | 0, _, _, h => by simp only [takeMany, Option.some.injEq] at h; subst h; rfl
  | n + 1, at_, r, h => by
    unfold takeMany at h
    split at h
    · cases h
    · obtain ⟨q, hq, rfl⟩ := Option.map_eq_some_iff.1 h
      simp [takeMany_len hq]
theorem takeMany_le {l : List UInt8} : ∀ {n at_ : Nat} {r : List (List UInt8) × Nat}, takeMany l at_ n = some r → at_ ≤ l.length → r.2 ≤ l.length
  | 0, _, _, h, ha => by simp only [takeMany, Option.some.injEq] at h; subst h; exact ha
  | n + 1, at_, r, h, ha => by
    unfold takeMany at h
    split at h
    · cases h
    · rename_i x hx
      obtain ⟨q, hq, rfl⟩ := Option.map_eq_some_iff.1 h
      exact takeMany_le (r := q) hq (takeT_le (s := x.1) (k := x.2) hx)
theorem takeMany_none {l : List UInt8} {at_ k : Nat} (hx : takeT l (at_ : Int) 1024 = none) : takeMany l at_ (k + 1) = none := by
  unfold takeMany
  rw [hx]
theorem takeMany_some {l : List UInt8} {at_ k : Nat} {x : List UInt8 × Nat} (hx : takeT l (at_ : Int) 1024 = some x) : takeMany l at_ (k + 1) = (takeMany l x.2 k).map fun r => (x.1 :: r.1, r.2) := by
  conv => lhs; unfold takeMany
  rw [hx]
/-- what taking so many texts hands back -/
def ManyV (l : List UInt8) (at_ n : Nat) (w' : World) (v : Value) : Prop :=
  match takeMany l at_ n with
  | none => v = .tuple #[.slice none 0 0, .int .i64 0, .bool false]
  | some r => ∃ a c, v = .tuple #[.slice a r.1.length c, .int .i64 (r.2 : Int), .bool true] ∧ Rd w' a (strs r.1)
theorem txt_some {x : List UInt8 × Nat} : txtV (some x) = .tuple #[.string (sof x.1), .int .i64 (x.2 : Int), .int .i64 0] := rfl
section
variable {w0 w : World} {a : Option Addr} {c : Nat} {l : List UInt8}
theorem dict_taker_ok (at_ : Int) : Calls Try.prog f.dict_taker #[.slice a l.length c, .int .i64 at_] w (Ret fun v w' => ∃ b1 b2, v = .func (.func f.dict_taker_c1) #[] #[.pointer (some ⟨b1, 0, none⟩), .pointer (some ⟨b2, 0, none⟩)] ∧
    SH (fun _ => False) w w' [(b2, #[.int .i64 at_], ty.int), (b1, #[.slice a l.length c], ty.L_uint8)]) := by
  apply R.dict_taker_calls
  unfold R.dict_taker
  exact (SH.start (fun _ => False) w).newB fun b1 w1 _ _ S1 => S1.newB fun b2 w2 _ _ S2 => ⟨b1, b2, rfl, S2⟩
theorem taker_c1_ok {b1 b2 at_ n : Nat} (S : SH (fun _ => False) w0 w [(b2, #[.int .i64 (at_ : Int)], ty.int), (b1, #[.slice a l.length c], ty.L_uint8)]) (hl : Rd w0 a (l.map byteV)) (hc : l.length ≤ c) (hs : l.length ≤ 9223372036854775807) (hn : n ≤ 4096) :
    Calls Try.prog f.dict_taker_c1 #[.int .u64 (n : Int), .pointer (some ⟨b1, 0, none⟩), .pointer (some ⟨b2, 0, none⟩)] w (Ret fun v w' => ManyV l at_ n w' v ∧ Below w0.heap.size w0 w') := by
  apply R.dict_taker_c1_calls
  unfold R.dict_taker_c1
  refine ⟨fun st w1 => ∃ (i : Nat) (ss : List (List UInt8)) (at2 : Nat) (oa : Option Addr) (oc : Nat), st = [.slice oa ss.length oc, .int .u64 (i : Int)] ∧ i = ss.length ∧ i ≤ n ∧ Row w1 ty.string 1 oa ss.length oc (strs ss) ∧
      SH (fun _ => False) w0 w1 [(b2, #[.int .i64 (at2 : Int)], ty.int), (b1, #[.slice a l.length c], ty.L_uint8)] ∧ (∀ k, rowB oa = some k → w0.heap.size ≤ k ∧ k ≠ b1 ∧ k ≠ b2) ∧
      takeMany l at_ n = (takeMany l at2 (n - i)).map fun r => (ss ++ r.1, r.2), fun s _ => match s with
      | [_, .int _ i] => n - i.toNat
      | _ => 0, ⟨0, [], at_, none, 0, rfl, rfl, by omega, Row.nil _ _ _, S, by simp [rowB], by simp⟩, ?_⟩
  rintro oa _ oc _ w1 ⟨i, ss, at2, _, _, hst, hi, hin, R1, S1, N1, hT⟩
  cases hst
  refine IFB_dec (fun hlt => ?_) (fun hge => ?_)
  · refine ⟨_, _, _, S1.cell 1 rfl rfl, _, S1.cell 0 rfl rfl, (wire_TakeText_any (hl.grown S1.below) hc hs (at2 : Int) 1024).mono ?_⟩
    rintro _ w3 ⟨_, rfl, rfl, rfl⟩
    have hstep : n - i = (n - (i + 1)) + 1 := by omega
    rw [hstep] at hT
    cases hx : takeT l (at2 : Int) 1024 with
    | none =>
      refine ⟨_, _, _, rfl, IFB_ne (fun _ => ⟨?_, S1.below⟩) (fun h => absurd h (by decide))⟩
      rw [takeMany_none hx] at hT
      unfold ManyV
      rw [hT]
      rfl
    | some x =>
      rw [takeMany_some hx] at hT
      refine ⟨_, _, _, rfl, IFB_ne (fun h => absurd rfl h) (fun _ => S1.newB fun b14 w4 hb14 B4 S4 => ?_)⟩
      have hsrc : Rd w4 (some ⟨b14, 0, none⟩) (strs [x.1]) := by
        have := Rd.of_block0 (S4.get 0 rfl)
        simpa [strs] using this
      have l1 := S1.lt (x := (b2, _, _)) (List.mem_cons_self ..)
      have l2 := S1.lt (x := (b1, _, _)) (List.mem_cons_of_mem _ (List.mem_cons_self ..))
      refine append_strs (u := [x.1]) (R1.grown B4) rfl hsrc (by simp; omega) fun a5 c5 w5 R5 K5 N5 => ⟨_, _, _, rfl, ?_⟩
      have S5 : SH (fun _ => False) w0 w5 [(b2, #[.int .i64 (at2 : Int)], ty.int), (b1, #[.slice a l.length c], ty.L_uint8)] := (S4.drop 1).kept K5 (by
        intro y hy hr
        simp only [List.drop_succ_cons, List.drop_zero, List.mem_cons, List.not_mem_nil, or_false] at hy
        rcases hy with rfl | rfl
        · exact (N1 _ hr).2.2 rfl
        · exact (N1 _ hr).2.1 rfl) (fun k hk hr => by have := (N1 _ hr).1; omega)
      have N5' : ∀ k, rowB a5 = some k → w0.heap.size ≤ k ∧ k ≠ b1 ∧ k ≠ b2 := by
        intro k hk
        have := B4.size
        rcases N5 k hk with h | h
        · exact N1 k h
        · have := S4.below.size
          exact ⟨by omega, by omega, by omega⟩
      refine S5.stoK 0 rfl (show 0 < 1 by decide) fun w6 K6 S6 => ?_
      have R6 := R5.keeps K6 fun k hk he => (N5' k hk).2.2 he
      rw [show IntKind.u64.wrap ((i : Int) + 1) = ((i + 1 : Nat) : Int) by rw [wrap_u64_id (by omega) (by omega)]; omega]
      refine ⟨⟨i + 1, ss ++ [x.1], x.2, a5, c5, rfl, by simp [hi], by omega, R6, S6, N5', ?_⟩, ?_⟩
      · rw [hT, Option.map_map]
        congr 1
        funext r
        simp
      · simp only [Int.toNat_natCast]
        omega
  · have hin' : i = n := by omega
    refine S1.drawB fun w2 B2 S2 => ⟨_, S2.cell 0 rfl rfl, ?_, S2.below⟩
    have : n - i = 0 := by omega
    rw [this] at hT
    unfold ManyV
    have e : takeMany l at_ n = some (ss, at2) := by rw [hT]; simp [takeMany]
    rw [e]
    exact ⟨oa, oc, rfl, (R1.grown B2).rd⟩
theorem ref_taken_ok {at_ n : Nat} (hl : Rd w a (l.map byteV)) (hc : l.length ≤ c) (hs : l.length ≤ 9223372036854775807) (hn : n ≤ 4096) (hat : at_ ≤ 9223372036854775807) :
    Calls Try.prog f.ref07_taken #[.slice a l.length c, .int .i64 (at_ : Int), .int .i64 (n : Int)] w (Ret fun v w' => ManyV l at_ n w' v ∧ Below w.heap.size w w') := by
  apply R.ref07_taken_calls
  unfold R.ref07_taken
  refine ⟨fun st w1 => ∃ (i : Nat) (ss : List (List UInt8)) (at2 : Nat) (oa : Option Addr) (oc : Nat), st = [.int .i64 (at2 : Int), .slice oa ss.length oc, .int .i64 (i : Int)] ∧ i = ss.length ∧ i ≤ n ∧ Row w1 ty.string 1 oa ss.length oc (strs ss) ∧
      Below w.heap.size w w1 ∧ (∀ k, rowB oa = some k → w.heap.size ≤ k) ∧ at2 ≤ 9223372036854775807 ∧
      takeMany l at_ n = (takeMany l at2 (n - i)).map fun r => (ss ++ r.1, r.2), fun s _ => match s with
      | [_, _, .int _ i] => n - i.toNat
      | _ => 0, ⟨0, [], at_, none, 0, rfl, rfl, by omega, Row.nil _ _ _, .refl _ _, by simp [rowB], hat, by simp⟩, ?_⟩
  rintro _ oa _ oc _ w1 ⟨i, ss, at2, _, _, hst, hi, hin, R1, B1, N1, hat2, hT⟩
  cases hst
  refine IFB_dec (fun hlt => ?_) (fun hge => ?_)
  · refine (ref_TakeText_ok (hl.grown B1) hc hs (at2 : Int) (by omega) 1024).mono ?_
    rintro _ w3 ⟨_, rfl, rfl, rfl⟩
    have hstep : n - i = (n - (i + 1)) + 1 := by omega
    rw [hstep] at hT
    cases hx : takeT l (at2 : Int) 1024 with
    | none =>
      refine ⟨_, _, _, rfl, IFB_ne (fun _ => ⟨?_, B1⟩) (fun h => absurd h (by decide))⟩
      rw [takeMany_none hx] at hT
      unfold ManyV
      rw [hT]
      rfl
    | some x =>
      rw [takeMany_some hx] at hT
      refine ⟨_, _, _, rfl, IFB_ne (fun h => absurd rfl h) (fun _ => (SH.start (fun _ => False) w3).newB fun b14 w4 hb14 B4 S4 => ?_)⟩
      have hsrc : Rd w4 (some ⟨b14, 0, none⟩) (strs [x.1]) := by
        have := Rd.of_block0 (S4.get 0 rfl)
        simpa [strs] using this
      refine append_strs (u := [x.1]) (R1.grown B4) rfl hsrc (by simp; omega) fun a5 c5 w5 R5 K5 N5 => ⟨_, _, _, rfl, ?_⟩
      have C4 := below_trans B1 B4
      have C5 : Below w.heap.size w w5 := C4.trans (K5.below C4.size fun k hk he => by have := N1 k he; omega)
      have N5' : ∀ k, rowB a5 = some k → w.heap.size ≤ k := by
        intro k hk
        rcases N5 k hk with h | h
        · exact N1 k h
        · have := C4.size
          omega
      have hle := takeT_le (s := x.1) (k := x.2) hx
      rw [wrap_succ (by omega)]
      refine ⟨⟨i + 1, ss ++ [x.1], x.2, a5, c5, rfl, by simp [hi], by omega, R5, C5, N5', by omega, ?_⟩, ?_⟩
      · rw [hT, Option.map_map]
        congr 1
        funext r
        simp
      · simp only [Int.toNat_natCast]
        omega
  · have hin' : i = n := by omega
    refine ⟨?_, B1⟩
    have : n - i = 0 := by omega
    rw [this] at hT
    unfold ManyV
    have e : takeMany l at_ n = some (ss, at2) := by rw [hT]; simp [takeMany]
    rw [e]
    exact ⟨oa, oc, rfl, R1.rd⟩
end
end Go.Proofs.Ytmilfgmkcmcicaa
