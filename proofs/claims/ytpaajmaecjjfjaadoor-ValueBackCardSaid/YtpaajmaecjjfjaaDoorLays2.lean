/-
  The document's bytes of a value; the law ValueLays.
-/
import Derived.Test.YtpaajmaecjjfjaaDoorLays
namespace Go.Proofs.YtpaajmaecjjfjaaDoor
open Go.Dn Go.Proofs
open Go.RowKit (Below)
set_option linter.unusedVariables false
set_option maxRecDepth 20000

/-- a row of one's own goes on: behind an append it is new memory still -/
theorem NewB.appended {w w1 w2 w3 : World} {l m : List UInt8} {a a' : Option Addr} {c c' : Nat} (h : NewB w w1 l a c) (hb : Below w1.heap.size w1 w2) (R : Row w3 ty.uint8 1 a' m.length c' (m.map byteV)) (K : Keeps (fun k => rowB a = some k) w2 w3) (N : ∀ k, rowB a' = some k → rowB a = some k ∨ w2.heap.size ≤ k) : NewB w w3 m a' c' := by
  have h2 := h.grown hb
  refine ⟨R, fun k hk => ?_, h2.bel.trans (K.below h2.bel.size fun k hk he => by have := h2.new k he; omega)⟩
  rcases N k hk with hh | hh
  · exact h2.new k hh
  · exact Nat.le_trans h2.bel.size hh

section
variable {w : World} {a : Option Addr} {c : Nat}
theorem ref_Number_ok (l : List UInt8) (hl : Rd w a (l.map byteV)) (n : Nat) (hn : n < 18446744073709551616) (hs : l.length + 10 ≤ 140737488355328) :
    Calls Tryd.prog f.ref02_Number #[.slice a l.length c, .int .u64 (n : Int)] w (Ret fun v w' => ∃ a c, v = .slice a (l ++ digitsL n).length c ∧ NewB w w' (l ++ digitsL n) a c) := by
  apply R.ref02_Number_calls
  unfold R.ref02_Number
  have e : IntKind.i64.wrap ((l.length : Int) + 10) = ((l.length + 10 : Nat) : Int) := by rw [wrap_i64 (by omega) (by omega)]; omega
  rw [e]
  refine make_row0 tB (by omega) (by omega) fun b w1 hb B1 R1 => ⟨_, _, _, rfl, ?_⟩
  refine append_bytes (l := []) R1 (hl.grown B1) (by simp; omega) fun a2 c2 w2 R2 K2 N2 => ⟨_, _, _, rfl, ?_⟩
  have h1 : NewB w w1 [] (some ⟨b, 0, none⟩) (l.length + 10) := ⟨R1, fun k hk => by simp [rowB] at hk; omega, B1⟩
  have h2 : NewB w w2 l a2 c2 := h1.appended (.refl _ _) R2 K2 N2
  refine ⟨fun s w3 => ∃ (m : Nat) (a : Option Addr) (c : Nat) (l' : List UInt8), s = [.int .u64 (m : Int), .slice a l'.length c] ∧ m < 18446744073709551616 ∧ l' ++ digitsL m = l ++ digitsL n ∧ NewB w w3 l' a c,
    fun s _ => match s with
      | [.int _ i, _] => i.toNat
      | _ => 0, ⟨n, a2, c2, l, rfl, hn, rfl, h2⟩, ?_⟩
  rintro _ a3 _ c3 w3 ⟨m, _, _, l', hs', hm, hl', h3⟩
  cases hs'
  have hlen : l'.length + 1 ≤ 140737488355328 := by
    have h4 := digitsL_len10 hn
    have h5 := congrArg List.length hl'
    have h6 := digitsL_pos m
    have h7 : 0 < (digitsL m).length := List.length_pos_iff.2 h6
    simp only [List.length_append] at h5
    omega
  refine IFB_dec (fun h => ?_) (fun h => ?_)
  · have e1 : IntKind.u8.wrap (IntKind.u8.wrap (Int.tmod (m : Int) 128) + 128) = ((m % 128 + 128 : Nat) : Int) := by
      rw [Int.tmod_eq_emod_of_nonneg (by omega), wrap_u8_id (n := (m : Int) % 128) (by omega) (by omega), wrap_u8_id (by omega) (by omega)]
      omega
    have e2 : IntKind.u64.wrap (Int.tdiv (m : Int) 128) = ((m / 128 : Nat) : Int) := by rw [Int.tdiv_eq_ediv_of_nonneg (by omega), wrap_u64_id (by omega) (by omega)]; omega
    rw [e1, e2]
    refine (SH.start (fun _ => False) w3).newB fun b13 w6 hb13 B6 S6 => ?_
    refine append_byte (h3.grown B6).row hlen (x := UInt8.ofNat (m % 128 + 128)) (byteV_of (by omega)) (S6.get 0 rfl) fun a7 c7 w7 R7 K7 N7 => ⟨_, _, _, rfl, ⟨m / 128, a7, c7, _, rfl, by omega, ?_, h3.appended B6 R7 K7 N7⟩, ?_⟩
    · rw [← hl']
      conv => rhs; rhs; unfold digitsL; rw [dif_neg (by omega)]
      simp
    · simp only [Int.toNat_natCast]
      omega
  · have hm0 : m < 128 := by omega
    rw [wrap_u8_id (n := (m : Int)) (by omega) (by omega)]
    refine (SH.start (fun _ => False) w3).newB fun b13 w6 hb13 B6 S6 => ?_
    refine append_byte (h3.grown B6).row hlen (x := UInt8.ofNat m) (byteV_of (by omega)) (S6.get 0 rfl) fun a7 c7 w7 R7 K7 N7 => ⟨_, _, _, rfl, ?_⟩
    have e : l' ++ [UInt8.ofNat m] = l ++ digitsL n := by rw [← hl']; conv => rhs; rhs; unfold digitsL; rw [dif_pos hm0]
    have h7 := h3.appended B6 R7 K7 N7
    rw [e] at h7 ⊢
    exact ⟨a7, c7, rfl, h7⟩
theorem ref_Zig_ok (n : Int) (h1 : -9223372036854775808 ≤ n) (h2 : n ≤ 9223372036854775807) : Calls Tryd.prog f.ref02_Zig #[.int .i64 n] w (Ret fun v w' => v = .int .u64 (zigN n : Int) ∧ w' = w) := by
  apply R.ref02_Zig_calls
  unfold R.ref02_Zig
  refine IFB_dec (fun h => ⟨?_, rfl⟩) (fun h => ⟨?_, rfl⟩)
  · rw [wrap_i64 (n := n + 1) (by omega) (by omega), wrap_i64 (n := 0 - (n + 1)) (by omega) (by omega), wrap_u64_id (n := 0 - (n + 1)) (by omega) (by omega), wrap_u64_id (n := 2 * (0 - (n + 1))) (by omega) (by omega), wrap_u64_id (by omega) (by omega)]
    unfold zigN
    rw [if_pos h]
    congr 1
    omega
  · rw [wrap_u64_id (n := n) (by omega) (by omega), wrap_u64_id (by omega) (by omega)]
    unfold zigN
    rw [if_neg h]
    congr 1
    omega
theorem ref_Signed_ok (l : List UInt8) (hl : Rd w a (l.map byteV)) (n : Int) (h1 : -9223372036854775808 ≤ n) (h2 : n ≤ 9223372036854775807) (hs : l.length + 10 ≤ 140737488355328) :
    Calls Tryd.prog f.ref02_Signed #[.slice a l.length c, .int .i64 n] w (Ret fun v w' => ∃ a c, v = .slice a (l ++ digitsL (zigN n)).length c ∧ NewB w w' (l ++ digitsL (zigN n)) a c) := by
  apply R.ref02_Signed_calls
  unfold R.ref02_Signed
  refine (ref_Zig_ok n h1 h2).mono ?_
  rintro _ w ⟨_, rfl, rfl, rfl⟩
  refine ⟨_, rfl, (ref_Number_ok l hl (zigN n) (zigN_lt h1 h2) hs).mono ?_⟩
  rintro _ w1 ⟨_, rfl, a1, c1, rfl, h⟩
  exact ⟨_, _, _, rfl, a1, c1, rfl, h⟩
theorem ref_Text_ok (l : List UInt8) (hl : Rd w a (l.map byteV)) (s : ByteArray) (hz : s.size ≤ 1048576) (hs : l.length + 10 + s.size ≤ 140737488355328) :
    Calls Tryd.prog f.ref02_Text #[.slice a l.length c, .string s] w (Ret fun v w' => ∃ a c, v = .tuple #[.slice a (l ++ textL s).length c, .int .i64 0] ∧ NewB w w' (l ++ textL s) a c) := by
  apply R.ref02_Text_calls
  unfold R.ref02_Text
  refine IFB_dec (fun h => by omega) (fun _ => ?_)
  rw [wrap_u64_id (by omega) (by omega)]
  refine (ref_Number_ok l hl s.size (by omega) (by omega)).mono ?_
  rintro _ w1 ⟨_, rfl, a1, c1, rfl, h1⟩
  have hd := digitsL_len10 (n := s.size) (by omega)
  refine ⟨_, _, _, rfl, append_text h1.row s (by simp only [List.length_append]; omega) fun a2 c2 w2 R2 K2 N2 => ⟨_, _, _, rfl, ?_⟩⟩
  have h2 := h1.appended (.refl _ _) R2 K2 N2
  have e : l ++ digitsL s.size ++ bl s = l ++ textL s := by rw [textL, List.append_assoc]
  rw [e] at h2 ⊢
  exact ⟨a2, c2, rfl, h2⟩

theorem ref_Lay_ok (l : List UInt8) (hl : Rd w a (l.map byteV)) (v : Val) (hv : ValOk v) (hs : l.length + 2000 ≤ 140737488355328) :
    Calls Tryd.prog f.ref04_Lay #[.slice a l.length c, valV v] w (Ret fun r w' => layV l v r w w') := by
  apply R.ref04_Lay_calls
  unfold R.ref04_Lay
  refine (SH.start (fun _ => True) w).newB fun b5 w1 hb5 B1 S1 => S1.v3 0 rfl ((ref_Right_ok w1 v).mono ?_)
  rintro _ w2 ⟨_, rfl, rfl, B2⟩
  have S2 := S1.grown B2
  have B2' := below_trans B1 B2
  refine ⟨_, rfl, IFB_not (IFB_of (fun hr => ?_) (fun hr => .inl ⟨hr, rfl, B2'⟩))⟩
  have hk := right_kind hr
  obtain ⟨kk, hkk, hkb⟩ : ∃ kk : Nat, v.1 = kk ∧ kk < 4 := ⟨v.1.toNat, by omega, by omega⟩
  have hkv : Value.int .u8 (IntKind.u8.wrap v.1) = byteV (UInt8.ofNat kk) := by rw [hkk, wrap_u8_id (by omega) (by omega)]; exact byteV_of (by omega)
  have e10 : IntKind.i64.wrap ((l.length : Int) + 1) = ((l.length + 1 : Nat) : Int) := by rw [wrap_i64 (by omega) (by omega)]; omega
  rw [e10]
  have hb5w : ∀ w', Below w2.heap.size w2 w' → b5 < w'.heap.size := fun w' hb => by
    have := S2.lt (List.mem_singleton.2 rfl)
    have := hb.size
    omega
  refine ⟨fun s w15 => ∃ (a : Option Addr) (c : Nat), s = [.slice a (l ++ [UInt8.ofNat kk]).length c] ∧ NewB w w15 (l ++ [UInt8.ofNat kk]) a c ∧ SH (fun _ => True) w w15 [(b5, #[.int .i64 v.1, .int .i64 v.2.1, .string v.2.2], 23)], ?_, ?_⟩
  · refine S2.drawB fun w3 B3 S3 => ⟨_, S3.cell 0 rfl rfl, ?_⟩
    have B3' := below_trans B2' B3
    have far : ∀ {w1 w2 : World} {ar : Option Addr}, SH (fun _ => True) w w1 [(b5, #[.int .i64 v.1, .int .i64 v.2.1, .string v.2.2], 23)] → Keeps (fun k => rowB ar = some k) w1 w2 → (∀ k, rowB ar = some k → w3.heap.size ≤ k) → SH (fun _ => True) w w2 [(b5, #[.int .i64 v.1, .int .i64 v.2.1, .string v.2.2], 23)] := by
      intro w1 w2 ar S K hr
      refine S.kept K (fun x hx he => ?_) (fun _ _ _ => trivial)
      simp only [List.mem_singleton] at hx
      subst hx
      have := hr _ he
      have := S3.lt (List.mem_singleton.2 rfl)
      simp only at *
      omega
    refine ⟨make_row0 tB (by omega) (by omega) fun b w4 hb B4 R4 => ⟨_, _, _, rfl, (S3.grown B4).cell 0 rfl rfl, ?_, ?_⟩, ?_⟩
    · have h4 : NewB w3 w4 [] (some ⟨b, 0, none⟩) (l.length + 1) := ⟨R4, fun k hk => by simp [rowB] at hk; omega, B4⟩
      refine append_bytes (l := []) R4 (hl.grown (below_trans B3' B4)) (by simp; omega) fun a5 c5 w5 R5 K5 N5 => ?_
      have h5 : NewB w3 w5 l a5 c5 := h4.appended (.refl _ _) R5 K5 N5
      have S5 := far (S3.grown B4) K5 h4.new
      refine ⟨_, _, _, rfl, S5.cell 0 rfl rfl, S5.newB fun b16 w6 hb16 B6 S6 => ?_⟩
      refine append_byte (h5.grown B6).row (by omega) hkv (S6.get 0 rfl) fun a7 c7 w7 R7 K7 N7 => ⟨_, _, _, rfl, a7, c7, rfl, (h5.appended B6 R7 K7 N7).before B3', far (S5.grown B6) K7 h5.new⟩
    · have h4 : NewB w3 w4 [] (some ⟨b, 0, none⟩) (l.length + 1) := ⟨R4, fun k hk => by simp [rowB] at hk; omega, B4⟩
      refine (S3.grown B4).newB fun b16 w8 hb16 B8 S8 => ?_
      refine append_bytes (l := []) (R4.grown B8) (hl.grown (below_trans (below_trans B3' B4) B8)) (by simp; omega) fun a5 c5 w9 R5 K5 N5 => ?_
      have h5 : NewB w3 w9 l a5 c5 := h4.appended B8 R5 K5 N5
      have S9 := far (S8.drop 1) K5 h4.new
      have hb16' : w9.heap[b16]? = some (.cells #[.int .u8 (IntKind.u8.wrap v.1)] 5 (0, 0)) := K5.at (S8.get 0 rfl) (fun he => by simp [rowB] at he; have := h4.row.lt (k := b) rfl; omega)
      refine ⟨_, _, _, rfl, append_byte h5.row (by omega) hkv hb16' fun a7 c7 w7 R7 K7 N7 => ⟨_, _, _, rfl, a7, c7, rfl, (h5.appended (.refl _ _) R7 K7 N7).before B3', far S9 K7 h5.new⟩⟩
    · refine S3.newB fun b16 w11 hb16 B11 S11 => make_row0 tB (by omega) (by omega) fun b w4 hb B4 R4 => ⟨_, _, _, rfl, ?_⟩
      have h4 : NewB w11 w4 [] (some ⟨b, 0, none⟩) (l.length + 1) := ⟨R4, fun k hk => by simp [rowB] at hk; omega, B4⟩
      have h4' : NewB w3 w4 [] (some ⟨b, 0, none⟩) (l.length + 1) := h4.before B11
      refine append_bytes (l := []) R4 (hl.grown (below_trans (below_trans B3' B11) B4)) (by simp; omega) fun a5 c5 w9 R5 K5 N5 => ?_
      have h5 : NewB w3 w9 l a5 c5 := h4'.appended (.refl _ _) R5 K5 N5
      have S9 := far ((S11.grown B4).drop 1) K5 h4'.new
      have hb16' : w9.heap[b16]? = some (.cells #[.int .u8 (IntKind.u8.wrap v.1)] 5 (0, 0)) := K5.at ((S11.grown B4).get 0 rfl) (fun he => by simp [rowB] at he; have := S11.lt List.mem_cons_self; simp only at this; omega)
      refine ⟨_, _, _, rfl, append_byte h5.row (by omega) hkv hb16' fun a7 c7 w7 R7 K7 N7 => ⟨_, _, _, rfl, a7, c7, rfl, (h5.appended (.refl _ _) R7 K7 N7).before B3', far S9 K7 h5.new⟩⟩
  rintro a5 _ c5 w5 ⟨_, _, hs', h5', S5⟩
  cases hs'
  refine ⟨_, S5.cell 0 rfl rfl, IFB_eq (fun h => ⟨_, S5.cell 0 rfl rfl, ?_⟩) (fun h1 => IFB_eq (fun h => ⟨_, S5.cell 0 rfl rfl, ?_⟩) (fun h2 => IFB_eq (fun h => ⟨_, S5.cell 0 rfl rfl, ?_⟩) (fun h3 => ?_)))⟩
  · refine (ref_Signed_ok _ h5'.rd v.2.1 hv.lo hv.hi (by simp; omega)).mono ?_
    rintro _ w6 ⟨_, rfl, a6, c6, rfl, h6⟩
    have e : (l ++ [UInt8.ofNat kk]) ++ digitsL (zigN v.2.1) = l ++ layL v := by
      have : kk = 1 := by omega
      subst this
      simp [layL, h]
    rw [e] at h6 ⊢
    exact ⟨_, _, _, rfl, .inr ⟨hr, a6, c6, rfl, h6.before h5'.bel⟩⟩
  · have hb01 : v.2.1 = 0 ∨ v.2.1 = 1 := by omega
    refine S5.newB fun b21 w7 hb21 B7 S7 => ?_
    refine append_byte (h5'.grown B7).row (by simp; omega) (x := UInt8.ofNat v.2.1.toNat) (by rw [wrap_u8_id (by omega) (by omega)]; rcases hb01 with h | h <;> rw [h] <;> rfl) (S7.get 0 rfl) fun a8 c8 w8 R8 K8 N8 => ⟨_, _, _, rfl, .inr ⟨hr, a8, c8, ?_⟩⟩
    have e : (l ++ [UInt8.ofNat kk]) ++ [UInt8.ofNat v.2.1.toNat] = l ++ layL v := by
      have : kk = 2 := by omega
      subst this
      simp [layL, h]
    have h8 := h5'.appended B7 R8 K8 N8
    rw [e] at h8 ⊢
    exact ⟨rfl, h8⟩
  · refine (ref_Text_ok _ h5'.rd v.2.2 (by omega) (by simp; omega)).mono ?_
    rintro _ w6 ⟨_, rfl, a6, c6, rfl, h6⟩
    have e : (l ++ [UInt8.ofNat kk]) ++ textL v.2.2 = l ++ layL v := by
      have : kk = 3 := by omega
      subst this
      simp [layL, h]
    rw [e] at h6 ⊢
    exact ⟨_, _, _, _, rfl, .inr ⟨hr, a6, c6, rfl, h6.before h5'.bel⟩⟩
  · have e : l ++ [UInt8.ofNat kk] = l ++ layL v := by
      have : kk = 0 := by omega
      subst this
      simp [layL, h1, h2, h3]
    have h6 := h5'
    rw [e] at h6
    refine .inr ⟨hr, a5, c5, ?_, h6⟩
    rw [← e]
end

/-- what Lay hands back, for a caller -/
def layR (b : List UInt8) (v : Val) : List UInt8 := if rightB v then b ++ layL v else []
def layE (v : Val) : Int := if rightB v then 0 else 2
theorem lay_open {b : List UInt8} {v : Val} {r : Value} {w w' : World} (h : layV b v r w w') : ∃ a c, r = .tuple #[.slice a (layR b v).length c, .int .i64 (layE v)] ∧ Rd w' a ((layR b v).map byteV) ∧ Below w.heap.size w w' := by
  rcases h with ⟨hr, rfl, hb⟩ | ⟨hr, a, c, rfl, h⟩
  · exact ⟨none, 0, by simp [layR, layE, hr], by simp [layR, hr, Rd.nil], hb⟩
  · exact ⟨a, c, by simp [layR, layE, hr], by simp only [layR, hr, if_true]; exact h.rd, h.bel⟩
theorem taken_open (o : Option (Val × Nat)) : ∃ (x : Val) (n e : Int), takenV o = .tuple #[.agg #[.int .i64 x.1, .int .i64 x.2.1, .string x.2.2], .int .i64 n, .int .i64 e] := by
  cases o with
  | none => exact ⟨(0, 0, E0), 0, 20, rfl⟩
  | some x => exact ⟨x.1, _, _, rfl⟩

/-- bytes among the arguments -/
def bytesOf (xs : List Int) : List UInt8 := xs.map fun x => UInt8.ofNat x.toNat
theorem bytes_arg {w : World} {a : Option Addr} {xs : List Int} {c : Nat} (g : GL w (intC .u8) (intQ .u8) a xs c) : Rd w a ((bytesOf xs).map byteV) := by
  have h := g.2.2.2.1
  have e : xs.flatMap (intC .u8) = (bytesOf xs).map byteV := by
    unfold intC bytesOf
    rw [flat1, List.map_map]
    apply List.map_congr_left
    intro x hx
    have hq := g.2.2.2.2 x hx
    have hx : 0 ≤ x ∧ x ≤ 255 := by simpa [intQ, Lit.wf, IntKind.min, IntKind.max, IntKind.signed, IntKind.bits] using hq
    simp only [Function.comp, byteV]
    congr 1
    simp
    omega
  rwa [e] at h
theorem bytesOf_len (xs : List Int) : (bytesOf xs).length = xs.length := by simp [bytesOf]

theorem ValueLays_ok {w : World} (he : Env w) (a : Option Addr) (xs : List Int) (c : Nat) (g : GL w (intC .u8) (intQ .u8) a xs c) (hz0 : c * Tryd.prog.bytesOf ty.uint8 ≤ reachBytes) (v : Val) (qv : valQ v) (at_ : Int) (wa : (Lit.int .i64 at_).wf = true) :
    Calls Tryd.prog f.law04_ValueLays #[.slice a xs.length c, valV v, .int .i64 at_] w (Ret fun r w' => r = .bool true ∧ Below w.heap.size w w') := by
  have hz : c ≤ 140737488351232 := by
    have e : Tryd.prog.bytesOf ty.uint8 = 1 := by kernel_rfl
    rw [e, Nat.mul_one] at hz0
    exact hz0
  have hl := bytes_arg g
  have hlen := bytesOf_len xs
  have hc := g.1
  rw [← hlen]
  rw [← hlen] at hc
  generalize bytesOf xs = l at hl hc
  apply R.law04_ValueLays_calls
  unfold R.law04_ValueLays
  refine (SH.start (fun _ => False) w).newB fun b6 w1 hb6 B1 S1 => (shown_ok (he.grown B1)).mono ?_
  rintro _ w2 ⟨_, rfl, rfl, B2⟩
  have S2 := S1.grown B2
  refine ⟨_, rfl, S2.v3 0 rfl ((value_Lay_ok l (hl.grown S2.below) v qv.1 (by omega)).mono ?_)⟩
  rintro _ w3 ⟨_, rfl, h3⟩
  obtain ⟨a3, c3, rfl, r3, B3⟩ := lay_open h3
  have S3 := S2.grown B3
  refine ⟨_, _, _, _, rfl, S3.v3 0 rfl ((ref_Lay_ok l (hl.grown S3.below) v qv.1 (by omega)).mono ?_)⟩
  rintro _ w4 ⟨_, rfl, h4⟩
  obtain ⟨a4, c4, rfl, r4, B4⟩ := lay_open h4
  have S4 := S3.grown B4
  refine ⟨_, _, _, _, rfl, (value_Take_ok (hl.grown S4.below) hc (by omega) (by omega) at_).mono ?_⟩
  rintro _ w5 ⟨_, rfl, rfl, B5⟩
  have S5 := S4.grown B5
  obtain ⟨x, n, e, hx⟩ := taken_open (takeV l at_)
  rw [hx]
  refine ⟨_, _, _, _, _, rfl, S5.lit3 fun b27 w9 hb27 B9 S9 => (ref_Take_ok (hl.grown S9.below) hc (by omega) (by omega) at_).mono ?_⟩
  rintro _ w10 ⟨_, rfl, rfl, B10⟩
  have S10 := S9.grown B10
  rw [hx]
  refine ⟨_, _, _, _, _, rfl, S10.lit3 fun b34 w14 hb34 B14 S14 => IFB_true ?_⟩
  have k3 : Below w3.heap.size w3 w14 := below_trans (below_trans (below_trans (below_trans B4 B5) B9) B10) B14
  have k4 : Below w4.heap.size w4 w14 := below_trans (below_trans (below_trans B5 B9) B10) B14
  refine string_of_bytes tbytes rfl (r3.grown k3) ⟨_, rfl, string_of_bytes tbytes rfl (r4.grown k4) ⟨_, rfl, ?_⟩⟩
  rw [bytesEq_iff]
  refine IFB_dec (fun _ => IFB_eq (fun _ => S14.v3 1 rfl (S14.v3 0 rfl ?_)) (fun h => absurd rfl h)) (fun h => absurd rfl h)
  rw [beq_str]
  simp only [BEq.rfl, decide_true, Bool.and_self]
  refine IFB_true (IFB_true ⟨?_, S14.below⟩)
  trivial
end Go.Proofs.YtpaajmaecjjfjaaDoor
