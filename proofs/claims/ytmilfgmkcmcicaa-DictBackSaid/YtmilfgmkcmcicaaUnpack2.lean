/-
  Unpack: the document's way.
-/
import Derived.Test.YtmilfgmkcmcicaaUnpack
namespace Go.Proofs.Ytmilfgmkcmcicaa
open Go.Dn Go.Proofs
open Go.RowKit (Below)
set_option linter.unusedVariables false
set_option maxRecDepth 20000
theorem cast_mod2 (b : Bool) : ((b.toNat : Int) = 1) ↔ b = true := by cases b <;> decide
section
variable {w : World} {a : Option Addr} {c : Nat} {l : List UInt8}
theorem ref_Unpack_ok (hl : Rd w a (l.map byteV)) (n wd : Int) (hs : l.length ≤ 9223372036854775807) :
    Calls Try.prog f.ref01_Unpack #[.slice a l.length c, .int .i64 n, .int .i64 wd] w (Ret fun v w' => UnV l n wd w w' v) := by
  apply R.ref01_Unpack_calls
  unfold R.ref01_Unpack
  refine (ref_Size_ok w n wd).mono ?_
  rintro _ w ⟨_, rfl, rfl, rfl⟩
  by_cases harg : unArg n wd
  case neg =>
    rw [if_neg (by unfold unArg at harg; omega)]
    exact ⟨_, _, rfl, IFB_ne (fun _ => UnV.bad (.refl _ _) (fun h => harg h.1) (by rw [if_neg harg])) (fun h => absurd h (by decide))⟩
  obtain ⟨h1, h2, h3, h4⟩ := id harg
  obtain ⟨n, rfl⟩ : ∃ m : Nat, n = (m : Int) := ⟨n.toNat, by omega⟩
  obtain ⟨wd, rfl⟩ : ∃ m : Nat, wd = (m : Int) := ⟨wd.toNat, by omega⟩
  have hn : n ≤ 4096 := by omega
  have hw : wd ≤ 64 := by omega
  have hm : n * wd ≤ 4096 * 64 := Nat.mul_le_mul hn hw
  rw [if_pos ⟨by omega, by omega, by omega, by omega⟩]
  obtain ⟨m, hmd⟩ : ∃ m, m = sizeN n wd := ⟨_, rfl⟩
  have hmv : m = (n * wd + 7) / 8 := hmd
  have enw : ((n : Int) * (wd : Int)) = ((n * wd : Nat) : Int) := by norm_cast
  have em : ((n : Int) * (wd : Int) + 7) / 8 = (m : Int) := by rw [enw, hmv]; omega
  rw [em]
  refine ⟨_, _, rfl, IFB_ne (fun h => absurd rfl h) (fun _ => IFB_ne (fun h => ?_) (fun hlen => ?_))⟩
  · exact UnV.bad (.refl _ _) (fun hh => h (by have := hh.2.1; rw [this]; simp [hmd])) (by rw [if_pos harg])
  have hlen' : l.length = m := by omega
  refine make_new tU (l := (n : Int)) (c := (n : Int)) (by omega) (by omega) (by omega) (by omega) fun bo w2 hbo B2 hO2 => ?_
  rw [Int.toNat_natCast, rowU_zero (bitB l) wd n] at hO2
  rw [Int.toNat_natCast]
  refine ⟨_, _, _, rfl, ?_⟩
  have low : ∀ {w' : World}, Keeps (fun k => k = bo) w2 w' → Below w.heap.size w w' := fun K => B2.trans (K.below B2.size fun k hk h => by omega)
  refine ⟨fun s w3 => ∃ i : Nat, i ≤ n ∧ s = [.int .i64 (i : Int)] ∧ Keeps (fun k => k = bo) w2 w3 ∧ w3.heap[bo]? = some (.cells (rowU (bitB l) wd n (i * wd)) ty.uint64 (0, 0)), fun s _ => match s with
      | [.int _ i] => n - i.toNat
      | _ => 0, ⟨0, by omega, rfl, .refl _ _, by rw [Nat.zero_mul]; exact hO2⟩, ?_⟩
  rintro _ w3 ⟨i, hi, hs, K3, hO3⟩
  cases hs
  refine IFB_dec (fun hlt => ?_) (fun hge => ?_)
  · have hil : i < n := by omega
    refine ⟨fun s w5 => ∃ k : Nat, k ≤ wd ∧ s = [.int .i64 (k : Int)] ∧ Keeps (fun k => k = bo) w2 w5 ∧ w5.heap[bo]? = some (.cells (rowU (bitB l) wd n (i * wd + k)) ty.uint64 (0, 0)), fun s _ => match s with
        | [.int _ k] => wd - k.toNat
        | _ => 0, ⟨0, by omega, by simp, K3, hO3⟩, ?_⟩
    rintro _ w5 ⟨k, hk, hs, K5, hO5⟩
    cases hs
    refine IFB_dec (fun hlt2 => ?_) (fun hge2 => ?_)
    · have hkw : k < wd := by omega
      have hiw : i * wd + k < n * wd := by
        have : (i + 1) * wd ≤ n * wd := Nat.mul_le_mul_right _ hil
        rw [Nat.succ_mul] at this
        omega
      have hd1 : (i * wd + k) / wd = i := by
        rw [Nat.mul_comm, Nat.mul_add_div (by omega), Nat.div_eq_of_lt hkw, Nat.add_zero]
      have hd2 : (i * wd + k) % wd = k := by
        rw [Nat.mul_comm, Nat.mul_add_mod, Nat.mod_eq_of_lt hkw]
      obtain ⟨t, ht⟩ : ∃ t, t = i * wd + k := ⟨_, rfl⟩
      rw [← ht] at hO5 hiw hd1 hd2
      have et : IntKind.i64.wrap (IntKind.i64.wrap ((i : Int) * (wd : Int)) + (k : Int)) = (t : Int) := by
        have h1 : (i : Int) * (wd : Int) = ((i * wd : Nat) : Int) := by rw [Int.natCast_mul]
        rw [h1, ht]
        generalize i * wd = q at ht
        rw [wrap_i64 (n := (q : Int)) (by omega) (by omega), wrap_i64 (by omega) (by omega)]
        omega
      have ed : IntKind.i64.wrap (Int.tdiv (t : Int) 8) = ((t / 8 : Nat) : Int) := by
        rw [Int.tdiv_eq_ediv_of_nonneg (by omega), wrap_i64 (by omega) (by omega)]
        omega
      have er : Int.tmod (t : Int) 8 = ((t % 8 : Nat) : Int) := by
        rw [Int.tmod_eq_emod_of_nonneg (by omega)]
        omega
      rw [et, ed, er]
      have htm : t / 8 < l.length := by omega
      refine ⟨⟨by omega, by omega⟩, ?_⟩
      obtain ⟨p, rfl, hc⟩ := byte_at (hl.grown (low K5)) htm
      refine ⟨_, by rw [Int.toNat_natCast]; exact hc, by omega, ?_⟩
      rw [Int.toNat_natCast, bit_prog8 (l[t / 8]).toNat_lt (Nat.mod_lt _ (by omega)), wrap_succ (by omega)]
      have hbit : l[t / 8].toNat.testBit (t % 8) = bitB l t := by unfold bitB; rw [getD_get htm]
      rw [hbit]
      have hmu : ∀ wx : World, Keeps (fun k => k = bo) w2 wx → wx.heap[bo]? = some (.cells (rowU (bitB l) wd n (t + 1)) ty.uint64 (0, 0)) →
          ((∃ k' : Nat, k' ≤ wd ∧ [Value.int .i64 ((k + 1 : Nat) : Int)] = [.int .i64 (k' : Int)] ∧ Keeps (fun k => k = bo) w2 wx ∧ wx.heap[bo]? = some (.cells (rowU (bitB l) wd n (i * wd + k')) ty.uint64 (0, 0))) ∧ wd - ((k + 1 : Nat) : Int).toNat < wd - ((k : Nat) : Int).toNat) := by
        intro wx K hO
        refine ⟨⟨k + 1, by omega, rfl, K, by rw [← Nat.add_assoc, ← ht]; exact hO⟩, ?_⟩
        simp only [Int.toNat_natCast]
        omega
      refine IFB_eq (fun h1 => ?_) (fun h1 => ?_)
      · have hb1 : bitB l t = true := (cast_mod2 _).1 h1
        unfold DRAW
        have ea : (⟨bo, 0, none⟩ : Addr).add (i * 1) = ⟨bo, i, none⟩ := by rw [addr_add_blk]; simp
        refine ⟨⟨by omega, by omega⟩, ?_⟩
        rw [Int.toNat_natCast, Int.toNat_natCast]
        have hcell : w5.drew.cell? ((⟨bo, 0, none⟩ : Addr).add (i * 1)) = some (.int .u64 (stU (bitB l) wd t i : Int)) := by
          rw [ea]
          have : w5.drew.heap[bo]? = some (.cells (rowU (bitB l) wd n t) ty.uint64 (0, 0)) := hO5
          simp only [World.cell?, this]
          simpa using rowU_get hil
        refine ⟨by omega, _, hcell, ⟨by omega, by omega⟩, ?_⟩
        have esh := shl_bit64 (b := true) (s := k) (by omega)
        simp only [Bool.toNat_true, Nat.one_mul] at esh
        rw [show IntKind.u64.wrap (((1 : Nat) : Int)) = 1 from by decide] at esh
        rw [esh]
        have hsh : 2 ^ k < 2 ^ 64 := Nat.pow_lt_pow_right (by omega) (by omega)
        have hsu : stU (bitB l) wd t i < 18446744073709551616 := Nat.lt_of_lt_of_le (stU_lt _ (by omega) _ _) (Nat.pow_le_pow_right (n := 2) (by omega) hw)
        rw [or64 hsu hsh]
        have estep := stU_step (bitB l) wd t
        rw [hb1, hd1, hd2] at estep
        simp only [Bool.toNat_true, Nat.one_mul] at estep
        rw [estep]
        unfold PTR
        simp only
        rw [ea]
        refine sto_blk (show w5.drew.heap[bo]? = _ from hO5) (by rw [rowU_size]; exact hil) fun w7 K7 hO7 => ?_
        have hset := rowU_set (f := bitB l) (w := wd) (m := n) (t := t) _ rfl
        rw [hd1] at hset
        rw [hset] at hO7
        exact hmu w7 (K5.drew.trans K7 (fun k _ h => h)) hO7
      · have hb0 : bitB l t = false := by
          cases h : bitB l t
          · rfl
          · exact absurd ((cast_mod2 _).2 h) h1
        exact hmu w5 K5 (by rw [rowU_skip hb0]; exact hO5)
    · have : k = wd := by omega
      subst this
      rw [wrap_succ (by omega)]
      refine ⟨⟨i + 1, by omega, rfl, K5, by rw [Nat.succ_mul]; exact hO5⟩, ?_⟩
      simp only [Int.toNat_natCast]
      omega
  · have : i = n := by omega
    subst this
    have B3 := low K3
    have hr3 : Rd w3 (some ⟨bo, 0, none⟩) ((unpackL l i wd).map u64V) := by
      have := Rd.of_block0 hO3
      rwa [rowU_end] at this
    have hul := unpackL_len l i wd
    have hcall := ref_Pack_ok (c := i) hr3 (by omega) hw (unpackL_lt l i wd)
    rw [hul] at hcall
    refine hcall.mono ?_
    rintro _ w7 ⟨_, rfl, a7, c7, rfl, h7⟩
    have B7 := below_trans B3 h7.bel
    refine ⟨_, _, _, _, rfl, string_of_bytes tbytes rfl h7.rd ⟨_, rfl, string_of_bytes tbytes rfl (hl.grown B7) ⟨_, rfl, ?_⟩⟩⟩
    rw [bytesEq_iff]
    refine IFB_not (IFB_dec (fun he => ?_) (fun he => ?_))
    · refine ⟨unpackL l i wd, some ⟨bo, 0, none⟩, i, 0, by rw [hul], hr3.grown h7.bel, B7, (fun p hp => by cases hp; exact hbo), .inl ⟨harg, ⟨by simpa using (show l.length = sizeN i wd by omega), ?_⟩, rfl, rfl⟩⟩
      have := congrArg bl he
      rwa [bl_sof, bl_sof] at this
    · exact UnV.bad B7 (fun hh => he (by have := hh.2.2; simp only [Int.toNat_natCast] at this; rw [this])) (by rw [if_pos harg])
end
end Go.Proofs.Ytmilfgmkcmcicaa
