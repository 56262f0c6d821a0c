/-
  DictOnce: a list that goes on with its own texts grows by its places alone.
-/
import Derived.Test.YtmilfgmkcmcicaaWordsOk
namespace Go.Proofs.Ytmilfgmkcmcicaa
open Go.Dn Go.Proofs
open Go.RowKit (Below)
set_option linter.unusedVariables false
set_option maxRecDepth 20000

def cyc (ls : List ByteArray) (i : Nat) : List ByteArray := ls ++ (List.range i).map fun j => ls.getD (j % ls.length) ⟨#[]⟩
theorem cyc_len (ls : List ByteArray) (i : Nat) : (cyc ls i).length = ls.length + i := by simp [cyc]
theorem cyc_succ {ls : List ByteArray} {i : Nat} (h : i % ls.length < ls.length) : cyc ls (i + 1) = cyc ls i ++ [ls[i % ls.length]] := by
  simp [cyc, List.range_succ, h]
theorem cyc_mem {ls : List ByteArray} (hl : 0 < ls.length) (i : Nat) (s : ByteArray) : s ∈ cyc ls i ↔ s ∈ ls := by
  simp only [cyc, List.mem_append, List.mem_map, List.mem_range]
  constructor
  · rintro (h | ⟨j, _, rfl⟩)
    · exact h
    · have := Nat.mod_lt j hl
      simp [this]
  · exact .inl
theorem longB_mem {ls ms : List ByteArray} (h : ∀ s, s ∈ ms ↔ s ∈ ls) : longB ms = longB ls := by
  rw [Bool.eq_iff_iff]
  simp [longB, h]
theorem rise_mem {ls ms : List ByteArray} (h : ∀ s, s ∈ ms ↔ s ∈ ls) {t : List (List UInt8)} (ht : IsRise (ls.map bl) t) : IsRise (ms.map bl) t :=
  ⟨ht.up, fun x => by rw [ht.mem]; simp [h]⟩
theorem once_len {ls ms : List ByteArray} (h : ∀ s, s ∈ ms ↔ s ∈ ls) {n : Nat} (hn : ms.length = ls.length + n) (h1 : ls.length ≤ 1000) {a b : List UInt8} (ha : EncIs ls 1 a) (hb : EncIs ms 1 b) :
    b.length ≤ a.length + (10 * n + 7) / 8 ∧ a.length ≤ b.length := by
  cases ha with
  | table t w ht hw =>
  cases hb with
  | table u v hu hv =>
  obtain rfl := hu.one (rise_mem h ht)
  have htl : u.length ≤ ls.length := by
    have := nodup_len (lt_nodup ht.up) (fun x hx => (ht.mem x).1 hx)
    simpa using this
  have hx : ∀ x ∈ placesL u ls, x < 2 ^ 10 := by
    intro x hx
    obtain ⟨s, hs, rfl⟩ := List.mem_map.1 hx
    have : bl s ∈ u := (ht.mem _).2 (List.mem_map.2 ⟨s, hs, rfl⟩)
    have := List.idxOf_lt_length_of_mem this
    omega
  have hw10 : w ≤ 10 := hw.le.2 ((orL_lt _ _).2 hx)
  have hwv : v = w := by
    refine Nat.le_antisymm ?_ ?_
    · exact hv.le.2 ((orL_lt _ _).2 fun x hx => by
        obtain ⟨s, hs, rfl⟩ := List.mem_map.1 hx
        exact (orL_lt _ _).1 hw.1 _ (List.mem_map.2 ⟨s, (h s).1 hs, rfl⟩))
    · exact hw.le.2 ((orL_lt _ _).2 fun x hx => by
        obtain ⟨s, hs, rfl⟩ := List.mem_map.1 hx
        exact (orL_lt _ _).1 hv.1 _ (List.mem_map.2 ⟨s, (h s).2 hs, rfl⟩))
  subst hwv
  simp only [List.length_append, List.length_cons, packL_len]
  have e1 : (placesL u ms).length = ls.length + n := by simp [placesL, hn]
  have e2 : (placesL u ls).length = ls.length := by simp [placesL]
  have e3 : n * v ≤ n * 10 := Nat.mul_le_mul_left n hw10
  rw [e1, e2]
  unfold sizeN
  rw [Nat.add_mul]
  omega
theorem rem_ok {i n : Nat} (h : 0 < n) : Int.tmod (i : Int) (n : Int) = ((i % n : Nat) : Int) := by
  rw [Int.tmod_eq_emod_of_nonneg (by omega)]; norm_cast
theorem DictOnce_core {w : World} {a : Option Addr} {c : Nat} {ls : List ByteArray} (n : Int) (hl : Rd w a (ls.map Value.string)) (hn : ls.length ≤ 9223372036854775807) :
    Calls Try.prog f.law07_DictOnce #[.slice a ls.length c, .int .i64 n] w (Ret fun r w' => r = .bool true ∧ Below w.heap.size w w') := by
  apply R.law07_DictOnce_calls
  unfold R.law07_DictOnce
  refine (shown_ok w).mono ?_
  rintro _ w1 ⟨_, rfl, rfl, B1⟩
  have out : (Value.bool true = .bool true) ∧ Below w.heap.size w w1 := ⟨rfl, B1⟩
  refine ⟨_, rfl, IFB_dec (fun _ => out) (fun g1 => IFB_dec (fun _ => out) (fun g2 => IFB_dec (fun _ => out) (fun g3 => IFB_dec (fun _ => out) (fun g4 => ?_))))⟩
  clear out
  obtain ⟨m, rfl⟩ : ∃ m : Nat, n = (m : Int) := ⟨n.toNat, by omega⟩
  rw [wrap_i64 (by omega) (by omega)]
  refine make_row0 tS (c := ls.length + m) (by omega) (by omega) fun b2 w2 hb2 B2 R2 => ⟨_, _, _, rfl, ?_⟩
  have C2 := below_trans B1 B2
  refine append_strs (t := []) (u := ls.map bl) R2 (by simp) (by rw [strs_bl]; exact hl.grown C2) (by simp; omega) fun a3 c3 w3 R3 K3 N3 => ⟨_, _, _, rfl, ?_⟩
  rw [List.nil_append] at R3 ⊢
  have N3' : ∀ k, rowB a3 = some k → w1.heap.size ≤ k := fun k hk => by
    rcases N3 k hk with h | h
    · cases h; exact hb2
    · exact Nat.le_trans B2.size h
  have C3 : Below w1.heap.size w1 w3 := B2.trans (K3.below B2.size fun k hk he => by have e : b2 = k := Option.some.inj he; omega)
  refine ⟨fun s w4 => ∃ (i : Nat) (a4 : Option Addr) (c4 : Nat), s = [.slice a4 (ls.length + i) c4, .int .i64 (i : Int)] ∧ i ≤ m ∧ Row w4 ty.string 1 a4 (ls.length + i) c4 ((cyc ls i).map Value.string) ∧ (∀ k, rowB a4 = some k → w1.heap.size ≤ k) ∧ Below w1.heap.size w1 w4, fun s _ => match s with
      | [_, .int _ i] => m - i.toNat
      | _ => 0, ⟨0, a3, c3, by simp, by omega, ?_, N3', C3⟩, ?_⟩
  · have e : (ls.map bl).length = ls.length := by simp
    rw [strs_bl, e] at R3
    simpa [cyc] using R3
  rintro a4 _ c4 _ w4 ⟨i, _, _, hs, hi, R4, N4, C4⟩
  cases hs
  have C4' := below_trans B1 C4
  have hpos : 0 < ls.length := by omega
  refine IFB_dec (fun hlt => ⟨by omega, ?_⟩) (fun hge => ?_)
  · rw [rem_ok hpos]
    have hm := Nat.mod_lt i hpos
    refine ⟨⟨by omega, by omega⟩, ?_⟩
    obtain ⟨p, hp, hc⟩ := str_at (hl.grown C4') hm
    subst hp
    refine ⟨_, by rw [Int.toNat_natCast]; exact hc, (SH.start (fun _ => False) w4).newB fun b5 w5 hb5 B5 S5 => ?_⟩
    have e4 : ls.length + i = ((cyc ls i).map bl).length := by rw [List.length_map, cyc_len]
    have R5 := R4.grown B5
    rw [← strs_bl] at R5
    have hsrc : Rd w5 (some ⟨b5, 0, none⟩) (strs [bl ls[i % ls.length]]) := by
      have := Rd.of_block0 (S5.get 0 rfl)
      simpa [strs, sof_bl] using this
    rw [e4] at R5 ⊢
    refine append_strs (u := [bl ls[i % ls.length]]) R5 rfl hsrc (by simp [cyc_len]; omega) fun a6 c6 w6 R6 K6 N6 => ⟨_, _, _, rfl, ?_⟩
    have e6 : (cyc ls i).map bl ++ [bl ls[i % ls.length]] = (cyc ls (i + 1)).map bl := by rw [cyc_succ hm, List.map_append]; rfl
    have e7 : ((cyc ls (i + 1)).map bl).length = ls.length + (i + 1) := by rw [List.length_map, cyc_len]
    rw [e6] at R6 ⊢
    rw [wrap_succ (by omega)]
    have C5 : Below w1.heap.size w1 w5 := C4.trans (B5.mono C4.size)
    refine ⟨⟨i + 1, a6, c6, by rw [e7], by omega, by rw [strs_bl, e7] at R6; exact R6, fun k hk => ?_, C5.trans (K6.below C5.size fun k hk he => by have := N4 k he; omega)⟩, ?_⟩
    · rcases N6 k hk with h | h
      · exact N4 k h
      · exact Nat.le_trans C5.size h
    · simp only [Int.toNat_natCast]
      omega
  have him : i = m := by omega
  subst him
  refine (dict_Encode_ok 1 (hl.grown C4') hn).mono ?_
  rintro _ w7 ⟨_, rfl, h7⟩
  obtain ⟨bs, a7, c7, e7, rfl, _, B7, q7⟩ := enc_open h7
  rw [← cyc_len ls i]
  refine ⟨_, _, _, _, rfl, (dict_Encode_ok 1 (R4.rd.grown B7) (by rw [cyc_len]; omega)).mono ?_⟩
  rintro _ w8 ⟨_, rfl, h8⟩
  obtain ⟨cs, a8, c8, e8, rfl, _, B8, q8⟩ := enc_open h8
  have C8 := below_trans (below_trans C4' B7) B8
  have hmem := cyc_mem hpos i
  have hok : encOk 1 (cyc ls i) ↔ encOk 1 ls := by
    unfold encOk
    rw [longB_mem hmem, cyc_len]
    constructor
    · rintro ⟨x, y, z, u⟩; exact ⟨x, y, by omega, u⟩
    · rintro ⟨x, y, z, u⟩; exact ⟨x, y, by omega, u⟩
  have hcase : (encOk 1 ls ∧ EncIs ls 1 bs ∧ EncIs (cyc ls i) 1 cs ∧ e7 = 0 ∧ e8 = 0) ∨ (e7 = 2 ∧ e8 = 2) := by
    rcases q7 with ⟨k1, i1, z1⟩ | ⟨k1, _, z1⟩ <;> rcases q8 with ⟨k2, i2, z2⟩ | ⟨k2, _, z2⟩
    · exact .inl ⟨k1, i1, i2, z1, z2⟩
    · exact absurd (hok.2 k1) k2
    · exact absurd (hok.1 k2) k1
    · exact .inr ⟨z1, z2⟩
  refine ⟨_, _, _, _, rfl, fun s w9 => s = [.bool (e7 != 0)] ∧ w9 = w8, ?_, ?_⟩
  · rcases hcase with ⟨_, _, _, z1, z2⟩ | ⟨z1, z2⟩ <;> subst z1 z2
    · exact IFB_ne (fun h => absurd rfl h) (fun _ => ⟨rfl, rfl⟩)
    · exact IFB_ne (fun _ => ⟨rfl, rfl⟩) (fun h => absurd h (by decide))
  rintro _ w9 ⟨hs, rfl⟩
  cases hs
  rcases hcase with ⟨_, i1, i2, z1, z2⟩ | ⟨z1, z2⟩ <;> subst z1 z2
  · refine IFB_ne (fun h => absurd rfl h) (fun _ => IFB_true ⟨?_, C8⟩)
    obtain ⟨L1, L2⟩ := once_len hmem (cyc_len ls i) (by omega) i1 i2
    have b1 : (10 * i + 7) / 8 ≤ 4000 := by omega
    congr 1
    rw [decide_eq_true_eq, wrap_i64 (n := 10 * (i : Int)) (by omega) (by omega), wrap_i64 (n := 10 * (i : Int) + 7) (by omega) (by omega), Int.tdiv_eq_ediv_of_nonneg (by omega), wrap_i64 (n := (10 * (i : Int) + 7) / 8) (by omega) (by omega), wrap_i64 (by omega) (by omega)]
    omega
  · exact IFB_ne (fun _ => IFB_true ⟨rfl, C8⟩) (fun h => absurd h (by decide))
theorem DictOnce_ok (w : World) (a : Option Addr) (xs : List ByteArray) (c : Nat) (g : GL w strC strQ a xs c) (n : Int) :
    Calls Try.prog f.law07_DictOnce #[.slice a xs.length c, .int .i64 n] w (Ret fun r w' => r = .bool true ∧ Below w.heap.size w w') :=
  DictOnce_core n (strs_arg g) (len_arg g)
end Go.Proofs.Ytmilfgmkcmcicaa
