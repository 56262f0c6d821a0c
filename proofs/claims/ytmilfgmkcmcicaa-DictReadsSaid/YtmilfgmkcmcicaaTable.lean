/-
  The texts that form 1 says, read loosely: both sides.
-/
import Derived.Test.YtmilfgmkcmcicaaDecLaw
namespace Go.Proofs.Ytmilfgmkcmcicaa
open Go.Dn Go.Proofs
open Go.RowKit (Below)
set_option linter.unusedVariables false
set_option maxRecDepth 20000
theorem enters_taker : enters Try.prog f.dict_taker_c1 = true := by kernel_rfl
theorem num_some {x : Nat × Nat} : numV (some x) = .tuple #[.int .u64 (x.1 : Int), .int .i64 (x.2 : Int), .int .i64 0] := rfl
theorem tabB_take {many : Nat} {ts : List (List UInt8)} {xs : List Nat} {i : Nat} (hi : i < xs.length) : (xs.take (i + 1)).map (fun p => ts.getD p []) = (xs.take i).map (fun p => ts.getD p []) ++ [ts.getD xs[i] []] := by
  rw [List.take_succ_eq_append_getElem hi, List.map_append]
  rfl
theorem drop_rd {w : World} {a : Option Addr} {c q : Nat} {l : List UInt8} (hl : Rd w a (l.map byteV)) (hc : l.length ≤ c) : Rd w (SLA a q c 1) ((l.drop q).map byteV) := by
  have h := hl.sla q l.length c 1 hc
  rw [Nat.mul_one, Nat.mul_one, ← List.map_drop] at h
  have e : ((l.drop q).map byteV).take (l.length - q) = (l.drop q).map byteV := List.take_of_length_le (by simp)
  rwa [e] at h
section
variable {w : World} {a : Option Addr} {c : Nat} {l : List UInt8}
theorem fromTable_ok (hl : Rd w a (l.map byteV)) (hc : l.length ≤ c) (hs : l.length ≤ 9223372036854775807) {n : Nat} (hn : n ≤ 4096) :
    Calls Try.prog f.dict_fromTable #[.slice a l.length c, .int .i64 (n : Int)] w (Ret fun v w' => ∃ (ms : List (List UInt8)) (a' : Option Addr) (c' : Nat) (ok : Bool), v = .tuple #[.slice a' ms.length c', .bool ok] ∧ Rd w' a' (strs ms) ∧ Below w.heap.size w w' ∧
      ((ok = false ∧ tableL l n = none) ∨ (ok = true ∧ tableL l n = some ms))) := by
  apply R.dict_fromTable_calls
  unfold R.dict_fromTable
  have bad : ∀ {w' : World}, Below w.heap.size w w' → tableL l n = none → ∃ (ms : List (List UInt8)) (a' : Option Addr) (c' : Nat) (ok : Bool), (Value.tuple #[.slice none 0 0, .bool false]) = .tuple #[.slice a' ms.length c', .bool ok] ∧ Rd w' a' (strs ms) ∧ Below w.heap.size w w' ∧
      ((ok = false ∧ tableL l n = none) ∨ (ok = true ∧ tableL l n = some ms)) := fun hb ht => ⟨[], none, 0, false, rfl, Rd.nil _ _, hb, .inl ⟨rfl, ht⟩⟩
  refine (wire_TakeNumber_ok hl hc hs 1).mono ?_
  rintro _ w ⟨_, rfl, rfl, rfl⟩
  cases hx : takeN l 1 with
  | none => exact ⟨_, _, _, rfl, IFB_ne (fun _ => bad (.refl _ _) (by simp [tableL, hx])) (fun h => absurd h (by decide))⟩
  | some x =>
  have hxb := takeN_bounds (n := x.1) (k := x.2) hx
  rw [num_some]
  rw [wrap_u64_id (n := (n : Int)) (by omega) (by omega)]
  refine ⟨_, _, _, rfl, IFB_ne (fun h => absurd rfl h) (fun _ => IFB_dec (fun h => bad (.refl _ _) ?_) (fun hmany => ?_))⟩
  · simp only [tableL, hx, Option.bind_some]
    rw [if_pos (by omega)]
  have hm : ¬ n < x.1 := by omega
  refine (dict_taker_ok (x.2 : Int)).mono ?_
  rintro _ w2 ⟨_, rfl, b1, b2, rfl, S2⟩
  refine ⟨_, _, _, rfl, ?_⟩
  rw [enters_taker]
  refine (taker_c1_ok (n := x.1) S2 hl hc hs (by omega)).mono ?_
  rintro _ w3 ⟨_, rfl, hM, B3⟩
  unfold ManyV at hM
  cases hy : takeMany l x.2 x.1 with
  | none =>
    rw [hy] at hM
    subst hM
    refine ⟨_, _, _, _, _, rfl, IFB_true (bad B3 ?_)⟩
    simp only [tableL, hx, hy, Option.bind_some, Option.bind_none]
    rw [if_neg hm]
  | some y =>
  rw [hy] at hM
  obtain ⟨ta, tc, rfl, hR3⟩ := hM
  have hylen := takeMany_len hy
  have hyle := takeMany_le hy (by omega)
  refine ⟨_, _, _, _, _, rfl, IFB_false (IFB_dec (fun h => bad B3 ?_) (fun hlt => ?_))⟩
  · simp only [tableL, hx, hy, Option.bind_some]
    rw [if_neg hm, if_pos (by omega)]
  have hj : y.2 < l.length := by omega
  refine (SH.start (fun _ => False) w3).drawB fun w4 B4 _ => ?_
  have C4 := below_trans B3 B4
  rw [wrap_i64 (n := (y.2 : Int) + 1) (by omega) (by omega), show ((y.2 : Int) + 1).toNat = y.2 + 1 by omega]
  refine ⟨⟨by omega, by omega, by omega⟩, ⟨by omega, by omega⟩, ?_⟩
  have hdr := drop_rd (q := y.2 + 1) (hl.grown C4) hc
  obtain ⟨p, rfl, hcell⟩ := byte_at (hl.grown C4) hj
  refine ⟨_, by rw [Int.toNat_natCast]; exact hcell, ?_⟩
  have hbt := (l[y.2]).toNat_lt
  rw [wrap_i64 (n := (l[y.2].toNat : Int)) (by omega) (by omega), ← List.length_drop (i := y.2 + 1) (l := l)]
  refine (pack_Unpack_ok hdr (n : Int) (l[y.2].toNat : Int) (by rw [List.length_drop]; omega)).mono ?_
  rintro _ w5 ⟨_, rfl, xs, xa, xc, e, rfl, hRx, B5, hxn, hcase⟩
  have C5 := below_trans C4 B5
  rw [Int.toNat_natCast, Int.toNat_natCast] at hcase
  have hg : l.getD y.2 0 = l[y.2] := getD_get hj
  refine ⟨_, _, _, _, rfl, ?_⟩
  have hxs4 : xs.length ≤ 4096 := by
    rcases hcase with ⟨_, _, rfl, _⟩ | ⟨_, rfl, _⟩
    · rw [unpackL_len]; exact hn
    · simp
  refine ⟨fun s w6 => ∃ (i : Nat) (oa : Option Addr) (oc : Nat), s = [.slice oa i oc, .int .i64 (i : Int)] ∧ i ≤ xs.length ∧ (∀ p ∈ xs.take i, p < x.1) ∧ Row w6 ty.string 1 oa i oc (strs ((xs.take i).map fun p => y.1.getD p [])) ∧ (∀ k, rowB oa = some k → w5.heap.size ≤ k) ∧ Below w5.heap.size w5 w6, fun s _ => match s with
      | [_, .int _ i] => xs.length - i.toNat
      | _ => 0, ⟨0, none, 0, rfl, by omega, by simp, Row.nil _ _ _, by simp [rowB], .refl _ _⟩, ?_⟩
  rintro oa i oc _ w6 ⟨_, _, _, hst, hi, hall, R6, N6, B6⟩
  cases hst
  have C6 := below_trans C5 B6
  refine IFB_dec (fun hlt2 => ⟨⟨by omega, hlt2⟩, ?_⟩) (fun hge => ?_)
  · have hix : i < xs.length := by omega
    obtain ⟨p2, rfl, hcx⟩ := num_at (hRx.grown B6) hix
    refine ⟨_, by rw [Int.toNat_natCast]; exact hcx, IFB_dec (fun hbig => ?_) (fun hsm => ?_)⟩
    · rcases hcase with ⟨h1, h2, rfl, rfl⟩ | ⟨_, rfl, _⟩
      · refine bad C6 ?_
        simp only [tableL, hx, hy, Option.bind_some, hg]
        rw [if_neg hm, if_neg (by omega), if_pos ⟨h1, h2⟩]
        unfold tabB
        rw [if_neg (fun h => by have := h _ (List.getElem_mem hix); omega)]
      · simp at hix
    · have hpx : xs[i] < x.1 := by omega
      have hpy : xs[i] < y.1.length := by omega
      refine ⟨⟨by omega, by omega⟩, ?_⟩
      have hsl : xs[i] < (y.1.map sof).length := by simpa using hpy
      obtain ⟨p3, rfl, hct⟩ := str_at (ls := y.1.map sof) (((hR3.grown B4).grown B5).grown B6) hsl
      refine ⟨_, by rw [Int.toNat_natCast]; exact hct, (SH.start (fun _ => False) w6).newB fun b7 w7 hb7 B7 S7 => ?_⟩
      have hgy : y.1.getD xs[i] [] = y.1[xs[i]] := by simp [hpy]
      have hsrc : Rd w7 (some ⟨b7, 0, none⟩) (strs [y.1.getD xs[i] []]) := by
        have := Rd.of_block0 (S7.get 0 rfl)
        rw [hgy]
        simpa [strs] using this
      have el : i = ((xs.take i).map fun p => y.1.getD p []).length := by simp; omega
      have R7 := R6.grown B7
      obtain ⟨u, hu⟩ : ∃ u, u = (xs.take i).map fun p => y.1.getD p [] := ⟨_, rfl⟩
      rw [← hu] at R7 el
      have hstep : (xs.take (i + 1)).map (fun p => y.1.getD p []) = u ++ [y.1.getD xs[i] []] := by rw [hu]; exact tabB_take (many := 0) hix
      have happ := @append_strs w7 oa oc u [y.1.getD xs[i] []] (by rw [← el]; exact R7) (some ⟨b7, 0, none⟩) 1 1 rfl hsrc (by rw [← el]; simp; omega)
      rw [← el] at happ
      refine happ fun a8 c8 w8 R8 K8 N8 => ⟨_, _, _, rfl, ?_⟩
      have el8 : (u ++ [y.1.getD xs[i] []]).length = i + 1 := by rw [List.length_append, ← el]; rfl
      rw [el8] at R8 ⊢
      rw [wrap_succ (by omega)]
      have B67 : Below w5.heap.size w5 w7 := B6.trans (B7.mono B6.size)
      refine ⟨⟨i + 1, a8, c8, rfl, by omega, ?_, by rw [hstep]; exact R8, fun k hk => ?_, B67.trans (K8.below B67.size fun k hk he => by have := N6 k he; omega)⟩, ?_⟩
      · intro q hq
        rw [List.take_succ_eq_append_getElem hix] at hq
        rcases List.mem_append.1 hq with h | h
        · exact hall q h
        · rw [List.mem_singleton.1 h]; exact hpx
      · rcases N8 k hk with h | h
        · exact N6 k h
        · exact Nat.le_trans B67.size h
      · simp only [Int.toNat_natCast]
        omega
  · have hie : xs.take i = xs := List.take_of_length_le (by omega)
    have hil : i = xs.length := by omega
    rw [hie] at hall R6
    have el : (xs.map fun p => y.1.getD p []).length = i := by simp [hil]
    refine ⟨xs.map fun p => y.1.getD p [], oa, oc, e == 0, by rw [el], R6.rd, C6, ?_⟩
    rcases hcase with ⟨h1, h2, rfl, rfl⟩ | ⟨hno, rfl, he⟩
    · refine .inr ⟨rfl, ?_⟩
      simp only [tableL, hx, hy, Option.bind_some, hg]
      rw [if_neg hm, if_neg (by omega), if_pos ⟨h1, h2⟩]
      unfold tabB
      rw [if_pos hall]
    · refine .inl ⟨?_, ?_⟩
      · rw [he]; split <;> rfl
      · simp only [tableL, hx, hy, Option.bind_some, hg]
        rw [if_neg hm, if_neg (by omega), if_neg hno]
theorem placed_ok (hl : Rd w a (l.map byteV)) (hc : l.length ≤ c) (hs : l.length ≤ 9223372036854775807) {n : Nat} (hn : n ≤ 4096) :
    Calls Try.prog f.ref07_placed #[.slice a l.length c, .int .i64 (n : Int)] w (Ret fun v w' => ∃ (a' : Option Addr) (c' : Nat), v = .slice a' ((tableL l n).getD []).length c' ∧ Rd w' a' (strs ((tableL l n).getD [])) ∧ Below w.heap.size w w') := by
  apply R.ref07_placed_calls
  unfold R.ref07_placed
  have bad : ∀ {w' : World}, Below w.heap.size w w' → tableL l n = none → ∃ (a' : Option Addr) (c' : Nat), (Value.slice none 0 0) = .slice a' ((tableL l n).getD []).length c' ∧ Rd w' a' (strs ((tableL l n).getD [])) ∧ Below w.heap.size w w' := fun hb ht => ⟨none, 0, by rw [ht]; rfl, by rw [ht]; exact Rd.nil _ _, hb⟩
  refine (ref_TakeNumber_ok hl hs 1 (by decide)).mono ?_
  rintro _ w ⟨_, rfl, rfl, rfl⟩
  cases hx : takeN l 1 with
  | none => exact ⟨_, _, _, rfl, IFB_ne (fun _ => bad (.refl _ _) (by simp [tableL, hx])) (fun h => absurd h (by decide))⟩
  | some x =>
  have hxb := takeN_bounds (n := x.1) (k := x.2) hx
  rw [num_some]
  rw [wrap_u64_id (n := (n : Int)) (by omega) (by omega)]
  refine ⟨_, _, _, rfl, IFB_ne (fun h => absurd rfl h) (fun _ => IFB_dec (fun h => bad (.refl _ _) ?_) (fun hmany => ?_))⟩
  · simp only [tableL, hx, Option.bind_some]
    rw [if_pos (by omega)]
  have hm : ¬ n < x.1 := by omega
  rw [wrap_i64 (n := (x.1 : Int)) (by omega) (by omega)]
  refine (ref_taken_ok (n := x.1) (at_ := x.2) hl hc hs (by omega) (by omega)).mono ?_
  rintro _ w3 ⟨_, rfl, hM, B3⟩
  unfold ManyV at hM
  cases hy : takeMany l x.2 x.1 with
  | none =>
    rw [hy] at hM
    subst hM
    refine ⟨_, _, _, _, _, rfl, IFB_true (bad B3 ?_)⟩
    simp only [tableL, hx, hy, Option.bind_some, Option.bind_none]
    rw [if_neg hm]
  | some y =>
  rw [hy] at hM
  obtain ⟨ta, tc, rfl, hR3⟩ := hM
  have hylen := takeMany_len hy
  have hyle := takeMany_le hy (by omega)
  refine ⟨_, _, _, _, _, rfl, IFB_false (IFB_dec (fun h => bad B3 ?_) (fun hlt => ?_))⟩
  · simp only [tableL, hx, hy, Option.bind_some]
    rw [if_neg hm, if_pos (by omega)]
  have hj : y.2 < l.length := by omega
  refine (SH.start (fun _ => False) w3).drawB fun w4 B4 _ => ?_
  have C4 := below_trans B3 B4
  rw [wrap_i64 (n := (y.2 : Int) + 1) (by omega) (by omega), show ((y.2 : Int) + 1).toNat = y.2 + 1 by omega]
  refine ⟨⟨by omega, by omega, by omega⟩, ⟨by omega, by omega⟩, ?_⟩
  have hdr := drop_rd (q := y.2 + 1) (hl.grown C4) hc
  obtain ⟨p, rfl, hcell⟩ := byte_at (hl.grown C4) hj
  refine ⟨_, by rw [Int.toNat_natCast]; exact hcell, ?_⟩
  have hbt := (l[y.2]).toNat_lt
  rw [wrap_i64 (n := (l[y.2].toNat : Int)) (by omega) (by omega), ← List.length_drop (i := y.2 + 1) (l := l)]
  refine (ref_Unpack_ok hdr (n : Int) (l[y.2].toNat : Int) (by rw [List.length_drop]; omega)).mono ?_
  rintro _ w5 ⟨_, rfl, xs, xa, xc, e, rfl, hRx, B5, hxn, hcase⟩
  have C5 := below_trans C4 B5
  rw [Int.toNat_natCast, Int.toNat_natCast] at hcase
  have hg : l.getD y.2 0 = l[y.2] := getD_get hj
  refine ⟨_, _, _, _, rfl, ?_⟩
  rcases hcase with ⟨h1, h2, rfl, rfl⟩ | ⟨hno, rfl, he⟩
  case inr =>
    refine IFB_ne (fun _ => bad C5 ?_) (fun h => by rw [he] at h; split at h <;> cases h)
    simp only [tableL, hx, hy, Option.bind_some, hg]
    rw [if_neg hm, if_neg (by omega), if_neg hno]
  refine IFB_ne (fun h => absurd rfl h) (fun _ => ?_)
  obtain ⟨xs, hxs⟩ : ∃ xs, xs = unpackL (l.drop (y.2 + 1)) n l[y.2].toNat := ⟨_, rfl⟩
  have hxl : xs.length = n := by rw [hxs, unpackL_len]
  have hval : tableL l n = tabB x.1 y.1 xs := by
    simp only [tableL, hx, hy, Option.bind_some, hg]
    rw [if_neg hm, if_neg (by omega), if_pos ⟨h1, h2⟩, hxs]
  rw [← hxs] at hRx ⊢
  refine ⟨fun s w6 => ∃ (i : Nat) (oa : Option Addr) (oc : Nat), s = [.slice oa i oc, .int .i64 (i : Int)] ∧ i ≤ xs.length ∧ (∀ p ∈ xs.take i, p < x.1) ∧ Row w6 ty.string 1 oa i oc (strs ((xs.take i).map fun p => y.1.getD p [])) ∧ (∀ k, rowB oa = some k → w5.heap.size ≤ k) ∧ Below w5.heap.size w5 w6, fun s _ => match s with
      | [_, .int _ i] => xs.length - i.toNat
      | _ => 0, ⟨0, none, 0, rfl, by omega, by simp, Row.nil _ _ _, by simp [rowB], .refl _ _⟩, ?_⟩
  rintro oa i oc _ w6 ⟨_, _, _, hst, hi, hall, R6, N6, B6⟩
  cases hst
  have C6 := below_trans C5 B6
  refine IFB_dec (fun hlt2 => ⟨⟨by omega, by omega⟩, ?_⟩) (fun hge => ?_)
  · have hix : i < xs.length := by omega
    obtain ⟨p2, rfl, hcx⟩ := num_at (hRx.grown B6) hix
    refine ⟨_, by rw [Int.toNat_natCast]; exact hcx, IFB_dec (fun hbig => ?_) (fun hsm => ?_)⟩
    · refine bad C6 ?_
      rw [hval]
      unfold tabB
      rw [if_neg (fun h => by have := h _ (List.getElem_mem hix); omega)]
    · have hpx : xs[i] < x.1 := by omega
      have hpy : xs[i] < y.1.length := by omega
      refine ⟨⟨by omega, by omega⟩, _, by rw [Int.toNat_natCast]; exact hcx, ⟨by omega, by omega⟩, ?_⟩
      have hsl : xs[i] < (y.1.map sof).length := by simpa using hpy
      obtain ⟨p3, rfl, hct⟩ := str_at (ls := y.1.map sof) (((hR3.grown B4).grown B5).grown B6) hsl
      refine ⟨_, by rw [Int.toNat_natCast]; exact hct, (SH.start (fun _ => False) w6).newB fun b7 w7 hb7 B7 S7 => ?_⟩
      have hgy : y.1.getD xs[i] [] = y.1[xs[i]] := by simp [hpy]
      have hsrc : Rd w7 (some ⟨b7, 0, none⟩) (strs [y.1.getD xs[i] []]) := by
        have := Rd.of_block0 (S7.get 0 rfl)
        rw [hgy]
        simpa [strs] using this
      have el : i = ((xs.take i).map fun p => y.1.getD p []).length := by simp; omega
      have R7 := R6.grown B7
      obtain ⟨u, hu⟩ : ∃ u, u = (xs.take i).map fun p => y.1.getD p [] := ⟨_, rfl⟩
      rw [← hu] at R7 el
      have hstep : (xs.take (i + 1)).map (fun p => y.1.getD p []) = u ++ [y.1.getD xs[i] []] := by rw [hu]; exact tabB_take (many := 0) hix
      have happ := @append_strs w7 oa oc u [y.1.getD xs[i] []] (by rw [← el]; exact R7) (some ⟨b7, 0, none⟩) 1 1 rfl hsrc (by rw [← el]; simp; omega)
      rw [← el] at happ
      refine happ fun a8 c8 w8 R8 K8 N8 => ⟨_, _, _, rfl, ?_⟩
      have el8 : (u ++ [y.1.getD xs[i] []]).length = i + 1 := by rw [List.length_append, ← el]; rfl
      rw [el8] at R8 ⊢
      rw [wrap_succ (by omega)]
      have B67 : Below w5.heap.size w5 w7 := B6.trans (B7.mono B6.size)
      refine ⟨⟨i + 1, a8, c8, rfl, by omega, ?_, by rw [hstep]; exact R8, fun k hk => ?_, B67.trans (K8.below B67.size fun k hk he => by have := N6 k he; omega)⟩, ?_⟩
      · intro q hq
        rw [List.take_succ_eq_append_getElem hix] at hq
        rcases List.mem_append.1 hq with h | h
        · exact hall q h
        · rw [List.mem_singleton.1 h]; exact hpx
      · rcases N8 k hk with h | h
        · exact N6 k h
        · exact Nat.le_trans B67.size h
      · simp only [Int.toNat_natCast]
        omega
  · have hie : xs.take i = xs := List.take_of_length_le (by omega)
    have hil : i = xs.length := by omega
    rw [hie] at hall R6
    have el : (xs.map fun p => y.1.getD p []).length = i := by simp [hil]
    have hv : tableL l n = some (xs.map fun p => y.1.getD p []) := by
      rw [hval]
      unfold tabB
      rw [if_pos hall]
    rw [hv]
    exact ⟨oa, oc, by rw [Option.getD_some, el], R6.rd, C6⟩
end
end Go.Proofs.Ytmilfgmkcmcicaa
