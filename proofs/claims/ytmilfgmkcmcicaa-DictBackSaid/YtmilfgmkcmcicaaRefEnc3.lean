/-
  Encode, by the document.
-/
import Derived.Test.YtmilfgmkcmcicaaRefEnc2
namespace Go.Proofs.Ytmilfgmkcmcicaa
open Go.Dn Go.Proofs
open Go.RowKit (Below)
set_option linter.unusedVariables false
set_option maxRecDepth 20000

theorem strs_bl (ls : List ByteArray) : strs (ls.map bl) = ls.map Value.string := by
  simp only [strs, List.map_map]
  apply List.map_congr_left
  intro s _
  simp [sof_bl]
theorem map_sof_bl (ls : List ByteArray) : (ls.map bl).map sof = ls := by
  rw [List.map_map]
  conv => rhs; rw [← List.map_id ls]
  apply List.map_congr_left
  intro s _
  simp [sof_bl]
/-- texts that are read, away from a row -/
structure Tx (w : World) (ba ta : Option Addr) (tx : List (List UInt8)) : Prop where
  rd : Rd w ta (strs tx)
  far : ∀ p, ta = some p → rowB ba = some p.block → tx = []
theorem Tx.lt {w : World} {ba ta : Option Addr} {tx : List (List UInt8)} (h : Tx w ba ta tx) {p : Addr} (hp : ta = some p) (hne : tx ≠ []) : p.block < w.heap.size := by
  cases tx with
  | nil => exact absurd rfl hne
  | cons x r =>
    obtain ⟨q, hq, hc⟩ := h.rd 0 (.string (sof x)) (by simp [strs])
    rw [hp] at hq
    cases hq
    have := World.block_lt_of_cell? _ _ hc
    rwa [addr_add_block] at this
theorem Tx.grown {w w' : World} {ba ta : Option Addr} {tx : List (List UInt8)} (h : Tx w ba ta tx) (hb : Below w.heap.size w w') : Tx w' ba ta tx := ⟨h.rd.grown hb, h.far⟩
theorem Tx.appended {w w' : World} {ba ba' ta : Option Addr} {tx : List (List UInt8)} (h : Tx w ba ta tx) (K : Keeps (fun k => rowB ba = some k) w w') (N : ∀ k, rowB ba' = some k → rowB ba = some k ∨ w.heap.size ≤ k) : Tx w' ba' ta tx := by
  by_cases hne : tx = []
  · subst hne
    exact ⟨Rd.nil _ _, fun _ _ _ => rfl⟩
  · refine ⟨h.rd.keeps K fun p hp hF => hne (h.far p hp hF), fun p hp hb => ?_⟩
    rcases N _ hb with h1 | h1
    · exact h.far p hp h1
    · have := h.lt hp hne
      omega
theorem Tx.fresh {w w' : World} {ba ta : Option Addr} {tx : List (List UInt8)} (hr : Rd w ta (strs tx)) (hb : Below w.heap.size w w') (hn : ∀ k, rowB ba = some k → w.heap.size ≤ k) : Tx w' ba ta tx := by
  by_cases hne : tx = []
  · subst hne
    exact ⟨Rd.nil _ _, fun _ _ _ => rfl⟩
  · refine ⟨hr.grown hb, fun p hp hk => ?_⟩
    have h1 := hn _ hk
    have h2 := (Tx.lt (ba := none) ⟨hr, by simp [rowB]⟩ hp hne : p.block < w.heap.size)
    omega

section
variable {w : World} {a : Option Addr} {c : Nat} {ls : List ByteArray}
theorem ref_Encode_ok (form : Int) (hl : Rd w a (ls.map Value.string)) (hn : ls.length ≤ 9223372036854775807) : Calls Try.prog f.ref07_Encode #[.int .i64 form, .slice a ls.length c] w (Ret fun v w' => EncV form ls w w' v) := by
  apply R.ref07_Encode_calls
  unfold R.ref07_Encode
  refine (ref_Right_ok hl hn).mono ?_
  rintro _ w ⟨_, rfl, rfl, rfl⟩
  have bad : ¬ encOk form ls → EncV form ls w w (.tuple #[.slice none 0 0, .int .i64 2]) := fun h => .inl ⟨h, rfl, .refl _ _⟩
  refine ⟨_, rfl, IFB_dec (fun h => bad fun hk => by have := hk.1; omega) (fun h1 => IFB_dec (fun h => bad fun hk => by have := hk.2.1; omega) (fun h2 => IFB_not (IFB_dec (fun hR => ?_) (fun h => bad fun hk => h hk.2.2))))⟩
  obtain ⟨hn4, hlong⟩ := hR
  have hok : encOk form ls := ⟨by omega, by omega, hn4, hlong⟩
  have hz := longB_false hlong
  rw [wrap_u8_id (by omega) (by omega)]
  refine (SH.start (fun _ => False) w).newB fun b5 w2 hb5 B2 S2 => ?_
  have hfb : Value.int .u8 form = byteV (UInt8.ofNat form.toNat) := by
    rcases (by omega : form = 0 ∨ form = 1) with rfl | rfl <;> rfl
  have hN2 : NewB w w2 [UInt8.ofNat form.toNat] (some ⟨b5, 0, none⟩) 1 := by
    refine ⟨⟨rfl, .inr ⟨b5, _, rfl, S2.get 0 rfl, by simp, by omega, rfl, ?_⟩⟩, fun k hk => ?_, B2⟩
    · simp [hfb]
    · cases hk; exact hb5
  refine ⟨fun st w5 => ∃ (hd : List UInt8) (ba : Option Addr) (bc : Nat) (tx : List (List UInt8)) (ta : Option Addr) (tc : Nat), st = [.slice ba hd.length bc, .slice ta tx.length tc] ∧ NewB w w5 hd ba bc ∧ Tx w5 ba ta tx ∧ hd.length ≤ 11 ∧ tx.length ≤ 4096 ∧ (∀ s ∈ tx.map sof, s.size ≤ 1024) ∧
      ((form = 0 ∧ hd = [0] ∧ tx = ls.map bl) ∨ (form = 1 ∧ IsRise (ls.map bl) tx ∧ hd = 1 :: digitsL tx.length)), ?_, ?_⟩
  · refine IFB_eq (fun hf => ?_) (fun hf => ?_)
    · subst hf
      refine (ref_rising_ok (hl.grown B2) hn4).mono ?_
      rintro _ w3 ⟨_, rfl, ta, tc, t, rfl, hr, hRd, B3⟩
      have htl : t.length ≤ ls.length := by
        have := nodup_len (lt_nodup hr.up) (fun x hx => (hr.mem x).1 hx)
        simpa using this
      have hN3 := hN2.grown B3
      refine ⟨_, _, _, rfl, ?_⟩
      rw [wrap_u64_id (by omega) (by omega)]
      refine (ref_Number_ok (c := 1) [1] hN3.rd t.length (by omega) (by simp)).mono ?_
      rintro _ w4 ⟨_, rfl, a4, c4, rfl, h4⟩
      refine ⟨_, _, _, rfl, [1] ++ digitsL t.length, a4, c4, t, ta, tc, rfl, h4.before hN3.bel, .fresh hRd h4.bel h4.new, ?_, by omega, ?_, .inr ⟨rfl, hr, rfl⟩⟩
      · have := digitsL_len10 (n := t.length) (by omega)
        simp
        omega
      · intro s hs
        obtain ⟨x, hx, rfl⟩ := List.mem_map.1 hs
        obtain ⟨s', hs', rfl⟩ := List.mem_map.1 ((hr.mem x).1 hx)
        rw [sof_bl]
        exact hz s' hs'
    · have hf0 : form = 0 := by omega
      subst hf0
      refine ⟨[0], some ⟨b5, 0, none⟩, 1, ls.map bl, a, c, by simp, hN2, .fresh (by rw [strs_bl]; exact hl) B2 (fun k hk => by cases hk; exact hb5), by simp, by simpa using hn4, by rw [map_sof_bl]; exact hz, .inl ⟨rfl, rfl, rfl⟩⟩
  rintro ba _ bc ta _ tc w5 ⟨hd, _, _, tx, _, _, hst, h5, T5, hhd, htx, htz, hcase⟩
  cases hst
  have l2 := laidL_len htz
  have hlT : (tx.map sof).length = tx.length := by simp
  refine ⟨fun s w6 => ∃ (i : Nat) (l : List UInt8) (ba' : Option Addr) (bc' : Nat), s = [.slice ba' l.length bc', .int .i64 (i : Int)] ∧ i ≤ tx.length ∧ l = hd ++ laidL ((tx.map sof).take i) ∧ NewB w w6 l ba' bc' ∧ Tx w6 ba' ta tx, fun s _ => match s with
      | [_, .int _ i] => tx.length - i.toNat
      | _ => 0, ⟨0, hd, _, _, rfl, by omega, by simp [laidL], h5, T5⟩, ?_⟩
  rintro ba' _ bc' _ w6 ⟨i, l, _, _, hs, hi, hli, h6, T6⟩
  cases hs
  have hll : l.length ≤ 11 + 4096 * 1034 := by
    have h1 : (laidL ((tx.map sof).take i)).length ≤ ((tx.map sof).take i).length * 1034 := laidL_len fun s hs => htz s (List.mem_of_mem_take hs)
    have h2 : ((tx.map sof).take i).length ≤ 4096 := by rw [List.length_take]; omega
    rw [hli, List.length_append]
    omega
  refine IFB_dec (fun hlt => ⟨⟨by omega, hlt⟩, ?_⟩) (fun hge => ?_)
  · have hil : i < (tx.map sof).length := by omega
    obtain ⟨p, hp, hc⟩ := str_at (ls := tx.map sof) T6.rd hil
    have hsz := htz _ (List.getElem_mem hil)
    subst hp
    refine ⟨_, by rw [Int.toNat_natCast]; exact hc, (ref_Text_ok (c := 0) [] (Rd.nil _ _) (tx.map sof)[i] (by omega) (by rw [List.length_nil]; omega)).mono ?_⟩
    rintro _ w7 ⟨_, rfl, a7, c7, rfl, h7⟩
    rw [List.nil_append] at h7 ⊢
    have htl := textL_len hsz
    refine ⟨_, _, _, _, rfl, append_bytes (h6.grown h7.bel).row h7.rd (by omega) fun a8 c8 w8 R8 K8 N8 => ⟨_, _, _, rfl, ?_⟩⟩
    rw [wrap_succ (by omega)]
    refine ⟨⟨i + 1, _, a8, c8, rfl, by omega, ?_, h6.appended h7.bel R8 K8 N8, (T6.grown h7.bel).appended K8 N8⟩, ?_⟩
    · rw [laidL_take hil, hli, List.append_assoc]
    · simp only [Int.toNat_natCast]
      omega
  have hie : i = tx.length := by omega
  rw [hie, ← hlT, List.take_length] at hli
  refine IFB_eq (fun hf => ?_) (fun hf => ?_)
  · rcases hcase with ⟨_, e1, e2⟩ | ⟨e1, _⟩
    · subst hf
      have el : l = 0 :: laidL ls := by rw [hli, e1, e2, map_sof_bl]; rfl
      subst el
      exact .inr ⟨hok, _, ba', bc', .plain, rfl, h6⟩
    · omega
  obtain ⟨hf1, hr, hhd2⟩ : form = 1 ∧ IsRise (ls.map bl) tx ∧ hd = 1 :: digitsL tx.length := by
    rcases hcase with ⟨e1, _⟩ | h
    · exact absurd e1 hf
    · exact h
  subst hf1
  refine ⟨fun s w9 => ∃ (kk : Nat) (pa : Option Addr) (pc : Nat), s = [.slice pa kk pc, .int .i64 (kk : Int)] ∧ kk ≤ ls.length ∧ Row w9 ty.uint64 1 pa kk pc ((placesL tx (ls.take kk)).map u64V) ∧ (∀ k, rowB pa = some k → w6.heap.size ≤ k) ∧ Below w6.heap.size w6 w9, fun s _ => match s with
      | [_, .int _ i] => ls.length - i.toNat
      | _ => 0, ⟨0, none, 0, rfl, by omega, Row.nil _ _ _, by simp [rowB], .refl _ _⟩, ?_⟩
  rintro pa kk pc _ w9 ⟨_, _, _, hs, hkl, hR9, hnw9, B9⟩
  cases hs
  have Bw9 : Below w.heap.size w w9 := h6.bel.trans (B9.mono h6.bel.size)
  refine IFB_dec (fun hlt => ⟨⟨by omega, hlt⟩, ?_⟩) (fun hge2 => ?_)
  · have hkl' : kk < ls.length := by omega
    obtain ⟨p, hp, hc⟩ := str_at (hl.grown Bw9) hkl'
    subst hp
    refine ⟨_, by rw [Int.toNat_natCast]; exact hc, (ref_place_ok (T6.rd.grown B9) (by omega) hr.up ls[kk]).mono ?_⟩
    rintro _ w10 ⟨_, rfl, lo, rfl, hP, B10⟩
    have hin : bl ls[kk] ∈ tx := (hr.mem _).2 (List.mem_map.2 ⟨_, List.getElem_mem hkl', rfl⟩)
    have hlo := hP.idx hr.up hin
    have hle := hP.le
    refine ⟨_, _, rfl, (SH.start (fun _ => False) w10).newB fun b31 w11 hb31 B11 S11 => ?_⟩
    rw [wrap_u64_id (by omega) (by omega)] at S11
    have hsrc : Rd w11 (some ⟨b31, 0, none⟩) [u64V (tx.idxOf (bl ls[kk]))] := by
      have := Rd.of_block0 (S11.get 0 rfl)
      rw [hlo]
      simpa [u64V] using this
    obtain ⟨a5, c5, w12, hrun, hrow, hk5, hnw⟩ := append_row (ty := ty.L_uint64) (mc := 1) tU rfl (by omega) (by omega) ((hR9.grown B10).grown B11) hsrc (m := 1) rfl (by simp [u64V]; rfl) (by omega)
    unfold OPR
    rw [hrun]
    refine ⟨_, _, _, rfl, ?_⟩
    have B11' : Below w6.heap.size w6 w11 := (B9.trans (B10.mono B9.size)).trans (B11.mono (Nat.le_trans B9.size B10.size))
    rw [wrap_succ (by omega)]
    refine ⟨⟨kk + 1, a5, c5, rfl, by omega, ?_, fun k hk => ?_, B11'.trans (hk5.below B11'.size fun k hk he => by have := hnw9 k he; omega)⟩, ?_⟩
    · have : placesL tx (ls.take (kk + 1)) = placesL tx (ls.take kk) ++ [tx.idxOf (bl ls[kk])] := by
        unfold placesL
        rw [List.take_succ_eq_append_getElem hkl', List.map_append]
        rfl
      rw [this, List.map_append]
      exact hrow
    · rcases hnw k hk with h | h
      · exact hnw9 k h
      · exact Nat.le_trans B11'.size h
    · simp only [Int.toNat_natCast]
      omega
  have hke : kk = ls.length := by omega
  subst hke
  rw [List.take_length] at hR9
  have hpl : (placesL tx ls).length = ls.length := by simp [placesL]
  have hpx : ∀ x ∈ placesL tx ls, x < 4097 := by
    intro x hx
    obtain ⟨s, hs, rfl⟩ := List.mem_map.1 hx
    have := List.idxOf_le_length (l := tx) (a := bl s)
    omega
  have hRp := hR9.rd
  rw [← hpl]
  refine (ref_Width_ok hRp (by omega) (fun x hx => by have := hpx x hx; omega)).mono ?_
  rintro _ w13 ⟨_, rfl, wd, rfl, hwd, hwd64, rfl⟩
  refine ⟨_, rfl, (ref_Pack_ok hRp (by omega) hwd64 ((orL_lt _ _).1 hwd.1)).mono ?_⟩
  rintro _ w14 ⟨_, rfl, a14, c14, rfl, h14⟩
  have l3 := packL_len (placesL tx ls) wd
  have l4 : sizeN (placesL tx ls).length wd ≤ 4096 * 64 + 7 := by
    unfold sizeN
    have : (placesL tx ls).length * wd ≤ 4096 * 64 := Nat.mul_le_mul (by omega) hwd64
    omega
  refine ⟨_, _, _, _, rfl, (SH.start (fun _ => False) w14).newB fun b39 w15 hb39 B15 S15 => ?_⟩
  rw [wrap_u8_id (by omega) (by omega)] at S15
  have B6 : Below w6.heap.size w6 w15 := (B9.trans (h14.bel.mono B9.size)).trans (B15.mono (Nat.le_trans B9.size h14.bel.size))
  have h15 := h6.grown B6
  refine append_byte h15.row (by omega) (x := UInt8.ofNat wd) (byteV_of (by omega)) (S15.get 0 rfl) fun a16 c16 w16 R16 K16 N16 => ⟨_, _, _, rfl, ?_⟩
  have h16 := h6.appended B6 R16 K16 N16
  have hr16 : Rd w16 a14 ((packL (placesL tx ls) wd).map byteV) := (h14.rd.grown B15).keeps K16 fun p hp hF => by
    have e1 := h14.new p.block (by rw [hp]; rfl)
    have e2 := h6.row.lt hF
    have := B9.size
    omega
  refine append_bytes h16.row hr16 (by simp; omega) fun a17 c17 w17 R17 K17 N17 => ⟨_, _, _, rfl, .inr ⟨hok, _, a17, c17, .table tx wd hr hwd, ?_, ?_⟩⟩
  · rw [hli, hhd2]
    simp
  · have h17 := h16.appended (.refl _ _) R17 K17 N17
    have el : (l ++ [UInt8.ofNat wd]) ++ packL (placesL tx ls) wd = (1 :: digitsL tx.length) ++ (laidL (tx.map sof) ++ (UInt8.ofNat wd :: packL (placesL tx ls) wd)) := by
      rw [hli, hhd2]
      simp
    rw [el] at h17
    exact h17
end
end Go.Proofs.Ytmilfgmkcmcicaa
