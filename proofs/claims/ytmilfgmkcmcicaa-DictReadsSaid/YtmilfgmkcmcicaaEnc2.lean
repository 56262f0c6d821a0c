/-
  Encode, by the program.
-/
import Derived.Test.YtmilfgmkcmcicaaEnc
namespace Go.Proofs.Ytmilfgmkcmcicaa
open Go.Dn Go.Proofs
open Go.RowKit (Below)
set_option linter.unusedVariables false
set_option maxRecDepth 20000

theorem nodup_len {α : Type} [DecidableEq α] : ∀ {t l : List α}, t.Nodup → (∀ x ∈ t, x ∈ l) → t.length ≤ l.length
  | [], _, _, _ => by simp
  | x :: t, l, hn, hs => by
    have hx := hs x (List.mem_cons_self ..)
    obtain ⟨h1, h2⟩ := List.nodup_cons.1 hn
    have := nodup_len (t := t) (l := l.erase x) h2 fun y hy => (List.mem_erase_of_ne (a := y) (b := x) (by rintro rfl; exact h1 hy)).2 (hs y (List.mem_cons_of_mem _ hy))
    rw [List.length_erase_of_mem hx] at this
    have : 0 < l.length := List.length_pos_of_mem hx
    simp only [List.length_cons]
    omega
theorem make_map {w : World} {f : Value → World → Prop} (hf : ∀ b w', w.heap.size ≤ b → Below w.heap.size w w' → MapS w' b 0 (fun _ => none) → f (.map (some b)) w') : OPR Try.prog (Instr.makeMap ty.map_string_uint64 none) f w := by
  unfold OPR
  rw [show (Instr.makeMap ty.map_string_uint64 none).run Try.prog w = .ok (.map (some w.heap.size)) (w.alloc (.map #[] 0)) from rfl]
  refine hf _ _ (Nat.le_refl _) ((Below.refl _ w).alloc (Nat.le_refl _) _) ⟨_, World.ownsMap_made _ _ _ _, Maps.tidy_empty, fun x => ⟨rfl, rfl⟩⟩
theorem und_map : Try.prog.underlying ty.map_string_uint64 = some (.map ty.string ty.uint64) := by kernel_rfl
theorem tU : slT Try.prog ty.L_uint64 = some (ty.uint64, 1, 8, .int .u64 0) := by kernel_rfl
theorem zero_u64 (w : World) : (zeroValue ty.uint64).run Try.prog w = .ok (.int .u64 0) w := by
  have h : (Try.prog.info? ty.uint64).bind (·.zero) = some (.int .u64 0) := by kernel_rfl
  cases hi : Try.prog.info? ty.uint64 with
  | none => rw [hi] at h; cases h
  | some i =>
    rw [hi] at h
    have hz : i.zero = some (.int .u64 0) := h
    simp [zeroValue, typeInfo, hi, hz]
theorem encStr_sof (x : List UInt8) : encStr x = .string (sof x) := rfl
theorem map_enc (t : List (List UInt8)) : t.map encStr = (t.map sof).map Value.string := by simp [encStr_sof]

section
variable {w : World} {a : Option Addr} {c : Nat} {ls : List ByteArray}
def g1 (l : List (List UInt8)) (x : List UInt8) : Option Int := if x ∈ l then some 0 else none
def g2 (l t : List (List UInt8)) (i : Nat) (x : List UInt8) : Option Int := if x ∈ t.take i then some (t.idxOf x : Int) else g1 l x

theorem g1_step {l : List ByteArray} {k : Nat} (hk : k < l.length) : (fun y => if y = bl l[k] then some 0 else g1 ((l.take k).map bl) y) = g1 ((l.take (k + 1)).map bl) := by
  funext y
  unfold g1
  rw [List.take_succ_eq_append_getElem hk, List.map_append]
  simp only [List.mem_append, List.map_cons, List.map_nil, List.mem_singleton]
  by_cases h1 : y = bl l[k]
  · simp [h1]
  · simp [h1]
theorem g2_step {l t : List (List UInt8)} (hnd : t.Nodup) {i : Nat} (hi : i < t.length) : (fun y => if y = t[i] then some (i : Int) else g2 l t i y) = g2 l t (i + 1) := by
  funext y
  unfold g2
  rw [List.take_succ_eq_append_getElem hi]
  simp only [List.mem_append, List.mem_singleton]
  by_cases h1 : y = t[i]
  · subst h1
    have : t.idxOf t[i] = i := hnd.idxOf_getElem i hi
    simp [this]
  · simp [h1]
theorem dict_Encode_ok (form : Int) (hl : Rd w a (ls.map Value.string)) (hn : ls.length ≤ 9223372036854775807) : Calls Try.prog f.dict_Encode #[.int .i64 form, .slice a ls.length c] w (Ret fun v w' => EncV form ls w w' v) := by
  apply R.dict_Encode_calls
  unfold R.dict_Encode
  have bad : ¬ encOk form ls → EncV form ls w w (.tuple #[.slice none 0 0, .int .i64 2]) := fun h => .inl ⟨h, rfl, .refl _ _⟩
  refine IFB_dec (fun h => bad fun hk => by have := hk.1; omega) (fun h1 => IFB_dec (fun h => bad fun hk => by have := hk.2.1; omega) (fun h2 => IFB_dec (fun h => bad fun hk => by have := hk.2.2.1; omega) (fun h3 => (ContainsFunc_ok hl hn).mono ?_)))
  rintro _ w ⟨_, rfl, rfl, rfl⟩
  refine ⟨_, rfl, IFB_of (fun h => bad fun hk => by have := hk.2.2.2; rw [h] at this; cases this) (fun hlong => ?_)⟩
  have hok : encOk form ls := ⟨by omega, by omega, by omega, hlong⟩
  have hz := longB_false hlong
  have hn4 : ls.length ≤ 4096 := by omega
  have hlen := laidL_len hz
  refine IFB_eq (fun h0 => ?_) (fun h0 => ?_)
  · subst h0
    refine (SH.start (fun _ => False) w).newB fun b5 w2 hb5 B2 S2 => (dict_laid_ok (hl.grown B2) hn4 hz).mono ?_
    rintro _ w3 ⟨_, rfl, a3, c3, rfl, h3⟩
    have S3 := S2.grown h3.bel
    refine ⟨_, _, _, rfl, S3.newB fun b8 w4 hb8 B4 S4 => ?_⟩
    have hp : Rd w4 (some ⟨b8, 0, none⟩) ([(some ⟨b5, 0, none⟩, 1, [0]), (a3, c3, laidL ls)].map partV1) := by
      have := Rd.of_block0 (S4.get 0 rfl)
      simpa [partV1] using this
    have hb5' : Rd w4 (some ⟨b5, 0, none⟩) ([0].map byteV) := by
      have := Rd.of_block0 (S4.get 1 rfl)
      simpa [byteV] using this
    refine (slices_Concat_ok (c := 2) [(some ⟨b5, 0, none⟩, 1, [0]), (a3, c3, laidL ls)] hp (fun p hp => ?_) (by simp) (by rw [flat2]; simp; omega)).mono ?_
    · simp only [List.mem_cons, List.not_mem_nil, or_false] at hp
      rcases hp with rfl | rfl
      · exact hb5'
      · exact (h3.grown B4).rd
    rintro _ w5 ⟨_, rfl, a5, c5, rfl, h5⟩
    refine ⟨_, _, _, rfl, .inr ⟨hok, 0 :: laidL ls, a5, c5, .plain, ?_, ?_⟩⟩
    · rw [flat2]; rfl
    · rw [flat2] at h5
      exact h5.before S4.below
  · have hf1 : form = 1 := by omega
    subst hf1
    have m4 : 8193 ≤ maxLen := by decide
    refine make_map fun b w6 hb B6 M6 => ⟨_, rfl, ?_⟩
    have M6' : MapS w6 b 0 (g1 ((ls.take 0).map bl)) := by
      have : g1 ((ls.take 0).map bl) = fun _ => none := by funext x; simp [g1]
      rw [this]; exact M6
    refine ⟨fun s w7 => ∃ k : Nat, k ≤ ls.length ∧ s = [.int .i64 (k : Int)] ∧ MapS w7 b k (g1 ((ls.take k).map bl)) ∧ Keeps (· = b) w6 w7, fun s _ => match s with
        | [.int _ i] => ls.length - i.toNat
        | _ => 0, ⟨0, by omega, rfl, M6', .refl _ _⟩, ?_⟩
    rintro _ w7 ⟨k, hk, hs, M7, K7⟩
    cases hs
    have B7 : Below w.heap.size w w7 := B6.trans (K7.below B6.size fun k hk he => by omega)
    refine IFB_dec (fun hlt => ⟨⟨by omega, hlt⟩, ?_⟩) (fun hge => ?_)
    · have hkl : k < ls.length := by omega
      obtain ⟨p, rfl, hc⟩ := str_at (hl.grown B7) hkl
      have hsz := hz _ (List.getElem_mem hkl)
      refine ⟨_, by rw [Int.toNat_natCast]; exact hc, M7.put und_str und_u64 und_map (by omega) (by omega) (by decide) fun w8 K8 M8 => ?_⟩
      rw [g1_step hkl] at M8
      rw [wrap_succ (by omega)]
      refine ⟨⟨k + 1, by omega, rfl, M8, K7.trans K8 (fun _ _ h => h)⟩, ?_⟩
      simp only [Int.toNat_natCast]
      omega
    have hkk : k = ls.length := by omega
    rw [hkk, List.take_length] at M7
    refine (sortedKeys_ok M7 hn4 (ls := ls.map bl) (fun x => by unfold g1; split <;> simp [*]) (k := fun v w' => ∃ a c t, v = .slice a t.length c ∧ IsRise (ls.map bl) t ∧ Row w' ty.string 1 a t.length c (t.map encStr) ∧ (∀ k, rowB a = some k → w7.heap.size ≤ k) ∧ Below w7.heap.size w7 w')
      (fun a c t w' q1 q2 q3 q4 => ⟨a, c, t, rfl, q1, q2, q3, q4⟩)).mono ?_
    rintro _ w9 ⟨fn, fi, ca, rfl, hS⟩
    refine ⟨_, _, _, rfl, hS.mono ?_⟩
    rintro _ w10 ⟨aT, lT, cT, rfl, aT2, cT2, t, ht, hr, hRow, hnew, B10⟩
    obtain ⟨rfl, rfl, rfl⟩ : aT = aT2 ∧ lT = t.length ∧ cT = cT2 := by cases ht; exact ⟨rfl, rfl, rfl⟩
    refine ⟨_, _, _, rfl, ?_⟩
    have hbl := M7.lt
    have M10 := M7.kept (Keeps.of_below (F := fun _ => False) B10) (by simp)
    have hnd := lt_nodup hr.up
    have htl : t.length ≤ ls.length := by
      have := nodup_len hnd (fun x hx => (hr.mem x).1 hx)
      simpa using this
    have htz : ∀ s ∈ t.map sof, s.size ≤ 1024 := by
      intro s hs
      obtain ⟨x, hx, rfl⟩ := List.mem_map.1 hs
      obtain ⟨s', hs', rfl⟩ := List.mem_map.1 ((hr.mem x).1 hx)
      rw [sof_bl]
      exact hz s' hs'
    rw [map_enc] at hRow
    have hlT : (t.map sof).length = t.length := by simp
    have M10' : MapS w10 b (ls.length + 0) (g2 (ls.map bl) t 0) := by
      have : g2 (ls.map bl) t 0 = g1 (ls.map bl) := by funext x; simp [g2]
      rw [this]; exact M10
    have far : ∀ p, aT = some p → ¬ p.block = b := by
      intro p hp he
      have := hnew p.block (by rw [hp]; rfl)
      omega
    refine ⟨fun s w11 => ∃ i : Nat, i ≤ t.length ∧ s = [.int .i64 (i : Int)] ∧ MapS w11 b (ls.length + i) (g2 (ls.map bl) t i) ∧ Keeps (· = b) w10 w11, fun s _ => match s with
        | [.int _ i] => t.length - i.toNat
        | _ => 0, ⟨0, by omega, rfl, M10', .refl _ _⟩, ?_⟩
    rintro _ w11 ⟨i, hi, hs, M11, K11⟩
    cases hs
    have hRd11 : Rd w11 aT ((t.map sof).map Value.string) := hRow.rd.keeps K11 far
    refine IFB_dec (fun hlt => ⟨⟨by omega, hlt⟩, ?_⟩) (fun hge => ?_)
    · have hil : i < t.length := by omega
      obtain ⟨p, hp, hc⟩ := str_at hRd11 (by rw [hlT]; exact hil)
      subst hp
      have hsz : (sof t[i]).size ≤ 1024 := htz _ (List.mem_map.2 ⟨_, List.getElem_mem hil, rfl⟩)
      rw [List.getElem_map] at hc
      refine ⟨_, by rw [Int.toNat_natCast]; exact hc, ?_⟩
      rw [wrap_u64_id (by omega) (by omega)]
      refine M11.put und_str und_u64 und_map (by omega) (by omega) (by simp [Lit.wf, IntKind.min, IntKind.max, IntKind.signed, IntKind.bits]; omega) fun w12 K12 M12 => ?_
      rw [bl_sof, g2_step hnd hil] at M12
      rw [wrap_succ (by omega)]
      refine ⟨⟨i + 1, by omega, rfl, M12, K11.trans K12 (fun _ _ h => h)⟩, ?_⟩
      simp only [Int.toNat_natCast]
      omega
    have hii : i = t.length := by omega
    rw [hii] at M11
    have B11 : Below w.heap.size w w11 := by
      have B0 : Below w.heap.size w w10 := B7.trans (B10.mono B7.size)
      exact B0.trans (K11.below B0.size fun k hk he => by omega)
    refine ⟨fun s w13 => ∃ (kk : Nat) (pa : Option Addr) (pc : Nat), s = [.slice pa kk pc, .int .i64 (kk : Int)] ∧ kk ≤ ls.length ∧ Row w13 ty.uint64 1 pa kk pc ((placesL t (ls.take kk)).map u64V) ∧ (∀ k, rowB pa = some k → w11.heap.size ≤ k) ∧ Below w11.heap.size w11 w13, fun s _ => match s with
        | [_, .int _ i] => ls.length - i.toNat
        | _ => 0, ⟨0, none, 0, rfl, by omega, Row.nil _ _ _, by simp [rowB], .refl _ _⟩, ?_⟩
    rintro pa kk pc _ w13 ⟨_, _, _, hs, hkl, hR13, hnw13, B13⟩
    cases hs
    have Bw13 : Below w.heap.size w w13 := B11.trans (B13.mono B11.size)
    have M13 := M11.kept (Keeps.of_below (F := fun _ => False) B13) (by simp)
    refine IFB_dec (fun hlt => ⟨⟨by omega, hlt⟩, ?_⟩) (fun hge => ?_)
    · have hkl' : kk < ls.length := by omega
      obtain ⟨p, hp, hc⟩ := str_at (hl.grown Bw13) hkl'
      subst hp
      have hsz := hz _ (List.getElem_mem hkl')
      have hin : bl ls[kk] ∈ t := (hr.mem _).2 (List.mem_map.2 ⟨_, List.getElem_mem hkl', rfl⟩)
      have hgv : (g2 (ls.map bl) t t.length (bl ls[kk])).getD 0 = (t.idxOf (bl ls[kk]) : Int) := by
        unfold g2
        rw [List.take_length, if_pos hin]
        rfl
      refine ⟨_, by rw [Int.toNat_natCast]; exact hc, M13.get und_str und_u64 und_map (zero_u64 _) (by omega) ?_⟩
      rw [hgv]
      refine ⟨_, rfl, (SH.start (fun _ => False) w13).newB fun b32 w15 hb32 B15 S15 => ?_⟩
      have hsrc : Rd w15 (some ⟨b32, 0, none⟩) [u64V (t.idxOf (bl ls[kk]))] := by
        have := Rd.of_block0 (S15.get 0 rfl)
        simpa [u64V] using this
      obtain ⟨a5, c5, w16, hrun, hrow, hk5, hnw⟩ := append_row (ty := ty.L_uint64) (mc := 1) tU rfl (by omega) (by omega) (hR13.grown B15) hsrc (m := 1) rfl (by simp [u64V]; rfl) (by omega)
      unfold OPR
      rw [hrun]
      refine ⟨_, _, _, rfl, ?_⟩
      have B15' : Below w11.heap.size w11 w15 := B13.trans (B15.mono B13.size)
      rw [wrap_succ (by omega)]
      refine ⟨⟨kk + 1, a5, c5, rfl, by omega, ?_, fun k hk => ?_, B15'.trans (hk5.below B15'.size fun k hk he => by have := hnw13 k he; omega)⟩, ?_⟩
      · have : placesL t (ls.take (kk + 1)) = placesL t (ls.take kk) ++ [t.idxOf (bl ls[kk])] := by
          unfold placesL
          rw [List.take_succ_eq_append_getElem hkl', List.map_append]
          rfl
        rw [this, List.map_append]
        exact hrow
      · rcases hnw k hk with h | h
        · exact hnw13 k h
        · exact Nat.le_trans B15'.size h
      · simp only [Int.toNat_natCast]
        omega
    have hke : kk = ls.length := by omega
    subst hke
    rw [List.take_length] at hR13
    have hpl : (placesL t ls).length = ls.length := by simp [placesL]
    have hpx : ∀ x ∈ placesL t ls, x < 4097 := by
      intro x hx
      obtain ⟨s, hs, rfl⟩ := List.mem_map.1 hx
      have := List.idxOf_le_length (l := t) (a := bl s)
      omega
    have hRp := hR13.rd
    rw [← hpl]
    refine (pack_Width_ok hRp (by omega) (fun x hx => by have := hpx x hx; omega)).mono ?_
    rintro _ w17 ⟨_, rfl, wd, rfl, hwd, hwd64, rfl⟩
    refine ⟨_, rfl, (pack_Pack_ok hRp (by omega) hwd64 ((orL_lt _ _).1 hwd.1)).mono ?_⟩
    rintro _ w18 ⟨_, rfl, a18, c18, rfl, h18⟩
    refine ⟨_, _, _, _, rfl, (SH.start (fun _ => False) w18).newB fun b40 w19 hb40 B19 S19 => ?_⟩
    have hb40' : Rd w19 (some ⟨b40, 0, none⟩) ([1].map byteV) := by
      have := Rd.of_block0 (S19.get 0 rfl)
      simpa [byteV] using this
    rw [wrap_u64_id (by omega) (by omega)]
    refine (wire_Number_ok (c := 1) [1] hb40' t.length (by omega) (by simp)).mono ?_
    rintro _ w20 ⟨_, rfl, a20, c20, rfl, h20⟩
    have T20 : Below w11.heap.size w11 w20 := by
      refine B13.trans ((h18.bel.mono B13.size).trans ?_)
      exact (B19.mono (Nat.le_trans B13.size h18.bel.size)).trans (h20.bel.mono (Nat.le_trans B13.size (Nat.le_trans h18.bel.size B19.size)))
    have hRT20 := hRd11.grown T20
    refine ⟨_, _, _, rfl, ?_⟩
    rw [← hlT]
    refine (dict_laid_ok (c := cT) hRT20 (by omega) htz).mono ?_
    rintro _ w21 ⟨_, rfl, a21, c21, rfl, h21⟩
    refine ⟨_, _, _, rfl, (SH.start (fun _ => False) w21).newB fun b45 w22 hb45 B22 S22 => S22.newB fun b46 w23 hb46 B23 S23 => ?_⟩
    rw [wrap_u8_id (by omega) (by omega)] at S22 S23
    obtain ⟨ps, hps⟩ : ∃ ps : List PartB, ps = [(a20, c20, [1] ++ digitsL t.length), (a21, c21, laidL (t.map sof)), (some ⟨b45, 0, none⟩, 1, [UInt8.ofNat wd]), (a18, c18, packL (placesL t ls) wd)] := ⟨_, rfl⟩
    have hp : Rd w23 (some ⟨b46, 0, none⟩) (ps.map partV1) := by
      have := Rd.of_block0 (S23.get 0 rfl)
      rw [hps]
      simpa [partV1] using this
    have n23 := below_trans B22 B23
    have hpb : ∀ p ∈ ps, Rd w23 p.1 (p.2.2.map byteV) := by
      intro p hp
      rw [hps] at hp
      simp only [List.mem_cons, List.not_mem_nil, or_false] at hp
      rcases hp with rfl | rfl | rfl | rfl
      · exact (h20.rd.grown h21.bel).grown n23
      · exact h21.rd.grown n23
      · have := Rd.of_block0 (S23.get 1 rfl)
        simpa [byteV_of (show wd < 256 by omega)] using this
      · exact ((((h18.rd.grown B19).grown h20.bel).grown h21.bel).grown n23)
    have hfl : flatB ps = (1 :: digitsL t.length) ++ (laidL (t.map sof) ++ (UInt8.ofNat wd :: packL (placesL t ls) wd)) := by
      rw [hps]
      simp [flatB]
    have l1 := digitsL_len10 (n := t.length) (by omega)
    have l2 := laidL_len htz
    have l3 := packL_len (placesL t ls) wd
    have l4 : sizeN (placesL t ls).length wd ≤ 4096 * 64 + 7 := by
      unfold sizeN
      have : (placesL t ls).length * wd ≤ 4096 * 64 := Nat.mul_le_mul (by omega) hwd64
      omega
    have hps4 : ps.length = 4 := by rw [hps]; rfl
    have hcc := slices_Concat_ok (c := 4) ps hp hpb (by omega) (by rw [hfl]; simp only [List.length_append, List.length_cons]; omega)
    rw [hps4] at hcc
    refine hcc.mono ?_
    rintro _ w24 ⟨_, rfl, a24, c24, rfl, h24⟩
    rw [hfl] at h24 ⊢
    refine ⟨_, _, _, rfl, .inr ⟨hok, _, a24, c24, .table t wd hr hwd, rfl, h24.before ?_⟩⟩
    exact (B11.trans (T20.mono B11.size)).trans (((h21.bel).mono (Nat.le_trans B11.size T20.size)).trans (n23.mono (Nat.le_trans (Nat.le_trans B11.size T20.size) h21.bel.size)))
end
end Go.Proofs.Ytmilfgmkcmcicaa
