/-
  Texts of this claim, laid one behind the other by a program of mine (install.py): G.IntsR, G.IntsP, G.IntsE, G.IntsB, G.RefEnc, G.RefEnc2, G.RefEnc3, G.Best, Dn.Crc, G.Sum, G.Ch1, Dn.MapsB, G.Sch6, G.VLay, G.VTake0, G.VLay2, G.TakeS, G.VTake, G.VTake2, G.VTake3.
-/
import Derived.Test.YtpnaifmmggnimaaGreatDoorM4
import Derived.Test.YtpnaifmmggnimaaGreatDoorM1
import Derived.Test.YtpnaifmmggnimaaGreatDoorM3
namespace Go.Proofs.YtpnaifmmggnimaaGreatDoor
set_option maxRecDepth 100000
open Go.Dn Go.Proofs
open Go.RowKit (Below)
set_option linter.unusedVariables false
structure NewU (w w' : World) (xs : List Nat) (a : Option Addr) (c : Nat) : Prop where
  row : Row w' ty.uint64 1 a xs.length c (xs.map u64V)
  new : ∀ k, rowB a = some k → w.heap.size ≤ k
  bel : Below w.heap.size w w'
theorem NewU.nil (w : World) : NewU w w [] none 0 := ⟨Row.nil _ _ _, by simp [rowB], .refl _ _⟩
theorem NewU.grown {w w1 w2 : World} {xs : List Nat} {a : Option Addr} {c : Nat} (h : NewU w w1 xs a c) (hb : Below w1.heap.size w1 w2) : NewU w w2 xs a c := ⟨h.row.grown hb, h.new, below_trans h.bel hb⟩
theorem append_u64 {w w1 : World} {a : Option Addr} {c : Nat} {xs : List Nat} (h : NewU w w1 xs a c) (hl : xs.length + 1 ≤ 1000000) {x : Nat} {v : Value} (hv : v = u64V x) {b : Nat} {t : TypeId} (hb : w1.heap[b]? = some (.cells #[v] t (0, 0))) {f : Value → World → Prop}
    (hf : ∀ a' c' w', NewU w w' (xs ++ [x]) a' c' → f (.slice a' (xs ++ [x]).length c') w') : OPR Tryz.prog (Builtin.append_ #[ty.L_uint64, ty.L_uint64] ty.L_uint64 #[.slice a xs.length c, .slice (some ⟨b, 0, none⟩) 1 1]) f w1 := by
  subst hv
  have hsrc : Rd w1 (some ⟨b, 0, none⟩) ([x].map u64V) := by
    have := Rd.of_block0 hb
    simpa using this
  obtain ⟨a5, c5, w2, hrun, hrow, hk5, hnw⟩ := append_row (ty := ty.L_uint64) (mc := 1) tU rfl (by omega) (by omega) h.row hsrc (m := 1) rfl (by simp [u64V]; rfl) (by omega)
  unfold OPR
  rw [hrun]
  have e : xs.length + 1 = (xs ++ [x]).length := by simp
  rw [e] at hrow ⊢
  refine hf a5 c5 w2 ⟨by rw [List.map_append]; exact hrow, fun k hk => ?_, h.bel.trans (hk5.below h.bel.size fun k hk he => by have := h.new k he; omega)⟩
  rcases hnw k hk with h1 | h1
  · exact h.new k h1
  · exact Nat.le_trans h.bel.size h1
theorem int_at {w : World} {a : Option Addr} {l : List Int} (hl : Rd w a (l.map i64V)) {i : Nat} (hi : i < l.length) : ∃ p, a = some p ∧ w.cell? (p.add (i * 1)) = some (.int .i64 l[i]) := by
  obtain ⟨p, hp, hc⟩ := hl i (i64V l[i]) (by simp [hi])
  exact ⟨p, hp, by rw [Nat.mul_one]; exact hc⟩
theorem int_head {w : World} {a : Option Addr} {l : List Int} (hl : Rd w a (l.map i64V)) (h0 : 0 < l.length) : ∃ p, a = some p ∧ w.cell? p = some (.int .i64 (l.headD 0)) := by
  obtain ⟨p, hp, hc⟩ := int_at hl h0
  rw [Nat.zero_mul, addr_add_zero] at hc
  refine ⟨p, hp, ?_⟩
  rw [hc]
  cases l with
  | nil => simp at h0
  | cons y l => rfl
theorem getD_int {l : List Int} {i : Nat} (h : i < l.length) : l.getD i 0 = l[i] := by simp [h]
theorem ref_packed_ok {w0 w : World} {a a2 : Option Addr} {c c2 : Nat} {l : List UInt8} {s : List Nat} (h : NewB w0 w l a c) (hl : l.length ≤ 1000000) (hs : Rd w a2 (s.map u64V)) (hn : s.length ≤ 4096) (hx : ∀ x ∈ s, x < 18446744073709551616) :
    Calls Tryz.prog f.ref06_packed #[.slice a l.length c, .slice a2 s.length c2] w (Ret fun v w' => ∃ a' c', v = .slice a' (l ++ (UInt8.ofNat (lenN (orL s)) :: packL s (lenN (orL s)))).length c' ∧ NewB w0 w' (l ++ (UInt8.ofNat (lenN (orL s)) :: packL s (lenN (orL s)))) a' c') := by
  apply R.ref06_packed_calls
  unfold R.ref06_packed
  refine (ref_Width_ok hs (by omega) hx).mono ?_
  rintro _ w ⟨_, rfl, wd, rfl, hwd, hwd64, rfl⟩
  obtain rfl := hwd.one (lenN_is _)
  refine ⟨_, rfl, (ref_Pack_ok hs hn hwd64 ((orL_lt _ _).1 hwd.1)).mono ?_⟩
  rintro _ w14 ⟨_, rfl, a14, c14, rfl, h14⟩
  obtain ⟨wd, hwdd⟩ : ∃ wd, wd = lenN (orL s) := ⟨_, rfl⟩
  rw [← hwdd] at h14 hwd hwd64 ⊢
  have l3 := packL_len s wd
  have l4 : sizeN s.length wd ≤ 4096 * 64 + 7 := by
    unfold sizeN
    have : s.length * wd ≤ 4096 * 64 := Nat.mul_le_mul (by omega) hwd64
    omega
  refine ⟨_, _, _, _, rfl, (SH.start (fun _ => False) w14).newB fun b39 w15 hb39 B15 S15 => ?_⟩
  rw [wrap_u8_id (by omega) (by omega)] at S15
  have B6 : Below w.heap.size w w15 := below_trans h14.bel B15
  have h15 := h.grown B6
  refine append_byte h15.row (by omega) (x := UInt8.ofNat wd) (byteV_of (by omega)) (S15.get 0 rfl) fun a16 c16 w16 R16 K16 N16 => ⟨_, _, _, rfl, ?_⟩
  have h16 := h.appended B6 R16 K16 N16
  have hr16 : Rd w16 a14 ((packL s wd).map byteV) := (h14.rd.grown B15).keeps K16 fun p hp hF => by
    have e1 := h14.new p.block (by rw [hp]; rfl)
    have e2 := h.row.lt hF
    omega
  refine append_bytes h16.row hr16 (by simp; omega) fun a17 c17 w17 R17 K17 N17 => ⟨_, _, _, rfl, a17, c17, ?_, ?_⟩
  · simp
  · have h17 := h16.appended (.refl _ _) R17 K17 N17
    have el : (l ++ [UInt8.ofNat wd]) ++ packL s wd = l ++ (UInt8.ofNat wd :: packL s wd) := by simp
    rw [el] at h17
    exact h17
section
variable {w0 w : World} {ba a : Option Addr} {bc c : Nat} {bs : List UInt8} {l : List Int}
theorem ref_runs_ok (h : NewB w0 w bs ba bc) (hbs : bs.length ≤ 10) (hl : Rd w0 a (l.map i64V)) (hn : l.length ≤ 4096) (hx : ∀ x ∈ l, I64 x) :
    Calls Tryz.prog f.ref06_runs #[.slice ba bs.length bc, .slice a l.length c] w (Ret fun v w' => ∃ a' c', v = .slice a' (bs ++ runsL l).length c' ∧ NewB w0 w' (bs ++ runsL l) a' c') := by
  apply R.ref06_runs_calls
  unfold R.ref06_runs
  have hlen := runsL_len 4096 l hn (by omega) hx
  refine ⟨fun s w1 => ∃ (k i : Nat) (b : List UInt8) (a1 : Option Addr) (c1 : Nat), s = [.slice a1 b.length c1, .int .i64 (k : Int), .int .i64 (i : Int)] ∧ NewB w0 w1 b a1 c1 ∧ bs ++ runsL l = b ++ runsL (l.drop k) ∧ (i ≤ l.length → k < i) ∧ (i ≤ l.length ∨ (i = l.length + 1 ∧ l.length ≤ k)) ∧ (∀ j, k + j < i → i ≤ l.length → l[k + j]? = l[k]?) ∧ 0 < i, fun s _ => match s with
      | [_, _, .int _ i] => l.length + 1 - i.toNat
      | _ => 0, ⟨0, 1, bs, ba, bc, rfl, h, by simp, by omega, by omega, fun j hj _ => by simp at hj; subst hj; rfl, by omega⟩, ?_⟩
  rintro a1 _ c1 _ _ w1 ⟨k, i, b, _, _, hst, h1, hE, hki, hcase, hall, hi0⟩
  cases hst
  have hbl : b.length ≤ 10 + 4096 * 20 := by
    have := congrArg List.length hE
    simp only [List.length_append] at this
    omega
  refine IFB_dec (fun hle => ?_) (fun hgt => ?_)
  · have hil : i ≤ l.length := by omega
    have hk := hki hil
    refine ⟨fun s w3 => ∃ t : Bool, s = [.bool t] ∧ Below w1.heap.size w1 w3 ∧ (t = true ↔ IsRun l k (i - k)) ∧ (t = false → i < l.length ∧ l[i]? = l[k]?), ?_, ?_⟩
    · refine (SH.start (fun _ => False) w1).drawB fun w2 B2 _ => ?_
      have hbase : ∀ j, j < i - k → l[k + j]? = l[k]? := fun j hj => hall j (by omega) hil
      refine IFB_eq (fun he => ?_) (fun hne => ?_)
      · refine ⟨true, rfl, B2, ⟨fun _ => ⟨by omega, by omega, hbase, .inl (by omega)⟩, fun _ => rfl⟩, fun h => by cases h⟩
      · have hlt : i < l.length := by omega
        have hkl : k < l.length := by omega
        have C2 := below_trans h1.bel B2
        obtain ⟨p, rfl, hc1⟩ := int_at (hl.grown C2) hlt
        obtain ⟨p', hp', hc2⟩ := int_at (hl.grown C2) hkl
        cases hp'
        refine ⟨⟨by omega, by omega⟩, ⟨by omega, by omega⟩, _, by rw [Int.toNat_natCast]; exact hc1, _, by rw [Int.toNat_natCast]; exact hc2, _, rfl, B2, ?_, ?_⟩
        · simp only [bne_iff_ne, ne_eq]
          constructor
          · intro hd
            refine ⟨by omega, by omega, hbase, .inr ?_⟩
            rw [show k + (i - k) = i by omega, List.getElem?_eq_getElem hlt, List.getElem?_eq_getElem hkl]
            simpa using hd
          · intro hr
            rcases hr.stop with h | h
            · omega
            · rw [show k + (i - k) = i by omega, List.getElem?_eq_getElem hlt, List.getElem?_eq_getElem hkl] at h
              simpa using h
        · intro hd
          refine ⟨hlt, ?_⟩
          rw [List.getElem?_eq_getElem hlt, List.getElem?_eq_getElem hkl]
          have : l[i] = l[k] := by simpa using hd
          rw [this]
    rintro _ w3 ⟨t, hst, B3, ht1, ht2⟩
    cases hst
    have C3 := below_trans h1.bel B3
    have hkl : k < l.length := by omega
    refine IFB_of (fun ht => ?_) (fun hf => ?_)
    · have hrun := ht1.1 ht
      refine (SH.start (fun _ => False) w3).drawB fun w4 B4 _ => ⟨⟨by omega, by omega⟩, ?_⟩
      have C4 := below_trans C3 B4
      obtain ⟨p, rfl, hcell⟩ := int_at (hl.grown C4) hkl
      refine ⟨_, by rw [Int.toNat_natCast]; exact hcell, ?_⟩
      have ek : IntKind.u64.wrap (IntKind.i64.wrap ((i : Int) - (k : Int))) = ((i - k : Nat) : Int) := by
        rw [wrap_i64 (by omega) (by omega), wrap_u64_id (by omega) (by omega)]
        omega
      rw [ek]
      have hxk := hx _ (List.getElem_mem hkl)
      have h4 := (h1.grown B3).grown B4
      refine (ref_Number_ok b h4.rd (i - k) (by omega) (by omega)).mono ?_
      rintro _ w5 ⟨_, rfl, a5, c5, rfl, h5⟩
      have C5 := below_trans C4 h5.bel
      have d10 := digitsL_len10 (n := i - k) (by omega)
      refine ⟨_, _, _, rfl, ?_, (ref_Signed_ok _ h5.rd l[k] hxk.1 hxk.2 (by simp; omega)).mono ?_⟩
      · obtain ⟨p', hp', hc'⟩ := int_at (hl.grown C5) hkl
        cases hp'
        rw [Int.toNat_natCast]; exact hc'
      rintro _ w6 ⟨_, rfl, a6, c6, rfl, h6⟩
      rw [wrap_succ (by omega)]
      refine ⟨_, _, _, rfl, ⟨i, i + 1, _, a6, c6, rfl, h6.before (below_trans h4.bel h5.bel), ?_, by omega, by omega, fun j hj _ => ?_, by omega⟩, ?_⟩
      · rw [hE, runs_cut hrun, show k + (i - k) = i by omega, getD_int hkl]
        simp [sigL]
      · have : j = 0 := by omega
        subst this
        rfl
      · simp only [Int.toNat_natCast]
        omega
    · obtain ⟨hlt, heq⟩ := ht2 hf
      rw [wrap_succ (by omega)]
      refine ⟨⟨k, i + 1, b, a1, c1, rfl, h1.grown B3, hE, by omega, by omega, fun j hj _ => ?_, by omega⟩, ?_⟩
      · rcases Nat.lt_or_ge (k + j) i with h | h
        · exact hall j h hil
        · have : k + j = i := by omega
          rw [this]; exact heq
      · simp only [Int.toNat_natCast]
        omega
  · have hk : l.length ≤ k := by omega
    have hd : l.drop k = [] := List.drop_of_length_le hk
    rw [hd, runsL_nil, List.append_nil] at hE
    rw [hE]
    exact ⟨a1, c1, rfl, h1⟩
theorem stepsN_take {l : List Int} {i : Nat} (hi : i + 1 < l.length) : (stepsN l).take (i + 1) = (stepsN l).take i ++ [zigN (IntKind.i64.wrap (l[i + 1] - l[i]))] := by
  have hl : i < (stepsN l).length := by simp [stepsN]; omega
  rw [List.take_succ_eq_append_getElem hl]
  congr 2
  simp only [stepsN, List.getElem_map, List.getElem_range]
  rw [getD_int hi, getD_int (by omega)]
theorem ref_steps_ok (h : NewB w0 w bs ba bc) (hbs : bs.length ≤ 10) (hl : Rd w0 a (l.map i64V)) (hn : l.length ≤ 4096) (hx : ∀ x ∈ l, I64 x) :
    Calls Tryz.prog f.ref06_steps #[.slice ba bs.length bc, .slice a l.length c] w (Ret fun v w' => ∃ a' c', v = .slice a' (bs ++ (if l = [] then [] else packedL (l.headD 0) (stepsN l))).length c' ∧ NewB w0 w' (bs ++ (if l = [] then [] else packedL (l.headD 0) (stepsN l))) a' c') := by
  apply R.ref06_steps_calls
  unfold R.ref06_steps
  refine IFB_eq (fun h0 => ?_) (fun hne => ?_)
  · have : l = [] := List.eq_nil_of_length_eq_zero (by omega)
    rw [if_pos this, List.append_nil]
    exact ⟨ba, bc, rfl, h⟩
  have hp : 0 < l.length := by omega
  have hne' : l ≠ [] := List.length_pos_iff.1 hp
  rw [if_neg hne']
  have hsl : (stepsN l).length = l.length - 1 := by simp [stepsN]
  refine ⟨fun s w1 => ∃ (i : Nat) (a1 : Option Addr) (c1 : Nat), s = [.slice a1 ((stepsN l).take i).length c1, .int .i64 ((i + 1 : Nat) : Int)] ∧ i + 1 ≤ l.length ∧ NewU w w1 ((stepsN l).take i) a1 c1, fun s _ => match s with
      | [_, .int _ i] => l.length - i.toNat
      | _ => 0, ⟨0, none, 0, rfl, by omega, NewU.nil w⟩, ?_⟩
  rintro a1 _ c1 _ w1 ⟨i, _, _, hst, hi, h1⟩
  cases hst
  have C1 := below_trans h.bel h1.bel
  refine IFB_dec (fun hlt => ?_) (fun hge => ?_)
  · have hi1 : i + 1 < l.length := by omega
    have hi0 : i < l.length := by omega
    refine (SH.start (fun _ => False) w1).drawB fun w4 B4 _ => ⟨⟨by omega, by omega⟩, ?_⟩
    have C4 := below_trans C1 B4
    rw [wrap_i64 (n := (((i + 1 : Nat) : Int)) - 1) (by omega) (by omega), show ((((i + 1 : Nat) : Int)) - 1) = (i : Int) by omega]
    obtain ⟨p, rfl, hc1⟩ := int_at (hl.grown C4) hi1
    obtain ⟨p', hp', hc2⟩ := int_at (hl.grown C4) hi0
    cases hp'
    refine ⟨⟨by omega, by omega⟩, _, by rw [Int.toNat_natCast]; exact hc1, _, by rw [Int.toNat_natCast]; exact hc2, ?_⟩
    have hw := wrap_I64 (l[i + 1] - l[i])
    refine (ref_Zig_ok _ hw.1 hw.2).mono ?_
    rintro _ w5 ⟨_, rfl, rfl, rfl⟩
    refine ⟨_, rfl, (SH.start (fun _ => False) w5).newB fun b6 w6 hb6 B6 S6 => ?_⟩
    refine append_u64 ((h1.grown B4).grown B6) (by rw [List.length_take]; omega) rfl (S6.get 0 rfl) fun a7 c7 w7 h7 => ⟨_, _, _, rfl, ?_⟩
    rw [← stepsN_take hi1] at h7 ⊢
    rw [wrap_succ (by omega)]
    refine ⟨⟨i + 1, a7, c7, rfl, by omega, h7⟩, ?_⟩
    simp only [Int.toNat_natCast]
    omega
  · have hie : (stepsN l).take i = stepsN l := List.take_of_length_le (by omega)
    rw [hie] at h1 ⊢
    obtain ⟨p, rfl, hcell⟩ := int_head (hl.grown C1) hp
    have hh : I64 (l.headD 0) := by
      have := minTo_I64 hx hp 0
      simpa [minTo] using this
    refine ⟨⟨by omega, by omega⟩, _, hcell, (ref_Signed_ok bs (h.grown h1.bel).rd (l.headD 0) hh.1 hh.2 (by omega)).mono ?_⟩
    rintro _ w2 ⟨_, rfl, a2, c2, rfl, h2⟩
    have hd := digitsL_len10 (zigN_lt hh.1 hh.2)
    refine ⟨_, _, _, rfl, (ref_packed_ok (h2.before C1) (by rw [List.length_append]; omega) (h1.row.rd.grown h2.bel) (by omega) stepsN_lt).mono ?_⟩
    rintro _ w3 ⟨_, rfl, a3, c3, rfl, h3⟩
    refine ⟨_, _, _, rfl, a3, c3, ?_, ?_⟩
    · simp [packedL, sigL]
    · have e : bs ++ digitsL (zigN (l.headD 0)) ++ (UInt8.ofNat (lenN (orL (stepsN l))) :: packL (stepsN l) (lenN (orL (stepsN l)))) = bs ++ packedL (l.headD 0) (stepsN l) := by simp [packedL, sigL]
      rw [e] at h3
      exact h3
theorem frameN_take {l : List Int} {i : Nat} (hi : i < l.length) : (frameN l).take (i + 1) = (frameN l).take i ++ [(l[i] - minL l).toNat] := by
  have hl : i < (frameN l).length := by simpa [frameN] using hi
  rw [List.take_succ_eq_append_getElem hl]
  congr 2
  simp [frameN]
theorem frame_word {x m : Int} (hx : I64 x) (hm : I64 m) (hle : m ≤ x) : IntKind.u64.wrap (IntKind.u64.wrap x - IntKind.u64.wrap m) = ((x - m).toNat : Int) := by
  unfold I64 at hx hm
  rw [wrap_u64, wrap_u64, wrap_u64, ← Int.sub_emod]
  omega
theorem minTo_one {l : List Int} (h0 : 0 < l.length) : minTo l 1 = l.headD 0 := by
  cases l with
  | nil => simp at h0
  | cons y l => simp [minTo]
theorem ref_frame_ok (h : NewB w0 w bs ba bc) (hbs : bs.length ≤ 10) (hl : Rd w0 a (l.map i64V)) (hn : l.length ≤ 4096) (hx : ∀ x ∈ l, I64 x) :
    Calls Tryz.prog f.ref06_frame #[.slice ba bs.length bc, .slice a l.length c] w (Ret fun v w' => ∃ a' c', v = .slice a' (bs ++ (if l = [] then [] else packedL (minL l) (frameN l))).length c' ∧ NewB w0 w' (bs ++ (if l = [] then [] else packedL (minL l) (frameN l))) a' c') := by
  apply R.ref06_frame_calls
  unfold R.ref06_frame
  refine IFB_eq (fun h0 => ?_) (fun hne => ?_)
  · have : l = [] := List.eq_nil_of_length_eq_zero (by omega)
    rw [if_pos this, List.append_nil]
    exact ⟨ba, bc, rfl, h⟩
  have hp : 0 < l.length := by omega
  have hne' : l ≠ [] := List.length_pos_iff.1 hp
  rw [if_neg hne']
  have hsl : (frameN l).length = l.length := by simp [frameN]
  obtain ⟨p, rfl, hcell⟩ := int_head (hl.grown h.bel) hp
  refine ⟨⟨by omega, by omega⟩, _, hcell, ?_⟩
  refine ⟨fun s w1 => w1 = w ∧ ∃ i : Nat, i ≤ l.length ∧ s = [.int .i64 (minTo l i), .int .i64 (i : Int)], fun s _ => match s with
      | [_, .int _ i] => l.length - i.toNat
      | _ => 0, ⟨rfl, 0, by omega, by simp [minTo]⟩, ?_⟩
  rintro _ _ w1 ⟨rfl, i, hi, hst⟩
  cases hst
  refine IFB_dec (fun hlt => ⟨⟨by omega, hlt⟩, ?_⟩) (fun hge => ?_)
  · have hil : i < l.length := by omega
    obtain ⟨p', hp', hc⟩ := int_at (hl.grown h.bel) hil
    cases hp'
    refine ⟨_, by rw [Int.toNat_natCast]; exact hc, ?_⟩
    rw [wrap_succ (by omega), ← minTo_succ hil]
    refine ⟨⟨rfl, i + 1, by omega, rfl⟩, ?_⟩
    simp only [Int.toNat_natCast]
    omega
  have hil : i = l.length := by omega
  subst hil
  have hmI := minTo_I64 hx hp l.length
  have hm : minTo l l.length = minL l := rfl
  rw [hm] at hmI ⊢
  refine ⟨fun s w2 => ∃ (i : Nat) (a1 : Option Addr) (c1 : Nat), s = [.slice a1 ((frameN l).take i).length c1, .int .i64 (i : Int)] ∧ i ≤ l.length ∧ NewU w1 w2 ((frameN l).take i) a1 c1, fun s _ => match s with
      | [_, .int _ i] => l.length - i.toNat
      | _ => 0, ⟨0, none, 0, rfl, by omega, NewU.nil w1⟩, ?_⟩
  rintro a1 _ c1 _ w2 ⟨i, _, _, hst, hi, h1⟩
  cases hst
  have C1 := below_trans h.bel h1.bel
  refine IFB_dec (fun hlt => ⟨⟨by omega, hlt⟩, ?_⟩) (fun hge => ?_)
  · have hi0 : i < l.length := by omega
    obtain ⟨p', hp', hc2⟩ := int_at (hl.grown C1) hi0
    cases hp'
    have hmem := List.getElem_mem hi0
    refine ⟨_, by rw [Int.toNat_natCast]; exact hc2, (SH.start (fun _ => False) w2).newB fun b6 w6 hb6 B6 S6 => ?_⟩
    rw [frame_word (hx _ hmem) hmI (minL_le hmem)] at S6
    refine append_u64 (h1.grown B6) (by rw [List.length_take]; omega) rfl (S6.get 0 rfl) fun a7 c7 w7 h7 => ⟨_, _, _, rfl, ?_⟩
    rw [← frameN_take hi0] at h7 ⊢
    rw [wrap_succ (by omega)]
    refine ⟨⟨i + 1, a7, c7, rfl, by omega, h7⟩, ?_⟩
    simp only [Int.toNat_natCast]
    omega
  · have hie : (frameN l).take i = frameN l := List.take_of_length_le (by omega)
    rw [hie] at h1 ⊢
    refine (ref_Signed_ok bs (h.grown h1.bel).rd (minL l) hmI.1 hmI.2 (by omega)).mono ?_
    rintro _ w3 ⟨_, rfl, a2, c2, rfl, h2⟩
    have hd := digitsL_len10 (zigN_lt hmI.1 hmI.2)
    refine ⟨_, _, _, rfl, (ref_packed_ok (h2.before C1) (by rw [List.length_append]; omega) (h1.row.rd.grown h2.bel) (by omega) (frameN_lt hx)).mono ?_⟩
    rintro _ w4 ⟨_, rfl, a3, c3, rfl, h3⟩
    refine ⟨_, _, _, rfl, a3, c3, ?_, ?_⟩
    · simp [packedL, sigL]
    · have e : bs ++ digitsL (zigN (minL l)) ++ (UInt8.ofNat (lenN (orL (frameN l))) :: packL (frameN l) (lenN (orL (frameN l)))) = bs ++ packedL (minL l) (frameN l) := by simp [packedL, sigL]
      rw [e] at h3
      exact h3
end
def intsOk (f : Int) (l : List Int) : Prop := 0 ≤ f ∧ f ≤ 3 ∧ l.length ≤ 4096
instance (f : Int) (l : List Int) : Decidable (intsOk f l) := by unfold intsOk; infer_instance
def IntsV (f : Int) (l : List Int) (w w' : World) (r : Value) : Prop :=
  (¬ intsOk f l ∧ r = .tuple #[.slice none 0 0, .int .i64 2] ∧ Below w.heap.size w w') ∨ (intsOk f l ∧ ∃ a c, r = .tuple #[.slice a (intsL f.toNat l).length c, .int .i64 0] ∧ NewB w w' (intsL f.toNat l) a c)
theorem flatSig_take {l : List Int} {k : Nat} (hk : k < l.length) : (l.take (k + 1)).flatMap sigL = (l.take k).flatMap sigL ++ sigL l[k] := by
  rw [List.take_succ_eq_append_getElem hk, List.flatMap_append]
  simp
theorem ref_ints_Encode_ok {w : World} {a : Option Addr} {c : Nat} {l : List Int} (form : Int) (hl : Rd w a (l.map i64V)) (hx : ∀ x ∈ l, I64 x) :
    Calls Tryz.prog f.ref06_Encode #[.int .i64 form, .slice a l.length c] w (Ret fun v w' => IntsV form l w w' v) := by
  apply R.ref06_Encode_calls
  unfold R.ref06_Encode
  have bad : ¬ intsOk form l → IntsV form l w w (.tuple #[.slice none 0 0, .int .i64 2]) := fun h => .inl ⟨h, rfl, .refl _ _⟩
  refine IFB_dec (fun h => bad fun hk => by have := hk.1; omega) (fun h1 => IFB_dec (fun h => bad fun hk => by have := hk.2.1; omega) (fun h2 => IFB_dec (fun h => bad fun hk => by have := hk.2.2; omega) (fun h3 => ?_)))
  have hok : intsOk form l := ⟨by omega, by omega, by omega⟩
  have hn : l.length ≤ 4096 := by omega
  obtain ⟨fm, rfl⟩ : ∃ m : Nat, form = (m : Int) := ⟨form.toNat, by omega⟩
  rw [wrap_u8_id (by omega) (by omega)]
  refine (SH.start (fun _ => False) w).newB fun b3 w1 hb3 B1 S1 => ?_
  have hN : NewB w w1 [UInt8.ofNat fm] (some ⟨b3, 0, none⟩) 1 := by
    refine ⟨⟨rfl, .inr ⟨b3, _, rfl, S1.get 0 rfl, by simp, by omega, rfl, ?_⟩⟩, fun k hk => ?_, B1⟩
    · simp [byteV_of (show fm < 256 by omega)]
    · cases hk; exact hb3
  refine IFB_eq (fun hf => ?_) (fun hf1 => IFB_eq (fun hf => ?_) (fun hf2 => IFB_eq (fun hf => ?_) (fun hf3 => ?_)))
  · have : fm = 1 := by omega
    subst this
    refine (ref_runs_ok (c := c) hN (by simp) hl hn hx).mono ?_
    rintro _ w2 ⟨_, rfl, a2, c2, rfl, h2⟩
    exact ⟨_, _, _, rfl, .inr ⟨hok, a2, c2, rfl, h2⟩⟩
  · have : fm = 2 := by omega
    subst this
    refine (ref_steps_ok (c := c) hN (by simp) hl hn hx).mono ?_
    rintro _ w2 ⟨_, rfl, a2, c2, rfl, h2⟩
    exact ⟨_, _, _, rfl, .inr ⟨hok, a2, c2, rfl, h2⟩⟩
  · have : fm = 3 := by omega
    subst this
    refine (ref_frame_ok (c := c) hN (by simp) hl hn hx).mono ?_
    rintro _ w2 ⟨_, rfl, a2, c2, rfl, h2⟩
    exact ⟨_, _, _, rfl, .inr ⟨hok, a2, c2, rfl, h2⟩⟩
  · have : fm = 0 := by omega
    subst this
    refine ⟨fun s w5 => ∃ (i : Nat) (b : List UInt8) (a5 : Option Addr) (c5 : Nat), s = [.slice a5 b.length c5, .int .i64 (i : Int)] ∧ i ≤ l.length ∧ b = 0 :: (l.take i).flatMap sigL ∧ NewB w w5 b a5 c5, fun s _ => match s with
        | [_, .int _ i] => l.length - i.toNat
        | _ => 0, ⟨0, [0], _, _, rfl, by omega, by simp, hN⟩, ?_⟩
    rintro a5 _ c5 _ w5 ⟨i, b, _, _, hst, hi, hb, h5⟩
    cases hst
    have hbl : b.length ≤ 1 + 4096 * 10 := by
      have := flatSig_len (l := l.take i) fun x h => hx x (List.mem_of_mem_take h)
      rw [List.length_take] at this
      rw [hb, List.length_cons]
      omega
    refine IFB_dec (fun hlt => ⟨⟨by omega, hlt⟩, ?_⟩) (fun hge => ?_)
    · have hil : i < l.length := by omega
      obtain ⟨p, rfl, hc⟩ := int_at (hl.grown h5.bel) hil
      have hxi := hx _ (List.getElem_mem hil)
      refine ⟨_, by rw [Int.toNat_natCast]; exact hc, (ref_Signed_ok b h5.rd l[i] hxi.1 hxi.2 (by omega)).mono ?_⟩
      rintro _ w6 ⟨_, rfl, a6, c6, rfl, h6⟩
      rw [wrap_succ (by omega)]
      refine ⟨_, _, _, rfl, ⟨i + 1, _, a6, c6, rfl, by omega, ?_, h6.before h5.bel⟩, ?_⟩
      · rw [flatSig_take hil, hb]; rfl
      · simp only [Int.toNat_natCast]
        omega
    · have hie : l.take i = l := List.take_of_length_le (by omega)
      rw [hie] at hb
      subst hb
      exact .inr ⟨hok, a5, c5, rfl, h5⟩
theorem ints_zig_ok (w : World) {d : Int} (h : I64 d) : Calls Tryz.prog f.ints_zig #[.int .i64 d] w (Ret fun v w' => w' = w ∧ v = .int .u64 (zigN d : Int)) := by
  apply R.ints_zig_calls
  unfold R.ints_zig
  rw [zig_prog h.1 h.2]
  exact ⟨rfl, rfl⟩
theorem ints_packed_ok {w : World} {a : Option Addr} {c : Nat} {s : List Nat} {fm : Nat} (hf : fm < 256) {first : Int} (hfi : I64 first) (hs : Rd w a (s.map u64V)) (hn : s.length ≤ 4096) (hx : ∀ x ∈ s, x < 18446744073709551616) :
    Calls Tryz.prog f.ints_packed #[.int .u8 (fm : Int), .int .i64 first, .slice a s.length c] w (Ret fun v w' => ∃ a' c', v = .slice a' (UInt8.ofNat fm :: packedL first s).length c' ∧ NewB w w' (UInt8.ofNat fm :: packedL first s) a' c') := by
  apply R.ints_packed_calls
  unfold R.ints_packed
  refine (pack_Width_ok hs (by omega) hx).mono ?_
  rintro _ w ⟨_, rfl, wd, rfl, hwd, hwd64, rfl⟩
  obtain rfl := hwd.one (lenN_is _)
  refine ⟨_, rfl, (pack_Pack_ok hs hn hwd64 ((orL_lt _ _).1 hwd.1)).mono ?_⟩
  rintro _ w2 ⟨_, rfl, a2, c2, rfl, h2⟩
  obtain ⟨wd, hwdd⟩ : ∃ wd, wd = lenN (orL s) := ⟨_, rfl⟩
  rw [← hwdd] at h2 hwd hwd64 ⊢
  have l3 := packL_len s wd
  have l4 : sizeN s.length wd ≤ 4096 * 64 + 7 := by
    unfold sizeN
    have : s.length * wd ≤ 4096 * 64 := Nat.mul_le_mul (by omega) hwd64
    omega
  refine ⟨_, _, _, _, rfl, (SH.start (fun _ => False) w2).newB fun b3 w3 hb3 B3 S3 => ?_⟩
  have hr3 : Rd w3 (some ⟨b3, 0, none⟩) ([UInt8.ofNat fm].map byteV) := by
    have := Rd.of_block0 (S3.get 0 rfl)
    simpa [byteV_of hf] using this
  refine (wire_Signed_ok (c := 1) [UInt8.ofNat fm] hr3 first hfi.1 hfi.2 (by simp)).mono ?_
  rintro _ w4 ⟨_, rfl, a4, c4, rfl, h4⟩
  rw [wrap_u8_id (by omega) (by omega)]
  refine ⟨_, _, _, rfl, (SH.start (fun _ => False) w4).newB fun b5 w5 hb5 B5 S5 => S5.newB fun b6 w6 hb6 B6 S6 => ?_⟩
  have hd := digitsL_len10 (zigN_lt hfi.1 hfi.2)
  have hc := slices_Concat_ok (w := w6) (a := some ⟨b6, 0, none⟩) (c := 3) [(a4, c4, [UInt8.ofNat fm] ++ digitsL (zigN first)), (some ⟨b5, 0, none⟩, 1, [UInt8.ofNat wd]), (a2, c2, packL s wd)] (by
      have := Rd.of_block0 (S6.get 0 rfl)
      simpa [partV1] using this) (by
      intro p hp
      simp only [List.mem_cons, List.not_mem_nil, or_false] at hp
      rcases hp with rfl | rfl | rfl
      · exact (h4.rd.grown B5).grown B6
      · have := Rd.of_block0 (S6.get 1 rfl)
        simpa [byteV_of (show wd < 256 by omega)] using this
      · exact (((h2.rd.grown B3).grown h4.bel).grown B5).grown B6) (by simp) (by rw [flat3]; simp; omega)
  refine hc.mono ?_
  rintro _ w7 ⟨_, rfl, a7, c7, rfl, h7⟩
  rw [flat3] at h7 ⊢
  have e : [UInt8.ofNat fm] ++ digitsL (zigN first) ++ ([UInt8.ofNat wd] ++ packL s wd) = UInt8.ofNat fm :: packedL first s := by simp [packedL, sigL, hwdd]
  simp only at h7 ⊢
  rw [e] at h7 ⊢
  exact ⟨_, _, _, rfl, a7, c7, rfl, h7.before (below_trans (below_trans (below_trans (below_trans h2.bel B3) h4.bel) B5) B6)⟩
section
variable {w : World} {a : Option Addr} {c : Nat} {l : List Int}
theorem slices_Min_ok (hl : Rd w a (l.map i64V)) (h0 : 0 < l.length) (hn : l.length ≤ 1000000) :
    Calls Tryz.prog f.slices_Min_int64_int64 #[.slice a l.length c] w (Ret fun v w' => w' = w ∧ v = .int .i64 (minL l)) := by
  apply R.slices_Min_int64_int64_calls
  unfold R.slices_Min_int64_int64
  obtain ⟨p, rfl, hcell⟩ := int_head hl h0
  refine IFB_dec (fun h => by omega) (fun _ => ⟨⟨by omega, by omega⟩, _, hcell, ?_⟩)
  refine ⟨fun s w1 => w1 = w ∧ ∃ i : Nat, i ≤ l.length ∧ s = [.int .i64 (minTo l i), .int .i64 (i : Int)], fun s _ => match s with
      | [_, .int _ i] => l.length - i.toNat
      | _ => 0, ⟨rfl, 1, by omega, by rw [minTo_one h0]; rfl⟩, ?_⟩
  rintro _ _ w1 ⟨rfl, i, hi, hst⟩
  cases hst
  refine IFB_dec (fun hlt => ⟨⟨by omega, hlt⟩, ?_⟩) (fun hge => ⟨rfl, ?_⟩)
  · have hil : i < l.length := by omega
    obtain ⟨p', hp', hc⟩ := int_at hl hil
    cases hp'
    refine ⟨_, by rw [Int.toNat_natCast]; exact hc, ?_⟩
    rw [wrap_succ (by omega), ← minTo_succ hil]
    refine ⟨⟨rfl, i + 1, by omega, rfl⟩, ?_⟩
    simp only [Int.toNat_natCast]
    omega
  · have : i = l.length := by omega
    subst this
    rfl
theorem rd_drop {q : Nat} {vs : List Value} (h : Rd w a vs) (hc : vs.length ≤ c) : Rd w (SLA a q c 1) (vs.drop q) := by
  have h := h.sla q vs.length c 1 hc
  rw [Nat.mul_one, Nat.mul_one] at h
  have e : (vs.drop q).take (vs.length - q) = vs.drop q := List.take_of_length_le (by simp)
  rwa [e] at h
theorem ints_inRuns_ok : Calls Tryz.prog f.ints_inRuns #[.slice a l.length c] w (Ret fun v w' => ∃ b, v = .func (.func f.ints_inRuns_c1) #[] #[.pointer (some ⟨b, 0, none⟩)] ∧ SH (fun _ => False) w w' [(b, #[.slice a l.length c], ty.L_int64)]) := by
  apply R.ints_inRuns_calls
  unfold R.ints_inRuns
  exact (SH.start (fun _ => False) w).newB fun b1 w1 _ _ S1 => ⟨b1, rfl, S1⟩
theorem inRuns_c1_ok {L b : Nat} (hc : l.length ≤ c) (hn : l.length ≤ 1000000) (J : Nat → World → Prop) (hrd : ∀ k w, J k w → Rd w a (l.map i64V)) (hkeep : ∀ k w w', J k w → Keeps (· = b) w w' → J k w')
    (hstep : ∀ k n w, k < l.length → IsRun l k n → J k w → YLD Tryz.prog L #[.int .i64 (n : Int), .int .i64 (l.getD k 0)] (fun y w' => y = true ∧ J (k + n) w' ∧ w'.heap[b]? = w.heap[b]?) w)
    (h0 : J 0 w) (hb : w.heap[b]? = some (.cells #[.slice a l.length c] ty.L_int64 (0, 0))) :
    Calls Tryz.prog f.ints_inRuns_c1 #[.func (.yield L) #[] #[], .pointer (some ⟨b, 0, none⟩)] w (Ret fun _ w' => J l.length w') := by
  apply R.ints_inRuns_c1_calls
  unfold R.ints_inRuns_c1
  have cell_of : ∀ {w' : World} {v : Value}, w'.heap[b]? = some (.cells #[v] ty.L_int64 (0, 0)) → w'.cell? ⟨b, 0, none⟩ = some v := fun h => by simp [World.cell?, h]
  refine ⟨fun s w1 => s = [] ∧ ∃ (k : Nat) (ak : Option Addr) (ck : Nat), k ≤ l.length ∧ J k w1 ∧ w1.heap[b]? = some (.cells #[.slice ak (l.length - k) ck] ty.L_int64 (0, 0)) ∧ l.length - k ≤ ck ∧ (∀ w, Rd w a (l.map i64V) → Rd w ak ((l.drop k).map i64V)), fun _ w => match w.cell? ⟨b, 0, none⟩ with
      | some (.slice _ n _) => n
      | _ => 0, ⟨rfl, 0, a, c, by omega, h0, by simpa using hb, by omega, fun w h => by simpa using h⟩, ?_⟩
  rintro w1 ⟨_, k, ak, ck, hk, hj, hb1, hck, hr⟩
  refine ⟨_, _, _, cell_of hb1, IFB_dec (fun hpos => ?_) (fun hz => ?_)⟩
  · have hkl : k < l.length := by omega
    refine ⟨fun s w4 => ∃ n : Nat, s = [.int .i64 (n : Int)] ∧ IsRun l k n ∧ J k w4 ∧ w4.heap[b]? = some (.cells #[.slice ak (l.length - k) ck] ty.L_int64 (0, 0)), ?_, ?_⟩
    · have one : ∀ j, j < 1 → l[k + j]? = l[k]? := by
        intro j hj
        have : j = 0 := by omega
        subst this
        rfl
      refine ⟨fun s w2 => ∃ n : Nat, s = [.int .i64 (n : Int)] ∧ 0 < n ∧ k + n ≤ l.length ∧ (∀ j, j < n → l[k + j]? = l[k]?) ∧ J k w2 ∧ w2.heap[b]? = some (.cells #[.slice ak (l.length - k) ck] ty.L_int64 (0, 0)), fun s _ => match s with
          | [.int _ i] => l.length - i.toNat
          | _ => 0, ⟨1, rfl, by omega, by omega, one, hj, hb1⟩, ?_⟩
      rintro _ w2 ⟨n, hst, hn0, hnl, hall, hj2, hb2⟩
      cases hst
      unfold DRAW
      have hj3 : J k w2.drew := hkeep _ _ _ hj2 ((Keeps.refl _ _).drew)
      have hb3 : w2.drew.heap[b]? = some (.cells #[.slice ak (l.length - k) ck] ty.L_int64 (0, 0)) := hb2
      refine ⟨_, _, _, cell_of hb3, IFB_dec (fun hlt => ?_) (fun hge => ⟨n, rfl, ⟨hn0, hnl, hall, .inl (by omega)⟩, hj3, hb3⟩)⟩
      have hrk := hr _ (hrd _ _ hj3)
      have hnl2 : k + n < l.length := by omega
      have hd1 : n < (l.drop k).length := by rw [List.length_drop]; omega
      have hd0 : 0 < (l.drop k).length := by omega
      obtain ⟨p, rfl, hc1⟩ := int_at hrk hd1
      obtain ⟨p', hp', hc2⟩ := int_at hrk hd0
      cases hp'
      rw [Nat.zero_mul, addr_add_zero] at hc2
      refine ⟨_, _, _, cell_of hb3, ⟨by omega, by omega⟩, _, by rw [Int.toNat_natCast]; exact hc1, _, _, _, cell_of hb3, ⟨by omega, by omega⟩, _, hc2, ?_⟩
      have e1 : (l.drop k)[n] = l[k + n] := by simp
      have e2 : (l.drop k)[0] = l[k] := by simp
      rw [e1, e2]
      refine IFB_eq (fun he => ?_) (fun hne => ⟨n, rfl, ⟨hn0, hnl, hall, .inr ?_⟩, hj3, hb3⟩)
      · rw [wrap_succ (by omega)]
        refine ⟨⟨n + 1, rfl, by omega, by omega, fun j hj => ?_, hj3, hb3⟩, ?_⟩
        · rcases Nat.lt_or_ge j n with h | h
          · exact hall j h
          · have : j = n := by omega
            subst this
            rw [List.getElem?_eq_getElem hnl2, List.getElem?_eq_getElem hkl, he]
        · simp only [Int.toNat_natCast]
          omega
      · rw [List.getElem?_eq_getElem hnl2, List.getElem?_eq_getElem hkl]
        simpa using hne
    rintro _ w4 ⟨n, hst, hrun, hj4, hb4⟩
    cases hst
    have hn1 := hrun.pos
    have hn2 := hrun.le
    have hrk := hr _ (hrd _ _ hj4)
    have hd0 : 0 < (l.drop k).length := by rw [List.length_drop]; omega
    obtain ⟨p', hp', hc2⟩ := int_at hrk hd0
    subst hp'
    rw [Nat.zero_mul, addr_add_zero] at hc2
    have e2 : (l.drop k)[0] = l.getD k 0 := by simp [hkl]
    rw [e2] at hc2
    refine ⟨_, _, _, cell_of hb4, ⟨by omega, by omega⟩, _, hc2, ?_⟩
    obtain ⟨fn, tm, asg, bo, hy, hrr⟩ := hstep k n w4 hkl hrun hj4
    refine ⟨fn, tm, asg, bo, hy, hrr.mono ?_⟩
    rintro e w5 ⟨y, he, rfl, hj5, hb5⟩
    rw [hb4] at hb5
    refine ⟨true, he, IFB_false ⟨_, _, _, cell_of hb5, ⟨by omega, by omega, by omega⟩, ?_⟩⟩
    rw [Int.toNat_natCast]
    refine sto_blk hb5 (by simp) fun w6 K6 hb6 => ?_
    have hb6' : w6.heap[b]? = some (.cells #[.slice (SLA (some p') n ck 1) (l.length - k - n) (ck - n)] ty.L_int64 (0, 0)) := hb6
    have ek : l.length - k - n = l.length - (k + n) := by omega
    rw [ek] at hb6'
    refine ⟨⟨rfl, k + n, _, _, by omega, hkeep _ _ _ hj5 K6, hb6', by omega, fun w h => ?_⟩, ?_⟩
    · have := rd_drop (q := n) (c := ck) (hr w h) (by simp; omega)
      rwa [← List.map_drop, List.drop_drop] at this
    · show (match w6.cell? ⟨b, 0, none⟩ with | some (.slice _ n _) => n | _ => 0) < (match w1.cell? ⟨b, 0, none⟩ with | some (.slice _ n _) => n | _ => 0)
      rw [cell_of hb6', cell_of hb1]
      simp only
      omega
  · have : k = l.length := by omega
    subst this
    exact hj
end
theorem cell0 {w : World} {b : Nat} {v : Value} {t : TypeId} {f : Nat × Nat} (h : w.heap[b]? = some (.cells #[v] t f)) : w.cell? ⟨b, 0, none⟩ = some v := by simp [World.cell?, h]
section
variable {w : World} {a : Option Addr} {c : Nat} {l : List Int}
structure Held (w : World) (b4 : Nat) (F : Nat → Prop) (wx : World) (bs : List UInt8) : Prop where
  ex : ∃ (ba : Option Addr) (bc : Nat), wx.heap[b4]? = some (.cells #[.slice ba bs.length bc] ty.L_uint8 (0, 0)) ∧ Row wx ty.uint8 1 ba bs.length bc (bs.map byteV) ∧ ∀ x, rowB ba = some x → w.heap.size ≤ x ∧ x ≠ b4 ∧ ¬ F x
theorem Held.keeps {w wx wy : World} {b4 : Nat} {F G : Nat → Prop} {bs : List UInt8} (h : Held w b4 F wx bs) (K : Keeps G wx wy) (h4 : ¬ G b4) (hG : ∀ x, G x → F x ∨ wx.heap.size ≤ x) : Held w b4 F wy bs := by
  obtain ⟨ba, bc, h1, h2, h3⟩ := h.ex
  refine ⟨ba, bc, K.at h1 h4, h2.keeps K fun x hx hg => ?_, h3⟩
  rcases hG x hg with h | h
  · exact (h3 x hx).2.2 h
  · have := h2.lt hx
    omega
theorem ints_runs_ok {w w3 : World} {b4 : Nat} (hl : Rd w a (l.map i64V)) (hc : l.length ≤ c) (hn : l.length ≤ 4096) (hx : ∀ x ∈ l, I64 x) (B : Below w.heap.size w w3) (hb40 : w.heap.size ≤ b4)
    (hH : Held w b4 (fun _ => False) w3 [1]) {k : Value → World → Prop} (hk : ∀ w', Below w.heap.size w w' → Held w b4 (fun _ => False) w' (intsL 1 l) → ∀ ba bc, w'.cell? ⟨b4, 0, none⟩ = some (.slice ba (intsL 1 l).length bc) → k (.tuple #[.slice ba (intsL 1 l).length bc, .int .i64 0]) w') :
    Calls Tryz.prog f.ints_inRuns #[.slice a l.length c] w3 (fun e_15 w7 => ∃ (t52_14 : FuncId) (t52_14f t52_14c : Array Value), e_15 = .returned (.func (.func t52_14) t52_14f t52_14c) ∧ enters Tryz.prog t52_14 = true ∧ ∀ rr_16 : Loop, rr_16.state = .ready → rr_16.pending = none → (∀ (t53_17 : Int), ∀ (t54_18 : Int), ∀ (k_16 : Bool → World → Prop) (w8 : World), w8.heap[(w7.heap.size + 1)]? = some (.loop rr_16) → (BEGR rr_16 (w7.heap.size + 1) (fun w9 => ∃ (t55_19 : Option Addr) (t55_19l t55_19c : Nat), w9.cell? ⟨b4, 0, none⟩ = some (.slice t55_19 t55_19l t55_19c) ∧
      Calls Tryz.prog f.wire_Number #[.slice t55_19 t55_19l t55_19c, .int .u64 (IntKind.u64.wrap (t53_17))] w9 (fun e_21 w10 => ∃ (t58_20 : Option Addr) (t58_20l t58_20c : Nat), e_21 = .returned (.slice t58_20 t58_20l t58_20c) ∧ Calls Tryz.prog f.wire_Signed #[.slice t58_20 t58_20l t58_20c, .int .i64 t54_18] w10 (fun e_23 w11 => ∃ (t60_22 : Option Addr) (t60_22l t60_22c : Nat), e_23 = .returned (.slice t60_22 t60_22l t60_22c) ∧ STO ⟨b4, 0, none⟩ (.slice t60_22 t60_22l t60_22c) (fun w12 => ENDR rr_16 (w7.heap.size + 1) k_16 none w12) w11))) w8) → YLD Tryz.prog (w7.heap.size + 1) #[.int .i64 t53_17, .int .i64 t54_18] k_16 w8) →
      Calls Tryz.prog t52_14 ⟨t52_14f.toList ++ [.func (.yield (w7.heap.size + 1)) #[] #[]] ++ t52_14c.toList⟩ ((w7.alloc (.deferred (some []))).alloc (.loop rr_16)) (fun e_24 w13 => (∃ v, e_24 = .returned v) ∧ ENDL rr_16 (w7.heap.size + 1) (fun j_24 w14 => (j_24 = none ∧ ∃ (t112_25 : Option Addr) (t112_25l t112_25c : Nat), w14.cell? ⟨b4, 0, none⟩ = some (.slice t112_25 t112_25l t112_25c) ∧ w14.heap[w7.heap.size]? = some (.deferred (some [])) ∧ k (.tuple #[.slice t112_25 t112_25l t112_25c, .int .i64 0]) (w14.putObj w7.heap.size (.deferred none)))) w13)) := by
  have hlen := runsL_len 4096 l hn (by omega) hx
  refine ints_inRuns_ok.mono ?_
  rintro _ w9 ⟨_, rfl, bI, rfl, S9⟩
  refine ⟨_, _, _, rfl, by kernel_rfl, fun rr hst hpe hy => ?_⟩
  obtain ⟨W1, hW1⟩ : ∃ W1, W1 = (w9.alloc (.deferred (some []))).alloc (.loop rr) := ⟨_, rfl⟩
  rw [← hW1]
  have B91 : Below w9.heap.size w9 W1 := by rw [hW1]; exact (((Below.refl _ w9).alloc (Nat.le_refl _) _).alloc (by simp) _)
  have sz1 : W1.heap.size = w9.heap.size + 2 := by rw [hW1]; simp
  have hL1 : W1.heap[w9.heap.size + 1]? = some (.loop rr) := by
    rw [hW1]; have := World.alloc_heap_new (w9.alloc (.deferred (some []))) (.loop rr); rwa [World.size_alloc] at this
  have hD1 : W1.heap[w9.heap.size]? = some (.deferred (some [])) := by
    rw [hW1]; exact (Below.heap_alloc _ _ _ (by simp)).trans (World.alloc_heap_new w9 _)
  have K91 := Keeps.of_below (F := fun _ => False) B91
  obtain ⟨L, hLd⟩ : ∃ L, L = w9.heap.size + 1 := ⟨_, rfl⟩
  rw [← hLd] at hL1 hy ⊢
  obtain ⟨ba0, bc0, e1, e2, e3⟩ := hH.ex
  have hb4 : b4 < w3.heap.size := (Array.getElem?_eq_some_iff.1 e1).1
  have hbI : w3.heap.size ≤ bI := by simpa using S9.own (bI, _, _) (List.mem_cons_self ..)
  have hbI9 : bI < w9.heap.size := S9.lt (x := (bI, _, _)) (List.mem_cons_self ..)
  have hB39 := S9.below
  have Bw1 : Below w.heap.size w W1 := (below_trans B hB39).trans (B91.mono (below_trans B hB39).size)
  have w03 := B.size
  have w39 := hB39.size
  have hI1 : W1.heap[bI]? = some (.cells #[.slice a l.length c] ty.L_int64 (0, 0)) := K91.at (S9.get 0 rfl) (by simp)
  -- what holds through the rounds
  let F : Nat → Prop := fun x => x = L ∨ x = bI ∨ x = w9.heap.size
  have hJ0 : Held w b4 F W1 [1] := by
    refine ⟨ba0, bc0, K91.at ((Keeps.of_below (F := fun _ => False) hB39).at e1 (by simp)) (by simp), (e2.grown hB39).grown B91, fun x hx => ⟨(e3 x hx).1, (e3 x hx).2.1, ?_⟩⟩
    have := e2.lt hx
    show ¬ (x = L ∨ x = bI ∨ x = w9.heap.size)
    omega
  let J : Nat → World → Prop := fun q wx => Keeps (fun x => x = b4 ∨ x = L ∨ x = bI) W1 wx ∧ wx.heap[L]? = some (.loop rr) ∧ ∃ bs, Held w b4 F wx bs ∧ 1 :: runsL l = bs ++ runsL (l.drop q)
  have low : ∀ {w' : World}, Keeps (fun x => x = b4 ∨ x = L ∨ x = bI) W1 w' → Below w.heap.size w w' := fun K => Bw1.trans (K.below Bw1.size fun k hk h => by omega)
  have hcall := inRuns_c1_ok (w := W1) (L := L) (b := bI) hc (by omega) J (fun q wx hj => hl.grown (low hj.1)) (fun q wx wy hj K => by
      obtain ⟨j1, j2, bs, j3, j4⟩ := hj
      exact ⟨j1.trans K (fun x _ h => .inr (.inr h)), K.at j2 (by show ¬ L = bI; omega), bs, j3.keeps K (by show ¬ b4 = bI; omega) (fun x h => .inl (.inr (.inl h))), j4⟩) (by
    rintro q n wx hq hrun ⟨K, hL, bs, hHd, hE⟩
    obtain ⟨ba, bc, f1, f2, f3⟩ := hHd.ex
    have hbl : bs.length ≤ 1 + 4096 * 20 := by
      have := congrArg List.length hE
      simp only [List.length_append, List.length_cons] at this
      omega
    have hnn := hrun.le
    have hn0 := hrun.pos
    refine hy _ _ _ wx hL ⟨hL, ?_⟩
    obtain ⟨w11, hw11⟩ : ∃ w11, w11 = wx.putObj L (.loop { rr with state := .busy }) := ⟨_, rfl⟩
    rw [← hw11]
    have hLlt : L < wx.heap.size := (Array.getElem?_eq_some_iff.1 hL).1
    have K11 : Keeps (fun k => k = L) wx w11 := by rw [hw11]; exact keeps_putObj _ _ _
    have hL11 : w11.heap[L]? = some (.loop { rr with state := .busy }) := by rw [hw11]; exact World.putObj_heap_same hLlt
    have g1 := K11.at f1 (show ¬ b4 = L by omega)
    have g2 := f2.keeps K11 fun x hx he => (f3 x hx).2.2 (.inl he)
    rw [wrap_u64_id (by omega) (by omega)]
    refine ⟨_, _, _, cell0 g1, (wire_Number_ok bs g2.rd n (by omega) (by omega)).mono ?_⟩
    rintro _ w12 ⟨_, rfl, a12, c12, rfl, h12⟩
    have d10 := digitsL_len10 (n := n) (by omega)
    have hxq : I64 (l.getD q 0) := by rw [getD_int hq]; exact hx _ (List.getElem_mem hq)
    refine ⟨_, _, _, rfl, (wire_Signed_ok _ h12.rd _ hxq.1 hxq.2 (by rw [List.length_append]; omega)).mono ?_⟩
    rintro _ w13 ⟨_, rfl, a13, c13, rfl, h13⟩
    have B13 := below_trans h12.bel h13.bel
    have K13 := Keeps.of_below (F := fun _ => False) B13
    have g3 := K13.at g1 (by simp)
    refine ⟨_, _, _, rfl, sto_blk g3 (by simp) fun w14 K14 hb14 => ?_⟩
    have s11 : w11.heap.size = wx.heap.size := by rw [hw11]; simp
    have sx := K.size
    have sz12 := h12.bel.size
    have hL14 : w14.heap[L]? = some (.loop { rr with state := .busy }) := K14.at (K13.at hL11 (by simp)) (by show ¬ L = b4; omega)
    refine ⟨hL14, rfl, ?_⟩
    rw [rr_eta hst hpe]
    have hlt14 : L < w14.heap.size := (Array.getElem?_eq_some_iff.1 hL14).1
    have KP := keeps_putObj w14 L (.loop rr)
    have KK : Keeps (fun x => x = b4 ∨ x = L) wx (w14.putObj L (.loop rr)) :=
      (((K11.mono (G := fun x => x = b4 ∨ x = L) (fun x _ h => .inr h)).trans K13 (fun x _ h => h.elim)).trans K14 (fun x _ h => .inl h)).trans KP (fun x _ h => .inr h)
    have new13 : ∀ x, rowB a13 = some x → wx.heap.size ≤ x := fun x hx => by have := h13.new x hx; omega
    have R14 : Row (w14.putObj L (.loop rr)) ty.uint8 1 a13 (bs ++ digitsL n ++ digitsL (zigN (l.getD q 0))).length c13 ((bs ++ digitsL n ++ digitsL (zigN (l.getD q 0))).map byteV) :=
      (h13.row.keeps K14 fun x hx he => by have := new13 x hx; have := (Array.getElem?_eq_some_iff.1 f1).1; omega).keeps KP fun x hx he => by have := new13 x hx; omega
    refine ⟨⟨K.trans KK (fun x _ h => by rcases h with h | h <;> simp [h]), World.putObj_heap_same hlt14, _, ⟨a13, c13, ?_, R14, fun x hx => ?_⟩, ?_⟩, ?_⟩
    · exact KP.at hb14 (by show ¬ b4 = L; omega)
    · have := new13 x hx
      have := Bw1.size
      refine ⟨by omega, by omega, ?_⟩
      show ¬ (x = L ∨ x = bI ∨ x = w9.heap.size)
      omega
    · rw [hE, runs_cut hrun]
      simp [sigL]
    · exact KK.block bI (by omega) (by show ¬ (bI = b4 ∨ bI = L); omega)) ⟨.refl _ _, hL1, [1], hJ0, by simp⟩ hI1
  refine hcall.mono ?_
  rintro _ w14 ⟨_, rfl, K14, hL14, bs, hHd, hE⟩
  have hd : l.drop l.length = [] := by simp
  rw [hd, runsL_nil, List.append_nil] at hE
  subst hE
  refine ⟨⟨_, rfl⟩, none, by rw [rr_eta hst hpe]; exact hL14, rfl, ?_⟩
  obtain ⟨w15, hw15⟩ : ∃ w15, w15 = w14.putObj L (.loop { rr with state := .exhausted, pending := none }) := ⟨_, rfl⟩
  rw [← hw15]
  have K15 : Keeps (fun k => k = L) w14 w15 := by rw [hw15]; exact keeps_putObj _ _ _
  have H15 := hHd.keeps K15 (show ¬ b4 = L by omega) (fun x h => .inl (.inl h))
  have KF := K14.trans K15 (fun x _ h => .inr (.inl h))
  have hD15 : w15.heap[w9.heap.size]? = some (.deferred (some [])) := KF.at hD1 (by show ¬ (w9.heap.size = b4 ∨ w9.heap.size = L ∨ w9.heap.size = bI); omega)
  have KD := keeps_putObj w15 w9.heap.size (.deferred none)
  have H16 := H15.keeps KD (show ¬ b4 = w9.heap.size by omega) (fun x h => .inl (.inr (.inr h)))
  have B15 := low KF
  obtain ⟨ba, bc, f1, f2, f3⟩ := H15.ex
  obtain ⟨ba', bc', f1', f2', f3'⟩ := H16.ex
  refine ⟨_, _, _, cell0 f1, hD15, hk _ (B15.trans (KD.below B15.size fun k hk he => by omega)) ⟨ba', bc', f1', f2', fun x hx => ⟨(f3' x hx).1, (f3' x hx).2.1, fun h => h⟩⟩ ba bc ?_⟩
  have := KD.at f1 (show ¬ b4 = w9.heap.size by omega)
  exact cell0 this
theorem ints_Encode_ok (form : Int) (hl : Rd w a (l.map i64V)) (hc : l.length ≤ c) (hx : ∀ x ∈ l, I64 x) :
    Calls Tryz.prog f.ints_Encode #[.int .i64 form, .slice a l.length c] w (Ret fun v w' => IntsV form l w w' v) := by
  apply R.ints_Encode_calls
  unfold R.ints_Encode
  have bad : ¬ intsOk form l → IntsV form l w w (.tuple #[.slice none 0 0, .int .i64 2]) := fun h => .inl ⟨h, rfl, .refl _ _⟩
  refine IFB_dec (fun h => bad fun hk => by have := hk.1; omega) (fun h1 => IFB_dec (fun h => bad fun hk => by have := hk.2.1; omega) (fun h2 => IFB_dec (fun h => bad fun hk => by have := hk.2.2; omega) (fun h3 => ?_)))
  have hok : intsOk form l := ⟨by omega, by omega, by omega⟩
  have hn : l.length ≤ 4096 := by omega
  obtain ⟨fm, rfl⟩ : ∃ m : Nat, form = (m : Int) := ⟨form.toNat, by omega⟩
  rw [wrap_u8_id (by omega) (by omega)]
  refine (SH.start (fun _ => False) w).newB fun b3 w1 hb3 B1 S1 => S1.newB fun b4 w2 hb4 B2 S2 => S2.stoK 0 rfl (show 0 < 1 by decide) fun w3 K3 S3 => ?_
  have hfb : fm < 256 := by omega
  have B3 := S3.below
  have hb34 : b3 ≠ b4 := S3.ne 1 0 rfl rfl (by decide)
  have hb3w : w.heap.size ≤ b3 := hb3
  have hb4w : w.heap.size ≤ b4 := by have := B1.size; omega
  have hN : NewB w w3 [UInt8.ofNat fm] (some ⟨b3, 0, none⟩) 1 := by
    refine ⟨⟨rfl, .inr ⟨b3, _, rfl, S3.get 1 rfl, by simp, by omega, rfl, ?_⟩⟩, fun k hk => ?_, B3⟩
    · simp [byteV_of hfb]
    · cases hk; exact hb3
  have hg3 : w3.heap[b4]? = some (.cells #[.slice (some ⟨b3, 0, none⟩) 1 1] ty.L_uint8 (0, 0)) := S3.get 0 rfl
  -- a new slice under the cell: what is handed back
  have fin : ∀ {wx : World} {bs : List UInt8} {ba : Option Addr} {bc : Nat}, NewB w wx bs ba bc → bs = intsL fm l → IntsV (fm : Int) l w wx (.tuple #[.slice ba bs.length bc, .int .i64 0]) := by
    rintro wx bs ba bc h rfl
    exact .inr ⟨hok, ba, bc, by rw [Int.toNat_natCast], by rw [Int.toNat_natCast]; exact h⟩
  refine IFB_eq (fun hz => ⟨_, _, _, cell0 hg3, ?_⟩) (fun hnz => ?_)
  · have hl0 : l = [] := List.eq_nil_of_length_eq_zero (by omega)
    refine fin hN ?_
    subst hl0
    rcases (by omega : fm = 0 ∨ fm = 1 ∨ fm = 2 ∨ fm = 3) with rfl | rfl | rfl | rfl
    · rfl
    · show _ = 1 :: runsL []
      rw [runsL_nil]; rfl
    · rfl
    · rfl
  have hp : 0 < l.length := by omega
  have hne' : l ≠ [] := List.length_pos_iff.1 hp
  refine IFB_eq (fun hf => ?_) (fun hf0 => IFB_eq (fun hf => ?_) (fun hf1 => IFB_eq (fun hf => ?_) (fun hf2 => IFB_eq (fun hf => ?_) (fun hf3 => by omega))))
  · have : fm = 0 := by omega
    subst this
    refine ⟨fun s w5 => ∃ (i : Nat) (b : List UInt8) (a5 : Option Addr) (c5 : Nat), s = [.int .i64 (i : Int)] ∧ i ≤ l.length ∧ b = 0 :: (l.take i).flatMap sigL ∧ NewB w w5 b a5 c5 ∧ w5.heap[b4]? = some (.cells #[.slice a5 b.length c5] ty.L_uint8 (0, 0)) ∧ (∀ x, rowB a5 = some x → x ≠ b4), fun s _ => match s with
        | [.int _ i] => l.length - i.toNat
        | _ => 0, ⟨0, [0], _, _, rfl, by omega, by simp, hN, hg3, fun x hx => by cases hx; exact hb34⟩, ?_⟩
    rintro _ w5 ⟨i, b, a5, c5, hst, hi, hb, h5, g5, n5⟩
    cases hst
    have hbl : b.length ≤ 1 + 4096 * 10 := by
      have := flatSig_len (l := l.take i) fun x h => hx x (List.mem_of_mem_take h)
      rw [List.length_take] at this
      rw [hb, List.length_cons]
      omega
    refine IFB_dec (fun hlt => ⟨⟨by omega, hlt⟩, ?_⟩) (fun hge => ⟨_, _, _, cell0 g5, ?_⟩)
    · have hil : i < l.length := by omega
      obtain ⟨p, rfl, hc⟩ := int_at (hl.grown h5.bel) hil
      have hxi := hx _ (List.getElem_mem hil)
      refine ⟨_, by rw [Int.toNat_natCast]; exact hc, _, _, _, cell0 g5, (wire_Signed_ok b h5.rd l[i] hxi.1 hxi.2 (by omega)).mono ?_⟩
      rintro _ w6 ⟨_, rfl, a6, c6, rfl, h6⟩
      have g6 := (Keeps.of_below (F := fun _ => False) h6.bel).at g5 (by simp)
      have l5 : b4 < w5.heap.size := (Array.getElem?_eq_some_iff.1 g5).1
      refine ⟨_, _, _, rfl, sto_blk g6 (by simp) fun w7 K7 g7 => ?_⟩
      rw [wrap_succ (by omega)]
      have h6' := h6.before h5.bel
      have n6 : ∀ x, rowB a6 = some x → x ≠ b4 := fun x hx => by have := h6.new x hx; omega
      refine ⟨⟨i + 1, _, a6, c6, rfl, by omega, ?_, ⟨h6'.row.keeps K7 fun x hx he => n6 x hx he, h6'.new, h6'.bel.trans (K7.below h6'.bel.size fun k hk he => by omega)⟩, g7, n6⟩, ?_⟩
      · rw [flatSig_take hil, hb]; rfl
      · simp only [Int.toNat_natCast]
        omega
    · have hie : l.take i = l := List.take_of_length_le (by omega)
      rw [hie] at hb
      exact fin h5 hb
  · have : fm = 1 := by omega
    subst this
    refine ints_runs_ok (k := fun v w' => IntsV ((1 : Nat) : Int) l w w' v) hl hc hn hx B3 hb4w ⟨_, _, hg3, hN.row, fun x hx => by cases hx; exact ⟨hb3, hb34, fun h => h⟩⟩ ?_
    rintro w' B' ⟨ba', bc', f1, f2, f3⟩ ba bc hcell
    have e := (cell0 f1).symm.trans hcell
    simp only [Option.some.injEq, Value.slice.injEq, true_and] at e
    obtain ⟨rfl, rfl⟩ := e
    exact fin ⟨f2, fun k hk => (f3 k hk).1, B'⟩ rfl
  · have : fm = 2 := by omega
    subst this
    have hsl : (stepsN l).length = l.length - 1 := by simp [stepsN]
    refine ⟨⟨by omega, by omega, by omega⟩, fun s w1 => ∃ (i : Nat) (a1 : Option Addr) (c1 : Nat), s = [.slice a1 ((stepsN l).take i).length c1, .int .i64 (i : Int)] ∧ i + 1 ≤ l.length ∧ NewU w3 w1 ((stepsN l).take i) a1 c1, fun s _ => match s with
      | [_, .int _ i] => l.length - i.toNat
      | _ => 0, ⟨0, none, 0, rfl, by omega, NewU.nil w3⟩, ?_⟩
    rintro a1 _ c1 _ w15 ⟨i, _, _, hst, hi, h1⟩
    cases hst
    have C1 := below_trans B3 h1.bel
    refine IFB_dec (fun hlt => ⟨⟨by omega, by omega⟩, ?_⟩) (fun hge => ?_)
    · have hi1 : i + 1 < l.length := by omega
      have hi0 : i < l.length := by omega
      have hrd1 := rd_drop (q := 1) (hl.grown C1) (by rw [List.length_map]; exact hc)
      rw [← List.map_drop] at hrd1
      have hd1 : i < (l.drop 1).length := by rw [List.length_drop]; omega
      obtain ⟨p1, hp1, hc1⟩ := int_at hrd1 hd1
      rw [hp1]
      have e1 : (l.drop 1)[i] = l[i + 1] := by simp
      rw [e1] at hc1
      obtain ⟨p, rfl, hc2⟩ := int_at (hl.grown C1) hi0
      refine ⟨_, by rw [Int.toNat_natCast]; exact hc1, ⟨by omega, by omega⟩, _, by rw [Int.toNat_natCast]; exact hc2, ?_⟩
      refine (ints_zig_ok w15 (wrap_I64 (l[i + 1] - l[i]))).mono ?_
      rintro _ w5 ⟨_, rfl, rfl, rfl⟩
      refine ⟨_, rfl, (SH.start (fun _ => False) w5).newB fun b6 w6 hb6 B6 S6 => ?_⟩
      refine append_u64 (h1.grown B6) (by rw [List.length_take]; omega) rfl (S6.get 0 rfl) fun a7 c7 w7 h7 => ⟨_, _, _, rfl, ?_⟩
      rw [← stepsN_take hi1] at h7 ⊢
      rw [wrap_succ (by omega)]
      refine ⟨⟨i + 1, a7, c7, rfl, by omega, h7⟩, ?_⟩
      simp only [Int.toNat_natCast]
      omega
    · have hie : (stepsN l).take i = stepsN l := List.take_of_length_le (by omega)
      rw [hie] at h1 ⊢
      obtain ⟨p, rfl, hcell⟩ := int_head (hl.grown C1) hp
      have hh : I64 (l.headD 0) := by
        have := minTo_I64 hx hp 0
        simpa [minTo] using this
      refine ⟨⟨by omega, by omega⟩, _, hcell, (ints_packed_ok (fm := 2) (by omega) hh h1.row.rd (by omega) stepsN_lt).mono ?_⟩
      rintro _ w6 ⟨_, rfl, a6, c6, rfl, h6⟩
      have g6 := (Keeps.of_below (F := fun _ => False) (below_trans h1.bel h6.bel)).at hg3 (by simp)
      have l3 : b4 < w3.heap.size := (Array.getElem?_eq_some_iff.1 hg3).1
      have s13 := h1.bel.size
      refine ⟨_, _, _, rfl, sto_blk g6 (by simp) fun w7 K7 g7 => ⟨_, _, _, cell0 g7, ?_⟩⟩
      have h6' := h6.before C1
      exact fin ⟨h6'.row.keeps K7 fun x hx he => by have := h6.new x hx; omega, h6'.new, h6'.bel.trans (K7.below h6'.bel.size fun k hk he => by omega)⟩ (by simp only [intsL]; rw [if_neg hne']; rfl)
  · have : fm = 3 := by omega
    subst this
    have hsl : (frameN l).length = l.length := by simp [frameN]
    have hmI := minTo_I64 hx hp l.length
    have hm : minTo l l.length = minL l := rfl
    rw [hm] at hmI
    refine (slices_Min_ok (hl.grown B3) hp (by omega)).mono ?_
    rintro _ w3 ⟨_, rfl, rfl, rfl⟩
    refine ⟨_, rfl, fun s w1 => ∃ (i : Nat) (a1 : Option Addr) (c1 : Nat), s = [.slice a1 ((frameN l).take i).length c1, .int .i64 (i : Int)] ∧ i ≤ l.length ∧ NewU w3 w1 ((frameN l).take i) a1 c1, fun s _ => match s with
      | [_, .int _ i] => l.length - i.toNat
      | _ => 0, ⟨0, none, 0, rfl, by omega, NewU.nil w3⟩, ?_⟩
    rintro a1 _ c1 _ w15 ⟨i, _, _, hst, hi, h1⟩
    cases hst
    have C1 := below_trans B3 h1.bel
    refine IFB_dec (fun hlt => ⟨⟨by omega, by omega⟩, ?_⟩) (fun hge => ?_)
    · have hi0 : i < l.length := by omega
      obtain ⟨p, rfl, hc2⟩ := int_at (hl.grown C1) hi0
      have hmem := List.getElem_mem hi0
      refine ⟨_, by rw [Int.toNat_natCast]; exact hc2, (SH.start (fun _ => False) w15).newB fun b6 w6 hb6 B6 S6 => ?_⟩
      have ew : IntKind.u64.wrap (IntKind.i64.wrap (l[i] - minL l)) = ((l[i] - minL l).toNat : Int) := by
        have q1 := hx _ hmem
        have q2 := minL_le hmem
        unfold I64 at q1 hmI
        rw [wrap_u64, wrap_i64_def]
        split <;> omega
      rw [ew] at S6
      refine append_u64 (h1.grown B6) (by rw [List.length_take]; omega) rfl (S6.get 0 rfl) fun a7 c7 w7 h7 => ⟨_, _, _, rfl, ?_⟩
      rw [← frameN_take hi0] at h7 ⊢
      rw [wrap_succ (by omega)]
      refine ⟨⟨i + 1, a7, c7, rfl, by omega, h7⟩, ?_⟩
      simp only [Int.toNat_natCast]
      omega
    · have hie : (frameN l).take i = frameN l := List.take_of_length_le (by omega)
      rw [hie] at h1 ⊢
      refine (ints_packed_ok (fm := 3) (by omega) hmI h1.row.rd (by omega) (frameN_lt hx)).mono ?_
      rintro _ w6 ⟨_, rfl, a6, c6, rfl, h6⟩
      have g6 := (Keeps.of_below (F := fun _ => False) (below_trans h1.bel h6.bel)).at hg3 (by simp)
      have l3 : b4 < w3.heap.size := (Array.getElem?_eq_some_iff.1 hg3).1
      have s13 := h1.bel.size
      refine ⟨_, _, _, rfl, sto_blk g6 (by simp) fun w7 K7 g7 => ⟨_, _, _, cell0 g7, ?_⟩⟩
      have h6' := h6.before C1
      exact fin ⟨h6'.row.keeps K7 fun x hx he => by have := h6.new x hx; omega, h6'.new, h6'.bel.trans (K7.below h6'.bel.size fun k hk he => by omega)⟩ (by simp only [intsL]; rw [if_neg hne']; rfl)
end
def bestTo (s : Nat → Nat) : Nat → Nat
  | 0 => 0
  | f + 1 => if f = 0 then 0 else if s f < s (bestTo s f) then f else bestTo s f
def sizeI (l : List Int) (f : Nat) : Nat := (intsL f l).length
def bestN (l : List Int) : Nat := bestTo (sizeI l) 4
theorem bestTo_spec (s : Nat → Nat) : ∀ f, 0 < f → bestTo s f < f ∧ (∀ j, j < f → s (bestTo s f) ≤ s j) ∧ (∀ j, j < bestTo s f → s (bestTo s f) < s j)
  | 0, h => by omega
  | f + 1, _ => by
    by_cases h0 : f = 0
    · subst h0
      have e : bestTo s (0 + 1) = 0 := by simp [bestTo]
      rw [e]
      refine ⟨by omega, fun j hj => ?_, fun j hj => by omega⟩
      have : j = 0 := by omega
      subst this
      exact Nat.le_refl _
    · obtain ⟨h1, h2, h3⟩ := bestTo_spec s f (by omega)
      by_cases hs : s f < s (bestTo s f)
      · have e : bestTo s (f + 1) = f := by simp only [bestTo]; rw [if_neg h0, if_pos hs]
        rw [e]
        refine ⟨by omega, fun j hj => ?_, fun j hj => ?_⟩
        · rcases Nat.lt_or_ge j f with h | h
          · have := h2 j h; omega
          · have : j = f := by omega
            subst this; exact Nat.le_refl _
        · have := h2 j hj; omega
      · have e : bestTo s (f + 1) = bestTo s f := by simp only [bestTo]; rw [if_neg h0, if_neg hs]
        rw [e]
        refine ⟨by omega, fun j hj => ?_, h3⟩
        rcases Nat.lt_or_ge j f with h | h
        · exact h2 j h
        · have : j = f := by omega
          subst this; omega
theorem bestN_le (l : List Int) : bestN l ≤ 3 := by
  have := (bestTo_spec (sizeI l) 4 (by omega)).1
  unfold bestN
  omega
theorem ints_ok {f : Nat} {l : List Int} (hf : f ≤ 3) (hn : l.length ≤ 4096) : intsOk (f : Int) l := ⟨by omega, by omega, by omega⟩
section
variable {w : World} {a : Option Addr} {c : Nat} {l : List Int}
theorem IntsV.good {f : Nat} {w' : World} {r : Value} (hf : f ≤ 3) (hn : l.length ≤ 4096) (h : IntsV (f : Int) l w w' r) : ∃ a c, r = .tuple #[.slice a (sizeI l f) c, .int .i64 0] ∧ NewB w w' (intsL f l) a c := by
  rcases h with ⟨h, _⟩ | ⟨_, a, c, rfl, h⟩
  · exact absurd (ints_ok hf hn) h
  · rw [Int.toNat_natCast] at h ⊢
    exact ⟨a, c, rfl, h⟩
theorem ref_ints_Best_ok (hl : Rd w a (l.map i64V)) (hn : l.length ≤ 4096) (hx : ∀ x ∈ l, I64 x) :
    Calls Tryz.prog f.ref06_Best #[.slice a l.length c] w (Ret fun v w' => v = .tuple #[.int .i64 (bestN l : Int), .int .i64 0] ∧ Below w.heap.size w w') := by
  apply R.ref06_Best_calls
  unfold R.ref06_Best
  refine IFB_dec (fun h => by omega) (fun _ => ?_)
  refine ⟨fun s w1 => ∃ f : Nat, f ≤ 4 ∧ s = [.int .i64 (bestTo (sizeI l) f : Int), .int .i64 ((if f = 0 then 0 else sizeI l (bestTo (sizeI l) f) : Nat) : Int), .int .i64 (f : Int)] ∧ Below w.heap.size w w1, fun s _ => match s with
      | [_, _, .int _ i] => 4 - i.toNat
      | _ => 0, ⟨0, by omega, rfl, .refl _ _⟩, ?_⟩
  rintro _ _ _ w1 ⟨f, hf, hst, B1⟩
  cases hst
  refine IFB_dec (fun hlt => ?_) (fun hge => ?_)
  · refine (ref_ints_Encode_ok (f : Int) (hl.grown B1) hx).mono ?_
    rintro _ w2 ⟨_, rfl, h2⟩
    obtain ⟨a2, c2, rfl, h2'⟩ := h2.good (by omega) hn
    clear h2
    have h2 := h2'
    have C2 := below_trans B1 h2.bel
    refine ⟨_, _, _, _, rfl, ?_⟩
    rw [wrap_succ (by omega)]
    refine IFB_eq (fun h0 => ?_) (fun hne => IFB_dec (fun hs => ?_) (fun hs => ?_))
    · have : f = 0 := by omega
      subst this
      exact ⟨⟨1, by omega, by simp [bestTo], C2⟩, by simp⟩
    · have hf0 : f ≠ 0 := by omega
      rw [if_neg hf0] at hs
      refine ⟨⟨f + 1, by omega, ?_, C2⟩, by simp only [Int.toNat_natCast]; omega⟩
      have e : bestTo (sizeI l) (f + 1) = f := by simp only [bestTo]; rw [if_neg hf0, if_pos (by omega)]
      rw [e, if_neg (by omega)]
    · have hf0 : f ≠ 0 := by omega
      rw [if_neg hf0] at hs
      refine ⟨⟨f + 1, by omega, ?_, C2⟩, by simp only [Int.toNat_natCast]; omega⟩
      have e : bestTo (sizeI l) (f + 1) = bestTo (sizeI l) f := by simp only [bestTo]; rw [if_neg hf0, if_neg (by omega)]
      simp [e, hf0]
  · have : f = 4 := by omega
    subst this
    exact ⟨rfl, B1⟩
theorem slices_MinI_ok (hl : Rd w a (l.map i64V)) (h0 : 0 < l.length) (hn : l.length ≤ 1000000) :
    Calls Tryz.prog f.slices_Min_int_int #[.slice a l.length c] w (Ret fun v w' => w' = w ∧ v = .int .i64 (minL l)) := by
  apply R.slices_Min_int_int_calls
  unfold R.slices_Min_int_int
  obtain ⟨p, rfl, hcell⟩ := int_head hl h0
  refine IFB_dec (fun h => by omega) (fun _ => ⟨⟨by omega, by omega⟩, _, hcell, ?_⟩)
  refine ⟨fun s w1 => w1 = w ∧ ∃ i : Nat, i ≤ l.length ∧ s = [.int .i64 (minTo l i), .int .i64 (i : Int)], fun s _ => match s with
      | [_, .int _ i] => l.length - i.toNat
      | _ => 0, ⟨rfl, 1, by omega, by rw [minTo_one h0]; rfl⟩, ?_⟩
  rintro _ _ w1 ⟨rfl, i, hi, hst⟩
  cases hst
  refine IFB_dec (fun hlt => ⟨⟨by omega, hlt⟩, ?_⟩) (fun hge => ⟨rfl, ?_⟩)
  · have hil : i < l.length := by omega
    obtain ⟨p', hp', hc⟩ := int_at hl hil
    cases hp'
    refine ⟨_, by rw [Int.toNat_natCast]; exact hc, ?_⟩
    rw [wrap_succ (by omega), ← minTo_succ hil]
    refine ⟨⟨rfl, i + 1, by omega, rfl⟩, ?_⟩
    simp only [Int.toNat_natCast]
    omega
  · have : i = l.length := by omega
    subst this
    rfl
theorem slices_Index_ok (x : Int) (hl : Rd w a (l.map i64V)) (hn : l.length ≤ 1000000) :
    Calls Tryz.prog f.slices_Index_int_int #[.slice a l.length c, .int .i64 x] w (Ret fun v w' => w' = w ∧ ∃ i : Int, v = .int .i64 i ∧ ((i = -1 ∧ x ∉ l) ∨ ∃ k : Nat, i = k ∧ l[k]? = some x ∧ ∀ j, j < k → l[j]? ≠ some x)) := by
  apply R.slices_Index_int_int_calls
  unfold R.slices_Index_int_int
  refine ⟨fun s w1 => w1 = w ∧ ∃ i : Nat, i ≤ l.length ∧ s = [.int .i64 (i : Int)] ∧ ∀ j, j < i → l[j]? ≠ some x, fun s _ => match s with
      | [.int _ i] => l.length - i.toNat
      | _ => 0, ⟨rfl, 0, by omega, rfl, by omega⟩, ?_⟩
  rintro _ w1 ⟨rfl, i, hi, hst, hall⟩
  cases hst
  refine IFB_dec (fun hlt => ⟨⟨by omega, hlt⟩, ?_⟩) (fun hge => ⟨rfl, _, rfl, .inl ⟨rfl, fun hx => ?_⟩⟩)
  · have hil : i < l.length := by omega
    obtain ⟨p, rfl, hc⟩ := int_at hl hil
    refine ⟨_, by rw [Int.toNat_natCast]; exact hc, IFB_eq (fun he => ⟨rfl, _, rfl, .inr ⟨i, rfl, ?_, hall⟩⟩) (fun hne => ?_)⟩
    · rw [List.getElem?_eq_getElem hil, he]
    · rw [wrap_succ (by omega)]
      refine ⟨⟨rfl, i + 1, by omega, rfl, fun j hj => ?_⟩, ?_⟩
      · rcases Nat.lt_or_ge j i with h | h
        · exact hall j h
        · have : j = i := by omega
          subst this
          rw [List.getElem?_eq_getElem hil]
          simpa using fun h => hne h.symm
      · simp only [Int.toNat_natCast]
        omega
  · obtain ⟨k, hk⟩ := List.mem_iff_getElem?.1 hx
    have hkl := (List.getElem?_eq_some_iff.1 hk).1
    exact hall k (by omega) hk
theorem tI : slT Tryz.prog ty.L_int = some (ty.int, 1, 8, .int .i64 0) := by kernel_rfl
theorem least_plain (s : Nat → Nat) {k : Nat} (h1 : [(s 0 : Int), s 1, s 2, s 3][k]? = some (minL [(s 0 : Int), s 1, s 2, s 3])) (h2 : ∀ j, j < k → [(s 0 : Int), s 1, s 2, s 3][j]? ≠ some (minL [(s 0 : Int), s 1, s 2, s 3])) : k = bestTo s 4 := by
  have hm : ∀ x ∈ [(s 0 : Int), s 1, s 2, s 3], minL [(s 0 : Int), s 1, s 2, s 3] ≤ x := fun x hx => minL_le hx
  obtain ⟨m, hmd⟩ : ∃ m, m = minL [(s 0 : Int), s 1, s 2, s 3] := ⟨_, rfl⟩
  rw [← hmd] at h1 h2 hm
  have m0 := hm (s 0) (by simp)
  have m1 := hm (s 1) (by simp)
  have m2 := hm (s 2) (by simp)
  have m3 := hm (s 3) (by simp)
  have hk : k < 4 := by
    have := (List.getElem?_eq_some_iff.1 h1).1
    simpa using this
  obtain ⟨q1, q2, q3⟩ := bestTo_spec s 4 (by omega)
  have get : ∀ j, j < 4 → [(s 0 : Int), s 1, s 2, s 3][j]? = some ((s j : Nat) : Int) := by
    intro j hj
    rcases (by omega : j = 0 ∨ j = 1 ∨ j = 2 ∨ j = 3) with rfl | rfl | rfl | rfl <;> rfl
  have mk : m = s k := by have := get k hk; rw [h1] at this; exact Option.some.inj this
  rcases Nat.lt_trichotomy k (bestTo s 4) with h | h | h
  · have := q3 k h
    have : m ≤ s (bestTo s 4) := by
      rcases (by omega : bestTo s 4 = 0 ∨ bestTo s 4 = 1 ∨ bestTo s 4 = 2 ∨ bestTo s 4 = 3) with e | e | e | e <;> rw [e] <;> assumption
    omega
  · exact h
  · exfalso
    have := q2 k hk
    apply h2 _ h
    rw [get _ q1]
    have : m ≤ s (bestTo s 4) := by
      rcases (by omega : bestTo s 4 = 0 ∨ bestTo s 4 = 1 ∨ bestTo s 4 = 2 ∨ bestTo s 4 = 3) with e | e | e | e <;> rw [e] <;> assumption
    congr 1
    omega
theorem ints_Best_ok (hl : Rd w a (l.map i64V)) (hc : l.length ≤ c) (hn : l.length ≤ 4096) (hx : ∀ x ∈ l, I64 x) :
    Calls Tryz.prog f.ints_Best #[.slice a l.length c] w (Ret fun v w' => v = .tuple #[.int .i64 (bestN l : Int), .int .i64 0] ∧ Below w.heap.size w w') := by
  apply R.ints_Best_calls
  unfold R.ints_Best
  let S : Nat → List Int := fun k => (List.range k).map fun f => ((sizeI l f : Nat) : Int)
  have hS : ∀ k, (S k).length = k := fun k => by simp [S]
  refine ⟨fun s w1 => ∃ (k : Nat) (a1 : Option Addr) (c1 : Nat), s = [.slice a1 k c1, .int .i64 (k : Int)] ∧ k ≤ 4 ∧ Row w1 ty.int 1 a1 k c1 ((S k).map i64V) ∧ (∀ x, rowB a1 = some x → w.heap.size ≤ x) ∧ Below w.heap.size w w1, fun s _ => match s with
      | [_, .int _ i] => 4 - i.toNat
      | _ => 0, ⟨0, none, 0, rfl, by omega, Row.nil _ _ _, by simp [rowB], .refl _ _⟩, ?_⟩
  rintro a1 k c1 _ w1 ⟨_, _, _, hst, hk, R1, N1, B1⟩
  cases hst
  refine IFB_dec (fun hlt => ?_) (fun hge => ?_)
  · refine (ints_Encode_ok (k : Int) (hl.grown B1) hc hx).mono ?_
    rintro _ w2 ⟨_, rfl, h2⟩
    obtain ⟨a2, c2, rfl, h2'⟩ := h2.good (by omega) hn
    clear h2
    have h2 := h2'
    refine ⟨_, _, _, _, rfl, IFB_ne (fun h => absurd rfl h) (fun _ => (SH.start (fun _ => False) w2).newB fun b3 w3 hb3 B3 S3 => ?_)⟩
    have hsrc : Rd w3 (some ⟨b3, 0, none⟩) [i64V (sizeI l k)] := by
      have := Rd.of_block0 (S3.get 0 rfl)
      simpa [i64V] using this
    have C3 := below_trans (below_trans B1 h2.bel) B3
    obtain ⟨a5, c5, w5, hrun, hrow, hk5, hnw⟩ := append_row (ty := ty.L_int) (mc := 1) tI rfl (by omega) (by omega) ((R1.grown h2.bel).grown B3) hsrc (m := 1) rfl (by simp [i64V]; rfl) (by omega)
    unfold OPR
    rw [hrun]
    refine ⟨_, _, _, rfl, ?_⟩
    rw [wrap_succ (by omega)]
    refine ⟨⟨k + 1, a5, c5, rfl, by omega, ?_, fun x hx => ?_, C3.trans (hk5.below C3.size fun x hx he => by have := N1 x he; omega)⟩, ?_⟩
    · have e : S (k + 1) = S k ++ [((sizeI l k : Nat) : Int)] := by simp [S, List.range_succ]
      rw [e, List.map_append]
      exact hrow
    · rcases hnw x hx with h | h
      · exact N1 x h
      · exact Nat.le_trans C3.size h
    · simp only [Int.toNat_natCast]
      omega
  · have : k = 4 := by omega
    subst this
    have hleast : Calls Tryz.prog f.ints_least_int #[.slice a1 4 c1] w1 (Ret fun v w' => w' = w1 ∧ v = .int .i64 (bestN l : Int)) := by
      apply R.ints_least_int_calls
      unfold R.ints_least_int
      have h4 : (4 : Nat) = (S 4).length := (hS 4).symm
      rw [h4]
      refine (slices_MinI_ok R1.rd (by rw [hS]; omega) (by rw [hS]; omega)).mono ?_
      rintro _ w1 ⟨_, rfl, rfl, rfl⟩
      refine ⟨_, rfl, (slices_Index_ok _ R1.rd (by rw [hS]; omega)).mono ?_⟩
      rintro _ w1 ⟨_, rfl, rfl, i, rfl, hcase⟩
      refine ⟨_, rfl, rfl, ?_⟩
      have hS4 : S 4 = [((sizeI l 0 : Nat) : Int), sizeI l 1, sizeI l 2, sizeI l 3] := rfl
      rcases hcase with ⟨_, hno⟩ | ⟨k, rfl, g1, g2⟩
      · exfalso
        apply hno
        rcases (foldl_min_le ((S 4).take (S 4).length) ((S 4).headD 0)).2.2 with e | e
        · unfold minL minTo
          rw [e, hS4]
          simp
        · unfold minL minTo
          exact List.mem_of_mem_take e
      · rw [hS4] at g1 g2
        rw [least_plain (sizeI l) g1 g2]
        rfl
    refine hleast.mono ?_
    rintro _ w2 ⟨_, rfl, rfl, rfl⟩
    exact ⟨_, rfl, rfl, B1⟩
end
section
variable {w : World} {a : Option Addr} {c : Nat} {ls : List ByteArray}
end
section
variable {w : World} {a : Option Addr} {c : Nat} {t : List (List UInt8)}
end
theorem tS : slT Tryz.prog ty.L_string = some (ty.string, 1, 16, .string ⟨#[]⟩) := by kernel_rfl
section
variable {w : World} {a : Option Addr} {c : Nat} {ls : List ByteArray}
end
theorem enc_open {f : Int} {ls : List ByteArray} {w w' : World} {r : Value} (h : EncV f ls w w' r) : ∃ (bs : List UInt8) (a : Option Addr) (c : Nat) (e : Int), r = .tuple #[.slice a bs.length c, .int .i64 e] ∧ Rd w' a (bs.map byteV) ∧ Below w.heap.size w w' ∧ ((encOk f ls ∧ EncIs ls f bs ∧ e = 0) ∨ (¬ encOk f ls ∧ bs = [] ∧ e = 2)) := by
  rcases h with ⟨h1, rfl, hb⟩ | ⟨h1, b, a, c, h2, rfl, h3⟩
  · exact ⟨[], none, 0, 2, rfl, Rd.nil _ _, hb, .inr ⟨h1, rfl, rfl⟩⟩
  · exact ⟨b, a, c, 0, rfl, h3.rd, h3.bel, .inl ⟨h1, h2, rfl⟩⟩
theorem ok01 (ls : List ByteArray) : encOk 0 ls ↔ encOk 1 ls := by simp [encOk]
def BestV (ls : List ByteArray) (r : Value) : Prop :=
  (¬ encOk 0 ls ∧ r = .tuple #[.int .i64 0, .int .i64 2]) ∨ (∃ b0 b1, EncIs ls 0 b0 ∧ EncIs ls 1 b1 ∧ encOk 0 ls ∧ r = .tuple #[.int .i64 (if b1.length < b0.length then 1 else 0), .int .i64 0])
section
variable {w : World} {a : Option Addr} {c : Nat} {ls : List ByteArray}
theorem dict_Best_ok (hl : Rd w a (ls.map Value.string)) (hn : ls.length ≤ 9223372036854775807) : Calls Tryz.prog f.dict_Best #[.slice a ls.length c] w (Ret fun v w' => BestV ls v ∧ Below w.heap.size w w') := by
  apply R.dict_Best_calls
  unfold R.dict_Best
  refine (dict_Encode_ok 0 hl hn).mono ?_
  rintro _ w1 ⟨_, rfl, h1⟩
  obtain ⟨b0, a0, c0, e0, rfl, _, B1, q0⟩ := enc_open h1
  refine ⟨_, _, _, _, rfl, (dict_Encode_ok 1 (hl.grown B1) hn).mono ?_⟩
  rintro _ w2 ⟨_, rfl, h2⟩
  obtain ⟨b1, a1, c1, e1, rfl, _, B2, q1⟩ := enc_open h2
  have B := below_trans B1 B2
  refine ⟨_, _, _, _, rfl, ?_⟩
  rcases q0 with ⟨k0, i0, rfl⟩ | ⟨k0, rfl, rfl⟩
  · rcases q1 with ⟨k1, i1, rfl⟩ | ⟨k1, _⟩
    · refine IFB_ne (fun h => absurd rfl h) (fun _ => IFB_dec (fun h => ⟨.inr ⟨b0, b1, i0, i1, k0, ?_⟩, B⟩) (fun h => ⟨.inr ⟨b0, b1, i0, i1, k0, ?_⟩, B⟩))
      · rw [if_neg (by omega)]
      · rw [if_pos (by omega)]
    · exact absurd ((ok01 ls).1 k0) k1
  · exact IFB_ne (fun _ => ⟨.inl ⟨k0, rfl⟩, B⟩) (fun h => absurd h (by decide))
end
end Go.Proofs.YtpnaifmmggnimaaGreatDoor
namespace Go.Dn
set_option linter.unusedVariables false
set_option maxRecDepth 100000
def crcStep (r : BitVec 32) : BitVec 32 := (r >>> 1) ^^^ (2197175160#32 &&& -(r &&& 1#32))
def crcSteps : Nat → BitVec 32 → BitVec 32
  | 0, r => r
  | n + 1, r => crcSteps n (crcStep r)
def byte32 (c : UInt8) : BitVec 32 := BitVec.ofNat 32 c.toNat
def crcByte (r : BitVec 32) (c : UInt8) : BitVec 32 := crcSteps 8 (r ^^^ byte32 c)
def crcRest (r : BitVec 32) (l : List UInt8) : BitVec 32 := l.foldl crcByte r
def crc (l : List UInt8) : BitVec 32 := 4294967295#32 ^^^ crcRest 4294967295#32 l
theorem crcSteps_snoc : ∀ (n : Nat) (r : BitVec 32), crcSteps (n + 1) r = crcStep (crcSteps n r)
  | 0, _ => rfl
  | n + 1, r => by rw [crcSteps, crcSteps_snoc n, crcSteps]
theorem crcRest_append (r : BitVec 32) (l m : List UInt8) : crcRest r (l ++ m) = crcRest (crcRest r l) m := by simp [crcRest]
theorem step_prog (r : BitVec 32) : (IntKind.u32.wrap (((BitVec.ofInt 32 (Int.fdiv (r.toNat : Int) (2 ^ (min 1 32))) ^^^ BitVec.ofInt 32 (IntKind.u32.wrap (((BitVec.ofInt 32 2197175160 &&& BitVec.ofInt 32 (IntKind.u32.wrap (0 - (IntKind.u32.wrap (((BitVec.ofInt 32 (r.toNat : Int) &&& BitVec.ofInt 32 1).toNat : Int)))))).toNat : Int)))).toNat : Int))) = ((crcStep r).toNat : Int) := by
  have h1 : min 1 32 = 1 := by decide
  rw [h1, fdiv_shift, wrap32_nat, ofInt_nat, ofInt_wrap32, ofInt_nat, ofInt_wrap32, ofInt_sub0, ofInt_wrap32, ofInt_nat, ofInt_nat]
  rfl
end Go.Dn
namespace Go.Dn
def u8of (x : BitVec 32) : UInt8 := UInt8.ofNat x.toNat
def sum4 (x : BitVec 32) : List UInt8 := [u8of x, u8of (x >>> 8), u8of (x >>> 16), u8of (x >>> 24)]
theorem u8of_nat (x : BitVec 32) : IntKind.u8.wrap (x.toNat : Int) = ((u8of x).toNat : Int) := by
  rw [wrap_u8]
  simp [u8of]
theorem u8of_shift (x : BitVec 32) (k : Nat) : IntKind.u8.wrap (Int.fdiv (x.toNat : Int) (2 ^ (min k 32))) = ((u8of (x >>> (min k 32))).toNat : Int) := by
  rw [fdiv_shift, u8of_nat]
end Go.Dn
namespace Go.Proofs.YtpnaifmmggnimaaGreatDoor
set_option maxRecDepth 100000
open Go.Dn Go.Proofs
set_option linter.unusedVariables false
theorem crcRest_flat_snoc (ps : List PartB) (k : Nat) (hk : k < ps.length) (r : BitVec 32) :
    crcRest r ((ps.take (k + 1)).flatMap (·.2.2)) = crcRest (crcRest r ((ps.take k).flatMap (·.2.2))) ps[k].2.2 := by
  rw [List.take_succ_eq_append_getElem hk, List.flatMap_append, crcRest_append]
  simp
theorem crcRest_take_snoc (l : List UInt8) (k : Nat) (hk : k < l.length) (r : BitVec 32) : crcRest r (l.take (k + 1)) = crcByte (crcRest r (l.take k)) l[k] := by
  rw [List.take_succ_eq_append_getElem hk, crcRest_append]
  rfl
theorem wire_Sum_ok {w : World} {a : Option Addr} {c : Nat} (ps : List PartB) (hp : Rd w a (ps.map partV1)) (hb : ∀ p ∈ ps, Rd w p.1 (p.2.2.map byteV)) (hn : ps.length < 9223372036854775807) (hl : ∀ p ∈ ps, p.2.2.length < 9223372036854775807) :
    Calls Tryz.prog f.wire_Sum #[.slice a ps.length c] w (Ret fun v w' => v = .int .u32 ((crc (ps.flatMap (·.2.2))).toNat : Int) ∧ w' = w) := by
  apply R.wire_Sum_calls
  unfold R.wire_Sum
  refine ⟨fun s w1 => match s with
      | [.int _ r, .int _ i] => w1 = w ∧ ∃ k : Nat, i = k ∧ k ≤ ps.length ∧ r = ((crcRest 4294967295#32 ((ps.take k).flatMap (·.2.2))).toNat : Int)
      | _ => False,
    fun s _ => match s with
      | [_, .int _ i] => ps.length - i.toNat
      | _ => 0, ⟨rfl, 0, rfl, Nat.zero_le _, by simp [crcRest]⟩, ?_⟩
  rintro r i w1 ⟨rfl, k, rfl, hk, rfl⟩
  refine IFB_dec (fun hlt => ?_) (fun hge => ?_)
  · have hkl : k < ps.length := by omega
    refine ⟨⟨by omega, by omega⟩, ?_⟩
    obtain ⟨p, rfl, hc⟩ := hp k (partV1 ps[k]) (by simp [hkl])
    have hmem : ps[k] ∈ ps := List.getElem_mem hkl
    have hbk := hb _ hmem
    have hlk := hl _ hmem
    have hflat := crcRest_flat_snoc ps k hkl 4294967295#32
    generalize hR : crcRest 4294967295#32 ((ps.take k).flatMap (·.2.2)) = R at hflat ⊢
    generalize hq : ps[k] = q at hbk hlk hflat hc
    obtain ⟨qa, qc, l⟩ := q
    simp only at hbk hlk hflat
    refine ⟨qa, l.length, qc, by simpa [partV1] using hc, ?_⟩
    refine ⟨fun s w2 => match s with
        | [.int _ r, .int _ i] => w2 = w1 ∧ ∃ j : Nat, i = j ∧ j ≤ l.length ∧ r = ((crcRest R (l.take j)).toNat : Int)
        | _ => False,
      fun s _ => match s with
        | [_, .int _ i] => l.length - i.toNat
        | _ => 0, ⟨rfl, 0, rfl, Nat.zero_le _, by simp [crcRest]⟩, ?_⟩
    rintro r i w2 ⟨rfl, j, rfl, hj, rfl⟩
    refine IFB_dec (fun hlt2 => ?_) (fun hge2 => ?_)
    · have hjl : j < l.length := by omega
      refine ⟨⟨by omega, by omega⟩, ?_⟩
      obtain ⟨p2, rfl, hc2⟩ := hbk j (byteV l[j]) (by simp [hjl])
      have hsn := crcRest_take_snoc l j hjl R
      generalize hR2 : crcRest R (l.take j) = R2 at hsn ⊢
      refine ⟨(l[j].toNat : Int), by simpa [byteV] using hc2, ?_⟩
      have h0 : (IntKind.u32.wrap (((BitVec.ofInt 32 (R2.toNat : Int) ^^^ BitVec.ofInt 32 (IntKind.u32.wrap ((l[j].toNat : Int)))).toNat : Int))) = ((R2 ^^^ byte32 l[j]).toNat : Int) := by
        rw [ofInt_wrap32, ofInt_nat, wrap32_nat, BitVec.ofInt_natCast]
        rfl
      rw [h0]
      refine ⟨fun s w3 => match s with
          | [.int _ r, .int _ i] => w3 = w2 ∧ ∃ m : Nat, i = m ∧ m ≤ 8 ∧ r = ((crcSteps m (R2 ^^^ byte32 l[j])).toNat : Int)
          | _ => False,
        fun s _ => match s with
          | [_, .int _ i] => 8 - i.toNat
          | _ => 0, ⟨rfl, 0, rfl, Nat.zero_le _, by simp [crcSteps]⟩, ?_⟩
      rintro r i w3 ⟨rfl, m, rfl, hm, rfl⟩
      refine IFB_dec (fun hlt3 => ?_) (fun hge3 => ?_)
      · rw [step_prog, wrap_succ (by omega)]
        refine ⟨⟨rfl, m + 1, rfl, by omega, by rw [crcSteps_snoc]⟩, ?_⟩
        simp only [Int.toNat_natCast]
        omega
      · have : m = 8 := by omega
        subst this
        rw [wrap_succ (by omega)]
        refine ⟨⟨rfl, j + 1, rfl, by omega, by rw [hsn]; rfl⟩, ?_⟩
        simp only [Int.toNat_natCast]
        omega
    · have : j = l.length := by omega
      subst this
      rw [wrap_succ (by omega)]
      refine ⟨⟨rfl, k + 1, rfl, by omega, by rw [hflat, List.take_length]⟩, ?_⟩
      simp only [Int.toNat_natCast]
      omega
  · have : k = ps.length := by omega
    subst this
    refine ⟨?_, rfl⟩
    rw [List.take_length, ofInt_nat, wrap32_nat]
    rfl
end Go.Proofs.YtpnaifmmggnimaaGreatDoor
namespace Go.Proofs.YtpnaifmmggnimaaGreatDoor
set_option maxRecDepth 100000
open Go.Dn Go.Proofs
open Go.RowKit (Below)
set_option linter.unusedVariables false
abbrev valsL (ls : List Val) : List Value := ls.flatMap valC
theorem vals_get : ∀ (ls : List Val) (i j : Nat) (hi : i < ls.length), j < 3 → (valsL ls)[i * 3 + j]? = (valC ls[i])[j]?
  | [], i, j, hi, _ => by simp at hi
  | v :: ls, 0, j, _, hj => by
    simp only [valsL, List.flatMap_cons, Nat.zero_mul, Nat.zero_add, List.getElem_cons_zero]
    rw [List.getElem?_append_left (by simpa [valC] using hj)]
  | v :: ls, i + 1, j, hi, hj => by
    simp only [valsL, List.flatMap_cons, List.getElem_cons_succ]
    rw [List.getElem?_append_right (by simp [valC]; omega)]
    have e : (i + 1) * 3 + j - (valC v).length = i * 3 + j := by simp [valC]; omega
    rw [e]
    exact vals_get ls i j (by simpa using hi) hj
theorem vals_len (ls : List Val) : (valsL ls).length = ls.length * 3 := by
  induction ls with
  | nil => rfl
  | cons v ls ih => simp only [valsL, List.flatMap_cons, List.length_append, List.length_cons] at ih ⊢; rw [ih]; simp [valC]; omega
section
variable {w : World} {a : Option Addr} {c : Nat} {ls : List Val}
theorem val_at (hl : Rd w a (valsL ls)) {i : Nat} (hi : i < ls.length) : ∃ p, a = some p ∧ w.cell? (p.add (i * 3)) = some (.int .i64 ls[i].1) ∧ w.cell? ((p.add (i * 3)).add 1) = some (.int .i64 ls[i].2.1) ∧ w.cell? ((p.add (i * 3)).add 2) = some (.string ls[i].2.2) := by
  obtain ⟨p, hp, h0⟩ := hl (i * 3 + 0) _ (by rw [vals_get ls i 0 hi (by omega)]; rfl)
  obtain ⟨p1, hp1, h1⟩ := hl (i * 3 + 1) _ (by rw [vals_get ls i 1 hi (by omega)]; rfl)
  obtain ⟨p2, hp2, h2⟩ := hl (i * 3 + 2) _ (by rw [vals_get ls i 2 hi (by omega)]; rfl)
  subst hp
  cases hp1
  cases hp2
  exact ⟨p, rfl, h0, by rw [addr_add_add]; exact h1, by rw [addr_add_add]; exact h2⟩
def okV (kind : Int) (v : Val) : Bool := rightB v && (decide (v.1 = kind) || decide (v.1 = 0))
def rightL (kind : Int) (ls : List Val) : Bool := ls.all (okV kind) && decide (1 ≤ kind ∧ kind ≤ 3 ∧ ls.length ≤ 1024)
theorem all_take {p : Val → Bool} {i : Nat} (hi : i < ls.length) (h : (ls.take i).all p = true) (hp : p ls[i] = true) : (ls.take (i + 1)).all p = true := by
  rw [List.take_succ_eq_append_getElem hi, List.all_append, h]
  simp [hp]
theorem rightL_bad {kind : Int} {i : Nat} (hi : i < ls.length) (hp : okV kind ls[i] = false) : rightL kind ls = false := by
  have : ls.all (okV kind) = false := by
    rw [List.all_eq_false]
    exact ⟨_, List.getElem_mem hi, by simp [hp]⟩
  simp [rightL, this]
theorem right_end {kind : Int} (hall : ls.all (okV kind) = true) {w' : World} (hb : Below w.heap.size w w') {k : Value → World → Prop} (hk : ∀ v w', v = Value.bool (rightL kind ls) → Below w.heap.size w w' → k v w') :
    IFB (decide (kind ≥ 1)) (IFB (decide (kind ≤ 3)) (k (Value.bool (decide ((ls.length : Int) ≤ 1024))) w') (k (Value.bool false) w')) (k (Value.bool false) w') := by
  have e : rightL kind ls = decide (1 ≤ kind ∧ kind ≤ 3 ∧ ls.length ≤ 1024) := by simp [rightL, hall]
  refine IFB_dec (fun h1 => IFB_dec (fun h2 => hk _ _ ?_ hb) (fun h2 => hk _ _ ?_ hb)) (fun h1 => hk _ _ ?_ hb)
  · rw [e]
    congr 1
    rw [decide_eq_decide]
    omega
  · rw [e]
    congr 1
    rw [eq_comm, decide_eq_false_iff_not]
    omega
  · rw [e]
    congr 1
    rw [eq_comm, decide_eq_false_iff_not]
    omega
theorem chunk_right_ok (kind : Int) (hl : Rd w a (valsL ls)) (hn : ls.length ≤ 9223372036854775807) :
    Calls Tryz.prog f.chunk_right #[.int .i64 kind, .slice a ls.length c] w (Ret fun v w' => v = .bool (rightL kind ls) ∧ Below w.heap.size w w') := by
  apply R.chunk_right_calls
  unfold R.chunk_right
  refine ⟨fun s w1 => ∃ i : Nat, i ≤ ls.length ∧ s = [.int .i64 (i : Int)] ∧ Below w.heap.size w w1 ∧ (ls.take i).all (okV kind) = true, fun s _ => match s with
      | [.int _ i] => ls.length - i.toNat
      | _ => 0, ⟨0, by omega, rfl, .refl _ _, rfl⟩, ?_⟩
  rintro _ w1 ⟨i, hi, hst, B1, hall⟩
  cases hst
  refine IFB_dec (fun hlt => ⟨⟨by omega, hlt⟩, ?_⟩) (fun hge => ?_)
  · have hil : i < ls.length := by omega
    obtain ⟨p, rfl, h0, h1, h2⟩ := val_at (hl.grown B1) hil
    refine ⟨_, by rw [Int.toNat_natCast]; exact h0, _, by rw [Int.toNat_natCast]; exact h1, _, by rw [Int.toNat_natCast]; exact h2, (SH.start (fun _ => False) w1).lit3 fun b9 w5 hb9 B5 S5 => ?_⟩
    refine ⟨_, S5.cell 0 rfl rfl, _, S5.cell 0 rfl rfl, _, S5.cell 0 rfl rfl, (value_Right_ok w5 ls[i]).mono ?_⟩
    rintro _ w6 ⟨_, rfl, rfl, B6⟩
    have S6 := S5.grown B6
    have C6 := below_trans (below_trans B1 B5) B6
    have bad : okV kind ls[i] = false → (Value.bool false = .bool (rightL kind ls)) ∧ Below w.heap.size w w6 := fun h => ⟨by rw [rightL_bad hil h], C6⟩
    have step : okV kind ls[i] = true → (∃ j : Nat, j ≤ ls.length ∧ [Value.int .i64 (IntKind.i64.wrap ((i : Int) + 1))] = [.int .i64 (j : Int)] ∧ Below w.heap.size w w6 ∧ (ls.take j).all (okV kind) = true) ∧ ls.length - (IntKind.i64.wrap ((i : Int) + 1)).toNat < ls.length - ((i : Nat) : Int).toNat := by
      intro h
      rw [wrap_succ (by omega)]
      refine ⟨⟨i + 1, by omega, rfl, C6, all_take hil hall h⟩, ?_⟩
      simp only [Int.toNat_natCast]
      omega
    refine ⟨_, rfl, IFB_not (IFB_of (fun hr => ?_) (fun hr => bad (by simp [okV, hr])))⟩
    refine ⟨_, S6.cell 0 rfl rfl, IFB_ne (fun hk => ⟨_, S6.cell 0 rfl rfl, IFB_ne (fun hz => bad ?_) (fun hz => step ?_)⟩) (fun hk => step ?_)⟩
    · simp [okV, hk, hz]
    · simp [okV, hr, hz]
    · simp [okV, hr, hk]
  · have hie : ls.take i = ls := List.take_of_length_le (by omega)
    rw [hie] at hall
    exact right_end (k := fun v w' => v = Value.bool (rightL kind ls) ∧ Below w.heap.size w w') hall B1 fun v w' h1 h2 => ⟨h1, h2⟩
theorem ref08_Right_ok (kind : Int) (hl : Rd w a (valsL ls)) (hn : ls.length ≤ 9223372036854775807) :
    Calls Tryz.prog f.ref08_Right #[.int .i64 kind, .slice a ls.length c] w (Ret fun v w' => v = .bool (rightL kind ls) ∧ Below w.heap.size w w') := by
  apply R.ref08_Right_calls
  unfold R.ref08_Right
  refine ⟨fun s w1 => ∃ i : Nat, i ≤ ls.length ∧ s = [.int .i64 (i : Int)] ∧ Below w.heap.size w w1 ∧ (ls.take i).all (okV kind) = true, fun s _ => match s with
      | [.int _ i] => ls.length - i.toNat
      | _ => 0, ⟨0, by omega, rfl, .refl _ _, rfl⟩, ?_⟩
  rintro _ w1 ⟨i, hi, hst, B1, hall⟩
  cases hst
  refine IFB_dec (fun hlt => ⟨⟨by omega, hlt⟩, ?_⟩) (fun hge => ?_)
  · have hil : i < ls.length := by omega
    obtain ⟨p, rfl, h0, h1, h2⟩ := val_at (hl.grown B1) hil
    refine ⟨_, by rw [Int.toNat_natCast]; exact h0, _, by rw [Int.toNat_natCast]; exact h1, _, by rw [Int.toNat_natCast]; exact h2, (ref04_Right_ok w1 ls[i]).mono ?_⟩
    rintro _ w6 ⟨_, rfl, rfl, B6⟩
    have C6 := below_trans B1 B6
    obtain ⟨p', hp', h0', _, _⟩ := val_at (hl.grown C6) hil
    cases hp'
    have bad : okV kind ls[i] = false → (Value.bool false = .bool (rightL kind ls)) ∧ Below w.heap.size w w6 := fun h => ⟨by rw [rightL_bad hil h], C6⟩
    have step : okV kind ls[i] = true → (∃ j : Nat, j ≤ ls.length ∧ [Value.int .i64 (IntKind.i64.wrap ((i : Int) + 1))] = [.int .i64 (j : Int)] ∧ Below w.heap.size w w6 ∧ (ls.take j).all (okV kind) = true) ∧ ls.length - (IntKind.i64.wrap ((i : Int) + 1)).toNat < ls.length - ((i : Nat) : Int).toNat := by
      intro h
      rw [wrap_succ (by omega)]
      refine ⟨⟨i + 1, by omega, rfl, C6, all_take hil hall h⟩, ?_⟩
      simp only [Int.toNat_natCast]
      omega
    refine ⟨_, rfl, IFB_not (IFB_of (fun hr => ?_) (fun hr => bad (by simp [okV, hr])))⟩
    refine ⟨⟨by omega, hlt⟩, _, by rw [Int.toNat_natCast]; exact h0', IFB_ne (fun hk => ⟨⟨by omega, hlt⟩, _, by rw [Int.toNat_natCast]; exact h0', IFB_ne (fun hz => bad ?_) (fun hz => step ?_)⟩) (fun hk => step ?_)⟩
    · simp [okV, hk, hz]
    · simp [okV, hr, hz]
    · simp [okV, hr, hk]
  · have hie : ls.take i = ls := List.take_of_length_le (by omega)
    rw [hie] at hall
    exact right_end (k := fun v w' => v = Value.bool (rightL kind ls) ∧ Below w.heap.size w w') hall B1 fun v w' h1 h2 => ⟨h1, h2⟩
def nullsN (ls : List Val) : Nat := ls.countP fun v => decide (v.1 = 0)
def bitsN (ls : List Val) : List Nat := ls.map fun v => if v.1 = 0 then 1 else 0
def fullL (ls : List Val) : List Val := ls.filter fun v => !decide (v.1 = 0)
theorem nullsN_take {i : Nat} (hi : i < ls.length) : nullsN (ls.take (i + 1)) = nullsN (ls.take i) + if ls[i].1 = 0 then 1 else 0 := by
  unfold nullsN
  rw [List.take_succ_eq_append_getElem hi, List.countP_append]
  by_cases h : ls[i].1 = 0 <;> simp [h]
theorem nullsN_le (ls : List Val) : nullsN ls ≤ ls.length := List.countP_le_length
theorem bitsN_take {i : Nat} (hi : i < ls.length) : bitsN (ls.take (i + 1)) = bitsN (ls.take i) ++ [if ls[i].1 = 0 then 1 else 0] := by
  unfold bitsN
  rw [List.take_succ_eq_append_getElem hi, List.map_append]
  rfl
theorem fullL_take {i : Nat} (hi : i < ls.length) : fullL (ls.take (i + 1)) = fullL (ls.take i) ++ (if ls[i].1 = 0 then [] else [ls[i]]) := by
  unfold fullL
  rw [List.take_succ_eq_append_getElem hi, List.filter_append]
  by_cases h : ls[i].1 = 0 <;> simp [h]
theorem ref08_nulls_ok (hl : Rd w a (valsL ls)) (hn : ls.length ≤ 1000000) : Calls Tryz.prog f.ref08_nulls #[.slice a ls.length c] w (Ret fun v w' => w' = w ∧ v = .int .i64 (nullsN ls : Int)) := by
  apply R.ref08_nulls_calls
  unfold R.ref08_nulls
  refine ⟨fun s w1 => w1 = w ∧ ∃ i : Nat, i ≤ ls.length ∧ s = [.int .i64 (nullsN (ls.take i) : Int), .int .i64 (i : Int)], fun s _ => match s with
      | [_, .int _ i] => ls.length - i.toNat
      | _ => 0, ⟨rfl, 0, by omega, rfl⟩, ?_⟩
  rintro _ _ w1 ⟨rfl, i, hi, hst⟩
  cases hst
  have hle := nullsN_le (ls.take i)
  rw [List.length_take] at hle
  refine IFB_dec (fun hlt => ⟨⟨by omega, hlt⟩, ?_⟩) (fun hge => ⟨rfl, ?_⟩)
  · have hil : i < ls.length := by omega
    obtain ⟨p, rfl, h0, h1, h2⟩ := val_at hl hil
    refine ⟨_, by rw [Int.toNat_natCast]; exact h0, IFB_eq (fun hz => ?_) (fun hz => ?_)⟩
    · rw [wrap_succ (by omega), wrap_succ (by omega)]
      refine ⟨⟨rfl, i + 1, by omega, by rw [nullsN_take hil, if_pos hz]⟩, ?_⟩
      simp only [Int.toNat_natCast]
      omega
    · rw [wrap_succ (by omega)]
      refine ⟨⟨rfl, i + 1, by omega, by rw [nullsN_take hil, if_neg hz]; rfl⟩, ?_⟩
      simp only [Int.toNat_natCast]
      omega
  · have hie : ls.take i = ls := List.take_of_length_le (by omega)
    rw [hie]
theorem chunk_full_ok : Calls Tryz.prog f.chunk_full #[.slice a ls.length c] w (Ret fun v w' => ∃ b, v = .func (.func f.chunk_full_c1) #[] #[.pointer (some ⟨b, 0, none⟩)] ∧ SH (fun _ => False) w w' [(b, #[.slice a ls.length c], ty.L_api_Value)]) := by
  apply R.chunk_full_calls
  unfold R.chunk_full
  exact (SH.start (fun _ => False) w).newB fun b1 w1 _ _ S1 => ⟨b1, rfl, S1⟩
theorem full_c1_ok {L b : Nat} (hn : ls.length ≤ 1000000) (J : Nat → World → Prop) (hrd : ∀ k w, J k w → Rd w a (valsL ls)) (hgrow : ∀ k w w', J k w → Below w.heap.size w w' → J k w') (hskip : ∀ k w (hk : k < ls.length), ls[k].1 = 0 → J k w → J (k + 1) w)
    (hstep : ∀ k w (hk : k < ls.length), ls[k].1 ≠ 0 → J k w → YLD Tryz.prog L #[valV ls[k]] (fun y w' => y = true ∧ J (k + 1) w') w) (h0 : J 0 w) (hb : w.cell? ⟨b, 0, none⟩ = some (.slice a ls.length c)) :
    Calls Tryz.prog f.chunk_full_c1 #[.func (.yield L) #[] #[], .pointer (some ⟨b, 0, none⟩)] w (Ret fun _ w' => J ls.length w') := by
  apply R.chunk_full_c1_calls
  unfold R.chunk_full_c1
  refine ⟨_, _, _, hb, fun s w1 => ∃ k : Nat, k ≤ ls.length ∧ s = [.int .i64 (k : Int)] ∧ J k w1, fun s _ => match s with
      | [.int _ i] => ls.length - i.toNat
      | _ => 0, ⟨0, by omega, rfl, h0⟩, ?_⟩
  rintro _ w1 ⟨k, hk, hst, hj⟩
  cases hst
  refine IFB_dec (fun hlt => ⟨⟨by omega, hlt⟩, ?_⟩) (fun hge => ?_)
  · have hkl : k < ls.length := by omega
    obtain ⟨p, hp, c0, c1, c2⟩ := val_at (hrd _ _ hj) hkl
    subst hp
    refine ⟨_, by rw [Int.toNat_natCast]; exact c0, _, by rw [Int.toNat_natCast]; exact c1, _, by rw [Int.toNat_natCast]; exact c2, (SH.start (fun _ => False) w1).lit3 fun b9 w5 hb9 B5 S5 => ?_⟩
    have hj5 := hgrow _ _ _ hj B5
    rw [wrap_succ (by omega)]
    have mes : ls.length - ((k + 1 : Nat) : Int).toNat < ls.length - ((k : Nat) : Int).toNat := by
      simp only [Int.toNat_natCast]
      omega
    refine ⟨_, S5.cell 0 rfl rfl, IFB_ne (fun hne => ⟨_, S5.cell 0 rfl rfl, _, S5.cell 0 rfl rfl, _, S5.cell 0 rfl rfl, ?_⟩) (fun hz => ⟨⟨k + 1, by omega, rfl, hskip k _ hkl hz hj5⟩, mes⟩)⟩
    obtain ⟨fn, tm, asg, bo, hy, hrr⟩ := hstep k w5 hkl hne hj5
    refine ⟨fn, tm, asg, bo, hy, hrr.mono ?_⟩
    rintro e w6 ⟨y, he, rfl, hj6⟩
    exact ⟨true, he, IFB_false ⟨⟨k + 1, by omega, rfl, hj6⟩, mes⟩⟩
  · have : k = ls.length := by omega
    subst this
    exact hj
end
end Go.Proofs.YtpnaifmmggnimaaGreatDoor
namespace Go.Dn
set_option linter.unusedVariables false
set_option maxRecDepth 100000
open Go.RowKit (Below)
open Go.Maps (has Tidy Keyed)
def MapB (P : Program) (k e : TypeId) (w : World) (b n : Nat) (g : List UInt8 → Bool) : Prop :=
  ∃ D : DataW Unit, w.ownsMap P k (plainElem P e) b n D ∧ Tidy D ∧ ∀ x, D.atKey (.string x) (.lit (.bool false)) = .lit (.bool (g x))
theorem plainElem_bool_inv {H : Type} {P : Program} {e : TypeId} (he : P.underlying e = some .bool) {v : Value} {z : DataW H × List MemPlace} (h : plainElem P e v = some z) : ∃ a, v = .bool a ∧ z = (.lit (.bool a), []) := by
  unfold plainElem at h
  rw [he] at h
  cases v <;> simp at h
  exact ⟨_, rfl, h.symm⟩
section
variable {P : Program} {k e t : TypeId} {w : World} {b n : Nat} {g : List UInt8 → Bool}
theorem MapB.kept (h : MapB P k e w b n g) {F : Nat → Prop} {w' : World} (K : Keeps F w w') (hn : ¬ F b) : MapB P k e w' b n g := by
  obtain ⟨D, ⟨es, clock, hb, r⟩, h2⟩ := h
  exact ⟨D, ⟨es, clock, K.at hb hn, r⟩, h2⟩
theorem MapB.put (h : MapB P k e w b n g) (hk : P.underlying k = some .string) (he : P.underlying e = some .bool) (ht : P.underlying t = some (.map k e)) (hn : n < maxLen) {s : ByteArray} (hs : s.size ≤ maxLen) {v : Bool}
    {f : World → Prop} (hf : ∀ w', Keeps (· = b) w w' → MapB P k e w' b (n + 1) (fun y => if y = bl s then v else g y) → f w') : OPU P (Instr.mapUpdate t (.map (some b)) (.string s) (.bool v)) f w := by
  obtain ⟨D, hD, hT, hg⟩ := h
  have hkey : keyOf P k (.string s) = some (.string (bl s)) := by simp [keyOf, hk, mapKey, hs, bl]
  obtain ⟨w', hrun, hown, hgrow⟩ := hD.update (Maps.string_keyed hk) ht hn hkey (plainElem_bool he v)
  unfold OPU
  rw [hrun]
  have hkl : WideAt.IsKeyLit (.string (bl s)) := by simp [WideAt.IsKeyLit]
  refine hf w' (.of_grownBy hgrow) ⟨_, hown, hT.put hkl _, fun x => ?_⟩
  by_cases hx : x = bl s
  · subst hx
    simp only [if_true]
    exact Maps.atKey_put_same hT.isMap hkl _ _
  · have hne : Lit.string x ≠ .string (bl s) := fun e => hx (by injection e)
    simp only [hx, if_false]
    exact (Maps.atKey_put_other hne _ _).trans (hg x)
theorem MapB.get (h : MapB P k e w b n g) (hk : P.underlying k = some .string) (he : P.underlying e = some .bool) (ht : P.underlying t = some (.map k e)) (hz : (zeroValue e).run P w = .ok (.bool false) w) {s : ByteArray} (hs : s.size ≤ maxLen)
    {f : Value → World → Prop} (hf : f (.bool (g (bl s))) w) : OPR P (Instr.lookup t (.map (some b)) (.string s) false) f w := by
  obtain ⟨D, hD, hT, hg⟩ := h
  have hkey : keyOf P k (.string s) = some (.string (bl s)) := by simp [keyOf, hk, mapKey, hs, bl]
  obtain ⟨v, ps, hrun, hv⟩ := hD.lookup (Maps.string_keyed hk) ht hz (plainElem_bool he false) hkey
  obtain ⟨c, rfl, hc⟩ := plainElem_bool_inv he hv
  simp only [Prod.mk.injEq] at hc
  have hat := hc.1
  rw [hg (bl s)] at hat
  have : c = g (bl s) := by injection hat with h1; injection h1 with h2; exact h2.symm
  unfold OPR
  rw [hrun, this]
  exact hf
end
end Go.Dn
namespace Go.Proofs.YtpnaifmmggnimaaGreatDoor
set_option maxRecDepth 100000
open Go.Dn Go.Proofs
open Go.RowKit (Below)
set_option linter.unusedVariables false
theorem flat_get {α : Type} {g : α → List Value} {n : Nat} (hg : ∀ x, (g x).length = n) : ∀ (ls : List α) (i j : Nat) (hi : i < ls.length), j < n → (ls.flatMap g)[i * n + j]? = (g ls[i])[j]?
  | [], i, j, hi, _ => by simp at hi
  | v :: ls, 0, j, _, hj => by
    simp only [List.flatMap_cons, Nat.zero_mul, Nat.zero_add, List.getElem_cons_zero]
    rw [List.getElem?_append_left (by rw [hg]; exact hj)]
  | v :: ls, i + 1, j, hi, hj => by
    simp only [List.flatMap_cons, List.getElem_cons_succ]
    have e : (i + 1) * n + j = n + (i * n + j) := by rw [Nat.add_mul]; omega
    rw [e, List.getElem?_append_right (by rw [hg]; omega), hg, Nat.add_sub_cancel_left]
    exact flat_get hg ls i j (by simpa using hi) hj
theorem flat_len {α : Type} {g : α → List Value} {n : Nat} (hg : ∀ x, (g x).length = n) (ls : List α) : (ls.flatMap g).length = ls.length * n := by
  induction ls with
  | nil => simp
  | cons v ls ih => rw [List.flatMap_cons, List.length_append, ih, hg, List.length_cons, Nat.add_mul]; omega
abbrev Col := ByteArray × Int × Bool
def colC (c : Col) : List Value := [.string c.1, .int .i64 c.2.1, .bool c.2.2]
abbrev colsL (cs : List Col) : List Value := cs.flatMap colC
theorem colC_len (c : Col) : (colC c).length = 3 := rfl
theorem cols_len (cs : List Col) : (colsL cs).length = cs.length * 3 := flat_len colC_len cs
theorem col_at {w : World} {a : Option Addr} {cs : List Col} (hl : Rd w a (colsL cs)) {i : Nat} (hi : i < cs.length) : ∃ p, a = some p ∧ w.cell? (p.add (i * 3)) = some (.string cs[i].1) ∧ w.cell? ((p.add (i * 3)).add 1) = some (.int .i64 cs[i].2.1) ∧ w.cell? ((p.add (i * 3)).add 2) = some (.bool cs[i].2.2) := by
  obtain ⟨p, hp, h0⟩ := hl (i * 3 + 0) _ (by rw [flat_get colC_len cs i 0 hi (by omega)]; rfl)
  obtain ⟨p1, hp1, h1⟩ := hl (i * 3 + 1) _ (by rw [flat_get colC_len cs i 1 hi (by omega)]; rfl)
  obtain ⟨p2, hp2, h2⟩ := hl (i * 3 + 2) _ (by rw [flat_get colC_len cs i 2 hi (by omega)]; rfl)
  subst hp
  cases hp1
  cases hp2
  exact ⟨p, rfl, h0, by rw [addr_add_add]; exact h1, by rw [addr_add_add]; exact h2⟩
def colOk (c : Col) : Bool := isNameB c.1 && decide (1 ≤ c.2.1 ∧ c.2.1 ≤ 3)
def rightCols (cs : List Col) : Bool := decide (1 ≤ cs.length ∧ cs.length ≤ 16) && cs.all colOk && decide ((cs.map (·.1)).Nodup)
theorem right_bad {cs : List Col} {i : Nat} (hi : i < cs.length) (h : colOk cs[i] = false ∨ cs[i].1 ∈ (cs.take i).map (·.1)) : rightCols cs = false := by
  rcases h with h | h
  · have : cs.all colOk = false := by
      rw [List.all_eq_false]
      exact ⟨_, List.getElem_mem hi, by simp [h]⟩
    simp [rightCols, this]
  · have : ¬ (cs.map (·.1)).Nodup := by
      intro hn
      obtain ⟨j, hj, he⟩ := List.getElem_of_mem h
      simp only [List.length_take, List.length_map] at hj
      have hji : j < i := by omega
      have := (List.pairwise_iff_getElem.1 hn) j i (by simp; omega) (by simpa using hi) hji
      apply this
      simp only [List.getElem_take, List.getElem_map] at he ⊢
      exact he
    simp [rightCols, this]
theorem right_all {cs : List Col} (h : ∀ i (hi : i < cs.length), colOk cs[i] = true ∧ cs[i].1 ∉ (cs.take i).map (·.1)) : rightCols cs = decide (1 ≤ cs.length ∧ cs.length ≤ 16) := by
  have h1 : cs.all colOk = true := by
    rw [List.all_eq_true]
    intro c hc
    obtain ⟨i, hi, rfl⟩ := List.getElem_of_mem hc
    exact (h i hi).1
  have h2 : (cs.map (·.1)).Nodup := by
    refine List.pairwise_iff_getElem.2 fun i j hi hj hij => ?_
    have hj' : j < cs.length := by simpa using hj
    intro he
    apply (h j hj').2
    refine List.mem_iff_getElem.2 ⟨i, by simp; omega, ?_⟩
    simp only [List.getElem_take, List.getElem_map] at he ⊢
    exact he
  simp [rightCols, h1, h2]
section
variable {w : World} {a : Option Addr} {c : Nat} {cs : List Col}
theorem und_bool : Tryz.prog.underlying ty.bool = some .bool := by kernel_rfl
theorem und_mapB : Tryz.prog.underlying ty.map_string_bool = some (.map ty.string ty.bool) := by kernel_rfl
theorem zero_bool (w : World) : (zeroValue ty.bool).run Tryz.prog w = .ok (.bool false) w := by
  have h : (Tryz.prog.info? ty.bool).bind (·.zero) = some (.bool false) := by kernel_rfl
  cases hi : Tryz.prog.info? ty.bool with
  | none => rw [hi] at h; cases h
  | some i =>
    rw [hi] at h
    have hz : i.zero = some (.bool false) := h
    simp [zeroValue, typeInfo, hi, hz]
abbrev SetS (w : World) (b n : Nat) (g : List UInt8 → Bool) : Prop := MapB Tryz.prog ty.string ty.bool w b n g
theorem make_set {w : World} {f : Value → World → Prop} (hf : ∀ b w', w.heap.size ≤ b → Below w.heap.size w w' → SetS w' b 0 (fun _ => false) → f (.map (some b)) w') : OPR Tryz.prog (Instr.makeMap ty.map_string_bool none) f w := by
  unfold OPR
  rw [show (Instr.makeMap ty.map_string_bool none).run Tryz.prog w = .ok (.map (some w.heap.size)) (w.alloc (.map #[] 0)) from rfl]
  exact hf _ _ (Nat.le_refl _) ((Below.refl _ w).alloc (Nat.le_refl _) _) ⟨_, World.ownsMap_made _ _ _ _, Maps.tidy_empty, fun x => rfl⟩
def inN (cs : List Col) (i : Nat) (x : List UInt8) : Bool := decide (x ∈ ((cs.take i).map (·.1)).map bl)
theorem inN_step {i : Nat} (hi : i < cs.length) : (fun y => if y = bl cs[i].1 then true else inN cs i y) = inN cs (i + 1) := by
  funext y
  unfold inN
  rw [List.take_succ_eq_append_getElem hi, List.map_append, List.map_append]
  by_cases h1 : y = bl cs[i].1
  · simp [h1]
  · simp [h1]
theorem inN_mem {i : Nat} (hi : i < cs.length) : inN cs i (bl cs[i].1) = true ↔ cs[i].1 ∈ (cs.take i).map (·.1) := by
  unfold inN
  rw [decide_eq_true_eq, List.mem_map]
  constructor
  · rintro ⟨s, hs, he⟩
    rw [← bl_inj he]
    exact hs
  · intro h
    exact ⟨_, h, rfl⟩
theorem maxLen_eq : maxLen = 9223372036854775807 := rfl
theorem schema_Right_ok (hl : Rd w a (colsL cs)) (hn : cs.length ≤ 9223372036854775807) (hq : ∀ c ∈ cs, c.1.size ≤ 9223372036854775807) :
    Calls Tryz.prog f.schema_Right #[.slice a cs.length c] w (Ret fun r w' => r = .bool (rightCols cs) ∧ Below w.heap.size w w') := by
  apply R.schema_Right_calls
  unfold R.schema_Right
  refine make_set fun b w1 hb B1 hM1 => ?_
  refine ⟨_, rfl, fun st w2 => ∃ i : Nat, st = [.int .i64 (i : Int)] ∧ i ≤ cs.length ∧ (∀ j (hj : j < cs.length), j < i → colOk cs[j] = true ∧ cs[j].1 ∉ (cs.take j).map (·.1)) ∧ SetS w2 b i (inN cs i) ∧ Below w.heap.size w w2,
    fun st _ => match st with | [.int _ t] => cs.length - t.toNat | _ => 0, ⟨0, rfl, by omega, fun j _ hj => by omega, hM1, B1⟩, ?_⟩
  rintro t w2 ⟨i, hst, hi, hall, hM, C2⟩
  cases hst
  refine IFB_dec (fun hlt => ⟨⟨by omega, hlt⟩, ?_⟩) (fun hge => ?_)
  · have hil : i < cs.length := by omega
    have hsz := hq _ (List.getElem_mem hil)
    obtain ⟨p, rfl, c0, c1, c2⟩ := col_at (hl.grown C2) hil
    refine ⟨_, by rw [Int.toNat_natCast]; exact c0, _, by rw [Int.toNat_natCast]; exact c1, _, by rw [Int.toNat_natCast]; exact c2, (SH.start (fun _ => False) w2).lit3 fun b10 w6 hb10 B6 S6 => ⟨_, S6.cell 0 rfl rfl, (schema_IsName_ok _ hsz w6).mono ?_⟩⟩
    rintro _ w7 ⟨_, rfl, rfl, B7⟩
    have S7 := S6.grown B7
    have C7 : Below w.heap.size w w7 := below_trans (below_trans C2 B6) B7
    have hM7 : SetS w7 b i (inN cs i) := (hM.kept (F := fun _ => False) (Keeps.of_below B6) (by simp)).kept (F := fun _ => False) (Keeps.of_below B7) (by simp)
    have bad : colOk cs[i] = false ∨ cs[i].1 ∈ (cs.take i).map (·.1) → Value.bool false = .bool (rightCols cs) ∧ Below w.heap.size w w7 := fun h => ⟨by rw [right_bad hil h], C7⟩
    refine ⟨_, rfl, IFB_not (IFB_of (fun h1 => ?_) (fun h1 => bad (.inl (by simp [colOk, h1]))))⟩
    refine ⟨_, S7.cell 0 rfl rfl, hM7.get und_str und_bool und_mapB (zero_bool w7) (by rw [maxLen_eq]; exact hsz) ⟨_, rfl, ?_⟩⟩
    refine IFB_of (fun h2 => bad (.inr ((inN_mem hil).1 h2))) (fun h2 => ⟨_, S7.cell 0 rfl rfl, ?_⟩)
    refine IFB_dec (fun h3 => bad (.inl ?_)) (fun h3 => ⟨_, S7.cell 0 rfl rfl, IFB_dec (fun h4 => bad (.inl ?_)) (fun h4 => ⟨_, S7.cell 0 rfl rfl, ?_⟩)⟩)
    · have : ¬ (1 ≤ cs[i].2.1 ∧ cs[i].2.1 ≤ 3) := by omega
      simp only [colOk, this, decide_false, Bool.and_false]
    · have : ¬ (1 ≤ cs[i].2.1 ∧ cs[i].2.1 ≤ 3) := by omega
      simp only [colOk, this, decide_false, Bool.and_false]
    · refine hM7.put und_str und_bool und_mapB (by rw [maxLen_eq]; omega) (by rw [maxLen_eq]; exact hsz) fun w9 K9 hM9 => ?_
      rw [inN_step hil] at hM9
      rw [wrap_succ (by omega)]
      have ok : colOk cs[i] = true := by
        have : 1 ≤ cs[i].2.1 ∧ cs[i].2.1 ≤ 3 := by omega
        simp only [colOk, h1, this, and_self, decide_true, Bool.and_self]
      refine ⟨⟨i + 1, rfl, by omega, fun j hj hji => ?_, hM9, ?_⟩, ?_⟩
      · rcases Nat.lt_or_ge j i with h | h
        · exact hall j hj h
        · obtain rfl : j = i := by omega
          exact ⟨ok, fun hm => by rw [(inN_mem hil).2 hm] at h2; cases h2⟩
      · exact C7.trans (K9.below C7.size fun k hk he => by subst he; omega)
      · show cs.length - ((i + 1 : Nat) : Int).toNat < cs.length - ((i : Nat) : Int).toNat
        simp only [Int.toNat_natCast]
        omega
  · have hR : rightCols cs = decide (1 ≤ cs.length ∧ cs.length ≤ 16) := right_all fun j hj => hall j hj (by omega)
    refine IFB_dec (fun h => ⟨?_, C2⟩) (fun h => ⟨?_, C2⟩)
    · rw [hR]
      congr 1
      rw [decide_eq_decide]
      omega
    · rw [hR]
      congr 1
      rw [eq_comm, decide_eq_false_iff_not]
      omega
theorem ref05_Find_ok (hl : Rd w a (colsL cs)) (hn : cs.length ≤ 9223372036854775807) (s : ByteArray) :
    Calls Tryz.prog f.ref05_Find #[.slice a cs.length c, .string s] w (Ret fun r w' => w' = w ∧ ((r = .int .i64 (-1) ∧ ∀ c ∈ cs, c.1 ≠ s) ∨ ∃ (j : Nat) (hj : j < cs.length), r = .int .i64 (j : Int) ∧ cs[j].1 = s ∧ ∀ c ∈ cs.take j, c.1 ≠ s)) := by
  apply R.ref05_Find_calls
  unfold R.ref05_Find
  refine ⟨fun st w2 => ∃ i : Nat, st = [.int .i64 (i : Int)] ∧ i ≤ cs.length ∧ (∀ c ∈ cs.take i, c.1 ≠ s) ∧ w2 = w, fun st _ => match st with | [.int _ t] => cs.length - t.toNat | _ => 0, ⟨0, rfl, by omega, by simp, rfl⟩, ?_⟩
  rintro t w2 ⟨i, hst, hi, hall, rfl⟩
  cases hst
  refine IFB_dec (fun hlt => ⟨⟨by omega, hlt⟩, ?_⟩) (fun hge => ⟨rfl, .inl ⟨rfl, ?_⟩⟩)
  · have hil : i < cs.length := by omega
    obtain ⟨p, rfl, c0, c1, c2⟩ := col_at hl hil
    refine ⟨_, by rw [Int.toNat_natCast]; exact c0, ?_⟩
    rw [bytesEq_iff]
    refine IFB_dec (fun he => ⟨rfl, .inr ⟨i, hil, rfl, he, hall⟩⟩) (fun he => ?_)
    rw [wrap_succ (by omega)]
    refine ⟨⟨i + 1, rfl, by omega, fun c hc => ?_, rfl⟩, ?_⟩
    · rw [List.take_succ_eq_append_getElem hil] at hc
      rcases List.mem_append.1 hc with hc | hc
      · exact hall c hc
      · rw [List.mem_singleton.1 hc]; exact he
    · show cs.length - ((i + 1 : Nat) : Int).toNat < cs.length - ((i : Nat) : Int).toNat
      simp only [Int.toNat_natCast]
      omega
  · rw [List.take_of_length_le (by omega)] at hall
    exact hall
theorem ref05_Right_ok (hl : Rd w a (colsL cs)) (hn : cs.length ≤ 9223372036854775807) (hq : ∀ c ∈ cs, c.1.size ≤ 9223372036854775807) :
    Calls Tryz.prog f.ref05_Right #[.slice a cs.length c] w (Ret fun r w' => r = .bool (rightCols cs) ∧ w' = w) := by
  apply R.ref05_Right_calls
  unfold R.ref05_Right
  refine IFB_dec (fun h => ⟨?_, rfl⟩) (fun h1 => IFB_dec (fun h => ⟨?_, rfl⟩) (fun h2 => ?_))
  · have : ¬ (1 ≤ cs.length ∧ cs.length ≤ 16) := by omega
    simp [rightCols, this]
  · have : ¬ (1 ≤ cs.length ∧ cs.length ≤ 16) := by omega
    simp [rightCols, this]
  refine ⟨fun st w2 => ∃ i : Nat, st = [.int .i64 (i : Int)] ∧ i ≤ cs.length ∧ (∀ j (hj : j < cs.length), j < i → colOk cs[j] = true ∧ cs[j].1 ∉ (cs.take j).map (·.1)) ∧ w2 = w,
    fun st _ => match st with | [.int _ t] => cs.length - t.toNat | _ => 0, ⟨0, rfl, by omega, fun j _ hj => by omega, rfl⟩, ?_⟩
  rintro t w2 ⟨i, hst, hi, hall, rfl⟩
  cases hst
  refine IFB_dec (fun hlt => ⟨⟨by omega, hlt⟩, ?_⟩) (fun hge => ⟨?_, rfl⟩)
  · have hil : i < cs.length := by omega
    have hsz := hq _ (List.getElem_mem hil)
    obtain ⟨p, rfl, c0, c1, c2⟩ := col_at hl hil
    have bad : colOk cs[i] = false ∨ cs[i].1 ∈ (cs.take i).map (·.1) → Value.bool false = .bool (rightCols cs) ∧ w2 = w2 := fun h => ⟨by rw [right_bad hil h], rfl⟩
    have hb : (0 : Int) ≤ (i : Int) ∧ (i : Int) < (cs.length : Int) := ⟨by omega, hlt⟩
    refine ⟨_, by rw [Int.toNat_natCast]; exact c0, (ref05_IsName_ok _ hsz w2).mono ?_⟩
    rintro _ w2 ⟨_, rfl, rfl, rfl⟩
    refine ⟨_, rfl, IFB_not (IFB_of (fun h3 => ⟨hb, _, by rw [Int.toNat_natCast]; exact c0, (ref05_Find_ok hl hn _).mono ?_⟩) (fun h3 => bad (.inl (by simp [colOk, h3]))))⟩
    rintro _ w2 ⟨r, rfl, rfl, hr⟩
    have hr' : ∃ z : Int, r = .int .i64 z ∧ (z = i ↔ cs[i].1 ∉ (cs.take i).map (·.1)) := by
      rcases hr with ⟨rfl, h⟩ | ⟨j, hj, rfl, he, h⟩
      · exact absurd rfl (h _ (List.getElem_mem hil))
      · refine ⟨_, rfl, ?_⟩
        have hle : j ≤ i := by
          rcases Nat.lt_or_ge i j with hij | hij
          · exact absurd rfl (h cs[i] (List.mem_take_iff_getElem.2 ⟨i, by omega, rfl⟩))
          · exact hij
        constructor
        · intro hz hm
          obtain ⟨c, hc, he⟩ := List.mem_map.1 hm
          have : j = i := by omega
          subst this
          exact h c hc he
        · intro hm
          rcases Nat.lt_or_ge j i with hji | hji
          · exact absurd (List.mem_map.2 ⟨cs[j], List.mem_take_iff_getElem.2 ⟨j, by omega, rfl⟩, he⟩) hm
          · omega
    obtain ⟨z, rfl, hz⟩ := hr'
    refine ⟨_, rfl, IFB_ne (fun h => bad (.inr ?_)) (fun h => ⟨hb, _, by rw [Int.toNat_natCast]; exact c1, ?_⟩)⟩
    · by_cases hm : cs[i].1 ∈ (cs.take i).map (·.1)
      · exact hm
      · exact absurd (hz.2 hm) h
    refine IFB_dec (fun h3 => bad (.inl ?_)) (fun h3 => ⟨hb, _, by rw [Int.toNat_natCast]; exact c1, IFB_dec (fun h4 => bad (.inl ?_)) (fun h4 => ?_)⟩)
    · have : ¬ (1 ≤ cs[i].2.1 ∧ cs[i].2.1 ≤ 3) := by omega
      simp only [colOk, this, decide_false, Bool.and_false]
    · have : ¬ (1 ≤ cs[i].2.1 ∧ cs[i].2.1 ≤ 3) := by omega
      simp only [colOk, this, decide_false, Bool.and_false]
    · rw [wrap_succ (by omega)]
      refine ⟨⟨i + 1, rfl, by omega, fun j hj hji => ?_, rfl⟩, ?_⟩
      · rcases Nat.lt_or_ge j i with h | h
        · exact hall j hj h
        · obtain rfl : j = i := by omega
          refine ⟨?_, hz.1 (by omega)⟩
          have : 1 ≤ cs[j].2.1 ∧ cs[j].2.1 ≤ 3 := by omega
          simp_all [colOk]
      · show cs.length - ((i + 1 : Nat) : Int).toNat < cs.length - ((i : Nat) : Int).toNat
        simp only [Int.toNat_natCast]
        omega
  · have hR : rightCols cs = decide (1 ≤ cs.length ∧ cs.length ≤ 16) := right_all fun j hj => hall j hj (by omega)
    rw [hR]
    congr 1
    rw [eq_comm, decide_eq_true_eq]
    omega
end
end Go.Proofs.YtpnaifmmggnimaaGreatDoor
namespace Go.Proofs.YtpnaifmmggnimaaGreatDoor
set_option maxRecDepth 100000
open Go.Dn Go.Proofs
open Go.RowKit (Below)
set_option linter.unusedVariables false
/-! ### what package-level variables hold -/
/-! ### Number, Signed, Text -/
/-! ### Lay -/
def layL (v : Val) : List UInt8 :=
  if v.1 = 1 then 1 :: digitsL (zigN v.2.1) else if v.1 = 2 then [2, UInt8.ofNat v.2.1.toNat] else if v.1 = 3 then 3 :: textL v.2.2 else [0]
def layV (b : List UInt8) (v : Val) (r : Value) (w w' : World) : Prop :=
  (rightB v = false ∧ r = .tuple #[.slice none 0 0, .int .i64 2] ∧ Below w.heap.size w w') ∨ (rightB v = true ∧ ∃ a c, r = .tuple #[.slice a (b ++ layL v).length c, .int .i64 0] ∧ NewB w w' (b ++ layL v) a c)
theorem value_Lay_ok {w : World} {a : Option Addr} {c : Nat} (l : List UInt8) (hl : Rd w a (l.map byteV)) (v : Val) (hv : ValOk v) (hs : l.length + 2000 ≤ 140737488355328) :
    Calls Tryz.prog f.value_Lay #[.slice a l.length c, valV v] w (Ret fun r w' => layV l v r w w') := by
  apply R.value_Lay_calls
  unfold R.value_Lay
  refine (SH.start (fun _ => False) w).newB fun b5 w1 hb5 B1 S1 => ⟨_, S1.cell 0 rfl rfl, _, S1.cell 0 rfl rfl, _, S1.cell 0 rfl rfl, (value_Right_ok w1 v).mono ?_⟩
  rintro _ w2 ⟨_, rfl, rfl, B2⟩
  have S2 := S1.grown B2
  refine ⟨_, rfl, IFB_not (IFB_of (fun hr => ?_) (fun hr => .inl ⟨hr, rfl, S2.below⟩))⟩
  have hk := right_kind hr
  refine ⟨_, S2.cell 0 rfl rfl, S2.newB fun b12 w3 hb12 B3 S3 => S3.newB fun b13 w4 hb13 B4 S4 => ?_⟩
  obtain ⟨kk, hkk, hkb⟩ : ∃ kk : Nat, v.1 = kk ∧ kk < 4 := ⟨v.1.toNat, by omega, by omega⟩
  have hkv : Value.int .u8 (IntKind.u8.wrap v.1) = byteV (UInt8.ofNat kk) := by rw [hkk, wrap_u8_id (by omega) (by omega)]; exact byteV_of (by omega)
  refine (slices_Concat_ok [(a, c, l), (some ⟨b12, 0, none⟩, 1, [UInt8.ofNat kk])] (by have := Rd.of_block0 (S4.get 0 rfl); simpa [partV1] using this) (by
    intro p hp
    simp only [List.mem_cons, List.not_mem_nil, or_false] at hp
    rcases hp with rfl | rfl
    · exact hl.grown S4.below
    · have := Rd.of_block0 (S4.get 1 rfl)
      rw [hkv] at this
      simpa using this) (by simp) (by rw [flat2]; simp; omega)).mono ?_
  rintro _ w5 ⟨_, rfl, a5, c5, rfl, h5⟩
  rw [flat2] at h5 ⊢
  have S5 := S4.grown h5.bel
  have h5' : NewB w w5 (l ++ [UInt8.ofNat kk]) a5 c5 := h5.before S4.below
  refine ⟨_, _, _, rfl, _, S5.cell 2 rfl rfl, IFB_eq (fun h => ⟨_, S5.cell 2 rfl rfl, ?_⟩) (fun h1 => IFB_eq (fun h => ⟨_, S5.cell 2 rfl rfl, ?_⟩) (fun h2 => IFB_eq (fun h => ⟨_, S5.cell 2 rfl rfl, ?_⟩) (fun h3 => ?_)))⟩
  · refine (wire_Signed_ok _ h5'.rd v.2.1 hv.lo hv.hi (by simp; omega)).mono ?_
    rintro _ w6 ⟨_, rfl, a6, c6, rfl, h6⟩
    have e : (l ++ [UInt8.ofNat kk]) ++ digitsL (zigN v.2.1) = l ++ layL v := by
      have : kk = 1 := by omega
      subst this
      simp [layL, h]
    rw [e] at h6 ⊢
    exact ⟨_, _, _, rfl, .inr ⟨hr, a6, c6, rfl, h6.before h5'.bel⟩⟩
  · have hb01 : v.2.1 = 0 ∨ v.2.1 = 1 := by omega
    refine S5.newB fun b21 w7 hb21 B7 S7 => ?_
    refine append_byte (h5'.grown B7).row (by simp; omega) (x := UInt8.ofNat v.2.1.toNat) (by rw [wrap_u8_id (by omega) (by omega)]; rcases hb01 with h | h <;> rw [h] <;> rfl) (S7.get 0 rfl) fun a8 c8 w8 R8 K8 N8 => ⟨_, _, _, rfl, .inr ⟨hr, a8, c8, ?_⟩⟩
    have e : (l ++ [UInt8.ofNat kk]) ++ [UInt8.ofNat v.2.1.toNat] = l ++ layL v := by
      have : kk = 2 := by omega
      subst this
      simp [layL, h]
    rw [e] at R8 ⊢
    have h7 := h5'.grown B7
    refine ⟨rfl, R8, fun k hk => ?_, h7.bel.trans (K8.below h7.bel.size fun k hk he => by have := h7.new k he; omega)⟩
    rcases N8 k hk with h | h
    · exact h7.new k h
    · exact Nat.le_trans h7.bel.size h
  · refine (wire_Text_ok _ h5'.rd v.2.2 (by omega) (by simp; omega)).mono ?_
    rintro _ w6 ⟨_, rfl, a6, c6, rfl, h6⟩
    have e : (l ++ [UInt8.ofNat kk]) ++ textL v.2.2 = l ++ layL v := by
      have : kk = 3 := by omega
      subst this
      simp [layL, h]
    rw [e] at h6 ⊢
    exact ⟨_, _, _, _, rfl, .inr ⟨hr, a6, c6, rfl, h6.before h5'.bel⟩⟩
  · have e : l ++ [UInt8.ofNat kk] = l ++ layL v := by
      have : kk = 0 := by omega
      subst this
      simp [layL, h1, h2, h3]
    have h6 := h5'
    rw [e] at h6
    refine .inr ⟨hr, a5, c5, ?_, h6⟩
    rw [← e]
/-! ### Show -/
end Go.Proofs.YtpnaifmmggnimaaGreatDoor
namespace Go.Dn
theorem SH.v3 {F : Nat → Prop} {w0 w : World} {H : List Ent} (S : SH F w0 w H) (n : Nat) {b : Nat} {x y : Int} {s : ByteArray} {t : TypeId} (hn : H[n]? = some (b, #[.int .i64 x, .int .i64 y, .string s], t)) {Q : Int → Int → ByteArray → Prop} (h : Q x y s) :
    ∃ a : Int, w.cell? ⟨b, 0, none⟩ = some (.int .i64 a) ∧ ∃ c : Int, w.cell? ⟨b, 1, none⟩ = some (.int .i64 c) ∧ ∃ d : ByteArray, w.cell? ⟨b, 2, none⟩ = some (.string d) ∧ Q a c d :=
  ⟨x, S.cell n hn rfl, y, S.cell n hn rfl, s, S.cell n hn rfl, h⟩
end Go.Dn
namespace Go.Proofs.YtpnaifmmggnimaaGreatDoor
open Go.Dn Go.Proofs
open Go.RowKit (Below)
set_option linter.unusedVariables false
set_option maxRecDepth 20000
/-! ### orders -/
/-! ### the laws -/
end Go.Proofs.YtpnaifmmggnimaaGreatDoor
namespace Go.Proofs.YtpnaifmmggnimaaGreatDoor
set_option maxRecDepth 100000
open Go.Dn Go.Proofs
open Go.RowKit (Below)
set_option linter.unusedVariables false
section
variable {w : World} {a : Option Addr} {c : Nat}
end
def unzig (n : Nat) : Int := if n % 2 = 1 then -((n / 2 : Nat) : Int) - 1 else ((n / 2 : Nat) : Int)
theorem and1_64 (n : Nat) (h : n < 18446744073709551616) : (BitVec.ofInt 64 (n : Int) &&& BitVec.ofInt 64 1).toNat = n % 2 := by
  rw [BitVec.toNat_and, BitVec.ofInt_natCast, BitVec.toNat_ofNat, Nat.mod_eq_of_lt (by omega)]
  exact Nat.and_two_pow_sub_one_eq_mod n 1
theorem unzig_prog {n : Nat} (h : n < 18446744073709551616) :
    IntKind.i64.wrap (((BitVec.ofInt 64 (IntKind.i64.wrap (Int.fdiv (n : Int) (2 ^ (min 1 64)))) ^^^ BitVec.ofInt 64 (IntKind.i64.wrap (0 - IntKind.i64.wrap (IntKind.u64.wrap (((BitVec.ofInt 64 (n : Int) &&& BitVec.ofInt 64 1).toNat : Int)))))).toNat : Int)) = unzig n := by
  have e1 : IntKind.i64.wrap (Int.fdiv (n : Int) (2 ^ (min 1 64))) = ((n / 2 : Nat) : Int) := by
    rw [Int.fdiv_eq_ediv_of_nonneg _ (by decide), show (2 : Int) ^ (min 1 64) = 2 from rfl, wrap_i64 (by omega) (by omega)]
    omega
  rw [e1, and1_64 n h, wrap_u64_id (by omega) (by omega), wrap_i64 (n := ((n % 2 : Nat) : Int)) (by omega) (by omega)]
  unfold unzig
  by_cases ho : n % 2 = 1
  · rw [ho, if_pos rfl, show IntKind.i64.wrap (0 - ((1 : Nat) : Int)) = -1 by decide, show BitVec.ofInt 64 (-1) = BitVec.allOnes 64 by decide, BitVec.xor_allOnes, BitVec.toNat_not, BitVec.ofInt_natCast, BitVec.toNat_ofNat, Nat.mod_eq_of_lt (by omega), wrap_i64_def]
    split <;> omega
  · have : n % 2 = 0 := by omega
    rw [this, if_neg (by omega), show IntKind.i64.wrap (0 - ((0 : Nat) : Int)) = 0 by decide, show BitVec.ofInt 64 0 = 0#64 by decide, BitVec.xor_zero, BitVec.ofInt_natCast, BitVec.toNat_ofNat, Nat.mod_eq_of_lt (by omega), wrap_i64 (by omega) (by omega)]
theorem unzig_range {n : Nat} (h : n < 18446744073709551616) : -9223372036854775808 ≤ unzig n ∧ unzig n ≤ 9223372036854775807 := by unfold unzig; split <;> omega
def sgnV (o : Option (Nat × Nat)) : Value :=
  match o with
  | some x => .tuple #[.int .i64 (unzig x.1), .int .i64 (x.2 : Int), .int .i64 0]
  | none => .tuple #[.int .i64 0, .int .i64 0, .int .i64 20]
section
variable {w : World} {a : Option Addr} {c : Nat} {l : List UInt8}
theorem wire_TakeSigned_ok (hl : Rd w a (l.map byteV)) (hc : l.length ≤ c) (hs : l.length ≤ 9223372036854775807) (at_ : Int) : Calls Tryz.prog f.wire_TakeSigned #[.slice a l.length c, .int .i64 at_] w (Ret fun v w' => v = sgnV (takeN l at_) ∧ w' = w) := by
  apply R.wire_TakeSigned_calls
  unfold R.wire_TakeSigned
  refine (wire_TakeNumber_ok hl hc hs at_).mono ?_
  rintro _ w ⟨_, rfl, rfl, rfl⟩
  cases ho : takeN l at_ with
  | none => exact ⟨_, _, _, rfl, rfl, rfl⟩
  | some x =>
    obtain ⟨n, k⟩ := x
    refine ⟨_, _, _, rfl, ?_, rfl⟩
    rw [unzig_prog (takeN_bounds ho).1]
    rfl
/-! ### Take -/
end
section
variable {w : World} {a : Option Addr} {c : Nat} {l : List UInt8}
/-! ### Take -/
def takeV (l : List UInt8) (at_ : Int) : Option (Val × Nat) :=
  if at_ < 0 ∨ (l.length : Int) ≤ at_ then none else
  let k := (l.getD at_.toNat 0).toNat
  if k = 0 then some ((0, 0, E0), at_.toNat + 1)
  else if k = 1 then (takeN l (at_ + 1)).map fun x => ((1, unzig x.1, E0), x.2)
  else if k = 2 then (if at_ + 1 < l.length ∧ (l.getD (at_.toNat + 1) 0).toNat ≤ 1 then some ((2, ((l.getD (at_.toNat + 1) 0).toNat : Int), E0), at_.toNat + 2) else none)
  else if k = 3 then (takeT l (at_ + 1) 1024).map fun x => ((3, 0, sof x.1), x.2)
  else none
def takenV (o : Option (Val × Nat)) : Value :=
  match o with
  | some x => .tuple #[.agg #[.int .i64 x.1.1, .int .i64 x.1.2.1, .string x.1.2.2], .int .i64 (x.2 : Int), .int .i64 0]
  | none => .tuple #[.agg #[.int .i64 0, .int .i64 0, .string E0], .int .i64 0, .int .i64 20]
theorem bool_byte {l : List UInt8} {at_ : Nat} : (∃ n k, takeN l (at_ : Int) = some (n, k) ∧ (n = 0 ∨ n = 1)) ↔ (at_ < l.length ∧ (l.getD at_ 0).toNat ≤ 1) := by
  have ht : takeN l (at_ : Int) = (readN 0 0 (l.drop at_)).map fun x => (x.1, at_ + x.2) := by unfold takeN; rw [if_neg (by omega)]; rfl
  by_cases h : at_ < l.length
  · have hd : l.drop at_ = l[at_] :: l.drop (at_ + 1) := List.drop_eq_getElem_cons h
    have hg : l.getD at_ 0 = l[at_] := by simp [List.getD, h]
    rw [hg]
    generalize l[at_] = c at hd
    have e : readN 0 0 (c :: l.drop (at_ + 1)) = if c.toNat < 128 then some (c.toNat, 1) else readN 1 (c.toNat % 128) (l.drop (at_ + 1)) := by
      conv => lhs; unfold readN
      rw [if_neg (by omega)]
      by_cases hc : c.toNat < 128
      · rw [if_pos hc, if_pos hc, if_neg (by omega)]
        simp
      · rw [if_neg hc, if_neg hc]
        simp
    rw [ht, hd, e]
    by_cases hc : c.toNat < 128
    · rw [if_pos hc]
      simp only [Option.map_some, Option.some.injEq, Prod.mk.injEq]
      constructor
      · rintro ⟨n, k, ⟨rfl, _⟩, hn⟩; exact ⟨h, by omega⟩
      · rintro ⟨_, hn⟩; exact ⟨_, _, ⟨rfl, rfl⟩, by omega⟩
    · rw [if_neg hc]
      constructor
      · rintro ⟨n, k, hs, hn⟩
        obtain ⟨⟨x1, x2⟩, hx, he⟩ := Option.map_eq_some_iff.1 hs
        simp only [Prod.mk.injEq] at he
        obtain ⟨_, _, _, _, hb⟩ := readN_bounds _ 1 _ _ _ (by omega) hx
        have := hb (by omega)
        omega
      · rintro ⟨_, hn⟩; omega
  · have hd : l.drop at_ = [] := List.drop_eq_nil_of_le (by omega)
    rw [ht, hd]
    constructor
    · rintro ⟨n, k, hs, _⟩; simp [readN] at hs
    · rintro ⟨hh, _⟩; omega
theorem bool_next {l : List UInt8} {at_ n k : Nat} (h : takeN l (at_ : Int) = some (n, k)) (hn : n = 0 ∨ n = 1) : n = (l.getD at_ 0).toNat ∧ k = at_ + 1 := by
  have hb := bool_byte.1 ⟨n, k, h, hn⟩
  have ht : takeN l (at_ : Int) = (readN 0 0 (l.drop at_)).map fun x => (x.1, at_ + x.2) := by unfold takeN; rw [if_neg (by omega)]; rfl
  have hd : l.drop at_ = l[at_] :: l.drop (at_ + 1) := List.drop_eq_getElem_cons hb.1
  have hg : l.getD at_ 0 = l[at_] := by simp [List.getD, hb.1]
  rw [hg] at hb ⊢
  rw [ht, hd] at h
  unfold readN at h
  rw [if_neg (by omega), if_pos (by omega), if_neg (by omega)] at h
  simp at h
  omega
end
end Go.Proofs.YtpnaifmmggnimaaGreatDoor
namespace Go.Dn
theorem SH.res3 {F : Nat → Prop} {w0 w : World} {H : List Ent} (S : SH F w0 w H) (n : Nat) {b : Nat} {x0 x1 x2 : Value} {t : TypeId} (hn : H[n]? = some (b, #[x0, x1, x2], t)) {v0 v1 : Int} {v2 : ByteArray} {Q : Int → Int → ByteArray → World → Prop}
    (hk : ∀ w', SH F w0 w' (H.set n (b, #[.int .i64 v0, .int .i64 v1, .string v2], t)) → Q v0 v1 v2 w') :
    STO ⟨b, 0, none⟩ (.int .i64 v0) (fun w => STO ⟨b, 1, none⟩ (.int .i64 v1) (fun w => STO ⟨b, 2, none⟩ (.string v2) (fun w => ∃ r0 : Int, w.cell? ⟨b, 0, none⟩ = some (.int .i64 r0) ∧ ∃ r1 : Int, w.cell? ⟨b, 1, none⟩ = some (.int .i64 r1) ∧ ∃ r2 : ByteArray, w.cell? ⟨b, 2, none⟩ = some (.string r2) ∧ Q r0 r1 r2 w) w) w) w := by
  have hlt := (List.getElem?_eq_some_iff.1 hn).1
  exact S.sto3K n hn fun w' _ S' => S'.v3 n (List.getElem?_set_self hlt) (hk w' S')
end Go.Dn
namespace Go.Proofs.YtpnaifmmggnimaaGreatDoor
open Go.Dn Go.Proofs
open Go.RowKit (Below)
set_option linter.unusedVariables false
set_option maxRecDepth 20000
section
variable {w : World} {a : Option Addr} {c : Nat} {l : List UInt8}
theorem byte_getD {i : Nat} (hi : i < l.length) : l.getD i 0 = l[i] := by simp [List.getD, hi]
end
end Go.Proofs.YtpnaifmmggnimaaGreatDoor
namespace Go.Proofs.YtpnaifmmggnimaaGreatDoor
set_option maxRecDepth 100000
open Go.Dn Go.Proofs
open Go.RowKit (Below)
set_option linter.unusedVariables false
section
variable {w : World} {a : Option Addr} {c : Nat} {l : List UInt8}
theorem value_Take_ok (hl : Rd w a (l.map byteV)) (hc : l.length ≤ c) (hs : l.length ≤ 140737488355328) (at_ : Int) :
    Calls Tryz.prog f.value_Take #[.slice a l.length c, .int .i64 at_] w (Ret fun v w' => v = takenV (takeV l at_) ∧ Below w.heap.size w w') := by
  apply R.value_Take_calls
  unfold R.value_Take
  refine (SH.start (fun _ => False) w).newB fun b3 w1 hb3 B1 S1 => ?_
  refine IFB_dec (fun h => S1.res3 0 rfl fun w4 S4 => ⟨by simp [takeV, h, takenV], S4.below⟩) (fun h0 => IFB_dec (fun h => S1.res3 0 rfl fun w4 S4 => ⟨?_, S4.below⟩) (fun h1 => ?_))
  · unfold takeV
    rw [if_pos (.inr h)]
    rfl
  obtain ⟨at_, rfl⟩ : ∃ k : Nat, at_ = k := ⟨at_.toNat, by omega⟩
  have hat : at_ < l.length := by omega
  refine ⟨⟨by omega, by omega⟩, ?_⟩
  obtain ⟨p, hp, hcell⟩ := byte_at (hl.grown B1) hat
  subst hp
  have hg := byte_getD hat
  have hcc := l[at_].toNat_lt
  refine ⟨_, by rw [Int.toNat_natCast]; exact hcell, S1.lit3 fun b12 w11 hb12 B11 S11 => ?_⟩
  have hl11 : Rd w11 (some p) (l.map byteV) := hl.grown S11.below
  rw [wrap_i64 (n := (l[at_].toNat : Int)) (by omega) (by omega)] at S11
  rw [wrap_i64 (n := (at_ : Int) + 1) (by omega) (by omega)]
  have ht : takeV l (at_ : Int) = (if l[at_].toNat = 0 then some ((0, 0, E0), at_ + 1)
      else if l[at_].toNat = 1 then (takeN l ((at_ : Int) + 1)).map fun x => ((1, unzig x.1, E0), x.2)
      else if l[at_].toNat = 2 then (if (at_ : Int) + 1 < l.length ∧ (l.getD (at_ + 1) 0).toNat ≤ 1 then some ((2, ((l.getD (at_ + 1) 0).toNat : Int), E0), at_ + 2) else none)
      else if l[at_].toNat = 3 then (takeT l ((at_ : Int) + 1) 1024).map fun x => ((3, 0, sof x.1), x.2)
      else none) := by
    unfold takeV
    rw [if_neg (by omega), Int.toNat_natCast, hg]
  generalize hkk : l[at_].toNat = kk at ht S11 hcc
  refine ⟨fun s w18 => ∃ (nx e : Int) (v : Val), s = [.int .i64 nx, .int .i64 e] ∧ SH (fun _ => False) w w18 [(b12, #[.int .i64 v.1, .int .i64 v.2.1, .string v.2.2], ty.api_Value), (b3, #[.int .i64 0, .int .i64 0, .string E0], ty.api_Value)] ∧
      (e ≠ 0 → takeV l (at_ : Int) = none) ∧ (e = 0 → rightB v = false → takeV l (at_ : Int) = none) ∧ (e = 0 → rightB v = true → ∃ k : Nat, nx = k ∧ takeV l (at_ : Int) = some (v, k)), ?_, ?_⟩
  · refine ⟨_, S11.cell 0 rfl rfl, IFB_eq (fun h => ?_) (fun n0 => IFB_eq (fun h => ?_) (fun n1 => IFB_eq (fun h => ?_) (fun n2 => IFB_eq (fun h => ?_) (fun n3 => ?_))))⟩
    · have : kk = 0 := by omega
      subst this
      exact ⟨_, _, (0, 0, E0), rfl, S11, fun h => absurd rfl h, fun _ h => absurd h (by decide), fun _ _ => ⟨at_ + 1, by omega, by rw [ht]; simp⟩⟩
    · have : kk = 1 := by omega
      subst this
      refine (wire_TakeSigned_ok hl11 hc (by omega) ((at_ : Int) + 1)).mono ?_
      rintro _ w11 ⟨_, rfl, rfl, rfl⟩
      cases ho : takeN l ((at_ : Int) + 1) with
      | none =>
        exact ⟨_, _, _, rfl, S11.sto 0 rfl (show 1 < 3 by decide) fun w13 S13 => ⟨_, _, (1, 0, E0), rfl, S13, fun _ => by rw [ht, ho]; simp, fun h => absurd h (by decide), fun h => absurd h (by decide)⟩⟩
      | some x =>
        obtain ⟨n, k⟩ := x
        exact ⟨_, _, _, rfl, S11.sto 0 rfl (show 1 < 3 by decide) fun w13 S13 => ⟨_, _, (1, unzig n, E0), rfl, S13, fun h => absurd rfl h, fun _ h => absurd h (by simp [rightB]), fun _ _ => ⟨k, rfl, by rw [ht, ho]; simp⟩⟩⟩
    · have : kk = 2 := by omega
      subst this
      refine (wire_TakeNumber_ok hl11 hc (by omega) ((at_ : Int) + 1)).mono ?_
      rintro _ w11 ⟨_, rfl, rfl, rfl⟩
      have hcast : ((at_ : Int) + 1) = ((at_ + 1 : Nat) : Int) := by omega
      have hbb := bool_byte (l := l) (at_ := at_ + 1)
      cases ho : takeN l ((at_ : Int) + 1) with
      | none =>
        refine ⟨_, _, _, rfl, S11.sto 0 rfl (show 1 < 3 by decide) fun w13 S13 => ⟨_, _, (2, IntKind.i64.wrap 0, E0), rfl, S13, fun _ => ?_, fun h => absurd h (by decide), fun h => absurd h (by decide)⟩⟩
        rw [ht]
        simp only [if_neg (show ¬ (2 : Nat) = 0 by decide), if_neg (show ¬ (2 : Nat) = 1 by decide), if_true]
        rw [if_neg]
        rintro ⟨q1, q2⟩
        obtain ⟨n, k, q3, _⟩ := hbb.2 ⟨by omega, q2⟩
        rw [← hcast, ho] at q3
        cases q3
      | some x =>
        obtain ⟨n, k⟩ := x
        have hn := (takeN_bounds ho).1
        refine ⟨_, _, _, rfl, S11.sto 0 rfl (show 1 < 3 by decide) fun w13 S13 => ⟨_, _, (2, IntKind.i64.wrap (n : Int), E0), rfl, S13, fun h => absurd rfl h, fun _ hf => ?_, fun _ hr => ?_⟩⟩
        · rw [ht]
          simp only [if_neg (show ¬ (2 : Nat) = 0 by decide), if_neg (show ¬ (2 : Nat) = 1 by decide), if_true]
          rw [if_neg]
          rintro ⟨q1, q2⟩
          obtain ⟨n', k', q3, q4⟩ := hbb.2 ⟨by omega, q2⟩
          rw [← hcast, ho] at q3
          cases q3
          rcases q4 with rfl | rfl
          · exact absurd hf (by decide)
          · exact absurd hf (by decide)
        · have h01 : n = 0 ∨ n = 1 := by
            have := right_kind hr
            simp only at this
            rw [wrap_i64_def] at this
            split at this <;> omega
          obtain ⟨q1, q2⟩ := bool_byte.1 ⟨n, k, hcast ▸ ho, h01⟩
          obtain ⟨q3, q4⟩ := bool_next (hcast ▸ ho) h01
          refine ⟨k, rfl, ?_⟩
          rw [ht]
          simp only [if_neg (show ¬ (2 : Nat) = 0 by decide), if_neg (show ¬ (2 : Nat) = 1 by decide), if_true]
          rw [if_pos ⟨by omega, q2⟩, ← q3, wrap_i64 (by omega) (by omega), q4]
    · have : kk = 3 := by omega
      subst this
      refine (wire_TakeText_any hl11 hc (by omega) ((at_ : Int) + 1) 1024).mono ?_
      rintro _ w11 ⟨_, rfl, rfl, rfl⟩
      cases ho : takeT l ((at_ : Int) + 1) 1024 with
      | none =>
        exact ⟨_, _, _, rfl, S11.sto 0 rfl (show 2 < 3 by decide) fun w13 S13 => ⟨_, _, (3, 0, E0), rfl, S13, fun _ => by rw [ht, ho]; simp, fun h => absurd h (by decide), fun h => absurd h (by decide)⟩⟩
      | some x =>
        obtain ⟨s, k⟩ := x
        have hsz : s.length ≤ 1024 := by
          unfold takeT at ho
          split at ho
          · split at ho
            · cases ho
            · simp only [Option.some.injEq, Prod.mk.injEq] at ho
              rw [← ho.1, List.length_take]
              omega
          · cases ho
        exact ⟨_, _, _, rfl, S11.sto 0 rfl (show 2 < 3 by decide) fun w13 S13 => ⟨_, _, (3, 0, sof s), rfl, S13, fun h => absurd rfl h, fun _ h => absurd h (by simp [rightB, size_sof, hsz]), fun _ _ => ⟨k, rfl, by rw [ht, ho]; simp⟩⟩⟩
    · have hno : takeV l (at_ : Int) = none := by rw [ht, if_neg (by omega), if_neg (by omega), if_neg (by omega), if_neg (by omega)]
      refine ⟨_, _, ((kk : Int), 0, E0), rfl, S11, fun _ => hno, fun _ _ => hno, fun _ h => ?_⟩
      exfalso
      have := right_kind h
      simp only at this
      omega
  · rintro _ _ w18 ⟨nx, e, v, hs', S18, g1, g2, g3⟩
    cases hs'
    refine IFB_ne (fun h => S18.res3 1 rfl fun w4 S4 => ⟨by rw [g1 h]; rfl, S4.below⟩) (fun h => S18.v3 0 rfl ((value_Right_ok w18 v).mono ?_))
    rintro _ w22 ⟨_, rfl, rfl, B22⟩
    have S22 := S18.grown B22
    refine ⟨_, rfl, IFB_not (IFB_of (fun hr => S22.v3 0 rfl (S22.res3 1 rfl fun w4 S4 => ⟨?_, S4.below⟩)) (fun hr => S22.res3 1 rfl fun w4 S4 => ⟨by rw [g2 h hr]; rfl, S4.below⟩))⟩
    obtain ⟨k, rfl, hk⟩ := g3 h hr
    rw [hk]
    rfl
end
end Go.Proofs.YtpnaifmmggnimaaGreatDoor
