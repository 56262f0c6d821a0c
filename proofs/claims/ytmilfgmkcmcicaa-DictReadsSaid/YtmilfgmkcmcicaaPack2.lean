/-
  Pack, by the program.
-/
import Derived.Test.YtmilfgmkcmcicaaPack
namespace Go.Proofs.Ytmilfgmkcmcicaa
open Go.Dn Go.Proofs
open Go.RowKit (Below)
set_option linter.unusedVariables false
set_option maxRecDepth 20000

theorem rr_eta {rr : Loop} (h1 : rr.state = .ready) (h2 : rr.pending = none) : ({ rr with state := if (none : Option Code).isNone then .ready else .done, pending := none } : Loop) = rr := by
  cases rr
  simp_all
section
variable {w : World} {a : Option Addr} {c : Nat} {xs : List Nat}
theorem pack_Pack_ok (hl : Rd w a (xs.map u64V)) (hn : xs.length ≤ 4096) {wd : Nat} (hw : wd ≤ 64) (hx : ∀ x ∈ xs, x < 2 ^ wd) :
    Calls Try.prog f.pack_Pack #[.int .i64 (wd : Int), .slice a xs.length c] w (Ret fun v w' => ∃ a' c', v = .tuple #[.slice a' (packL xs wd).length c', .int .i64 0] ∧ NewB w w' (packL xs wd) a' c') := by
  have h64 : (2 : Nat) ^ wd ≤ 2 ^ 64 := Nat.pow_le_pow_right (by omega) hw
  have hx64 : ∀ x ∈ xs, x < 18446744073709551616 := fun x h => Nat.lt_of_lt_of_le (hx x h) h64
  have hm : xs.length * wd ≤ 4096 * 64 := Nat.mul_le_mul hn hw
  obtain ⟨m, hmd⟩ : ∃ m, m = sizeN xs.length wd := ⟨_, rfl⟩
  have hmv : m = (xs.length * wd + 7) / 8 := hmd
  apply R.pack_Pack_calls
  unfold R.pack_Pack
  refine (SH.start (fun _ => False) w).newB fun b3 w1 hb3 B1 S1 => S1.newB fun b4 w2 hb4 B2 S2 => ⟨_, _, _, S2.cell 0 rfl rfl, _, S2.cell 1 rfl rfl, (pack_Size_ok w2 (xs.length : Int) (wd : Int)).mono ?_⟩
  rintro _ w3 ⟨_, rfl, rfl, rfl⟩
  rw [if_pos ⟨by omega, by omega, by omega, by omega⟩]
  refine ⟨_, _, rfl, S2.drawB fun w4 B4 S4 => IFB_ne (fun h => absurd rfl h) (fun _ => ⟨_, _, _, S4.cell 0 rfl rfl, _, S4.cell 1 rfl rfl, (pack_Width_ok (hl.grown S4.below) (by omega) hx64).mono ?_⟩)⟩
  rintro _ w5 ⟨_, rfl, r, rfl, hr, hr64, rfl⟩
  have hrw : r ≤ wd := hr.le.2 ((orL_lt xs wd).2 hx)
  refine ⟨_, rfl, S4.cell 1 rfl rfl, IFB_dec (fun h => by omega) (fun _ => ?_)⟩
  have em : ((xs.length : Int) * (wd : Int) + 7) / 8 = (m : Int) := by
    rw [hmv]
    have : ((xs.length : Int) * (wd : Int)) = ((xs.length * wd : Nat) : Int) := by norm_cast
    rw [this]
    omega
  rw [em]
  refine make_new tB (l := (m : Int)) (c := (m : Int)) (by omega) (by omega) (by omega) (by omega) fun bo w6 hbo B6 hO6 => ?_
  rw [Int.toNat_natCast, rowC_zero (bitA xs wd) m] at hO6
  rw [Int.toNat_natCast]
  have S6 := S4.grown B6
  refine ⟨_, _, _, rfl, S6.newB fun b16 w7 hb16 B7 S7 => S7.stoK 0 rfl (show 0 < 1 by decide) fun w8 K8 S8 => ⟨_, _, _, S8.cell 1 rfl rfl, _, S8.cell 2 rfl rfl, (pack_places_ok w8 (xs.length : Int) (wd : Int)).mono ?_⟩⟩
  rintro _ w9 ⟨_, rfl, b1, b2, rfl, P9⟩
  have S9 := S8.grown P9.below
  have hbo6 : bo < w6.heap.size := (Array.getElem?_eq_some_iff.1 hO6).1
  have hO7 := (Keeps.of_below (F := fun _ => False) B7).at hO6 (by simp)
  have hO8 := K8.at hO7 (show ¬ bo = b16 by omega)
  have hO9 := (Keeps.of_below (F := fun _ => False) P9.below).at hO8 (by simp)
  have hbo0 : w.heap.size ≤ bo := Nat.le_trans S4.below.size hbo
  have hbo9 : bo < w9.heap.size := (Array.getElem?_eq_some_iff.1 hO9).1
  have hb49 := S9.lt (x := (b4, _, _)) (List.mem_cons_of_mem _ (List.mem_cons_self ..))
  have hb39 := S9.lt (x := (b3, _, _)) (List.mem_cons_of_mem _ (List.mem_cons_of_mem _ (List.mem_cons_self ..)))
  have hb169 := S9.lt (x := (b16, _, _)) (List.mem_cons_self ..)
  have hb28 := P9.own (b2, _, _) (List.mem_cons_self ..)
  have hb18 := P9.own (b1, _, _) (List.mem_cons_of_mem _ (List.mem_cons_self ..))
  have hb29 := P9.lt (x := (b2, _, _)) (List.mem_cons_self ..)
  have hb19 := P9.lt (x := (b1, _, _)) (List.mem_cons_of_mem _ (List.mem_cons_self ..))
  refine ⟨_, _, _, rfl, by kernel_rfl, fun rr hst hpe hy => ?_⟩
  obtain ⟨W1, hW1⟩ : ∃ W1, W1 = (w9.alloc (.deferred (some []))).alloc (.loop rr) := ⟨_, rfl⟩
  rw [← hW1]
  have B91 : Below w9.heap.size w9 W1 := by rw [hW1]; exact (((Below.refl _ w9).alloc (Nat.le_refl _) _).alloc (by simp) _)
  have sz1 : W1.heap.size = w9.heap.size + 2 := by rw [hW1]; simp
  have hL1 : W1.heap[w9.heap.size + 1]? = some (.loop rr) := by
    rw [hW1]; have := World.alloc_heap_new (w9.alloc (.deferred (some []))) (.loop rr); rwa [World.size_alloc] at this
  have hD1 : W1.heap[w9.heap.size]? = some (.deferred (some [])) := by
    rw [hW1]; exact (Below.heap_alloc _ _ _ (by simp)).trans (World.alloc_heap_new w9 _)
  have K91 := Keeps.of_below (F := fun _ => False) B91
  have hO1 := K91.at hO9 (by simp)
  obtain ⟨L, hLd⟩ : ∃ L, L = w9.heap.size + 1 := ⟨_, rfl⟩
  rw [← hLd] at hL1 hy ⊢
  have Bw1 : Below w.heap.size w W1 := S9.below.trans (B91.mono S9.below.size)
  have w09 := S9.below.size
  -- what holds through the rounds
  have low : ∀ {w' : World}, Keeps (fun k => k = bo ∨ k = L) W1 w' → Below w.heap.size w w' := fun K => Bw1.trans (K.below Bw1.size fun k hk h => by omega)
  have hc3 : ∀ {w' : World}, Keeps (fun k => k = bo ∨ k = L) W1 w' → w'.cell? ⟨b3, 0, none⟩ = some (.int .i64 (wd : Int)) := fun K => K.cell (K91.cell (S9.cell 2 rfl rfl) (by simp)) (by
    have := S6.lt (x := (b3, _, _)) (List.mem_cons_of_mem _ (List.mem_cons_self ..))
    have h4 := S4.lt (x := (b3, _, _)) (List.mem_cons_of_mem _ (List.mem_cons_self ..))
    show ¬ (b3 = bo ∨ b3 = L)
    omega)
  have hc4 : ∀ {w' : World}, Keeps (fun k => k = bo ∨ k = L) W1 w' → w'.cell? ⟨b4, 0, none⟩ = some (.slice a xs.length c) := fun K => K.cell (K91.cell (S9.cell 1 rfl rfl) (by simp)) (by
    have h4 := S4.lt (x := (b4, _, _)) (List.mem_cons_self ..)
    show ¬ (b4 = bo ∨ b4 = L)
    omega)
  have hc16 : ∀ {w' : World}, Keeps (fun k => k = bo ∨ k = L) W1 w' → w'.cell? ⟨b16, 0, none⟩ = some (.slice (some ⟨bo, 0, none⟩) m m) := fun K => K.cell (K91.cell (S9.cell 0 rfl rfl) (by simp)) (by
    show ¬ (b16 = bo ∨ b16 = L)
    omega)
  have hbo8 : bo < w8.heap.size := (Array.getElem?_eq_some_iff.1 hO8).1
  have e18 : w8.heap.size ≤ b1 := by simpa using hb18
  have e28 : w8.heap.size ≤ b2 := by simpa using hb28
  have hb1 : ∀ {w' : World}, Keeps (fun k => k = bo ∨ k = L) W1 w' → w'.cell? ⟨b1, 0, none⟩ = some (.int .i64 (xs.length : Int)) ∧ w'.cell? ⟨b2, 0, none⟩ = some (.int .i64 (wd : Int)) := fun K =>
    ⟨K.cell (K91.cell (P9.cell 1 rfl rfl) (by simp)) (by show ¬ (b1 = bo ∨ b1 = L); omega), K.cell (K91.cell (P9.cell 0 rfl rfl) (by simp)) (by show ¬ (b2 = bo ∨ b2 = L); omega)⟩
  have hyp : ∀ t, t < xs.length * wd → ∀ wx, (Keeps (fun k => k = bo ∨ k = L) W1 wx ∧ wx.heap[bo]? = some (.cells (rowC (bitA xs wd) m t) ty.uint8 (0, 0)) ∧ wx.heap[L]? = some (.loop rr)) →
      YLD Try.prog L #[.int .i64 ((t / wd : Nat) : Int), .int .i64 ((t % wd : Nat) : Int)] (fun y w' => y = true ∧ (Keeps (fun k => k = bo ∨ k = L) W1 w' ∧ w'.heap[bo]? = some (.cells (rowC (bitA xs wd) m (t + 1)) ty.uint8 (0, 0)) ∧ w'.heap[L]? = some (.loop rr))) wx := by
    rintro t ht wx ⟨K, hO, hL⟩
    have hw0 : 0 < wd := Nat.pos_of_ne_zero (by rintro rfl; simp at ht)
    have hti : t / wd < xs.length := (Nat.div_lt_iff_lt_mul hw0).2 ht
    have htk : t % wd < wd := Nat.mod_lt _ hw0
    have htm : t / 8 < m := by omega
    refine hy _ _ _ wx hL ⟨hL, ?_⟩
    obtain ⟨w11, hw11⟩ : ∃ w11, w11 = wx.putObj L (.loop { rr with state := .busy }) := ⟨_, rfl⟩
    rw [← hw11]
    have hLlt : L < wx.heap.size := (Array.getElem?_eq_some_iff.1 hL).1
    have K11 : Keeps (fun k => k = L) wx w11 := by rw [hw11]; exact keeps_putObj _ _ _
    have hL11 : w11.heap[L]? = some (.loop { rr with state := .busy }) := by rw [hw11]; exact World.putObj_heap_same hLlt
    have K2 : Keeps (fun k => k = bo ∨ k = L) W1 w11.drew := (K.trans K11 (fun k _ h => .inr h)).drew
    have hO12 : w11.drew.heap[bo]? = some (.cells (rowC (bitA xs wd) m t) ty.uint8 (0, 0)) := K11.at hO (by show ¬ bo = L; omega)
    refine ⟨_, hc3 (K.trans K11 (fun k _ h => .inr h)), ?_⟩
    unfold DRAW
    have et : IntKind.i64.wrap (IntKind.i64.wrap (((t / wd : Nat) : Int) * (wd : Int)) + ((t % wd : Nat) : Int)) = (t : Int) := by
      have h1 : ((t / wd : Nat) : Int) * (wd : Int) = ((t / wd * wd : Nat) : Int) := by rw [Int.natCast_mul]
      have h2 := Nat.div_add_mod t wd
      rw [Nat.mul_comm] at h2
      rw [h1]
      generalize t / wd * wd = q at h2
      generalize t % wd = r' at h2
      rw [wrap_i64 (n := (q : Int)) (by omega) (by omega), wrap_i64 (by omega) (by omega)]
      omega
    have ed : Int.fdiv (t : Int) (2 ^ (min 3 64)) = ((t / 8 : Nat) : Int) := fdiv_pow t 3
    rw [et, ed]
    refine ⟨_, _, _, hc16 K2, ⟨by omega, by omega⟩, ?_⟩
    rw [Int.toNat_natCast]
    have ea : (⟨bo, 0, none⟩ : Addr).add (t / 8 * 1) = ⟨bo, t / 8, none⟩ := by rw [addr_add_blk]; simp
    obtain ⟨p, rfl, hc⟩ := num_at (hl.grown (low K2)) hti
    show ∃ n : Int, w11.drew.cell? ((⟨bo, 0, none⟩ : Addr).add (t / 8 * 1)) = some (.int .u8 n) ∧ _
    rw [ea]
    have hcell : w11.drew.cell? ⟨bo, t / 8, none⟩ = some (.int .u8 (stB (bitA xs wd) t (t / 8) : Int)) := by
      simp only [World.cell?, hO12]
      simpa using rowC_get htm
    refine ⟨_, hcell, _, _, _, hc4 K2, ⟨Int.natCast_nonneg _, by exact_mod_cast hti⟩, _, by rw [Int.toNat_natCast]; exact hc, Int.natCast_nonneg _, ?_⟩
    rw [and7 (by omega), Int.toNat_natCast, Int.toNat_natCast, bit_prog (hx64 _ (List.getElem_mem hti)) (by omega), shl_bit (Nat.mod_lt _ (by omega))]
    have hbit : xs[t / wd].testBit (t % wd) = bitA xs wd t := by simp [bitA, List.getD, hti]
    rw [hbit]
    have hsh : (bitA xs wd t).toNat * 2 ^ (t % 8) < 256 := by
      have : 2 ^ (t % 8) < 2 ^ 8 := Nat.pow_lt_pow_right (by omega) (Nat.mod_lt _ (by omega))
      cases bitA xs wd t
      · simp
      · simpa using this
    rw [or8 (stB_lt _ _ _) hsh, stB_step]
    refine ⟨by omega, ⟨by omega, by omega⟩, ?_⟩
    show STO ((⟨bo, 0, none⟩ : Addr).add (t / 8 * 1)) _ _ _
    rw [ea]
    refine sto_blk hO12 (by rw [rowC_size]; exact htm) fun w13 K13 hO13 => ?_
    have hL13 : w13.heap[L]? = some (.loop { rr with state := .busy }) := K13.at (show w11.drew.heap[L]? = _ from hL11) (by show ¬ L = bo; omega)
    refine ⟨hL13, rfl, ?_⟩
    rw [rr_eta hst hpe]
    rw [rowC_set _ rfl] at hO13
    have hlt13 : L < w13.heap.size := (Array.getElem?_eq_some_iff.1 hL13).1
    refine ⟨(K2.trans K13 (fun k _ h => .inl h)).trans (keeps_putObj _ _ _) (fun k _ h => .inr h), ?_, World.putObj_heap_same hlt13⟩
    exact (World.putObj_heap_other (by omega)).trans hO13
  refine (places_ok (l := L) (b1 := b1) (b2 := b2) hn hw (fun t wx => Keeps (fun k => k = bo ∨ k = L) W1 wx ∧ wx.heap[bo]? = some (.cells (rowC (bitA xs wd) m t) ty.uint8 (0, 0)) ∧ wx.heap[L]? = some (.loop rr))
    (fun t wx hj => hb1 hj.1) (fun t wx hj => ⟨hj.1.drew, hj.2.1, hj.2.2⟩) hyp ⟨.refl _ _, hO1, hL1⟩).mono ?_
  rintro _ w14 ⟨_, rfl, K14, hO14, hL14⟩
  have hlt14 : L < w14.heap.size := (Array.getElem?_eq_some_iff.1 hL14).1
  refine ⟨⟨_, rfl⟩, none, by rw [rr_eta hst hpe]; exact hL14, rfl, ?_⟩
  obtain ⟨w15, hw15⟩ : ∃ w15, w15 = w14.putObj L (.loop { rr with state := .exhausted, pending := none }) := ⟨_, rfl⟩
  rw [← hw15]
  have K15 : Keeps (fun k => k = bo ∨ k = L) W1 w15 := by rw [hw15]; exact K14.trans (keeps_putObj _ _ _) (fun k _ h => .inr h)
  have hO15 : w15.heap[bo]? = some (.cells (rowC (bitA xs wd) m (xs.length * wd)) ty.uint8 (0, 0)) := by rw [hw15]; exact (World.putObj_heap_other (by omega)).trans hO14
  have hD15 : w15.heap[w9.heap.size]? = some (.deferred (some [])) := K15.at hD1 (by show ¬ (w9.heap.size = bo ∨ w9.heap.size = L); omega)
  have B15 := low K15
  refine ⟨_, _, _, hc16 K15, hD15, some ⟨bo, 0, none⟩, m, ?_, ?_⟩
  · rw [packL_len, ← hmd]
  · refine ⟨⟨by simp, .inr ⟨bo, rowC (bitA xs wd) m (xs.length * wd), rfl, (World.putObj_heap_other (by omega)).trans hO15, ?_, by omega, by rw [rowC_size]; omega, ?_⟩⟩, fun k hk => ?_, B15.trans ((keeps_putObj w15 w9.heap.size _).below B15.size fun k hk he => by omega)⟩
    · rw [packL_len, ← hmd]; exact Nat.le_refl _
    · have e := rowC_end xs wd
      rw [← hmd] at e
      rw [e, Nat.mul_one, ← List.length_map (f := byteV), List.take_length]
    · cases hk
      exact hbo0
end
end Go.Proofs.Ytmilfgmkcmcicaa
