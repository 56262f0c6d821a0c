/-
  Unpack: the program's way (a range over a function).
-/
import Derived.Test.YtmilfgmkcmcicaaBits
import Derived.Test.YtmilfgmkcmcicaaEnc2
namespace Go.Proofs.Ytmilfgmkcmcicaa
open Go.Dn Go.Proofs
open Go.RowKit (Below)
set_option linter.unusedVariables false
set_option maxRecDepth 20000

def unArg (n wd : Int) : Prop := 0 ≤ n ∧ n ≤ 4096 ∧ 0 ≤ wd ∧ wd ≤ 64
instance (n wd : Int) : Decidable (unArg n wd) := by unfold unArg; infer_instance
def unOk (l : List UInt8) (n wd : Nat) : Prop := l.length = sizeN n wd ∧ packL (unpackL l n wd) wd = l
instance (l : List UInt8) (n wd : Nat) : Decidable (unOk l n wd) := by unfold unOk; infer_instance
/-- what Unpack hands back -/
def UnV (l : List UInt8) (n wd : Int) (w w' : World) (r : Value) : Prop :=
  ∃ (xs : List Nat) (a : Option Addr) (c : Nat) (e : Int), r = .tuple #[.slice a xs.length c, .int .i64 e] ∧ Rd w' a (xs.map u64V) ∧ Below w.heap.size w w' ∧ (∀ p, a = some p → w.heap.size ≤ p.block) ∧
    ((unArg n wd ∧ unOk l n.toNat wd.toNat ∧ xs = unpackL l n.toNat wd.toNat ∧ e = 0) ∨ (¬ (unArg n wd ∧ unOk l n.toNat wd.toNat) ∧ xs = [] ∧ e = if unArg n wd then 10 else 2))
theorem UnV.bad {l : List UInt8} {n wd : Int} {w w' : World} {e : Int} (hb : Below w.heap.size w w') (h : ¬ (unArg n wd ∧ unOk l n.toNat wd.toNat)) (he : e = if unArg n wd then 10 else 2) : UnV l n wd w w' (.tuple #[.slice none 0 0, .int .i64 e]) :=
  ⟨[], none, 0, e, rfl, Rd.nil _ _, hb, (fun p hp => by cases hp), .inr ⟨h, rfl, he⟩⟩
theorem getD_get {l : List UInt8} {j : Nat} (h : j < l.length) : l.getD j 0 = l[j] := by simp [h]
section
variable {w : World} {a : Option Addr} {c : Nat} {l : List UInt8}
theorem pack_Unpack_ok (hl : Rd w a (l.map byteV)) (n wd : Int) (hs : l.length ≤ 9223372036854775807) :
    Calls Try.prog f.pack_Unpack #[.slice a l.length c, .int .i64 n, .int .i64 wd] w (Ret fun v w' => UnV l n wd w w' v) := by
  apply R.pack_Unpack_calls
  unfold R.pack_Unpack
  refine (SH.start (fun _ => False) w).newB fun b4 w1 hb4 B1 S1 => S1.newB fun b3 w2 hb3 B2 S2 => ⟨_, S2.cell 0 rfl rfl, (pack_Size_ok w2 n wd).mono ?_⟩
  rintro _ w3 ⟨_, rfl, rfl, rfl⟩
  by_cases harg : unArg n wd
  case neg =>
    rw [if_neg (by unfold unArg at harg; omega)]
    refine ⟨_, _, rfl, fun _ _ => False, IFB_ne (fun _ => UnV.bad S2.below (fun h => harg h.1) (by rw [if_neg harg])) (fun h => absurd h (by decide)), ?_⟩
    rintro w5 h
    exact h.elim
  obtain ⟨h1, h2, h3, h4⟩ := id harg
  obtain ⟨n, rfl⟩ : ∃ m : Nat, n = (m : Int) := ⟨n.toNat, by omega⟩
  obtain ⟨wd, rfl⟩ : ∃ m : Nat, wd = (m : Int) := ⟨wd.toNat, by omega⟩
  have hn : n ≤ 4096 := by omega
  have hw : wd ≤ 64 := by omega
  have hm : n * wd ≤ 4096 * 64 := Nat.mul_le_mul hn hw
  rw [if_pos ⟨by omega, by omega, by omega, by omega⟩]
  obtain ⟨m, hmd⟩ : ∃ m, m = sizeN n wd := ⟨_, rfl⟩
  have hmv : m = (n * wd + 7) / 8 := hmd
  have enw : ((n : Int) * (wd : Int)) = ((n * wd : Nat) : Int) := by norm_cast
  have em : ((n : Int) * (wd : Int) + 7) / 8 = (m : Int) := by rw [enw, hmv]; omega
  rw [em]
  have ew : IntKind.i64.wrap ((n : Int) * (wd : Int)) = ((n * wd : Nat) : Int) := by rw [enw, wrap_i64 (by omega) (by omega)]
  have emod : Int.tmod ((n * wd : Nat) : Int) 8 = ((n * wd % 8 : Nat) : Int) := by rw [Int.tmod_eq_emod_of_nonneg (by omega)]; omega
  refine ⟨_, _, rfl, fun s w5 => s = [] ∧ unOk l n wd ∧ Below w3.heap.size w3 w5 ∧ SH (fun _ => False) w w5 [(b3, #[.int .i64 (wd : Int)], ty.int), (b4, #[.slice a l.length c], ty.L_uint8)], ?_, ?_⟩
  · refine IFB_ne (fun h => absurd rfl h) (fun _ => ⟨_, _, _, S2.cell 1 rfl rfl, IFB_ne (fun h => ?_) (fun hlen => ?_)⟩)
    · exact UnV.bad S2.below (fun hh => h (by have := hh.2.1; rw [this]; simp [hmd])) (by rw [if_pos harg])
    · have hlen' : l.length = m := by omega
      have hT := tail_iff (l := l) (n := n) (w := wd) (by omega)
      have hW := tail_word (l := l) (T := n * wd) (by omega)
      refine S2.drawB fun w4 B4 S4 => ?_
      have good : (0 < l.length → n * wd % 8 ≠ 0 → (l.getD (l.length - 1) 0).toNat / 2 ^ (n * wd % 8) = 0) → unOk l n wd := fun h => ⟨by omega, hT.2 (hW.2 h)⟩
      refine IFB_dec (fun hpos => ⟨_, S4.cell 0 rfl rfl, ?_⟩) (fun hz => ⟨rfl, good (fun h => by omega), B4, S4⟩)
      rw [ew, emod]
      refine IFB_ne (fun h8 => ⟨_, _, _, S4.cell 1 rfl rfl, ?_⟩) (fun h8 => ⟨rfl, good (fun _ h => by omega), B4, S4⟩)
      rw [wrap_i64 (n := (m : Int) - 1) (by omega) (by omega)]
      refine ⟨⟨by omega, by omega⟩, ?_⟩
      have hj : m - 1 < l.length := by omega
      obtain ⟨p, rfl, hc⟩ := byte_at (hl.grown S4.below) hj
      refine ⟨_, by rw [show ((m : Int) - 1).toNat = m - 1 by omega]; exact hc, _, S4.cell 0 rfl rfl, ?_⟩
      rw [ew, emod]
      refine ⟨by omega, ?_⟩
      rw [Int.toNat_natCast, show min (n * wd % 8) 8 = n * wd % 8 by omega, fdiv_pow]
      have hg : (l.getD (l.length - 1) 0) = l[m - 1] := by rw [hlen']; exact getD_get hj
      refine IFB_ne (fun h => UnV.bad S4.below (fun hh => h ?_) (by rw [if_pos harg])) (fun h => ⟨rfl, good (fun _ _ => ?_), B4, S4⟩)
      · have := hW.1 (hT.1 hh.2.2) (by omega) (by omega)
        rw [hg] at this
        rw [this]; rfl
      · rw [hg]; omega
  rintro w5 ⟨_, hok, B5, S5⟩
  obtain ⟨hlen, hpk⟩ := id hok
  refine make_new tU (l := (n : Int)) (c := (n : Int)) (by omega) (by omega) (by omega) (by omega) fun bo w6 hbo B6 hO6 => ?_
  rw [Int.toNat_natCast, rowU_zero (bitB l) wd n] at hO6
  rw [Int.toNat_natCast]
  have S6 := S5.grown B6
  refine ⟨_, _, _, rfl, S6.newB fun b16 w7 hb16 B7 S7 => S7.stoK 0 rfl (show 0 < 1 by decide) fun w8 K8 S8 => ⟨_, S8.cell 1 rfl rfl, (pack_places_ok w8 (n : Int) (wd : Int)).mono ?_⟩⟩
  rintro _ w9 ⟨_, rfl, b1, b2, rfl, P9⟩
  have S9 := S8.grown P9.below
  have hbo6 : bo < w6.heap.size := (Array.getElem?_eq_some_iff.1 hO6).1
  have hO7 := (Keeps.of_below (F := fun _ => False) B7).at hO6 (by simp)
  have hO8 := K8.at hO7 (show ¬ bo = b16 by omega)
  have hO9 := (Keeps.of_below (F := fun _ => False) P9.below).at hO8 (by simp)
  have hbo0 : w.heap.size ≤ bo := Nat.le_trans S5.below.size hbo
  have hbo9 : bo < w9.heap.size := (Array.getElem?_eq_some_iff.1 hO9).1
  have hb39 := S9.lt (x := (b3, _, _)) (List.mem_cons_of_mem _ (List.mem_cons_self ..))
  have hb49 := S9.lt (x := (b4, _, _)) (List.mem_cons_of_mem _ (List.mem_cons_of_mem _ (List.mem_cons_self ..)))
  have hb169 := S9.lt (x := (b16, _, _)) (List.mem_cons_self ..)
  have hb28 := P9.own (b2, _, _) (List.mem_cons_self ..)
  have hb18 := P9.own (b1, _, _) (List.mem_cons_of_mem _ (List.mem_cons_self ..))
  have hb29 := P9.lt (x := (b2, _, _)) (List.mem_cons_self ..)
  have hb19 := P9.lt (x := (b1, _, _)) (List.mem_cons_of_mem _ (List.mem_cons_self ..))
  have hb35 := S5.lt (x := (b3, _, _)) (List.mem_cons_self ..)
  have hb45 := S5.lt (x := (b4, _, _)) (List.mem_cons_of_mem _ (List.mem_cons_self ..))
  refine ⟨_, _, _, rfl, by kernel_rfl, fun rr hst hpe hy => ?_⟩
  obtain ⟨W1, hW1⟩ : ∃ W1, W1 = (w9.alloc (.deferred (some []))).alloc (.loop rr) := ⟨_, rfl⟩
  rw [← hW1]
  have B91 : Below w9.heap.size w9 W1 := by rw [hW1]; exact (((Below.refl _ w9).alloc (Nat.le_refl _) _).alloc (by simp) _)
  have sz1 : W1.heap.size = w9.heap.size + 2 := by rw [hW1]; simp
  have hL1 : W1.heap[w9.heap.size + 1]? = some (.loop rr) := by
    rw [hW1]; have := World.alloc_heap_new (w9.alloc (.deferred (some []))) (.loop rr); rwa [World.size_alloc] at this
  have hD1 : W1.heap[w9.heap.size]? = some (.deferred (some [])) := by
    rw [hW1]; exact (Below.heap_alloc _ _ _ (by simp)).trans (World.alloc_heap_new w9 _)
  have K91 := Keeps.of_below (F := fun _ => False) B91
  have hO1 := K91.at hO9 (by simp)
  obtain ⟨L, hLd⟩ : ∃ L, L = w9.heap.size + 1 := ⟨_, rfl⟩
  rw [← hLd] at hL1 hy ⊢
  have Bw1 : Below w.heap.size w W1 := S9.below.trans (B91.mono S9.below.size)
  have w09 := S9.below.size
  have low : ∀ {w' : World}, Keeps (fun k => k = bo ∨ k = L) W1 w' → Below w.heap.size w w' := fun K => Bw1.trans (K.below Bw1.size fun k hk h => by omega)
  have hc3 : ∀ {w' : World}, Keeps (fun k => k = bo ∨ k = L) W1 w' → w'.cell? ⟨b3, 0, none⟩ = some (.int .i64 (wd : Int)) := fun K => K.cell (K91.cell (S9.cell 1 rfl rfl) (by simp)) (by
    show ¬ (b3 = bo ∨ b3 = L)
    omega)
  have hc4 : ∀ {w' : World}, Keeps (fun k => k = bo ∨ k = L) W1 w' → w'.cell? ⟨b4, 0, none⟩ = some (.slice a l.length c) := fun K => K.cell (K91.cell (S9.cell 2 rfl rfl) (by simp)) (by
    show ¬ (b4 = bo ∨ b4 = L)
    omega)
  have hc16 : ∀ {w' : World}, Keeps (fun k => k = bo ∨ k = L) W1 w' → w'.cell? ⟨b16, 0, none⟩ = some (.slice (some ⟨bo, 0, none⟩) n n) := fun K => K.cell (K91.cell (S9.cell 0 rfl rfl) (by simp)) (by
    show ¬ (b16 = bo ∨ b16 = L)
    omega)
  have hbo8 : bo < w8.heap.size := (Array.getElem?_eq_some_iff.1 hO8).1
  have e18 : w8.heap.size ≤ b1 := by simpa using hb18
  have e28 : w8.heap.size ≤ b2 := by simpa using hb28
  have hb1 : ∀ {w' : World}, Keeps (fun k => k = bo ∨ k = L) W1 w' → w'.cell? ⟨b1, 0, none⟩ = some (.int .i64 (n : Int)) ∧ w'.cell? ⟨b2, 0, none⟩ = some (.int .i64 (wd : Int)) := fun K =>
    ⟨K.cell (K91.cell (P9.cell 1 rfl rfl) (by simp)) (by show ¬ (b1 = bo ∨ b1 = L); omega), K.cell (K91.cell (P9.cell 0 rfl rfl) (by simp)) (by show ¬ (b2 = bo ∨ b2 = L); omega)⟩
  have hyp : ∀ t, t < n * wd → ∀ wx, (Keeps (fun k => k = bo ∨ k = L) W1 wx ∧ wx.heap[bo]? = some (.cells (rowU (bitB l) wd n t) ty.uint64 (0, 0)) ∧ wx.heap[L]? = some (.loop rr)) →
      YLD Try.prog L #[.int .i64 ((t / wd : Nat) : Int), .int .i64 ((t % wd : Nat) : Int)] (fun y w' => y = true ∧ (Keeps (fun k => k = bo ∨ k = L) W1 w' ∧ w'.heap[bo]? = some (.cells (rowU (bitB l) wd n (t + 1)) ty.uint64 (0, 0)) ∧ w'.heap[L]? = some (.loop rr))) wx := by
    rintro t ht wx ⟨K, hO, hL⟩
    have hw0 : 0 < wd := Nat.pos_of_ne_zero (by rintro rfl; simp at ht)
    have hti : t / wd < n := (Nat.div_lt_iff_lt_mul hw0).2 ht
    have htk : t % wd < wd := Nat.mod_lt _ hw0
    have htm : t / 8 < l.length := by omega
    refine hy _ _ _ wx hL ⟨hL, ?_⟩
    obtain ⟨w11, hw11⟩ : ∃ w11, w11 = wx.putObj L (.loop { rr with state := .busy }) := ⟨_, rfl⟩
    rw [← hw11]
    have hLlt : L < wx.heap.size := (Array.getElem?_eq_some_iff.1 hL).1
    have K11 : Keeps (fun k => k = L) wx w11 := by rw [hw11]; exact keeps_putObj _ _ _
    have hL11 : w11.heap[L]? = some (.loop { rr with state := .busy }) := by rw [hw11]; exact World.putObj_heap_same hLlt
    have K2 : Keeps (fun k => k = bo ∨ k = L) W1 w11.drew := (K.trans K11 (fun k _ h => .inr h)).drew
    have hO12 : w11.drew.heap[bo]? = some (.cells (rowU (bitB l) wd n t) ty.uint64 (0, 0)) := K11.at hO (by show ¬ bo = L; omega)
    refine ⟨_, hc3 (K.trans K11 (fun k _ h => .inr h)), ?_⟩
    unfold DRAW
    have et : IntKind.i64.wrap (IntKind.i64.wrap (((t / wd : Nat) : Int) * (wd : Int)) + ((t % wd : Nat) : Int)) = (t : Int) := by
      have h1 : ((t / wd : Nat) : Int) * (wd : Int) = ((t / wd * wd : Nat) : Int) := by rw [Int.natCast_mul]
      have h2 := Nat.div_add_mod t wd
      rw [Nat.mul_comm] at h2
      rw [h1]
      generalize t / wd * wd = q at h2
      generalize t % wd = r' at h2
      rw [wrap_i64 (n := (q : Int)) (by omega) (by omega), wrap_i64 (by omega) (by omega)]
      omega
    have ed : Int.fdiv (t : Int) (2 ^ (min 3 64)) = ((t / 8 : Nat) : Int) := fdiv_pow t 3
    rw [et, ed]
    refine ⟨_, _, _, hc16 K2, ⟨Int.natCast_nonneg _, by exact_mod_cast hti⟩, ?_⟩
    rw [Int.toNat_natCast]
    have ea : (⟨bo, 0, none⟩ : Addr).add (t / wd * 1) = ⟨bo, t / wd, none⟩ := by rw [addr_add_blk]; simp
    obtain ⟨p, rfl, hc⟩ := byte_at (hl.grown (low K2)) htm
    show ∃ n : Int, w11.drew.cell? ((⟨bo, 0, none⟩ : Addr).add (t / wd * 1)) = some (.int .u64 n) ∧ _
    rw [ea]
    have hcell : w11.drew.cell? ⟨bo, t / wd, none⟩ = some (.int .u64 (stU (bitB l) wd t (t / wd) : Int)) := by
      simp only [World.cell?, hO12]
      simpa using rowU_get hti
    refine ⟨_, hcell, _, _, _, hc4 K2, ⟨Int.natCast_nonneg _, by exact_mod_cast htm⟩, _, by rw [Int.toNat_natCast]; exact hc, ?_⟩
    rw [and7 (by omega), Int.toNat_natCast, Int.toNat_natCast, bit_prog8 (l[t / 8]).toNat_lt (Nat.mod_lt _ (by omega)), shl_bit64 (by omega)]
    have hbit : l[t / 8].toNat.testBit (t % 8) = bitB l t := by unfold bitB; rw [getD_get htm]
    rw [hbit]
    have hsh : (bitB l t).toNat * 2 ^ (t % wd) < 18446744073709551616 := by
      have : 2 ^ (t % wd) < 2 ^ 64 := Nat.pow_lt_pow_right (by omega) (by omega)
      cases bitB l t
      · simp
      · simpa using this
    have hsu : stU (bitB l) wd t (t / wd) < 18446744073709551616 := Nat.lt_of_lt_of_le (stU_lt _ hw0 _ _) (Nat.pow_le_pow_right (n := 2) (by omega) hw)
    rw [or64 hsu hsh, stU_step]
    refine ⟨Int.natCast_nonneg _, Int.natCast_nonneg _, ⟨Int.natCast_nonneg _, by exact_mod_cast hti⟩, ?_⟩
    show STO ((⟨bo, 0, none⟩ : Addr).add (t / wd * 1)) _ _ _
    rw [ea]
    refine sto_blk hO12 (by rw [rowU_size]; exact hti) fun w13 K13 hO13 => ?_
    have hL13 : w13.heap[L]? = some (.loop { rr with state := .busy }) := K13.at (show w11.drew.heap[L]? = _ from hL11) (by show ¬ L = bo; omega)
    refine ⟨hL13, rfl, ?_⟩
    rw [rr_eta hst hpe]
    rw [rowU_set _ rfl] at hO13
    have hlt13 : L < w13.heap.size := (Array.getElem?_eq_some_iff.1 hL13).1
    refine ⟨(K2.trans K13 (fun k _ h => .inl h)).trans (keeps_putObj _ _ _) (fun k _ h => .inr h), ?_, World.putObj_heap_same hlt13⟩
    exact (World.putObj_heap_other (by omega)).trans hO13
  refine (places_ok (l := L) (b1 := b1) (b2 := b2) hn hw (fun t wx => Keeps (fun k => k = bo ∨ k = L) W1 wx ∧ wx.heap[bo]? = some (.cells (rowU (bitB l) wd n t) ty.uint64 (0, 0)) ∧ wx.heap[L]? = some (.loop rr))
    (fun t wx hj => hb1 hj.1) (fun t wx hj => ⟨hj.1.drew, hj.2.1, hj.2.2⟩) hyp ⟨.refl _ _, hO1, hL1⟩).mono ?_
  rintro _ w14 ⟨_, rfl, K14, hO14, hL14⟩
  have hlt14 : L < w14.heap.size := (Array.getElem?_eq_some_iff.1 hL14).1
  refine ⟨⟨_, rfl⟩, none, by rw [rr_eta hst hpe]; exact hL14, rfl, ?_⟩
  obtain ⟨w15, hw15⟩ : ∃ w15, w15 = w14.putObj L (.loop { rr with state := .exhausted, pending := none }) := ⟨_, rfl⟩
  rw [← hw15]
  have K15 : Keeps (fun k => k = bo ∨ k = L) W1 w15 := by rw [hw15]; exact K14.trans (keeps_putObj _ _ _) (fun k _ h => .inr h)
  have hO15 : w15.heap[bo]? = some (.cells (rowU (bitB l) wd n (n * wd)) ty.uint64 (0, 0)) := by rw [hw15]; exact (World.putObj_heap_other (by omega)).trans hO14
  have hD15 : w15.heap[w9.heap.size]? = some (.deferred (some [])) := K15.at hD1 (by show ¬ (w9.heap.size = bo ∨ w9.heap.size = L); omega)
  have B15 := low K15
  have hO16 := (World.putObj_heap_other (w := w15) (o := .deferred none) (show bo ≠ w9.heap.size by omega)).trans hO15
  refine ⟨_, _, _, hc16 K15, hD15, unpackL l n wd, some ⟨bo, 0, none⟩, n, 0, by rw [unpackL_len], ?_, B15.trans ((keeps_putObj w15 w9.heap.size _).below B15.size fun k hk he => by omega), (fun p hp => by cases hp; exact hbo0), .inl ⟨harg, hok, rfl, rfl⟩⟩
  have := Rd.of_block0 hO16
  rwa [rowU_end] at this
end
end Go.Proofs.Ytmilfgmkcmcicaa
