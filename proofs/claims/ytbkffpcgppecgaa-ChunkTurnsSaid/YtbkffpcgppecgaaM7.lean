/-
  Texts of this claim, laid one behind the other by a program of mine (install.py): C.Ch11, C.Ch12.
-/
import Derived.Test.YtbkffpcgppecgaaM6
/-
  Values out of bytes, read loosely: the program's way.
-/
namespace Go.Proofs.Ytbkffpcgppecgaa
open Go.Dn Go.Proofs
open Go.RowKit (Below)
set_option linter.unusedVariables false
set_option maxRecDepth 20000

/-- bytes are a column's values, ahead of the check sum -/
structure ReadP (K : Int) (ls : List Val) (l : List UInt8) : Prop where
  good : Good1 K ls
  ex : ∃ o, (nullsN ls < ls.length → OthIs K ls o) ∧ (¬ nullsN ls < ls.length → o = []) ∧ l = headL K ls ++ maskL ls ++ o
theorem bits_none {ls : List Val} (h : nullsN ls = 0) : bitsN ls = List.replicate ls.length 0 := by
  unfold bitsN
  rw [List.eq_replicate_iff]
  refine ⟨by simp, fun b hb => ?_⟩
  obtain ⟨v, hv, rfl⟩ := List.mem_map.1 hb
  unfold nullsN at h
  have := (List.countP_eq_zero.1 h) v hv
  rw [if_neg (by simpa using this)]
theorem bits_all {ls : List Val} (h : nullsN ls = ls.length) : bitsN ls = List.replicate ls.length 1 := by
  unfold bitsN
  rw [List.eq_replicate_iff]
  refine ⟨by simp, fun b hb => ?_⟩
  obtain ⟨v, hv, rfl⟩ := List.mem_map.1 hb
  unfold nullsN at h
  have := (List.countP_eq_length.1 h) v hv
  rw [if_pos (by simpa using this)]
theorem Good1.null {K : Int} {ls : List Val} (h : Good1 K ls) : ∀ v ∈ ls, v.1 = 0 → v = (0, 0, E0) := by
  intro v hv h0
  have hok := h.all v hv
  simp only [okV, Bool.and_eq_true] at hok
  have hr := hok.1
  unfold rightB at hr
  rw [if_pos h0] at hr
  simp at hr
  obtain ⟨v1, v2, v3⟩ := v
  simp only at h0 hr
  rw [h0, hr.1, hr.2]
theorem nulls_full' (ls : List Val) : nullsN ls + (fullL ls).length = ls.length := by
  induction ls with
  | nil => rfl
  | cons v ls ih =>
    unfold nullsN fullL at ih ⊢
    by_cases h : v.1 = 0
    · simp [h]; omega
    · simp [h]; omega
/-- what stands in bytes that are values -/
structure ReadQ (K : Int) (ls : List Val) (l : List UInt8) (at1 at2 : Nat) (o : List UInt8) : Prop where
  kind : ((l.getD 0 0).toNat : Int) = K
  n1 : takeN l 1 = some (ls.length, at1)
  n2 : takeN l (at1 : Int) = some (nullsN ls, at2)
  rest : l.drop at2 = maskL ls ++ o
  oth : nullsN ls < ls.length → OthIs K ls o
  none : ¬ nullsN ls < ls.length → o = []
theorem ReadP.q {K : Int} {ls : List Val} {l : List UInt8} (h : ReadP K ls l) : ∃ at1 at2 o, ReadQ K ls l at1 at2 o := by
  obtain ⟨o, h1, h2, rfl⟩ := h.ex
  have hlen := h.good.len
  have hk := h.good.kind
  have hnl := nullsN_le ls
  have e1 : (headL K ls ++ maskL ls ++ o).drop 1 = digitsL ls.length ++ (digitsL (nullsN ls) ++ (maskL ls ++ o)) := by simp [headL]
  have e2 := drop_more e1
  have e3 := drop_more e2
  refine ⟨_, _, o, ?_, takeN_drop (at_ := 1) (by omega) e1, takeN_drop (by omega) e2, e3, h1, h2⟩
  have : ((headL K ls ++ maskL ls ++ o).getD 0 0) = UInt8.ofNat K.toNat := by simp [headL]
  rw [this, ofNat_toNat8 (by omega)]
  omega
/-- what reading loosely hands back -/
def ReadV (l : List UInt8) (w w' : World) (v : Value) : Prop :=
  ∃ (K : Int) (os : List Val) (a : Option Addr) (c : Nat) (ok : Bool), v = .tuple #[.int .i64 K, .slice a os.length c, .bool ok] ∧ Rd w' a (valsL os) ∧ Below w.heap.size w w' ∧ os.length ≤ 4096 ∧ (∀ v ∈ os, ValOk v) ∧
    ∀ K' ls, ReadP K' ls l → ok = true ∧ K = K' ∧ os = ls
theorem ReadV.bad {l : List UInt8} {w w' : World} (hb : Below w.heap.size w w') (h : ∀ K ls, ¬ ReadP K ls l) : ReadV l w w' (.tuple #[.int .i64 0, .slice none 0 0, .bool false]) :=
  ⟨0, [], none, 0, false, rfl, Rd.nil _ _, hb, by simp, by simp, fun K ls hls => absurd hls (h K ls)⟩
theorem num_none : numV none = .tuple #[.int .u64 0, .int .i64 0, .int .i64 20] := rfl
section
variable {w : World} {a : Option Addr} {c : Nat} {l : List UInt8}
theorem chunk_read_ok (hl : Rd w a (l.map byteV)) (hc : l.length ≤ c) (hs : l.length ≤ 9223372036854775807) :
    Calls Try.prog f.chunk_read #[.slice a l.length c] w (Ret fun v w' => ReadV l w w' v) := by
  apply R.chunk_read_calls
  unfold R.chunk_read
  refine IFB_dec (fun h => ReadV.bad (.refl _ _) fun K ls hp => ?_) (fun hpos => ?_)
  · obtain ⟨_, _, _, q⟩ := hp.q
    have := takeN_bounds q.n1
    omega
  have h0 : 0 < l.length := by omega
  refine (wire_TakeNumber_ok hl hc hs 1).mono ?_
  rintro _ w ⟨_, rfl, rfl, rfl⟩
  -- the first number
  obtain ⟨n, at1, e1, hv1, hb1, hP1⟩ : ∃ (n at1 : Nat) (e1 : Int), numV (takeN l 1) = .tuple #[.int .u64 (n : Int), .int .i64 (at1 : Int), .int .i64 e1] ∧ (n < 18446744073709551616 ∧ at1 ≤ l.length) ∧ (∀ K ls, ReadP K ls l → e1 = 0 ∧ n = ls.length ∧ takeN l 1 = some (n, at1)) := by
    cases hx : takeN l 1 with
    | none =>
      refine ⟨0, 0, 20, rfl, by omega, fun K ls hp => ?_⟩
      obtain ⟨_, _, _, q⟩ := hp.q
      have := q.n1
      rw [hx] at this; cases this
    | some x =>
      have hb := takeN_bounds (n := x.1) (k := x.2) hx
      refine ⟨x.1, x.2, 0, rfl, by omega, fun K ls hp => ?_⟩
      obtain ⟨_, _, _, q⟩ := hp.q
      have := q.n1
      rw [hx] at this
      have := Option.some.inj this
      exact ⟨rfl, by rw [this], rfl⟩
  rw [hv1]
  refine ⟨_, _, _, rfl, (wire_TakeNumber_ok hl hc hs (at1 : Int)).mono ?_⟩
  rintro _ w ⟨_, rfl, rfl, rfl⟩
  obtain ⟨no, at2, e2, hv2, hb2, hP2⟩ : ∃ (no at2 : Nat) (e2 : Int), numV (takeN l (at1 : Int)) = .tuple #[.int .u64 (no : Int), .int .i64 (at2 : Int), .int .i64 e2] ∧ (no < 18446744073709551616 ∧ at2 ≤ l.length) ∧ (∀ K ls, ReadP K ls l → e2 = 0 ∧ no = nullsN ls ∧ ∃ o, ReadQ K ls l at1 at2 o) := by
    have step : ∀ K ls, ReadP K ls l → ∃ at2 o, ReadQ K ls l at1 at2 o := by
      intro K ls hp
      obtain ⟨a1, a2, o, q⟩ := hp.q
      have h1 := (hP1 K ls hp).2.2
      have h2 := q.n1
      rw [h1] at h2
      obtain rfl : at1 = a1 := by have := Option.some.inj h2; simpa using congrArg Prod.snd this
      exact ⟨a2, o, q⟩
    cases hx : takeN l (at1 : Int) with
    | none =>
      refine ⟨0, 0, 20, rfl, by omega, fun K ls hp => ?_⟩
      obtain ⟨_, _, q⟩ := step K ls hp
      have := q.n2
      rw [hx] at this; cases this
    | some x =>
      have hb := takeN_bounds (n := x.1) (k := x.2) hx
      refine ⟨x.1, x.2, 0, rfl, by omega, fun K ls hp => ?_⟩
      obtain ⟨a2, o, q⟩ := step K ls hp
      have := q.n2
      rw [hx] at this
      have hxx := Option.some.inj this
      obtain rfl : x.2 = a2 := by rw [hxx]
      exact ⟨rfl, by rw [hxx], o, q⟩
  rw [hv2]
  refine ⟨_, _, _, rfl, IFB_ne (fun h => ReadV.bad (.refl _ _) fun K ls hp => h (hP1 K ls hp).1) (fun he1 => IFB_ne (fun h => ReadV.bad (.refl _ _) fun K ls hp => h (hP2 K ls hp).1) (fun he2 => IFB_dec (fun h => ReadV.bad (.refl _ _) fun K ls hp => ?_) (fun hn1 => IFB_dec (fun h => ReadV.bad (.refl _ _) fun K ls hp => ?_) (fun hn2 => ?_))))⟩
  · have := (hP1 K ls hp).2.1
    have := hp.good.len
    omega
  · have := (hP1 K ls hp).2.1
    have := (hP2 K ls hp).2.1
    have := nullsN_le ls
    omega
  have hn : n ≤ 1024 := by omega
  have hno : no ≤ n := by omega
  refine make_new tU (l := (n : Int)) (c := (n : Int)) (by omega) (by omega) (by omega) (by omega) fun bo w3 hbo B3 hO3 => ?_
  rw [Int.toNat_natCast] at hO3 ⊢
  have hO3' : w3.heap[bo]? = some (.cells ⟨List.replicate n (.int .u64 0)⟩ ty.uint64 (0, 0)) := by
    have e : madeCells (Value.int .u64 0).cells (n * 1) = ⟨List.replicate n (.int .u64 0)⟩ := by
      apply Array.ext'
      rw [madeCells_one _ rfl, Nat.mul_one]
    rw [← e]; exact hO3
  refine ⟨_, _, _, rfl, fun s w8 => ∃ (at3 : Nat) (e : Int) (bits : List Nat) (ab : Option Addr) (cb : Nat), s = [.int .i64 (at3 : Int), .int .i64 e, .slice ab bits.length cb] ∧ Rd w8 ab (bits.map u64V) ∧ Below w.heap.size w w8 ∧ bits.length ≤ 4096 ∧ at3 ≤ l.length ∧
      (∀ K ls, ReadP K ls l → e = 0 ∧ bits = bitsN ls ∧ ∃ o, ReadQ K ls l at1 at2 o ∧ l.drop at3 = o), ?_, ?_⟩
  · have rep : ∀ (k : Nat) (x : Nat), (List.replicate k x).map u64V = List.replicate k (.int .u64 (x : Int)) := fun k x => by rw [List.map_replicate]; rfl
    refine IFB_eq (fun hz => ?_) (fun hz => IFB_eq (fun hall => ?_) (fun hmid => ?_))
    · refine ⟨at2, e1, List.replicate n 0, some ⟨bo, 0, none⟩, n, by rw [List.length_replicate], ?_, B3, by simp; omega, hb2.2, fun K ls hp => ?_⟩
      · have := Rd.of_block0 hO3'
        rw [rep]; exact this
      · obtain ⟨_, hno', o, q⟩ := hP2 K ls hp
        have hn' := (hP1 K ls hp).2.1
        have hz' : nullsN ls = 0 := by omega
        refine ⟨he1, by rw [bits_none hz', hn'], o, q, ?_⟩
        rw [q.rest]
        unfold maskL
        rw [if_neg (by omega)]
        rfl
    · refine ⟨fun s w4 => ∃ i : Nat, i ≤ n ∧ s = [.int .i64 (i : Int)] ∧ Keeps (fun k => k = bo) w3 w4 ∧ w4.heap[bo]? = some (.cells ⟨List.replicate i (.int .u64 1) ++ List.replicate (n - i) (.int .u64 0)⟩ ty.uint64 (0, 0)), fun s _ => match s with
          | [.int _ i] => n - i.toNat
          | _ => 0, ⟨0, by omega, rfl, .refl _ _, by simpa using hO3'⟩, ?_⟩
      rintro _ w4 ⟨i, hi, hst, K4, hO4⟩
      cases hst
      refine IFB_dec (fun hlt => ⟨⟨by omega, hlt⟩, ?_⟩) (fun hge => ?_)
      · rw [Int.toNat_natCast]
        unfold PTR
        simp only
        refine sto_at hO4 (p := (⟨bo, 0, none⟩ : Addr).add (i * 1)) (i := i) (by rw [addr_add_blk]; simp) (by show i < (_ ++ _ : List Value).length; simp; omega) fun w5 K5 hO5 => ?_
        rw [wrap_succ (by omega)]
        refine ⟨⟨i + 1, by omega, rfl, K4.trans K5 (fun _ _ h => h), ?_⟩, ?_⟩
        · have e : (⟨List.replicate i (.int .u64 1) ++ List.replicate (n - i) (.int .u64 0)⟩ : Array Value).setIfInBounds i (.int .u64 1) = ⟨List.replicate (i + 1) (.int .u64 1) ++ List.replicate (n - (i + 1)) (.int .u64 0)⟩ := by
            apply Array.ext'
            simp only [Array.toList_setIfInBounds]
            rw [List.set_append_right _ _ (by simp), List.length_replicate, Nat.sub_self, show n - i = (n - (i + 1)) + 1 by omega, List.replicate_succ (n := n - (i + 1)), List.set_cons_zero, List.replicate_succ' (n := i), List.append_assoc]
            rfl
          rw [e] at hO5; exact hO5
        · simp only [Int.toNat_natCast]
          omega
      · have hin : i = n := by omega
        subst hin
        rw [Nat.sub_self, List.replicate_zero, List.append_nil] at hO4
        refine ⟨at2, e1, List.replicate i 1, some ⟨bo, 0, none⟩, i, by rw [List.length_replicate], ?_, B3.trans (K4.below B3.size fun k hk h => by omega), by simp; omega, hb2.2, fun K ls hp => ?_⟩
        · have := Rd.of_block0 hO4
          rw [rep]; exact this
        · obtain ⟨_, hno', o, q⟩ := hP2 K ls hp
          have hn' := (hP1 K ls hp).2.1
          have hz' : nullsN ls = ls.length := by omega
          refine ⟨he1, by rw [bits_all hz', hn'], o, q, ?_⟩
          rw [q.rest]
          unfold maskL
          rw [if_neg (by omega)]
          rfl
    · rw [wrap_i64 (n := (n : Int)) (by omega) (by omega)]
      refine (pack_Size_ok w3 (n : Int) 1).mono ?_
      rintro _ w6 ⟨_, rfl, rfl, rfl⟩
      rw [if_pos ⟨by omega, by omega, by omega, by omega⟩]
      obtain ⟨sz, hsz⟩ : ∃ sz, sz = sizeN n 1 := ⟨_, rfl⟩
      have hszv : sz = (n + 7) / 8 := by rw [hsz]; unfold sizeN; rw [Nat.mul_one]
      have esz : ((n : Int) * 1 + 7) / 8 = (sz : Int) := by omega
      rw [esz, wrap_i64 (n := (l.length : Int) - (at2 : Int)) (by omega) (by omega)]
      have hmaskq : ∀ K ls, ReadP K ls l → ∃ o, ReadQ K ls l at1 at2 o ∧ l.drop at2 = packL (bitsN ls) 1 ++ o ∧ (packL (bitsN ls) 1).length = sz := by
        intro K ls hp
        obtain ⟨_, hno', o, q⟩ := hP2 K ls hp
        have hn' := (hP1 K ls hp).2.1
        refine ⟨o, q, ?_, ?_⟩
        · rw [q.rest]
          unfold maskL
          rw [if_pos (by omega)]
        · rw [packL_len, hsz, hn']
          simp [bitsN]
      refine ⟨_, _, rfl, IFB_dec (fun h => ReadV.bad B3 fun K ls hp => ?_) (fun hge => ?_)⟩
      · obtain ⟨o, _, e, e2⟩ := hmaskq K ls hp
        have := congrArg List.length e
        rw [List.length_drop, List.length_append] at this
        omega
      rw [wrap_i64 (n := (at2 : Int) + (sz : Int)) (by omega) (by omega)]
      refine ⟨⟨by omega, by omega, by omega⟩, ?_⟩
      rw [Int.toNat_natCast, show ((at2 : Int) + (sz : Int)).toNat = at2 + sz by omega, Nat.add_sub_cancel_left]
      have hsl := (hl.grown B3).sla at2 (at2 + sz) c 1 (by omega)
      rw [Nat.mul_one, Nat.mul_one, Nat.add_sub_cancel_left, ← List.map_drop, ← List.map_take] at hsl
      have hsll : ((l.drop at2).take sz).length = sz := by rw [List.length_take, List.length_drop]; omega
      have hU := pack_Unpack_ok (c := c - at2) hsl (n : Int) 1 (by omega)
      rw [hsll] at hU
      refine hU.mono ?_
      rintro _ w7 ⟨_, rfl, xs, xa, xc, e, rfl, hRx, B7, hxn, hcase⟩
      have C7 := below_trans B3 B7
      have hxl : xs.length ≤ 4096 := by
        rcases hcase with ⟨_, _, rfl, _⟩ | ⟨_, rfl, _⟩
        · rw [unpackL_len]; omega
        · simp
      refine ⟨_, _, _, _, rfl, at2 + sz, e, xs, xa, xc, rfl, hRx, C7, hxl, by omega, fun K ls hp => ?_⟩
      obtain ⟨o, q, e3, e4⟩ := hmaskq K ls hp
      have hn' := (hP1 K ls hp).2.1
      have hbl : (bitsN ls).length = n := by rw [hn']; simp [bitsN]
      have htk : (l.drop at2).take sz = packL (bitsN ls) 1 := by rw [e3, ← e4, List.take_left]
      have hup := unpack_pack (bits_lt ls)
      rw [hbl] at hup
      rw [htk, Int.toNat_natCast, show (1 : Int).toNat = 1 from rfl] at hcase
      have hok : unArg (n : Int) 1 ∧ unOk (packL (bitsN ls) 1) n 1 := ⟨⟨by omega, by omega, by omega, by omega⟩, ⟨by rw [packL_len, hbl], by rw [hup]⟩⟩
      rcases hcase with ⟨_, _, hxs, he⟩ | ⟨hno2, _⟩
      · exact ⟨he, by rw [hxs, hup], o, q, by rw [← e4, ← List.drop_drop, e3, List.drop_left]⟩
      · exact absurd hok hno2
  rintro _ e ab _ cb w8 ⟨at3, _, bits, _, _, hst, hRb, B8, hbl, hat3, hP3⟩
  cases hst
  refine (SH.start (fun _ => False) w8).drawB fun w9 B9 _ => ⟨⟨by omega, by omega⟩, ?_⟩
  have C9 := below_trans B8 B9
  have hdr := drop_rd (q := at3) (hl.grown C9) hc
  obtain ⟨p, rfl, hcell⟩ := head_at (hl.grown C9) h0
  have hb0 := (l.getD 0 0).toNat_lt
  refine ⟨⟨by omega, by omega, by omega⟩, _, hcell, ?_⟩
  have en : IntKind.i64.wrap (IntKind.u64.wrap ((n : Int) - (no : Int))) = ((n - no : Nat) : Int) := by rw [wrap_u64_id (by omega) (by omega), wrap_i64 (by omega) (by omega)]; omega
  rw [en, wrap_i64 (n := ((l.getD 0 0).toNat : Int)) (by omega) (by omega), Int.toNat_natCast, ← List.length_drop (i := at3) (l := l)]
  refine (chunk_decoded_ok ((l.getD 0 0).toNat : Int) hdr (by rw [List.length_drop]; omega) (by rw [List.length_drop]; omega) (n := n - no) (by omega)).mono ?_
  rintro _ w10 ⟨_, rfl, vs, a10, c10, ok, rfl, R10, B10, hvl, hvok, hD⟩
  have C10 := below_trans C9 B10
  have hD' : ∀ K ls, ReadP K ls l → ok = true ∧ vs = fullL ls := by
    intro K ls hp
    obtain ⟨_, _, o, q, ho⟩ := hP3 K ls hp
    have hn' := (hP1 K ls hp).2.1
    have hno' := (hP2 K ls hp).2.1
    have hnf := nulls_full' ls
    refine hD ls (by rw [q.kind]; exact hp.good) (by omega) (fun h => ?_) (fun h => ?_)
    · rw [q.kind, ho]; exact q.oth (by omega)
    · rw [ho]; exact q.none (by omega)
  refine ⟨_, _, _, _, rfl, IFB_ne (fun h => ReadV.bad C10 fun K ls hp => h (hP3 K ls hp).1) (fun he => IFB_not (IFB_of (fun hok => ?_) (fun hok => ReadV.bad C10 fun K ls hp => ?_)))⟩
  case refine_2 =>
    have := (hD' K ls hp).1
    rw [this] at hok; cases hok
  refine (chunk_spread_ok ((hRb.grown B9).grown B10) R10 hbl hvl hvok).mono ?_
  rintro _ w11 ⟨_, rfl, os, a11, c11, ok2, rfl, R11, B11, hol, hook, hS⟩
  have C11 := below_trans C10 B11
  obtain ⟨p', hp', hcell'⟩ := head_at (hl.grown C11) h0
  cases hp'
  refine ⟨_, _, _, _, rfl, ⟨by omega, by omega⟩, _, hcell', ?_⟩
  rw [wrap_i64 (n := ((l.getD 0 0).toNat : Int)) (by omega) (by omega)]
  refine ⟨_, os, a11, c11, ok2, rfl, R11, C11, hol, hook, fun K ls hp => ?_⟩
  obtain ⟨_, hbits, o, q, _⟩ := hP3 K ls hp
  obtain ⟨s1, s2⟩ := hS ls hbits (hD' K ls hp).2 hp.good.null
  exact ⟨s1, q.kind, s2⟩
end
end Go.Proofs.Ytbkffpcgppecgaa

/-
  Decode of a column's values: the program's way; the laws ChunkBack and ChunkTurns.
-/
namespace Go.Proofs.Ytbkffpcgppecgaa
open Go.Dn Go.Proofs
open Go.RowKit (Below)
set_option linter.unusedVariables false
set_option maxRecDepth 20000

theorem ChIs.read {K : Int} {ls : List Val} {b : List UInt8} (hg : Good1 K ls) (h : ChIs K ls b) : ReadP K ls (b.take (b.length - 4)) ∧ 5 ≤ b.length ∧ b = b.take (b.length - 4) ++ sum4 (crc (b.take (b.length - 4))) := by
  obtain ⟨o, h1, h2, rfl⟩ := h.ex
  have hs : ∀ x, (sum4 x).length = 4 := fun x => rfl
  have hhead : 1 ≤ (headL K ls).length := by simp [headL]
  have e : (headL K ls ++ maskL ls ++ o ++ sum4 (crc (headL K ls ++ maskL ls ++ o))).take ((headL K ls ++ maskL ls ++ o ++ sum4 (crc (headL K ls ++ maskL ls ++ o))).length - 4) = headL K ls ++ maskL ls ++ o := by
    rw [List.length_append, hs, Nat.add_sub_cancel, List.take_left]
  rw [e]
  refine ⟨⟨hg, o, h1, h2, rfl⟩, ?_, rfl⟩
  simp only [List.length_append, hs]
  omega
/-- what Decode hands back -/
def ChDV (l : List UInt8) (w w' : World) (v : Value) : Prop :=
  ∃ (K : Int) (ls : List Val) (a : Option Addr) (c : Nat) (e : Int), v = .tuple #[.int .i64 K, .slice a ls.length c, .int .i64 e] ∧ Rd w' a (valsL ls) ∧ Below w.heap.size w w' ∧ ls.length ≤ 4096 ∧
    ((Good1 K ls ∧ ChIs K ls l ∧ e = 0 ∧ ∀ K' ls', Good1 K' ls' → ChIs K' ls' l → K' = K ∧ ls' = ls) ∨ ((∀ K' ls', Good1 K' ls' → ¬ ChIs K' ls' l) ∧ K = 0 ∧ ls = [] ∧ e = 80))
theorem ChDV.bad {l : List UInt8} {w w' : World} (hb : Below w.heap.size w w') (h : ∀ K' ls', Good1 K' ls' → ¬ ChIs K' ls' l) : ChDV l w w' (.tuple #[.int .i64 0, .slice none 0 0, .int .i64 80]) :=
  ⟨0, [], none, 0, 80, rfl, Rd.nil _ _, hb, by simp, .inr ⟨h, rfl, rfl, rfl⟩⟩
section
variable {w : World} {a : Option Addr} {c : Nat} {l : List UInt8}
theorem chunk_Decode_ok (hl : Rd w a (l.map byteV)) (hc : l.length ≤ c) (hs : l.length ≤ 9223372036854775807) :
    Calls Try.prog f.chunk_Decode #[.slice a l.length c] w (Ret fun v w' => ChDV l w w' v) := by
  apply R.chunk_Decode_calls
  unfold R.chunk_Decode
  refine IFB_dec (fun h => ChDV.bad (.refl _ _) fun K ls hg hC => by have := (hC.read hg).2.1; omega) (fun hge => ?_)
  rw [wrap_i64 (n := (l.length : Int) - 4) (by omega) (by omega), show ((l.length : Int) - 4).toNat = l.length - 4 by omega]
  refine ⟨⟨by omega, by omega, by omega⟩, ?_⟩
  have hsl := hl.sla 0 (l.length - 4) c 1 (by omega)
  rw [Nat.mul_one, Nat.sub_zero, Nat.mul_one, List.drop_zero, ← List.map_take] at hsl
  have hlt : (l.take (l.length - 4)).length = l.length - 4 := by rw [List.length_take]; omega
  have hR := chunk_read_ok (c := c) hsl (by omega) (by omega)
  rw [hlt] at hR
  rw [Nat.sub_zero, Nat.sub_zero]
  refine hR.mono ?_
  rintro _ w1 ⟨_, rfl, K, os, a1, c1, ok, rfl, R1, B1, hol, hook, hP⟩
  refine ⟨_, _, _, _, _, rfl, (chunk_Encode_ok K R1 (by omega) hook).mono ?_⟩
  rintro _ w2 ⟨_, rfl, h2⟩
  obtain ⟨b2, a2, c2, e2, rfl, R2, B2, q2⟩ := h2.open
  have C2 := below_trans B1 B2
  have key : ∀ K' ls', Good1 K' ls' → ChIs K' ls' l → ok = true ∧ K = K' ∧ os = ls' := fun K' ls' hg hC => hP K' ls' (hC.read hg).1
  refine ⟨_, _, _, _, rfl, IFB_not (IFB_of (fun hok => ?_) (fun hok => ChDV.bad C2 fun K' ls' hg hC => ?_))⟩
  case refine_2 =>
    have := (key K' ls' hg hC).1
    rw [this] at hok; cases hok
  rcases q2 with ⟨hr, hI, rfl⟩ | ⟨hr, rfl, rfl⟩
  · refine IFB_ne (fun h => absurd rfl h) (fun _ => (bytes_Equal_ok R2 (hl.grown C2)).mono ?_)
    rintro _ w3 ⟨_, rfl, rfl, rfl⟩
    refine ⟨_, rfl, IFB_not (IFB_dec (fun he => ?_) (fun he => ChDV.bad C2 fun K' ls' hg hC => ?_))⟩
    · subst he
      refine ⟨K, os, a1, c1, 0, rfl, R1.grown B2, C2, hol, .inl ⟨⟨hr, hook⟩, hI, rfl, fun K' ls' hg hC => ?_⟩⟩
      obtain ⟨_, e1, e2⟩ := key K' ls' hg hC
      exact ⟨e1.symm, e2.symm⟩
    · obtain ⟨_, rfl, rfl⟩ := key K' ls' hg hC
      exact he (hI.one hC)
  · refine IFB_ne (fun _ => ChDV.bad C2 fun K' ls' hg hC => ?_) (fun h => absurd h (by decide))
    obtain ⟨_, rfl, rfl⟩ := key K' ls' hg hC
    rw [hg.right] at hr; cases hr
theorem val_beq (u v : Val) : ((u.1 == v.1) && ((u.2.1 == v.2.1) && ((u.2.2 == v.2.2) && true))) = decide (u = v) := by
  obtain ⟨a, b, s⟩ := u
  obtain ⟨c, d, t⟩ := v
  rw [Bool.eq_iff_iff]
  simp [beq_str]
theorem ref08_Same_ok {a2 : Option Addr} {c2 : Nat} {ls ms : List Val} (hl : Rd w a (valsL ls)) (hm : Rd w a2 (valsL ms)) (hn : ls.length ≤ 9223372036854775807) :
    Calls Try.prog f.ref08_Same #[.slice a ls.length c, .slice a2 ms.length c2] w (Ret fun v w' => Below w.heap.size w w' ∧ v = .bool (decide (ls = ms))) := by
  apply R.ref08_Same_calls
  unfold R.ref08_Same
  refine IFB_ne (fun h => ⟨.refl _ _, ?_⟩) (fun hlen => ?_)
  · congr 1
    rw [eq_comm, decide_eq_false_iff_not]
    rintro rfl
    exact h rfl
  have hlen' : ls.length = ms.length := by omega
  refine ⟨fun s w1 => ∃ i : Nat, i ≤ ls.length ∧ s = [.int .i64 (i : Int)] ∧ Below w.heap.size w w1 ∧ ls.take i = ms.take i, fun s _ => match s with
      | [.int _ i] => ls.length - i.toNat
      | _ => 0, ⟨0, by omega, rfl, .refl _ _, rfl⟩, ?_⟩
  rintro _ w1 ⟨i, hi, hs, B1, hT⟩
  cases hs
  refine IFB_dec (fun hlt => ?_) (fun hge => ⟨B1, ?_⟩)
  · have h1 : i < ls.length := by omega
    have h2 : i < ms.length := by omega
    refine (SH.start (fun _ => False) w1).drawB fun w2 B2 _ => ⟨⟨by omega, hlt⟩, ?_⟩
    have C2 := below_trans B1 B2
    obtain ⟨p1, rfl, c0, c1, c2⟩ := val_at (hl.grown C2) h1
    obtain ⟨p2, rfl, d0, d1, d2⟩ := val_at (hm.grown C2) h2
    refine ⟨⟨by omega, by omega⟩, _, by rw [Int.toNat_natCast]; exact c0, _, by rw [Int.toNat_natCast]; exact c1, _, by rw [Int.toNat_natCast]; exact c2, _, by rw [Int.toNat_natCast]; exact d0, _, by rw [Int.toNat_natCast]; exact d1, _, by rw [Int.toNat_natCast]; exact d2, ?_⟩
    rw [val_beq]
    refine IFB_not (IFB_dec (fun he => ?_) (fun he => ⟨C2, ?_⟩))
    · rw [wrap_succ (by omega)]
      refine ⟨⟨i + 1, by omega, rfl, C2, ?_⟩, ?_⟩
      · rw [List.take_succ_eq_append_getElem h1, List.take_succ_eq_append_getElem h2, hT, he]
      · simp only [Int.toNat_natCast]
        omega
    · congr 1
      rw [eq_comm, decide_eq_false_iff_not]
      rintro rfl
      exact he rfl
  · congr 1
    rw [eq_comm, decide_eq_true_eq]
    rw [List.take_of_length_le (by omega), List.take_of_length_le (by omega)] at hT
    exact hT
end
theorem NewB.bound {w w' : World} {bs : List UInt8} {a : Option Addr} {c : Nat} (h : NewB w w' bs a c) : bs.length ≤ 9223372036854775807 := by
  rcases h.row.2 with ⟨_, h, _⟩ | ⟨_, _, _, _, h1, h2, _⟩
  · omega
  · omega
theorem ChunkBack_core {w : World} {a : Option Addr} {c : Nat} {ls : List Val} (kind : Int) (hl : Rd w a (valsL ls)) (hn : ls.length ≤ 9223372036854775807) (hv : ∀ v ∈ ls, ValOk v) :
    Calls Try.prog f.law08_ChunkBack #[.int .i64 kind, .slice a ls.length c] w (Ret fun r w' => r = .bool true ∧ Below w.heap.size w w') := by
  apply R.law08_ChunkBack_calls
  unfold R.law08_ChunkBack
  refine (shown_ok w).mono ?_
  rintro _ w1 ⟨_, rfl, rfl, B1⟩
  refine ⟨_, rfl, (chunk_Encode_ok kind (hl.grown B1) hn hv).mono ?_⟩
  rintro _ w2 ⟨_, rfl, h2⟩
  rcases h2 with ⟨_, rfl, B2⟩ | ⟨hr, bs, a2, c2, hI, rfl, h2⟩
  · exact ⟨_, _, _, _, rfl, IFB_ne (fun _ => IFB_true ⟨rfl, below_trans B1 B2⟩) (fun h => absurd h (by decide))⟩
  have hg : Good1 kind ls := ⟨hr, hv⟩
  have C2 := below_trans B1 h2.bel
  refine ⟨_, _, _, _, rfl, IFB_ne (fun h => absurd rfl h) (fun _ => (chunk_Decode_ok h2.rd h2.row.le h2.bound).mono ?_)⟩
  rintro _ w3 ⟨_, rfl, K, ms, a3, c3, e3, rfl, R3, B3, l3, q3⟩
  have C3 := below_trans C2 B3
  rcases q3 with ⟨g1, g2, rfl, g4⟩ | ⟨hno, _⟩
  · obtain ⟨rfl, rfl⟩ := g4 kind ls hg hI
    refine ⟨_, _, _, _, _, rfl, IFB_true (IFB_eq (fun _ => IFB_eq (fun _ => (ref08_Same_ok (hl.grown C3) R3 hn).mono ?_) (fun h => absurd rfl h)) (fun h => absurd rfl h))⟩
    rintro _ w4 ⟨_, rfl, B4, rfl⟩
    exact ⟨_, rfl, by simp, below_trans C3 B4⟩
  · exact absurd hI (hno kind ls hg)
theorem ChunkBack_ok (w : World) (kind : Int) (a : Option Addr) (xs : List Val) (c : Nat) (g : GL w valC valQ a xs c) :
    Calls Try.prog f.law08_ChunkBack #[.int .i64 kind, .slice a xs.length c] w (Ret fun r w' => r = .bool true ∧ Below w.heap.size w w') := by
  obtain ⟨h1, h2, h3⟩ := vals_arg g
  exact ChunkBack_core kind h1 h2 h3
/-- bytes with their check sum, one of them turned, are not bytes with their check sum -/
theorem turned_no {b : List UInt8} {i : Nat} {c d : UInt8} (hb : b = b.take (b.length - 4) ++ sum4 (crc (b.take (b.length - 4)))) (h5 : 5 ≤ b.length) (hi : b[i]? = some d) (hne : d ≠ c) : b.set i c ≠ (b.set i c).take ((b.set i c).length - 4) ++ sum4 (crc ((b.set i c).take ((b.set i c).length - 4))) := by
  intro h
  rw [List.length_set] at h
  obtain ⟨m, hm⟩ : ∃ m, m = b.length - 4 := ⟨_, rfl⟩
  rw [← hm] at hb h
  have hil : i < b.length := (List.getElem?_eq_some_iff.1 hi).1
  have hd1 : b.drop m = sum4 (crc (b.take m)) := by
    have := congrArg (List.drop m) hb
    rw [List.drop_left' (by rw [List.length_take]; omega)] at this
    exact this
  have hd2 : (b.set i c).drop m = sum4 (crc ((b.set i c).take m)) := by
    have := congrArg (List.drop m) h
    rw [List.drop_left' (by rw [List.length_take, List.length_set]; omega)] at this
    exact this
  by_cases hlt : i < m
  · have e1 : (b.set i c).drop m = b.drop m := by rw [List.drop_set_of_lt hlt]
    have e2 : (b.set i c).take m = (b.take m).set i c := by rw [List.take_set]
    rw [e1, e2, hd1] at hd2
    have hcrc := sum4_inj hd2
    have hg : (b.take m)[i]? = some d := by rw [List.getElem?_take, if_pos hlt]; exact hi
    exact crc_set hg hne hcrc.symm
  · have e2 : (b.set i c).take m = b.take m := by rw [List.take_set_of_le (by omega)]
    rw [e2, ← hd1] at hd2
    have g1 : (b.set i c)[i]? = some c := List.getElem?_set_self hil
    have g2 : ((b.set i c).drop m)[i - m]? = some c := by rw [List.getElem?_drop, show m + (i - m) = i by omega]; exact g1
    rw [hd2, List.getElem?_drop, show m + (i - m) = i by omega, hi] at g2
    exact hne (Option.some.inj g2)
theorem ChunkTurns_core {w : World} {a : Option Addr} {c : Nat} {ls : List Val} (kind : Int) (hl : Rd w a (valsL ls)) (hn : ls.length ≤ 9223372036854775807) (hv : ∀ v ∈ ls, ValOk v) (at_ : Int) (cc : UInt8) :
    Calls Try.prog f.law08_ChunkTurns #[.int .i64 kind, .slice a ls.length c, .int .i64 at_, .int .u8 (cc.toNat : Int)] w (Ret fun r w' => r = .bool true ∧ Below w.heap.size w w') := by
  apply R.law08_ChunkTurns_calls
  unfold R.law08_ChunkTurns
  refine (shown_ok w).mono ?_
  rintro _ w1 ⟨_, rfl, rfl, B1⟩
  refine ⟨_, rfl, (chunk_Encode_ok kind (hl.grown B1) hn hv).mono ?_⟩
  rintro _ w2 ⟨_, rfl, h2⟩
  rcases h2 with ⟨_, rfl, B2⟩ | ⟨hr, bs, a2, c2, hI, rfl, h2⟩
  · exact ⟨_, _, _, _, rfl, IFB_ne (fun _ => ⟨rfl, below_trans B1 B2⟩) (fun h => absurd h (by decide))⟩
  have hg : Good1 kind ls := ⟨hr, hv⟩
  have C2 := below_trans B1 h2.bel
  refine ⟨_, _, _, _, rfl, IFB_ne (fun h => absurd rfl h) (fun _ => IFB_dec (fun _ => ⟨rfl, C2⟩) (fun g1 => IFB_dec (fun _ => ⟨rfl, C2⟩) (fun g2 => ⟨⟨by omega, by omega⟩, ?_⟩)))⟩
  obtain ⟨i, rfl⟩ : ∃ i : Nat, at_ = (i : Int) := ⟨at_.toNat, by omega⟩
  have hil : i < bs.length := by omega
  obtain ⟨_, h5, hsum⟩ := hI.read hg
  rcases h2.row.2 with ⟨_, hz, _⟩ | ⟨g, cur, rfl, hcur, hle, hmax, hcs, htk⟩
  · omega
  obtain ⟨p, hp, hcell⟩ := byte_at h2.rd hil
  cases hp
  refine ⟨_, by rw [Int.toNat_natCast]; exact hcell, IFB_eq (fun _ => ⟨rfl, C2⟩) (fun hne => ⟨⟨by omega, by omega⟩, ?_⟩)⟩
  rw [Int.toNat_natCast]
  unfold PTR
  simp only
  have hgn : w1.heap.size ≤ g := h2.new g rfl
  have hrow : Row w2 ty.uint8 1 (some ⟨g, 0, none⟩) bs.length c2 (bs.map byteV) := h2.row
  have ea : (⟨g, 0, none⟩ : Addr).add (i * 1) = ⟨g, i, none⟩ := by rw [addr_add_blk]; simp
  rw [ea]
  refine hrow.sto (by omega) fun w3 R3 K3 => ?_
  have hset : (bs.map byteV).set i (.int .u8 (cc.toNat : Int)) = (bs.set i cc).map byteV := by rw [List.map_set]; rfl
  rw [hset] at R3
  have C3 : Below w.heap.size w w3 := C2.trans (K3.below C2.size fun k hk he => by have := B1.size; omega)
  have hbl : bs.length = (bs.set i cc).length := by rw [List.length_set]
  have hD := chunk_Decode_ok (c := c2) R3.rd (by rw [← hbl]; exact hle) (by rw [← hbl]; exact h2.bound)
  rw [← hbl] at hD
  refine hD.mono ?_
  rintro _ w4 ⟨_, rfl, K, ms, a4, c4, e4, rfl, R4, B4, l4, q4⟩
  rcases q4 with ⟨g1, g2, _, _⟩ | ⟨_, rfl, rfl, rfl⟩
  · exfalso
    have hd : bs[i]? = some bs[i] := List.getElem?_eq_getElem hil
    refine turned_no (c := cc) hsum h5 hd (fun h => hne (by rw [h])) (g2.read g1).2.2
  · exact ⟨_, _, _, _, _, rfl, IFB_true (IFB_eq (fun _ => ⟨rfl, below_trans C3 B4⟩) (fun h => absurd rfl h))⟩
theorem ChunkTurns_ok (w : World) (kind : Int) (a : Option Addr) (xs : List Val) (c : Nat) (g : GL w valC valQ a xs c) (at_ : Int) (cc : UInt8) :
    Calls Try.prog f.law08_ChunkTurns #[.int .i64 kind, .slice a xs.length c, .int .i64 at_, .int .u8 (cc.toNat : Int)] w (Ret fun r w' => r = .bool true ∧ Below w.heap.size w w') := by
  obtain ⟨h1, h2, h3⟩ := vals_arg g
  exact ChunkTurns_core kind h1 h2 h3 at_ cc
end Go.Proofs.Ytbkffpcgppecgaa
