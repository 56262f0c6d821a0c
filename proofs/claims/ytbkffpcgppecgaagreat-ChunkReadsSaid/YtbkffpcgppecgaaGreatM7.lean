/-
  Texts of this claim, laid one behind the other by a program of mine (install.py): E.Ch10, E.Ch11, E.Ch12, E.ChgE, E.IntsH, E.IntsI, E.Ch13, E.Ch14.
-/
import Derived.Test.YtbkffpcgppecgaaGreatM6
import Derived.Test.YtbkffpcgppecgaaGreatM3
import Derived.Test.YtbkffpcgppecgaaGreatM5
/-
  Values out of bytes: decoded, spread; the program's way.
-/
namespace Go.Proofs.YtbkffpcgppecgaaGreat
open Go.Dn Go.Proofs
open Go.RowKit (Below)
set_option linter.unusedVariables false
set_option maxRecDepth 20000

theorem tVals : slT Tryz.prog ty.L_api_Value = some (ty.api_Value, 3, 32, .agg #[.int .i64 0, .int .i64 0, .string ⟨#[]⟩]) := by kernel_rfl
/-- a new row of values -/
structure NewV (w w' : World) (vs : List Val) (a : Option Addr) (c : Nat) : Prop where
  row : Row w' ty.api_Value 3 a vs.length c (valsL vs)
  new : ∀ k, rowB a = some k → w.heap.size ≤ k
  bel : Below w.heap.size w w'
theorem NewV.nil (w : World) : NewV w w [] none 0 := ⟨Row.nil _ _ _, by simp [rowB], .refl _ _⟩
theorem NewV.grown {w w1 w2 : World} {xs : List Val} {a : Option Addr} {c : Nat} (h : NewV w w1 xs a c) (hb : Below w1.heap.size w1 w2) : NewV w w2 xs a c := ⟨h.row.grown hb, h.new, below_trans h.bel hb⟩
theorem vals_append (xs ys : List Val) : valsL (xs ++ ys) = valsL xs ++ valsL ys := by simp [valsL]
theorem append_val {w w1 : World} {a : Option Addr} {c : Nat} {xs : List Val} (h : NewV w w1 xs a c) (hl : xs.length + 1 ≤ 1000000) {x : Val} {b : Nat} {t : TypeId} (hb : w1.heap[b]? = some (.cells #[.int .i64 x.1, .int .i64 x.2.1, .string x.2.2] t (0, 0))) {f : Value → World → Prop}
    (hf : ∀ a' c' w', NewV w w' (xs ++ [x]) a' c' → f (.slice a' (xs ++ [x]).length c') w') : OPR Tryz.prog (Builtin.append_ #[ty.L_api_Value, ty.L_api_Value] ty.L_api_Value #[.slice a xs.length c, .slice (some ⟨b, 0, none⟩) 1 1]) f w1 := by
  have hsrc : Rd w1 (some ⟨b, 0, none⟩) (valsL [x]) := by
    have := Rd.of_block0 hb
    simpa [valC] using this
  obtain ⟨a5, c5, w2, hrun, hrow, hk5, hnw⟩ := append_row (ty := ty.L_api_Value) (mc := 1) tVals rfl (by omega) (by omega) h.row hsrc (m := 1) rfl (by simp [valC]; exact ⟨rfl, rfl, rfl⟩) (by omega)
  unfold OPR
  rw [hrun]
  have e : xs.length + 1 = (xs ++ [x]).length := by simp
  rw [e] at hrow ⊢
  refine hf a5 c5 w2 ⟨by rw [vals_append]; exact hrow, fun k hk => ?_, h.bel.trans (hk5.below h.bel.size fun k hk he => by have := h.new k he; omega)⟩
  rcases hnw k hk with h1 | h1
  · exact h.new k h1
  · exact Nat.le_trans h.bel.size h1
/-! ### the values that are not null -/
theorem full_nums {kind : Int} {ls : List Val} (hg : Good1 kind ls) (h3 : kind ≠ 3) : fullL ls = (numsL ls).map fun x => (kind, x, E0) := by
  unfold numsL
  rw [List.map_map]
  conv => lhs; rw [← List.map_id (fullL ls)]
  apply List.map_congr_left
  intro v hv
  obtain ⟨hm, hne⟩ := List.mem_filter.1 hv
  have hok := hg.all v hm
  simp only [okV, Bool.and_eq_true, Bool.or_eq_true, decide_eq_true_eq] at hok
  have hk1 : v.1 = kind := hok.2.resolve_right (by simpa using hne)
  have hr := hok.1
  have h33 : ¬ v.1 = 3 := by rw [hk1]; exact h3
  have he : v.2.2 = E0 := by
    unfold rightB at hr
    split at hr
    · simp at hr; exact hr.2
    · split at hr
      · simpa using hr
      · split at hr
        · simp at hr; exact hr.2
        · simp at hr
  show v = (kind, v.2.1, E0)
  rw [← hk1, ← he]
theorem full_texts {kind : Int} {ls : List Val} (hg : Good1 kind ls) (h3 : kind = 3) : fullL ls = (textsL ls).map fun s => (kind, 0, s) := by
  unfold textsL
  rw [List.map_map]
  conv => lhs; rw [← List.map_id (fullL ls)]
  apply List.map_congr_left
  intro v hv
  obtain ⟨hm, hne⟩ := List.mem_filter.1 hv
  have hok := hg.all v hm
  simp only [okV, Bool.and_eq_true, Bool.or_eq_true, decide_eq_true_eq] at hok
  have hk1 : v.1 = kind := hok.2.resolve_right (by simpa using hne)
  have hr := hok.1
  have h33 : v.1 = 3 := by rw [hk1]; exact h3
  have he : v.2.1 = 0 := by
    unfold rightB at hr
    rw [if_neg (by omega), if_neg (by omega), if_neg (by omega), if_pos h33] at hr
    simp at hr
    exact hr.1
  show v = (kind, 0, v.2.2)
  rw [← hk1, ← he]
theorem oth_texts {ls : List Val} {o : List UInt8} (hg : Good1 3 ls) (h : OthIs 3 ls o) : DecIs o (textsL ls).length (textsL ls) ∧ 0 < o.length := by
  have key : ∀ (f : Int) (b : List UInt8), (0 ≤ f ∧ f ≤ 1) → EncIs (textsL ls) f b → DecIs b (textsL ls).length (textsL ls) ∧ 0 < b.length := by
    intro f b hf hE
    have hh : ((b.getD 0 0).toNat : Int) = f := by
      cases hE with
      | plain => rfl
      | table t wd ht hw => rfl
    refine ⟨⟨rfl, by rw [hh]; exact hg.enc f hf, by rw [hh]; exact hE⟩, ?_⟩
    cases hE with
    | plain => simp
    | table t wd ht hw => simp
  cases h with
  | text h b0 b1 h0 h1 =>
    split
    · exact key 1 b1 (by omega) h1
    · exact key 0 b0 (by omega) h0
  | num h => exact absurd rfl h
theorem intsL_head {f : Nat} (hf : f ≤ 3) (l : List Int) : ((intsL f l).getD 0 0).toNat = f ∧ 0 < (intsL f l).length := by
  rcases (by omega : f = 0 ∨ f = 1 ∨ f = 2 ∨ f = 3) with rfl | rfl | rfl | rfl <;> exact ⟨rfl, by simp [intsL]⟩
theorem oth_nums {kind : Int} {ls : List Val} {o : List UInt8} (hg : Good1 kind ls) (h3 : kind ≠ 3) (h : OthIs kind ls o) : IntIs o (numsL ls).length (numsL ls) ∧ 0 < o.length := by
  cases h with
  | text h b0 b1 h0 h1 => exact absurd h h3
  | num h =>
    obtain ⟨e1, e2⟩ := intsL_head (bestN_le (numsL ls)) (numsL ls)
    exact ⟨⟨rfl, hg.nums, by rw [e1]; exact bestN_le _, by rw [e1]⟩, e2⟩
/-- what decoded hands back -/
def DecdV (kind : Int) (l : List UInt8) (n : Nat) (w w' : World) (v : Value) : Prop :=
  ∃ (vs : List Val) (a : Option Addr) (c : Nat) (ok : Bool), v = .tuple #[.slice a vs.length c, .bool ok] ∧ Rd w' a (valsL vs) ∧ Below w.heap.size w w' ∧ vs.length ≤ 4096 ∧ (∀ v ∈ vs, ValOk v) ∧
    ∀ ls, Good1 kind ls → (fullL ls).length = n → (0 < n → OthIs kind ls l) → (n = 0 → l = []) → ok = true ∧ vs = fullL ls
section
variable {w : World} {a : Option Addr} {c : Nat} {l : List UInt8}
theorem chunk_decoded_ok (kind : Int) (hl : Rd w a (l.map byteV)) (hc : l.length ≤ c) (hs : l.length ≤ 9223372036854775807) {n : Nat} (hn : n ≤ 1024) :
    Calls Tryz.prog f.chunk_decoded #[.int .i64 kind, .slice a l.length c, .int .i64 (n : Int)] w (Ret fun v w' => DecdV kind l n w w' v) := by
  apply R.chunk_decoded_calls
  unfold R.chunk_decoded
  refine IFB_eq (fun hz => ?_) (fun hnz => IFB_eq (fun h3 => ?_) (fun h3 => ?_))
  · have hn0 : n = 0 := by omega
    subst hn0
    refine ⟨[], none, 0, _, rfl, Rd.nil _ _, .refl _ _, by simp, by simp, fun ls hg hf _ h0 => ?_⟩
    rw [h0 rfl]
    exact ⟨rfl, (List.eq_nil_of_length_eq_zero hf).symm⟩
  · subst h3
    have hn0 : 0 < n := by omega
    refine (dict_Decode_ok hl hc hs (n : Int)).mono ?_
    rintro _ w1 ⟨_, rfl, ss, a1, c1, e1, rfl, R1, B1, l1, q1⟩
    have harg : decArg (n : Int) := ⟨by omega, by omega⟩
    rw [Int.toNat_natCast] at q1
    refine ⟨_, _, _, _, rfl, ?_⟩
    refine ⟨fun s w2 => ∃ (i : Nat) (oa : Option Addr) (oc : Nat), s = [.slice oa ((ss.take i).map fun s => ((3 : Int), (0 : Int), s)).length oc, .int .i64 (i : Int)] ∧ i ≤ ss.length ∧ NewV w1 w2 ((ss.take i).map fun s => ((3 : Int), (0 : Int), s)) oa oc, fun s _ => match s with
        | [_, .int _ i] => ss.length - i.toNat
        | _ => 0, ⟨0, none, 0, rfl, by omega, NewV.nil w1⟩, ?_⟩
    rintro oa _ oc _ w2 ⟨i, _, _, hst, hi, h2⟩
    cases hst
    refine IFB_dec (fun hlt => ⟨⟨by omega, hlt⟩, ?_⟩) (fun hge => ?_)
    · have hil : i < ss.length := by omega
      obtain ⟨p, rfl, hcell⟩ := str_at (R1.grown h2.bel) hil
      refine ⟨_, by rw [Int.toNat_natCast]; exact hcell, (SH.start (fun _ => False) w2).newB fun b3 w3 hb3 B3 S3 => append_val (x := (3, 0, ss[i])) (h2.grown B3) (by simp; omega) (S3.get 0 rfl) fun a4 c4 w4 h4 => ⟨_, _, _, rfl, ?_⟩⟩
      have e : (ss.take (i + 1)).map (fun s => ((3 : Int), (0 : Int), s)) = (ss.take i).map (fun s => ((3 : Int), (0 : Int), s)) ++ [((3 : Int), (0 : Int), ss[i])] := by
        rw [List.take_succ_eq_append_getElem hil, List.map_append]; rfl
      rw [wrap_succ (by omega)]
      refine ⟨⟨i + 1, a4, c4, by rw [e], by omega, by rw [e]; exact h4⟩, ?_⟩
      simp only [Int.toNat_natCast]
      omega
    · have hie : ss.take i = ss := List.take_of_length_le (by omega)
      rw [hie] at h2 ⊢
      refine ⟨_, oa, oc, _, rfl, h2.row.rd, below_trans B1 h2.bel, by simp; omega, ?_, fun ls hg hf ho _ => ?_⟩
      · intro v hv
        obtain ⟨s, _, rfl⟩ := List.mem_map.1 hv
        exact ⟨by simp, by simp⟩
      · obtain ⟨d1, d2⟩ := oth_texts hg (ho hn0)
        have hft := full_texts hg rfl
        have htl : (textsL ls).length = n := by rw [← hf, hft, List.length_map]
        rw [htl] at d1
        rcases q1 with ⟨k1, _⟩ | ⟨_, k2, rfl, _⟩ | ⟨_, k2, _⟩
        · exact absurd harg k1
        · rw [hft, k2.one d1]; exact ⟨rfl, rfl⟩
        · exact absurd ⟨d1, d2⟩ (k2 _)
  · have hn0 : 0 < n := by omega
    refine (ints_Decode_ok hl hc hs (n : Int)).mono ?_
    rintro _ w1 ⟨_, rfl, ns, a1, c1, e1, rfl, R1, B1, l1, hI, q1⟩
    have harg : decArg (n : Int) := ⟨by omega, by omega⟩
    rw [Int.toNat_natCast] at q1
    refine ⟨_, _, _, _, rfl, ?_⟩
    refine ⟨fun s w2 => ∃ (i : Nat) (oa : Option Addr) (oc : Nat), s = [.slice oa ((ns.take i).map fun x => ((kind : Int), (x : Int), E0)).length oc, .int .i64 (i : Int)] ∧ i ≤ ns.length ∧ NewV w1 w2 ((ns.take i).map fun x => ((kind : Int), (x : Int), E0)) oa oc, fun s _ => match s with
        | [_, .int _ i] => ns.length - i.toNat
        | _ => 0, ⟨0, none, 0, rfl, by omega, NewV.nil w1⟩, ?_⟩
    rintro oa _ oc _ w2 ⟨i, _, _, hst, hi, h2⟩
    cases hst
    refine IFB_dec (fun hlt => ⟨⟨by omega, hlt⟩, ?_⟩) (fun hge => ?_)
    · have hil : i < ns.length := by omega
      obtain ⟨p, rfl, hcell⟩ := int_at (R1.grown h2.bel) hil
      refine ⟨_, by rw [Int.toNat_natCast]; exact hcell, (SH.start (fun _ => False) w2).newB fun b3 w3 hb3 B3 S3 => append_val (x := (kind, ns[i], E0)) (h2.grown B3) (by simp; omega) (S3.get 0 rfl) fun a4 c4 w4 h4 => ⟨_, _, _, rfl, ?_⟩⟩
      have e : (ns.take (i + 1)).map (fun x => ((kind : Int), (x : Int), E0)) = (ns.take i).map (fun x => ((kind : Int), (x : Int), E0)) ++ [((kind : Int), (ns[i] : Int), E0)] := by
        rw [List.take_succ_eq_append_getElem hil, List.map_append]; rfl
      rw [wrap_succ (by omega)]
      refine ⟨⟨i + 1, a4, c4, by rw [e], by omega, by rw [e]; exact h4⟩, ?_⟩
      simp only [Int.toNat_natCast]
      omega
    · have hie : ns.take i = ns := List.take_of_length_le (by omega)
      rw [hie] at h2 ⊢
      refine ⟨_, oa, oc, _, rfl, h2.row.rd, below_trans B1 h2.bel, by simp; omega, ?_, fun ls hg hf ho _ => ?_⟩
      · intro v hv
        obtain ⟨x, hx, rfl⟩ := List.mem_map.1 hv
        exact ⟨(hI x hx).1, (hI x hx).2⟩
      · obtain ⟨d1, d2⟩ := oth_nums hg h3 (ho hn0)
        have hft := full_nums hg h3
        have htl : (numsL ls).length = n := by rw [← hf, hft, List.length_map]
        rw [htl] at d1
        rcases q1 with ⟨k1, _⟩ | ⟨_, _, _, k2, rfl⟩ | ⟨_, k2, _⟩
        · exact absurd harg k1
        · rw [hft, k2 _ d1]; exact ⟨rfl, rfl⟩
        · exact absurd ⟨d1, d2⟩ (k2 _)
end
/-! ### spread -/
theorem vals_set (cur : List Val) {i : Nat} (hi : i < cur.length) (v : Val) :
    (((⟨valsL cur⟩ : Array Value).setIfInBounds (i * 3) (.int .i64 v.1)).setIfInBounds (i * 3 + 1) (.int .i64 v.2.1)).setIfInBounds (i * 3 + 2) (.string v.2.2) = ⟨valsL (cur.set i v)⟩ := by
  apply Array.ext'
  simp only [Array.toList_setIfInBounds]
  apply List.ext_getElem?
  intro j
  have hl := vals_len cur
  have hl2 := vals_len (cur.set i v)
  rw [List.length_set] at hl2
  by_cases hj : j < cur.length * 3
  · have hq : j / 3 < cur.length := by omega
    have e : j = j / 3 * 3 + j % 3 := by omega
    have g1 := vals_get cur (j / 3) (j % 3) hq (by omega)
    have g2 := vals_get (cur.set i v) (j / 3) (j % 3) (by rw [List.length_set]; exact hq) (by omega)
    rw [← e] at g1 g2
    rw [g2]
    simp only [List.getElem?_set, List.length_set, hl]
    by_cases hji : j / 3 = i
    · subst hji
      simp only [List.getElem_set_self]
      rcases (by omega : j % 3 = 0 ∨ j % 3 = 1 ∨ j % 3 = 2) with h | h | h
      · rw [h] at e ⊢
        rw [if_neg (by omega), if_neg (by omega), if_pos (by omega), if_pos (by omega)]; rfl
      · rw [h] at e ⊢
        rw [if_neg (by omega), if_pos (by omega), if_pos (by omega)]; rfl
      · rw [h] at e ⊢
        rw [if_pos (by omega), if_pos (by omega)]; rfl
    · rw [if_neg (by omega), if_neg (by omega), if_neg (by omega), g1]
      rw [List.getElem_set_ne (fun h => hji h.symm)]
  · rw [List.getElem?_eq_none (by simp only [List.length_set, hl]; omega), List.getElem?_eq_none (by rw [hl2]; omega)]
theorem vals_zero (n : Nat) : madeCells (Value.agg #[.int .i64 0, .int .i64 0, .string ⟨#[]⟩]).cells (n * 3) = ⟨valsL (List.replicate n (0, 0, E0))⟩ := by
  apply Array.ext'
  apply List.ext_getElem?
  intro j
  by_cases hj : j < n * 3
  · have g2 := vals_get (List.replicate n (0, 0, E0)) (j / 3) (j % 3) (by rw [List.length_replicate]; omega) (by omega)
    have e : j / 3 * 3 + j % 3 = j := by omega
    rw [e] at g2
    rw [g2, List.getElem_replicate]
    have hc : (Value.agg #[.int .i64 0, .int .i64 0, .string ⟨#[]⟩]).cells = #[.int .i64 0, .int .i64 0, .string ⟨#[]⟩] := rfl
    rw [hc]
    have hsz : (#[Value.int .i64 0, .int .i64 0, .string ⟨#[]⟩] : Array Value).size = 3 := rfl
    rcases (by omega : j % 3 = 0 ∨ j % 3 = 1 ∨ j % 3 = 2) with h | h | h <;> simp [madeCells, hj, h, valC]
  · rw [List.getElem?_eq_none (by rw [Array.length_toList, madeCells_size]; omega), List.getElem?_eq_none (by rw [vals_len, List.length_replicate]; omega)]
/-- what spread hands back -/
def SprV (bits : List Nat) (vs : List Val) (w w' : World) (v : Value) : Prop :=
  ∃ (os : List Val) (a : Option Addr) (c : Nat) (ok : Bool), v = .tuple #[.slice a os.length c, .bool ok] ∧ Rd w' a (valsL os) ∧ Below w.heap.size w w' ∧ os.length ≤ 4096 ∧ (∀ v ∈ os, ValOk v) ∧
    ∀ ls, bits = bitsN ls → vs = fullL ls → (∀ v ∈ ls, v.1 = 0 → v = (0, 0, E0)) → ok = true ∧ os = ls
theorem sto_at {w : World} {b : Nat} {cs : Array Value} {t : TypeId} (hb : w.heap[b]? = some (.cells cs t (0, 0))) {p : Addr} {i : Nat} (hp : p = ⟨b, i, none⟩) {v : Value} {k : World → Prop} (hi : i < cs.size)
    (hk : ∀ w', Keeps (· = b) w w' → w'.heap[b]? = some (.cells (cs.setIfInBounds i v) t (0, 0)) → k w') : STO p v k w := by
  subst hp
  exact sto_blk hb hi hk
section
variable {w : World} {a a2 : Option Addr} {c c2 : Nat} {bits : List Nat} {vs : List Val}
theorem chunk_spread_ok (hb : Rd w a (bits.map u64V)) (hv : Rd w a2 (valsL vs)) (hn : bits.length ≤ 4096) (hvn : vs.length ≤ 4096) (hok : ∀ v ∈ vs, ValOk v) :
    Calls Tryz.prog f.chunk_spread #[.slice a bits.length c, .slice a2 vs.length c2] w (Ret fun v w' => SprV bits vs w w' v) := by
  apply R.chunk_spread_calls
  unfold R.chunk_spread
  refine make_new tVals (l := (bits.length : Int)) (c := (bits.length : Int)) (by omega) (by omega) (by omega) (by omega) fun bo w1 hbo B1 hO1 => ?_
  rw [Int.toNat_natCast, vals_zero] at hO1
  rw [Int.toNat_natCast]
  have low : ∀ {w' : World}, Keeps (fun k => k = bo) w1 w' → Below w.heap.size w w' := fun K => B1.trans (K.below B1.size fun k hk h => by omega)
  refine ⟨_, _, _, rfl, fun s w2 => ∃ (at_ i : Nat) (cur : List Val), s = [.int .i64 (at_ : Int), .int .i64 (i : Int)] ∧ i ≤ bits.length ∧ at_ ≤ vs.length ∧ cur.length = bits.length ∧ (∀ v ∈ cur, ValOk v) ∧ Keeps (fun k => k = bo) w1 w2 ∧ w2.heap[bo]? = some (.cells ⟨valsL cur⟩ ty.api_Value (0, 0)) ∧
      (∀ ls, bits = bitsN ls → vs = fullL ls → (∀ v ∈ ls, v.1 = 0 → v = (0, 0, E0)) → at_ = (fullL (ls.take i)).length ∧ cur = ls.take i ++ List.replicate (bits.length - i) (0, 0, E0)), fun s _ => match s with
      | [_, .int _ i] => bits.length - i.toNat
      | _ => 0, ⟨0, 0, _, rfl, by omega, by omega, by simp, ?_, .refl _ _, hO1, fun ls _ _ _ => ⟨rfl, by simp⟩⟩, ?_⟩
  · intro v hv
    rw [(List.mem_replicate.1 hv).2]
    exact ⟨by simp, by simp⟩
  rintro _ _ w2 ⟨at_, i, cur, hst, hi, hat, hcl, hcok, K2, hO2, hT⟩
  cases hst
  have B2 := low K2
  have blen : ∀ {ls : List Val}, bits = bitsN ls → ls.length = bits.length := fun h => by rw [h]; simp [bitsN]
  refine IFB_dec (fun hlt => ⟨⟨by omega, hlt⟩, ?_⟩) (fun hge => ?_)
  · have hil : i < bits.length := by omega
    have hic : i < cur.length := by omega
    obtain ⟨p, rfl, hcell⟩ := num_at (hb.grown B2) hil
    refine ⟨_, by rw [Int.toNat_natCast]; exact hcell, ?_⟩
    have mes : bits.length - ((i + 1 : Nat) : Int).toNat < bits.length - ((i : Nat) : Int).toNat := by
      simp only [Int.toNat_natCast]
      omega
    have bit : ∀ {ls : List Val} (h : bits = bitsN ls) (hl : i < ls.length), bits[i] = if ls[i].1 = 0 then 1 else 0 := by
      intro ls h hl
      subst h
      simp [bitsN]
    rw [wrap_succ (k := i) (by omega)]
    refine IFB_eq (fun h1 => ?_) (fun h1 => IFB_eq (fun hend => ?_) (fun hne => ?_))
    · refine ⟨⟨at_, i + 1, cur, rfl, by omega, hat, hcl, hcok, K2, hO2, fun ls g1 g2 g3 => ?_⟩, mes⟩
      obtain ⟨t1, t2⟩ := hT ls g1 g2 g3
      have hl := blen g1
      have hl' : i < ls.length := by omega
      have hb1 := bit g1 hl'
      have hz : ls[i].1 = 0 := by
        by_cases hz : ls[i].1 = 0
        · exact hz
        · rw [if_neg hz] at hb1; omega
      refine ⟨by rw [t1, fullL_take hl', if_pos hz, List.append_nil], ?_⟩
      rw [t2, List.take_succ_eq_append_getElem hl', g3 _ (List.getElem_mem hl') hz, List.append_assoc]
      congr 1
      rw [show bits.length - i = (bits.length - (i + 1)) + 1 by omega, List.replicate_succ]
      rfl
    · refine ⟨[], none, 0, false, rfl, Rd.nil _ _, B2, by simp, by simp, fun ls g1 g2 g3 => ?_⟩
      exfalso
      obtain ⟨t1, t2⟩ := hT ls g1 g2 g3
      have hl := blen g1
      have hl' : i < ls.length := by omega
      have hb1 := bit g1 hl'
      have hnz : ¬ ls[i].1 = 0 := fun hz => by rw [if_pos hz] at hb1; omega
      have hle : (fullL (ls.take (i + 1))).length ≤ (fullL ls).length := by
        unfold fullL
        exact ((List.take_sublist (i + 1) ls).filter _).length_le
      rw [fullL_take hl', if_neg hnz, List.length_append, ← t1, ← g2] at hle
      simp at hle
      omega
    · have hav : at_ < vs.length := by omega
      obtain ⟨p2, hp2, c0, c1, c2⟩ := val_at (hv.grown B2) hav
      subst hp2
      refine ⟨⟨by omega, by omega⟩, _, by rw [Int.toNat_natCast]; exact c0, _, by rw [Int.toNat_natCast]; exact c1, _, by rw [Int.toNat_natCast]; exact c2, ⟨by omega, by omega⟩, ?_⟩
      rw [Int.toNat_natCast]
      have hsz : (⟨valsL cur⟩ : Array Value).size = bits.length * 3 := by
        show (valsL cur).length = _
        rw [vals_len, hcl]
      refine sto_at hO2 (p := (⟨bo, 0, none⟩ : Addr).add (i * 3)) (i := i * 3) (by rw [addr_add_blk]; simp) (by omega) fun w3 K3 hO3 => ?_
      refine sto_at hO3 (p := ((⟨bo, 0, none⟩ : Addr).add (i * 3)).add 1) (i := i * 3 + 1) (by rw [addr_add_blk, addr_add_blk]; simp) (by simp only [Array.size_setIfInBounds]; omega) fun w4 K4 hO4 => ?_
      refine sto_at hO4 (p := ((⟨bo, 0, none⟩ : Addr).add (i * 3)).add 2) (i := i * 3 + 2) (by rw [addr_add_blk, addr_add_blk]; simp) (by simp only [Array.size_setIfInBounds]; omega) fun w5 K5 hO5 => ?_
      rw [vals_set cur hic] at hO5
      rw [wrap_succ (by omega)]
      refine ⟨⟨at_ + 1, i + 1, cur.set i vs[at_], rfl, by omega, by omega, by rw [List.length_set]; exact hcl, ?_, ((K2.trans K3 (fun _ _ h => h)).trans K4 (fun _ _ h => h)).trans K5 (fun _ _ h => h), hO5, fun ls g1 g2 g3 => ?_⟩, mes⟩
      · intro v hv'
        rcases List.mem_or_eq_of_mem_set hv' with h | h
        · exact hcok v h
        · rw [h]; exact hok _ (List.getElem_mem hav)
      · obtain ⟨t1, t2⟩ := hT ls g1 g2 g3
        have hl := blen g1
        have hl' : i < ls.length := by omega
        have hb1 := bit g1 hl'
        have hnz : ¬ ls[i].1 = 0 := fun hz => by rw [if_pos hz] at hb1; omega
        have hft := fullL_take hl'
        rw [if_neg hnz] at hft
        refine ⟨by rw [t1, hft, List.length_append]; rfl, ?_⟩
        have hv2 : vs[at_] = ls[i] := by
          have hpre : fullL (ls.take (i + 1)) <+: fullL ls := by
            unfold fullL
            exact (List.take_prefix (i + 1) ls).filter _
          rw [hft] at hpre
          obtain ⟨r, hr⟩ := hpre
          have hv? : vs[at_]? = some ls[i] := by
            rw [g2, ← hr, List.append_assoc, t1]
            simp
          rw [List.getElem?_eq_getElem hav] at hv?
          exact Option.some.inj hv?
        rw [hv2, t2, List.take_succ_eq_append_getElem hl']
        have htl : (ls.take i).length = i := by rw [List.length_take]; omega
        rw [List.set_append_right _ _ (by omega), htl, Nat.sub_self, show bits.length - i = (bits.length - (i + 1)) + 1 by omega, List.replicate_succ, List.set_cons_zero, List.append_assoc]
        rfl
  · refine ⟨cur, some ⟨bo, 0, none⟩, bits.length, _, by rw [hcl], ?_, B2, by omega, hcok, fun ls g1 g2 g3 => ?_⟩
    · exact Rd.of_block0 hO2
    · obtain ⟨t1, t2⟩ := hT ls g1 g2 g3
      have hl := blen g1
      have hie : ls.take i = ls := List.take_of_length_le (by omega)
      rw [hie] at t1 t2
      refine ⟨by rw [g2, t1]; simp, ?_⟩
      rw [t2, show bits.length - i = 0 by omega]
      simp
end
end Go.Proofs.YtbkffpcgppecgaaGreat

/-
  Values out of bytes, read loosely: the program's way.
-/
namespace Go.Proofs.YtbkffpcgppecgaaGreat
open Go.Dn Go.Proofs
open Go.RowKit (Below)
set_option linter.unusedVariables false
set_option maxRecDepth 20000

/-- bytes are a column's values, ahead of the check sum -/
structure ReadP (K : Int) (ls : List Val) (l : List UInt8) : Prop where
  good : Good1 K ls
  ex : ∃ o, (nullsN ls < ls.length → OthIs K ls o) ∧ (¬ nullsN ls < ls.length → o = []) ∧ l = headL K ls ++ maskL ls ++ o
theorem bits_none {ls : List Val} (h : nullsN ls = 0) : bitsN ls = List.replicate ls.length 0 := by
  unfold bitsN
  rw [List.eq_replicate_iff]
  refine ⟨by simp, fun b hb => ?_⟩
  obtain ⟨v, hv, rfl⟩ := List.mem_map.1 hb
  unfold nullsN at h
  have := (List.countP_eq_zero.1 h) v hv
  rw [if_neg (by simpa using this)]
theorem bits_all {ls : List Val} (h : nullsN ls = ls.length) : bitsN ls = List.replicate ls.length 1 := by
  unfold bitsN
  rw [List.eq_replicate_iff]
  refine ⟨by simp, fun b hb => ?_⟩
  obtain ⟨v, hv, rfl⟩ := List.mem_map.1 hb
  unfold nullsN at h
  have := (List.countP_eq_length.1 h) v hv
  rw [if_pos (by simpa using this)]
theorem Good1.null {K : Int} {ls : List Val} (h : Good1 K ls) : ∀ v ∈ ls, v.1 = 0 → v = (0, 0, E0) := by
  intro v hv h0
  have hok := h.all v hv
  simp only [okV, Bool.and_eq_true] at hok
  have hr := hok.1
  unfold rightB at hr
  rw [if_pos h0] at hr
  simp at hr
  obtain ⟨v1, v2, v3⟩ := v
  simp only at h0 hr
  rw [h0, hr.1, hr.2]
theorem nulls_full' (ls : List Val) : nullsN ls + (fullL ls).length = ls.length := by
  induction ls with
  | nil => rfl
  | cons v ls ih =>
    unfold nullsN fullL at ih ⊢
    by_cases h : v.1 = 0
    · simp [h]; omega
    · simp [h]; omega
/-- what stands in bytes that are values -/
structure ReadQ (K : Int) (ls : List Val) (l : List UInt8) (at1 at2 : Nat) (o : List UInt8) : Prop where
  kind : ((l.getD 0 0).toNat : Int) = K
  n1 : takeN l 1 = some (ls.length, at1)
  n2 : takeN l (at1 : Int) = some (nullsN ls, at2)
  rest : l.drop at2 = maskL ls ++ o
  oth : nullsN ls < ls.length → OthIs K ls o
  none : ¬ nullsN ls < ls.length → o = []
theorem ReadP.q {K : Int} {ls : List Val} {l : List UInt8} (h : ReadP K ls l) : ∃ at1 at2 o, ReadQ K ls l at1 at2 o := by
  obtain ⟨o, h1, h2, rfl⟩ := h.ex
  have hlen := h.good.len
  have hk := h.good.kind
  have hnl := nullsN_le ls
  have e1 : (headL K ls ++ maskL ls ++ o).drop 1 = digitsL ls.length ++ (digitsL (nullsN ls) ++ (maskL ls ++ o)) := by simp [headL]
  have e2 := drop_more e1
  have e3 := drop_more e2
  refine ⟨_, _, o, ?_, takeN_drop (at_ := 1) (by omega) e1, takeN_drop (by omega) e2, e3, h1, h2⟩
  have : ((headL K ls ++ maskL ls ++ o).getD 0 0) = UInt8.ofNat K.toNat := by simp [headL]
  rw [this, ofNat_toNat8 (by omega)]
  omega
/-- what reading loosely hands back -/
def ReadV (l : List UInt8) (w w' : World) (v : Value) : Prop :=
  ∃ (K : Int) (os : List Val) (a : Option Addr) (c : Nat) (ok : Bool), v = .tuple #[.int .i64 K, .slice a os.length c, .bool ok] ∧ Rd w' a (valsL os) ∧ Below w.heap.size w w' ∧ os.length ≤ 4096 ∧ (∀ v ∈ os, ValOk v) ∧
    ∀ K' ls, ReadP K' ls l → ok = true ∧ K = K' ∧ os = ls
theorem ReadV.bad {l : List UInt8} {w w' : World} (hb : Below w.heap.size w w') (h : ∀ K ls, ¬ ReadP K ls l) : ReadV l w w' (.tuple #[.int .i64 0, .slice none 0 0, .bool false]) :=
  ⟨0, [], none, 0, false, rfl, Rd.nil _ _, hb, by simp, by simp, fun K ls hls => absurd hls (h K ls)⟩
theorem num_none : numV none = .tuple #[.int .u64 0, .int .i64 0, .int .i64 20] := rfl
section
variable {w : World} {a : Option Addr} {c : Nat} {l : List UInt8}
theorem chunk_read_ok (hl : Rd w a (l.map byteV)) (hc : l.length ≤ c) (hs : l.length ≤ 9223372036854775807) :
    Calls Tryz.prog f.chunk_read #[.slice a l.length c] w (Ret fun v w' => ReadV l w w' v) := by
  apply R.chunk_read_calls
  unfold R.chunk_read
  refine IFB_dec (fun h => ReadV.bad (.refl _ _) fun K ls hp => ?_) (fun hpos => ?_)
  · obtain ⟨_, _, _, q⟩ := hp.q
    have := takeN_bounds q.n1
    omega
  have h0 : 0 < l.length := by omega
  refine (wire_TakeNumber_ok hl hc hs 1).mono ?_
  rintro _ w ⟨_, rfl, rfl, rfl⟩
  -- the first number
  obtain ⟨n, at1, e1, hv1, hb1, hP1⟩ : ∃ (n at1 : Nat) (e1 : Int), numV (takeN l 1) = .tuple #[.int .u64 (n : Int), .int .i64 (at1 : Int), .int .i64 e1] ∧ (n < 18446744073709551616 ∧ at1 ≤ l.length) ∧ (∀ K ls, ReadP K ls l → e1 = 0 ∧ n = ls.length ∧ takeN l 1 = some (n, at1)) := by
    cases hx : takeN l 1 with
    | none =>
      refine ⟨0, 0, 20, rfl, by omega, fun K ls hp => ?_⟩
      obtain ⟨_, _, _, q⟩ := hp.q
      have := q.n1
      rw [hx] at this; cases this
    | some x =>
      have hb := takeN_bounds (n := x.1) (k := x.2) hx
      refine ⟨x.1, x.2, 0, rfl, by omega, fun K ls hp => ?_⟩
      obtain ⟨_, _, _, q⟩ := hp.q
      have := q.n1
      rw [hx] at this
      have := Option.some.inj this
      exact ⟨rfl, by rw [this], rfl⟩
  rw [hv1]
  refine ⟨_, _, _, rfl, (wire_TakeNumber_ok hl hc hs (at1 : Int)).mono ?_⟩
  rintro _ w ⟨_, rfl, rfl, rfl⟩
  obtain ⟨no, at2, e2, hv2, hb2, hP2⟩ : ∃ (no at2 : Nat) (e2 : Int), numV (takeN l (at1 : Int)) = .tuple #[.int .u64 (no : Int), .int .i64 (at2 : Int), .int .i64 e2] ∧ (no < 18446744073709551616 ∧ at2 ≤ l.length) ∧ (∀ K ls, ReadP K ls l → e2 = 0 ∧ no = nullsN ls ∧ ∃ o, ReadQ K ls l at1 at2 o) := by
    have step : ∀ K ls, ReadP K ls l → ∃ at2 o, ReadQ K ls l at1 at2 o := by
      intro K ls hp
      obtain ⟨a1, a2, o, q⟩ := hp.q
      have h1 := (hP1 K ls hp).2.2
      have h2 := q.n1
      rw [h1] at h2
      obtain rfl : at1 = a1 := by have := Option.some.inj h2; simpa using congrArg Prod.snd this
      exact ⟨a2, o, q⟩
    cases hx : takeN l (at1 : Int) with
    | none =>
      refine ⟨0, 0, 20, rfl, by omega, fun K ls hp => ?_⟩
      obtain ⟨_, _, q⟩ := step K ls hp
      have := q.n2
      rw [hx] at this; cases this
    | some x =>
      have hb := takeN_bounds (n := x.1) (k := x.2) hx
      refine ⟨x.1, x.2, 0, rfl, by omega, fun K ls hp => ?_⟩
      obtain ⟨a2, o, q⟩ := step K ls hp
      have := q.n2
      rw [hx] at this
      have hxx := Option.some.inj this
      obtain rfl : x.2 = a2 := by rw [hxx]
      exact ⟨rfl, by rw [hxx], o, q⟩
  rw [hv2]
  refine ⟨_, _, _, rfl, IFB_ne (fun h => ReadV.bad (.refl _ _) fun K ls hp => h (hP1 K ls hp).1) (fun he1 => IFB_ne (fun h => ReadV.bad (.refl _ _) fun K ls hp => h (hP2 K ls hp).1) (fun he2 => IFB_dec (fun h => ReadV.bad (.refl _ _) fun K ls hp => ?_) (fun hn1 => IFB_dec (fun h => ReadV.bad (.refl _ _) fun K ls hp => ?_) (fun hn2 => ?_))))⟩
  · have := (hP1 K ls hp).2.1
    have := hp.good.len
    omega
  · have := (hP1 K ls hp).2.1
    have := (hP2 K ls hp).2.1
    have := nullsN_le ls
    omega
  have hn : n ≤ 1024 := by omega
  have hno : no ≤ n := by omega
  refine make_new tU (l := (n : Int)) (c := (n : Int)) (by omega) (by omega) (by omega) (by omega) fun bo w3 hbo B3 hO3 => ?_
  rw [Int.toNat_natCast] at hO3 ⊢
  have hO3' : w3.heap[bo]? = some (.cells ⟨List.replicate n (.int .u64 0)⟩ ty.uint64 (0, 0)) := by
    have e : madeCells (Value.int .u64 0).cells (n * 1) = ⟨List.replicate n (.int .u64 0)⟩ := by
      apply Array.ext'
      rw [madeCells_one _ rfl, Nat.mul_one]
    rw [← e]; exact hO3
  refine ⟨_, _, _, rfl, fun s w8 => ∃ (at3 : Nat) (e : Int) (bits : List Nat) (ab : Option Addr) (cb : Nat), s = [.int .i64 (at3 : Int), .int .i64 e, .slice ab bits.length cb] ∧ Rd w8 ab (bits.map u64V) ∧ Below w.heap.size w w8 ∧ bits.length ≤ 4096 ∧ at3 ≤ l.length ∧
      (∀ K ls, ReadP K ls l → e = 0 ∧ bits = bitsN ls ∧ ∃ o, ReadQ K ls l at1 at2 o ∧ l.drop at3 = o), ?_, ?_⟩
  · have rep : ∀ (k : Nat) (x : Nat), (List.replicate k x).map u64V = List.replicate k (.int .u64 (x : Int)) := fun k x => by rw [List.map_replicate]; rfl
    refine IFB_eq (fun hz => ?_) (fun hz => IFB_eq (fun hall => ?_) (fun hmid => ?_))
    · refine ⟨at2, e1, List.replicate n 0, some ⟨bo, 0, none⟩, n, by rw [List.length_replicate], ?_, B3, by simp; omega, hb2.2, fun K ls hp => ?_⟩
      · have := Rd.of_block0 hO3'
        rw [rep]; exact this
      · obtain ⟨_, hno', o, q⟩ := hP2 K ls hp
        have hn' := (hP1 K ls hp).2.1
        have hz' : nullsN ls = 0 := by omega
        refine ⟨he1, by rw [bits_none hz', hn'], o, q, ?_⟩
        rw [q.rest]
        unfold maskL
        rw [if_neg (by omega)]
        rfl
    · refine ⟨fun s w4 => ∃ i : Nat, i ≤ n ∧ s = [.int .i64 (i : Int)] ∧ Keeps (fun k => k = bo) w3 w4 ∧ w4.heap[bo]? = some (.cells ⟨List.replicate i (.int .u64 1) ++ List.replicate (n - i) (.int .u64 0)⟩ ty.uint64 (0, 0)), fun s _ => match s with
          | [.int _ i] => n - i.toNat
          | _ => 0, ⟨0, by omega, rfl, .refl _ _, by simpa using hO3'⟩, ?_⟩
      rintro _ w4 ⟨i, hi, hst, K4, hO4⟩
      cases hst
      refine IFB_dec (fun hlt => ⟨⟨by omega, hlt⟩, ?_⟩) (fun hge => ?_)
      · rw [Int.toNat_natCast]
        unfold PTR
        simp only
        refine sto_at hO4 (p := (⟨bo, 0, none⟩ : Addr).add (i * 1)) (i := i) (by rw [addr_add_blk]; simp) (by show i < (_ ++ _ : List Value).length; simp; omega) fun w5 K5 hO5 => ?_
        rw [wrap_succ (by omega)]
        refine ⟨⟨i + 1, by omega, rfl, K4.trans K5 (fun _ _ h => h), ?_⟩, ?_⟩
        · have e : (⟨List.replicate i (.int .u64 1) ++ List.replicate (n - i) (.int .u64 0)⟩ : Array Value).setIfInBounds i (.int .u64 1) = ⟨List.replicate (i + 1) (.int .u64 1) ++ List.replicate (n - (i + 1)) (.int .u64 0)⟩ := by
            apply Array.ext'
            simp only [Array.toList_setIfInBounds]
            rw [List.set_append_right _ _ (by simp), List.length_replicate, Nat.sub_self, show n - i = (n - (i + 1)) + 1 by omega, List.replicate_succ (n := n - (i + 1)), List.set_cons_zero, List.replicate_succ' (n := i), List.append_assoc]
            rfl
          rw [e] at hO5; exact hO5
        · simp only [Int.toNat_natCast]
          omega
      · have hin : i = n := by omega
        subst hin
        rw [Nat.sub_self, List.replicate_zero, List.append_nil] at hO4
        refine ⟨at2, e1, List.replicate i 1, some ⟨bo, 0, none⟩, i, by rw [List.length_replicate], ?_, B3.trans (K4.below B3.size fun k hk h => by omega), by simp; omega, hb2.2, fun K ls hp => ?_⟩
        · have := Rd.of_block0 hO4
          rw [rep]; exact this
        · obtain ⟨_, hno', o, q⟩ := hP2 K ls hp
          have hn' := (hP1 K ls hp).2.1
          have hz' : nullsN ls = ls.length := by omega
          refine ⟨he1, by rw [bits_all hz', hn'], o, q, ?_⟩
          rw [q.rest]
          unfold maskL
          rw [if_neg (by omega)]
          rfl
    · rw [wrap_i64 (n := (n : Int)) (by omega) (by omega)]
      refine (pack_Size_ok w3 (n : Int) 1).mono ?_
      rintro _ w6 ⟨_, rfl, rfl, rfl⟩
      rw [if_pos ⟨by omega, by omega, by omega, by omega⟩]
      obtain ⟨sz, hsz⟩ : ∃ sz, sz = sizeN n 1 := ⟨_, rfl⟩
      have hszv : sz = (n + 7) / 8 := by rw [hsz]; unfold sizeN; rw [Nat.mul_one]
      have esz : ((n : Int) * 1 + 7) / 8 = (sz : Int) := by omega
      rw [esz, wrap_i64 (n := (l.length : Int) - (at2 : Int)) (by omega) (by omega)]
      have hmaskq : ∀ K ls, ReadP K ls l → ∃ o, ReadQ K ls l at1 at2 o ∧ l.drop at2 = packL (bitsN ls) 1 ++ o ∧ (packL (bitsN ls) 1).length = sz := by
        intro K ls hp
        obtain ⟨_, hno', o, q⟩ := hP2 K ls hp
        have hn' := (hP1 K ls hp).2.1
        refine ⟨o, q, ?_, ?_⟩
        · rw [q.rest]
          unfold maskL
          rw [if_pos (by omega)]
        · rw [packL_len, hsz, hn']
          simp [bitsN]
      refine ⟨_, _, rfl, IFB_dec (fun h => ReadV.bad B3 fun K ls hp => ?_) (fun hge => ?_)⟩
      · obtain ⟨o, _, e, e2⟩ := hmaskq K ls hp
        have := congrArg List.length e
        rw [List.length_drop, List.length_append] at this
        omega
      rw [wrap_i64 (n := (at2 : Int) + (sz : Int)) (by omega) (by omega)]
      refine ⟨⟨by omega, by omega, by omega⟩, ?_⟩
      rw [Int.toNat_natCast, show ((at2 : Int) + (sz : Int)).toNat = at2 + sz by omega, Nat.add_sub_cancel_left]
      have hsl := (hl.grown B3).sla at2 (at2 + sz) c 1 (by omega)
      rw [Nat.mul_one, Nat.mul_one, Nat.add_sub_cancel_left, ← List.map_drop, ← List.map_take] at hsl
      have hsll : ((l.drop at2).take sz).length = sz := by rw [List.length_take, List.length_drop]; omega
      have hU := pack_Unpack_ok (c := c - at2) hsl (n : Int) 1 (by omega)
      rw [hsll] at hU
      refine hU.mono ?_
      rintro _ w7 ⟨_, rfl, xs, xa, xc, e, rfl, hRx, B7, hxn, hcase⟩
      have C7 := below_trans B3 B7
      have hxl : xs.length ≤ 4096 := by
        rcases hcase with ⟨_, _, rfl, _⟩ | ⟨_, rfl, _⟩
        · rw [unpackL_len]; omega
        · simp
      refine ⟨_, _, _, _, rfl, at2 + sz, e, xs, xa, xc, rfl, hRx, C7, hxl, by omega, fun K ls hp => ?_⟩
      obtain ⟨o, q, e3, e4⟩ := hmaskq K ls hp
      have hn' := (hP1 K ls hp).2.1
      have hbl : (bitsN ls).length = n := by rw [hn']; simp [bitsN]
      have htk : (l.drop at2).take sz = packL (bitsN ls) 1 := by rw [e3, ← e4, List.take_left]
      have hup := unpack_pack (bits_lt ls)
      rw [hbl] at hup
      rw [htk, Int.toNat_natCast, show (1 : Int).toNat = 1 from rfl] at hcase
      have hok : unArg (n : Int) 1 ∧ unOk (packL (bitsN ls) 1) n 1 := ⟨⟨by omega, by omega, by omega, by omega⟩, ⟨by rw [packL_len, hbl], by rw [hup]⟩⟩
      rcases hcase with ⟨_, _, hxs, he⟩ | ⟨hno2, _⟩
      · exact ⟨he, by rw [hxs, hup], o, q, by rw [← e4, ← List.drop_drop, e3, List.drop_left]⟩
      · exact absurd hok hno2
  rintro _ e ab _ cb w8 ⟨at3, _, bits, _, _, hst, hRb, B8, hbl, hat3, hP3⟩
  cases hst
  refine (SH.start (fun _ => False) w8).drawB fun w9 B9 _ => ⟨⟨by omega, by omega⟩, ?_⟩
  have C9 := below_trans B8 B9
  have hdr := drop_rd (q := at3) (hl.grown C9) hc
  obtain ⟨p, rfl, hcell⟩ := head_at (hl.grown C9) h0
  have hb0 := (l.getD 0 0).toNat_lt
  refine ⟨⟨by omega, by omega, by omega⟩, _, hcell, ?_⟩
  have en : IntKind.i64.wrap (IntKind.u64.wrap ((n : Int) - (no : Int))) = ((n - no : Nat) : Int) := by rw [wrap_u64_id (by omega) (by omega), wrap_i64 (by omega) (by omega)]; omega
  rw [en, wrap_i64 (n := ((l.getD 0 0).toNat : Int)) (by omega) (by omega), Int.toNat_natCast, ← List.length_drop (i := at3) (l := l)]
  refine (chunk_decoded_ok ((l.getD 0 0).toNat : Int) hdr (by rw [List.length_drop]; omega) (by rw [List.length_drop]; omega) (n := n - no) (by omega)).mono ?_
  rintro _ w10 ⟨_, rfl, vs, a10, c10, ok, rfl, R10, B10, hvl, hvok, hD⟩
  have C10 := below_trans C9 B10
  have hD' : ∀ K ls, ReadP K ls l → ok = true ∧ vs = fullL ls := by
    intro K ls hp
    obtain ⟨_, _, o, q, ho⟩ := hP3 K ls hp
    have hn' := (hP1 K ls hp).2.1
    have hno' := (hP2 K ls hp).2.1
    have hnf := nulls_full' ls
    refine hD ls (by rw [q.kind]; exact hp.good) (by omega) (fun h => ?_) (fun h => ?_)
    · rw [q.kind, ho]; exact q.oth (by omega)
    · rw [ho]; exact q.none (by omega)
  refine ⟨_, _, _, _, rfl, IFB_ne (fun h => ReadV.bad C10 fun K ls hp => h (hP3 K ls hp).1) (fun he => IFB_not (IFB_of (fun hok => ?_) (fun hok => ReadV.bad C10 fun K ls hp => ?_)))⟩
  case refine_2 =>
    have := (hD' K ls hp).1
    rw [this] at hok; cases hok
  refine (chunk_spread_ok ((hRb.grown B9).grown B10) R10 hbl hvl hvok).mono ?_
  rintro _ w11 ⟨_, rfl, os, a11, c11, ok2, rfl, R11, B11, hol, hook, hS⟩
  have C11 := below_trans C10 B11
  obtain ⟨p', hp', hcell'⟩ := head_at (hl.grown C11) h0
  cases hp'
  refine ⟨_, _, _, _, rfl, ⟨by omega, by omega⟩, _, hcell', ?_⟩
  rw [wrap_i64 (n := ((l.getD 0 0).toNat : Int)) (by omega) (by omega)]
  refine ⟨_, os, a11, c11, ok2, rfl, R11, C11, hol, hook, fun K ls hp => ?_⟩
  obtain ⟨_, hbits, o, q, _⟩ := hP3 K ls hp
  obtain ⟨s1, s2⟩ := hS ls hbits (hD' K ls hp).2 hp.good.null
  exact ⟨s1, q.kind, s2⟩
end
end Go.Proofs.YtbkffpcgppecgaaGreat

/-
  Decode of a column's values: the program's way; the laws ChunkBack and ChunkTurns.
-/
namespace Go.Proofs.YtbkffpcgppecgaaGreat
open Go.Dn Go.Proofs
open Go.RowKit (Below)
set_option linter.unusedVariables false
set_option maxRecDepth 20000

theorem ChIs.read {K : Int} {ls : List Val} {b : List UInt8} (hg : Good1 K ls) (h : ChIs K ls b) : ReadP K ls (b.take (b.length - 4)) ∧ 5 ≤ b.length ∧ b = b.take (b.length - 4) ++ sum4 (crc (b.take (b.length - 4))) := by
  obtain ⟨o, h1, h2, rfl⟩ := h.ex
  have hs : ∀ x, (sum4 x).length = 4 := fun x => rfl
  have hhead : 1 ≤ (headL K ls).length := by simp [headL]
  have e : (headL K ls ++ maskL ls ++ o ++ sum4 (crc (headL K ls ++ maskL ls ++ o))).take ((headL K ls ++ maskL ls ++ o ++ sum4 (crc (headL K ls ++ maskL ls ++ o))).length - 4) = headL K ls ++ maskL ls ++ o := by
    rw [List.length_append, hs, Nat.add_sub_cancel, List.take_left]
  rw [e]
  refine ⟨⟨hg, o, h1, h2, rfl⟩, ?_, rfl⟩
  simp only [List.length_append, hs]
  omega
/-- what Decode hands back -/
def ChDV (l : List UInt8) (w w' : World) (v : Value) : Prop :=
  ∃ (K : Int) (ls : List Val) (a : Option Addr) (c : Nat) (e : Int), v = .tuple #[.int .i64 K, .slice a ls.length c, .int .i64 e] ∧ Rd w' a (valsL ls) ∧ Below w.heap.size w w' ∧ ls.length ≤ 4096 ∧
    ((Good1 K ls ∧ ChIs K ls l ∧ e = 0 ∧ ∀ K' ls', Good1 K' ls' → ChIs K' ls' l → K' = K ∧ ls' = ls) ∨ ((∀ K' ls', Good1 K' ls' → ¬ ChIs K' ls' l) ∧ K = 0 ∧ ls = [] ∧ e = 80))
theorem ChDV.bad {l : List UInt8} {w w' : World} (hb : Below w.heap.size w w') (h : ∀ K' ls', Good1 K' ls' → ¬ ChIs K' ls' l) : ChDV l w w' (.tuple #[.int .i64 0, .slice none 0 0, .int .i64 80]) :=
  ⟨0, [], none, 0, 80, rfl, Rd.nil _ _, hb, by simp, .inr ⟨h, rfl, rfl, rfl⟩⟩
section
variable {w : World} {a : Option Addr} {c : Nat} {l : List UInt8}
theorem chunk_Decode_ok (hl : Rd w a (l.map byteV)) (hc : l.length ≤ c) (hs : l.length ≤ 9223372036854775807) :
    Calls Tryz.prog f.chunk_Decode #[.slice a l.length c] w (Ret fun v w' => ChDV l w w' v) := by
  apply R.chunk_Decode_calls
  unfold R.chunk_Decode
  refine IFB_dec (fun h => ChDV.bad (.refl _ _) fun K ls hg hC => by have := (hC.read hg).2.1; omega) (fun hge => ?_)
  rw [wrap_i64 (n := (l.length : Int) - 4) (by omega) (by omega), show ((l.length : Int) - 4).toNat = l.length - 4 by omega]
  refine ⟨⟨by omega, by omega, by omega⟩, ?_⟩
  have hsl := hl.sla 0 (l.length - 4) c 1 (by omega)
  rw [Nat.mul_one, Nat.sub_zero, Nat.mul_one, List.drop_zero, ← List.map_take] at hsl
  have hlt : (l.take (l.length - 4)).length = l.length - 4 := by rw [List.length_take]; omega
  have hR := chunk_read_ok (c := c) hsl (by omega) (by omega)
  rw [hlt] at hR
  rw [Nat.sub_zero, Nat.sub_zero]
  refine hR.mono ?_
  rintro _ w1 ⟨_, rfl, K, os, a1, c1, ok, rfl, R1, B1, hol, hook, hP⟩
  refine ⟨_, _, _, _, _, rfl, (chunk_Encode_ok K R1 (by omega) hook).mono ?_⟩
  rintro _ w2 ⟨_, rfl, h2⟩
  obtain ⟨b2, a2, c2, e2, rfl, R2, B2, q2⟩ := h2.open
  have C2 := below_trans B1 B2
  have key : ∀ K' ls', Good1 K' ls' → ChIs K' ls' l → ok = true ∧ K = K' ∧ os = ls' := fun K' ls' hg hC => hP K' ls' (hC.read hg).1
  refine ⟨_, _, _, _, rfl, IFB_not (IFB_of (fun hok => ?_) (fun hok => ChDV.bad C2 fun K' ls' hg hC => ?_))⟩
  case refine_2 =>
    have := (key K' ls' hg hC).1
    rw [this] at hok; cases hok
  rcases q2 with ⟨hr, hI, rfl⟩ | ⟨hr, rfl, rfl⟩
  · refine IFB_ne (fun h => absurd rfl h) (fun _ => (bytes_Equal_ok R2 (hl.grown C2)).mono ?_)
    rintro _ w3 ⟨_, rfl, rfl, rfl⟩
    refine ⟨_, rfl, IFB_not (IFB_dec (fun he => ?_) (fun he => ChDV.bad C2 fun K' ls' hg hC => ?_))⟩
    · subst he
      refine ⟨K, os, a1, c1, 0, rfl, R1.grown B2, C2, hol, .inl ⟨⟨hr, hook⟩, hI, rfl, fun K' ls' hg hC => ?_⟩⟩
      obtain ⟨_, e1, e2⟩ := key K' ls' hg hC
      exact ⟨e1.symm, e2.symm⟩
    · obtain ⟨_, rfl, rfl⟩ := key K' ls' hg hC
      exact he (hI.one hC)
  · refine IFB_ne (fun _ => ChDV.bad C2 fun K' ls' hg hC => ?_) (fun h => absurd h (by decide))
    obtain ⟨_, rfl, rfl⟩ := key K' ls' hg hC
    rw [hg.right] at hr; cases hr
theorem val_beq (u v : Val) : ((u.1 == v.1) && ((u.2.1 == v.2.1) && ((u.2.2 == v.2.2) && true))) = decide (u = v) := by
  obtain ⟨a, b, s⟩ := u
  obtain ⟨c, d, t⟩ := v
  rw [Bool.eq_iff_iff]
  simp [beq_str]
theorem ref08_Same_ok {a2 : Option Addr} {c2 : Nat} {ls ms : List Val} (hl : Rd w a (valsL ls)) (hm : Rd w a2 (valsL ms)) (hn : ls.length ≤ 9223372036854775807) :
    Calls Tryz.prog f.ref08_Same #[.slice a ls.length c, .slice a2 ms.length c2] w (Ret fun v w' => Below w.heap.size w w' ∧ v = .bool (decide (ls = ms))) := by
  apply R.ref08_Same_calls
  unfold R.ref08_Same
  refine IFB_ne (fun h => ⟨.refl _ _, ?_⟩) (fun hlen => ?_)
  · congr 1
    rw [eq_comm, decide_eq_false_iff_not]
    rintro rfl
    exact h rfl
  have hlen' : ls.length = ms.length := by omega
  refine ⟨fun s w1 => ∃ i : Nat, i ≤ ls.length ∧ s = [.int .i64 (i : Int)] ∧ Below w.heap.size w w1 ∧ ls.take i = ms.take i, fun s _ => match s with
      | [.int _ i] => ls.length - i.toNat
      | _ => 0, ⟨0, by omega, rfl, .refl _ _, rfl⟩, ?_⟩
  rintro _ w1 ⟨i, hi, hs, B1, hT⟩
  cases hs
  refine IFB_dec (fun hlt => ?_) (fun hge => ⟨B1, ?_⟩)
  · have h1 : i < ls.length := by omega
    have h2 : i < ms.length := by omega
    refine (SH.start (fun _ => False) w1).drawB fun w2 B2 _ => ⟨⟨by omega, hlt⟩, ?_⟩
    have C2 := below_trans B1 B2
    obtain ⟨p1, rfl, c0, c1, c2⟩ := val_at (hl.grown C2) h1
    obtain ⟨p2, rfl, d0, d1, d2⟩ := val_at (hm.grown C2) h2
    refine ⟨⟨by omega, by omega⟩, _, by rw [Int.toNat_natCast]; exact c0, _, by rw [Int.toNat_natCast]; exact c1, _, by rw [Int.toNat_natCast]; exact c2, _, by rw [Int.toNat_natCast]; exact d0, _, by rw [Int.toNat_natCast]; exact d1, _, by rw [Int.toNat_natCast]; exact d2, ?_⟩
    rw [val_beq]
    refine IFB_not (IFB_dec (fun he => ?_) (fun he => ⟨C2, ?_⟩))
    · rw [wrap_succ (by omega)]
      refine ⟨⟨i + 1, by omega, rfl, C2, ?_⟩, ?_⟩
      · rw [List.take_succ_eq_append_getElem h1, List.take_succ_eq_append_getElem h2, hT, he]
      · simp only [Int.toNat_natCast]
        omega
    · congr 1
      rw [eq_comm, decide_eq_false_iff_not]
      rintro rfl
      exact he rfl
  · congr 1
    rw [eq_comm, decide_eq_true_eq]
    rw [List.take_of_length_le (by omega), List.take_of_length_le (by omega)] at hT
    exact hT
end
theorem NewB.bound {w w' : World} {bs : List UInt8} {a : Option Addr} {c : Nat} (h : NewB w w' bs a c) : bs.length ≤ 9223372036854775807 := by
  rcases h.row.2 with ⟨_, h, _⟩ | ⟨_, _, _, _, h1, h2, _⟩
  · omega
  · omega
/-- bytes with their check sum, one of them turned, are not bytes with their check sum -/
theorem turned_no {b : List UInt8} {i : Nat} {c d : UInt8} (hb : b = b.take (b.length - 4) ++ sum4 (crc (b.take (b.length - 4)))) (h5 : 5 ≤ b.length) (hi : b[i]? = some d) (hne : d ≠ c) : b.set i c ≠ (b.set i c).take ((b.set i c).length - 4) ++ sum4 (crc ((b.set i c).take ((b.set i c).length - 4))) := by
  intro h
  rw [List.length_set] at h
  obtain ⟨m, hm⟩ : ∃ m, m = b.length - 4 := ⟨_, rfl⟩
  rw [← hm] at hb h
  have hil : i < b.length := (List.getElem?_eq_some_iff.1 hi).1
  have hd1 : b.drop m = sum4 (crc (b.take m)) := by
    have := congrArg (List.drop m) hb
    rw [List.drop_left' (by rw [List.length_take]; omega)] at this
    exact this
  have hd2 : (b.set i c).drop m = sum4 (crc ((b.set i c).take m)) := by
    have := congrArg (List.drop m) h
    rw [List.drop_left' (by rw [List.length_take, List.length_set]; omega)] at this
    exact this
  by_cases hlt : i < m
  · have e1 : (b.set i c).drop m = b.drop m := by rw [List.drop_set_of_lt hlt]
    have e2 : (b.set i c).take m = (b.take m).set i c := by rw [List.take_set]
    rw [e1, e2, hd1] at hd2
    have hcrc := sum4_inj hd2
    have hg : (b.take m)[i]? = some d := by rw [List.getElem?_take, if_pos hlt]; exact hi
    exact crc_set hg hne hcrc.symm
  · have e2 : (b.set i c).take m = b.take m := by rw [List.take_set_of_le (by omega)]
    rw [e2, ← hd1] at hd2
    have g1 : (b.set i c)[i]? = some c := List.getElem?_set_self hil
    have g2 : ((b.set i c).drop m)[i - m]? = some c := by rw [List.getElem?_drop, show m + (i - m) = i by omega]; exact g1
    rw [hd2, List.getElem?_drop, show m + (i - m) = i by omega, hi] at g2
    exact hne (Option.some.inj g2)
end Go.Proofs.YtbkffpcgppecgaaGreat

/-
  A store into a known block.
-/
namespace Go.Dn
open Go.RowKit (Below)
section
variable {F : Nat → Prop} {w0 w : World} {H : List Ent}
theorem SH.chg (S : SH F w0 w H) (n : Nat) {b : Nat} {cs cs' : Array Value} {t : TypeId} (hn : H[n]? = some (b, cs, t)) {i : Nat} {v : Value} {k : World → Prop} (hi : i < cs.size) (hc : cs.setIfInBounds i v = cs')
    (hk : ∀ w', Keeps (· = b) w w' → SH F w0 w' (H.set n (b, cs', t)) → k w') : STO ⟨b, i, none⟩ v k w := by
  subst hc
  exact S.stoK n hn hi hk
end
end Go.Dn

/-
  Lists of numbers out of bytes: the document's way.
-/
namespace Go.Proofs.YtbkffpcgppecgaaGreat
open Go.Dn Go.Proofs
open Go.RowKit (Below)
set_option linter.unusedVariables false
set_option maxRecDepth 20000
/-- what the document's reading hands back -/
def LooseR (l : List UInt8) (n : Nat) (w w' : World) (v : Value) : Prop :=
  ∃ (ms : List Int) (a : Option Addr) (c : Nat), v = .slice a ms.length c ∧ NewI w w' ms a c ∧ (∀ x ∈ ms, I64 x) ∧ ms.length ≤ 100000 ∧ ∀ ls, IntIs l n ls → ms = ls
theorem LooseR.bad {l : List UInt8} {n : Nat} {w w' : World} (hb : Below w.heap.size w w') (h : ∀ ls, ¬ IntIs l n ls) : LooseR l n w w' (.slice none 0 0) :=
  ⟨[], none, 0, rfl, ⟨Row.nil _ _ _, by simp [rowB], hb⟩, by simp, by simp, fun ls hls => absurd hls (h ls)⟩
section
variable {w : World} {a : Option Addr} {c : Nat} {l : List UInt8}
theorem Tr.step2 {f n : Nat} {out : List Int} {at_ : Nat} (h : Tr l f n out at_) (hf : f ≤ 1) (hn : n ≤ 4096) (ho : out.length < n) {ls : List Int} (hls : IntIs l n ls) : ∃ many at1 nx x, out = ls.take out.length ∧ Step l f at_ ls out.length many at1 nx x := by
  obtain ⟨k, hk, ho', hr⟩ := h ls hls
  have hlen := hls.len
  have hkl : out.length = k := by rw [ho', List.length_take]; omega
  rw [← hkl] at ho' hr
  obtain ⟨many, at1, nx, x, hs⟩ := step_of hf hls.num (by omega) hr (by omega)
  exact ⟨many, at1, nx, x, ho', hs⟩
theorem ref_plainly_ok (hl : Rd w a (l.map byteV)) (hs : l.length ≤ 9223372036854775807) (h0 : 0 < l.length) {fm : Nat} (hfm : fm = (l.getD 0 0).toNat) (hf : fm ≤ 1) {n : Nat} (hn : n ≤ 4096) :
    Calls Tryz.prog f.ref06_plainly #[.slice a l.length c, .int .i64 (n : Int)] w (Ret fun v w' => LooseR l n w w' v) := by
  apply R.ref06_plainly_calls
  unfold R.ref06_plainly
  have tr0 : Tr l fm n [] 1 := by
    intro ls hls
    refine ⟨0, by omega, rfl, ?_⟩
    have := hls.enc
    rw [← hfm] at this
    rw [List.drop_zero]
    rcases (by omega : fm = 0 ∨ fm = 1) with rfl | rfl
    · rw [this]; simp [intsL, restL]
    · rw [this]; simp [intsL, restL]
  refine ⟨fun s w1 => ∃ (at_ : Nat) (out : List Int) (oa : Option Addr) (oc : Nat), s = [.slice oa out.length oc, .int .i64 (at_ : Int)] ∧ NewI w w1 out oa oc ∧ (∀ x ∈ out, I64 x) ∧ out.length ≤ 10000 ∧ at_ ≤ 9223372036854775807 ∧ Tr l fm n out at_, fun s _ => match s with
      | [.slice _ m _, _] => n - m
      | _ => 0, ⟨1, [], none, 0, rfl, NewI.nil w, by simp, by simp, by omega, tr0⟩, ?_⟩
  rintro oa _ oc _ w1 ⟨at_, out, _, _, hst, h1, hI, hol, hat9, hT⟩
  cases hst
  refine IFB_dec (fun hlt => ?_) (fun hge => ?_)
  case refine_2 =>
    refine ⟨out, oa, oc, rfl, h1, hI, by omega, fun ls hls => ?_⟩
    obtain ⟨k, hk, ho, hr⟩ := hT ls hls
    have := hls.len
    have hkl : out.length = k := by rw [ho, List.length_take]; omega
    rw [ho, List.take_of_length_le (by omega)]
  have holn : out.length < n := by omega
  obtain ⟨p, rfl, hcell⟩ := head_at (hl.grown h1.bel) h0
  have hb0 := (l.getD 0 0).toNat_lt
  have stay : (∀ ls, ¬ IntIs l n ls) → LooseR l n w w1 (.slice oa out.length oc) := fun h => ⟨out, oa, oc, rfl, h1, hI, by omega, fun ls hls => absurd hls (h ls)⟩
  refine ⟨fun s w3 => w3 = w1 ∧ ∃ (at1 many : Nat) (e : Int), s = [.int .i64 (at1 : Int), .int .u64 (many : Int), .int .i64 e] ∧ at1 ≤ 9223372036854775807 ∧ ((e ≠ 0 ∧ fm = 1 ∧ takeN l (at_ : Int) = none) ∨ (e = 0 ∧ at_ ≤ at1 ∧ many < 18446744073709551616 ∧ ((fm = 1 ∧ takeN l (at_ : Int) = some (many, at1)) ∨ (fm = 0 ∧ many = 1 ∧ at1 = at_)))), ?_, ?_⟩
  · refine ⟨⟨by omega, by omega⟩, _, hcell, IFB_eq (fun h1' => ?_) (fun hne => ?_)⟩
    · refine (ref_TakeNumber_ok (hl.grown h1.bel) hs (at_ : Int) (by omega)).mono ?_
      rintro _ w2 ⟨_, rfl, rfl, rfl⟩
      cases hx : takeN l (at_ : Int) with
      | none => exact ⟨_, _, _, rfl, rfl, 0, 0, 20, rfl, by omega, .inl ⟨by decide, by omega, rfl⟩⟩
      | some x =>
        have hb := takeN_bounds (n := x.1) (k := x.2) hx
        exact ⟨_, _, _, rfl, rfl, x.2, x.1, 0, rfl, by omega, .inr ⟨rfl, by omega, by omega, .inl ⟨by omega, rfl⟩⟩⟩
    · exact ⟨rfl, at_, 1, 0, rfl, by omega, .inr ⟨rfl, by omega, by omega, .inr ⟨by omega, rfl, rfl⟩⟩⟩
  rintro _ _ e w3 ⟨rfl, at1, many, _, hst, hat1, hcase⟩
  cases hst
  refine (ref_TakeSigned_ok (hl.grown h1.bel) hs (at1 : Int) (by omega)).mono ?_
  rintro _ w4 ⟨_, rfl, rfl, rfl⟩
  have key : ∀ ls, IntIs l n ls → ∃ nx x, out = ls.take out.length ∧ e = 0 ∧ takeN l (at1 : Int) = some (zigN x, nx) ∧ 0 < many ∧ out.length + many ≤ ls.length ∧ ls.take (out.length + many) = ls.take out.length ++ List.replicate many x ∧ l.drop nx = restL fm (ls.drop (out.length + many)) := by
    intro ls hls
    obtain ⟨m, a1, nx, x, ho, hs⟩ := hT.step2 hf hn holn hls
    rcases hcase with ⟨_, hf1, hno⟩ | ⟨he, _, _, ⟨hf1, hso⟩ | ⟨hf0, hm1, ha1⟩⟩
    · rw [hs.num hf1] at hno; cases hno
    · have := hs.num hf1
      rw [hso] at this
      obtain ⟨rfl, rfl⟩ := Prod.mk.injEq .. ▸ Option.some.inj this
      exact ⟨nx, x, ho, he, hs.sgn, hs.pos, hs.le, hs.take, hs.rest⟩
    · obtain ⟨q1, q2⟩ := hs.one hf0
      subst q1 q2 hm1 ha1
      exact ⟨nx, x, ho, he, hs.sgn, hs.pos, hs.le, hs.take, hs.rest⟩
  cases hy : takeN l (at1 : Int) with
  | none =>
    have hno : ∀ ls, ¬ IntIs l n ls := fun ls hls => by
      obtain ⟨nx, x, _, _, h, _⟩ := key ls hls
      rw [hy] at h; cases h
    exact ⟨_, _, _, rfl, IFB_ne (fun _ => stay hno) (fun _ => IFB_ne (fun _ => stay hno) (fun h => absurd h (by decide)))⟩
  | some y =>
  rw [sgn_some]
  have hyb := takeN_bounds (n := y.1) (k := y.2) hy
  have hyI := unzig_range hyb.1
  rw [wrap_u64_id (n := (n : Int)) (by omega) (by omega)]
  refine ⟨_, _, _, rfl, IFB_ne (fun hene => stay fun ls hls => ?_) (fun he0 => IFB_ne (fun h => absurd rfl h) (fun _ => IFB_dec (fun hbig => stay fun ls hls => ?_) (fun hsm => ?_)))⟩
  · obtain ⟨_, _, _, h, _⟩ := key ls hls
    exact hene h
  · obtain ⟨_, _, _, _, _, _, h, _⟩ := key ls hls
    have := hls.len
    omega
  have hmany : many ≤ n := by omega
  rw [wrap_i64 (n := (many : Int)) (by omega) (by omega)]
  refine ⟨fun s w5 => ∃ (j : Nat) (o2 : List Int) (oa : Option Addr) (oc : Nat), s = [.slice oa o2.length oc, .int .i64 (j : Int)] ∧ j ≤ many ∧ o2 = out ++ List.replicate j (unzig y.1) ∧ NewI w w5 o2 oa oc, fun s _ => match s with
      | [_, .int _ i] => many - i.toNat
      | _ => 0, ⟨0, out, oa, oc, rfl, by omega, by simp, h1⟩, ?_⟩
  rintro oa2 _ oc2 _ w5 ⟨j, o2, _, _, hst, hj, ho2, h5⟩
  cases hst
  have ho2l : o2.length = out.length + j := by rw [ho2]; simp
  have hI2 : ∀ x ∈ o2, I64 x := by
    intro x hx
    rw [ho2] at hx
    rcases List.mem_append.1 hx with h | h
    · exact hI x h
    · rw [(List.mem_replicate.1 h).2]; exact hyI
  refine IFB_dec (fun hlt2 => ?_) (fun hge2 => ?_)
  · refine (SH.start (fun _ => False) w5).newB fun b6 w6 hb6 B6 S6 => append_i64 (h5.grown B6) (by omega) (S6.get 0 rfl) fun a7 c7 w7 h7 => ⟨_, _, _, rfl, ?_⟩
    rw [wrap_succ (by omega)]
    refine ⟨⟨j + 1, _, a7, c7, rfl, by omega, ?_, h7⟩, ?_⟩
    · rw [ho2, List.replicate_succ', List.append_assoc]
    · simp only [Int.toNat_natCast]
      omega
  · have hjm : j = many := by omega
    subst hjm
    refine IFB_eq (fun hm0 => ?_) (fun hm0 => ?_)
    · refine ⟨o2, oa2, oc2, rfl, h5, hI2, by omega, fun ls hls => ?_⟩
      obtain ⟨_, _, _, _, _, h, _⟩ := key ls hls
      omega
    · refine ⟨⟨y.2, o2, oa2, oc2, rfl, h5, hI2, by omega, by omega, ?_⟩, ?_⟩
      · intro ls hls
        obtain ⟨nx, x, g1, _, g3, g4, g5, g7, g8⟩ := key ls hls
        rw [hy] at g3
        have g3' := Option.some.inj g3
        have ex : unzig y.1 = x := by rw [g3']; exact unzig_zig
        have enx : y.2 = nx := by rw [g3']
        refine ⟨out.length + j, g5, ?_, by rw [enx]; exact g8⟩
        rw [ho2, g7, ← g1, ex]
      · show n - o2.length < n - out.length
        omega
end
end Go.Proofs.YtbkffpcgppecgaaGreat

/-
  Lists of numbers out of bytes: forms 2 and 3, Decode; the document's way.
-/
namespace Go.Proofs.YtbkffpcgppecgaaGreat
open Go.Dn Go.Proofs
open Go.RowKit (Below)
set_option linter.unusedVariables false
set_option maxRecDepth 20000
theorem unzig_odd {s : Nat} (hs : s < 18446744073709551616) (h : s % 2 = 1) : IntKind.i64.wrap (IntKind.i64.wrap (0 - IntKind.i64.wrap (IntKind.u64.wrap (Int.tdiv (s : Int) 2))) - 1) = unzig s := by
  have e2 : IntKind.u64.wrap (Int.tdiv (s : Int) 2) = ((s / 2 : Nat) : Int) := by rw [Int.tdiv_eq_ediv_of_nonneg (by omega), wrap_u64_id (by omega) (by omega)]; omega
  unfold unzig
  rw [if_pos h, e2, wrap_i64 (n := ((s / 2 : Nat) : Int)) (by omega) (by omega), wrap_i64 (n := 0 - ((s / 2 : Nat) : Int)) (by omega) (by omega), wrap_i64 (by omega) (by omega)]
  omega
theorem unzig_even {s : Nat} (hs : s < 18446744073709551616) (h : ¬ s % 2 = 1) : IntKind.i64.wrap (IntKind.u64.wrap (Int.tdiv (s : Int) 2)) = unzig s := by
  have e2 : IntKind.u64.wrap (Int.tdiv (s : Int) 2) = ((s / 2 : Nat) : Int) := by rw [Int.tdiv_eq_ediv_of_nonneg (by omega), wrap_u64_id (by omega) (by omega)]; omega
  unfold unzig
  rw [if_neg h, e2, wrap_i64 (by omega) (by omega)]
section
variable {w : World} {a : Option Addr} {c : Nat} {l : List UInt8}
theorem ref_widely_ok (hl : Rd w a (l.map byteV)) (hc : l.length ≤ c) (hs : l.length ≤ 9223372036854775807) (h0 : 0 < l.length) {fm : Nat} (hfm : fm = (l.getD 0 0).toNat) (hf : fm = 2 ∨ fm = 3) {n : Nat} (hn : n ≤ 4096) :
    Calls Tryz.prog f.ref06_widely #[.slice a l.length c, .int .i64 (n : Int)] w (Ret fun v w' => LooseR l n w w' v) := by
  apply R.ref06_widely_calls
  unfold R.ref06_widely
  refine (ref_TakeSigned_ok hl hs 1 (by decide)).mono ?_
  rintro _ w ⟨_, rfl, rfl, rfl⟩
  have zero : n = 0 → LooseR l n w w (.slice none 0 0) := fun h => ⟨[], none, 0, rfl, NewI.nil w, by simp, by simp, fun ls hls => (List.eq_nil_of_length_eq_zero (by rw [hls.len, h])).symm⟩
  cases hy : takeN l 1 with
  | none =>
    refine ⟨_, _, _, rfl, IFB_eq (fun h => zero (by omega)) (fun hnz => IFB_ne (fun _ => LooseR.bad (.refl _ _) fun ls hls => ?_) (fun h => absurd h (by decide)))⟩
    obtain ⟨k1, k2, k3, _⟩ := tight_key hls hfm hf (by omega)
    have := (packed_reads k3 k1 k2).1
    rw [hy] at this; cases this
  | some y =>
  rw [sgn_some]
  have hyb := takeN_bounds (n := y.1) (k := y.2) hy
  have hyI : I64 (unzig y.1) := unzig_range hyb.1
  refine ⟨_, _, _, rfl, IFB_eq (fun h => zero (by omega)) (fun hnz => IFB_ne (fun h => absurd rfl h) (fun _ => IFB_dec (fun hbig => LooseR.bad (.refl _ _) fun ls hls => ?_) (fun hlt => ?_)))⟩
  · obtain ⟨k1, k2, k3, _⟩ := tight_key hls hfm hf (by omega)
    obtain ⟨q1, q2, _⟩ := packed_reads k3 k1 k2
    rw [hy] at q1
    have := Option.some.inj q1
    have : y.2 = 1 + (sigL (firstI fm ls)).length := by rw [this]
    omega
  have hn0 : 0 < n := by omega
  have hj : y.2 < l.length := by omega
  have hg : l.getD y.2 0 = l[y.2] := getD_get hj
  have hb0 := (l.getD 0 0).toNat_lt
  have hbt := (l[y.2]).toNat_lt
  have key0 : ∀ (m : Nat), m = (if fm = 2 then n - 1 else n) → m ≤ 4096 → ∀ ls, IntIs l n ls → unArg (m : Int) (l[y.2].toNat : Int) ∧ unOk (l.drop (y.2 + 1)) m l[y.2].toNat ∧ unpackL (l.drop (y.2 + 1)) m l[y.2].toNat = packI fm ls ∧ unzig y.1 = firstI fm ls := by
    intro m hm hmle ls hls
    obtain ⟨k1, k2, k3, k4⟩ := tight_key hls hfm hf hn0
    obtain ⟨q1, q2, q3, q4⟩ := packed_reads k3 k1 k2
    rw [hy] at q1
    have hyy := Option.some.inj q1
    have hy2 : y.2 = 1 + (sigL (firstI fm ls)).length := by rw [hyy]
    have hy1 : y.1 = zigN (firstI fm ls) := by rw [hyy]
    rw [← hy2, hg] at q3
    rw [← hy2] at q4
    rw [← hm] at k4
    obtain ⟨u1, u2, u3⟩ := unOk_pack k4 hmle k2
    rw [q3, q4]
    exact ⟨u1, u2, u3, by rw [hy1]; exact unzig_zig⟩
  obtain ⟨p, rfl, hcell⟩ := head_at hl h0
  refine ⟨⟨by omega, by omega⟩, _, hcell, IFB_eq (fun h3 => ?_) (fun h3 => ?_)⟩
  · have h3' : fm = 3 := by omega
    have h2' : ¬ fm = 2 := by omega
    refine (SH.start (fun _ => False) w).drawB fun w2 B2 _ => ?_
    rw [wrap_i64 (n := (y.2 : Int) + 1) (by omega) (by omega), show ((y.2 : Int) + 1).toNat = y.2 + 1 by omega]
    refine ⟨⟨by omega, by omega, by omega⟩, ⟨by omega, by omega⟩, ?_⟩
    have hdr := drop_rd (q := y.2 + 1) (hl.grown B2) hc
    obtain ⟨p', hp', hcellj⟩ := byte_at (hl.grown B2) hj
    cases hp'
    refine ⟨_, by rw [Int.toNat_natCast]; exact hcellj, ?_⟩
    rw [wrap_i64 (n := (l[y.2].toNat : Int)) (by omega) (by omega), ← List.length_drop (i := y.2 + 1) (l := l)]
    refine (ref_Unpack_ok hdr (n : Int) (l[y.2].toNat : Int) (by rw [List.length_drop]; omega)).mono ?_
    rintro _ w3 ⟨_, rfl, xs, xa, xc, e, rfl, hRx, B3, hxn, hcase⟩
    rw [Int.toNat_natCast, Int.toNat_natCast] at hcase
    have C3 := below_trans B2 B3
    have key := key0 n (by rw [if_neg h2']) hn
    refine ⟨_, _, _, _, rfl, ?_⟩
    rcases hcase with ⟨ha, hu, hxs, rfl⟩ | ⟨hno, rfl, he⟩
    case inr =>
      refine IFB_ne (fun _ => LooseR.bad C3 fun ls hls => ?_) (fun h => by rw [he] at h; split at h <;> cases h)
      obtain ⟨u1, u2, _⟩ := key ls hls
      exact hno ⟨u1, u2⟩
    refine IFB_ne (fun h => absurd rfl h) (fun _ => ?_)
    have hxl : xs.length = n := by rw [hxs, unpackL_len]
    refine ⟨fun s w4 => ∃ (i : Nat) (out : List Int) (oa : Option Addr) (oc : Nat), s = [.slice oa out.length oc, .int .i64 (i : Int)] ∧ i ≤ n ∧ out.length = i ∧ (∀ x ∈ out, I64 x) ∧ NewI w3 w4 out oa oc ∧ (∀ ls, IntIs l n ls → out = ls.take i), fun s _ => match s with
        | [_, .int _ i] => n - i.toNat
        | _ => 0, ⟨0, [], none, 0, rfl, by omega, rfl, by simp, NewI.nil w3, fun _ _ => rfl⟩, ?_⟩
    rintro oa _ oc _ w4 ⟨i, out, _, _, hst, hi, hol, hoI, h4, hT⟩
    cases hst
    refine IFB_dec (fun hlt2 => ⟨⟨by omega, by omega⟩, ?_⟩) (fun hge => ?_)
    · have hix : i < xs.length := by omega
      obtain ⟨p2, rfl, hcx⟩ := num_at (hRx.grown h4.bel) hix
      refine ⟨_, by rw [Int.toNat_natCast]; exact hcx, (SH.start (fun _ => False) w4).newB fun b5 w5 hb5 B5 S5 => append_i64 (h4.grown B5) (by omega) (S5.get 0 rfl) fun a6 c6 w6 h6 => ⟨_, _, _, rfl, ?_⟩⟩
      rw [wrap_succ (by omega)]
      refine ⟨⟨i + 1, _, a6, c6, rfl, by omega, by simp [hol], ?_, h6, fun ls hls => ?_⟩, ?_⟩
      · intro x hx
        rcases List.mem_append.1 hx with h | h
        · exact hoI x h
        · rw [List.mem_singleton.1 h]; exact wrap_I64 _
      · obtain ⟨_, _, u3, u4⟩ := key ls hls
        have hxs2 : xs = frameN ls := by rw [hxs, u3]; simp [packI, h2']
        have hi1 : i < ls.length := by have := hls.len; omega
        have hmem := List.getElem_mem hi1
        have hfm' : firstI fm ls = minL ls := by simp [firstI, h2']
        have hxi := get_of hxs2 (frameN_get hi1) hix
        have hval : IntKind.i64.wrap (IntKind.u64.wrap (IntKind.u64.wrap (minL ls) + ((ls[i] - minL ls).toNat : Int))) = ls[i] := frame_back (hls.num _ hmem) (minTo_I64 hls.num (by omega) _) (minL_le hmem)
        rw [hT ls hls, List.take_succ_eq_append_getElem hi1, u4, hfm', hxi, hval]
      · simp only [Int.toNat_natCast]
        omega
    · refine ⟨out, oa, oc, rfl, ⟨h4.row, fun k hk => Nat.le_trans C3.size (h4.new k hk), below_trans C3 h4.bel⟩, hoI, by omega, fun ls hls => ?_⟩
      rw [hT ls hls, List.take_of_length_le (by have := hls.len; omega)]
  · have h2' : fm = 2 := by omega
    refine (SH.start (fun _ => False) w).drawB fun w2 B2 _ => ?_
    rw [wrap_i64 (n := (y.2 : Int) + 1) (by omega) (by omega), show ((y.2 : Int) + 1).toNat = y.2 + 1 by omega]
    refine ⟨⟨by omega, by omega, by omega⟩, ⟨by omega, by omega⟩, ?_⟩
    have hdr := drop_rd (q := y.2 + 1) (hl.grown B2) hc
    obtain ⟨p', hp', hcellj⟩ := byte_at (hl.grown B2) hj
    cases hp'
    refine ⟨_, by rw [Int.toNat_natCast]; exact hcellj, ?_⟩
    rw [wrap_i64 (n := (l[y.2].toNat : Int)) (by omega) (by omega), ← List.length_drop (i := y.2 + 1) (l := l), wrap_i64 (n := (n : Int) - 1) (by omega) (by omega)]
    obtain ⟨m, hm⟩ : ∃ m, m = n - 1 := ⟨_, rfl⟩
    have em : (n : Int) - 1 = (m : Int) := by omega
    rw [em]
    refine (ref_Unpack_ok hdr (m : Int) (l[y.2].toNat : Int) (by rw [List.length_drop]; omega)).mono ?_
    rintro _ w3 ⟨_, rfl, xs, xa, xc, e, rfl, hRx, B3, hxn, hcase⟩
    rw [Int.toNat_natCast, Int.toNat_natCast] at hcase
    have C3 := below_trans B2 B3
    have key := key0 m (by rw [if_pos h2']; exact hm) (by omega)
    refine ⟨_, _, _, _, rfl, ?_⟩
    rcases hcase with ⟨ha, hu, hxs, rfl⟩ | ⟨hno, rfl, he⟩
    case inr =>
      refine IFB_ne (fun _ => LooseR.bad C3 fun ls hls => ?_) (fun h => by rw [he] at h; split at h <;> cases h)
      obtain ⟨u1, u2, _⟩ := key ls hls
      exact hno ⟨u1, u2⟩
    refine IFB_ne (fun h => absurd rfl h) (fun _ => ?_)
    have hxl : xs.length = m := by rw [hxs, unpackL_len]
    have hx64 : ∀ x ∈ xs, x < 18446744073709551616 := fun x hx => by
      rw [hxs] at hx
      have := unpackL_lt _ _ _ x hx
      have h64 : l[y.2].toNat ≤ 64 := by have := ha.2.2.2; omega
      exact Nat.lt_of_lt_of_le this (Nat.pow_le_pow_right (n := 2) (by omega) h64)
    refine (SH.start (fun _ => False) w3).newB fun b9 w9 hb9 B9 S9 => ?_
    have h9 : NewI w3 w9 [unzig y.1] (some ⟨b9, 0, none⟩) 1 := ⟨⟨rfl, .inr ⟨b9, _, rfl, S9.get 0 rfl, by simp, by omega, rfl, by simp [i64V]⟩⟩, fun k hk => by cases hk; exact hb9, B9⟩
    refine ⟨fun s w4 => ∃ (i : Nat) (fi : Int) (out : List Int) (oa : Option Addr) (oc : Nat), s = [.int .i64 fi, .slice oa out.length oc, .int .i64 (i : Int)] ∧ i ≤ m ∧ out.length = 1 + i ∧ I64 fi ∧ (∀ x ∈ out, I64 x) ∧ NewI w3 w4 out oa oc ∧ (∀ ls, IntIs l n ls → out = ls.take (i + 1) ∧ fi = ls.getD i 0), fun s _ => match s with
        | [_, _, .int _ i] => m - i.toNat
        | _ => 0, ⟨0, unzig y.1, [unzig y.1], _, _, rfl, by omega, rfl, hyI, fun x hx => (by rw [List.mem_singleton.1 hx]; exact hyI), h9, fun ls hls => ?_⟩, ?_⟩
    · obtain ⟨_, _, _, u4⟩ := key ls hls
      have hp : 0 < ls.length := by have := hls.len; omega
      rw [u4]
      unfold firstI
      rw [if_pos h2']
      cases ls with
      | nil => simp at hp
      | cons x r => exact ⟨rfl, rfl⟩
    rintro fi oa _ oc _ w4 ⟨i, _, out, _, _, hst, hi, hol, hfi, hoI, h4, hT⟩
    cases hst
    refine IFB_dec (fun hlt2 => ⟨⟨by omega, by omega⟩, ?_⟩) (fun hge => ?_)
    · have hix : i < xs.length := by omega
      have hu64 := hx64 _ (List.getElem_mem hix)
      obtain ⟨p2, rfl, hcx⟩ := num_at (hRx.grown h4.bel) hix
      refine ⟨_, by rw [Int.toNat_natCast]; exact hcx, ⟨by omega, by omega⟩, _, by rw [Int.toNat_natCast]; exact hcx, ?_⟩
      have em2 : Int.tmod (xs[i] : Int) 2 = ((xs[i] % 2 : Nat) : Int) := by rw [Int.tmod_eq_emod_of_nonneg (by omega)]; omega
      rw [em2, wrap_succ (by omega)]
      have mes : m - ((i + 1 : Nat) : Int).toNat < m - ((i : Nat) : Int).toNat := by
        simp only [Int.toNat_natCast]
        omega
      have fin : ∀ {w6 : World} {a6 : Option Addr} {c6 : Nat}, NewI w3 w6 (out ++ [IntKind.i64.wrap (fi + unzig xs[i])]) a6 c6 →
          (∃ (i_1 : Nat) (fi_1 : Int) (out_1 : List Int) (oa : Option Addr) (oc : Nat), [Value.int .i64 (IntKind.i64.wrap (fi + unzig xs[i])), .slice a6 (out ++ [IntKind.i64.wrap (fi + unzig xs[i])]).length c6, .int .i64 ((i + 1 : Nat) : Int)] = [.int .i64 fi_1, .slice oa out_1.length oc, .int .i64 (i_1 : Int)] ∧ i_1 ≤ m ∧ out_1.length = 1 + i_1 ∧ I64 fi_1 ∧ (∀ x ∈ out_1, I64 x) ∧ NewI w3 w6 out_1 oa oc ∧ (∀ ls, IntIs l n ls → out_1 = ls.take (i_1 + 1) ∧ fi_1 = ls.getD i_1 0)) ∧ m - ((i + 1 : Nat) : Int).toNat < m - ((i : Nat) : Int).toNat := by
        intro w6 a6 c6 h6
        refine ⟨⟨i + 1, _, _, a6, c6, rfl, by omega, by simp [hol]; omega, wrap_I64 _, ?_, h6, fun ls hls => ?_⟩, mes⟩
        · intro x hx
          rcases List.mem_append.1 hx with h | h
          · exact hoI x h
          · rw [List.mem_singleton.1 h]; exact wrap_I64 _
        · obtain ⟨_, _, u3, _⟩ := key ls hls
          obtain ⟨t1, t2⟩ := hT ls hls
          have hxs2 : xs = stepsN ls := by rw [hxs, u3]; simp [packI, h2']
          have hi1 : i + 1 < ls.length := by have := hls.len; omega
          have hxi := get_of hxs2 (stepsN_get hi1) hix
          have hval : IntKind.i64.wrap (fi + unzig xs[i]) = ls[i + 1] := by
            rw [hxi, unzig_zig, t2, getD_int (by omega)]
            exact wrap_back (hls.num _ (List.getElem_mem _)) (hls.num _ (List.getElem_mem _))
          rw [hval, t1, List.take_succ_eq_append_getElem hi1, getD_int hi1]
          exact ⟨rfl, rfl⟩
      refine IFB_eq (fun hodd => ?_) (fun hodd => ?_)
      · rw [unzig_odd hu64 (by omega)]
        exact (SH.start (fun _ => False) w4).newB fun b5 w5 hb5 B5 S5 => append_i64 (h4.grown B5) (by omega) (S5.get 0 rfl) fun a6 c6 w6 h6 => ⟨_, _, _, rfl, fin h6⟩
      · rw [unzig_even hu64 (by omega)]
        exact (SH.start (fun _ => False) w4).newB fun b5 w5 hb5 B5 S5 => append_i64 (h4.grown B5) (by omega) (S5.get 0 rfl) fun a6 c6 w6 h6 => ⟨_, _, _, rfl, fin h6⟩
    · refine ⟨out, oa, oc, rfl, ⟨h4.row, fun k hk => Nat.le_trans C3.size (h4.new k hk), below_trans C3 h4.bel⟩, hoI, by omega, fun ls hls => ?_⟩
      rw [(hT ls hls).1, List.take_of_length_le (by have := hls.len; omega)]
theorem ref_ints_Decode_ok (hl : Rd w a (l.map byteV)) (hc : l.length ≤ c) (hs : l.length ≤ 9223372036854775807) (n : Int) :
    Calls Tryz.prog f.ref06_Decode #[.slice a l.length c, .int .i64 n] w (Ret fun v w' => IDecV l n w w' v) := by
  apply R.ref06_Decode_calls
  unfold R.ref06_Decode
  refine IFB_dec (fun h => IDecV.arg (.refl _ _) (by unfold decArg; omega)) (fun h1 => IFB_dec (fun h => IDecV.arg (.refl _ _) (by unfold decArg; omega)) (fun h2 => ?_))
  have harg : decArg n := ⟨by omega, by omega⟩
  obtain ⟨n, rfl⟩ : ∃ m : Nat, n = (m : Int) := ⟨n.toNat, by omega⟩
  have hn : n ≤ 4096 := by omega
  refine IFB_eq (fun h => IDecV.bad (.refl _ _) harg fun ms hm => by have := hm.2; omega) (fun hne => ?_)
  have h0 : 0 < l.length := by omega
  obtain ⟨p, rfl, hcell⟩ := head_at hl h0
  have hb0 := (l.getD 0 0).toNat_lt
  refine ⟨⟨by omega, by omega⟩, _, hcell, IFB_dec (fun h => IDecV.bad (.refl _ _) harg fun ms hm => by have := hm.1.form; omega) (fun hle => ?_)⟩
  obtain ⟨fm, hfm⟩ : ∃ fm, fm = (l.getD 0 0).toNat := ⟨_, rfl⟩
  rw [← hfm] at hcell hle
  refine ⟨fun s w3 => ∃ (ms : List Int) (a' : Option Addr) (c' : Nat), s = [.slice a' ms.length c'] ∧ NewI w w3 ms a' c' ∧ (∀ x ∈ ms, I64 x) ∧ ms.length ≤ 100000 ∧ ∀ ls, IntIs l n ls → ms = ls, ?_, ?_⟩
  · refine ⟨⟨by omega, by omega⟩, _, hcell, IFB_dec (fun h => ?_) (fun h => ?_)⟩
    · refine (ref_plainly_ok hl hs h0 hfm (by omega) hn).mono ?_
      rintro _ w1 ⟨_, rfl, ms, a1, c1, rfl, q⟩
      exact ⟨_, _, _, rfl, ms, a1, c1, rfl, q⟩
    · refine (ref_widely_ok hl hc hs h0 hfm (by omega) hn).mono ?_
      rintro _ w1 ⟨_, rfl, ms, a1, c1, rfl, q⟩
      exact ⟨_, _, _, rfl, ms, a1, c1, rfl, q⟩
  rintro a3 _ c3 w3 ⟨ms, _, _, hst, h3, hI3, hl3, hall⟩
  cases hst
  refine IFB_ne (fun hlen => IDecV.bad h3.bel harg fun ls hls => ?_) (fun hlen => ?_)
  · rw [Int.toNat_natCast] at hls
    have := hall ls hls.1
    have := hls.1.len
    subst_vars
    omega
  have hl4 : ms.length ≤ 4096 := by omega
  obtain ⟨p', hp', hcell3⟩ := head_at (hl.grown h3.bel) h0
  cases hp'
  rw [← hfm] at hcell3
  refine ⟨⟨by omega, by omega⟩, _, hcell3, ?_⟩
  rw [wrap_i64 (by omega) (by omega)]
  refine (ref_ints_Encode_ok (fm : Int) h3.row.rd hI3).mono ?_
  rintro _ w4 ⟨_, rfl, hE⟩
  obtain ⟨a4, c4, rfl, h4⟩ := IntsV.good (by omega) hl4 hE
  have C4 := below_trans h3.bel h4.bel
  refine ⟨_, _, _, _, rfl, string_of_bytes tbytes (l := intsL fm ms) rfl h4.rd ⟨_, rfl, string_of_bytes tbytes rfl (hl.grown C4) ⟨_, rfl, ?_⟩⟩⟩
  rw [bytesEq_iff]
  refine IFB_not (IFB_dec (fun he => ?_) (fun he => IDecV.bad C4 harg fun ls hls => he ?_))
  · have he' : intsL fm ms = l := by have := congrArg bl he; rwa [bl_sof, bl_sof] at this
    refine ⟨ms, a3, c3, 0, rfl, h3.row.rd.grown h4.bel, C4, hl4, hI3, .inr (.inl ⟨harg, ?_, h0, ?_, rfl⟩)⟩
    · rw [Int.toNat_natCast]
      exact ⟨by omega, hI3, by omega, by rw [← hfm]; exact he'.symm⟩
    · intro ls hls
      rw [Int.toNat_natCast] at hls
      exact (hall ls hls).symm
  · rw [Int.toNat_natCast] at hls
    have h1 := hall ls hls.1
    have h2 := hls.1.enc
    rw [← hfm] at h2
    rw [h1, ← h2]
end
end Go.Proofs.YtbkffpcgppecgaaGreat

/-
  Values out of bytes: the document's way; the law ChunkReads.
-/
namespace Go.Proofs.YtbkffpcgppecgaaGreat
open Go.Dn Go.Proofs
open Go.RowKit (Below)
set_option linter.unusedVariables false
set_option maxRecDepth 20000
def zerosN (bits : List Nat) : Nat := bits.countP fun b => decide (b = 0)
theorem zeros_take {bits : List Nat} {i : Nat} (hi : i < bits.length) : zerosN (bits.take (i + 1)) = zerosN (bits.take i) + if bits[i] = 0 then 1 else 0 := by
  unfold zerosN
  rw [List.take_succ_eq_append_getElem hi, List.countP_append]
  by_cases h : bits[i] = 0 <;> simp [h]
theorem zeros_le {bits : List Nat} (i : Nat) : zerosN (bits.take i) ≤ zerosN bits := by
  unfold zerosN
  exact (List.take_sublist i bits).countP_le
theorem zeros_bits (ls : List Val) : zerosN (bitsN ls) = (fullL ls).length := by
  induction ls with
  | nil => rfl
  | cons v ls ih =>
    unfold zerosN bitsN fullL at ih ⊢
    by_cases h : v.1 = 0
    · simp [h] at ih ⊢; exact ih
    · simp [h] at ih ⊢; omega
/-- what filled hands back -/
def FillV (kind : Int) (bits : List Nat) (l : List UInt8) (w w' : World) (v : Value) : Prop :=
  ∃ (vs : List Val) (a : Option Addr) (c : Nat) (ok : Bool), v = .tuple #[.slice a vs.length c, .bool ok] ∧ Rd w' a (valsL vs) ∧ Below w.heap.size w w' ∧ vs.length ≤ 4096 ∧ (∀ v ∈ vs, ValOk v) ∧
    ∀ ls, Good1 kind ls → bits = bitsN ls → (nullsN ls < ls.length → OthIs kind ls l) → (¬ nullsN ls < ls.length → l = []) → ok = true ∧ vs = ls
theorem FillV.bad {kind : Int} {bits : List Nat} {l : List UInt8} {w w' : World} (hb : Below w.heap.size w w') (h : ∀ ls, Good1 kind ls → bits = bitsN ls → (nullsN ls < ls.length → OthIs kind ls l) → (¬ nullsN ls < ls.length → l = []) → False) : FillV kind bits l w w' (.tuple #[.slice none 0 0, .bool false]) :=
  ⟨[], none, 0, false, rfl, Rd.nil _ _, hb, by simp, by simp, fun ls h1 h2 h3 h4 => (h ls h1 h2 h3 h4).elim⟩
section
variable {w : World} {ab a : Option Addr} {cb c : Nat} {bits : List Nat} {l : List UInt8}
theorem ref08_filled_ok (kind : Int) (hb : Rd w ab (bits.map u64V)) (hl : Rd w a (l.map byteV)) (hc : l.length ≤ c) (hs : l.length ≤ 9223372036854775807) (hbl : bits.length ≤ 1024) {many : Nat} (hmany : many = zerosN bits) :
    Calls Tryz.prog f.ref08_filled #[.int .i64 kind, .slice ab bits.length cb, .int .i64 (many : Int), .slice a l.length c] w (Ret fun v w' => FillV kind bits l w w' v) := by
  apply R.ref08_filled_calls
  unfold R.ref08_filled
  have hmle : many ≤ bits.length := by rw [hmany]; exact List.countP_le_length
  have cnt : ∀ ls, bits = bitsN ls → (fullL ls).length = many ∧ ls.length = bits.length ∧ (nullsN ls < ls.length ↔ 0 < many) := by
    rintro ls rfl
    have h1 := zeros_bits ls
    have h2 := nulls_full' ls
    refine ⟨by rw [hmany, h1], by simp [bitsN], by omega⟩
  refine ⟨fun s w4 => ∃ (ns : List Int) (na : Option Addr) (nc : Nat) (ss : List ByteArray) (sa : Option Addr) (sc : Nat) (e : Int), s = [.slice na ns.length nc, .slice sa ss.length sc, .int .i64 e] ∧ Rd w4 na (ns.map i64V) ∧ Rd w4 sa (ss.map Value.string) ∧ Below w.heap.size w w4 ∧ (∀ x ∈ ns, I64 x) ∧
      (e = 0 → (kind = 3 → ss.length = many) ∧ (kind ≠ 3 → ns.length = many)) ∧
      (∀ ls, Good1 kind ls → bits = bitsN ls → (nullsN ls < ls.length → OthIs kind ls l) → (¬ nullsN ls < ls.length → l = []) → e = 0 ∧ (kind = 3 → ss = textsL ls) ∧ (kind ≠ 3 → ns = numsL ls)), ?_, ?_⟩
  · refine ⟨fun s w1 => ∃ t : Bool, s = [.bool t] ∧ w1 = w ∧ (t = true ↔ 0 < many ∧ kind = 3), ?_, ?_⟩
    · refine IFB_dec (fun h => ⟨_, rfl, rfl, by simp; omega⟩) (fun h => ⟨_, rfl, rfl, by simp; omega⟩)
    rintro _ w1 ⟨t, hst, rfl, ht⟩
    cases hst
    refine IFB_of (fun h => ?_) (fun h => ?_)
    · obtain ⟨hm0, h3⟩ := ht.1 h
      refine (ref_Decode_ok hl hc hs (many : Int)).mono ?_
      rintro _ w2 ⟨_, rfl, ss, a2, c2, e2, rfl, R2, B2, l2, q2⟩
      have harg : decArg (many : Int) := ⟨by omega, by omega⟩
      rw [Int.toNat_natCast] at q2
      refine ⟨_, _, _, _, rfl, [], none, 0, ss, a2, c2, e2, rfl, Rd.nil _ _, R2, B2, by simp, fun he => ⟨fun _ => ?_, fun h => absurd h3 h⟩, fun ls hg hbits ho hz => ?_⟩
      · rcases q2 with ⟨k1, _⟩ | ⟨_, k2, _, _⟩ | ⟨_, _, _, k4⟩
        · exact absurd harg k1
        · exact k2.len
        · rw [he] at k4; cases k4
      · obtain ⟨g1, g2, g3⟩ := cnt ls hbits
        subst h3
        obtain ⟨d1, d2⟩ := oth_texts hg (ho (g3.2 hm0))
        have hft := full_texts hg rfl
        have htl : (textsL ls).length = many := by rw [← g1, hft, List.length_map]
        rw [htl] at d1
        rcases q2 with ⟨k1, _⟩ | ⟨_, k2, k3, _⟩ | ⟨_, k2, _⟩
        · exact absurd harg k1
        · exact ⟨k3, fun _ => k2.one d1, fun h => absurd rfl h⟩
        · exact absurd ⟨d1, d2⟩ (k2 _)
    · have hno : ¬ (0 < many ∧ kind = 3) := fun hh => by rw [ht.2 hh] at h; cases h
      refine IFB_dec (fun hm => ?_) (fun hm => IFB_dec (fun hlp => FillV.bad (.refl _ _) fun ls hg hbits ho hz => ?_) (fun hlp => ?_))
      · have h3 : kind ≠ 3 := fun hk => hno ⟨by omega, hk⟩
        refine (ref_ints_Decode_ok hl hc hs (many : Int)).mono ?_
        rintro _ w2 ⟨_, rfl, ns, a2, c2, e2, rfl, R2, B2, l2, hI, q2⟩
        have harg : decArg (many : Int) := ⟨by omega, by omega⟩
        rw [Int.toNat_natCast] at q2
        refine ⟨_, _, _, _, rfl, ns, a2, c2, [], none, 0, e2, rfl, R2, Rd.nil _ _, B2, hI, fun he => ⟨fun h => absurd h h3, fun _ => ?_⟩, fun ls hg hbits ho hz => ?_⟩
        · rcases q2 with ⟨k1, _⟩ | ⟨_, k2, _, _, _⟩ | ⟨_, _, _, k4⟩
          · exact absurd harg k1
          · exact k2.len
          · rw [he] at k4; cases k4
        · obtain ⟨g1, g2, g3⟩ := cnt ls hbits
          obtain ⟨d1, d2⟩ := oth_nums hg h3 (ho (g3.2 (by omega)))
          have hft := full_nums hg h3
          have htl : (numsL ls).length = many := by rw [← g1, hft, List.length_map]
          rw [htl] at d1
          rcases q2 with ⟨k1, _⟩ | ⟨_, _, _, k2, k3⟩ | ⟨_, k2, _⟩
          · exact absurd harg k1
          · exact ⟨k3, fun h => absurd h h3, fun _ => (k2 _ d1).symm⟩
          · exact absurd ⟨d1, d2⟩ (k2 _)
      · obtain ⟨g1, g2, g3⟩ := cnt ls hbits
        have := hz (fun h => by have := g3.1 h; omega)
        subst this
        simp at hlp
      · have hm0 : many = 0 := by omega
        refine ⟨[], none, 0, [], none, 0, 0, rfl, Rd.nil _ _, Rd.nil _ _, .refl _ _, by simp, fun _ => ⟨fun _ => by simp [hm0], fun _ => by simp [hm0]⟩, fun ls hg hbits ho hz => ?_⟩
        obtain ⟨g1, g2, g3⟩ := cnt ls hbits
        have hf : fullL ls = [] := List.eq_nil_of_length_eq_zero (by omega)
        exact ⟨rfl, fun _ => by simp [textsL, hf], fun _ => by simp [numsL, hf]⟩
  rintro na _ nc sa _ sc e w4 ⟨ns, _, _, ss, _, _, _, hst, hRn, hRs, B4, hI, hlens, hP⟩
  cases hst
  refine IFB_ne (fun h => FillV.bad B4 fun ls h1 h2 h3 h4 => h (hP ls h1 h2 h3 h4).1) (fun he => ?_)
  obtain ⟨len3, lenN'⟩ := hlens he
  refine ⟨fun s w5 => ∃ (i : Nat) (vs : List Val) (oa : Option Addr) (oc : Nat), s = [.slice oa vs.length oc, .int .i64 (zerosN (bits.take i) : Int), .int .i64 (i : Int)] ∧ i ≤ bits.length ∧ vs.length = i ∧ (∀ v ∈ vs, ValOk v) ∧ NewV w4 w5 vs oa oc ∧
      (∀ ls, Good1 kind ls → bits = bitsN ls → (nullsN ls < ls.length → OthIs kind ls l) → (¬ nullsN ls < ls.length → l = []) → vs = ls.take i), fun s _ => match s with
      | [_, _, .int _ i] => bits.length - i.toNat
      | _ => 0, ⟨0, [], none, 0, rfl, by omega, rfl, by simp, NewV.nil w4, fun _ _ _ _ _ => rfl⟩, ?_⟩
  rintro oa _ oc _ _ w5 ⟨i, vs, _, _, hst, hi, hvl, hvok, h5, hT⟩
  cases hst
  have zle := zeros_le (bits := bits) i
  refine IFB_dec (fun hlt => ?_) (fun hge => ?_)
  · have hil : i < bits.length := by omega
    refine (SH.start (fun _ => False) w5).lit3 fun b21 w9 hb21 B9 S9 => ⟨⟨by omega, hlt⟩, ?_⟩
    obtain ⟨p, rfl, hcell⟩ := num_at ((hb.grown B4).grown (below_trans h5.bel B9)) hil
    have hzt := zeros_take hil
    have zle2 := zeros_le (bits := bits) (i + 1)
    have mes : bits.length - ((i + 1 : Nat) : Int).toNat < bits.length - ((i : Nat) : Int).toNat := by
      simp only [Int.toNat_natCast]
      omega
    have hzl : zerosN (bits.take i) ≤ 1024 := by
      have : zerosN bits ≤ bits.length := List.countP_le_length
      omega
    have bit : ∀ {ls : List Val} (h : bits = bitsN ls) (hl : i < ls.length), bits[i] = if ls[i].1 = 0 then 1 else 0 := by
      intro ls h hl
      subst h
      simp [bitsN]
    rw [wrap_succ (k := i) (by omega)]
    -- one value more
    have next : ∀ {wx : World} {b : Nat} {t : TypeId} {x : Val} {z : Nat}, Below w5.heap.size w5 wx → wx.heap[b]? = some (.cells #[.int .i64 x.1, .int .i64 x.2.1, .string x.2.2] t (0, 0)) → ValOk x → zerosN (bits.take (i + 1)) = z →
        (∀ ls, Good1 kind ls → bits = bitsN ls → (nullsN ls < ls.length → OthIs kind ls l) → (¬ nullsN ls < ls.length → l = []) → ∀ hl : i < ls.length, ls[i] = x) →
        OPR Tryz.prog (Builtin.append_ #[ty.L_api_Value, ty.L_api_Value] ty.L_api_Value #[.slice oa vs.length oc, .slice (some ⟨b, 0, none⟩) 1 1]) (fun r w13 => ∃ (t73 : Option Addr) (t73l t73c : Nat), r = .slice t73 t73l t73c ∧
          (∃ (i_1 : Nat) (vs : List Val) (oa : Option Addr) (oc : Nat), [Value.slice t73 t73l t73c, .int .i64 (z : Int), .int .i64 ((i + 1 : Nat) : Int)] = [.slice oa vs.length oc, .int .i64 (zerosN (bits.take i_1) : Int), .int .i64 (i_1 : Int)] ∧ i_1 ≤ bits.length ∧ vs.length = i_1 ∧ (∀ v ∈ vs, ValOk v) ∧ NewV w4 w13 vs oa oc ∧
            (∀ ls, Good1 kind ls → bits = bitsN ls → (nullsN ls < ls.length → OthIs kind ls l) → (¬ nullsN ls < ls.length → l = []) → vs = ls.take i_1)) ∧ bits.length - ((i + 1 : Nat) : Int).toNat < bits.length - ((i : Nat) : Int).toNat) wx := by
      intro wx b t x z Bx hbx hx hz hPx
      refine append_val (h5.grown Bx) (by omega) hbx fun a7 c7 w7 h7 => ⟨_, _, _, rfl, ⟨i + 1, _, a7, c7, by rw [hz], by omega, by simp [hvl], ?_, h7, fun ls g1 g2 g3 g4 => ?_⟩, mes⟩
      · intro v hv
        rcases List.mem_append.1 hv with h | h
        · exact hvok v h
        · rw [List.mem_singleton.1 h]; exact hx
      · have hl' : i < ls.length := by have := (cnt ls g2).2.1; omega
        rw [hT ls g1 g2 g3 g4, List.take_succ_eq_append_getElem hl', hPx ls g1 g2 g3 g4 hl']
    refine ⟨_, by rw [Int.toNat_natCast]; exact hcell, IFB_eq (fun hz => ?_) (fun hnz => ?_)⟩
    · have hz' : bits[i] = 0 := by omega
      rw [if_pos hz'] at hzt
      rw [wrap_succ (by omega)]
      have hzlt : zerosN (bits.take i) < many := by omega
      have at_of : ∀ {ls : List Val}, bits = bitsN ls → ∀ hl : i < ls.length, (fullL ls)[zerosN (bits.take i)]? = some ls[i] := by
        intro ls g2 hl
        have hb1 := bit g2 hl
        have hnz : ¬ ls[i].1 = 0 := fun h => by rw [if_pos h] at hb1; omega
        have hft := fullL_take hl
        rw [if_neg hnz] at hft
        have hpre : fullL (ls.take (i + 1)) <+: fullL ls := by
          unfold fullL
          exact (List.take_prefix (i + 1) ls).filter _
        rw [hft] at hpre
        obtain ⟨r, hr⟩ := hpre
        have e1 : zerosN (bits.take i) = (fullL (ls.take i)).length := by
          rw [← zeros_bits]
          congr 1
          rw [g2]
          unfold bitsN
          rw [List.map_take]
        rw [e1, ← hr, List.append_assoc]
        simp
      refine S9.chg 0 rfl (cs' := #[.int .i64 kind, .int .i64 0, .string ⟨#[]⟩]) (show 0 < 3 by decide) rfl fun w10 K10 S10 => ?_
      have B10 : Below w5.heap.size w5 w10 := S10.below
      refine IFB_eq (fun h3 => ⟨⟨by omega, by have := len3 h3; omega⟩, ?_⟩) (fun h3 => ⟨⟨by omega, by have := lenN' h3; omega⟩, ?_⟩)
      · have hsl : zerosN (bits.take i) < ss.length := by have := len3 h3; omega
        obtain ⟨ps, rfl, hcs⟩ := str_at (hRs.grown (below_trans h5.bel B10)) hsl
        refine ⟨_, by rw [Int.toNat_natCast]; exact hcs, S10.chg 0 rfl (cs' := #[.int .i64 kind, .int .i64 0, .string ss[zerosN (bits.take i)]]) (show 2 < 3 by decide) rfl fun w11 K11 S11 => ?_⟩
        refine ⟨_, S11.cell 0 rfl rfl, _, S11.cell 0 rfl rfl, _, S11.cell 0 rfl rfl, S11.newB fun b29 w12 hb29 B12 S12 => next (x := (kind, 0, ss[zerosN (bits.take i)])) S12.below (S12.get 0 rfl) ⟨by simp, by simp⟩ hzt fun ls g1 g2 g3 g4 hl' => ?_⟩
        have hss := (hP ls g1 g2 g3 g4).2.1 h3
        have hf := at_of g2 hl'
        rw [full_texts g1 h3, ← hss, List.getElem?_map, List.getElem?_eq_getElem hsl] at hf
        exact (Option.some.inj hf).symm
      · have hnl : zerosN (bits.take i) < ns.length := by have := lenN' h3; omega
        obtain ⟨pn, rfl, hcn⟩ := int_at (hRn.grown (below_trans h5.bel B10)) hnl
        have hxI := hI _ (List.getElem_mem hnl)
        refine ⟨_, by rw [Int.toNat_natCast]; exact hcn, S10.chg 0 rfl (cs' := #[.int .i64 kind, .int .i64 ns[zerosN (bits.take i)], .string ⟨#[]⟩]) (show 1 < 3 by decide) rfl fun w11 K11 S11 => ?_⟩
        refine ⟨_, S11.cell 0 rfl rfl, _, S11.cell 0 rfl rfl, _, S11.cell 0 rfl rfl, S11.newB fun b29 w12 hb29 B12 S12 => next (x := (kind, ns[zerosN (bits.take i)], E0)) S12.below (S12.get 0 rfl) ⟨hxI.1, hxI.2⟩ hzt fun ls g1 g2 g3 g4 hl' => ?_⟩
        have hss := (hP ls g1 g2 g3 g4).2.2 h3
        have hf := at_of g2 hl'
        rw [full_nums g1 h3, ← hss, List.getElem?_map, List.getElem?_eq_getElem hnl] at hf
        exact (Option.some.inj hf).symm
    · have hz' : ¬ bits[i] = 0 := by omega
      rw [if_neg hz', Nat.add_zero] at hzt
      refine ⟨_, S9.cell 0 rfl rfl, _, S9.cell 0 rfl rfl, _, S9.cell 0 rfl rfl, S9.newB fun b29 w12 hb29 B12 S12 => next (x := (0, 0, E0)) S12.below (S12.get 0 rfl) ⟨by simp, by simp⟩ hzt fun ls g1 g2 g3 g4 hl' => ?_⟩
      have hb1 := bit g2 hl'
      have hz0 : ls[i].1 = 0 := by
        by_cases h : ls[i].1 = 0
        · exact h
        · rw [if_neg h] at hb1; exact absurd hb1 hz'
      exact g1.null _ (List.getElem_mem hl') hz0
  · refine ⟨vs, oa, oc, true, rfl, h5.row.rd, below_trans B4 h5.bel, by omega, hvok, fun ls g1 g2 g3 g4 => ⟨rfl, ?_⟩⟩
    have := (cnt ls g2).2.1
    rw [hT ls g1 g2 g3 g4, List.take_of_length_le (by omega)]
end
end Go.Proofs.YtbkffpcgppecgaaGreat

/-
  Decode of a column's values: the document's way; the law ChunkReads.
-/
namespace Go.Proofs.YtbkffpcgppecgaaGreat
open Go.Dn Go.Proofs
open Go.RowKit (Below)
set_option linter.unusedVariables false
set_option maxRecDepth 20000
theorem zeros_ones (n i : Nat) : zerosN ((List.replicate n 1).take i) = 0 := by
  unfold zerosN
  rw [List.countP_eq_zero]
  intro x hx
  have := (List.mem_replicate.1 (List.mem_of_mem_take hx)).2
  simp [this]
section
variable {w : World} {a : Option Addr} {c : Nat} {l : List UInt8}
theorem ref08_Decode_ok (hl : Rd w a (l.map byteV)) (hc : l.length ≤ c) (hs : l.length ≤ 9223372036854775807) :
    Calls Tryz.prog f.ref08_Decode #[.slice a l.length c] w (Ret fun v w' => ChDV l w w' v) := by
  apply R.ref08_Decode_calls
  unfold R.ref08_Decode
  refine IFB_dec (fun h => ChDV.bad (.refl _ _) fun K ls hg hC => by have := (hC.read hg).2.1; omega) (fun hge => ?_)
  have h0 : 0 < l.length := by omega
  obtain ⟨li, hli⟩ : ∃ li, li = l.take (l.length - 4) := ⟨_, rfl⟩
  have hlt : li.length = l.length - 4 := by rw [hli, List.length_take]; omega
  have hP0 : ∀ K ls, Good1 K ls → ChIs K ls l → ReadP K ls li := fun K ls hg hC => by rw [hli]; exact (hC.read hg).1
  have hhead : l.getD 0 0 = li.getD 0 0 := by
    rw [hli]
    have : 0 < l.length - 4 := by omega
    simp only [List.getD, List.getElem?_take, if_pos this]
  have hsl := hl.sla 0 (l.length - 4) c 1 (by omega)
  rw [Nat.mul_one, Nat.sub_zero, Nat.mul_one, List.drop_zero, ← List.map_take, ← hli] at hsl
  obtain ⟨p, rfl, hcell⟩ := head_at hl h0
  have hb0 := (l.getD 0 0).toNat_lt
  rw [wrap_i64 (n := (l.length : Int) - 4) (by omega) (by omega), show ((l.length : Int) - 4).toNat = li.length by omega, Nat.sub_zero, Nat.sub_zero]
  refine ⟨⟨by omega, by omega⟩, _, hcell, ⟨by omega, by omega, by omega⟩, ?_⟩
  obtain ⟨ai, hai⟩ : ∃ ai, ai = SLA (some p) 0 c 1 := ⟨_, rfl⟩
  rw [← hai] at hsl ⊢
  have hlic : li.length ≤ c := by omega
  have hlis : li.length ≤ 9223372036854775807 := by omega
  refine (ref_TakeNumber_ok hsl hlis 1 (by decide)).mono ?_
  rintro _ w ⟨_, rfl, rfl, rfl⟩
  obtain ⟨n, at1, e1, hv1, hb1, hP1⟩ : ∃ (n at1 : Nat) (e1 : Int), numV (takeN li 1) = .tuple #[.int .u64 (n : Int), .int .i64 (at1 : Int), .int .i64 e1] ∧ (n < 18446744073709551616 ∧ at1 ≤ li.length) ∧ (∀ K ls, ReadP K ls li → e1 = 0 ∧ n = ls.length ∧ takeN li 1 = some (n, at1)) := by
    cases hx : takeN li 1 with
    | none =>
      refine ⟨0, 0, 20, rfl, by omega, fun K ls hp => ?_⟩
      obtain ⟨_, _, _, q⟩ := hp.q
      have := q.n1
      rw [hx] at this; cases this
    | some x =>
      have hb := takeN_bounds (n := x.1) (k := x.2) hx
      refine ⟨x.1, x.2, 0, rfl, by omega, fun K ls hp => ?_⟩
      obtain ⟨_, _, _, q⟩ := hp.q
      have := q.n1
      rw [hx] at this
      have := Option.some.inj this
      exact ⟨rfl, by rw [this], rfl⟩
  rw [hv1]
  refine ⟨_, _, _, rfl, (ref_TakeNumber_ok hsl hlis (at1 : Int) (by omega)).mono ?_⟩
  rintro _ w ⟨_, rfl, rfl, rfl⟩
  obtain ⟨no, at2, e2, hv2, hb2, hP2⟩ : ∃ (no at2 : Nat) (e2 : Int), numV (takeN li (at1 : Int)) = .tuple #[.int .u64 (no : Int), .int .i64 (at2 : Int), .int .i64 e2] ∧ (no < 18446744073709551616 ∧ at2 ≤ li.length) ∧ (∀ K ls, ReadP K ls li → e2 = 0 ∧ no = nullsN ls ∧ ∃ o, ReadQ K ls li at1 at2 o) := by
    have step : ∀ K ls, ReadP K ls li → ∃ at2 o, ReadQ K ls li at1 at2 o := by
      intro K ls hp
      obtain ⟨a1, a2, o, q⟩ := hp.q
      have h1 := (hP1 K ls hp).2.2
      have h2 := q.n1
      rw [h1] at h2
      obtain rfl : at1 = a1 := by have := Option.some.inj h2; simpa using congrArg Prod.snd this
      exact ⟨a2, o, q⟩
    cases hx : takeN li (at1 : Int) with
    | none =>
      refine ⟨0, 0, 20, rfl, by omega, fun K ls hp => ?_⟩
      obtain ⟨_, _, q⟩ := step K ls hp
      have := q.n2
      rw [hx] at this; cases this
    | some x =>
      have hb := takeN_bounds (n := x.1) (k := x.2) hx
      refine ⟨x.1, x.2, 0, rfl, by omega, fun K ls hp => ?_⟩
      obtain ⟨a2, o, q⟩ := step K ls hp
      have := q.n2
      rw [hx] at this
      have hxx := Option.some.inj this
      obtain rfl : x.2 = a2 := by rw [hxx]
      exact ⟨rfl, by rw [hxx], o, q⟩
  rw [hv2, wrap_i64 (n := ((l.getD 0 0).toNat : Int)) (by omega) (by omega)]
  obtain ⟨kd, hkd⟩ : ∃ kd, kd = ((l.getD 0 0).toNat : Int) := ⟨_, rfl⟩
  rw [← hkd]
  have hbad : ∀ {wx : World}, Below w.heap.size w wx → (∀ K ls, ¬ ReadP K ls li) → ChDV l w wx (.tuple #[.int .i64 0, .slice none 0 0, .int .i64 80]) := fun B h => ChDV.bad B fun K ls hg hC => h K ls (hP0 K ls hg hC)
  have hkind : ∀ K ls, ReadP K ls li → kd = K := fun K ls hp => by
    obtain ⟨_, _, _, q⟩ := hp.q
    rw [hkd, hhead]; exact q.kind
  refine ⟨_, _, _, rfl, IFB_ne (fun h => hbad (.refl _ _) fun K ls hp => h (hP1 K ls hp).1) (fun he1 => IFB_ne (fun h => hbad (.refl _ _) fun K ls hp => h (hP2 K ls hp).1) (fun he2 => IFB_dec (fun h => hbad (.refl _ _) fun K ls hp => ?_) (fun hn1 => IFB_dec (fun h => hbad (.refl _ _) fun K ls hp => ?_) (fun hn2 =>
    IFB_dec (fun h => hbad (.refl _ _) fun K ls hp => ?_) (fun hk1 => IFB_dec (fun h => hbad (.refl _ _) fun K ls hp => ?_) (fun hk2 => ?_))))))⟩
  · have := (hP1 K ls hp).2.1
    have := hp.good.len
    omega
  · have := (hP1 K ls hp).2.1
    have := (hP2 K ls hp).2.1
    have := nullsN_le ls
    omega
  · have := hkind K ls hp
    have := hp.good.kind
    omega
  · have := hkind K ls hp
    have := hp.good.kind
    omega
  have hn : n ≤ 1024 := by omega
  have hno : no ≤ n := by omega
  refine make_new tU (l := (n : Int)) (c := (n : Int)) (by omega) (by omega) (by omega) (by omega) fun bo w3 hbo B3 hO3 => ?_
  rw [Int.toNat_natCast] at hO3 ⊢
  have hO3' : w3.heap[bo]? = some (.cells ⟨List.replicate n (.int .u64 0)⟩ ty.uint64 (0, 0)) := by
    have e : madeCells (Value.int .u64 0).cells (n * 1) = ⟨List.replicate n (.int .u64 0)⟩ := by
      apply Array.ext'
      rw [madeCells_one _ rfl, Nat.mul_one]
    rw [← e]; exact hO3
  have rep : ∀ (k : Nat) (x : Nat), (List.replicate k x).map u64V = List.replicate k (.int .u64 (x : Int)) := fun k x => by rw [List.map_replicate]; rfl
  refine ⟨_, _, _, rfl, fun s w6 => ∃ (at3 : Nat) (bits : List Nat) (ab : Option Addr) (cb : Nat), s = [.int .i64 (at3 : Int), .slice ab bits.length cb] ∧ Rd w6 ab (bits.map u64V) ∧ Below w.heap.size w w6 ∧ bits.length ≤ 1024 ∧ at3 ≤ li.length ∧
      (no = n → ab = some ⟨bo, 0, none⟩ ∧ bits = List.replicate n 0 ∧ w6.heap[bo]? = some (.cells ⟨List.replicate n (.int .u64 0)⟩ ty.uint64 (0, 0))) ∧
      (∀ K ls, ReadP K ls li → (no ≠ n → bits = bitsN ls) ∧ ∃ o, ReadQ K ls li at1 at2 o ∧ li.drop at3 = o), ?_, ?_⟩
  · refine ⟨fun s w4 => ∃ t : Bool, s = [.bool t] ∧ w4 = w3 ∧ (t = true ↔ 0 < no ∧ no < n), ?_, ?_⟩
    · refine IFB_dec (fun h => ⟨_, rfl, rfl, by simp; omega⟩) (fun h => ⟨_, rfl, rfl, by simp; omega⟩)
    rintro _ w4 ⟨t, hst, rfl, ht⟩
    cases hst
    refine IFB_of (fun h => ?_) (fun h => ?_)
    · obtain ⟨hm1, hm2⟩ := ht.1 h
      obtain ⟨sz, hsz⟩ : ∃ sz, sz = sizeN n 1 := ⟨_, rfl⟩
      have hszv : sz = (n + 7) / 8 := by rw [hsz]; unfold sizeN; rw [Nat.mul_one]
      have esz : IntKind.i64.wrap (Int.tdiv (IntKind.i64.wrap (IntKind.i64.wrap (n : Int) + 7)) 8) = (sz : Int) := by
        rw [wrap_i64 (n := (n : Int)) (by omega) (by omega), wrap_i64 (n := (n : Int) + 7) (by omega) (by omega), Int.tdiv_eq_ediv_of_nonneg (by omega), wrap_i64 (by omega) (by omega)]
        omega
      rw [esz, wrap_i64 (n := (li.length : Int) - (at2 : Int)) (by omega) (by omega), wrap_i64 (n := (n : Int)) (by omega) (by omega)]
      have hmaskq : ∀ K ls, ReadP K ls li → ∃ o, ReadQ K ls li at1 at2 o ∧ li.drop at2 = packL (bitsN ls) 1 ++ o ∧ (packL (bitsN ls) 1).length = sz := by
        intro K ls hp
        obtain ⟨_, hno', o, q⟩ := hP2 K ls hp
        have hn' := (hP1 K ls hp).2.1
        refine ⟨o, q, ?_, ?_⟩
        · rw [q.rest]
          unfold maskL
          rw [if_pos (by omega)]
        · rw [packL_len, hsz, hn']
          simp [bitsN]
      refine IFB_dec (fun h => hbad B3 fun K ls hp => ?_) (fun hge => ?_)
      · obtain ⟨o, _, e, e2⟩ := hmaskq K ls hp
        have := congrArg List.length e
        rw [List.length_drop, List.length_append] at this
        omega
      rw [wrap_i64 (n := (at2 : Int) + (sz : Int)) (by omega) (by omega)]
      refine ⟨⟨by omega, by omega, by omega⟩, ?_⟩
      rw [Int.toNat_natCast, show ((at2 : Int) + (sz : Int)).toNat = at2 + sz by omega, Nat.add_sub_cancel_left]
      have hsl2 := (hsl.grown B3).sla at2 (at2 + sz) c 1 (by omega)
      rw [Nat.mul_one, Nat.mul_one, Nat.add_sub_cancel_left, ← List.map_drop, ← List.map_take] at hsl2
      have hsll : ((li.drop at2).take sz).length = sz := by rw [List.length_take, List.length_drop]; omega
      have hU := ref_Unpack_ok (c := c - at2) hsl2 (n : Int) 1 (by omega)
      rw [hsll] at hU
      refine hU.mono ?_
      rintro _ w7 ⟨_, rfl, xs, xa, xc, e, rfl, hRx, B7, hxn, hcase⟩
      have C7 := below_trans B3 B7
      rw [Int.toNat_natCast, show (1 : Int).toNat = 1 from rfl] at hcase
      have good : ∀ K ls, ReadP K ls li → ∃ o, ReadQ K ls li at1 at2 o ∧ li.drop (at2 + sz) = o ∧ unArg (n : Int) 1 ∧ unOk ((li.drop at2).take sz) n 1 ∧ unpackL ((li.drop at2).take sz) n 1 = bitsN ls := by
        intro K ls hp
        obtain ⟨o, q, e3, e4⟩ := hmaskq K ls hp
        have hn' := (hP1 K ls hp).2.1
        have hbl : (bitsN ls).length = n := by rw [hn']; simp [bitsN]
        have htk : (li.drop at2).take sz = packL (bitsN ls) 1 := by rw [e3, ← e4, List.take_left]
        have hup := unpack_pack (bits_lt ls)
        rw [hbl] at hup
        rw [htk]
        exact ⟨o, q, by rw [← e4, ← List.drop_drop, e3, List.drop_left], ⟨by omega, by omega, by omega, by omega⟩, ⟨by rw [packL_len, hbl], by rw [hup]⟩, hup⟩
      rcases hcase with ⟨_, _, hxs, rfl⟩ | ⟨hno2, rfl, he⟩
      · have hxl : xs.length = n := by rw [hxs, unpackL_len]
        refine ⟨_, _, _, _, rfl, IFB_ne (fun h => absurd rfl h) (fun _ => ⟨at2 + sz, xs, xa, xc, by simp, hRx, C7, by omega, by omega, fun h => absurd h (by omega), fun K ls hp => ?_⟩)⟩
        obtain ⟨o, q, g1, _, _, g4⟩ := good K ls hp
        exact ⟨fun _ => by rw [hxs, g4], o, q, g1⟩
      · refine ⟨_, _, _, _, rfl, IFB_ne (fun _ => hbad C7 fun K ls hp => ?_) (fun h => by rw [he] at h; split at h <;> cases h)⟩
        obtain ⟨o, _, _, g2, g3, _⟩ := good K ls hp
        exact hno2 ⟨g2, g3⟩
    · have hcond : ¬ (0 < no ∧ no < n) := fun hh => by rw [ht.2 hh] at h; cases h
      refine ⟨at2, List.replicate n 0, some ⟨bo, 0, none⟩, n, by rw [List.length_replicate], ?_, B3, by simp; omega, hb2.2, fun _ => ⟨rfl, rfl, hO3'⟩, fun K ls hp => ?_⟩
      · have := Rd.of_block0 hO3'
        rw [rep]; exact this
      · obtain ⟨_, hno', o, q⟩ := hP2 K ls hp
        have hn' := (hP1 K ls hp).2.1
        refine ⟨fun hne => ?_, o, q, ?_⟩
        · rw [bits_none (by omega), hn']
        · rw [q.rest]
          unfold maskL
          rw [if_neg (by omega)]
          rfl
  rintro _ ab _ cb w6 ⟨at3, bits, _, _, hst, hRb, B6, hbl, hat3, hall1, hP3⟩
  cases hst
  obtain ⟨fin, hfin⟩ : ∃ fin : List Nat, fin = (if no = n then List.replicate n 1 else bits) := ⟨_, rfl⟩
  have hfl : fin.length = bits.length := by
    rw [hfin]
    split
    · rename_i h; rw [(hall1 h).2.1]; simp
    · rfl
  have hPf : ∀ K ls, ReadP K ls li → fin = bitsN ls := by
    intro K ls hp
    rw [hfin]
    split
    · rename_i h
      have hn' := (hP1 K ls hp).2.1
      have hno' := (hP2 K ls hp).2.1
      rw [bits_all (by omega), hn']
    · rename_i h
      exact (hP3 K ls hp).1 h
  refine ⟨fun s w7 => ∃ i : Nat, i ≤ bits.length ∧ s = [.int .i64 (zerosN (fin.take i) : Int), .int .i64 (i : Int)] ∧ Below w.heap.size w w7 ∧ ((no = n ∧ Keeps (fun k => k = bo) w6 w7 ∧ w7.heap[bo]? = some (.cells ⟨List.replicate i (.int .u64 1) ++ List.replicate (n - i) (.int .u64 0)⟩ ty.uint64 (0, 0))) ∨ (no ≠ n ∧ w7 = w6)), fun s _ => match s with
      | [_, .int _ i] => bits.length - i.toNat
      | _ => 0, ⟨0, by omega, rfl, B6, ?_⟩, ?_⟩
  · by_cases h : no = n
    · exact .inl ⟨h, .refl _ _, by simpa using (hall1 h).2.2⟩
    · exact .inr ⟨h, rfl⟩
  rintro _ _ w7 ⟨i, hi, hst, B7, hcase⟩
  cases hst
  have hzl : zerosN (fin.take i) ≤ 1024 := by
    have h1 : zerosN (fin.take i) ≤ (fin.take i).length := List.countP_le_length
    rw [List.length_take] at h1
    omega
  refine IFB_dec (fun hlt => ?_) (fun hge => ?_)
  · have hil : i < bits.length := by omega
    have hif : i < fin.length := by omega
    have hnb : no = n → bits.length = n := fun h => by rw [(hall1 h).2.1]; simp
    refine ⟨fun s w9 => s = [] ∧ Below w.heap.size w w9 ∧ (∃ p, ab = some p ∧ w9.cell? (p.add (i * 1)) = some (.int .u64 (fin[i] : Int))) ∧ ((no = n ∧ Keeps (fun k => k = bo) w6 w9 ∧ w9.heap[bo]? = some (.cells ⟨List.replicate (i + 1) (.int .u64 1) ++ List.replicate (n - (i + 1)) (.int .u64 0)⟩ ty.uint64 (0, 0))) ∨ (no ≠ n ∧ w9 = w6)), ?_, ?_⟩
    · refine IFB_eq (fun heq => ⟨⟨by omega, hlt⟩, ?_⟩) (fun hneq => ?_)
      · have heq' : no = n := by omega
        rcases hcase with ⟨_, K7, hO7⟩ | ⟨h, _⟩
        · obtain ⟨rfl, hbits, _⟩ := hall1 heq'
          have hbn := hnb heq'
          rw [Int.toNat_natCast]
          unfold PTR
          simp only
          refine sto_at hO7 (p := (⟨bo, 0, none⟩ : Addr).add (i * 1)) (i := i) (by rw [addr_add_blk]; simp) (by show i < (_ ++ _ : List Value).length; simp; omega) fun w8 K8 hO8 => ?_
          have e : (⟨List.replicate i (.int .u64 1) ++ List.replicate (n - i) (.int .u64 0)⟩ : Array Value).setIfInBounds i (.int .u64 1) = ⟨List.replicate (i + 1) (.int .u64 1) ++ List.replicate (n - (i + 1)) (.int .u64 0)⟩ := by
            apply Array.ext'
            simp only [Array.toList_setIfInBounds]
            rw [List.set_append_right _ _ (by simp), List.length_replicate, Nat.sub_self, show n - i = (n - (i + 1)) + 1 by omega, List.replicate_succ (n := n - (i + 1)), List.set_cons_zero, List.replicate_succ' (n := i), List.append_assoc]
            rfl
          rw [e] at hO8
          have K68 := K7.trans K8 (fun _ _ h => h)
          refine ⟨trivial, B7.trans (K8.below B7.size fun k hk he => by omega), ⟨_, rfl, ?_⟩, .inl ⟨heq', K68, hO8⟩⟩
          have hfi : fin[i] = 1 := by
            have : fin[i]? = some 1 := by rw [hfin, if_pos heq', List.getElem?_replicate, if_pos (by omega)]
            rw [List.getElem?_eq_getElem hif] at this
            exact Option.some.inj this
          rw [hfi]
          obtain ⟨q, hq, hcq⟩ := Rd.of_block0 hO8 i (.int .u64 1) (by
            show (List.replicate (i + 1) (Value.int .u64 1) ++ List.replicate (n - (i + 1)) (.int .u64 0))[i]? = _
            rw [List.getElem?_append_left (by simp), List.getElem?_replicate, if_pos (by omega)])
          cases hq
          rw [Nat.mul_one]; exact hcq
        · exact absurd heq' h
      · have hne : no ≠ n := fun h => hneq (by omega)
        rcases hcase with ⟨h, _⟩ | ⟨_, rfl⟩
        · exact absurd h hne
        · refine ⟨rfl, B7, ?_, .inr ⟨hne, rfl⟩⟩
          obtain ⟨p, hp, hc2⟩ := num_at hRb hil
          refine ⟨p, hp, ?_⟩
          have hfb : fin = bits := by rw [hfin, if_neg hne]
          have : fin[i] = bits[i] := get_of hfb (List.getElem?_eq_getElem hil) hif
          rw [this]; exact hc2
    rintro w9 ⟨_, B9, ⟨pb, rfl, hcb⟩, hcase9⟩
    refine ⟨⟨by omega, hlt⟩, _, by rw [Int.toNat_natCast]; exact hcb, ?_⟩
    have hzt := zeros_take hif
    have mes : bits.length - ((i + 1 : Nat) : Int).toNat < bits.length - ((i : Nat) : Int).toNat := by
      simp only [Int.toNat_natCast]
      omega
    rw [wrap_succ (by omega), wrap_succ (by omega)]
    refine IFB_eq (fun hz => ?_) (fun hz => ?_)
    · rw [if_pos (by omega)] at hzt
      exact ⟨⟨i + 1, by omega, by rw [hzt], B9, hcase9⟩, mes⟩
    · rw [if_neg (by omega)] at hzt
      exact ⟨⟨i + 1, by omega, by rw [hzt]; rfl, B9, hcase9⟩, mes⟩
  have hib : i = bits.length := by omega
  have htk : fin.take i = fin := List.take_of_length_le (by omega)
  rw [htk]
  have hRf : Rd w7 ab (fin.map u64V) := by
    rcases hcase with ⟨heq, K7, hO7⟩ | ⟨hne, rfl⟩
    · obtain ⟨rfl, hbits, _⟩ := hall1 heq
      have hin : i = n := by rw [hib, hbits]; simp
      rw [hin, Nat.sub_self, List.replicate_zero, List.append_nil] at hO7
      have := Rd.of_block0 hO7
      rw [hfin, if_pos heq, rep]; exact this
    · rw [hfin, if_neg hne]; exact hRb
  refine ⟨⟨by omega, by omega, by omega⟩, ?_⟩
  rw [Int.toNat_natCast, ← List.length_drop (i := at3) (l := li)]
  have hdr := drop_rd (q := at3) (hsl.grown B7) hlic
  have hF := ref08_filled_ok (cb := cb) kd hRf hdr (by rw [List.length_drop]; omega : (li.drop at3).length ≤ c - at3) (by rw [List.length_drop]; omega) (by omega) rfl
  rw [hfl] at hF
  refine hF.mono ?_
  rintro _ w10 ⟨_, rfl, vs, a10, c10, ok, rfl, R10, B10, hvl, hvok, hD⟩
  have C10 := below_trans B7 B10
  have hD' : ∀ K ls, ReadP K ls li → ok = true ∧ vs = ls := by
    intro K ls hp
    obtain ⟨_, o, q, ho⟩ := hP3 K ls hp
    have hk := hkind K ls hp
    refine hD ls (by rw [hk]; exact hp.good) (hPf K ls hp) (fun h => ?_) (fun h => ?_)
    · rw [hk, ho]; exact q.oth h
    · rw [ho]; exact q.none h
  refine ⟨_, _, _, _, rfl, IFB_not (IFB_of (fun hok => ?_) (fun hok => hbad C10 fun K ls hp => ?_))⟩
  case refine_2 =>
    have := (hD' K ls hp).1
    rw [this] at hok; cases hok
  refine (ref08_Encode_ok kd R10 (by omega) hvok).mono ?_
  rintro _ w11 ⟨_, rfl, h11⟩
  obtain ⟨b11, a11, c11, e11, rfl, R11, B11, q11⟩ := h11.open
  have C11 := below_trans C10 B11
  refine ⟨_, _, _, _, rfl, ?_⟩
  rcases q11 with ⟨hr, hI, rfl⟩ | ⟨hr, rfl, rfl⟩
  · refine IFB_ne (fun h => absurd rfl h) (fun _ => string_of_bytes tbytes rfl R11 ⟨_, rfl, string_of_bytes tbytes rfl (hl.grown C11) ⟨_, rfl, ?_⟩⟩)
    rw [bytesEq_iff]
    refine IFB_not (IFB_dec (fun he => ?_) (fun he => ChDV.bad C11 fun K' ls' hg hC => ?_))
    · have he' : b11 = l := by have := congrArg bl he; rwa [bl_sof, bl_sof] at this
      subst he'
      refine ⟨kd, vs, a10, c10, 0, rfl, R10.grown B11, C11, hvl, .inl ⟨⟨hr, hvok⟩, hI, rfl, fun K' ls' hg hC => ?_⟩⟩
      have hp := hP0 K' ls' hg hC
      exact ⟨(hkind K' ls' hp).symm, ((hD' K' ls' hp).2).symm⟩
    · have hp := hP0 K' ls' hg hC
      obtain rfl := hkind K' ls' hp
      obtain rfl := (hD' _ ls' hp).2
      exact he (by rw [hI.one hC])
  · refine IFB_ne (fun _ => ChDV.bad C11 fun K' ls' hg hC => ?_) (fun h => absurd h (by decide))
    have hp := hP0 K' ls' hg hC
    obtain rfl := hkind K' ls' hp
    obtain rfl := (hD' _ ls' hp).2
    rw [hg.right] at hr; cases hr
end
theorem ChunkReads_core {w : World} {a : Option Addr} {c : Nat} {l : List UInt8} (hl : Rd w a (l.map byteV)) (hc : l.length ≤ c) (hs : l.length ≤ 9223372036854775807) :
    Calls Tryz.prog f.law08_ChunkReads #[.slice a l.length c] w (Ret fun r w' => r = .bool true ∧ Below w.heap.size w w') := by
  apply R.law08_ChunkReads_calls
  unfold R.law08_ChunkReads
  refine (shown_ok w).mono ?_
  rintro _ w1 ⟨_, rfl, rfl, B1⟩
  refine ⟨_, rfl, (chunk_Decode_ok (hl.grown B1) hc hs).mono ?_⟩
  rintro _ w2 ⟨_, rfl, K, ls, a2, c2, e2, rfl, R2, B2, l2, q2⟩
  have C2 := below_trans B1 B2
  refine ⟨_, _, _, _, _, rfl, (ref08_Decode_ok (hl.grown C2) hc hs).mono ?_⟩
  rintro _ w3 ⟨_, rfl, K', ms, a3, c3, e3, rfl, R3, B3, l3, q3⟩
  have C3 := below_trans C2 B3
  have hone : K = K' ∧ ls = ms ∧ e2 = e3 := by
    rcases q2 with ⟨g1, g2, rfl, g4⟩ | ⟨g1, rfl, rfl, rfl⟩ <;> rcases q3 with ⟨k1, k2, rfl, k4⟩ | ⟨k1, rfl, rfl, rfl⟩
    · obtain ⟨rfl, rfl⟩ := g4 _ _ k1 k2
      exact ⟨rfl, rfl, rfl⟩
    · exact absurd g2 (k1 _ _ g1)
    · exact absurd k2 (g1 _ _ k1)
    · exact ⟨rfl, rfl, rfl⟩
  obtain ⟨rfl, rfl, rfl⟩ := hone
  refine ⟨_, _, _, _, _, rfl, IFB_true (IFB_eq (fun _ => (ref08_Same_ok (R2.grown B3) R3 (by omega)).mono ?_) (fun h => absurd rfl h))⟩
  rintro _ w4 ⟨_, rfl, B4, rfl⟩
  exact ⟨_, rfl, IFB_dec (fun _ => ⟨by simp, below_trans C3 B4⟩) (fun h => absurd rfl h)⟩
theorem bytes_arg {w : World} {a : Option Addr} {xs : List Int} {c : Nat} (g : GL w (intC .u8) (intQ .u8) a xs c) : ∃ l : List UInt8, l.length = xs.length ∧ Rd w a (l.map byteV) ∧ l.length ≤ c ∧ l.length ≤ 9223372036854775807 := by
  have h := g.2.2.2.1
  unfold intC at h
  rw [flat1] at h
  have hq : ∀ x ∈ xs, 0 ≤ x ∧ x < 256 := fun x hx => by
    have := g.2.2.2.2 x hx
    simp [intQ, Lit.wf] at this
    have e1 : IntKind.u8.min = 0 := rfl
    have e2 : IntKind.u8.max = 255 := rfl
    omega
  refine ⟨xs.map fun x => UInt8.ofNat x.toNat, by simp, ?_, by simpa using g.1, by have := g.1; have := g.2.1; unfold maxLen at this; simp; omega⟩
  have e : (xs.map fun x => UInt8.ofNat x.toNat).map byteV = xs.map fun x => Value.int .u8 x := by
    rw [List.map_map]
    apply List.map_congr_left
    intro x hx
    obtain ⟨h1, h2⟩ := hq x hx
    simp only [Function.comp, byteV]
    rw [ofNat_toNat8 (by omega)]
    congr 1
    omega
  rw [e]
  exact h
theorem ChunkReads_ok (w : World) (a : Option Addr) (xs : List Int) (c : Nat) (g : GL w (intC .u8) (intQ .u8) a xs c) :
    Calls Tryz.prog f.law08_ChunkReads #[.slice a xs.length c] w (Ret fun r w' => r = .bool true ∧ Below w.heap.size w w') := by
  obtain ⟨l, hl, h1, h2, h3⟩ := bytes_arg g
  rw [← hl]
  exact ChunkReads_core h1 h2 h3
end Go.Proofs.YtbkffpcgppecgaaGreat
