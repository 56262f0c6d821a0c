/-
  Texts of this claim, laid one behind the other by a program of mine (install.py): S.Ch10, S.Sch9, S.Cmp, S.CmpL, S.Ch6, S.Ch7, S.Ch8, S.Ch9, S.Ch11, S.Ch12, S.ChgE, S.IntsH, S.IntsI, S.Ch13, S.Ch14, S.Seg1, S.Seg2, Dn.Lit.
-/
import Derived.Test.YtipgnehlihmdhaaGreatDoorM6
import Derived.Test.YtipgnehlihmdhaaGreatDoorM5
import Derived.Test.YtipgnehlihmdhaaGreatDoorM4
import Derived.Test.YtipgnehlihmdhaaGreatDoorM3
/-
  Values out of bytes: decoded, spread; the program's way.
-/
namespace Go.Proofs.YtipgnehlihmdhaaGreatDoor
open Go.Dn Go.Proofs
open Go.RowKit (Below)
set_option linter.unusedVariables false
set_option maxRecDepth 20000

theorem tVals : slT Tryz.prog ty.L_api_Value = some (ty.api_Value, 3, 32, .agg #[.int .i64 0, .int .i64 0, .string ⟨#[]⟩]) := by kernel_rfl
/-- a new row of values -/
structure NewV (w w' : World) (vs : List Val) (a : Option Addr) (c : Nat) : Prop where
  row : Row w' ty.api_Value 3 a vs.length c (valsL vs)
  new : ∀ k, rowB a = some k → w.heap.size ≤ k
  bel : Below w.heap.size w w'
theorem NewV.nil (w : World) : NewV w w [] none 0 := ⟨Row.nil _ _ _, by simp [rowB], .refl _ _⟩
theorem NewV.grown {w w1 w2 : World} {xs : List Val} {a : Option Addr} {c : Nat} (h : NewV w w1 xs a c) (hb : Below w1.heap.size w1 w2) : NewV w w2 xs a c := ⟨h.row.grown hb, h.new, below_trans h.bel hb⟩
theorem vals_append (xs ys : List Val) : valsL (xs ++ ys) = valsL xs ++ valsL ys := by simp [valsL]
theorem append_val {w w1 : World} {a : Option Addr} {c : Nat} {xs : List Val} (h : NewV w w1 xs a c) (hl : xs.length + 1 ≤ 1000000) {x : Val} {b : Nat} {t : TypeId} (hb : w1.heap[b]? = some (.cells #[.int .i64 x.1, .int .i64 x.2.1, .string x.2.2] t (0, 0))) {f : Value → World → Prop}
    (hf : ∀ a' c' w', NewV w w' (xs ++ [x]) a' c' → f (.slice a' (xs ++ [x]).length c') w') : OPR Tryz.prog (Builtin.append_ #[ty.L_api_Value, ty.L_api_Value] ty.L_api_Value #[.slice a xs.length c, .slice (some ⟨b, 0, none⟩) 1 1]) f w1 := by
  have hsrc : Rd w1 (some ⟨b, 0, none⟩) (valsL [x]) := by
    have := Rd.of_block0 hb
    simpa [valC] using this
  obtain ⟨a5, c5, w2, hrun, hrow, hk5, hnw⟩ := append_row (ty := ty.L_api_Value) (mc := 1) tVals rfl (by omega) (by omega) h.row hsrc (m := 1) rfl (by simp [valC]; exact ⟨rfl, rfl, rfl⟩) (by omega)
  unfold OPR
  rw [hrun]
  have e : xs.length + 1 = (xs ++ [x]).length := by simp
  rw [e] at hrow ⊢
  refine hf a5 c5 w2 ⟨by rw [vals_append]; exact hrow, fun k hk => ?_, h.bel.trans (hk5.below h.bel.size fun k hk he => by have := h.new k he; omega)⟩
  rcases hnw k hk with h1 | h1
  · exact h.new k h1
  · exact Nat.le_trans h.bel.size h1
/-! ### the values that are not null -/
theorem full_nums {kind : Int} {ls : List Val} (hg : Good1 kind ls) (h3 : kind ≠ 3) : fullL ls = (numsL ls).map fun x => (kind, x, E0) := by
  unfold numsL
  rw [List.map_map]
  conv => lhs; rw [← List.map_id (fullL ls)]
  apply List.map_congr_left
  intro v hv
  obtain ⟨hm, hne⟩ := List.mem_filter.1 hv
  have hok := hg.all v hm
  simp only [okV, Bool.and_eq_true, Bool.or_eq_true, decide_eq_true_eq] at hok
  have hk1 : v.1 = kind := hok.2.resolve_right (by simpa using hne)
  have hr := hok.1
  have h33 : ¬ v.1 = 3 := by rw [hk1]; exact h3
  have he : v.2.2 = E0 := by
    unfold rightB at hr
    split at hr
    · simp at hr; exact hr.2
    · split at hr
      · simpa using hr
      · split at hr
        · simp at hr; exact hr.2
        · simp at hr
  show v = (kind, v.2.1, E0)
  rw [← hk1, ← he]
theorem full_texts {kind : Int} {ls : List Val} (hg : Good1 kind ls) (h3 : kind = 3) : fullL ls = (textsL ls).map fun s => (kind, 0, s) := by
  unfold textsL
  rw [List.map_map]
  conv => lhs; rw [← List.map_id (fullL ls)]
  apply List.map_congr_left
  intro v hv
  obtain ⟨hm, hne⟩ := List.mem_filter.1 hv
  have hok := hg.all v hm
  simp only [okV, Bool.and_eq_true, Bool.or_eq_true, decide_eq_true_eq] at hok
  have hk1 : v.1 = kind := hok.2.resolve_right (by simpa using hne)
  have hr := hok.1
  have h33 : v.1 = 3 := by rw [hk1]; exact h3
  have he : v.2.1 = 0 := by
    unfold rightB at hr
    rw [if_neg (by omega), if_neg (by omega), if_neg (by omega), if_pos h33] at hr
    simp at hr
    exact hr.1
  show v = (kind, 0, v.2.2)
  rw [← hk1, ← he]
theorem oth_texts {ls : List Val} {o : List UInt8} (hg : Good1 3 ls) (h : OthIs 3 ls o) : DecIs o (textsL ls).length (textsL ls) ∧ 0 < o.length := by
  have key : ∀ (f : Int) (b : List UInt8), (0 ≤ f ∧ f ≤ 1) → EncIs (textsL ls) f b → DecIs b (textsL ls).length (textsL ls) ∧ 0 < b.length := by
    intro f b hf hE
    have hh : ((b.getD 0 0).toNat : Int) = f := by
      cases hE with
      | plain => rfl
      | table t wd ht hw => rfl
    refine ⟨⟨rfl, by rw [hh]; exact hg.enc f hf, by rw [hh]; exact hE⟩, ?_⟩
    cases hE with
    | plain => simp
    | table t wd ht hw => simp
  cases h with
  | text h b0 b1 h0 h1 =>
    split
    · exact key 1 b1 (by omega) h1
    · exact key 0 b0 (by omega) h0
  | num h => exact absurd rfl h
theorem intsL_head {f : Nat} (hf : f ≤ 3) (l : List Int) : ((intsL f l).getD 0 0).toNat = f ∧ 0 < (intsL f l).length := by
  rcases (by omega : f = 0 ∨ f = 1 ∨ f = 2 ∨ f = 3) with rfl | rfl | rfl | rfl <;> exact ⟨rfl, by simp [intsL]⟩
theorem oth_nums {kind : Int} {ls : List Val} {o : List UInt8} (hg : Good1 kind ls) (h3 : kind ≠ 3) (h : OthIs kind ls o) : IntIs o (numsL ls).length (numsL ls) ∧ 0 < o.length := by
  cases h with
  | text h b0 b1 h0 h1 => exact absurd h h3
  | num h =>
    obtain ⟨e1, e2⟩ := intsL_head (bestN_le (numsL ls)) (numsL ls)
    exact ⟨⟨rfl, hg.nums, by rw [e1]; exact bestN_le _, by rw [e1]⟩, e2⟩
/-- what decoded hands back -/
def DecdV (kind : Int) (l : List UInt8) (n : Nat) (w w' : World) (v : Value) : Prop :=
  ∃ (vs : List Val) (a : Option Addr) (c : Nat) (ok : Bool), v = .tuple #[.slice a vs.length c, .bool ok] ∧ Rd w' a (valsL vs) ∧ Below w.heap.size w w' ∧ vs.length ≤ 4096 ∧ (∀ v ∈ vs, ValOk v) ∧
    ∀ ls, Good1 kind ls → (fullL ls).length = n → (0 < n → OthIs kind ls l) → (n = 0 → l = []) → ok = true ∧ vs = fullL ls
section
variable {w : World} {a : Option Addr} {c : Nat} {l : List UInt8}
theorem chunk_decoded_ok (kind : Int) (hl : Rd w a (l.map byteV)) (hc : l.length ≤ c) (hs : l.length ≤ 9223372036854775807) {n : Nat} (hn : n ≤ 1024) :
    Calls Tryz.prog f.chunk_decoded #[.int .i64 kind, .slice a l.length c, .int .i64 (n : Int)] w (Ret fun v w' => DecdV kind l n w w' v) := by
  apply R.chunk_decoded_calls
  unfold R.chunk_decoded
  refine IFB_eq (fun hz => ?_) (fun hnz => IFB_eq (fun h3 => ?_) (fun h3 => ?_))
  · have hn0 : n = 0 := by omega
    subst hn0
    refine ⟨[], none, 0, _, rfl, Rd.nil _ _, .refl _ _, by simp, by simp, fun ls hg hf _ h0 => ?_⟩
    rw [h0 rfl]
    exact ⟨rfl, (List.eq_nil_of_length_eq_zero hf).symm⟩
  · subst h3
    have hn0 : 0 < n := by omega
    refine (dict_Decode_ok hl hc hs (n : Int)).mono ?_
    rintro _ w1 ⟨_, rfl, ss, a1, c1, e1, rfl, R1, B1, l1, q1⟩
    have harg : decArg (n : Int) := ⟨by omega, by omega⟩
    rw [Int.toNat_natCast] at q1
    refine ⟨_, _, _, _, rfl, ?_⟩
    refine ⟨fun s w2 => ∃ (i : Nat) (oa : Option Addr) (oc : Nat), s = [.slice oa ((ss.take i).map fun s => ((3 : Int), (0 : Int), s)).length oc, .int .i64 (i : Int)] ∧ i ≤ ss.length ∧ NewV w1 w2 ((ss.take i).map fun s => ((3 : Int), (0 : Int), s)) oa oc, fun s _ => match s with
        | [_, .int _ i] => ss.length - i.toNat
        | _ => 0, ⟨0, none, 0, rfl, by omega, NewV.nil w1⟩, ?_⟩
    rintro oa _ oc _ w2 ⟨i, _, _, hst, hi, h2⟩
    cases hst
    refine IFB_dec (fun hlt => ⟨⟨by omega, hlt⟩, ?_⟩) (fun hge => ?_)
    · have hil : i < ss.length := by omega
      obtain ⟨p, rfl, hcell⟩ := str_at (R1.grown h2.bel) hil
      refine ⟨_, by rw [Int.toNat_natCast]; exact hcell, (SH.start (fun _ => False) w2).newB fun b3 w3 hb3 B3 S3 => append_val (x := (3, 0, ss[i])) (h2.grown B3) (by simp; omega) (S3.get 0 rfl) fun a4 c4 w4 h4 => ⟨_, _, _, rfl, ?_⟩⟩
      have e : (ss.take (i + 1)).map (fun s => ((3 : Int), (0 : Int), s)) = (ss.take i).map (fun s => ((3 : Int), (0 : Int), s)) ++ [((3 : Int), (0 : Int), ss[i])] := by
        rw [List.take_succ_eq_append_getElem hil, List.map_append]; rfl
      rw [wrap_succ (by omega)]
      refine ⟨⟨i + 1, a4, c4, by rw [e], by omega, by rw [e]; exact h4⟩, ?_⟩
      simp only [Int.toNat_natCast]
      omega
    · have hie : ss.take i = ss := List.take_of_length_le (by omega)
      rw [hie] at h2 ⊢
      refine ⟨_, oa, oc, _, rfl, h2.row.rd, below_trans B1 h2.bel, by simp; omega, ?_, fun ls hg hf ho _ => ?_⟩
      · intro v hv
        obtain ⟨s, _, rfl⟩ := List.mem_map.1 hv
        exact ⟨by simp, by simp⟩
      · obtain ⟨d1, d2⟩ := oth_texts hg (ho hn0)
        have hft := full_texts hg rfl
        have htl : (textsL ls).length = n := by rw [← hf, hft, List.length_map]
        rw [htl] at d1
        rcases q1 with ⟨k1, _⟩ | ⟨_, k2, rfl, _⟩ | ⟨_, k2, _⟩
        · exact absurd harg k1
        · rw [hft, k2.one d1]; exact ⟨rfl, rfl⟩
        · exact absurd ⟨d1, d2⟩ (k2 _)
  · have hn0 : 0 < n := by omega
    refine (ints_Decode_ok hl hc hs (n : Int)).mono ?_
    rintro _ w1 ⟨_, rfl, ns, a1, c1, e1, rfl, R1, B1, l1, hI, q1⟩
    have harg : decArg (n : Int) := ⟨by omega, by omega⟩
    rw [Int.toNat_natCast] at q1
    refine ⟨_, _, _, _, rfl, ?_⟩
    refine ⟨fun s w2 => ∃ (i : Nat) (oa : Option Addr) (oc : Nat), s = [.slice oa ((ns.take i).map fun x => ((kind : Int), (x : Int), E0)).length oc, .int .i64 (i : Int)] ∧ i ≤ ns.length ∧ NewV w1 w2 ((ns.take i).map fun x => ((kind : Int), (x : Int), E0)) oa oc, fun s _ => match s with
        | [_, .int _ i] => ns.length - i.toNat
        | _ => 0, ⟨0, none, 0, rfl, by omega, NewV.nil w1⟩, ?_⟩
    rintro oa _ oc _ w2 ⟨i, _, _, hst, hi, h2⟩
    cases hst
    refine IFB_dec (fun hlt => ⟨⟨by omega, hlt⟩, ?_⟩) (fun hge => ?_)
    · have hil : i < ns.length := by omega
      obtain ⟨p, rfl, hcell⟩ := int_at (R1.grown h2.bel) hil
      refine ⟨_, by rw [Int.toNat_natCast]; exact hcell, (SH.start (fun _ => False) w2).newB fun b3 w3 hb3 B3 S3 => append_val (x := (kind, ns[i], E0)) (h2.grown B3) (by simp; omega) (S3.get 0 rfl) fun a4 c4 w4 h4 => ⟨_, _, _, rfl, ?_⟩⟩
      have e : (ns.take (i + 1)).map (fun x => ((kind : Int), (x : Int), E0)) = (ns.take i).map (fun x => ((kind : Int), (x : Int), E0)) ++ [((kind : Int), (ns[i] : Int), E0)] := by
        rw [List.take_succ_eq_append_getElem hil, List.map_append]; rfl
      rw [wrap_succ (by omega)]
      refine ⟨⟨i + 1, a4, c4, by rw [e], by omega, by rw [e]; exact h4⟩, ?_⟩
      simp only [Int.toNat_natCast]
      omega
    · have hie : ns.take i = ns := List.take_of_length_le (by omega)
      rw [hie] at h2 ⊢
      refine ⟨_, oa, oc, _, rfl, h2.row.rd, below_trans B1 h2.bel, by simp; omega, ?_, fun ls hg hf ho _ => ?_⟩
      · intro v hv
        obtain ⟨x, hx, rfl⟩ := List.mem_map.1 hv
        exact ⟨(hI x hx).1, (hI x hx).2⟩
      · obtain ⟨d1, d2⟩ := oth_nums hg h3 (ho hn0)
        have hft := full_nums hg h3
        have htl : (numsL ls).length = n := by rw [← hf, hft, List.length_map]
        rw [htl] at d1
        rcases q1 with ⟨k1, _⟩ | ⟨_, _, _, k2, rfl⟩ | ⟨_, k2, _⟩
        · exact absurd harg k1
        · rw [hft, k2 _ d1]; exact ⟨rfl, rfl⟩
        · exact absurd ⟨d1, d2⟩ (k2 _)
end
/-! ### spread -/
theorem vals_set (cur : List Val) {i : Nat} (hi : i < cur.length) (v : Val) :
    (((⟨valsL cur⟩ : Array Value).setIfInBounds (i * 3) (.int .i64 v.1)).setIfInBounds (i * 3 + 1) (.int .i64 v.2.1)).setIfInBounds (i * 3 + 2) (.string v.2.2) = ⟨valsL (cur.set i v)⟩ := by
  apply Array.ext'
  simp only [Array.toList_setIfInBounds]
  apply List.ext_getElem?
  intro j
  have hl := vals_len cur
  have hl2 := vals_len (cur.set i v)
  rw [List.length_set] at hl2
  by_cases hj : j < cur.length * 3
  · have hq : j / 3 < cur.length := by omega
    have e : j = j / 3 * 3 + j % 3 := by omega
    have g1 := vals_get cur (j / 3) (j % 3) hq (by omega)
    have g2 := vals_get (cur.set i v) (j / 3) (j % 3) (by rw [List.length_set]; exact hq) (by omega)
    rw [← e] at g1 g2
    rw [g2]
    simp only [List.getElem?_set, List.length_set, hl]
    by_cases hji : j / 3 = i
    · subst hji
      simp only [List.getElem_set_self]
      rcases (by omega : j % 3 = 0 ∨ j % 3 = 1 ∨ j % 3 = 2) with h | h | h
      · rw [h] at e ⊢
        rw [if_neg (by omega), if_neg (by omega), if_pos (by omega), if_pos (by omega)]; rfl
      · rw [h] at e ⊢
        rw [if_neg (by omega), if_pos (by omega), if_pos (by omega)]; rfl
      · rw [h] at e ⊢
        rw [if_pos (by omega), if_pos (by omega)]; rfl
    · rw [if_neg (by omega), if_neg (by omega), if_neg (by omega), g1]
      rw [List.getElem_set_ne (fun h => hji h.symm)]
  · rw [List.getElem?_eq_none (by simp only [List.length_set, hl]; omega), List.getElem?_eq_none (by rw [hl2]; omega)]
theorem vals_zero (n : Nat) : madeCells (Value.agg #[.int .i64 0, .int .i64 0, .string ⟨#[]⟩]).cells (n * 3) = ⟨valsL (List.replicate n (0, 0, E0))⟩ := by
  apply Array.ext'
  apply List.ext_getElem?
  intro j
  by_cases hj : j < n * 3
  · have g2 := vals_get (List.replicate n (0, 0, E0)) (j / 3) (j % 3) (by rw [List.length_replicate]; omega) (by omega)
    have e : j / 3 * 3 + j % 3 = j := by omega
    rw [e] at g2
    rw [g2, List.getElem_replicate]
    have hc : (Value.agg #[.int .i64 0, .int .i64 0, .string ⟨#[]⟩]).cells = #[.int .i64 0, .int .i64 0, .string ⟨#[]⟩] := rfl
    rw [hc]
    have hsz : (#[Value.int .i64 0, .int .i64 0, .string ⟨#[]⟩] : Array Value).size = 3 := rfl
    rcases (by omega : j % 3 = 0 ∨ j % 3 = 1 ∨ j % 3 = 2) with h | h | h <;> simp [madeCells, hj, h, valC]
  · rw [List.getElem?_eq_none (by rw [Array.length_toList, madeCells_size]; omega), List.getElem?_eq_none (by rw [vals_len, List.length_replicate]; omega)]
/-- what may be read, in new memory -/
structure RdN (w w' : World) (a : Option Addr) (xs : List Value) : Prop where
  rd : Rd w' a xs
  new : ∀ k, rowB a = some k → w.heap.size ≤ k
theorem RdN.nil (w w' : World) : RdN w w' none [] := ⟨Rd.nil _ _, fun k hk => by cases hk⟩
theorem RdN.grown {w w' w2 : World} {a : Option Addr} {xs : List Value} (h : RdN w w' a xs) (B : Below w'.heap.size w' w2) : RdN w w2 a xs := ⟨h.rd.grown B, h.new⟩
theorem RdN.before {w0 w w' : World} {a : Option Addr} {xs : List Value} (h : RdN w w' a xs) (B : Below w0.heap.size w0 w) : RdN w0 w' a xs := ⟨h.rd, fun k hk => Nat.le_trans B.size (h.new k hk)⟩
/-- what spread hands back -/
def SprV (bits : List Nat) (vs : List Val) (w w' : World) (v : Value) : Prop :=
  ∃ (os : List Val) (a : Option Addr) (c : Nat) (ok : Bool), v = .tuple #[.slice a os.length c, .bool ok] ∧ RdN w w' a (valsL os) ∧ Below w.heap.size w w' ∧ os.length ≤ 4096 ∧ (∀ v ∈ os, ValOk v) ∧
    ∀ ls, bits = bitsN ls → vs = fullL ls → (∀ v ∈ ls, v.1 = 0 → v = (0, 0, E0)) → ok = true ∧ os = ls
theorem sto_at {w : World} {b : Nat} {cs : Array Value} {t : TypeId} (hb : w.heap[b]? = some (.cells cs t (0, 0))) {p : Addr} {i : Nat} (hp : p = ⟨b, i, none⟩) {v : Value} {k : World → Prop} (hi : i < cs.size)
    (hk : ∀ w', Keeps (· = b) w w' → w'.heap[b]? = some (.cells (cs.setIfInBounds i v) t (0, 0)) → k w') : STO p v k w := by
  subst hp
  exact sto_blk hb hi hk
section
variable {w : World} {a a2 : Option Addr} {c c2 : Nat} {bits : List Nat} {vs : List Val}
theorem chunk_spread_ok (hb : Rd w a (bits.map u64V)) (hv : Rd w a2 (valsL vs)) (hn : bits.length ≤ 4096) (hvn : vs.length ≤ 4096) (hok : ∀ v ∈ vs, ValOk v) :
    Calls Tryz.prog f.chunk_spread #[.slice a bits.length c, .slice a2 vs.length c2] w (Ret fun v w' => SprV bits vs w w' v) := by
  apply R.chunk_spread_calls
  unfold R.chunk_spread
  refine make_new tVals (l := (bits.length : Int)) (c := (bits.length : Int)) (by omega) (by omega) (by omega) (by omega) fun bo w1 hbo B1 hO1 => ?_
  rw [Int.toNat_natCast, vals_zero] at hO1
  rw [Int.toNat_natCast]
  have low : ∀ {w' : World}, Keeps (fun k => k = bo) w1 w' → Below w.heap.size w w' := fun K => B1.trans (K.below B1.size fun k hk h => by omega)
  refine ⟨_, _, _, rfl, fun s w2 => ∃ (at_ i : Nat) (cur : List Val), s = [.int .i64 (at_ : Int), .int .i64 (i : Int)] ∧ i ≤ bits.length ∧ at_ ≤ vs.length ∧ cur.length = bits.length ∧ (∀ v ∈ cur, ValOk v) ∧ Keeps (fun k => k = bo) w1 w2 ∧ w2.heap[bo]? = some (.cells ⟨valsL cur⟩ ty.api_Value (0, 0)) ∧
      (∀ ls, bits = bitsN ls → vs = fullL ls → (∀ v ∈ ls, v.1 = 0 → v = (0, 0, E0)) → at_ = (fullL (ls.take i)).length ∧ cur = ls.take i ++ List.replicate (bits.length - i) (0, 0, E0)), fun s _ => match s with
      | [_, .int _ i] => bits.length - i.toNat
      | _ => 0, ⟨0, 0, _, rfl, by omega, by omega, by simp, ?_, .refl _ _, hO1, fun ls _ _ _ => ⟨rfl, by simp⟩⟩, ?_⟩
  · intro v hv
    rw [(List.mem_replicate.1 hv).2]
    exact ⟨by simp, by simp⟩
  rintro _ _ w2 ⟨at_, i, cur, hst, hi, hat, hcl, hcok, K2, hO2, hT⟩
  cases hst
  have B2 := low K2
  have blen : ∀ {ls : List Val}, bits = bitsN ls → ls.length = bits.length := fun h => by rw [h]; simp [bitsN]
  refine IFB_dec (fun hlt => ⟨⟨by omega, hlt⟩, ?_⟩) (fun hge => ?_)
  · have hil : i < bits.length := by omega
    have hic : i < cur.length := by omega
    obtain ⟨p, rfl, hcell⟩ := num_at (hb.grown B2) hil
    refine ⟨_, by rw [Int.toNat_natCast]; exact hcell, ?_⟩
    have mes : bits.length - ((i + 1 : Nat) : Int).toNat < bits.length - ((i : Nat) : Int).toNat := by
      simp only [Int.toNat_natCast]
      omega
    have bit : ∀ {ls : List Val} (h : bits = bitsN ls) (hl : i < ls.length), bits[i] = if ls[i].1 = 0 then 1 else 0 := by
      intro ls h hl
      subst h
      simp [bitsN]
    rw [wrap_succ (k := i) (by omega)]
    refine IFB_eq (fun h1 => ?_) (fun h1 => IFB_eq (fun hend => ?_) (fun hne => ?_))
    · refine ⟨⟨at_, i + 1, cur, rfl, by omega, hat, hcl, hcok, K2, hO2, fun ls g1 g2 g3 => ?_⟩, mes⟩
      obtain ⟨t1, t2⟩ := hT ls g1 g2 g3
      have hl := blen g1
      have hl' : i < ls.length := by omega
      have hb1 := bit g1 hl'
      have hz : ls[i].1 = 0 := by
        by_cases hz : ls[i].1 = 0
        · exact hz
        · rw [if_neg hz] at hb1; omega
      refine ⟨by rw [t1, fullL_take hl', if_pos hz, List.append_nil], ?_⟩
      rw [t2, List.take_succ_eq_append_getElem hl', g3 _ (List.getElem_mem hl') hz, List.append_assoc]
      congr 1
      rw [show bits.length - i = (bits.length - (i + 1)) + 1 by omega, List.replicate_succ]
      rfl
    · refine ⟨[], none, 0, false, rfl, RdN.nil _ _, B2, by simp, by simp, fun ls g1 g2 g3 => ?_⟩
      exfalso
      obtain ⟨t1, t2⟩ := hT ls g1 g2 g3
      have hl := blen g1
      have hl' : i < ls.length := by omega
      have hb1 := bit g1 hl'
      have hnz : ¬ ls[i].1 = 0 := fun hz => by rw [if_pos hz] at hb1; omega
      have hle : (fullL (ls.take (i + 1))).length ≤ (fullL ls).length := by
        unfold fullL
        exact ((List.take_sublist (i + 1) ls).filter _).length_le
      rw [fullL_take hl', if_neg hnz, List.length_append, ← t1, ← g2] at hle
      simp at hle
      omega
    · have hav : at_ < vs.length := by omega
      obtain ⟨p2, hp2, c0, c1, c2⟩ := val_at (hv.grown B2) hav
      subst hp2
      refine ⟨⟨by omega, by omega⟩, _, by rw [Int.toNat_natCast]; exact c0, _, by rw [Int.toNat_natCast]; exact c1, _, by rw [Int.toNat_natCast]; exact c2, ⟨by omega, by omega⟩, ?_⟩
      rw [Int.toNat_natCast]
      have hsz : (⟨valsL cur⟩ : Array Value).size = bits.length * 3 := by
        show (valsL cur).length = _
        rw [vals_len, hcl]
      refine sto_at hO2 (p := (⟨bo, 0, none⟩ : Addr).add (i * 3)) (i := i * 3) (by rw [addr_add_blk]; simp) (by omega) fun w3 K3 hO3 => ?_
      refine sto_at hO3 (p := ((⟨bo, 0, none⟩ : Addr).add (i * 3)).add 1) (i := i * 3 + 1) (by rw [addr_add_blk, addr_add_blk]; simp) (by simp only [Array.size_setIfInBounds]; omega) fun w4 K4 hO4 => ?_
      refine sto_at hO4 (p := ((⟨bo, 0, none⟩ : Addr).add (i * 3)).add 2) (i := i * 3 + 2) (by rw [addr_add_blk, addr_add_blk]; simp) (by simp only [Array.size_setIfInBounds]; omega) fun w5 K5 hO5 => ?_
      rw [vals_set cur hic] at hO5
      rw [wrap_succ (by omega)]
      refine ⟨⟨at_ + 1, i + 1, cur.set i vs[at_], rfl, by omega, by omega, by rw [List.length_set]; exact hcl, ?_, ((K2.trans K3 (fun _ _ h => h)).trans K4 (fun _ _ h => h)).trans K5 (fun _ _ h => h), hO5, fun ls g1 g2 g3 => ?_⟩, mes⟩
      · intro v hv'
        rcases List.mem_or_eq_of_mem_set hv' with h | h
        · exact hcok v h
        · rw [h]; exact hok _ (List.getElem_mem hav)
      · obtain ⟨t1, t2⟩ := hT ls g1 g2 g3
        have hl := blen g1
        have hl' : i < ls.length := by omega
        have hb1 := bit g1 hl'
        have hnz : ¬ ls[i].1 = 0 := fun hz => by rw [if_pos hz] at hb1; omega
        have hft := fullL_take hl'
        rw [if_neg hnz] at hft
        refine ⟨by rw [t1, hft, List.length_append]; rfl, ?_⟩
        have hv2 : vs[at_] = ls[i] := by
          have hpre : fullL (ls.take (i + 1)) <+: fullL ls := by
            unfold fullL
            exact (List.take_prefix (i + 1) ls).filter _
          rw [hft] at hpre
          obtain ⟨r, hr⟩ := hpre
          have hv? : vs[at_]? = some ls[i] := by
            rw [g2, ← hr, List.append_assoc, t1]
            simp
          rw [List.getElem?_eq_getElem hav] at hv?
          exact Option.some.inj hv?
        rw [hv2, t2, List.take_succ_eq_append_getElem hl']
        have htl : (ls.take i).length = i := by rw [List.length_take]; omega
        rw [List.set_append_right _ _ (by omega), htl, Nat.sub_self, show bits.length - i = (bits.length - (i + 1)) + 1 by omega, List.replicate_succ, List.set_cons_zero, List.append_assoc]
        rfl
  · refine ⟨cur, some ⟨bo, 0, none⟩, bits.length, _, by rw [hcl], ?_, B2, by omega, hcok, fun ls g1 g2 g3 => ?_⟩
    · exact ⟨Rd.of_block0 hO2, fun k hk => by cases hk; exact hbo⟩
    · obtain ⟨t1, t2⟩ := hT ls g1 g2 g3
      have hl := blen g1
      have hie : ls.take i = ls := List.take_of_length_le (by omega)
      rw [hie] at t1 t2
      refine ⟨by rw [g2, t1]; simp, ?_⟩
      rw [t2, show bits.length - i = 0 by omega]
      simp
end
end Go.Proofs.YtipgnehlihmdhaaGreatDoor

/-
  A schema out of bytes: both sides.
-/
namespace Go.Proofs.YtipgnehlihmdhaaGreatDoor
open Go.Dn Go.Proofs
open Go.RowKit (Below)
set_option maxRecDepth 100000
set_option linter.unusedVariables false

def colsI (a : Option Addr) (c : Nat) (cs : List Col) : It := It.row ty.api_Column 3 a cs.length c (colsL cs)
theorem tCols : slT Tryz.prog ty.L_api_Column = some (ty.api_Column, 3, 32, .agg #[.string ⟨#[]⟩, .int .i64 0, .bool false]) := by kernel_rfl
section
variable {w0 w : World} {H : List It} {a : Option Addr} {c : Nat} {cs : List Col}
theorem stRdC (S : ST w0 w H) (n : Nat) (hn : H[n]? = some (colsI a c cs)) : Rd w a (colsL cs) := S.rd n hn
theorem stAppC (S : ST w0 w H) (n : Nat) (hn : H[n]? = some (colsI a c cs)) {x : Col} {b : Nat} (hs : Rd w (some ⟨b, 0, none⟩) (colC x)) (hl : cs.length + 1 ≤ 1000000) {f : Value → World → Prop}
    (hf : ∀ a' c' w', ST w0 w' (H.set n (colsI a' c' (cs ++ [x]))) → f (.slice a' (cs ++ [x]).length c') w') :
    OPR Tryz.prog (Builtin.append_ #[ty.L_api_Column, ty.L_api_Column] ty.L_api_Column #[.slice a cs.length c, .slice (some ⟨b, 0, none⟩) 1 1]) f w := by
  refine S.app n hn tCols rfl (by omega) (by omega) hs (mm := 1) rfl (by simp [colC]; exact ⟨rfl, rfl, rfl⟩) (by omega) fun a' c' w' S' => ?_
  have e1 : (cs ++ [x]).length = cs.length + 1 := by simp
  have e2 : colsL cs ++ colC x = colsL (cs ++ [x]) := by simp [colsL]
  rw [e2] at S'
  have := hf a' c' w' (by unfold colsI; rw [e1]; exact S')
  rwa [e1] at this
end
def takeCols (l : List UInt8) (at_ : Nat) : Nat → Option (List Col × Nat)
  | 0 => some ([], at_)
  | n + 1 => match takeT l (at_ : Int) 24 with
    | none => none
    | some x => if l.length - x.2 < 2 ∨ 1 < (l.getD (x.2 + 1) 0).toNat then none else
      (takeCols l (x.2 + 2) n).map fun r => ((sof x.1, ((l.getD x.2 0).toNat : Int), (l.getD (x.2 + 1) 0).toNat == 1) :: r.1, r.2)
def takeSch (l : List UInt8) (at_ : Int) : Option (List Col × Nat) :=
  match takeN l at_ with
  | none => none
  | some x => if 16 < x.1 then none else match takeCols l x.2 x.1 with
    | none => none
    | some r => if rightCols r.1 then some r else none
theorem takeT_len {l : List UInt8} {at_ : Int} {most : Nat} {s : List UInt8} {k : Nat} (h : takeT l at_ most = some (s, k)) : s.length ≤ l.length := by
  unfold takeT at h
  split at h
  · split at h
    · cases h
    · simp only [Option.some.injEq, Prod.mk.injEq] at h
      obtain ⟨rfl, _⟩ := h
      rw [List.length_take, List.length_drop]
      omega
  · cases h
/-- what Take hands back -/
def SchTV (o : Option (List Col × Nat)) (w w' : World) (v : Value) : Prop :=
  match o with
  | none => v = .tuple #[.slice none 0 0, .int .i64 0, .int .i64 52] ∧ Below w.heap.size w w'
  | some r => ∃ a c, v = .tuple #[.slice a r.1.length c, .int .i64 (r.2 : Int), .int .i64 0] ∧ ST w w' [colsI a c r.1]
theorem SchTV.bad {o : Option (List Col × Nat)} {w w' : World} (h : o = none) (B : Below w.heap.size w w') : SchTV o w w' (.tuple #[.slice none 0 0, .int .i64 0, .int .i64 52]) := by
  subst h
  exact ⟨rfl, B⟩
section
variable {w : World} {a : Option Addr} {c : Nat} {l : List UInt8}
/-- at a column: what the bytes behind its name are -/
theorem col_bytes (hl : Rd w a (l.map byteV)) {k : Nat} (h : 2 ≤ l.length - k) : ∃ p, a = some p ∧ w.cell? (p.add (k * 1)) = some (.int .u8 ((l.getD k 0).toNat : Int)) ∧ w.cell? (p.add ((k + 1) * 1)) = some (.int .u8 ((l.getD (k + 1) 0).toNat : Int)) := by
  have h1 : k < l.length := by omega
  have h2 : k + 1 < l.length := by omega
  obtain ⟨p, rfl, c1⟩ := byte_at hl h1
  obtain ⟨p', hp, c2⟩ := byte_at hl h2
  cases hp
  exact ⟨p, rfl, by rw [c1]; simp [List.getD, h1], by rw [c2]; simp [List.getD, h2]⟩
theorem schema_Take_ok (hl : Rd w a (l.map byteV)) (hc : l.length ≤ c) (hs : l.length ≤ 140737488355328) (at_ : Int) :
    Calls Tryz.prog f.schema_Take #[.slice a l.length c, .int .i64 at_] w (Ret fun v w' => SchTV (takeSch l at_) w w' v) := by
  apply R.schema_Take_calls
  unfold R.schema_Take
  refine (wire_TakeNumber_ok hl hc (by omega) at_).mono ?_
  rintro _ w1 ⟨_, rfl, rfl, rfl⟩
  cases hx : takeN l at_ with
  | none => exact ⟨_, _, _, rfl, IFB_ne (fun _ => .bad (by simp [takeSch, hx]) (.refl _ _)) (fun h => by cases h)⟩
  | some x =>
    obtain ⟨n, at0⟩ := x
    obtain ⟨hn, _, _, hb2, _⟩ := takeN_bounds hx
    refine ⟨_, _, _, rfl, IFB_ne (fun h => absurd rfl h) (fun _ => IFB_dec (fun h => .bad ?_ (.refl _ _)) (fun h16 => ?_))⟩
    · have : 16 < n := by simp only at h; omega
      simp [takeSch, hx, this]
    have h16' : n ≤ 16 := by simp only at h16; omega
    have hT : takeSch l at_ = match takeCols l at0 n with
      | none => none
      | some r => if rightCols r.1 then some r else none := by
      have : ¬ 16 < n := by omega
      simp [takeSch, hx, this]
    rw [hT]
    refine ⟨fun s w2 => ∃ (i at1 : Nat) (cs : List Col) (ca : Option Addr) (cc : Nat), s = [.int .i64 (at1 : Int), .slice ca cs.length cc, .int .u64 (i : Int)] ∧ i ≤ n ∧ cs.length = i ∧ at1 ≤ l.length ∧ (∀ c ∈ cs, c.1.size ≤ 9223372036854775807) ∧
        takeCols l at0 n = ((takeCols l at1 (n - i)).map fun r => (cs ++ r.1, r.2)) ∧ ST w1 w2 [colsI ca cc cs], fun s _ => match s with
      | [_, _, .int _ i] => n - i.toNat
      | _ => 0, ⟨0, at0, [], none, 0, rfl, by omega, rfl, by omega, by simp, by simp, (ST.start w1).nil _ _⟩, ?_⟩
    rintro _ ca _ cc _ w2 ⟨i, at1, cs, _, _, hst, hi, hci, hat, hq, hrel, S⟩
    cases hst
    refine IFB_dec (fun hlt => ?_) (fun hge => ?_)
    · obtain ⟨m, hm⟩ : ∃ m, n - i = m + 1 := ⟨n - i - 1, by simp only at hlt; omega⟩
      rw [hm] at hrel
      have hl2 := hl.grown S.bel
      refine (wire_TakeText_any hl2 hc (by omega) (at1 : Int) 24).mono ?_
      rintro _ w3 ⟨_, rfl, rfl, rfl⟩
      cases ht : takeT l (at1 : Int) 24 with
      | none =>
        refine ⟨_, _, _, rfl, IFB_ne (fun _ => .bad ?_ S.bel) (fun h => by cases h)⟩
        rw [hrel]
        simp [takeCols, ht]
      | some x =>
        obtain ⟨nm, k⟩ := x
        have hk := takeT_le ht
        have hnm := takeT_len ht
        refine ⟨_, _, _, rfl, IFB_ne (fun h => absurd rfl h) (fun _ => ?_)⟩
        simp only
        rw [wrap_i64 (n := (l.length : Int) - (k : Int)) (by omega) (by omega), wrap_succ (k := k) (by omega)]
        refine IFB_dec (fun h2 => .bad ?_ S.bel) (fun h2 => ?_)
        · rw [hrel]
          have : l.length - k < 2 := by omega
          simp [takeCols, ht, this]
        obtain ⟨p, rfl, d0, d1⟩ := col_bytes hl2 (k := k) (by omega)
        refine ⟨⟨by omega, by omega⟩, _, by rw [Int.toNat_natCast]; exact d1, IFB_dec (fun h3 => .bad ?_ S.bel) (fun h3 => S.draw fun w4 B4 S => ?_)⟩
        · rw [hrel]
          have : l.length - k < 2 ∨ 1 < (l.getD (k + 1) 0).toNat := .inr (by omega)
          simp only [takeCols, ht, if_pos this, Option.map_none]
        have hl4 := hl2.grown B4
        obtain ⟨p', hp', d0, d1⟩ := col_bytes hl4 (k := k) (by omega)
        cases hp'
        have hby := (l.getD k 0).toNat_lt
        refine ⟨⟨by omega, by omega⟩, ⟨by omega, by omega⟩, _, by rw [Int.toNat_natCast]; exact d0, _, by rw [Int.toNat_natCast]; exact d1, ?_⟩
        rw [wrap_i64 (n := ((l.getD k 0).toNat : Int)) (by omega) (by omega), wrap_i64 (n := (k : Int) + 2) (by omega) (by omega), wrap_u64_id (n := (i : Int) + 1) (by omega) (by simp only at hlt; omega)]
        obtain ⟨x, hx⟩ : ∃ x : Col, x = (sof nm, ((l.getD k 0).toNat : Int), (l.getD (k + 1) 0).toNat == 1) := ⟨_, rfl⟩
        refine S.newB fun b21 w5 _ _ S => ?_
        have hsrc : Rd w5 (some ⟨b21, 0, none⟩) (colC x) := by
          have h := S.rdc 0 rfl
          have e : (((l.getD (k + 1) 0).toNat : Int) == 1) = ((l.getD (k + 1) 0).toNat == 1) := by rw [Bool.eq_iff_iff]; simp; omega
          rw [e] at h
          rw [hx]
          exact h
        refine stAppC S 1 rfl hsrc (by simp only at hlt; omega) fun a6 c6 w6 S => ⟨_, _, _, rfl, ?_⟩
        refine ⟨⟨i + 1, k + 2, cs ++ [x], a6, c6, ?_, by simp only at hlt; omega, by simp [hci], by omega, ?_, ?_, S.drop 1⟩, ?_⟩
        · simp only [List.length_append, List.length_cons, List.length_nil, List.cons.injEq, Value.int.injEq, true_and, and_true]
          constructor <;> omega
        · intro c hc
          rcases List.mem_append.1 hc with h | h
          · exact hq c h
          · rw [List.mem_singleton.1 h, hx]
            show (sof nm).size ≤ _
            rw [size_sof]
            omega
        · rw [hrel, show n - (i + 1) = m by omega]
          have h2' : ¬ (l.length - k < 2 ∨ 1 < (l.getD (k + 1) 0).toNat) := by omega
          simp only [takeCols, ht, h2', if_false, Option.map_map]
          congr 1
          funext r
          simp [hx]
        · show n - ((i : Int) + 1).toNat < n - (i : Int).toNat
          simp only at hlt
          omega
    · have : n - i = 0 := by simp only at hge; omega
      rw [this] at hrel
      simp only [takeCols, Option.map_some, List.append_nil] at hrel
      rw [hrel]
      refine (schema_Right_ok (stRdC S 0 rfl) (by omega) hq).mono ?_
      rintro _ w7 ⟨_, rfl, rfl, B7⟩
      refine ⟨_, rfl, IFB_not (IFB_of (fun hR => ?_) (fun hR => .bad (by simp [hR]) (S.grown B7).bel))⟩
      simp only [hR, if_true]
      exact ⟨ca, cc, rfl, S.grown B7⟩
end
end Go.Proofs.YtipgnehlihmdhaaGreatDoor

/-
  Values: which may be, how two stand, which text one is.
-/
namespace Go.Proofs.YtipgnehlihmdhaaGreatDoor
open Go.Dn Go.Proofs
open Go.RowKit (Below)
set_option linter.unusedVariables false
set_option maxRecDepth 20000

/-! ### the order -/
def compI (x y : Int) : Int := if x < y then -1 else if x > y then 1 else 0
def cmpV (a b : Val) : Int :=
  if compI a.1 b.1 ≠ 0 then compI a.1 b.1 else if compI a.2.1 b.2.1 ≠ 0 then compI a.2.1 b.2.1 else Lib.compareBytes (bl a.2.2) (bl b.2.2)

theorem cmp_isNaN64 (w : World) (x : Int) : Calls Tryz.prog f.cmp_isNaN_int64 #[.int .i64 x] w (Ret fun r w' => r = .bool false ∧ w' = w) := by
  apply R.cmp_isNaN_int64_calls
  exact ⟨by simp, rfl⟩
theorem cmp_Compare64 (w : World) (x y : Int) : Calls Tryz.prog f.cmp_Compare_int64 #[.int .i64 x, .int .i64 y] w (Ret fun r w' => r = .int .i64 (compI x y) ∧ w' = w) := by
  apply R.cmp_Compare_int64_calls
  unfold R.cmp_Compare_int64
  refine (cmp_isNaN64 w x).mono ?_
  rintro _ w ⟨_, rfl, rfl, rfl⟩
  refine ⟨_, rfl, (cmp_isNaN64 w y).mono ?_⟩
  rintro _ w ⟨_, rfl, rfl, rfl⟩
  refine ⟨_, rfl, IFB_false (IFB_false (IFB_dec (fun h => ⟨?_, rfl⟩) (fun h => IFB_dec (fun h2 => ⟨?_, rfl⟩) (fun h2 => ⟨?_, rfl⟩))))⟩
  · simp [compI, h]
  · simp [compI, h, h2]
  · simp [compI, h, h2]
theorem cmp_isNaNI (w : World) (x : Int) : Calls Tryz.prog f.cmp_isNaN_int #[.int .i64 x] w (Ret fun r w' => r = .bool false ∧ w' = w) := by
  apply R.cmp_isNaN_int_calls
  unfold R.cmp_isNaN_int
  exact ⟨by simp, rfl⟩
theorem cmpInt (x y : Int) (w : World) : Calls Tryz.prog f.cmp_Compare_int #[.int .i64 x, .int .i64 y] w fun e w' => e = .returned (.int .i64 (compI x y)) ∧ w' = w := by
  have h : Calls Tryz.prog f.cmp_Compare_int #[.int .i64 x, .int .i64 y] w (Ret fun r w' => r = .int .i64 (compI x y) ∧ w' = w) := by
    apply R.cmp_Compare_int_calls
    unfold R.cmp_Compare_int
    refine (cmp_isNaNI w x).mono ?_
    rintro _ w ⟨_, rfl, rfl, rfl⟩
    refine ⟨_, rfl, (cmp_isNaNI w y).mono ?_⟩
    rintro _ w ⟨_, rfl, rfl, rfl⟩
    refine ⟨_, rfl, IFB_false (IFB_false (IFB_dec (fun h => ⟨?_, rfl⟩) (fun h => IFB_dec (fun h2 => ⟨?_, rfl⟩) (fun h2 => ⟨?_, rfl⟩))))⟩
    · simp [compI, h]
    · simp [compI, h, h2]
    · simp [compI, h, h2]
  refine h.mono ?_
  rintro _ _ ⟨_, rfl, rfl, rfl⟩
  exact ⟨rfl, rfl⟩
theorem cmp_Or3 {w : World} {b : Nat} {t : TypeId} (x y z : Int) (hb : w.heap[b]? = some (.cells #[.int .i64 x, .int .i64 y, .int .i64 z] t (0, 0))) :
    Calls Tryz.prog f.cmp_Or_int #[.slice (some ⟨b, 0, none⟩) 3 3] w (Ret fun r w' => r = .int .i64 (if x ≠ 0 then x else if y ≠ 0 then y else z) ∧ w' = w) := by
  apply R.cmp_Or_int_calls
  unfold R.cmp_Or_int
  have cell : ∀ (k : Nat) (v : Value), [Value.int .i64 x, .int .i64 y, .int .i64 z][k]? = some v → w.cell? ((⟨b, 0, none⟩ : Addr).add ((k : Int).toNat * 1)) = some v := by
    intro k v hv
    rw [Int.toNat_natCast, Nat.mul_one, addr_add_blk, Nat.zero_add]
    simp only [World.cell?, hb]
    simpa using hv
  refine ⟨fun s w1 => w1 = w ∧ (s = [.int .i64 ((0 : Nat) : Int)] ∨ (s = [.int .i64 ((1 : Nat) : Int)] ∧ x = 0) ∨ (s = [.int .i64 ((2 : Nat) : Int)] ∧ x = 0 ∧ y = 0) ∨ (s = [.int .i64 ((3 : Nat) : Int)] ∧ x = 0 ∧ y = 0 ∧ z = 0)),
    fun s _ => match s with
      | [.int _ i] => 3 - i.toNat
      | _ => 0, ⟨rfl, .inl rfl⟩, ?_⟩
  rintro i w1 ⟨rfl, hs⟩
  rcases hs with hs | ⟨hs, h0⟩ | ⟨hs, h0, h1⟩ | ⟨hs, h0, h1, h2⟩
  · cases hs
    refine IFB_true ⟨by decide, _, cell 0 _ rfl, IFB_ne (fun h => ⟨by rw [if_pos h], rfl⟩) (fun h => ?_)⟩
    rw [wrap_succ (by omega)]
    exact ⟨⟨rfl, .inr (.inl ⟨rfl, h⟩)⟩, show 2 < 3 by decide⟩
  · cases hs
    refine IFB_true ⟨by decide, _, cell 1 _ rfl, IFB_ne (fun h => ⟨by rw [if_neg (by omega), if_pos h], rfl⟩) (fun h => ?_)⟩
    rw [wrap_succ (by omega)]
    exact ⟨⟨rfl, .inr (.inr (.inl ⟨rfl, h0, h⟩))⟩, show 1 < 2 by decide⟩
  · cases hs
    refine IFB_true ⟨by decide, _, cell 2 _ rfl, IFB_ne (fun h => ⟨by rw [if_neg (by omega), if_neg (by omega)], rfl⟩) (fun h => ?_)⟩
    rw [wrap_succ (by omega)]
    exact ⟨⟨rfl, .inr (.inr (.inr ⟨rfl, h0, h1, h⟩))⟩, show 0 < 1 by decide⟩
  · cases hs
    exact IFB_false ⟨by rw [if_neg (by omega), if_neg (by omega), h2], rfl⟩

theorem value_Compare_ok (w : World) (a b : Val) : Calls Tryz.prog f.value_Compare #[valV a, valV b] w (Ret fun r w' => r = .int .i64 (cmpV a b) ∧ Below w.heap.size w w') := by
  apply R.value_Compare_calls
  unfold R.value_Compare
  refine (SH.start (fun _ => False) w).newB fun b7 w1 hb7 B1 S1 => S1.newB fun b8 w2 hb8 B2 S2 => S2.drawB fun w3 B3 S3 => ?_
  refine ⟨_, S3.cell 1 rfl rfl, _, S3.cell 0 rfl rfl, _, S3.cell 1 rfl rfl, _, S3.cell 0 rfl rfl, _, S3.cell 1 rfl rfl, _, S3.cell 0 rfl rfl, (cmpInt _ _ w3).mono ?_⟩
  rintro _ w3 ⟨rfl, rfl⟩
  refine ⟨_, rfl, S3.cell 0 rfl rfl, S3.cell 1 rfl rfl, S3.cell 0 rfl rfl, S3.cell 1 rfl rfl, (cmp_Compare64 w3 _ _).mono ?_⟩
  rintro _ w3 ⟨_, rfl, rfl, rfl⟩
  refine ⟨_, rfl, S3.cell 0 rfl rfl, S3.cell 1 rfl rfl, (Tryz.strings_Compare _ _ w3).mono ?_⟩
  rintro _ w3 ⟨rfl, rfl⟩
  refine ⟨_, rfl, S3.newB fun b21 w7 hb21 B7 S7 => (cmp_Or3 _ _ _ (S7.get 0 rfl)).mono ?_⟩
  rintro _ w7 ⟨_, rfl, rfl, rfl⟩
  exact ⟨_, rfl, rfl, S7.below⟩

end Go.Proofs.YtipgnehlihmdhaaGreatDoor

/-
  The order of values: the laws ValueOrders, ValueOne, ValueNumbers.
-/
namespace Go.Dn
end Go.Dn
namespace Go.Proofs.YtipgnehlihmdhaaGreatDoor
open Go.Dn Go.Proofs
open Go.RowKit (Below)
set_option linter.unusedVariables false
set_option maxRecDepth 20000

/-! ### orders -/
structure IsOrd {α : Type} (f : α → α → Int) : Prop where
  neg : ∀ x y, f y x = - f x y
  zero : ∀ x y, f x y = 0 ↔ x = y
  trans : ∀ x y z, f x y ≤ 0 → f y z ≤ 0 → f x z ≤ 0
theorem IsOrd.strict {α : Type} {f : α → α → Int} (h : IsOrd f) (x y z : α) (h1 : f x y < 0) (h2 : f y z ≤ 0) : f x z < 0 := by
  have h3 := h.trans x y z (by omega) h2
  rcases Int.lt_or_eq_of_le h3 with h4 | h4
  · exact h4
  · have := (h.zero x z).1 h4
    subst this
    have := h.neg x y
    omega
theorem ord_int : IsOrd compI := by
  refine ⟨fun x y => ?_, fun x y => ?_, fun x y z => ?_⟩
  · unfold compI
    split <;> split <;> (try split) <;> (try split) <;> omega
  · unfold compI
    split
    · constructor <;> intro h <;> omega
    · split
      · constructor <;> intro h <;> omega
      · constructor <;> intro h <;> omega
  · unfold compI
    intro h1 h2
    split at h1 <;> split at h2 <;> split <;> (try split at h1) <;> (try split at h2) <;> (try split) <;> omega
theorem cb_neg : ∀ x y : List UInt8, Lib.compareBytes y x = - Lib.compareBytes x y
  | [], [] => rfl
  | [], _ :: _ => rfl
  | _ :: _, [] => rfl
  | a :: x, b :: y => by
    simp only [Lib.compareBytes]
    by_cases h1 : a < b
    · have h2 : ¬ b < a := fun h => absurd (UInt8.lt_trans h1 h) (UInt8.lt_irrefl a)
      simp [h1, h2]
    · by_cases h2 : b < a
      · simp [h1, h2]
      · simp [h1, h2, cb_neg x y]
theorem u8_eq {a b : UInt8} (h1 : ¬ a < b) (h2 : ¬ b < a) : a = b := UInt8.le_antisymm (UInt8.not_lt.1 h2) (UInt8.not_lt.1 h1)
theorem cb_zero : ∀ x y : List UInt8, Lib.compareBytes x y = 0 ↔ x = y
  | [], [] => by simp [Lib.compareBytes]
  | [], _ :: _ => by simp [Lib.compareBytes]
  | _ :: _, [] => by simp [Lib.compareBytes]
  | a :: x, b :: y => by
    simp only [Lib.compareBytes]
    by_cases h1 : a < b
    · rw [if_pos h1]
      constructor
      · intro h; cases h
      · intro h; cases h; exact absurd h1 (UInt8.lt_irrefl a)
    · rw [if_neg h1]
      by_cases h2 : b < a
      · rw [if_pos h2]
        constructor
        · intro h; cases h
        · intro h; cases h; exact absurd h2 (UInt8.lt_irrefl a)
      · rw [if_neg h2, cb_zero x y, u8_eq h1 h2]
        simp
theorem cb_trans : ∀ x y z : List UInt8, Lib.compareBytes x y ≤ 0 → Lib.compareBytes y z ≤ 0 → Lib.compareBytes x z ≤ 0
  | [], _, [], _, _ => by simp [Lib.compareBytes]
  | [], _, _ :: _, _, _ => by simp [Lib.compareBytes]
  | _ :: _, [], _, h, _ => by simp [Lib.compareBytes] at h
  | _ :: _, _ :: _, [], _, h => by simp [Lib.compareBytes] at h
  | a :: x, b :: y, c :: z, h1, h2 => by
    simp only [Lib.compareBytes] at h1 h2 ⊢
    by_cases e1 : a < b
    · by_cases e2 : b < c
      · rw [if_pos (UInt8.lt_trans e1 e2)]; decide
      · rw [if_neg e2] at h2
        by_cases e3 : c < b
        · rw [if_pos e3] at h2; omega
        · have := u8_eq e2 e3; subst this
          rw [if_pos e1]; decide
    · rw [if_neg e1] at h1
      by_cases e2 : b < a
      · rw [if_pos e2] at h1; omega
      · have := u8_eq e1 e2
        subst this
        rw [if_neg e2] at h1
        by_cases e3 : a < c
        · rw [if_pos e3]; decide
        · rw [if_neg e3] at h2 ⊢
          by_cases e4 : c < a
          · rw [if_pos e4] at h2; omega
          · rw [if_neg e4] at h2 ⊢
            exact cb_trans x y z h1 h2
def lexF {α β : Type} (f : α → α → Int) (g : β → β → Int) (x y : α × β) : Int := if f x.1 y.1 ≠ 0 then f x.1 y.1 else g x.2 y.2
theorem IsOrd.lex {α β : Type} {f : α → α → Int} {g : β → β → Int} (hf : IsOrd f) (hg : IsOrd g) : IsOrd (lexF f g) := by
  refine ⟨fun x y => ?_, fun x y => ?_, fun x y z => ?_⟩
  · have h1 := hf.neg x.1 y.1
    have h2 := hg.neg x.2 y.2
    unfold lexF
    split <;> split <;> omega
  · have h1 := hf.zero x.1 y.1
    have h2 := hg.zero x.2 y.2
    unfold lexF
    split
    · rename_i h
      constructor
      · intro e; exact absurd e h
      · intro e; rw [e] at h; exact absurd ((hf.zero _ _).2 rfl) h
    · rename_i h
      have e1 : x.1 = y.1 := h1.1 (by omega)
      rw [h2]
      constructor
      · intro e; exact Prod.ext e1 e
      · intro e; rw [e]
  · unfold lexF
    intro a b
    by_cases h1 : f x.1 y.1 = 0
    · have e1 := (hf.zero _ _).1 h1
      rw [if_neg (by omega)] at a
      rw [← e1] at b
      by_cases h2 : f x.1 z.1 = 0
      · rw [if_neg (by omega)] at b ⊢
        exact hg.trans _ _ _ a b
      · rw [if_pos h2] at b ⊢
        exact b
    · rw [if_pos h1] at a
      by_cases h2 : f y.1 z.1 = 0
      · have e2 := (hf.zero _ _).1 h2
        rw [← e2, if_pos h1]
        exact a
      · rw [if_pos h2] at b
        have := hf.strict x.1 y.1 z.1 (by omega) b
        rw [if_pos (by omega)]
        omega
def cmpT (a b : Val) : Int := lexF compI (lexF compI (fun s t => Lib.compareBytes (bl s) (bl t))) a b
theorem cmpV_eq (a b : Val) : cmpV a b = cmpT a b := by
  simp only [cmpV, cmpT, lexF]
theorem ord_str : IsOrd (fun s t : ByteArray => Lib.compareBytes (bl s) (bl t)) :=
  ⟨fun x y => cb_neg _ _, fun x y => (cb_zero _ _).trans ⟨fun h => bl_inj h, fun h => by rw [h]⟩, fun x y z => cb_trans _ _ _⟩
theorem ord_val : IsOrd cmpV := by
  have : cmpV = cmpT := by funext a b; exact cmpV_eq a b
  rw [this]
  exact ord_int.lex (ord_int.lex ord_str)
/-! ### the laws -/
end Go.Proofs.YtipgnehlihmdhaaGreatDoor

/-
  What a column's values lie between: both sides.
-/
namespace Go.Dn
open Go.RowKit (Below)
section
variable {F : Nat → Prop} {w0 w : World} {H : List Ent}
theorem SH.chg (S : SH F w0 w H) (n : Nat) {b : Nat} {cs cs' : Array Value} {t : TypeId} (hn : H[n]? = some (b, cs, t)) {i : Nat} {v : Value} {k : World → Prop} (hi : i < cs.size) (hc : cs.setIfInBounds i v = cs')
    (hk : ∀ w', Keeps (· = b) w w' → SH F w0 w' (H.set n (b, cs', t)) → k w') : STO ⟨b, i, none⟩ v k w := by
  subst hc
  exact S.stoK n hn hi hk
theorem SH.sto7 (S : SH F w0 w H) (n : Nat) {b : Nat} {x0 x1 x2 x3 x4 x5 x6 v0 v1 v2 v3 v4 v5 v6 : Value} {t : TypeId} (hn : H[n]? = some (b, #[x0, x1, x2, x3, x4, x5, x6], t)) {k : World → Prop}
    (hk : ∀ w', Keeps (· = b) w w' → SH F w0 w' (H.set n (b, #[v0, v1, v2, v3, v4, v5, v6], t)) → k w') :
    STO ⟨b, 0, none⟩ v0 (fun w => STO ⟨b, 1, none⟩ v1 (fun w => STO ⟨b, 2, none⟩ v2 (fun w => STO ⟨b, 3, none⟩ v3 (fun w => STO ⟨b, 4, none⟩ v4 (fun w => STO ⟨b, 5, none⟩ v5 (fun w => STO ⟨b, 6, none⟩ v6 k w) w) w) w) w) w) w := by
  have hlt := (List.getElem?_eq_some_iff.1 hn).1
  have tr : ∀ {a c d : World}, Keeps (· = b) a c → Keeps (· = b) c d → Keeps (· = b) a d := fun h h' => h.trans h' (fun _ _ h => h)
  refine S.chg n hn (cs' := #[v0, x1, x2, x3, x4, x5, x6]) (by simp) rfl fun w1 K1 S1 => ?_
  refine S1.chg n (List.getElem?_set_self hlt) (cs' := #[v0, v1, x2, x3, x4, x5, x6]) (by simp) rfl fun w2 K2 S2 => ?_
  rw [List.set_set] at S2
  refine S2.chg n (List.getElem?_set_self hlt) (cs' := #[v0, v1, v2, x3, x4, x5, x6]) (by simp) rfl fun w3 K3 S3 => ?_
  rw [List.set_set] at S3
  refine S3.chg n (List.getElem?_set_self hlt) (cs' := #[v0, v1, v2, v3, x4, x5, x6]) (by simp) rfl fun w4 K4 S4 => ?_
  rw [List.set_set] at S4
  refine S4.chg n (List.getElem?_set_self hlt) (cs' := #[v0, v1, v2, v3, v4, x5, x6]) (by simp) rfl fun w5 K5 S5 => ?_
  rw [List.set_set] at S5
  refine S5.chg n (List.getElem?_set_self hlt) (cs' := #[v0, v1, v2, v3, v4, v5, x6]) (by simp) rfl fun w6 K6 S6 => ?_
  rw [List.set_set] at S6
  refine S6.chg n (List.getElem?_set_self hlt) (cs' := #[v0, v1, v2, v3, v4, v5, v6]) (by simp) rfl fun w7 K7 S7 => ?_
  rw [List.set_set] at S7
  exact hk w7 (tr (tr (tr (tr (tr (tr K1 K2) K3) K4) K5) K6) K7) S7
theorem SH.stoMin (S : SH F w0 w H) (n : Nat) {b : Nat} {x0 x1 x2 x3 x4 x5 x6 v1 v2 v3 : Value} {t : TypeId} (hn : H[n]? = some (b, #[x0, x1, x2, x3, x4, x5, x6], t)) {k : World → Prop}
    (hk : ∀ w', Keeps (· = b) w w' → SH F w0 w' (H.set n (b, #[x0, v1, v2, v3, x4, x5, x6], t)) → k w') : STO ⟨b, 1, none⟩ v1 (fun w => STO ⟨b, 2, none⟩ v2 (fun w => STO ⟨b, 3, none⟩ v3 k w) w) w := by
  have hlt := (List.getElem?_eq_some_iff.1 hn).1
  have tr : ∀ {a c d : World}, Keeps (· = b) a c → Keeps (· = b) c d → Keeps (· = b) a d := fun h h' => h.trans h' (fun _ _ h => h)
  refine S.chg n hn (cs' := #[x0, v1, x2, x3, x4, x5, x6]) (by simp) rfl fun w1 K1 S1 => ?_
  refine S1.chg n (List.getElem?_set_self hlt) (cs' := #[x0, v1, v2, x3, x4, x5, x6]) (by simp) rfl fun w2 K2 S2 => ?_
  rw [List.set_set] at S2
  refine S2.chg n (List.getElem?_set_self hlt) (cs' := #[x0, v1, v2, v3, x4, x5, x6]) (by simp) rfl fun w3 K3 S3 => ?_
  rw [List.set_set] at S3
  exact hk w3 (tr (tr K1 K2) K3) S3
theorem SH.stoMax (S : SH F w0 w H) (n : Nat) {b : Nat} {x0 x1 x2 x3 x4 x5 x6 v4 v5 v6 : Value} {t : TypeId} (hn : H[n]? = some (b, #[x0, x1, x2, x3, x4, x5, x6], t)) {k : World → Prop}
    (hk : ∀ w', Keeps (· = b) w w' → SH F w0 w' (H.set n (b, #[x0, x1, x2, x3, v4, v5, v6], t)) → k w') : STO ⟨b, 4, none⟩ v4 (fun w => STO ⟨b, 5, none⟩ v5 (fun w => STO ⟨b, 6, none⟩ v6 k w) w) w := by
  have hlt := (List.getElem?_eq_some_iff.1 hn).1
  have tr : ∀ {a c d : World}, Keeps (· = b) a c → Keeps (· = b) c d → Keeps (· = b) a d := fun h h' => h.trans h' (fun _ _ h => h)
  refine S.chg n hn (cs' := #[x0, x1, x2, x3, v4, x5, x6]) (by simp) rfl fun w1 K1 S1 => ?_
  refine S1.chg n (List.getElem?_set_self hlt) (cs' := #[x0, x1, x2, x3, v4, v5, x6]) (by simp) rfl fun w2 K2 S2 => ?_
  rw [List.set_set] at S2
  refine S2.chg n (List.getElem?_set_self hlt) (cs' := #[x0, x1, x2, x3, v4, v5, v6]) (by simp) rfl fun w3 K3 S3 => ?_
  rw [List.set_set] at S3
  exact hk w3 (tr (tr K1 K2) K3) S3
end
end Go.Dn
namespace Go.Proofs.YtipgnehlihmdhaaGreatDoor
open Go.Dn Go.Proofs
open Go.RowKit (Below)
set_option linter.unusedVariables false
set_option maxRecDepth 20000

abbrev Z0 : Val := (0, 0, E0)
def zstep (z : Option (Val × Val)) (v : Val) : Option (Val × Val) :=
  if v.1 = 0 then z else match z with
  | none => some (v, v)
  | some p => some (if cmpV v p.1 < 0 then v else p.1, if 0 < cmpV v p.2 then v else p.2)
def zoneS (ls : List Val) : Option (Val × Val) := ls.foldl zstep none
def zmm (ls : List Val) : Val × Val := (zoneS ls).getD (Z0, Z0)
/-- a zone's seven cells -/
def zC (n : Int) (p : Val × Val) : Array Value := #[.int .i64 n, .int .i64 p.1.1, .int .i64 p.1.2.1, .string p.1.2.2, .int .i64 p.2.1, .int .i64 p.2.2.1, .string p.2.2.2]
def zV (n : Int) (p : Val × Val) (e : Int) : Value := .tuple #[.agg (zC n p), .int .i64 e]
theorem zoneS_take {ls : List Val} {i : Nat} (hi : i < ls.length) : zoneS (ls.take (i + 1)) = zstep (zoneS (ls.take i)) ls[i] := by
  unfold zoneS
  rw [List.take_succ_eq_append_getElem hi, List.foldl_append]
  rfl
theorem zone_none {ls : List Val} : ∀ i, i ≤ ls.length → ((zoneS (ls.take i)).isNone = true ↔ (fullL (ls.take i)).length = 0)
  | 0, _ => by simp [zoneS, fullL]
  | i + 1, h => by
    have ih := zone_none (ls := ls) i (by omega)
    have hi : i < ls.length := by omega
    rw [zoneS_take hi, fullL_take hi]
    unfold zstep
    by_cases h0 : ls[i].1 = 0
    · rw [if_pos h0, if_pos h0, List.append_nil]
      exact ih
    · rw [if_neg h0, if_neg h0]
      cases zoneS (ls.take i) <;> simp
theorem zmm_step {ls : List Val} {i : Nat} (hi : i < ls.length) (h0 : ls[i].1 ≠ 0) : zmm (ls.take (i + 1)) = (if (fullL (ls.take i)).length = 0 ∨ cmpV ls[i] (zmm (ls.take i)).1 < 0 then ls[i] else (zmm (ls.take i)).1, if (fullL (ls.take i)).length = 0 ∨ 0 < cmpV ls[i] (zmm (ls.take i)).2 then ls[i] else (zmm (ls.take i)).2) := by
  have hn := zone_none (ls := ls) i (by omega)
  unfold zmm
  rw [zoneS_take hi]
  unfold zstep
  rw [if_neg h0]
  cases hz : zoneS (ls.take i) with
  | none =>
    rw [hz] at hn
    have : (fullL (ls.take i)).length = 0 := hn.1 rfl
    simp [this]
  | some p =>
    rw [hz] at hn
    have : ¬ (fullL (ls.take i)).length = 0 := fun h => by simpa using hn.2 h
    simp [this]
theorem zmm_skip {ls : List Val} {i : Nat} (hi : i < ls.length) (h0 : ls[i].1 = 0) : zmm (ls.take (i + 1)) = zmm (ls.take i) := by
  unfold zmm
  rw [zoneS_take hi]
  unfold zstep
  rw [if_pos h0]
theorem nulls_full (ls : List Val) : nullsN ls + (fullL ls).length = ls.length := by
  induction ls with
  | nil => rfl
  | cons v ls ih =>
    unfold nullsN fullL at ih ⊢
    by_cases h : v.1 = 0
    · simp [h]; omega
    · simp [h]; omega
def zoneOk (ls : List Val) : Prop := ls.length ≤ 1024 ∧ ∀ v ∈ ls, rightB v = true
/-- what Zone hands back -/
def ZoneV (ls : List Val) (r : Value) : Prop := (zoneOk ls ∧ r = zV (nullsN ls : Int) (zmm ls) 0) ∨ (¬ zoneOk ls ∧ r = zV 0 (Z0, Z0) 2)
theorem ZoneV.one {ls : List Val} {r s : Value} (h : ZoneV ls r) (h' : ZoneV ls s) : r = s := by
  rcases h with ⟨h, rfl⟩ | ⟨h, rfl⟩ <;> rcases h' with ⟨k, rfl⟩ | ⟨k, rfl⟩
  · rfl
  · exact absurd h k
  · exact absurd k h
  · rfl
section
variable {w : World} {a : Option Addr} {c : Nat} {ls : List Val}
theorem zone_bad {H : List Ent} {wx : World} {b2 n : Nat} {x : Int} {p : Val × Val} (S : SH (fun _ => False) w wx H) (hn : H[n]? = some (b2, zC x p, ty.api_Zone)) (hno : ¬ zoneOk ls) :
    STO ⟨b2, 0, none⟩ (.int .i64 0) (fun w2 => STO ⟨b2, 1, none⟩ (.int .i64 0) (fun w3 => STO ⟨b2, 2, none⟩ (.int .i64 0) (fun w4 => STO ⟨b2, 3, none⟩ (.string ⟨#[]⟩) (fun w5 => STO ⟨b2, 4, none⟩ (.int .i64 0) (fun w6 => STO ⟨b2, 5, none⟩ (.int .i64 0) (fun w7 => STO ⟨b2, 6, none⟩ (.string ⟨#[]⟩) (fun w8 =>
      ∃ r0 : Int, w8.cell? ⟨b2, 0, none⟩ = some (.int .i64 r0) ∧ ∃ r1 : Int, w8.cell? ⟨b2, 1, none⟩ = some (.int .i64 r1) ∧ ∃ r2 : Int, w8.cell? ⟨b2, 2, none⟩ = some (.int .i64 r2) ∧ ∃ r3 : ByteArray, w8.cell? ⟨b2, 3, none⟩ = some (.string r3) ∧ ∃ r4 : Int, w8.cell? ⟨b2, 4, none⟩ = some (.int .i64 r4) ∧ ∃ r5 : Int, w8.cell? ⟨b2, 5, none⟩ = some (.int .i64 r5) ∧ ∃ r6 : ByteArray, w8.cell? ⟨b2, 6, none⟩ = some (.string r6) ∧
      (fun v w' => ZoneV ls v ∧ Below w.heap.size w w') (.tuple #[.agg #[.int .i64 r0, .int .i64 r1, .int .i64 r2, .string r3, .int .i64 r4, .int .i64 r5, .string r6], .int .i64 2]) w8) w7) w6) w5) w4) w3) w2) wx := by
  have hlt := (List.getElem?_eq_some_iff.1 hn).1
  refine S.sto7 n hn fun w8 K8 S8 => ?_
  have hn8 := List.getElem?_set_self (l := H) (a := (b2, (#[Value.int .i64 0, .int .i64 0, .int .i64 0, .string ⟨#[]⟩, .int .i64 0, .int .i64 0, .string ⟨#[]⟩] : Array Value), ty.api_Zone)) hlt
  exact ⟨_, S8.cell n hn8 rfl, _, S8.cell n hn8 rfl, _, S8.cell n hn8 rfl, _, S8.cell n hn8 rfl, _, S8.cell n hn8 rfl, _, S8.cell n hn8 rfl, _, S8.cell n hn8 rfl, .inr ⟨hno, rfl⟩, S8.below⟩
end
end Go.Proofs.YtipgnehlihmdhaaGreatDoor

/-
  What a column's values lie between: the program's way.
-/
namespace Go.Proofs.YtipgnehlihmdhaaGreatDoor
open Go.Dn Go.Proofs
open Go.RowKit (Below)
set_option linter.unusedVariables false
set_option maxRecDepth 20000
theorem if_left {α : Type} {p q : Prop} [Decidable p] [Decidable (p ∨ q)] (h : p) (x y : α) : (if p ∨ q then x else y) = x := if_pos (.inl h)
section
variable {w : World} {a : Option Addr} {c : Nat} {ls : List Val}
theorem chunk_Zone_ok (hl : Rd w a (valsL ls)) : Calls Tryz.prog f.chunk_Zone #[.slice a ls.length c] w (Ret fun v w' => ZoneV ls v ∧ Below w.heap.size w w') := by
  apply R.chunk_Zone_calls
  unfold R.chunk_Zone
  refine (SH.start (fun _ => False) w).newB fun b2 w1 hb2 B1 S1 => IFB_dec (fun hbig => ?_) (fun hle => ?_)
  · exact zone_bad (p := (Z0, Z0)) (x := 0) S1 (n := 0) rfl (fun h => by have := h.1; omega)
  have hlen : ls.length ≤ 1024 := by omega
  refine S1.newB fun b10 w9 hb10 B9 S9 => S9.sto7 0 rfl fun w16 K16 S16 => ?_
  refine ⟨fun s w17 => ∃ i : Nat, i ≤ ls.length ∧ s = [.int .i64 (i : Int)] ∧ SH (fun _ => False) w w17 [(b10, zC 0 (Z0, Z0), ty.api_Zone), (b2, zC 0 (Z0, Z0), ty.api_Zone)] ∧ ∀ v ∈ ls.take i, rightB v = true, fun s _ => match s with
      | [.int _ i] => ls.length - i.toNat
      | _ => 0, ⟨0, by omega, rfl, S16, by simp⟩, ?_⟩
  rintro _ w17 ⟨i, hi, hst, S17, hall⟩
  cases hst
  refine IFB_dec (fun hlt => ⟨⟨by omega, hlt⟩, ?_⟩) (fun hge => ?_)
  · have hil : i < ls.length := by omega
    obtain ⟨p, rfl, c0, c1, c2⟩ := val_at (hl.grown S17.below) hil
    refine ⟨_, by rw [Int.toNat_natCast]; exact c0, _, by rw [Int.toNat_natCast]; exact c1, _, by rw [Int.toNat_natCast]; exact c2, S17.lit3 fun b17 w21 hb17 B21 S21 => ?_⟩
    refine ⟨_, S21.cell 0 rfl rfl, _, S21.cell 0 rfl rfl, _, S21.cell 0 rfl rfl, (value_Right_ok w21 ls[i]).mono ?_⟩
    rintro _ w22 ⟨_, rfl, rfl, B22⟩
    have S22 := S21.grown B22
    refine ⟨_, rfl, IFB_not (IFB_of (fun hr => ?_) (fun hr => ?_))⟩
    · rw [wrap_succ (by omega)]
      refine ⟨⟨i + 1, by omega, rfl, S22.drop 1, fun v hv => ?_⟩, ?_⟩
      · rw [List.take_succ_eq_append_getElem hil] at hv
        rcases List.mem_append.1 hv with h | h
        · exact hall v h
        · rw [List.mem_singleton.1 h]; exact hr
      · simp only [Int.toNat_natCast]
        omega
    · exact zone_bad (p := (Z0, Z0)) (x := 0) S22 (n := 2) rfl (fun h => by have := h.2 _ (List.getElem_mem hil); rw [this] at hr; cases hr)
  have hie : ls.take i = ls := List.take_of_length_le (by omega)
  rw [hie] at hall
  have hok : zoneOk ls := ⟨hlen, hall⟩
  refine S17.newB fun b30 w30 hb30 B30 S30 => S30.chg 0 rfl (cs' := #[.int .i64 0]) (show 0 < 1 by decide) rfl fun w31 K31 S31 => chunk_full_ok.mono ?_
  rintro _ w32 ⟨_, rfl, bI, rfl, P32⟩
  have S32 : SH (fun _ => False) w w32 [(b30, #[.int .i64 0], ty.int), (b10, zC 0 (Z0, Z0), ty.api_Zone), (b2, zC 0 (Z0, Z0), ty.api_Zone)] := S31.grown P32.below
  refine ⟨_, _, _, rfl, by kernel_rfl, fun rr hst hpe hy => ?_⟩
  obtain ⟨W1, hW1⟩ : ∃ W1, W1 = (w32.alloc (.deferred (some []))).alloc (.loop rr) := ⟨_, rfl⟩
  rw [← hW1]
  have B91 : Below w32.heap.size w32 W1 := by rw [hW1]; exact (((Below.refl _ w32).alloc (Nat.le_refl _) _).alloc (by simp) _)
  have sz1 : W1.heap.size = w32.heap.size + 2 := by rw [hW1]; simp
  have hL1 : W1.heap[w32.heap.size + 1]? = some (.loop rr) := by
    rw [hW1]; have := World.alloc_heap_new (w32.alloc (.deferred (some []))) (.loop rr); rwa [World.size_alloc] at this
  have hD1 : W1.heap[w32.heap.size]? = some (.deferred (some [])) := by
    rw [hW1]; exact (Below.heap_alloc _ _ _ (by simp)).trans (World.alloc_heap_new w32 _)
  obtain ⟨L, hLd⟩ : ∃ L, L = w32.heap.size + 1 := ⟨_, rfl⟩
  rw [← hLd] at hL1 hy ⊢
  have l30 := S32.lt (x := (b30, _, _)) (List.mem_cons_self ..)
  have l10 := S32.lt (x := (b10, _, _)) (List.mem_cons_of_mem _ (List.mem_cons_self ..))
  have l2 := S32.lt (x := (b2, _, _)) (List.mem_cons_of_mem _ (List.mem_cons_of_mem _ (List.mem_cons_self ..)))
  have w0le := S32.below.size
  let H : Nat → List Ent := fun q => [(b30, #[.int .i64 ((fullL (ls.take q)).length : Int)], ty.int), (b10, zC 0 (zmm (ls.take q)), ty.api_Zone), (b2, zC 0 (Z0, Z0), ty.api_Zone)]
  let J : Nat → World → Prop := fun q wx => SH (fun _ => False) w wx (H q) ∧ wx.heap[L]? = some (.loop rr) ∧ wx.heap[w32.heap.size]? = some (.deferred (some []))
  have hI : W1.cell? ⟨bI, 0, none⟩ = some (.slice a ls.length c) := cell0 ((Keeps.of_below (F := fun _ => False) B91).at (P32.get 0 rfl) (by simp))
  have hcall := full_c1_ok (w := W1) (L := L) (b := bI) (by omega) J (fun q wx hj => hl.grown hj.1.below) (fun q wx wy hj B => by
      have K := Keeps.of_below (F := fun _ => False) B
      exact ⟨hj.1.grown B, K.at hj.2.1 (by simp), K.at hj.2.2 (by simp)⟩) (fun q wx hq hz hj => by
      have e1 : H (q + 1) = H q := by
        have := fullL_take hq
        rw [if_pos hz, List.append_nil] at this
        show [(b30, #[Value.int .i64 ((fullL (ls.take (q + 1))).length : Int)], ty.int), (b10, zC 0 (zmm (ls.take (q + 1))), ty.api_Zone), (b2, zC 0 (Z0, Z0), ty.api_Zone)] = _
        rw [this, zmm_skip hq hz]
      exact ⟨by rw [e1]; exact hj.1, hj.2⟩) (by
    rintro q wx hq hne ⟨SJ, hL, hD⟩
    have hfl : (fullL (ls.take q)).length ≤ 1024 := by
      have : (fullL (ls.take q)).length ≤ (ls.take q).length := List.length_filter_le ..
      rw [List.length_take] at this
      omega
    have hnext : H (q + 1) = [(b30, #[.int .i64 (((fullL (ls.take q)).length + 1 : Nat) : Int)], ty.int), (b10, zC 0 (if (fullL (ls.take q)).length = 0 ∨ cmpV ls[q] (zmm (ls.take q)).1 < 0 then ls[q] else (zmm (ls.take q)).1, if (fullL (ls.take q)).length = 0 ∨ 0 < cmpV ls[q] (zmm (ls.take q)).2 then ls[q] else (zmm (ls.take q)).2), ty.api_Zone), (b2, zC 0 (Z0, Z0), ty.api_Zone)] := by
      have e1 := fullL_take hq
      rw [if_neg hne] at e1
      show [(b30, #[Value.int .i64 ((fullL (ls.take (q + 1))).length : Int)], ty.int), (b10, zC 0 (zmm (ls.take (q + 1))), ty.api_Zone), (b2, zC 0 (Z0, Z0), ty.api_Zone)] = _
      rw [zmm_step hq hne, e1, List.length_append]
      rfl
    obtain ⟨n, hnd⟩ : ∃ n, n = (fullL (ls.take q)).length := ⟨_, rfl⟩
    obtain ⟨mm, hmm⟩ : ∃ mm, mm = zmm (ls.take q) := ⟨_, rfl⟩
    have SJ' : SH (fun _ => False) w wx [(b30, #[.int .i64 (n : Int)], ty.int), (b10, zC 0 mm, ty.api_Zone), (b2, zC 0 (Z0, Z0), ty.api_Zone)] := by rw [hnd, hmm]; exact SJ
    rw [← hnd, ← hmm] at hnext
    rw [← hnd] at hfl
    obtain ⟨v, hvd⟩ : ∃ v, v = ls[q] := ⟨_, rfl⟩
    rw [← hvd] at hnext ⊢
    refine hy _ _ _ _ wx hL ?_
    refine SJ'.lit3 fun b37 w37 hb37 B37 S37 => ?_
    have K37 := Keeps.of_below (F := fun _ => False) B37
    have hL37 := K37.at hL (by simp)
    have hD37 := K37.at hD (by simp)
    refine ⟨hL37, ?_⟩
    obtain ⟨wB, hwB⟩ : ∃ wB, wB = w37.putObj L (.loop { rr with state := .busy }) := ⟨_, rfl⟩
    rw [← hwB]
    have hLlt : L < w37.heap.size := (Array.getElem?_eq_some_iff.1 hL37).1
    have hLx : L < wx.heap.size := (Array.getElem?_eq_some_iff.1 hL).1
    have KB : Keeps (fun k => k = L) w37 wB := by rw [hwB]; exact keeps_putObj _ _ _
    have hLB : wB.heap[L]? = some (.loop { rr with state := .busy }) := by rw [hwB]; exact World.putObj_heap_same hLlt
    have hDB := KB.at hD37 (show ¬ w32.heap.size = L by omega)
    have SB : SH (fun _ => False) w wB [(b37, #[.int .i64 v.1, .int .i64 v.2.1, .string v.2.2], ty.api_Value), (b30, #[.int .i64 (n : Int)], ty.int), (b10, zC 0 mm, ty.api_Zone), (b2, zC 0 (Z0, Z0), ty.api_Zone)] := S37.kept KB (by
      intro y hy
      simp only [List.mem_cons, List.not_mem_nil, or_false] at hy
      rcases hy with rfl | rfl | rfl | rfl <;> simp only <;> omega) (fun k hk h => by omega)
    -- what holds at any time of the round
    let G : World → Val → Val → Int → Prop := fun wy mn mx m => SH (fun _ => False) w wy [(b37, #[.int .i64 v.1, .int .i64 v.2.1, .string v.2.2], ty.api_Value), (b30, #[.int .i64 m], ty.int), (b10, zC 0 (mn, mx), ty.api_Zone), (b2, zC 0 (Z0, Z0), ty.api_Zone)] ∧ wy.heap[L]? = some (.loop { rr with state := .busy }) ∧ wy.heap[w32.heap.size]? = some (.deferred (some []))
    have keepG : ∀ {wy wz : World} {b : Nat}, Keeps (· = b) wy wz → b ≠ L → b ≠ w32.heap.size → wy.heap[L]? = some (.loop { rr with state := .busy }) ∧ wy.heap[w32.heap.size]? = some (.deferred (some [])) → wz.heap[L]? = some (.loop { rr with state := .busy }) ∧ wz.heap[w32.heap.size]? = some (.deferred (some [])) :=
      fun K h1 h2 h => ⟨K.at h.1 (fun e => h1 e.symm), K.at h.2 (fun e => h2 e.symm)⟩
    have growG : ∀ {wy wz : World} {mn mx : Val} {m : Int}, G wy mn mx m → Below wy.heap.size wy wz → G wz mn mx m := fun h B => by
      have K := Keeps.of_below (F := fun _ => False) B
      exact ⟨h.1.grown B, K.at h.2.1 (by simp), K.at h.2.2 (by simp)⟩
    have fin : ∀ {wy : World} {mn mx : Val}, G wy mn mx (n : Int) → mn = (if n = 0 ∨ cmpV v mm.1 < 0 then v else mm.1) → mx = (if n = 0 ∨ 0 < cmpV v mm.2 then v else mm.2) →
        ∃ t50 : Int, wy.cell? ⟨b30, 0, none⟩ = some (.int .i64 t50) ∧ STO ⟨b30, 0, none⟩ (.int .i64 (IntKind.i64.wrap (t50 + 1))) (fun w50 => ENDR rr L (fun y w' => y = true ∧ (SH (fun _ => False) w w' (H (q + 1)) ∧ w'.heap[L]? = some (.loop rr) ∧ w'.heap[w32.heap.size]? = some (.deferred (some [])))) none w50) wy := by
      rintro wy mn mx ⟨Sy, Ly⟩ rfl rfl
      refine ⟨_, Sy.cell 1 rfl rfl, ?_⟩
      rw [wrap_succ (by omega)]
      refine Sy.chg 1 rfl (cs' := #[.int .i64 ((n + 1 : Nat) : Int)]) (show 0 < 1 by decide) rfl fun wz Kz Sz => ?_
      obtain ⟨Lz, Dz⟩ := keepG Kz (by omega) (by omega) Ly
      refine ⟨Lz, rfl, ?_⟩
      rw [rr_eta hst hpe]
      have lz : L < wz.heap.size := (Array.getElem?_eq_some_iff.1 Lz).1
      have KP := keeps_putObj wz L (.loop rr)
      refine ⟨?_, World.putObj_heap_same lz, KP.at Dz (show ¬ w32.heap.size = L by omega)⟩
      rw [hnext]
      exact (Sz.drop 1).kept KP (by
        intro y hy
        simp only [List.set_cons_succ, List.set_cons_zero, List.drop_succ_cons, List.drop_zero, List.mem_cons, List.not_mem_nil, or_false] at hy
        rcases hy with rfl | rfl | rfl <;> simp only <;> omega) (fun k hk h => by omega)
    have GB : G wB mm.1 mm.2 (n : Int) := ⟨SB, hLB, hDB⟩
    refine ⟨fun s w46 => s = [] ∧ G w46 (if n = 0 ∨ cmpV v mm.1 < 0 then v else mm.1) mm.2 (n : Int), ?_, ?_⟩
    · refine ⟨_, GB.1.cell 1 rfl rfl, IFB_eq (fun h0 => ?_) (fun h0 => ?_)⟩
      · have hn0 : n = 0 := by omega
        refine ⟨_, GB.1.cell 0 rfl rfl, _, GB.1.cell 0 rfl rfl, _, GB.1.cell 0 rfl rfl, GB.1.stoMin 2 rfl fun w41 K41 S41 => ⟨rfl, ?_⟩⟩
        rw [if_left hn0]
        exact ⟨S41, keepG K41 (by omega) (by omega) GB.2⟩
      · have hn0 : ¬ n = 0 := by omega
        refine ⟨_, GB.1.cell 0 rfl rfl, _, GB.1.cell 0 rfl rfl, _, GB.1.cell 0 rfl rfl, _, GB.1.cell 2 rfl rfl, _, GB.1.cell 2 rfl rfl, _, GB.1.cell 2 rfl rfl, (value_Compare_ok wB v mm.1).mono ?_⟩
        rintro _ w42 ⟨_, rfl, rfl, B42⟩
        have G42 := growG GB B42
        refine ⟨_, rfl, IFB_dec (fun hc => ⟨_, G42.1.cell 0 rfl rfl, _, G42.1.cell 0 rfl rfl, _, G42.1.cell 0 rfl rfl, G42.1.stoMin 2 rfl fun w41 K41 S41 => ⟨rfl, ?_⟩⟩) (fun hc => ⟨rfl, ?_⟩)⟩
        · rw [if_pos (.inr hc)]
          exact ⟨S41, keepG K41 (by omega) (by omega) G42.2⟩
        · rw [if_neg (by omega)]
          exact G42
    rintro w46 ⟨_, G46⟩
    refine ⟨_, G46.1.cell 1 rfl rfl, IFB_eq (fun h0 => ?_) (fun h0 => ?_)⟩
    · have hn0 : n = 0 := by omega
      refine ⟨_, G46.1.cell 0 rfl rfl, _, G46.1.cell 0 rfl rfl, _, G46.1.cell 0 rfl rfl, G46.1.stoMax 2 rfl fun w49 K49 S49 => fin (mx := v) ⟨S49, keepG K49 (by omega) (by omega) G46.2⟩ rfl (by rw [if_left hn0])⟩
    · have hn0 : ¬ n = 0 := by omega
      refine ⟨_, G46.1.cell 0 rfl rfl, _, G46.1.cell 0 rfl rfl, _, G46.1.cell 0 rfl rfl, _, G46.1.cell 2 rfl rfl, _, G46.1.cell 2 rfl rfl, _, G46.1.cell 2 rfl rfl, (value_Compare_ok w46 v mm.2).mono ?_⟩
      rintro _ w51 ⟨_, rfl, rfl, B51⟩
      have G51 := growG G46 B51
      refine ⟨_, rfl, IFB_dec (fun hc => ⟨_, G51.1.cell 0 rfl rfl, _, G51.1.cell 0 rfl rfl, _, G51.1.cell 0 rfl rfl, G51.1.stoMax 2 rfl fun w49 K49 S49 => fin (mx := v) ⟨S49, keepG K49 (by omega) (by omega) G51.2⟩ rfl (by rw [if_pos (.inr (by omega))])⟩) (fun hc => fin G51 rfl (by rw [if_neg (by omega)]))⟩)
    ⟨S32.grown B91, hL1, hD1⟩ hI
  refine hcall.mono ?_
  rintro _ w57 ⟨_, rfl, SJ, hL57, hD57⟩
  have SJ' : SH (fun _ => False) w w57 [(b30, #[.int .i64 ((fullL ls).length : Int)], ty.int), (b10, zC 0 (zmm ls), ty.api_Zone), (b2, zC 0 (Z0, Z0), ty.api_Zone)] := by
    have := SJ
    simp only [H, List.take_length] at this
    exact this
  refine ⟨⟨_, rfl⟩, none, by rw [rr_eta hst hpe]; exact hL57, rfl, ?_⟩
  obtain ⟨w58, hw58⟩ : ∃ w58, w58 = w57.putObj L (.loop { rr with state := .exhausted, pending := none }) := ⟨_, rfl⟩
  rw [← hw58]
  have K58 : Keeps (fun k => k = L) w57 w58 := by rw [hw58]; exact keeps_putObj _ _ _
  have S58 := SJ'.kept K58 (by
    intro y hy
    simp only [List.mem_cons, List.not_mem_nil, or_false] at hy
    rcases hy with rfl | rfl | rfl <;> simp only <;> omega) (fun k hk h => by omega)
  have hD58 := K58.at hD57 (show ¬ w32.heap.size = L by omega)
  have hnf := nulls_full ls
  have en : IntKind.i64.wrap ((ls.length : Int) - ((fullL ls).length : Int)) = (nullsN ls : Int) := by rw [wrap_i64 (by omega) (by omega)]; omega
  refine ⟨_, S58.cell 0 rfl rfl, ?_⟩
  rw [en]
  refine S58.chg 1 rfl (cs' := zC (nullsN ls : Int) (zmm ls)) (show 0 < 7 by decide) rfl fun w59 K59 S59 => ?_
  refine ⟨_, S59.cell 1 rfl rfl, _, S59.cell 1 rfl rfl, _, S59.cell 1 rfl rfl, _, S59.cell 1 rfl rfl, _, S59.cell 1 rfl rfl, _, S59.cell 1 rfl rfl, _, S59.cell 1 rfl rfl, S59.sto7 2 rfl fun w66 K66 S66 => ?_⟩
  have hD66 := K66.at (K59.at hD58 (show ¬ w32.heap.size = b10 by omega)) (show ¬ w32.heap.size = b2 by omega)
  have KP := keeps_putObj w66 w32.heap.size (.deferred none)
  have SP := S66.kept KP (by
    intro y hy
    simp only [List.set_cons_succ, List.set_cons_zero, List.mem_cons, List.not_mem_nil, or_false] at hy
    rcases hy with rfl | rfl | rfl <;> simp only <;> omega) (fun k hk h => by omega)
  exact ⟨hD66, _, SP.cell 2 rfl rfl, _, SP.cell 2 rfl rfl, _, SP.cell 2 rfl rfl, _, SP.cell 2 rfl rfl, _, SP.cell 2 rfl rfl, _, SP.cell 2 rfl rfl, _, SP.cell 2 rfl rfl, .inl ⟨hok, rfl⟩, SP.below⟩
end
end Go.Proofs.YtipgnehlihmdhaaGreatDoor

/-
  What a column's values lie between: the document's way; the laws ChunkZones and ChunkWithin.
-/
namespace Go.Proofs.YtipgnehlihmdhaaGreatDoor
open Go.Dn Go.Proofs
open Go.RowKit (Below)
set_option linter.unusedVariables false
set_option maxRecDepth 20000
section
variable {w : World} {a : Option Addr} {c : Nat} {ls : List Val}
end
theorem ZoneV.open {ls : List Val} {r : Value} (h : ZoneV ls r) : ∃ n p e, r = zV n p e ∧ ((zoneOk ls ∧ n = (nullsN ls : Int) ∧ p = zmm ls ∧ e = 0) ∨ (¬ zoneOk ls ∧ e = 2)) := by
  rcases h with ⟨h, rfl⟩ | ⟨h, rfl⟩
  · exact ⟨_, _, _, rfl, .inl ⟨h, rfl, rfl, rfl⟩⟩
  · exact ⟨_, _, _, rfl, .inr ⟨h, rfl⟩⟩
end Go.Proofs.YtipgnehlihmdhaaGreatDoor

/-
  The law ChunkWithin.
-/
namespace Go.Proofs.YtipgnehlihmdhaaGreatDoor
open Go.Dn Go.Proofs
open Go.RowKit (Below)
set_option linter.unusedVariables false
set_option maxRecDepth 20000
structure Within (ls : List Val) (i : Nat) : Prop where
  all : ∀ v ∈ ls.take i, v.1 ≠ 0 → 0 ≤ cmpV v (zmm (ls.take i)).1 ∧ cmpV v (zmm (ls.take i)).2 ≤ 0
  some : 0 < (fullL (ls.take i)).length → ((zmm (ls.take i)).1 ∈ ls.take i ∧ (zmm (ls.take i)).1.1 ≠ 0) ∧ ((zmm (ls.take i)).2 ∈ ls.take i ∧ (zmm (ls.take i)).2.1 ≠ 0)
  none : (fullL (ls.take i)).length = 0 → zmm (ls.take i) = (Z0, Z0)
theorem cmp_self (v : Val) : cmpV v v = 0 := (ord_val.zero v v).2 rfl
theorem full_none {ls : List Val} (h : (fullL ls).length = 0) : ∀ v ∈ ls, v.1 = 0 := by
  intro v hv
  have hf : fullL ls = [] := List.eq_nil_of_length_eq_zero h
  unfold fullL at hf
  have := List.filter_eq_nil_iff.1 hf v hv
  simpa using this
theorem within {ls : List Val} : ∀ i, i ≤ ls.length → Within ls i
  | 0, _ => ⟨by simp, by simp [fullL], fun _ => rfl⟩
  | i + 1, hi => by
    have hil : i < ls.length := by omega
    obtain ⟨h1, h2, h3⟩ := within (ls := ls) i (by omega)
    have hsub : ∀ v, v ∈ ls.take i → v ∈ ls.take (i + 1) := fun v hv => by rw [List.take_succ_eq_append_getElem hil]; exact List.mem_append_left _ hv
    have hin : ls[i] ∈ ls.take (i + 1) := by rw [List.take_succ_eq_append_getElem hil]; exact List.mem_append_right _ (List.mem_singleton.2 rfl)
    by_cases h0 : ls[i].1 = 0
    · have ef : fullL (ls.take (i + 1)) = fullL (ls.take i) := by rw [fullL_take hil, if_pos h0, List.append_nil]
      have ez := zmm_skip hil h0
      refine ⟨?_, ?_, ?_⟩
      · rw [ez]
        intro v hv hne
        rw [List.take_succ_eq_append_getElem hil] at hv
        rcases List.mem_append.1 hv with h | h
        · exact h1 v h hne
        · rw [List.mem_singleton.1 h] at hne; exact absurd h0 hne
      · rw [ef, ez]
        intro hp
        obtain ⟨⟨a1, a2⟩, b1, b2⟩ := h2 hp
        exact ⟨⟨hsub _ a1, a2⟩, hsub _ b1, b2⟩
      · rw [ef, ez]; exact h3
    · have ez := zmm_step hil h0
      have ef : (fullL (ls.take (i + 1))).length = (fullL (ls.take i)).length + 1 := by rw [fullL_take hil, if_neg h0, List.length_append]; rfl
      obtain ⟨mm, hmm⟩ : ∃ mm, mm = zmm (ls.take i) := ⟨_, rfl⟩
      obtain ⟨n, hn⟩ : ∃ n, n = (fullL (ls.take i)).length := ⟨_, rfl⟩
      rw [← hmm, ← hn] at ez h2
      rw [← hmm] at h1
      rw [← hn] at ef
      have min_le : 0 ≤ cmpV ls[i] (if n = 0 ∨ cmpV ls[i] mm.1 < 0 then ls[i] else mm.1) := by
        split
        · rw [cmp_self]; exact Int.le_refl _
        · omega
      have max_le : cmpV ls[i] (if n = 0 ∨ 0 < cmpV ls[i] mm.2 then ls[i] else mm.2) ≤ 0 := by
        split
        · rw [cmp_self]; exact Int.le_refl _
        · omega
      have old : ∀ v ∈ ls.take i, v.1 ≠ 0 → ¬ n = 0 := fun v hv hne h => hne (full_none (by rw [← hn]; exact h) v hv)
      refine ⟨?_, ?_, fun h => by omega⟩
      · rw [ez]
        intro v hv hne
        rw [List.take_succ_eq_append_getElem hil] at hv
        rcases List.mem_append.1 hv with h | h
        · obtain ⟨k1, k2⟩ := h1 v h hne
          have hn0 := old v h hne
          refine ⟨?_, ?_⟩
          · simp only
            split
            · rename_i hc
              have hc' : cmpV ls[i] mm.1 < 0 := hc.resolve_left hn0
              have k1' : cmpV mm.1 v ≤ 0 := by have := ord_val.neg v mm.1; omega
              have := ord_val.strict _ _ _ hc' k1'
              have := ord_val.neg ls[i] v
              omega
            · exact k1
          · simp only
            split
            · rename_i hc
              have hc' : 0 < cmpV ls[i] mm.2 := hc.resolve_left hn0
              have : cmpV mm.2 ls[i] ≤ 0 := by have := ord_val.neg ls[i] mm.2; omega
              exact ord_val.trans _ _ _ k2 this
            · exact k2
        · rw [List.mem_singleton.1 h]; exact ⟨min_le, max_le⟩
      · rw [ez]
        intro _
        refine ⟨?_, ?_⟩
        · simp only
          split
          · exact ⟨hin, h0⟩
          · rename_i hc
            obtain ⟨⟨a1, a2⟩, _⟩ := h2 (by omega)
            exact ⟨hsub _ a1, a2⟩
        · simp only
          split
          · exact ⟨hin, h0⟩
          · rename_i hc
            obtain ⟨_, b1, b2⟩ := h2 (by omega)
            exact ⟨hsub _ b1, b2⟩
end Go.Proofs.YtipgnehlihmdhaaGreatDoor

/-
  Values out of bytes, read loosely: the program's way.
-/
namespace Go.Proofs.YtipgnehlihmdhaaGreatDoor
open Go.Dn Go.Proofs
open Go.RowKit (Below)
set_option linter.unusedVariables false
set_option maxRecDepth 20000

/-- bytes are a column's values, ahead of the check sum -/
structure ReadP (K : Int) (ls : List Val) (l : List UInt8) : Prop where
  good : Good1 K ls
  ex : ∃ o, (nullsN ls < ls.length → OthIs K ls o) ∧ (¬ nullsN ls < ls.length → o = []) ∧ l = headL K ls ++ maskL ls ++ o
theorem bits_none {ls : List Val} (h : nullsN ls = 0) : bitsN ls = List.replicate ls.length 0 := by
  unfold bitsN
  rw [List.eq_replicate_iff]
  refine ⟨by simp, fun b hb => ?_⟩
  obtain ⟨v, hv, rfl⟩ := List.mem_map.1 hb
  unfold nullsN at h
  have := (List.countP_eq_zero.1 h) v hv
  rw [if_neg (by simpa using this)]
theorem bits_all {ls : List Val} (h : nullsN ls = ls.length) : bitsN ls = List.replicate ls.length 1 := by
  unfold bitsN
  rw [List.eq_replicate_iff]
  refine ⟨by simp, fun b hb => ?_⟩
  obtain ⟨v, hv, rfl⟩ := List.mem_map.1 hb
  unfold nullsN at h
  have := (List.countP_eq_length.1 h) v hv
  rw [if_pos (by simpa using this)]
theorem Good1.null {K : Int} {ls : List Val} (h : Good1 K ls) : ∀ v ∈ ls, v.1 = 0 → v = (0, 0, E0) := by
  intro v hv h0
  have hok := h.all v hv
  simp only [okV, Bool.and_eq_true] at hok
  have hr := hok.1
  unfold rightB at hr
  rw [if_pos h0] at hr
  simp at hr
  obtain ⟨v1, v2, v3⟩ := v
  simp only at h0 hr
  rw [h0, hr.1, hr.2]
theorem nulls_full' (ls : List Val) : nullsN ls + (fullL ls).length = ls.length := by
  induction ls with
  | nil => rfl
  | cons v ls ih =>
    unfold nullsN fullL at ih ⊢
    by_cases h : v.1 = 0
    · simp [h]; omega
    · simp [h]; omega
/-- what stands in bytes that are values -/
structure ReadQ (K : Int) (ls : List Val) (l : List UInt8) (at1 at2 : Nat) (o : List UInt8) : Prop where
  kind : ((l.getD 0 0).toNat : Int) = K
  n1 : takeN l 1 = some (ls.length, at1)
  n2 : takeN l (at1 : Int) = some (nullsN ls, at2)
  rest : l.drop at2 = maskL ls ++ o
  oth : nullsN ls < ls.length → OthIs K ls o
  none : ¬ nullsN ls < ls.length → o = []
theorem ReadP.q {K : Int} {ls : List Val} {l : List UInt8} (h : ReadP K ls l) : ∃ at1 at2 o, ReadQ K ls l at1 at2 o := by
  obtain ⟨o, h1, h2, rfl⟩ := h.ex
  have hlen := h.good.len
  have hk := h.good.kind
  have hnl := nullsN_le ls
  have e1 : (headL K ls ++ maskL ls ++ o).drop 1 = digitsL ls.length ++ (digitsL (nullsN ls) ++ (maskL ls ++ o)) := by simp [headL]
  have e2 := drop_more e1
  have e3 := drop_more e2
  refine ⟨_, _, o, ?_, takeN_drop (at_ := 1) (by omega) e1, takeN_drop (by omega) e2, e3, h1, h2⟩
  have : ((headL K ls ++ maskL ls ++ o).getD 0 0) = UInt8.ofNat K.toNat := by simp [headL]
  rw [this, ofNat_toNat8 (by omega)]
  omega
/-- what reading loosely hands back -/
def ReadV (l : List UInt8) (w w' : World) (v : Value) : Prop :=
  ∃ (K : Int) (os : List Val) (a : Option Addr) (c : Nat) (ok : Bool), v = .tuple #[.int .i64 K, .slice a os.length c, .bool ok] ∧ RdN w w' a (valsL os) ∧ Below w.heap.size w w' ∧ os.length ≤ 4096 ∧ (∀ v ∈ os, ValOk v) ∧
    ∀ K' ls, ReadP K' ls l → ok = true ∧ K = K' ∧ os = ls
theorem ReadV.bad {l : List UInt8} {w w' : World} (hb : Below w.heap.size w w') (h : ∀ K ls, ¬ ReadP K ls l) : ReadV l w w' (.tuple #[.int .i64 0, .slice none 0 0, .bool false]) :=
  ⟨0, [], none, 0, false, rfl, RdN.nil _ _, hb, by simp, by simp, fun K ls hls => absurd hls (h K ls)⟩
section
variable {w : World} {a : Option Addr} {c : Nat} {l : List UInt8}
theorem chunk_read_ok (hl : Rd w a (l.map byteV)) (hc : l.length ≤ c) (hs : l.length ≤ 9223372036854775807) :
    Calls Tryz.prog f.chunk_read #[.slice a l.length c] w (Ret fun v w' => ReadV l w w' v) := by
  apply R.chunk_read_calls
  unfold R.chunk_read
  refine IFB_dec (fun h => ReadV.bad (.refl _ _) fun K ls hp => ?_) (fun hpos => ?_)
  · obtain ⟨_, _, _, q⟩ := hp.q
    have := takeN_bounds q.n1
    omega
  have h0 : 0 < l.length := by omega
  refine (wire_TakeNumber_ok hl hc hs 1).mono ?_
  rintro _ w ⟨_, rfl, rfl, rfl⟩
  -- the first number
  obtain ⟨n, at1, e1, hv1, hb1, hP1⟩ : ∃ (n at1 : Nat) (e1 : Int), numV (takeN l 1) = .tuple #[.int .u64 (n : Int), .int .i64 (at1 : Int), .int .i64 e1] ∧ (n < 18446744073709551616 ∧ at1 ≤ l.length) ∧ (∀ K ls, ReadP K ls l → e1 = 0 ∧ n = ls.length ∧ takeN l 1 = some (n, at1)) := by
    cases hx : takeN l 1 with
    | none =>
      refine ⟨0, 0, 20, rfl, by omega, fun K ls hp => ?_⟩
      obtain ⟨_, _, _, q⟩ := hp.q
      have := q.n1
      rw [hx] at this; cases this
    | some x =>
      have hb := takeN_bounds (n := x.1) (k := x.2) hx
      refine ⟨x.1, x.2, 0, rfl, by omega, fun K ls hp => ?_⟩
      obtain ⟨_, _, _, q⟩ := hp.q
      have := q.n1
      rw [hx] at this
      have := Option.some.inj this
      exact ⟨rfl, by rw [this], rfl⟩
  rw [hv1]
  refine ⟨_, _, _, rfl, (wire_TakeNumber_ok hl hc hs (at1 : Int)).mono ?_⟩
  rintro _ w ⟨_, rfl, rfl, rfl⟩
  obtain ⟨no, at2, e2, hv2, hb2, hP2⟩ : ∃ (no at2 : Nat) (e2 : Int), numV (takeN l (at1 : Int)) = .tuple #[.int .u64 (no : Int), .int .i64 (at2 : Int), .int .i64 e2] ∧ (no < 18446744073709551616 ∧ at2 ≤ l.length) ∧ (∀ K ls, ReadP K ls l → e2 = 0 ∧ no = nullsN ls ∧ ∃ o, ReadQ K ls l at1 at2 o) := by
    have step : ∀ K ls, ReadP K ls l → ∃ at2 o, ReadQ K ls l at1 at2 o := by
      intro K ls hp
      obtain ⟨a1, a2, o, q⟩ := hp.q
      have h1 := (hP1 K ls hp).2.2
      have h2 := q.n1
      rw [h1] at h2
      obtain rfl : at1 = a1 := by have := Option.some.inj h2; simpa using congrArg Prod.snd this
      exact ⟨a2, o, q⟩
    cases hx : takeN l (at1 : Int) with
    | none =>
      refine ⟨0, 0, 20, rfl, by omega, fun K ls hp => ?_⟩
      obtain ⟨_, _, q⟩ := step K ls hp
      have := q.n2
      rw [hx] at this; cases this
    | some x =>
      have hb := takeN_bounds (n := x.1) (k := x.2) hx
      refine ⟨x.1, x.2, 0, rfl, by omega, fun K ls hp => ?_⟩
      obtain ⟨a2, o, q⟩ := step K ls hp
      have := q.n2
      rw [hx] at this
      have hxx := Option.some.inj this
      obtain rfl : x.2 = a2 := by rw [hxx]
      exact ⟨rfl, by rw [hxx], o, q⟩
  rw [hv2]
  refine ⟨_, _, _, rfl, IFB_ne (fun h => ReadV.bad (.refl _ _) fun K ls hp => h (hP1 K ls hp).1) (fun he1 => IFB_ne (fun h => ReadV.bad (.refl _ _) fun K ls hp => h (hP2 K ls hp).1) (fun he2 => IFB_dec (fun h => ReadV.bad (.refl _ _) fun K ls hp => ?_) (fun hn1 => IFB_dec (fun h => ReadV.bad (.refl _ _) fun K ls hp => ?_) (fun hn2 => ?_))))⟩
  · have := (hP1 K ls hp).2.1
    have := hp.good.len
    omega
  · have := (hP1 K ls hp).2.1
    have := (hP2 K ls hp).2.1
    have := nullsN_le ls
    omega
  have hn : n ≤ 1024 := by omega
  have hno : no ≤ n := by omega
  refine make_new tU (l := (n : Int)) (c := (n : Int)) (by omega) (by omega) (by omega) (by omega) fun bo w3 hbo B3 hO3 => ?_
  rw [Int.toNat_natCast] at hO3 ⊢
  have hO3' : w3.heap[bo]? = some (.cells ⟨List.replicate n (.int .u64 0)⟩ ty.uint64 (0, 0)) := by
    have e : madeCells (Value.int .u64 0).cells (n * 1) = ⟨List.replicate n (.int .u64 0)⟩ := by
      apply Array.ext'
      rw [madeCells_one _ rfl, Nat.mul_one]
    rw [← e]; exact hO3
  refine ⟨_, _, _, rfl, fun s w8 => ∃ (at3 : Nat) (e : Int) (bits : List Nat) (ab : Option Addr) (cb : Nat), s = [.int .i64 (at3 : Int), .int .i64 e, .slice ab bits.length cb] ∧ Rd w8 ab (bits.map u64V) ∧ Below w.heap.size w w8 ∧ bits.length ≤ 4096 ∧ at3 ≤ l.length ∧
      (∀ K ls, ReadP K ls l → e = 0 ∧ bits = bitsN ls ∧ ∃ o, ReadQ K ls l at1 at2 o ∧ l.drop at3 = o), ?_, ?_⟩
  · have rep : ∀ (k : Nat) (x : Nat), (List.replicate k x).map u64V = List.replicate k (.int .u64 (x : Int)) := fun k x => by rw [List.map_replicate]; rfl
    refine IFB_eq (fun hz => ?_) (fun hz => IFB_eq (fun hall => ?_) (fun hmid => ?_))
    · refine ⟨at2, e1, List.replicate n 0, some ⟨bo, 0, none⟩, n, by rw [List.length_replicate], ?_, B3, by simp; omega, hb2.2, fun K ls hp => ?_⟩
      · have := Rd.of_block0 hO3'
        rw [rep]; exact this
      · obtain ⟨_, hno', o, q⟩ := hP2 K ls hp
        have hn' := (hP1 K ls hp).2.1
        have hz' : nullsN ls = 0 := by omega
        refine ⟨he1, by rw [bits_none hz', hn'], o, q, ?_⟩
        rw [q.rest]
        unfold maskL
        rw [if_neg (by omega)]
        rfl
    · refine ⟨fun s w4 => ∃ i : Nat, i ≤ n ∧ s = [.int .i64 (i : Int)] ∧ Keeps (fun k => k = bo) w3 w4 ∧ w4.heap[bo]? = some (.cells ⟨List.replicate i (.int .u64 1) ++ List.replicate (n - i) (.int .u64 0)⟩ ty.uint64 (0, 0)), fun s _ => match s with
          | [.int _ i] => n - i.toNat
          | _ => 0, ⟨0, by omega, rfl, .refl _ _, by simpa using hO3'⟩, ?_⟩
      rintro _ w4 ⟨i, hi, hst, K4, hO4⟩
      cases hst
      refine IFB_dec (fun hlt => ⟨⟨by omega, hlt⟩, ?_⟩) (fun hge => ?_)
      · rw [Int.toNat_natCast]
        unfold PTR
        simp only
        refine sto_at hO4 (p := (⟨bo, 0, none⟩ : Addr).add (i * 1)) (i := i) (by rw [addr_add_blk]; simp) (by show i < (_ ++ _ : List Value).length; simp; omega) fun w5 K5 hO5 => ?_
        rw [wrap_succ (by omega)]
        refine ⟨⟨i + 1, by omega, rfl, K4.trans K5 (fun _ _ h => h), ?_⟩, ?_⟩
        · have e : (⟨List.replicate i (.int .u64 1) ++ List.replicate (n - i) (.int .u64 0)⟩ : Array Value).setIfInBounds i (.int .u64 1) = ⟨List.replicate (i + 1) (.int .u64 1) ++ List.replicate (n - (i + 1)) (.int .u64 0)⟩ := by
            apply Array.ext'
            simp only [Array.toList_setIfInBounds]
            rw [List.set_append_right _ _ (by simp), List.length_replicate, Nat.sub_self, show n - i = (n - (i + 1)) + 1 by omega, List.replicate_succ (n := n - (i + 1)), List.set_cons_zero, List.replicate_succ' (n := i), List.append_assoc]
            rfl
          rw [e] at hO5; exact hO5
        · simp only [Int.toNat_natCast]
          omega
      · have hin : i = n := by omega
        subst hin
        rw [Nat.sub_self, List.replicate_zero, List.append_nil] at hO4
        refine ⟨at2, e1, List.replicate i 1, some ⟨bo, 0, none⟩, i, by rw [List.length_replicate], ?_, B3.trans (K4.below B3.size fun k hk h => by omega), by simp; omega, hb2.2, fun K ls hp => ?_⟩
        · have := Rd.of_block0 hO4
          rw [rep]; exact this
        · obtain ⟨_, hno', o, q⟩ := hP2 K ls hp
          have hn' := (hP1 K ls hp).2.1
          have hz' : nullsN ls = ls.length := by omega
          refine ⟨he1, by rw [bits_all hz', hn'], o, q, ?_⟩
          rw [q.rest]
          unfold maskL
          rw [if_neg (by omega)]
          rfl
    · rw [wrap_i64 (n := (n : Int)) (by omega) (by omega)]
      refine (pack_Size_ok w3 (n : Int) 1).mono ?_
      rintro _ w6 ⟨_, rfl, rfl, rfl⟩
      rw [if_pos ⟨by omega, by omega, by omega, by omega⟩]
      obtain ⟨sz, hsz⟩ : ∃ sz, sz = sizeN n 1 := ⟨_, rfl⟩
      have hszv : sz = (n + 7) / 8 := by rw [hsz]; unfold sizeN; rw [Nat.mul_one]
      have esz : ((n : Int) * 1 + 7) / 8 = (sz : Int) := by omega
      rw [esz, wrap_i64 (n := (l.length : Int) - (at2 : Int)) (by omega) (by omega)]
      have hmaskq : ∀ K ls, ReadP K ls l → ∃ o, ReadQ K ls l at1 at2 o ∧ l.drop at2 = packL (bitsN ls) 1 ++ o ∧ (packL (bitsN ls) 1).length = sz := by
        intro K ls hp
        obtain ⟨_, hno', o, q⟩ := hP2 K ls hp
        have hn' := (hP1 K ls hp).2.1
        refine ⟨o, q, ?_, ?_⟩
        · rw [q.rest]
          unfold maskL
          rw [if_pos (by omega)]
        · rw [packL_len, hsz, hn']
          simp [bitsN]
      refine ⟨_, _, rfl, IFB_dec (fun h => ReadV.bad B3 fun K ls hp => ?_) (fun hge => ?_)⟩
      · obtain ⟨o, _, e, e2⟩ := hmaskq K ls hp
        have := congrArg List.length e
        rw [List.length_drop, List.length_append] at this
        omega
      rw [wrap_i64 (n := (at2 : Int) + (sz : Int)) (by omega) (by omega)]
      refine ⟨⟨by omega, by omega, by omega⟩, ?_⟩
      rw [Int.toNat_natCast, show ((at2 : Int) + (sz : Int)).toNat = at2 + sz by omega, Nat.add_sub_cancel_left]
      have hsl := (hl.grown B3).sla at2 (at2 + sz) c 1 (by omega)
      rw [Nat.mul_one, Nat.mul_one, Nat.add_sub_cancel_left, ← List.map_drop, ← List.map_take] at hsl
      have hsll : ((l.drop at2).take sz).length = sz := by rw [List.length_take, List.length_drop]; omega
      have hU := pack_Unpack_ok (c := c - at2) hsl (n : Int) 1 (by omega)
      rw [hsll] at hU
      refine hU.mono ?_
      rintro _ w7 ⟨_, rfl, xs, xa, xc, e, rfl, hRx, B7, hxn, hcase⟩
      have C7 := below_trans B3 B7
      have hxl : xs.length ≤ 4096 := by
        rcases hcase with ⟨_, _, rfl, _⟩ | ⟨_, rfl, _⟩
        · rw [unpackL_len]; omega
        · simp
      refine ⟨_, _, _, _, rfl, at2 + sz, e, xs, xa, xc, rfl, hRx, C7, hxl, by omega, fun K ls hp => ?_⟩
      obtain ⟨o, q, e3, e4⟩ := hmaskq K ls hp
      have hn' := (hP1 K ls hp).2.1
      have hbl : (bitsN ls).length = n := by rw [hn']; simp [bitsN]
      have htk : (l.drop at2).take sz = packL (bitsN ls) 1 := by rw [e3, ← e4, List.take_left]
      have hup := unpack_pack (bits_lt ls)
      rw [hbl] at hup
      rw [htk, Int.toNat_natCast, show (1 : Int).toNat = 1 from rfl] at hcase
      have hok : unArg (n : Int) 1 ∧ unOk (packL (bitsN ls) 1) n 1 := ⟨⟨by omega, by omega, by omega, by omega⟩, ⟨by rw [packL_len, hbl], by rw [hup]⟩⟩
      rcases hcase with ⟨_, _, hxs, he⟩ | ⟨hno2, _⟩
      · exact ⟨he, by rw [hxs, hup], o, q, by rw [← e4, ← List.drop_drop, e3, List.drop_left]⟩
      · exact absurd hok hno2
  rintro _ e ab _ cb w8 ⟨at3, _, bits, _, _, hst, hRb, B8, hbl, hat3, hP3⟩
  cases hst
  refine (SH.start (fun _ => False) w8).drawB fun w9 B9 _ => ⟨⟨by omega, by omega⟩, ?_⟩
  have C9 := below_trans B8 B9
  have hdr := drop_rd (q := at3) (hl.grown C9) hc
  obtain ⟨p, rfl, hcell⟩ := head_at (hl.grown C9) h0
  have hb0 := (l.getD 0 0).toNat_lt
  refine ⟨⟨by omega, by omega, by omega⟩, _, hcell, ?_⟩
  have en : IntKind.i64.wrap (IntKind.u64.wrap ((n : Int) - (no : Int))) = ((n - no : Nat) : Int) := by rw [wrap_u64_id (by omega) (by omega), wrap_i64 (by omega) (by omega)]; omega
  rw [en, wrap_i64 (n := ((l.getD 0 0).toNat : Int)) (by omega) (by omega), Int.toNat_natCast, ← List.length_drop (i := at3) (l := l)]
  refine (chunk_decoded_ok ((l.getD 0 0).toNat : Int) hdr (by rw [List.length_drop]; omega) (by rw [List.length_drop]; omega) (n := n - no) (by omega)).mono ?_
  rintro _ w10 ⟨_, rfl, vs, a10, c10, ok, rfl, R10, B10, hvl, hvok, hD⟩
  have C10 := below_trans C9 B10
  have hD' : ∀ K ls, ReadP K ls l → ok = true ∧ vs = fullL ls := by
    intro K ls hp
    obtain ⟨_, _, o, q, ho⟩ := hP3 K ls hp
    have hn' := (hP1 K ls hp).2.1
    have hno' := (hP2 K ls hp).2.1
    have hnf := nulls_full' ls
    refine hD ls (by rw [q.kind]; exact hp.good) (by omega) (fun h => ?_) (fun h => ?_)
    · rw [q.kind, ho]; exact q.oth (by omega)
    · rw [ho]; exact q.none (by omega)
  refine ⟨_, _, _, _, rfl, IFB_ne (fun h => ReadV.bad C10 fun K ls hp => h (hP3 K ls hp).1) (fun he => IFB_not (IFB_of (fun hok => ?_) (fun hok => ReadV.bad C10 fun K ls hp => ?_)))⟩
  case refine_2 =>
    have := (hD' K ls hp).1
    rw [this] at hok; cases hok
  refine (chunk_spread_ok ((hRb.grown B9).grown B10) R10 hbl hvl hvok).mono ?_
  rintro _ w11 ⟨_, rfl, os, a11, c11, ok2, rfl, R11, B11, hol, hook, hS⟩
  have C11 := below_trans C10 B11
  obtain ⟨p', hp', hcell'⟩ := head_at (hl.grown C11) h0
  cases hp'
  refine ⟨_, _, _, _, rfl, ⟨by omega, by omega⟩, _, hcell', ?_⟩
  rw [wrap_i64 (n := ((l.getD 0 0).toNat : Int)) (by omega) (by omega)]
  refine ⟨_, os, a11, c11, ok2, rfl, R11.before C10, C11, hol, hook, fun K ls hp => ?_⟩
  obtain ⟨_, hbits, o, q, _⟩ := hP3 K ls hp
  obtain ⟨s1, s2⟩ := hS ls hbits (hD' K ls hp).2 hp.good.null
  exact ⟨s1, q.kind, s2⟩
end
end Go.Proofs.YtipgnehlihmdhaaGreatDoor

/-
  Decode of a column's values: the program's way; the laws ChunkBack and ChunkTurns.
-/
namespace Go.Proofs.YtipgnehlihmdhaaGreatDoor
open Go.Dn Go.Proofs
open Go.RowKit (Below)
set_option linter.unusedVariables false
set_option maxRecDepth 20000

theorem ChIs.read {K : Int} {ls : List Val} {b : List UInt8} (hg : Good1 K ls) (h : ChIs K ls b) : ReadP K ls (b.take (b.length - 4)) ∧ 5 ≤ b.length ∧ b = b.take (b.length - 4) ++ sum4 (crc (b.take (b.length - 4))) := by
  obtain ⟨o, h1, h2, rfl⟩ := h.ex
  have hs : ∀ x, (sum4 x).length = 4 := fun x => rfl
  have hhead : 1 ≤ (headL K ls).length := by simp [headL]
  have e : (headL K ls ++ maskL ls ++ o ++ sum4 (crc (headL K ls ++ maskL ls ++ o))).take ((headL K ls ++ maskL ls ++ o ++ sum4 (crc (headL K ls ++ maskL ls ++ o))).length - 4) = headL K ls ++ maskL ls ++ o := by
    rw [List.length_append, hs, Nat.add_sub_cancel, List.take_left]
  rw [e]
  refine ⟨⟨hg, o, h1, h2, rfl⟩, ?_, rfl⟩
  simp only [List.length_append, hs]
  omega
/-- what Decode hands back -/
def ChDV (l : List UInt8) (w w' : World) (v : Value) : Prop :=
  ∃ (K : Int) (ls : List Val) (a : Option Addr) (c : Nat) (e : Int), v = .tuple #[.int .i64 K, .slice a ls.length c, .int .i64 e] ∧ RdN w w' a (valsL ls) ∧ Below w.heap.size w w' ∧ ls.length ≤ 4096 ∧
    ((Good1 K ls ∧ ChIs K ls l ∧ e = 0 ∧ ∀ K' ls', Good1 K' ls' → ChIs K' ls' l → K' = K ∧ ls' = ls) ∨ ((∀ K' ls', Good1 K' ls' → ¬ ChIs K' ls' l) ∧ K = 0 ∧ ls = [] ∧ e = 80))
theorem ChDV.bad {l : List UInt8} {w w' : World} (hb : Below w.heap.size w w') (h : ∀ K' ls', Good1 K' ls' → ¬ ChIs K' ls' l) : ChDV l w w' (.tuple #[.int .i64 0, .slice none 0 0, .int .i64 80]) :=
  ⟨0, [], none, 0, 80, rfl, RdN.nil _ _, hb, by simp, .inr ⟨h, rfl, rfl, rfl⟩⟩
section
variable {w : World} {a : Option Addr} {c : Nat} {l : List UInt8}
theorem chunk_Decode_ok (hl : Rd w a (l.map byteV)) (hc : l.length ≤ c) (hs : l.length ≤ 9223372036854775807) :
    Calls Tryz.prog f.chunk_Decode #[.slice a l.length c] w (Ret fun v w' => ChDV l w w' v) := by
  apply R.chunk_Decode_calls
  unfold R.chunk_Decode
  refine IFB_dec (fun h => ChDV.bad (.refl _ _) fun K ls hg hC => by have := (hC.read hg).2.1; omega) (fun hge => ?_)
  rw [wrap_i64 (n := (l.length : Int) - 4) (by omega) (by omega), show ((l.length : Int) - 4).toNat = l.length - 4 by omega]
  refine ⟨⟨by omega, by omega, by omega⟩, ?_⟩
  have hsl := hl.sla 0 (l.length - 4) c 1 (by omega)
  rw [Nat.mul_one, Nat.sub_zero, Nat.mul_one, List.drop_zero, ← List.map_take] at hsl
  have hlt : (l.take (l.length - 4)).length = l.length - 4 := by rw [List.length_take]; omega
  have hR := chunk_read_ok (c := c) hsl (by omega) (by omega)
  rw [hlt] at hR
  rw [Nat.sub_zero, Nat.sub_zero]
  refine hR.mono ?_
  rintro _ w1 ⟨_, rfl, K, os, a1, c1, ok, rfl, R1, B1, hol, hook, hP⟩
  refine ⟨_, _, _, _, _, rfl, (chunk_Encode_ok K R1.rd (by omega) hook).mono ?_⟩
  rintro _ w2 ⟨_, rfl, h2⟩
  obtain ⟨b2, a2, c2, e2, rfl, R2, B2, q2⟩ := h2.open
  have C2 := below_trans B1 B2
  have key : ∀ K' ls', Good1 K' ls' → ChIs K' ls' l → ok = true ∧ K = K' ∧ os = ls' := fun K' ls' hg hC => hP K' ls' (hC.read hg).1
  refine ⟨_, _, _, _, rfl, IFB_not (IFB_of (fun hok => ?_) (fun hok => ChDV.bad C2 fun K' ls' hg hC => ?_))⟩
  case refine_2 =>
    have := (key K' ls' hg hC).1
    rw [this] at hok; cases hok
  rcases q2 with ⟨hr, hI, rfl⟩ | ⟨hr, rfl, rfl⟩
  · refine IFB_ne (fun h => absurd rfl h) (fun _ => (bytes_Equal_ok R2 (hl.grown C2)).mono ?_)
    rintro _ w3 ⟨_, rfl, rfl, rfl⟩
    refine ⟨_, rfl, IFB_not (IFB_dec (fun he => ?_) (fun he => ChDV.bad C2 fun K' ls' hg hC => ?_))⟩
    · subst he
      refine ⟨K, os, a1, c1, 0, rfl, R1.grown B2, C2, hol, .inl ⟨⟨hr, hook⟩, hI, rfl, fun K' ls' hg hC => ?_⟩⟩
      obtain ⟨_, e1, e2⟩ := key K' ls' hg hC
      exact ⟨e1.symm, e2.symm⟩
    · obtain ⟨_, rfl, rfl⟩ := key K' ls' hg hC
      exact he (hI.one hC)
  · refine IFB_ne (fun _ => ChDV.bad C2 fun K' ls' hg hC => ?_) (fun h => absurd h (by decide))
    obtain ⟨_, rfl, rfl⟩ := key K' ls' hg hC
    rw [hg.right] at hr; cases hr
theorem val_beq (u v : Val) : ((u.1 == v.1) && ((u.2.1 == v.2.1) && ((u.2.2 == v.2.2) && true))) = decide (u = v) := by
  obtain ⟨a, b, s⟩ := u
  obtain ⟨c, d, t⟩ := v
  rw [Bool.eq_iff_iff]
  simp [beq_str]
end
theorem NewB.bound {w w' : World} {bs : List UInt8} {a : Option Addr} {c : Nat} (h : NewB w w' bs a c) : bs.length ≤ 9223372036854775807 := by
  rcases h.row.2 with ⟨_, h, _⟩ | ⟨_, _, _, _, h1, h2, _⟩
  · omega
  · omega
end Go.Proofs.YtipgnehlihmdhaaGreatDoor

/-
  (What stood here stands in Ch6.)
-/

/-
  Lists of numbers out of bytes: the document's way.
-/
namespace Go.Proofs.YtipgnehlihmdhaaGreatDoor
open Go.Dn Go.Proofs
open Go.RowKit (Below)
set_option linter.unusedVariables false
set_option maxRecDepth 20000
/-- what the document's reading hands back -/
def LooseR (l : List UInt8) (n : Nat) (w w' : World) (v : Value) : Prop :=
  ∃ (ms : List Int) (a : Option Addr) (c : Nat), v = .slice a ms.length c ∧ NewI w w' ms a c ∧ (∀ x ∈ ms, I64 x) ∧ ms.length ≤ 100000 ∧ ∀ ls, IntIs l n ls → ms = ls
theorem LooseR.bad {l : List UInt8} {n : Nat} {w w' : World} (hb : Below w.heap.size w w') (h : ∀ ls, ¬ IntIs l n ls) : LooseR l n w w' (.slice none 0 0) :=
  ⟨[], none, 0, rfl, ⟨Row.nil _ _ _, by simp [rowB], hb⟩, by simp, by simp, fun ls hls => absurd hls (h ls)⟩
section
variable {w : World} {a : Option Addr} {c : Nat} {l : List UInt8}
end
end Go.Proofs.YtipgnehlihmdhaaGreatDoor

/-
  Lists of numbers out of bytes: forms 2 and 3, Decode; the document's way.
-/
namespace Go.Proofs.YtipgnehlihmdhaaGreatDoor
open Go.Dn Go.Proofs
open Go.RowKit (Below)
set_option linter.unusedVariables false
set_option maxRecDepth 20000
section
variable {w : World} {a : Option Addr} {c : Nat} {l : List UInt8}
end
end Go.Proofs.YtipgnehlihmdhaaGreatDoor

/-
  Values out of bytes: the document's way; the law ChunkReads.
-/
namespace Go.Proofs.YtipgnehlihmdhaaGreatDoor
open Go.Dn Go.Proofs
open Go.RowKit (Below)
set_option linter.unusedVariables false
set_option maxRecDepth 20000
/-- what filled hands back -/
def FillV (kind : Int) (bits : List Nat) (l : List UInt8) (w w' : World) (v : Value) : Prop :=
  ∃ (vs : List Val) (a : Option Addr) (c : Nat) (ok : Bool), v = .tuple #[.slice a vs.length c, .bool ok] ∧ RdN w w' a (valsL vs) ∧ Below w.heap.size w w' ∧ vs.length ≤ 4096 ∧ (∀ v ∈ vs, ValOk v) ∧
    ∀ ls, Good1 kind ls → bits = bitsN ls → (nullsN ls < ls.length → OthIs kind ls l) → (¬ nullsN ls < ls.length → l = []) → ok = true ∧ vs = ls
theorem FillV.bad {kind : Int} {bits : List Nat} {l : List UInt8} {w w' : World} (hb : Below w.heap.size w w') (h : ∀ ls, Good1 kind ls → bits = bitsN ls → (nullsN ls < ls.length → OthIs kind ls l) → (¬ nullsN ls < ls.length → l = []) → False) : FillV kind bits l w w' (.tuple #[.slice none 0 0, .bool false]) :=
  ⟨[], none, 0, false, rfl, RdN.nil _ _, hb, by simp, by simp, fun ls h1 h2 h3 h4 => (h ls h1 h2 h3 h4).elim⟩
section
variable {w : World} {ab a : Option Addr} {cb c : Nat} {bits : List Nat} {l : List UInt8}
end
end Go.Proofs.YtipgnehlihmdhaaGreatDoor

/-
  Decode of a column's values: the document's way; the law ChunkReads.
-/
namespace Go.Proofs.YtipgnehlihmdhaaGreatDoor
open Go.Dn Go.Proofs
open Go.RowKit (Below)
set_option linter.unusedVariables false
set_option maxRecDepth 20000
section
variable {w : World} {a : Option Addr} {c : Nat} {l : List UInt8}
end
end Go.Proofs.YtipgnehlihmdhaaGreatDoor

/-
  Rows in memory, and their columns.
-/
namespace Go.Proofs.YtipgnehlihmdhaaGreatDoor
open Go.Dn Go.Proofs
open Go.RowKit (Below)
set_option maxRecDepth 100000
set_option linter.unusedVariables false

/-- a row in memory: where, how much room, which values -/
abbrev RowP := Option Addr × Nat × List Val
def rowV1 (p : RowP) : Value := .slice p.1 p.2.2.length p.2.1
abbrev rws (ps : List RowP) : List (List Val) := ps.map (·.2.2)
structure RowsAt (w : World) (a : Option Addr) (ps : List RowP) : Prop where
  top : Rd w a (ps.map rowV1)
  each : ∀ p ∈ ps, Rd w p.1 (valsL p.2.2)
theorem RowsAt.grown {w w' : World} {a : Option Addr} {ps : List RowP} (h : RowsAt w a ps) (B : Below w.heap.size w w') : RowsAt w' a ps := ⟨h.top.grown B, fun p hp => (h.each p hp).grown B⟩
theorem RowsAt.at {w : World} {a : Option Addr} {ps : List RowP} (h : RowsAt w a ps) {i : Nat} (hi : i < ps.length) : ∃ q, a = some q ∧ w.cell? (q.add (i * 1)) = some (.slice ps[i].1 ps[i].2.2.length ps[i].2.1) ∧ Rd w ps[i].1 (valsL ps[i].2.2) := by
  obtain ⟨q, hq, hc⟩ := h.top i (rowV1 ps[i]) (by simp [hi])
  exact ⟨q, hq, by rw [Nat.mul_one]; exact hc, h.each _ (List.getElem_mem hi)⟩
def colOf (rows : List (List Val)) (c : Nat) : List Val := rows.map fun r => r.getD c Z0
theorem colOf_len (rows : List (List Val)) (c : Nat) : (colOf rows c).length = rows.length := by simp [colOf]
theorem colOf_take (ps : List RowP) {c i : Nat} (hi : i < ps.length) (hc : c < ps[i].2.2.length) : colOf (rws (ps.take (i + 1))) c = colOf (rws (ps.take i)) c ++ [ps[i].2.2[c]] := by
  unfold colOf rws
  rw [List.take_succ_eq_append_getElem hi, List.map_append, List.map_append]
  simp only [List.map_cons, List.map_nil, List.getD, List.getElem?_eq_getElem hc, Option.getD_some]
def valsI (a : Option Addr) (c : Nat) (vs : List Val) : It := It.row ty.api_Value 3 a vs.length c (valsL vs)
section
variable {w0 w : World} {H : List It} {a : Option Addr} {c : Nat} {vs : List Val}
theorem stRdV (S : ST w0 w H) (n : Nat) (hn : H[n]? = some (valsI a c vs)) : Rd w a (valsL vs) := S.rd n hn
theorem stAppV (S : ST w0 w H) (n : Nat) {t : TypeId} (ht : slT Tryz.prog t = some (ty.api_Value, 3, 32, .agg #[.int .i64 0, .int .i64 0, .string ⟨#[]⟩])) (hn : H[n]? = some (valsI a c vs)) {x : Val} {b : Nat} (hs : Rd w (some ⟨b, 0, none⟩) (valC x)) (hl : vs.length + 1 ≤ 1000000) {f : Value → World → Prop}
    (hf : ∀ a' c' w', ST w0 w' (H.set n (valsI a' c' (vs ++ [x]))) → f (.slice a' (vs ++ [x]).length c') w') :
    OPR Tryz.prog (Builtin.append_ #[t, t] t #[.slice a vs.length c, .slice (some ⟨b, 0, none⟩) 1 1]) f w := by
  refine S.app n hn ht rfl (by omega) (by omega) hs (mm := 1) rfl (by simp [valC]; exact ⟨rfl, rfl, rfl⟩) (by omega) fun a' c' w' S' => ?_
  have e1 : (vs ++ [x]).length = vs.length + 1 := by simp
  have e2 : valsL vs ++ valC x = valsL (vs ++ [x]) := by simp [valsL]
  rw [e2] at S'
  have := hf a' c' w' (by unfold valsI; rw [e1]; exact S')
  rwa [e1] at this
end
section
variable {w : World} {a : Option Addr} {c : Nat} {ps : List RowP}
theorem segment_byColumns_ok {a2 : Option Addr} {c2 n : Nat} : Calls Tryz.prog f.segment_byColumns #[.slice a2 n c2, .slice a ps.length c] w (Ret fun v w' => ∃ b1 b2, v = .func (.func f.segment_byColumns_c1) #[] #[.pointer (some ⟨b1, 0, none⟩), .pointer (some ⟨b2, 0, none⟩)] ∧
    ST w w' [It.cells b2 #[.slice a ps.length c] ty.L_api_Row, It.cells b1 #[.slice a2 n c2] ty.L_api_Column]) := by
  apply R.segment_byColumns_calls
  unfold R.segment_byColumns
  exact (ST.start w).newB fun b1 w1 _ _ S1 => S1.newB fun b2 w2 _ _ S2 => ⟨b1, b2, rfl, S2⟩
theorem byColumns_c1_ok {L b1 b2 n c2 : Nat} {a2 : Option Addr} (hn : n ≤ 9223372036854775807) (hm : ps.length ≤ 900000) (hk : ∀ p ∈ ps, p.2.2.length = n) (J : Nat → World → Prop) (hrd : ∀ k w, J k w → RowsAt w a ps ∧ w.cell? ⟨b2, 0, none⟩ = some (.slice a ps.length c))
    (hgrow : ∀ k w w', J k w → Below w.heap.size w w' → J k w') (hstep : ∀ k w la lc, k < n → J k w → Rd w la (valsL (colOf (rws ps) k)) → YLD Tryz.prog L #[.int .i64 (k : Int), .slice la ps.length lc] (fun y w' => y = true ∧ J (k + 1) w') w)
    (h0 : J 0 w) (hb : w.cell? ⟨b1, 0, none⟩ = some (.slice a2 n c2)) :
    Calls Tryz.prog f.segment_byColumns_c1 #[.func (.yield L) #[] #[], .pointer (some ⟨b1, 0, none⟩), .pointer (some ⟨b2, 0, none⟩)] w (Ret fun _ w' => J n w') := by
  apply R.segment_byColumns_c1_calls
  unfold R.segment_byColumns_c1
  refine ⟨_, _, _, hb, fun s w1 => ∃ k : Nat, k ≤ n ∧ s = [.int .i64 (k : Int)] ∧ J k w1, fun s _ => match s with
      | [.int _ i] => n - i.toNat
      | _ => 0, ⟨0, by omega, rfl, h0⟩, ?_⟩
  rintro _ w1 ⟨k, hkn, hst, hj⟩
  cases hst
  refine IFB_dec (fun hlt => ?_) (fun hge => ?_)
  · have hkl : k < n := by omega
    refine ⟨_, _, _, (hrd _ _ hj).2, ?_⟩
    refine ⟨fun s w2 => ∃ (i : Nat) (oa : Option Addr) (oc : Nat) (os : List Val), s = [.slice oa os.length oc, .int .i64 (i : Int)] ∧ i ≤ ps.length ∧ os = colOf (rws (ps.take i)) k ∧ ST w1 w2 [valsI oa oc os], fun s _ => match s with
      | [_, .int _ i] => ps.length - i.toNat
      | _ => 0, ⟨0, none, 0, [], rfl, by omega, rfl, (ST.start w1).nil _ _⟩, ?_⟩
    rintro oa _ oc _ w2 ⟨i, _, _, os, hst, hi, ho, S⟩
    cases hst
    have hol : os.length = i := by rw [ho, colOf_len]; simp; omega
    refine IFB_dec (fun hlt => ⟨⟨by omega, hlt⟩, ?_⟩) (fun hge => ?_)
    · have hil : i < ps.length := by omega
      have hkl' : k < ps[i].2.2.length := by rw [hk _ (List.getElem_mem hil)]; exact hkl
      obtain ⟨q, rfl, hq, hv⟩ := ((hrd _ _ hj).1.grown S.bel).at hil
      obtain ⟨p, hp, c0, c1, c2⟩ := val_at hv hkl'
      refine ⟨_, _, _, by rw [Int.toNat_natCast]; exact hq, ⟨by omega, by omega⟩, ?_⟩
      rw [hp]
      refine ⟨_, by rw [Int.toNat_natCast]; exact c0, _, by rw [Int.toNat_natCast]; exact c1, _, by rw [Int.toNat_natCast]; exact c2, S.newB fun b12 w2 _ _ S => ?_⟩
      have hsrc : Rd w2 (some ⟨b12, 0, none⟩) (valC ps[i].2.2[k]) := S.rdc 0 rfl
      refine stAppV S 1 tVals rfl hsrc (by omega) fun a3 c3 w3 S => ⟨_, _, _, rfl, ?_⟩
      rw [wrap_succ (by omega)]
      refine ⟨⟨i + 1, a3, c3, _, rfl, by omega, by rw [colOf_take ps hil hkl', ho], S.drop 1⟩, ?_⟩
      show ps.length - ((i + 1 : Nat) : Int).toNat < ps.length - ((i : Nat) : Int).toNat
      simp only [Int.toNat_natCast]
      omega
    · have hie : i = ps.length := by omega
      rw [List.take_of_length_le (by omega)] at ho
      subst ho
      rw [hol, hie, wrap_succ (by omega)]
      refine (hstep k w2 oa oc hkl (hgrow _ _ _ hj S.bel) (stRdV S 0 rfl)).mono ?_
      rintro y w3 ⟨rfl, h⟩
      refine IFB_false ⟨⟨k + 1, by omega, rfl, h⟩, ?_⟩
      show n - ((k + 1 : Nat) : Int).toNat < n - ((k : Nat) : Int).toNat
      simp only [Int.toNat_natCast]
      omega
  · have : k = n := by omega
    subst this
    exact hj
end
end Go.Proofs.YtipgnehlihmdhaaGreatDoor

/-
  Which bytes rows are.
-/
namespace Go.Proofs.YtipgnehlihmdhaaGreatDoor
open Go.Dn Go.Proofs
open Go.RowKit (Below)
set_option maxRecDepth 100000
set_option linter.unusedVariables false

structure SegOk (cs : List Col) (rows : List (List Val)) : Prop where
  right : rightCols cs = true
  len : rows.length ≤ 1024
  fits : ∀ r ∈ rows, fitsB cs r = true
  ok : ∀ r ∈ rows, ∀ v ∈ r, ValOk v
section
variable {cs : List Col} {rows : List (List Val)}
theorem fits_len {r : List Val} (h : fitsB cs r = true) : r.length = cs.length := by
  simp only [fitsB, Bool.and_eq_true, decide_eq_true_eq] at h
  exact h.1
theorem fits_at {r : List Val} (h : fitsB cs r = true) {k : Nat} (h1 : k < cs.length) (h2 : k < r.length) : fitV cs[k] r[k] = true := by
  simp only [fitsB, Bool.and_eq_true, fitL, List.all_eq_true] at h
  exact h.2 (cs[k], r[k]) (List.mem_iff_getElem.2 ⟨k, by simp; omega, by simp⟩)
theorem SegOk.rowLen (h : SegOk cs rows) {r : List Val} (hr : r ∈ rows) : r.length = cs.length := fits_len (h.fits r hr)
theorem SegOk.good (h : SegOk cs rows) {k : Nat} (hk : k < cs.length) : Good1 cs[k].2.1 (colOf rows k) := by
  have key : ∀ v ∈ colOf rows k, okV cs[k].2.1 v = true ∧ ValOk v := by
    intro v hv
    obtain ⟨r, hr, rfl⟩ := List.mem_map.1 hv
    have hl := h.rowLen hr
    have hkr : k < r.length := by omega
    have e : r.getD k Z0 = r[k] := by simp [List.getD, hkr]
    rw [e]
    refine ⟨?_, h.ok r hr _ (List.getElem_mem hkr)⟩
    have := fits_at (h.fits r hr) hk hkr
    simp only [fitV, Bool.and_eq_true, Bool.or_eq_true, decide_eq_true_eq] at this
    simp only [okV, Bool.and_eq_true, Bool.or_eq_true, decide_eq_true_eq]
    exact ⟨this.1, this.2.imp id fun h => h.2⟩
  obtain ⟨_, h1, h2, _⟩ := right_col h.right (List.getElem_mem hk)
  refine ⟨?_, fun v hv => (key v hv).2⟩
  have h3 : (colOf rows k).all (okV cs[k].2.1) = true := List.all_eq_true.2 fun v hv => (key v hv).1
  have h4 : 1 ≤ cs[k].2.1 ∧ cs[k].2.1 ≤ 3 ∧ (colOf rows k).length ≤ 1024 := ⟨h1, h2, by rw [colOf_len]; exact h.len⟩
  simp [rightL, h3, h4]
end
theorem zmm_all {P : Val → Prop} {ls : List Val} (h0 : P Z0) (h : ∀ v ∈ ls, P v) : P (zmm ls).1 ∧ P (zmm ls).2 := by
  have key : ∀ i, i ≤ ls.length → ∀ p, zoneS (ls.take i) = some p → P p.1 ∧ P p.2 := by
    intro i
    induction i with
    | zero => intro _ p hp; simp [zoneS] at hp
    | succ i ih =>
      intro hi p hp
      have hil : i < ls.length := by omega
      have hm := h _ (List.getElem_mem hil)
      rw [zoneS_take hil] at hp
      unfold zstep at hp
      split at hp
      · exact ih (by omega) p hp
      · split at hp
        · cases hp; exact ⟨hm, hm⟩
        · rename_i q hq
          obtain ⟨q1, q2⟩ := ih (by omega) q hq
          cases hp
          refine ⟨?_, ?_⟩
          · show P (if _ then _ else _)
            split
            · exact hm
            · exact q1
          · show P (if _ then _ else _)
            split
            · exact hm
            · exact q2
  unfold zmm
  cases hz : zoneS ls with
  | none => exact ⟨h0, h0⟩
  | some p =>
    have := key ls.length (Nat.le_refl _) p (by rw [List.take_length]; exact hz)
    exact this
theorem Good1.rights {k : Int} {ls : List Val} (h : Good1 k ls) : ∀ v ∈ ls, rightB v = true ∧ ValOk v := by
  intro v hv
  have := h.all v hv
  simp only [okV, Bool.and_eq_true] at this
  exact ⟨this.1, h.ok v hv⟩
theorem Good1.zone {k : Int} {ls : List Val} (h : Good1 k ls) : (rightB (zmm ls).1 = true ∧ ValOk (zmm ls).1) ∧ (rightB (zmm ls).2 = true ∧ ValOk (zmm ls).2) :=
  zmm_all (P := fun v => rightB v = true ∧ ValOk v) ⟨by decide, valok_small (by decide) (by decide)⟩ h.rights
theorem Good1.zoneOk {k : Int} {ls : List Val} (h : Good1 k ls) : zoneOk ls := ⟨h.len, fun v hv => (h.rights v hv).1⟩
theorem layL_len {v : Val} (h : rightB v = true) (hv : ValOk v) : (layL v).length ≤ 1040 := by
  unfold layL
  split
  · have := digitsL_len10 (zigN_lt hv.lo hv.hi)
    simp only [List.length_cons]
    omega
  · split
    · simp
    · split
      · rename_i h3
        have hs : v.2.2.size ≤ 1024 := by
          rcases right_kind h with h | h | ⟨h, _⟩ | ⟨_, h⟩
          · omega
          · omega
          · omega
          · exact h
        have := textL_len hs
        simp only [List.length_cons]
        omega
      · simp
theorem ChIs.len {k : Int} {ls : List Val} {b : List UInt8} (hg : Good1 k ls) (h : ChIs k ls b) : b.length ≤ 2000300 := by
  obtain ⟨o, h1, h2, rfl⟩ := h.ex
  have hs : ∀ x, (sum4 x).length = 4 := fun x => rfl
  have e1 := headL_len hg
  have e2 := maskL_len hg
  have e3 : o.length ≤ 2000000 := by
    by_cases hn : nullsN ls < ls.length
    · exact (h1 hn).len hg
    · rw [h2 hn]; simp
  simp only [List.length_append, hs]
  omega
def lowB (n : Nat) : List UInt8 := [UInt8.ofNat (n % 256), UInt8.ofNat (n / 256 % 256), UInt8.ofNat (n / 65536 % 256), UInt8.ofNat (n / 16777216 % 256)]
def magicB : List UInt8 := [83, 89, 68, 49]
def footC (x : List UInt8) (l : List Val) : List UInt8 := digitsL x.length ++ digitsL (nullsN l) ++ layL (zmm l).1 ++ layL (zmm l).2
def footsL (rows : List (List Val)) (xs : List (List UInt8)) : List UInt8 := (xs.mapIdx fun i x => footC x (colOf rows i)).flatten
theorem footsL_snoc (rows : List (List Val)) (xs : List (List UInt8)) (x : List UInt8) : footsL rows (xs ++ [x]) = footsL rows xs ++ footC x (colOf rows xs.length) := by
  unfold footsL
  rw [List.mapIdx_concat]
  simp
def footL (cs : List Col) (rows : List (List Val)) (xs : List (List UInt8)) : List UInt8 := schL cs ++ digitsL rows.length ++ footsL rows xs
def preL (cs : List Col) (rows : List (List Val)) (xs : List (List UInt8)) : List UInt8 := magicB ++ xs.flatten ++ footL cs rows xs ++ lowB (footL cs rows xs).length
def sealD (p : List UInt8) : List UInt8 := p ++ digP p
/-- the chunks of the first columns -/
structure ChsIs (cs : List Col) (rows : List (List Val)) (xs : List (List UInt8)) : Prop where
  len : xs.length ≤ cs.length
  each : ∀ i (h1 : i < cs.length) (h2 : i < xs.length), ChIs cs[i].2.1 (colOf rows i) xs[i]
theorem ChsIs.nil (cs : List Col) (rows : List (List Val)) : ChsIs cs rows [] := ⟨by simp, fun i _ h => by simp at h⟩
theorem ChsIs.snoc {cs : List Col} {rows : List (List Val)} {xs : List (List UInt8)} (h : ChsIs cs rows xs) {x : List UInt8} (h1 : xs.length < cs.length) (hx : ChIs cs[xs.length].2.1 (colOf rows xs.length) x) : ChsIs cs rows (xs ++ [x]) := by
  refine ⟨by simp; omega, fun i g1 g2 => ?_⟩
  rcases Nat.lt_or_ge i xs.length with h3 | h3
  · rw [List.getElem_append_left h3]
    exact h.each i g1 h3
  · have : i = xs.length := by simp at g2; omega
    subst this
    simp only [List.getElem_concat_length]
    exact hx
theorem ChsIs.one {cs : List Col} {rows : List (List Val)} {xs ys : List (List UInt8)} (h : ChsIs cs rows xs) (h' : ChsIs cs rows ys) (hl : xs.length = ys.length) : xs = ys := by
  refine List.ext_getElem hl fun i h1 h2 => ?_
  have := h.len
  exact (h.each i (by omega) h1).one (h'.each i (by omega) h2)
theorem flatten_le {xs : List (List UInt8)} {m : Nat} (h : ∀ x ∈ xs, x.length ≤ m) : xs.flatten.length ≤ xs.length * m := by
  induction xs with
  | nil => simp
  | cons x xs ih =>
    have h1 := h x (by simp)
    have h2 := ih fun y hy => h y (by simp [hy])
    simp only [List.flatten_cons, List.length_append, List.length_cons, Nat.add_mul]
    omega
theorem footC_len {k : Int} {x : List UInt8} {l : List Val} (hg : Good1 k l) (hx : x.length ≤ 2000300) : (footC x l).length ≤ 2100 := by
  have h1 := digitsL_len10 (n := x.length) (by omega)
  have h2 := digitsL_len10 (n := nullsN l) (by have := nullsN_le l; have := hg.len; omega)
  have h3 := layL_len hg.zone.1.1 hg.zone.1.2
  have h4 := layL_len hg.zone.2.1 hg.zone.2.2
  simp only [footC, List.length_append]
  omega
section
variable {cs : List Col} {rows : List (List Val)} {xs : List (List UInt8)}
theorem ChsIs.lens (h : ChsIs cs rows xs) (hs : SegOk cs rows) : ∀ x ∈ xs, x.length ≤ 2000300 := by
  intro x hx
  obtain ⟨i, hi, rfl⟩ := List.getElem_of_mem hx
  have := h.len
  exact (h.each i (by omega) hi).len (hs.good (by omega))
theorem ChsIs.flat (h : ChsIs cs rows xs) (hs : SegOk cs rows) : xs.flatten.length ≤ 33000000 := by
  have h1 := flatten_le (h.lens hs)
  have h2 := h.len
  have h3 := right_len hs.right
  have : xs.length * 2000300 ≤ 16 * 2000300 := Nat.mul_le_mul_right _ (by omega)
  omega
theorem ChsIs.foots (h : ChsIs cs rows xs) (hs : SegOk cs rows) : (footsL rows xs).length ≤ 34000 := by
  have h1 : (footsL rows xs).length ≤ (xs.mapIdx fun i x => footC x (colOf rows i)).length * 2100 := by
    refine flatten_le fun x hx => ?_
    obtain ⟨i, hi, rfl⟩ := List.mem_mapIdx.1 hx
    have := h.len
    exact footC_len (hs.good (by omega : i < cs.length)) (h.lens hs _ (List.getElem_mem hi))
  rw [List.length_mapIdx] at h1
  have h2 := h.len
  have h3 := right_len hs.right
  omega
theorem ChsIs.footLen (h : ChsIs cs rows xs) (hs : SegOk cs rows) : (footL cs rows xs).length ≤ 35000 := by
  have h1 := h.foots hs
  have h2 := schL_len hs.right
  have h3 := digitsL_len10 (n := rows.length) (by have := hs.len; omega)
  simp only [footL, List.length_append]
  omega
theorem ChsIs.preLen (h : ChsIs cs rows xs) (hs : SegOk cs rows) : (preL cs rows xs).length ≤ 34000000 := by
  have h1 := h.footLen hs
  have h2 := h.flat hs
  simp only [preL, List.length_append, magicB, lowB, List.length_cons, List.length_nil]
  omega
end
/-- which bytes rows are -/
structure SegIs (cs : List Col) (rows : List (List Val)) (b : List UInt8) : Prop where
  ex : ∃ xs, xs.length = cs.length ∧ ChsIs cs rows xs ∧ b = sealD (preL cs rows xs)
theorem SegIs.one {cs : List Col} {rows : List (List Val)} {b b' : List UInt8} (h : SegIs cs rows b) (h' : SegIs cs rows b') : b = b' := by
  obtain ⟨xs, h1, h2, rfl⟩ := h.ex
  obtain ⟨ys, k1, k2, rfl⟩ := h'.ex
  rw [h2.one k2 (by omega)]
def segE (cs : List Col) (rows : List (List Val)) : Int := if rightCols cs = false then 50 else if 1024 < rows.length ∨ ∃ r ∈ rows, fitsB cs r = false then 51 else 0
/-- what Write hands back -/
def SegV (cs : List Col) (rows : List (List Val)) (v : Value) : Prop :=
  (¬ SegOk cs rows ∧ v = .tuple #[.string ⟨#[]⟩, .int .i64 (segE cs rows)] ∧ segE cs rows ≠ 0) ∨ (SegOk cs rows ∧ ∃ b, v = .tuple #[.string (sof b), .int .i64 0] ∧ SegIs cs rows b)
end Go.Proofs.YtipgnehlihmdhaaGreatDoor

/-
  A text that is written out, as bytes; append where there is no room.
-/
namespace Go.Dn
open Go.RowKit (Below)

theorem conv_lit {P : Program} {bt el : TypeId} (hb : P.underlying bt = some (.slice el)) (he : P.underlying el = some (.int .u8)) {w : World} {b n c : Nat} {cs : Array Value} {e : TypeId} (hg : w.heap[b]? = some (.cells cs e (0, 0))) {f : Value → World → Prop}
    (hf : ∀ w', Keeps (· = b) w w' → w'.heap[b]? = some (.cells cs e (cs.size, cs.size + 1)) → f (.slice (some ⟨b, 0, none⟩) n c) w') : OPR P (convert bt bt (.slice (some ⟨b, 0, none⟩) n c)) f w := by
  have hshape : w.shape? b = some (e, cs.size) := by simp [World.shape?, hg]
  have hmark : (markStringish ⟨b, 0, none⟩).run P w = .ok () (w.freeze ⟨b, cs.size, none⟩ 1) := by simp [markStringish, hshape]
  have hrun : (convert bt bt (.slice (some ⟨b, 0, none⟩) n c)).run P w = .ok (.slice (some ⟨b, 0, none⟩) n c) (w.freeze ⟨b, cs.size, none⟩ 1) := by
    simp only [convert, Sem.run_bind, run_underlying hb, run_underlying he, Result.andThen_ok, beq_self_eq_true, hmark, Sem.run_pure]
  unfold OPR
  rw [hrun]
  refine hf _ (freeze_keeps (· = b) w ⟨b, cs.size, none⟩ 1 rfl) ?_
  unfold World.freeze
  simp [Array.getElem?_modify, hg]
theorem append_grow {P : Program} {t ty e : TypeId} {sz bytes : Nat} {z : Value} (hT : slT P t = some (e, sz, bytes, z)) (hz : z.cells.size = sz) (hsz : 0 < sz) (hb0 : 0 < bytes)
    {w : World} {p : Addr} {n c : Nat} {xs : List Value} (hr : Rd w (some p) xs) (hxl : xs.length = n * sz) {b : Option Addr} {m mc : Nat} {news : List Value} (hs : Rd w b news) (hl : news.length = m * sz) (hm : 0 < m)
    (hc : c < n + m) (_hnc : n ≤ c) (hby : (n + m) * bytes ≤ 140737488355328) :
    ∃ a' c' w', (Builtin.append_ #[t, t] ty #[.slice (some p) n c, .slice b m mc]).run P w = .ok (.slice a' (n + m) c') w' ∧ Row w' e sz a' (n + m) c' (xs ++ news) ∧ Below w.heap.size w w' ∧ (∀ k, rowB a' = some k → w.heap.size ≤ k) := by
  obtain ⟨hu, i, hi, hiz, rfl, rfl⟩ := slT_out hT
  have hnm : n + m ≤ 140737488355328 := Nat.le_trans (Nat.le_mul_of_pos_right _ hb0) hby
  have hlen : (xs ++ news).length = (n + m) * i.size := by rw [List.length_append, hxl, hl, Nat.add_mul]
  have h0 : 0 < news.length := by rw [hl]; exact Nat.mul_pos hm hsz
  obtain ⟨q, rfl, _⟩ := hs 0 news[0] (List.getElem?_eq_getElem h0)
  have hq : ∀ j u, news[j]? = some u → w.cell? (q.add j) = some u := by
    intro j u hu
    obtain ⟨q', hq', hc⟩ := hs j u hu
    cases hq'
    exact hc
  have hold : ∀ j v, xs[j]? = some v → w.cell? (p.add j) = some v := by
    intro j v hv
    obtain ⟨q', hq', hc⟩ := hr j v hv
    cases hq'
    exact hc
  have hge := grownCap_ge w (n + m) c e
  have hcm : grownCap w (n + m) c e ≤ maxLen := grownCap_le_maxLen w (n + m) c e (by unfold maxLen; omega)
  have hrun := run_append_grow (P := P) w t ty e i z hu hi hiz p n c xs hxl hold q m mc news hl hq (by omega) (by omega) (growslice_fits (by omega) hby)
  refine ⟨_, _, _, hrun, ⟨hlen, .inr ⟨w.heap.size, _, rfl, heap_alloc_new w.drew _, hge, by unfold maxLen at hcm; omega, ?_, ?_⟩⟩, ((Below.refl _ w).drew).alloc (Nat.le_refl _) _, fun k hk => ?_⟩
  · simp only [Array.size_append, List.size_toArray, size_zeroCells, hz, hxl, hl, ← Nat.add_mul]
    congr 1
    omega
  · simp only [Array.toList_append, List.append_assoc]
    rw [← List.append_assoc, ← hlen]
    exact List.take_left
  · simp [rowB] at hk
    omega
/-- a slice that may be added to: own, or without room -/
def It.buf (e : TypeId) (sz : Nat) (a : Option Addr) (n c : Nat) (xs : List Value) : It where
  blk := rowB a
  ok := fun w => Row w e sz a n c xs ∨ (∃ p, a = some p ∧ c = n ∧ Rd w a xs ∧ xs.length = n * sz ∧ p.block < w.heap.size)
  st := fun w w' h h0 => by
    rcases h0 with h0 | ⟨p, rfl, h1, h2, h3, h4⟩
    · exact .inl ((It.row e sz a n c xs).st w w' h h0)
    · refine .inr ⟨p, rfl, h1, ?_, h3, ?_⟩
      · intro j v hv
        obtain ⟨q, hq, hc⟩ := h2 j v hv
        cases hq
        exact ⟨p, rfl, by rw [World.cell?_of_block (w := w) (by rw [addr_add_block]; exact h p.block rfl)]; exact hc⟩
      · have := h p.block rfl
        rw [Array.getElem?_eq_getElem h4] at this
        exact (Array.getElem?_eq_some_iff.1 this).1
  lt := fun w h k hk => by
    rcases h with h | ⟨p, rfl, _, _, _, h4⟩
    · exact h.lt hk
    · cases hk; exact h4
section
variable {w0 w : World} {H : List It}
theorem ST.appF (S : ST w0 w H) (n : Nat) {P : Program} {t ty e : TypeId} {sz bytes : Nat} {z : Value} {a : Option Addr} {m c : Nat} {xs : List Value} (hn : H[n]? = some (It.buf e sz a m c xs)) (hT : slT P t = some (e, sz, bytes, z)) (hz : z.cells.size = sz) (hsz : 0 < sz) (hb0 : 0 < bytes)
    {b : Option Addr} {mm mc : Nat} {news : List Value} (hs : Rd w b news) (hl : news.length = mm * sz) (hmm : 0 < mm) (h1 : ∀ u ∈ news, u.oneCell' = true) (hby : (m + mm) * bytes ≤ 140737488355328) {f : Value → World → Prop}
    (hf : ∀ a' c' w', ST w0 w' (H.set n (It.row e sz a' (m + mm) c' (xs ++ news))) → f (.slice a' (m + mm) c') w') : OPR P (Builtin.append_ #[t, t] ty #[.slice a m c, .slice b mm mc]) f w := by
  rcases S.get n hn with h | ⟨p, rfl, rfl, h2, h3, h4⟩
  · obtain ⟨a', c', w', hrun, hrow, hk, hnew⟩ := append_row (ty := ty) (mc := mc) hT hz hsz hb0 h hs hl h1 hby
    unfold OPR
    rw [hrun]
    exact hf a' c' w' (S.chg n hn hk _ hrow hnew)
  · obtain ⟨a', c', w', hrun, hrow, hB, hnew⟩ := append_grow (ty := ty) (mc := mc) hT hz hsz hb0 h2 h3 hs hl hmm (by omega) (Nat.le_refl _) hby
    unfold OPR
    rw [hrun]
    exact hf a' c' w' (S.chg n hn (Keeps.of_below hB) _ hrow (fun k hk => .inr (hnew k hk)))
theorem ST.rdF (S : ST w0 w H) (n : Nat) {e : TypeId} {sz : Nat} {a : Option Addr} {m c : Nat} {xs : List Value} (hn : H[n]? = some (It.buf e sz a m c xs)) : Rd w a xs := by
  rcases S.get n hn with h | ⟨p, rfl, rfl, h2, h3, h4⟩
  · exact h.rd
  · exact h2
end
end Go.Dn
