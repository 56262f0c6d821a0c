/-
  Texts of this claim, laid one behind the other by a program of mine (install.py): P.Txt2, P.Txt3, P.Parts, P.Qtx, P.Rtx, P.Alk, P.Ld, P.Rp1, P.Rp2, P.Rp3.
-/
import Derived.Test.YtbpdfpfgijhokaaGreatDoorM5
import Derived.Lib.Join
import Derived.Test.YtbpdfpfgijhokaaGreatDoorM4
namespace Go.Proofs.YtbpdfpfgijhokaaGreatDoor
set_option maxRecDepth 100000
open Go.Dn Go.Proofs
open Go.RowKit (Below)
set_option linter.unusedVariables false
section
variable {op : Int} {nm : ByteArray} {v : Val} {k k' : Ex}
theorem text_col : (Ex.mk 1 nm v []).text = nm := by show nodeT 1 nm v (Ex.texts []) = _; unfold nodeT; rw [if_pos rfl]
theorem text_const : (Ex.mk 2 nm v []).text = sof (showL v) := by show nodeT 2 nm v (Ex.texts []) = _; unfold nodeT; rw [if_neg (by decide), if_pos rfl]
theorem text_len : (Ex.mk 16 nm v [k]).text = ⟨#[108, 101, 110, 40]⟩ ++ k.text ++ ⟨#[41]⟩ := by
  show nodeT 16 nm v (Ex.texts [k]) = _
  unfold nodeT
  rw [if_neg (by decide), if_neg (by decide), if_pos rfl, ← at_one k]
  rfl
theorem text_not : (Ex.mk 14 nm v [k]).text = ⟨#[110, 111, 116, 32]⟩ ++ k.at 3 := by
  show nodeT 14 nm v (Ex.texts [k]) = _
  unfold nodeT
  rw [if_neg (by decide), if_neg (by decide), if_neg (by decide), if_pos rfl]
  rfl
theorem text_null : (Ex.mk 15 nm v [k]).text = k.at 5 ++ ⟨#[32, 105, 115, 32, 110, 117, 108, 108]⟩ := by
  show nodeT 15 nm v (Ex.texts [k]) = _
  unfold nodeT
  rw [if_neg (by decide), if_neg (by decide), if_neg (by decide), if_neg (by decide), if_pos rfl]
  rfl
theorem text_neg : (Ex.mk 8 nm v [k]).text = if isNum k.op k.v = true then ⟨#[45, 40]⟩ ++ k.text ++ ⟨#[41]⟩ else ⟨#[45]⟩ ++ k.at 8 := by
  show nodeT 8 nm v (Ex.texts [k]) = _
  unfold nodeT
  rw [if_neg (by decide), if_neg (by decide), if_neg (by decide), if_neg (by decide), if_neg (by decide), if_pos rfl, ← at_one k]
  rfl
theorem text_two (h : 3 ≤ op ∧ op ≤ 13 ∧ op ≠ 8) : (Ex.mk op nm v [k, k']).text = k.at (leftNeed op) ++ ⟨#[32]⟩ ++ signOf op ++ ⟨#[32]⟩ ++ k'.at (rowOf op + 1) := by
  simp only [Ex.text, nodeT]
  rw [if_neg (by omega), if_neg (by omega), if_neg (by omega), if_neg (by omega), if_neg (by omega), if_neg (by omega)]
  rfl
end
theorem row_range (op : Int) : 1 ≤ rowOf op ∧ rowOf op ≤ 9 := by
  unfold rowOf
  by_cases h1 : op = 13
  · rw [if_pos h1]; omega
  rw [if_neg h1]
  by_cases h2 : op = 12
  · rw [if_pos h2]; omega
  rw [if_neg h2]
  by_cases h3 : op = 14
  · rw [if_pos h3]; omega
  rw [if_neg h3]
  by_cases h4 : op = 15
  · rw [if_pos h4]; omega
  rw [if_neg h4]
  by_cases h5 : op = 9 ∨ op = 10 ∨ op = 11
  · rw [if_pos h5]; omega
  rw [if_neg h5]
  by_cases h6 : op = 3 ∨ op = 4
  · rw [if_pos h6]; omega
  rw [if_neg h6]
  by_cases h7 : op = 5 ∨ op = 6 ∨ op = 7
  · rw [if_pos h7]; omega
  rw [if_neg h7]
  by_cases h8 : op = 8
  · rw [if_pos h8]; omega
  rw [if_neg h8]; omega
theorem fair_size {x : Ex} {d : Nat} (h : x.fair d) (hs : x.size ≤ 400) : x.text.size ≤ 840000 := by
  have := text_size x d h
  omega
theorem atS {x : Ex} {d : Nat} (h : x.fair d) (hs : x.size ≤ 400) (need : Int) : (x.at need).size ≤ 840002 := by
  have := at_size x need
  have := fair_size h hs
  omega
def TextOk (x : Ex) : Prop := ∀ (w : World) (a : Option Addr) (cap : Nat), XC w x (exHead x a cap) → Calls Tryz.prog f.ref11_text #[.agg ⟨exHead x a cap⟩] w (Ret fun r w' => r = .string x.text ∧ Below w.heap.size w w')
theorem ref11_at_of {x : Ex} (ht : TextOk x) (hs : x.text.size ≤ 840000) {w : World} {a : Option Addr} {cap : Nat} (hx : XC w x (exHead x a cap)) (need : Int) : Calls Tryz.prog f.ref11_at #[.agg ⟨exHead x a cap⟩, .int .i64 need] w (Ret fun r w' => r = .string (x.at need) ∧ Below w.heap.size w w') := by
  apply R.ref11_at_calls
  unfold R.ref11_at
  refine (ST.start w).newB fun b8 w1 _ _ S1 => ⟨_, S1.cell 0 rfl rfl, _, S1.cell 0 rfl rfl, _, S1.cell 0 rfl rfl, _, S1.cell 0 rfl rfl, _, S1.cell 0 rfl rfl, _, _, _, S1.cell 0 rfl rfl, (ht w1 a cap (hx.grown S1.bel)).mono ?_⟩
  rintro _ w2 ⟨_, rfl, rfl, B2⟩
  have S2 := S1.grown B2
  refine ⟨_, rfl, _, S2.cell 0 rfl rfl, _, S2.cell 0 rfl rfl, _, S2.cell 0 rfl rfl, _, S2.cell 0 rfl rfl, _, S2.cell 0 rfl rfl, _, _, _, S2.cell 0 rfl rfl, (ref11_level_ok (x := x) (a := a) (cap := cap)).mono ?_⟩
  rintro _ w3 ⟨_, rfl, rfl, B3⟩
  have S3 := S2.grown B3
  have e1 : (ByteArray.mk #[40]).size = 1 := rfl
  have e2 : (ByteArray.mk #[41]).size = 1 := rfl
  refine ⟨_, rfl, IFB_dec (fun h => ⟨by omega, by simp only [ByteArray.size_append]; omega, ?_, S3.bel⟩) (fun h => ⟨?_, S3.bel⟩)⟩
  · unfold Ex.at wrapT; rw [if_pos h]; rfl
  · unfold Ex.at wrapT; rw [if_neg h]
theorem const_val {op : Int} {nm : ByteArray} {v : Val} {ks : List Ex} {d : Nat} (h : (Ex.mk op nm v ks).fair d) : ValOk v := by
  have := h.2.2
  unfold Ex.fit at this
  exact ⟨this.1.2.2.1.1, this.1.2.2.1.2⟩
theorem showV_right {v : Val} (h : rightB v = true) : showV v = .tuple #[.string (sof (showL v)), .int .i64 0] := by unfold showV; rw [if_pos h]
theorem ref11_text_ok : ∀ (x : Ex) (d : Nat), x.fair d → x.size ≤ 400 → TextOk x := by
  intro x
  induction x using Ex.ind with
  | h op nm v ks ih =>
    intro d hf hsz w a cap hx
    cases d with
    | zero => have := hf.1; simp [Ex.okA] at this
    | succ d =>
    obtain ⟨ho, hk⟩ := hf.kid
    have hv := const_val hf
    obtain ⟨rs, hrd, hkids, _⟩ := exHead_inj hx
    change ExL _ _ ks rs at hkids
    apply R.ref11_text_calls
    unfold R.ref11_text
    refine (ST.start w).newB fun b7 w1 _ _ S1 => ⟨_, S1.cell 0 rfl rfl, ?_⟩
    have e41 : (ByteArray.mk #[41]).size = 1 := rfl
    have e45 : (ByteArray.mk #[45]).size = 1 := rfl
    have e4540 : (ByteArray.mk #[45, 40]).size = 2 := rfl
    have elen : (ByteArray.mk #[108, 101, 110, 40]).size = 4 := rfl
    have enot : (ByteArray.mk #[110, 111, 116, 32]).size = 4 := rfl
    have eis : (ByteArray.mk #[32, 105, 115, 32, 110, 117, 108, 108]).size = 8 := rfl
    have e32 : (ByteArray.mk #[32]).size = 1 := rfl
    rcases okN_kids ho with ⟨hop, rfl⟩ | ⟨hop, k, rfl⟩ | ⟨hop, k, k', rfl⟩
    · rcases hop with rfl | rfl
      · exact IFB_eq (fun _ => ⟨_, S1.cell 0 rfl rfl, by rw [text_col]; rfl, S1.bel⟩) (fun h => absurd rfl h)
      · refine IFB_eq (fun h => absurd (show (2 : Int) = _ from h) (by decide)) (fun _ => IFB_eq (fun _ => ⟨_, S1.cell 0 rfl rfl, _, S1.cell 0 rfl rfl, _, S1.cell 0 rfl rfl, (ref_Show_ok w1 v hv).mono ?_⟩) (fun h => absurd rfl h))
        rintro _ w2 ⟨_, rfl, rfl, B2⟩
        rw [showV_right (v := v) (okN_iff.1 ho).2.2.2]
        exact ⟨_, _, rfl, by rw [text_const], (S1.grown B2).bel⟩
    · have hks : k.size ≤ 400 := by simp only [Ex.size, Ex.sizeL] at hsz; omega
      have hkf := hk k (by simp)
      have hkt := ih k (by simp) d hkf hks
      have hs := fair_size hkf hks
      obtain ⟨p, a3, cap3, rfl, hxk, c0, c1, c2, c3, c4, c5⟩ := ex_at (hrd.grown S1.bel) hkids (i := 0) (by simp)
      change XC w k (exHead k a3 cap3) at hxk
      rcases hop with rfl | rfl | rfl | rfl
      · refine IFB_eq (fun h => absurd (show (8 : Int) = _ from h) (by decide)) (fun _ => IFB_eq (fun h => absurd (show (8 : Int) = _ from h) (by decide)) (fun _ => IFB_eq (fun h => absurd (show (8 : Int) = _ from h) (by decide)) (fun _ => IFB_eq (fun h => absurd (show (8 : Int) = _ from h) (by decide)) (fun _ => IFB_eq (fun h => absurd (show (8 : Int) = _ from h) (by decide)) (fun _ => IFB_eq (fun _ => ?_) (fun h => absurd rfl h))))))
        refine ⟨_, _, _, S1.cell 0 rfl rfl, ⟨by decide, by show (0 : Int) < 1; decide⟩, _, c0, _, c1, _, c2, _, c3, _, c4, _, _, _, c5, S1.lit6 fun b54 w12 _ S12 => ⟨_, S12.cell 0 rfl rfl, ?_⟩⟩
        have a8 := atS hkf hks 8
        have lastc : ∀ (hn : isNum k.op k.v = false), Calls Tryz.prog f.ref11_at #[.agg ⟨exHead k a3 cap3⟩, .int .i64 8] w12 (fun e w14 => ∃ t : ByteArray, e = .returned (.string t) ∧ (ByteArray.size ⟨#[45]⟩) + t.size ≤ 9223372036854775807 ∧ (Value.string (⟨#[45]⟩ ++ t) = .string (Ex.mk 8 nm v [k]).text ∧ Below w.heap.size w w14)) := by
          intro hn
          refine (ref11_at_of hkt hs (hxk.grown S12.bel) 8).mono ?_
          rintro _ w14 ⟨_, rfl, rfl, B14⟩
          exact ⟨_, rfl, by omega, by rw [text_neg, if_neg (by rw [hn]; decide)], (S12.grown B14).bel⟩
        refine IFB_eq (fun h2 => ⟨_, S12.cell 0 rfl rfl, IFB_eq (fun h1 => ⟨_, S12.cell 0 rfl rfl, _, S12.cell 0 rfl rfl, _, S12.cell 0 rfl rfl, _, S12.cell 0 rfl rfl, _, S12.cell 0 rfl rfl, _, _, _, S12.cell 0 rfl rfl, (hkt w12 a3 cap3 (hxk.grown S12.bel)).mono ?_⟩) (fun h1 => ⟨_, S12.cell 0 rfl rfl, _, S12.cell 0 rfl rfl, _, S12.cell 0 rfl rfl, _, S12.cell 0 rfl rfl, _, S12.cell 0 rfl rfl, _, _, _, S12.cell 0 rfl rfl, lastc ?_⟩)⟩) (fun h2 => ⟨_, S12.cell 0 rfl rfl, _, S12.cell 0 rfl rfl, _, S12.cell 0 rfl rfl, _, S12.cell 0 rfl rfl, _, S12.cell 0 rfl rfl, _, _, _, S12.cell 0 rfl rfl, lastc ?_⟩)
        · rintro _ w13 ⟨_, rfl, rfl, B13⟩
          exact ⟨_, rfl, by omega, by simp only [ByteArray.size_append]; omega, by rw [text_neg, if_pos (show isNum k.op k.v = true from decide_eq_true ⟨h2, h1⟩)], (S12.grown B13).bel⟩
        · exact decide_eq_false fun h => h1 h.2
        · exact decide_eq_false fun h => h2 h.1
      · refine IFB_eq (fun h => absurd (show (14 : Int) = _ from h) (by decide)) (fun _ => IFB_eq (fun h => absurd (show (14 : Int) = _ from h) (by decide)) (fun _ => IFB_eq (fun h => absurd (show (14 : Int) = _ from h) (by decide)) (fun _ => IFB_eq (fun _ => ?_) (fun h => absurd rfl h))))
        refine ⟨_, _, _, S1.cell 0 rfl rfl, ⟨by decide, by show (0 : Int) < 1; decide⟩, _, c0, _, c1, _, c2, _, c3, _, c4, _, _, _, c5, (ref11_at_of hkt hs (hxk.grown S1.bel) 3).mono ?_⟩
        rintro _ w14 ⟨_, rfl, rfl, B14⟩
        have a3' := atS hkf hks 3
        exact ⟨_, rfl, by omega, by rw [text_not], (S1.grown B14).bel⟩
      · refine IFB_eq (fun h => absurd (show (15 : Int) = _ from h) (by decide)) (fun _ => IFB_eq (fun h => absurd (show (15 : Int) = _ from h) (by decide)) (fun _ => IFB_eq (fun h => absurd (show (15 : Int) = _ from h) (by decide)) (fun _ => IFB_eq (fun h => absurd (show (15 : Int) = _ from h) (by decide)) (fun _ => IFB_eq (fun _ => ?_) (fun h => absurd rfl h)))))
        refine ⟨_, _, _, S1.cell 0 rfl rfl, ⟨by decide, by show (0 : Int) < 1; decide⟩, _, c0, _, c1, _, c2, _, c3, _, c4, _, _, _, c5, (ref11_at_of hkt hs (hxk.grown S1.bel) 5).mono ?_⟩
        rintro _ w14 ⟨_, rfl, rfl, B14⟩
        have a5' := atS hkf hks 5
        exact ⟨_, rfl, by omega, by rw [text_null], (S1.grown B14).bel⟩
      · refine IFB_eq (fun h => absurd (show (16 : Int) = _ from h) (by decide)) (fun _ => IFB_eq (fun h => absurd (show (16 : Int) = _ from h) (by decide)) (fun _ => IFB_eq (fun _ => ?_) (fun h => absurd rfl h)))
        refine ⟨_, _, _, S1.cell 0 rfl rfl, ⟨by decide, by show (0 : Int) < 1; decide⟩, _, c0, _, c1, _, c2, _, c3, _, c4, _, _, _, c5, (hkt w1 a3 cap3 (hxk.grown S1.bel)).mono ?_⟩
        rintro _ w14 ⟨_, rfl, rfl, B14⟩
        exact ⟨_, rfl, by omega, by simp only [ByteArray.size_append]; omega, by rw [text_len], (S1.grown B14).bel⟩
    · have hks : k.size ≤ 400 ∧ k'.size ≤ 400 := by simp only [Ex.size, Ex.sizeL] at hsz; omega
      have hkf := hk k (by simp)
      have hkf' := hk k' (by simp)
      have hkt := ih k (by simp) d hkf hks.1
      have hkt' := ih k' (by simp) d hkf' hks.2
      have hs := fair_size hkf hks.1
      have hs' := fair_size hkf' hks.2
      refine IFB_eq (fun h => by change op = 1 at h; omega) (fun _ => IFB_eq (fun h => by change op = 2 at h; omega) (fun _ => IFB_eq (fun h => by change op = 16 at h; omega) (fun _ => IFB_eq (fun h => by change op = 14 at h; omega) (fun _ => IFB_eq (fun h => by change op = 15 at h; omega) (fun _ => IFB_eq (fun h => by change op = 8 at h; omega) (fun _ => ?_))))))
      refine ⟨_, S1.cell 0 rfl rfl, _, S1.cell 0 rfl rfl, _, S1.cell 0 rfl rfl, _, S1.cell 0 rfl rfl, _, S1.cell 0 rfl rfl, _, _, _, S1.cell 0 rfl rfl, (ref11_level_ok (x := .mk op nm v [k, k']) (a := a) (cap := cap)).mono ?_⟩
      rintro _ w16 ⟨_, rfl, rfl, B16⟩
      have S16 := S1.grown B16
      have hl : Ex.lvl (.mk op nm v [k, k']) = rowOf op := by
        show lvlOf op v = rowOf op
        unfold lvlOf
        rw [if_neg fun h => by have := h.1; omega]
      rw [hl]
      refine ⟨_, rfl, fun st w17 => st = [.int .i64 (leftNeed op)] ∧ w17 = w16, IFB_eq (fun h => ⟨by unfold leftNeed; rw [if_pos h], rfl⟩) (fun h => ⟨by unfold leftNeed; rw [if_neg h], rfl⟩), ?_⟩
      rintro left w17 ⟨hleft, rfl⟩
      obtain rfl : left = leftNeed op := by simpa using hleft
      refine S16.draw fun w18 _ S18 => ?_
      obtain ⟨p, a3, cap3, rfl, hxk, c0, c1, c2, c3, c4, c5⟩ := ex_at (hrd.grown S18.bel) hkids (i := 0) (by simp)
      obtain ⟨p', a4, cap4, hp', hxk', d0, d1, d2, d3, d4, d5⟩ := ex_at (hrd.grown S18.bel) hkids (i := 1) (by simp)
      cases hp'
      change XC w k (exHead k a3 cap3) at hxk
      change XC w k' (exHead k' a4 cap4) at hxk'
      refine ⟨_, _, _, S18.cell 0 rfl rfl, ⟨by decide, by show (0 : Int) < 2; decide⟩, _, c0, _, c1, _, c2, _, c3, _, c4, _, _, _, c5, _, S18.cell 0 rfl rfl, _, _, _, S18.cell 0 rfl rfl, ⟨by decide, by show (1 : Int) < 2; decide⟩, _, d0, _, d1, _, d2, _, d3, _, d4, _, _, _, d5, (ref11_at_of hkt hs (hxk.grown S18.bel) (leftNeed op)).mono ?_⟩
      rintro _ w19 ⟨_, rfl, rfl, B19⟩
      have S19 := S18.grown B19
      have K19 := Keeps.of_below (F := fun _ => False) B19
      refine ⟨_, rfl, ⟨K19.cell d0 (by simp), K19.cell d1 (by simp), K19.cell d2 (by simp), K19.cell d3 (by simp), K19.cell d4 (by simp), K19.cell d5 (by simp)⟩, S19.cell 0 rfl rfl, S19.cell 0 rfl rfl, (ref11_sign_ok w19 hop).mono ?_⟩
      rintro _ w20 ⟨_, rfl, rfl, rfl⟩
      have hsg := sign_size op
      have al := atS hkf hks.1 (leftNeed op)
      have ar := atS hkf' hks.2 (rowOf op + 1)
      refine ⟨_, rfl, ⟨K19.cell d0 (by simp), K19.cell d1 (by simp), K19.cell d2 (by simp), K19.cell d3 (by simp), K19.cell d4 (by simp), K19.cell d5 (by simp)⟩, S19.cell 0 rfl rfl, by simp only [ByteArray.size_append]; omega, ?_⟩
      have hr9 := row_range op
      rw [wrap_i64 (by omega) (by omega)]
      refine (ref11_at_of hkt' hs' (hxk'.grown S19.bel) (rowOf op + 1)).mono ?_
      rintro _ w21 ⟨_, rfl, rfl, B21⟩
      refine ⟨_, rfl, by simp only [ByteArray.size_append]; omega, ?_, (S19.grown B21).bel⟩
      rw [text_two hop]
      simp only [ByteArray.append_assoc]
def ShownOk (x : Ex) : Prop := ∀ (w : World) (a : Option Addr) (cap : Nat) (lv : Int), Env w → XC w x (exHead x a cap) → Calls Tryz.prog f.query_shown #[.agg ⟨exHead x a cap⟩, .int .i64 lv] w (Ret fun r w' => r = .string (x.at lv) ∧ Below w.heap.size w w')
theorem query_shown_ok : ∀ (x : Ex) (d : Nat), x.fair d → x.size ≤ 400 → ShownOk x := by
  intro x
  induction x using Ex.ind with
  | h op nm v ks ih =>
    intro d hf hsz w a cap lv E hx
    cases d with
    | zero => have := hf.1; simp [Ex.okA] at this
    | succ d =>
    obtain ⟨ho, hk⟩ := hf.kid
    have hv := const_val hf
    have hxs := fair_size hf hsz
    obtain ⟨rs, hrd, hkids, _⟩ := exHead_inj hx
    change ExL _ _ ks rs at hkids
    apply R.query_shown_calls
    unfold R.query_shown
    have e40 : (ByteArray.mk #[40]).size = 1 := rfl
    have e41 : (ByteArray.mk #[41]).size = 1 := rfl
    have e45 : (ByteArray.mk #[45]).size = 1 := rfl
    have e4540 : (ByteArray.mk #[45, 40]).size = 2 := rfl
    have elen : (ByteArray.mk #[108, 101, 110, 40]).size = 4 := rfl
    have enot : (ByteArray.mk #[110, 111, 116, 32]).size = 4 := rfl
    have eis : (ByteArray.mk #[32, 105, 115, 32, 110, 117, 108, 108]).size = 8 := rfl
    have e32 : (ByteArray.mk #[32]).size = 1 := rfl
    refine (ST.start w).newB fun b8 w1 _ _ S1 => ⟨fun st w20 => st = [.int .i64 (Ex.lvl (.mk op nm v ks)), .string (Ex.text (.mk op nm v ks))] ∧ Below w.heap.size w w20, ⟨_, S1.cell 0 rfl rfl, ?_⟩, ?_⟩
    rotate_left
    · rintro own s w20 ⟨hst, B20⟩
      obtain ⟨rfl, rfl⟩ : own = Ex.lvl (.mk op nm v ks) ∧ s = Ex.text (.mk op nm v ks) := by simpa using hst
      refine IFB_dec (fun h => ⟨by omega, by simp only [ByteArray.size_append]; omega, ?_, B20⟩) (fun h => ⟨?_, B20⟩)
      · unfold Ex.at wrapT; rw [if_pos h]; rfl
      · unfold Ex.at wrapT; rw [if_neg h]
    have lvr : ¬ op = 2 → Ex.lvl (.mk op nm v ks) = rowOf op := fun h => by
      show lvlOf op v = rowOf op
      unfold lvlOf
      rw [if_neg fun h' => h h'.1]
    rcases okN_kids ho with ⟨hop, rfl⟩ | ⟨hop, k, rfl⟩ | ⟨hop, k, k', rfl⟩
    · rcases hop with rfl | rfl
      · refine IFB_eq (fun _ => ⟨_, S1.cell 0 rfl rfl, ?_, S1.bel⟩) (fun h => absurd rfl h)
        rw [text_col, lvr (by decide)]
        rfl
      · refine IFB_eq (fun h => absurd (show (2 : Int) = _ from h) (by decide)) (fun _ => IFB_eq (fun _ => ⟨_, S1.cell 0 rfl rfl, _, S1.cell 0 rfl rfl, _, S1.cell 0 rfl rfl, (value_Show_ok (E.grown S1.bel) v hv).mono ?_⟩) (fun h => absurd rfl h))
        rintro _ w2 ⟨_, rfl, rfl, B2⟩
        have S2 := S1.grown B2
        rw [showV_right (v := v) (okN_iff.1 ho).2.2.2, text_const]
        refine ⟨_, _, rfl, _, S2.cell 0 rfl rfl, IFB_dec (fun h => ⟨?_, S2.bel⟩) (fun h => ⟨?_, S2.bel⟩)⟩
        · have : Ex.lvl (.mk 2 nm v []) = 8 := by
            show lvlOf 2 v = 8
            unfold lvlOf
            rw [if_pos ⟨rfl, h⟩]
          rw [this]
        · have : Ex.lvl (.mk 2 nm v []) = 9 := by
            show lvlOf 2 v = 9
            unfold lvlOf
            rw [if_neg fun h' => h h'.2]
            rfl
          rw [this]
    · have hks : k.size ≤ 400 := by simp only [Ex.size, Ex.sizeL] at hsz; omega
      have hkf := hk k (by simp)
      have hkt := ih k (by simp) d hkf hks
      have hs := fair_size hkf hks
      obtain ⟨p, a3, cap3, rfl, hxk, c0, c1, c2, c3, c4, c5⟩ := ex_at (hrd.grown S1.bel) hkids (i := 0) (by simp)
      change XC w k (exHead k a3 cap3) at hxk
      rcases hop with rfl | rfl | rfl | rfl
      · refine IFB_eq (fun h => absurd (show (8 : Int) = _ from h) (by decide)) (fun _ => IFB_eq (fun h => absurd (show (8 : Int) = _ from h) (by decide)) (fun _ => IFB_eq (fun h => absurd (show (8 : Int) = _ from h) (by decide)) (fun _ => IFB_eq (fun h => absurd (show (8 : Int) = _ from h) (by decide)) (fun _ => IFB_eq (fun h => absurd (show (8 : Int) = _ from h) (by decide)) (fun _ => IFB_eq (fun _ => ?_) (fun h => absurd rfl h))))))
        refine ⟨_, _, _, S1.cell 0 rfl rfl, ⟨by decide, by show (0 : Int) < 1; decide⟩, _, c0, _, c1, _, c2, _, c3, _, c4, _, _, _, c5, (hkt w1 a3 cap3 8 (E.grown S1.bel) (hxk.grown S1.bel)).mono ?_⟩
        rintro _ w6 ⟨_, rfl, rfl, B6⟩
        have S6 := S1.grown B6
        have K6 := Keeps.of_below (F := fun _ => False) B6
        have a8 := atS hkf hks 8
        have l8 : Ex.lvl (.mk 8 nm v [k]) = 8 := by rw [lvr (by decide)]; rfl
        rw [l8, text_neg]
        refine ⟨_, rfl, by omega, _, _, _, S6.cell 0 rfl rfl, ⟨by decide, by show (0 : Int) < 1; decide⟩, _, K6.cell c0 (by simp), _, K6.cell c1 (by simp), _, K6.cell c2 (by simp), _, K6.cell c3 (by simp), _, K6.cell c4 (by simp), _, _, _, K6.cell c5 (by simp), S6.lit6 fun b66 w13 _ S13 => ⟨_, S13.cell 0 rfl rfl, ?_⟩⟩
        refine IFB_eq (fun h2 => ⟨_, S13.cell 0 rfl rfl, IFB_eq (fun h1 => ⟨_, S13.cell 0 rfl rfl, _, S13.cell 0 rfl rfl, _, S13.cell 0 rfl rfl, _, S13.cell 0 rfl rfl, _, S13.cell 0 rfl rfl, _, _, _, S13.cell 0 rfl rfl, (hkt w13 a3 cap3 1 (E.grown S13.bel) (hxk.grown S13.bel)).mono ?_⟩) (fun h1 => ⟨?_, S13.bel⟩)⟩) (fun h2 => ⟨?_, S13.bel⟩)
        · rintro _ w14 ⟨_, rfl, rfl, B14⟩
          rw [at_one]
          refine ⟨_, rfl, by omega, by simp only [ByteArray.size_append]; omega, ?_, (S13.grown B14).bel⟩
          rw [if_pos (show isNum k.op k.v = true from decide_eq_true ⟨h2, h1⟩)]
        · rw [if_neg (show ¬ isNum k.op k.v = true from fun h => h1 (of_decide_eq_true h).2)]
        · rw [if_neg (show ¬ isNum k.op k.v = true from fun h => h2 (of_decide_eq_true h).1)]
      · refine IFB_eq (fun h => absurd (show (14 : Int) = _ from h) (by decide)) (fun _ => IFB_eq (fun h => absurd (show (14 : Int) = _ from h) (by decide)) (fun _ => IFB_eq (fun h => absurd (show (14 : Int) = _ from h) (by decide)) (fun _ => IFB_eq (fun _ => ?_) (fun h => absurd rfl h))))
        refine ⟨_, _, _, S1.cell 0 rfl rfl, ⟨by decide, by show (0 : Int) < 1; decide⟩, _, c0, _, c1, _, c2, _, c3, _, c4, _, _, _, c5, (hkt w1 a3 cap3 3 (E.grown S1.bel) (hxk.grown S1.bel)).mono ?_⟩
        rintro _ w14 ⟨_, rfl, rfl, B14⟩
        have a3' := atS hkf hks 3
        refine ⟨_, rfl, by omega, ?_, (S1.grown B14).bel⟩
        rw [text_not, lvr (by decide)]
        rfl
      · refine IFB_eq (fun h => absurd (show (15 : Int) = _ from h) (by decide)) (fun _ => IFB_eq (fun h => absurd (show (15 : Int) = _ from h) (by decide)) (fun _ => IFB_eq (fun h => absurd (show (15 : Int) = _ from h) (by decide)) (fun _ => IFB_eq (fun h => absurd (show (15 : Int) = _ from h) (by decide)) (fun _ => IFB_eq (fun _ => ?_) (fun h => absurd rfl h)))))
        refine ⟨_, _, _, S1.cell 0 rfl rfl, ⟨by decide, by show (0 : Int) < 1; decide⟩, _, c0, _, c1, _, c2, _, c3, _, c4, _, _, _, c5, (hkt w1 a3 cap3 5 (E.grown S1.bel) (hxk.grown S1.bel)).mono ?_⟩
        rintro _ w14 ⟨_, rfl, rfl, B14⟩
        have a5' := atS hkf hks 5
        refine ⟨_, rfl, by omega, ?_, (S1.grown B14).bel⟩
        rw [text_null, lvr (by decide)]
        rfl
      · refine IFB_eq (fun h => absurd (show (16 : Int) = _ from h) (by decide)) (fun _ => IFB_eq (fun h => absurd (show (16 : Int) = _ from h) (by decide)) (fun _ => IFB_eq (fun _ => ?_) (fun h => absurd rfl h)))
        refine ⟨_, _, _, S1.cell 0 rfl rfl, ⟨by decide, by show (0 : Int) < 1; decide⟩, _, c0, _, c1, _, c2, _, c3, _, c4, _, _, _, c5, (hkt w1 a3 cap3 1 (E.grown S1.bel) (hxk.grown S1.bel)).mono ?_⟩
        rintro _ w14 ⟨_, rfl, rfl, B14⟩
        rw [at_one]
        refine ⟨_, rfl, by omega, by simp only [ByteArray.size_append]; omega, ?_, (S1.grown B14).bel⟩
        rw [text_len, lvr (by decide)]
        rfl
    · have hks : k.size ≤ 400 ∧ k'.size ≤ 400 := by simp only [Ex.size, Ex.sizeL] at hsz; omega
      have hkf := hk k (by simp)
      have hkf' := hk k' (by simp)
      have hkt := ih k (by simp) d hkf hks.1
      have hkt' := ih k' (by simp) d hkf' hks.2
      have hs := fair_size hkf hks.1
      have hs' := fair_size hkf' hks.2
      refine IFB_eq (fun h => by change op = 1 at h; omega) (fun _ => IFB_eq (fun h => by change op = 2 at h; omega) (fun _ => IFB_eq (fun h => by change op = 16 at h; omega) (fun _ => IFB_eq (fun h => by change op = 14 at h; omega) (fun _ => IFB_eq (fun h => by change op = 15 at h; omega) (fun _ => IFB_eq (fun h => by change op = 8 at h; omega) (fun _ => ?_))))))
      refine ⟨_, S1.cell 0 rfl rfl, (query_operator_ok w1 hop).mono ?_⟩
      rintro _ w15 ⟨_, rfl, rfl, B15⟩
      have S15 := S1.grown B15
      refine ⟨_, _, rfl, fun st w16 => st = [.int .i64 (leftNeed op)] ∧ w16 = w15, IFB_eq (fun h => ⟨by unfold leftNeed; rw [if_pos h], rfl⟩) (fun h => ⟨by unfold leftNeed; rw [if_neg h], rfl⟩), ?_⟩
      rintro left w16 ⟨hleft, rfl⟩
      obtain rfl : left = leftNeed op := by simpa using hleft
      refine S15.draw fun w17 _ S17 => ?_
      obtain ⟨p, a3, cap3, rfl, hxk, c0, c1, c2, c3, c4, c5⟩ := ex_at (hrd.grown S17.bel) hkids (i := 0) (by simp)
      obtain ⟨p', a4, cap4, hp', hxk', d0, d1, d2, d3, d4, d5⟩ := ex_at (hrd.grown S17.bel) hkids (i := 1) (by simp)
      cases hp'
      change XC w k (exHead k a3 cap3) at hxk
      change XC w k' (exHead k' a4 cap4) at hxk'
      refine ⟨_, _, _, S17.cell 0 rfl rfl, ⟨by decide, by show (0 : Int) < 2; decide⟩, _, c0, _, c1, _, c2, _, c3, _, c4, _, _, _, c5, _, _, _, S17.cell 0 rfl rfl, ⟨by decide, by show (1 : Int) < 2; decide⟩, _, d0, _, d1, _, d2, _, d3, _, d4, _, _, _, d5, (hkt w17 a3 cap3 (leftNeed op) (E.grown S17.bel) (hxk.grown S17.bel)).mono ?_⟩
      rintro _ w18 ⟨_, rfl, rfl, B18⟩
      have S18 := S17.grown B18
      have K18 := Keeps.of_below (F := fun _ => False) B18
      have hsg := sign_size op
      have al := atS hkf hks.1 (leftNeed op)
      have ar := atS hkf' hks.2 (rowOf op + 1)
      refine ⟨_, rfl, ⟨K18.cell d0 (by simp), K18.cell d1 (by simp), K18.cell d2 (by simp), K18.cell d3 (by simp), K18.cell d4 (by simp), K18.cell d5 (by simp)⟩, S18.cell 0 rfl rfl, by omega, by simp only [ByteArray.size_append]; omega, by simp only [ByteArray.size_append]; omega, ?_⟩
      have hr9 := row_range op
      rw [wrap_i64 (by omega) (by omega)]
      refine (hkt' w18 a4 cap4 (rowOf op + 1) (E.grown S18.bel) (hxk'.grown S18.bel)).mono ?_
      rintro _ w19 ⟨_, rfl, rfl, B19⟩
      refine ⟨_, rfl, by simp only [ByteArray.size_append]; omega, ?_, (S18.grown B19).bel⟩
      rw [text_two hop, lvr (by omega)]
theorem app_e0 (x : ByteArray) : x ++ E0 = x := ByteArray.append_empty
theorem commas_cons (x : ByteArray) (l : List ByteArray) : commas (x :: l) = x ++ sof (Lib.joinTail [44, 32] (l.map bl)) := by
  induction l generalizing x with
  | nil => exact (app_e0 x).symm
  | cons y l ih =>
    show x ++ ⟨#[44, 32]⟩ ++ commas (y :: l) = _
    rw [ih y]
    have e : sof (Lib.joinTail [44, 32] ((y :: l).map bl)) = ⟨#[44, 32]⟩ ++ (y ++ sof (Lib.joinTail [44, 32] (l.map bl))) := by
      rw [show (ByteArray.mk #[44, 32]) = sof [44, 32] from rfl]
      conv => rhs; rw [← sof_bl y]
      rw [sof_append, sof_append]
      simp [Lib.joinTail]
    rw [e, ByteArray.append_assoc]
theorem commas_join (l : List ByteArray) : commas l = sof (Lib.join (l.map bl) [44, 32]) := by
  cases l with
  | nil => rfl
  | cons x l =>
    rw [commas_cons, List.map_cons, Lib.join_cons]
    conv => lhs; rw [← sof_bl x]
    rw [sof_append]
theorem commas_snoc : ∀ (l : List ByteArray) (x : ByteArray), l ≠ [] → commas (l ++ [x]) = commas l ++ ⟨#[44, 32]⟩ ++ x
  | [], x, h => absurd rfl h
  | [y], x, _ => rfl
  | y :: z :: l, x, _ => by
    show y ++ ⟨#[44, 32]⟩ ++ commas ((z :: l) ++ [x]) = (y ++ ⟨#[44, 32]⟩ ++ commas (z :: l)) ++ ⟨#[44, 32]⟩ ++ x
    rw [commas_snoc (z :: l) x (by simp)]
    simp only [ByteArray.append_assoc]
theorem commas_size {B : Nat} : ∀ (l : List ByteArray), (∀ x ∈ l, x.size ≤ B) → (commas l).size ≤ l.length * (B + 2)
  | [], _ => by show 0 ≤ _; exact Nat.zero_le _
  | [x], h => by have := h x (by simp); show x.size ≤ _; simp; omega
  | x :: y :: l, h => by
    have h1 := h x (by simp)
    have h2 := commas_size (y :: l) fun z hz => h z (by simp [hz])
    show (x ++ ⟨#[44, 32]⟩ ++ commas (y :: l)).size ≤ _
    have e : (ByteArray.mk #[44, 32]).size = 2 := rfl
    rw [ByteArray.size_append, ByteArray.size_append, e, List.length_cons, Nat.add_mul]
    omega
theorem part_size {B : Nat} (head : ByteArray) (l : List ByteArray) (h : ∀ x ∈ l, x.size ≤ B) : (partT head l).size ≤ head.size + l.length * (B + 2) := by
  unfold partT
  split
  · exact Nat.zero_le _
  · rw [ByteArray.size_append]
    have := commas_size l h
    omega
section
variable {w0 w : World} {H : List It} {a : Option Addr} {c : Nat}
theorem join_ok (S : ST w0 w H) (n : Nat) {xs : List ByteArray} (hn : H[n]? = some (strsI a c xs)) (h1 : xs ≠ []) (hl : xs.length ≤ 100) (hs : ∀ x ∈ xs, x.size ≤ 1000000) : Calls Tryz.prog f.strings_Join #[.slice a xs.length c, .string ⟨#[44, 32]⟩] w (Ret fun v w' => v = .string (commas xs) ∧ Below w.heap.size w w') := by
  have hR : Row w ty.string 1 a xs.length c (xs.map Value.string) := S.get n hn
  rcases hR.2 with ⟨_, h, _⟩ | ⟨g, cur, rfl, hg, hcap, _, _, _⟩
  · exact absurd (List.eq_nil_of_length_eq_zero h) h1
  · have hj : (Lib.join (xs.map bl) [44, 32]).length ≤ 140737488355328 := by
      have h2 := commas_size xs hs
      rw [commas_join, size_sof] at h2
      have h3 : xs.length * (1000000 + 2) ≤ 100 * (1000000 + 2) := Nat.mul_le_mul_right _ hl
      omega
    refine (Tryz.strings_Join g 0 c xs ⟨#[44, 32]⟩ w (fun j x hx => ?_) (Array.getElem?_eq_some_iff.1 hg).1 (by omega) hcap hj).mono ?_
    · obtain ⟨p, hp, hc⟩ := hR.rd j (.string x) (by rw [List.getElem?_map, hx]; rfl)
      cases hp
      rw [addr_add_blk] at hc
      exact hc
    · rintro _ w' ⟨rfl, B⟩
      exact ⟨_, rfl, by rw [commas_join]; rfl, B⟩
end
theorem parts_api_Item_ok {w0 : World} {w : World} (head : ByteArray) {a : Option Addr} {c0 : Nat} {rs : List Value} {l : List Itm} (hl : Rd w a rs) (hC : RowsC (ItC (fun _ => False) w0) l rs) (hn : l.length ≤ 100) {fn : FuncId} {fi ca : Array Value} (hen : enters Tryz.prog fn = true) (g : Itm → ByteArray) (hh : head.size ≤ 1000) (hs : ∀ x ∈ l, (g x).size ≤ 1000000)
    (hf : ∀ w' x c, Below w.heap.size w w' → x ∈ l → (ItC (fun _ => False) w0) x c → Calls Tryz.prog fn ⟨fi.toList ++ [.agg ⟨c⟩] ++ ca.toList⟩ w' (Ret fun r w'' => r = .string (g x) ∧ Below w'.heap.size w' w'')) :
    Calls Tryz.prog f.query_parts_api_Item #[.string head, .slice a l.length c0, .func (.func fn) fi ca] w (Ret fun r w' => r = .string (partT head (l.map g)) ∧ Below w.heap.size w w') := by
  apply R.query_parts_api_Item_calls
  unfold R.query_parts_api_Item
  refine ⟨fun st w1 => ∃ (i : Nat) (oa : Option Addr) (oc : Nat), st = [.slice oa ((l.take i).map g).length oc, .int .i64 (i : Int)] ∧ i ≤ l.length ∧ ST w w1 [strsI oa oc ((l.take i).map g)], fun st _ => match st with | [_, .int _ t] => l.length - t.toNat | _ => 0, ⟨0, none, 0, rfl, by omega, (ST.start w).nil ty.string 1⟩, ?_⟩
  rintro oa ol oc t w1 ⟨i, oa', oc', hst, hi, S1⟩
  cases hst
  refine IFB_dec (fun hlt => ⟨⟨by omega, hlt⟩, ?_⟩) (fun hge => ?_)
  · have hil : i < l.length := by omega
    obtain ⟨q, c, rfl, hc, cell⟩ := rows_at (n := 8) (fun x c h => ItC.len h) (by decide) (hl.grown S1.bel) hC hil
    have hcc := hc
    obtain ⟨ce, rfl, hx, hy⟩ := id hc
    obtain ⟨a9, cap9, _, rfl, _⟩ := ExC.open hx
    refine ⟨_, by rw [Int.toNat_natCast]; exact cell 0 _ rfl, _, by rw [Int.toNat_natCast]; exact cell 1 _ rfl, _, by rw [Int.toNat_natCast]; exact cell 2 _ rfl, _, by rw [Int.toNat_natCast]; exact cell 3 _ rfl, _, by rw [Int.toNat_natCast]; exact cell 4 _ rfl, _, by rw [Int.toNat_natCast]; exact cell 5 _ rfl, _, by rw [Int.toNat_natCast]; exact cell 6 _ rfl, _, _, _, by rw [Int.toNat_natCast]; exact cell 7 _ rfl, (S1.lit8 fun b16 w2 _ S2 => ?_)⟩
    refine ⟨_, S2.cell 0 rfl rfl, _, S2.cell 0 rfl rfl, _, S2.cell 0 rfl rfl, _, S2.cell 0 rfl rfl, _, S2.cell 0 rfl rfl, _, S2.cell 0 rfl rfl, _, S2.cell 0 rfl rfl, _, _, _, S2.cell 0 rfl rfl, ?_⟩
    rw [hen]
    refine (hf w2 _ _ S2.bel (List.getElem_mem hil) hcc).mono ?_
    rintro _ w11 ⟨_, rfl, rfl, B11⟩
    have S11 := S2.grown B11
    have htk : (l.take (i + 1)).map g = (l.take i).map g ++ [g l[i]] := by rw [List.take_succ_eq_append_getElem hil, List.map_append]; rfl
    have hlen : ((l.take i).map g).length = i := by simp; omega
    refine ⟨_, rfl, S11.newB fun b27 w12 _ _ S12 => stAppS S12 2 rfl (ys := [g l[i]]) (mm := 1) rfl (S12.rdc 0 rfl) (by omega) fun a' c' w13 S13 => ⟨_, _, _, rfl, ?_, ?_⟩⟩
    · rw [← htk] at S13 ⊢
      exact ⟨i + 1, a', c', by rw [wrap_succ (by omega)], by omega, S13.drop 2⟩
    · show l.length - (IntKind.i64.wrap ((i : Int) + 1)).toNat < l.length - ((i : Nat) : Int).toNat
      rw [wrap_succ (by omega)]
      simp only [Int.toNat_natCast]
      omega
  · obtain rfl : i = l.length := by omega
    rw [List.take_length] at S1 ⊢
    refine IFB_eq (fun h => ⟨?_, S1.bel⟩) (fun h => (join_ok S1 0 rfl (fun e => h (by rw [e]; rfl)) (by simpa using hn) (fun x hx => by obtain ⟨y, hy, rfl⟩ := List.mem_map.1 hx; exact hs y hy)).mono ?_)
    · unfold partT
      rw [if_pos (by omega)]
    · rintro _ w14 ⟨_, rfl, rfl, B14⟩
      have hz := commas_size (B := 1000000) (l.map g) (fun x hx => by obtain ⟨y, hy, rfl⟩ := List.mem_map.1 hx; exact hs y hy)
      rw [List.length_map] at hz
      have h3 : l.length * (1000000 + 2) ≤ 100 * (1000000 + 2) := Nat.mul_le_mul_right _ hn
      refine ⟨_, rfl, by omega, ?_, (S1.grown B14).bel⟩
      unfold partT
      rw [if_neg (by omega)]
theorem parts_api_Expr_ok {w0 : World} {w : World} (head : ByteArray) {a : Option Addr} {c0 : Nat} {rs : List Value} {l : List Ex} (hl : Rd w a rs) (hC : RowsC (ExC (fun _ => False) w0) l rs) (hn : l.length ≤ 100) {fn : FuncId} {fi ca : Array Value} (hen : enters Tryz.prog fn = true) (g : Ex → ByteArray) (hh : head.size ≤ 1000) (hs : ∀ x ∈ l, (g x).size ≤ 1000000)
    (hf : ∀ w' x c, Below w.heap.size w w' → x ∈ l → (ExC (fun _ => False) w0) x c → Calls Tryz.prog fn ⟨fi.toList ++ [.agg ⟨c⟩] ++ ca.toList⟩ w' (Ret fun r w'' => r = .string (g x) ∧ Below w'.heap.size w' w'')) :
    Calls Tryz.prog f.query_parts_api_Expr #[.string head, .slice a l.length c0, .func (.func fn) fi ca] w (Ret fun r w' => r = .string (partT head (l.map g)) ∧ Below w.heap.size w w') := by
  apply R.query_parts_api_Expr_calls
  unfold R.query_parts_api_Expr
  refine ⟨fun st w1 => ∃ (i : Nat) (oa : Option Addr) (oc : Nat), st = [.slice oa ((l.take i).map g).length oc, .int .i64 (i : Int)] ∧ i ≤ l.length ∧ ST w w1 [strsI oa oc ((l.take i).map g)], fun st _ => match st with | [_, .int _ t] => l.length - t.toNat | _ => 0, ⟨0, none, 0, rfl, by omega, (ST.start w).nil ty.string 1⟩, ?_⟩
  rintro oa ol oc t w1 ⟨i, oa', oc', hst, hi, S1⟩
  cases hst
  refine IFB_dec (fun hlt => ⟨⟨by omega, hlt⟩, ?_⟩) (fun hge => ?_)
  · have hil : i < l.length := by omega
    obtain ⟨q, c, rfl, hc, cell⟩ := rows_at (n := 6) (fun x c h => ExC.len h) (by decide) (hl.grown S1.bel) hC hil
    have hcc := hc
    obtain ⟨a9, cap9, _, rfl, _⟩ := ExC.open hc
    refine ⟨_, by rw [Int.toNat_natCast]; exact cell 0 _ rfl, _, by rw [Int.toNat_natCast]; exact cell 1 _ rfl, _, by rw [Int.toNat_natCast]; exact cell 2 _ rfl, _, by rw [Int.toNat_natCast]; exact cell 3 _ rfl, _, by rw [Int.toNat_natCast]; exact cell 4 _ rfl, _, _, _, by rw [Int.toNat_natCast]; exact cell 5 _ rfl, (S1.lit6 fun b16 w2 _ S2 => ?_)⟩
    refine ⟨_, S2.cell 0 rfl rfl, _, S2.cell 0 rfl rfl, _, S2.cell 0 rfl rfl, _, S2.cell 0 rfl rfl, _, S2.cell 0 rfl rfl, _, _, _, S2.cell 0 rfl rfl, ?_⟩
    rw [hen]
    refine (hf w2 _ _ S2.bel (List.getElem_mem hil) hcc).mono ?_
    rintro _ w11 ⟨_, rfl, rfl, B11⟩
    have S11 := S2.grown B11
    have htk : (l.take (i + 1)).map g = (l.take i).map g ++ [g l[i]] := by rw [List.take_succ_eq_append_getElem hil, List.map_append]; rfl
    have hlen : ((l.take i).map g).length = i := by simp; omega
    refine ⟨_, rfl, S11.newB fun b27 w12 _ _ S12 => stAppS S12 2 rfl (ys := [g l[i]]) (mm := 1) rfl (S12.rdc 0 rfl) (by omega) fun a' c' w13 S13 => ⟨_, _, _, rfl, ?_, ?_⟩⟩
    · rw [← htk] at S13 ⊢
      exact ⟨i + 1, a', c', by rw [wrap_succ (by omega)], by omega, S13.drop 2⟩
    · show l.length - (IntKind.i64.wrap ((i : Int) + 1)).toNat < l.length - ((i : Nat) : Int).toNat
      rw [wrap_succ (by omega)]
      simp only [Int.toNat_natCast]
      omega
  · obtain rfl : i = l.length := by omega
    rw [List.take_length] at S1 ⊢
    refine IFB_eq (fun h => ⟨?_, S1.bel⟩) (fun h => (join_ok S1 0 rfl (fun e => h (by rw [e]; rfl)) (by simpa using hn) (fun x hx => by obtain ⟨y, hy, rfl⟩ := List.mem_map.1 hx; exact hs y hy)).mono ?_)
    · unfold partT
      rw [if_pos (by omega)]
    · rintro _ w14 ⟨_, rfl, rfl, B14⟩
      have hz := commas_size (B := 1000000) (l.map g) (fun x hx => by obtain ⟨y, hy, rfl⟩ := List.mem_map.1 hx; exact hs y hy)
      rw [List.length_map] at hz
      have h3 : l.length * (1000000 + 2) ≤ 100 * (1000000 + 2) := Nat.mul_le_mul_right _ hn
      refine ⟨_, rfl, by omega, ?_, (S1.grown B14).bel⟩
      unfold partT
      rw [if_neg (by omega)]
theorem parts_api_Key_ok {w : World} (head : ByteArray) {a : Option Addr} {c0 : Nat} {rs : List Value} {l : List (Int × Bool)} (hl : Rd w a rs) (hC : RowsC (keyC) l rs) (hn : l.length ≤ 100) {fn : FuncId} {fi ca : Array Value} (hen : enters Tryz.prog fn = true) (g : (Int × Bool) → ByteArray) (hh : head.size ≤ 1000) (hs : ∀ x ∈ l, (g x).size ≤ 1000000)
    (hf : ∀ w' x c, Below w.heap.size w w' → x ∈ l → (keyC) x c → Calls Tryz.prog fn ⟨fi.toList ++ [.agg ⟨c⟩] ++ ca.toList⟩ w' (Ret fun r w'' => r = .string (g x) ∧ Below w'.heap.size w' w'')) :
    Calls Tryz.prog f.query_parts_api_Key #[.string head, .slice a l.length c0, .func (.func fn) fi ca] w (Ret fun r w' => r = .string (partT head (l.map g)) ∧ Below w.heap.size w w') := by
  apply R.query_parts_api_Key_calls
  unfold R.query_parts_api_Key
  refine ⟨fun st w1 => ∃ (i : Nat) (oa : Option Addr) (oc : Nat), st = [.slice oa ((l.take i).map g).length oc, .int .i64 (i : Int)] ∧ i ≤ l.length ∧ ST w w1 [strsI oa oc ((l.take i).map g)], fun st _ => match st with | [_, .int _ t] => l.length - t.toNat | _ => 0, ⟨0, none, 0, rfl, by omega, (ST.start w).nil ty.string 1⟩, ?_⟩
  rintro oa ol oc t w1 ⟨i, oa', oc', hst, hi, S1⟩
  cases hst
  refine IFB_dec (fun hlt => ⟨⟨by omega, hlt⟩, ?_⟩) (fun hge => ?_)
  · have hil : i < l.length := by omega
    obtain ⟨q, c, rfl, hc, cell⟩ := rows_at (n := 2) (fun x c h => keyC_len h) (by decide) (hl.grown S1.bel) hC hil
    have hcc := hc
    obtain rfl := hc.1
    refine ⟨_, by rw [Int.toNat_natCast]; exact cell 0 _ rfl, _, by rw [Int.toNat_natCast]; exact cell 1 _ rfl, (S1.newB fun b16 w2a _ _ S2a => S2a.sto 0 rfl (by simp) rfl fun w2b S2b => S2b.sto 0 rfl (by simp) rfl fun w2 S2 => ?_)⟩
    refine ⟨_, S2.cell 0 rfl rfl, _, S2.cell 0 rfl rfl, ?_⟩
    rw [hen]
    refine (hf w2 _ _ S2.bel (List.getElem_mem hil) hcc).mono ?_
    rintro _ w11 ⟨_, rfl, rfl, B11⟩
    have S11 := S2.grown B11
    have htk : (l.take (i + 1)).map g = (l.take i).map g ++ [g l[i]] := by rw [List.take_succ_eq_append_getElem hil, List.map_append]; rfl
    have hlen : ((l.take i).map g).length = i := by simp; omega
    refine ⟨_, rfl, S11.newB fun b27 w12 _ _ S12 => stAppS S12 2 rfl (ys := [g l[i]]) (mm := 1) rfl (S12.rdc 0 rfl) (by omega) fun a' c' w13 S13 => ⟨_, _, _, rfl, ?_, ?_⟩⟩
    · rw [← htk] at S13 ⊢
      exact ⟨i + 1, a', c', by rw [wrap_succ (by omega)], by omega, S13.drop 2⟩
    · show l.length - (IntKind.i64.wrap ((i : Int) + 1)).toNat < l.length - ((i : Nat) : Int).toNat
      rw [wrap_succ (by omega)]
      simp only [Int.toNat_natCast]
      omega
  · obtain rfl : i = l.length := by omega
    rw [List.take_length] at S1 ⊢
    refine IFB_eq (fun h => ⟨?_, S1.bel⟩) (fun h => (join_ok S1 0 rfl (fun e => h (by rw [e]; rfl)) (by simpa using hn) (fun x hx => by obtain ⟨y, hy, rfl⟩ := List.mem_map.1 hx; exact hs y hy)).mono ?_)
    · unfold partT
      rw [if_pos (by omega)]
    · rintro _ w14 ⟨_, rfl, rfl, B14⟩
      have hz := commas_size (B := 1000000) (l.map g) (fun x hx => by obtain ⟨y, hy, rfl⟩ := List.mem_map.1 hx; exact hs y hy)
      rw [List.length_map] at hz
      have h3 : l.length * (1000000 + 2) ≤ 100 * (1000000 + 2) := Nat.mul_le_mul_right _ hn
      refine ⟨_, rfl, by omega, ?_, (S1.grown B14).bel⟩
      unfold partT
      rw [if_neg (by omega)]
theorem rightX_size {x : Ex} (h : rightX x = true) : x.size ≤ 400 := by
  simp only [rightX, Ex.formed, Bool.and_eq_true, decide_eq_true_eq] at h
  exact h.1.2
theorem rightI_iff {i : Itm} : rightI i = true ↔ okName i.1 = true ∧ (0 ≤ i.2.1 ∧ i.2.1 ≤ 5) ∧ (if i.2.1 = 1 then bareX i.2.2 else rightX i.2.2) = true := by
  simp only [rightI, Bool.and_eq_true, decide_eq_true_eq, and_assoc]
theorem rightI_x {i : Itm} (h : rightI i = true) (h1 : ¬ i.2.1 = 1) : rightX i.2.2 = true := by
  have := (rightI_iff.1 h).2.2
  rwa [if_neg h1] at this
theorem agg_size (a : Int) : (aggName a).size ≤ 5 := by
  unfold aggName
  split
  · decide
  · split
    · decide
    · split <;> decide
theorem itemT_size {i : Itm} (h : rightI i = true) (hf : i.2.2.fit) : (itemT i).size ≤ 840100 := by
  have hn := okName_size (rightI_iff.1 h).1
  have e1 : (ByteArray.mk #[32, 97, 115, 32]).size = 4 := rfl
  have e2 : (ByteArray.mk #[99, 111, 117, 110, 116, 40, 42, 41]).size = 8 := rfl
  have e3 : (ByteArray.mk #[40]).size = 1 := rfl
  have e4 : (ByteArray.mk #[41]).size = 1 := rfl
  have ha := agg_size i.2.1
  unfold itemT
  rw [ByteArray.size_append, ByteArray.size_append]
  by_cases h0 : i.2.1 = 0
  · rw [if_pos h0]
    have := rightX_text (rightI_x h (by omega)) hf
    omega
  · rw [if_neg h0]
    by_cases h1 : i.2.1 = 1
    · rw [if_pos h1]; omega
    · rw [if_neg h1]
      have := rightX_text (rightI_x h h1) hf
      simp only [ByteArray.size_append]
      omega
theorem gather_at {w : World} (E : Env w) {a : Int} (h1 : 2 ≤ a) (h2 : a ≤ 5) : w.cell? ((⟨0, 0, none⟩ : Addr).add (a.toNat * 1)) = some (.string (aggName a)) := by
  obtain ⟨n, rfl⟩ : ∃ n : Nat, a = n := ⟨a.toNat, by omega⟩
  have hn : n = 2 ∨ n = 3 ∨ n = 4 ∨ n = 5 := by omega
  rw [Int.toNat_natCast, Nat.mul_one]
  have : gatherCells[n]? = some (.string (aggName n)) := by rcases hn with rfl | rfl | rfl | rfl <;> rfl
  obtain ⟨p, hp, hc⟩ := E.gat n _ this
  cases hp
  exact hc
section
variable {w : World} {i : Itm} {a : Option Addr} {cap : Nat}
theorem query_shownItem_ok (E : Env w) (hx : XC w i.2.2 (exHead i.2.2 a cap)) (hr : rightI i = true) : Calls Tryz.prog f.query_shownItem #[.agg ⟨itHead i a cap⟩] w (Ret fun r w' => r = .string (itemT i) ∧ Below w.heap.size w w') := by
  apply R.query_shownItem_calls
  unfold R.query_shownItem
  have hn := okName_size (rightI_iff.1 hr).1
  have e1 : (ByteArray.mk #[32, 97, 115, 32]).size = 4 := rfl
  have e2 : (ByteArray.mk #[99, 111, 117, 110, 116, 40, 42, 41]).size = 8 := rfl
  have e3 : (ByteArray.mk #[40]).size = 1 := rfl
  have e4 : (ByteArray.mk #[41]).size = 1 := rfl
  have ha := agg_size i.2.1
  have har := (rightI_iff.1 hr).2.1
  refine (ST.start w).newB fun b9 w1 _ _ S1 => ⟨_, S1.cell 0 rfl rfl, IFB_eq (fun h0 => ?_) (fun h0 => IFB_eq (fun h1 => ⟨by omega, _, S1.cell 0 rfl rfl, by rw [ByteArray.size_append]; omega, ?_, S1.bel⟩) (fun h1 => S1.draw fun w3 _ S3 => ?_))⟩
  · have hX := rightI_x hr (by omega)
    have ht := rightX_text hX hx.fit
    refine ⟨_, S1.cell 0 rfl rfl, _, S1.cell 0 rfl rfl, _, S1.cell 0 rfl rfl, _, S1.cell 0 rfl rfl, _, S1.cell 0 rfl rfl, _, _, _, S1.cell 0 rfl rfl, (query_shown_ok i.2.2 40 (rightX_fair hX hx.fit) (rightX_size hX) w1 a cap 1 (E.grown S1.bel) (hx.grown S1.bel)).mono ?_⟩
    rintro _ w2 ⟨_, rfl, rfl, B2⟩
    have S2 := S1.grown B2
    rw [at_one]
    refine ⟨_, rfl, by omega, _, S2.cell 0 rfl rfl, by rw [ByteArray.size_append]; omega, ?_, S2.bel⟩
    unfold itemT
    rw [if_pos h0]
  · unfold itemT
    rw [if_neg h0, if_pos h1]
  · have hX := rightI_x hr h1
    have ht := rightX_text hX hx.fit
    have hg := gather_at (E.grown S3.bel) (a := i.2.1) (by omega) (by omega)
    refine ⟨_, S3.cell 0 rfl rfl, ⟨by omega, by omega⟩, _, hg, by omega, ?_⟩
    refine ⟨_, S3.cell 0 rfl rfl, _, S3.cell 0 rfl rfl, _, S3.cell 0 rfl rfl, _, S3.cell 0 rfl rfl, _, S3.cell 0 rfl rfl, _, _, _, S3.cell 0 rfl rfl, (query_shown_ok i.2.2 40 (rightX_fair hX hx.fit) (rightX_size hX) w3 a cap 1 (E.grown S3.bel) (hx.grown S3.bel)).mono ?_⟩
    rintro _ w4 ⟨_, rfl, rfl, B4⟩
    have S4 := S3.grown B4
    rw [at_one]
    refine ⟨_, rfl, gather_at (E.grown S4.bel) (by omega) (by omega), S4.cell 0 rfl rfl, by rw [ByteArray.size_append]; omega, by simp only [ByteArray.size_append]; omega, by simp only [ByteArray.size_append]; omega, _, S4.cell 0 rfl rfl, by simp only [ByteArray.size_append]; omega, ?_, S4.bel⟩
    unfold itemT
    rw [if_neg h0, if_neg h1]
end
theorem keyT_at {l : List Itm} {k : Int × Bool} {i : Nat} (hi : i < l.length) (hk : k.1 = i) : keyT l k = l[i].1 ++ if k.2 then ⟨#[32, 100, 101, 115, 99]⟩ else E0 := by
  unfold keyT
  rw [hk, Int.toNat_natCast, List.getD_eq_getElem?_getD, List.getElem?_eq_getElem hi]
  rfl
section
variable {w : World} {q : Qu} {ai aw ag ao : Option Addr} {ci cw cg co : Nat}
theorem show_key_ok {w0 : World} {H : List It} {b : Nat} (n : Nat) (Q : QAt w q ai aw ag ao) (S : ST w0 w H) (hn : H[n]? = some (quI b q ai aw ag ao ci cw cg co)) (k : Int × Bool) (hk : rightK q.it k.1 = true) (hsz : ∀ i ∈ q.it, i.1.size ≤ 24) :
    Calls Tryz.prog f.query_Show_c2 #[.agg #[.int .i64 k.1, .bool k.2], .pointer (some ⟨b, 0, none⟩)] w (Ret fun r w' => r = .string (keyT q.it k) ∧ Below w.heap.size w w') := by
  apply R.query_Show_c2_calls
  unfold R.query_Show_c2
  obtain ⟨rs, hrd, hC⟩ := Q.it
  obtain ⟨i, hi, he, _⟩ := rightK_iff.1 hk
  have e1 : (ByteArray.mk #[32, 100, 101, 115, 99]).size = 5 := rfl
  refine (ST.start w).newB fun b4 w1 _ B1 S1 => ?_
  have T1 := S.grown S1.bel
  obtain ⟨p, hp, hc⟩ := it_name (hrd.grown S1.bel) hC hi
  subst hp
  have hz := hsz q.it[i] (List.getElem_mem hi)
  refine ⟨_, S1.cell 0 rfl rfl, IFB_of (fun hd => ⟨_, _, _, T1.cell n hn rfl, _, S1.cell 0 rfl rfl, ⟨by omega, by omega⟩, _, by rw [he, Int.toNat_natCast]; exact hc, by omega, ?_, S1.bel⟩) (fun hd => ⟨_, _, _, T1.cell n hn rfl, _, S1.cell 0 rfl rfl, ⟨by omega, by omega⟩, _, by rw [he, Int.toNat_natCast]; exact hc, ?_, S1.bel⟩)⟩
  · rw [keyT_at hi he, hd]; rfl
  · rw [keyT_at hi he, hd]
    congr 1
    exact (app_e0 _).symm
theorem keyT_size {l : List Itm} (hsz : ∀ i ∈ l, i.1.size ≤ 24) {k : Int × Bool} (hk : rightK l k.1 = true) : (keyT l k).size ≤ 29 := by
  obtain ⟨i, hi, he, _⟩ := rightK_iff.1 hk
  rw [keyT_at hi he, ByteArray.size_append]
  have := hsz _ (List.getElem_mem hi)
  have e1 : (ByteArray.mk #[32, 100, 101, 115, 99]).size = 5 := rfl
  split
  · omega
  · show _ + 0 ≤ _; omega
theorem show_expr_ok {w : World} {x : Ex} {a : Option Addr} {cap : Nat} (E : Env w) (hx : XC w x (exHead x a cap)) (hr : rightX x = true) : Calls Tryz.prog f.query_Show_c1 #[.agg ⟨exHead x a cap⟩] w (Ret fun r w' => r = .string x.text ∧ Below w.heap.size w w') := by
  apply R.query_Show_c1_calls
  unfold R.query_Show_c1
  refine (ST.start w).newB fun b7 w1 _ _ S1 => ⟨_, S1.cell 0 rfl rfl, _, S1.cell 0 rfl rfl, _, S1.cell 0 rfl rfl, _, S1.cell 0 rfl rfl, _, S1.cell 0 rfl rfl, _, _, _, S1.cell 0 rfl rfl, (query_shown_ok x 40 (rightX_fair hr hx.fit) (rightX_size hr) w1 a cap 1 (E.grown S1.bel) (hx.grown S1.bel)).mono ?_⟩
  rintro _ w2 ⟨_, rfl, rfl, B2⟩
  rw [at_one]
  exact ⟨_, rfl, rfl, (S1.grown B2).bel⟩
def showQ (q : Qu) : Value := if rightQ q = true then .tuple #[.string (quT q), .int .i64 0] else .tuple #[.string ⟨#[]⟩, .int .i64 110]
theorem rows_fit {w : World} {l : List Ex} {rs : List Value} (h : RowsC (ExC (fun _ => False) w) l rs) : ∀ x ∈ l, x.fit := by
  intro x hx
  obtain ⟨i, hi, rfl⟩ := List.mem_iff_getElem.1 hx
  exact (h.get (n := 6) (fun x c h => ExC.len h) i hi).fit
theorem items_fit {w : World} {l : List Itm} {rs : List Value} (h : RowsC (ItC (fun _ => False) w) l rs) : ∀ x ∈ l, x.2.2.fit := by
  intro x hx
  obtain ⟨i, hi, rfl⟩ := List.mem_iff_getElem.1 hx
  obtain ⟨c, _, h, _⟩ := h.get (n := 8) (fun x c h => ItC.len h) i hi
  exact h.fit
structure Bnd (q : Qu) : Prop where
  it : ∀ i ∈ q.it, (itemT i).size ≤ 1000000
  wh : ∀ x ∈ q.wh, x.text.size ≤ 1000000
  gr : ∀ x ∈ q.gr, x.text.size ≤ 1000000
  od : ∀ k ∈ q.od, (keyT q.it k).size ≤ 1000000
  nm : ∀ i ∈ q.it, i.1.size ≤ 24
theorem QAt.bnd (Q : QAt w q ai aw ag ao) (h : smallQ q = true) : Bnd q := by
  obtain ⟨hn, hi, hw, hg, ho⟩ := smallQ_iff.1 h
  obtain ⟨ri, _, hCi⟩ := Q.it
  obtain ⟨rw_, _, hCw⟩ := Q.wh
  obtain ⟨rg, _, hCg⟩ := Q.gr
  have hz : ∀ i ∈ q.it, i.1.size ≤ 24 := fun i h => okName_size (rightI_iff.1 (hi i h)).1
  refine ⟨fun i h => ?_, fun x h => ?_, fun x h => ?_, fun k h => ?_, hz⟩
  · have := itemT_size (hi i h) (items_fit hCi i h); omega
  · have := rightX_text (hw x h) (rows_fit hCw x h); omega
  · have := rightX_text (hg x h) (rows_fit hCg x h); omega
  · have := keyT_size hz (ho k h); omega
theorem query_Show_ok (E : Env w) (Q : QAt w q ai aw ag ao) : Calls Tryz.prog f.query_Show #[.agg ⟨quL q ai aw ag ao ci cw cg co⟩] w (Ret fun r w' => r = showQ q ∧ Below w.heap.size w w') := by
  apply R.query_Show_calls
  unfold R.query_Show
  refine (ST.start w).newB fun b6 w1 _ _ S1 => ?_
  have S1 : ST w w1 [quI b6 q ai aw ag ao ci cw cg co] := S1
  refine ⟨_, _, _, S1.cell 0 rfl rfl, _, _, _, S1.cell 0 rfl rfl, _, _, _, S1.cell 0 rfl rfl, _, _, _, S1.cell 0 rfl rfl, _, S1.cell 0 rfl rfl, (query_fits_ok (E.grown S1.bel) (Q.grown S1.bel) (ci := ci) (cw := cw) (cg := cg) (co := co)).mono ?_⟩
  rintro _ w2 ⟨_, rfl, rfl, B2⟩
  have S2 := S1.grown B2
  refine ⟨_, rfl, IFB_not (IFB_of (fun hs => S2.draw fun w3 _ S3 => ⟨_, _, _, S3.cell 0 rfl rfl, _, _, _, S3.cell 0 rfl rfl, _, _, _, S3.cell 0 rfl rfl, ?_⟩) (fun hs => ⟨by unfold showQ; rw [if_neg (by simp [rightQ, hs])], S2.bel⟩))⟩
  obtain ⟨hn, hi, hw, hg, ho⟩ := smallQ_iff.1 hs
  have bd := Q.bnd hs
  obtain ⟨ri, hri, hCi⟩ := Q.it
  obtain ⟨rw_, hrw, hCw⟩ := Q.wh
  obtain ⟨rg, hrg, hCg⟩ := Q.gr
  obtain ⟨ro, hro, hCo⟩ := Q.od
  refine (parts_api_Item_ok ⟨#[115, 101, 108, 101, 99, 116, 32]⟩ (hri.grown S3.bel) hCi (by omega) (by kernel_rfl) itemT (by decide) bd.it ?_).mono ?_
  · rintro w4 x cs B4 hx ⟨ce, rfl, hxe, hy⟩
    obtain ⟨a9, cap9, _, rfl, _⟩ := ExC.open hxe
    exact query_shownItem_ok (i := x) ((E.grown S3.bel).grown B4) ((hxe.grown S3.bel).grown B4) (hi x hx)
  rintro _ w4 ⟨_, rfl, rfl, B4⟩
  have S4 := S3.grown B4
  refine ⟨_, rfl, S4.cell 0 rfl rfl, S4.cell 0 rfl rfl, (parts_api_Expr_ok ⟨#[32, 119, 104, 101, 114, 101, 32]⟩ (hrw.grown S4.bel) hCw (by omega) (by kernel_rfl) Ex.text (by decide) bd.wh ?_).mono ?_⟩
  · rintro w5 x cs B5 hx hxe
    obtain ⟨a9, cap9, _, rfl, _⟩ := ExC.open hxe
    exact show_expr_ok ((E.grown S4.bel).grown B5) ((hxe.grown S4.bel).grown B5) (hw x hx)
  rintro _ w5 ⟨_, rfl, rfl, B5⟩
  have S5 := S4.grown B5
  have z1 := part_size (B := 1000000) ⟨#[115, 101, 108, 101, 99, 116, 32]⟩ (q.it.map itemT) (fun x hx => by obtain ⟨y, hy, rfl⟩ := List.mem_map.1 hx; exact bd.it y hy)
  have z2 := part_size (B := 1000000) ⟨#[32, 119, 104, 101, 114, 101, 32]⟩ (q.wh.map Ex.text) (fun x hx => by obtain ⟨y, hy, rfl⟩ := List.mem_map.1 hx; exact bd.wh y hy)
  have z3 := part_size (B := 1000000) ⟨#[32, 103, 114, 111, 117, 112, 32, 98, 121, 32]⟩ (q.gr.map Ex.text) (fun x hx => by obtain ⟨y, hy, rfl⟩ := List.mem_map.1 hx; exact bd.gr y hy)
  have z4 := part_size (B := 1000000) ⟨#[32, 111, 114, 100, 101, 114, 32, 98, 121, 32]⟩ (q.od.map (keyT q.it)) (fun x hx => by obtain ⟨y, hy, rfl⟩ := List.mem_map.1 hx; exact bd.od y hy)
  rw [List.length_map] at z1 z2 z3 z4
  have f1 : (ByteArray.mk #[115, 101, 108, 101, 99, 116, 32]).size = 7 := rfl
  have f2 : (ByteArray.mk #[32, 119, 104, 101, 114, 101, 32]).size = 7 := rfl
  have f3 : (ByteArray.mk #[32, 103, 114, 111, 117, 112, 32, 98, 121, 32]).size = 10 := rfl
  have f4 : (ByteArray.mk #[32, 111, 114, 100, 101, 114, 32, 98, 121, 32]).size = 10 := rfl
  have m1 : q.it.length * (1000000 + 2) ≤ 16 * (1000000 + 2) := Nat.mul_le_mul_right _ (by omega)
  have m2 : q.wh.length * (1000000 + 2) ≤ 16 * (1000000 + 2) := Nat.mul_le_mul_right _ (by omega)
  have m3 : q.gr.length * (1000000 + 2) ≤ 16 * (1000000 + 2) := Nat.mul_le_mul_right _ (by omega)
  have m4 : q.od.length * (1000000 + 2) ≤ 16 * (1000000 + 2) := Nat.mul_le_mul_right _ (by omega)
  refine ⟨_, rfl, S5.cell 0 rfl rfl, by omega, (parts_api_Expr_ok ⟨#[32, 103, 114, 111, 117, 112, 32, 98, 121, 32]⟩ (hrg.grown S5.bel) hCg (by omega) (by kernel_rfl) Ex.text (by decide) bd.gr ?_).mono ?_⟩
  · rintro w6 x cs B6 hx hxe
    obtain ⟨a9, cap9, _, rfl, _⟩ := ExC.open hxe
    exact show_expr_ok ((E.grown S5.bel).grown B6) ((hxe.grown S5.bel).grown B6) (hg x hx)
  rintro _ w6 ⟨_, rfl, rfl, B6⟩
  have S6 := S5.grown B6
  refine ⟨_, rfl, by simp only [ByteArray.size_append]; omega, _, _, _, S6.cell 0 rfl rfl, (parts_api_Key_ok ⟨#[32, 111, 114, 100, 101, 114, 32, 98, 121, 32]⟩ (hro.grown S6.bel) hCo (by omega) (by kernel_rfl) (keyT q.it) (by decide) bd.od ?_).mono ?_⟩
  · rintro w7 k cs B7 hk ⟨rfl, _⟩
    exact show_key_ok 0 ((Q.grown S6.bel).grown B7) (S6.grown B7) rfl k (ho k hk) bd.nm
  rintro _ w7 ⟨_, rfl, rfl, B7⟩
  have S7 := S6.grown B7
  have hL : (ByteArray.mk #[32, 108, 105, 109, 105, 116, 32]).size = 7 := rfl
  have hit := Lib.itoa_length_le q.lim Q.lim.1 Q.lim.2
  refine ⟨_, rfl, by simp only [ByteArray.size_append]; omega, fun st w9 => st = [.string (quT q)] ∧ Below w.heap.size w w9, ?_, ?_⟩
  · refine ⟨_, S7.cell 0 rfl rfl, IFB_dec (fun h0 => ⟨_, S7.cell 0 rfl rfl, (Tryz.strconv_Itoa q.lim Q.lim.1 Q.lim.2 w7 (E.grown S7.bel).pow).mono ?_⟩) (fun h0 => ⟨?_, S7.bel⟩)⟩
    · rintro _ w8 ⟨rfl, k, os, rfl⟩
      have hsz : (sof (Lib.itoa q.lim)).size ≤ 21 := by rw [size_sof]; exact hit
      refine ⟨sof (Lib.itoa q.lim), rfl, by omega, by simp only [ByteArray.size_append]; omega, ?_, (S7.grown (below_grow w7 k os)).bel⟩
      unfold quT limT
      rw [if_pos h0]
    · unfold quT limT
      rw [if_neg h0, app_e0]
  · rintro s w9 ⟨hs9, B9⟩
    obtain rfl : s = quT q := by simpa using hs9
    refine IFB_dec (fun h => ⟨?_, B9⟩) (fun h => ⟨?_, B9⟩)
    · unfold showQ
      rw [if_neg (by simp [rightQ, hs]; omega)]
    · unfold showQ
      rw [if_pos (by simp [rightQ, hs]; omega)]
theorem query_Same_self (E : Env w) (Q : QAt w q ai aw ag ao) : Calls Tryz.prog f.query_Same #[.agg ⟨quL q ai aw ag ao ci cw cg co⟩, .agg ⟨quL q ai aw ag ao ci cw cg co⟩] w (Ret fun r w' => r = .bool (rightQ q) ∧ Below w.heap.size w w') := by
  apply R.query_Same_calls
  unfold R.query_Same
  refine (ST.start w).newB fun b11 w1 _ _ S1 => S1.newB fun b12 w2 _ _ S2 => ?_
  have S2 : ST w w2 [quI b12 q ai aw ag ao ci cw cg co, quI b11 q ai aw ag ao ci cw cg co] := S2
  refine ⟨_, _, _, S2.cell 1 rfl rfl, _, _, _, S2.cell 1 rfl rfl, _, _, _, S2.cell 1 rfl rfl, _, _, _, S2.cell 1 rfl rfl, _, S2.cell 1 rfl rfl, (query_Show_ok (E.grown S2.bel) (Q.grown S2.bel) (ci := ci) (cw := cw) (cg := cg) (co := co)).mono ?_⟩
  rintro _ w3 ⟨_, rfl, rfl, B3⟩
  have S3 := S2.grown B3
  have hcall := query_Show_ok (E.grown S3.bel) (Q.grown S3.bel) (ci := ci) (cw := cw) (cg := cg) (co := co)
  by_cases hr : rightQ q = true
  · have e : showQ q = .tuple #[.string (quT q), .int .i64 0] := by unfold showQ; rw [if_pos hr]
    rw [e] at hcall ⊢
    refine ⟨_, _, rfl, _, _, _, S3.cell 0 rfl rfl, _, _, _, S3.cell 0 rfl rfl, _, _, _, S3.cell 0 rfl rfl, _, _, _, S3.cell 0 rfl rfl, _, S3.cell 0 rfl rfl, hcall.mono ?_⟩
    rintro _ w4 ⟨_, rfl, rfl, B4⟩
    refine ⟨_, _, rfl, IFB_eq (fun _ => IFB_eq (fun _ => ⟨?_, (S3.grown B4).bel⟩) (fun h => absurd rfl h)) (fun h => absurd rfl h)⟩
    rw [bytesEq_iff, hr, decide_eq_true rfl]
  · have e : showQ q = .tuple #[.string ⟨#[]⟩, .int .i64 110] := by unfold showQ; rw [if_neg hr]
    rw [e] at hcall ⊢
    refine ⟨_, _, rfl, _, _, _, S3.cell 0 rfl rfl, _, _, _, S3.cell 0 rfl rfl, _, _, _, S3.cell 0 rfl rfl, _, _, _, S3.cell 0 rfl rfl, _, S3.cell 0 rfl rfl, hcall.mono ?_⟩
    rintro _ w4 ⟨_, rfl, rfl, B4⟩
    refine ⟨_, _, rfl, IFB_eq (fun h => absurd h (by decide)) (fun _ => ⟨?_, (S3.grown B4).bel⟩)⟩
    rw [Bool.eq_false_iff.2 hr]
end
def aggLits : List ByteArray := [⟨#[]⟩, ⟨#[99, 111, 117, 110, 116, 40, 42, 41]⟩, ⟨#[99, 111, 117, 110, 116, 40]⟩, ⟨#[115, 117, 109, 40]⟩, ⟨#[109, 105, 110, 40]⟩, ⟨#[109, 97, 120, 40]⟩]
section
variable {w : World} {i : Itm} {a : Option Addr} {cap : Nat}
theorem ref11_gathered_ok (hx : XC w i.2.2 (exHead i.2.2 a cap)) (hr : rightI i = true) : Calls Tryz.prog f.ref11_gathered #[.agg ⟨itHead i a cap⟩] w (Ret fun r w' => r = .string (itemT i) ∧ Below w.heap.size w w') := by
  apply R.ref11_gathered_calls
  unfold R.ref11_gathered
  have hn := okName_size (rightI_iff.1 hr).1
  have e1 : (ByteArray.mk #[32, 97, 115, 32]).size = 4 := rfl
  have e2 : (ByteArray.mk #[99, 111, 117, 110, 116, 40, 42, 41]).size = 8 := rfl
  have e3 : (ByteArray.mk #[40]).size = 1 := rfl
  have e4 : (ByteArray.mk #[41]).size = 1 := rfl
  have ha := agg_size i.2.1
  have har := (rightI_iff.1 hr).2.1
  obtain ⟨n, hna⟩ : ∃ n : Nat, i.2.1 = n := ⟨i.2.1.toNat, by omega⟩
  have hn6 : n < 6 := by omega
  refine (ST.start w).newB fun b9 w1 _ _ S1 => S1.newB fun b10 w2 _ _ S2 => ⟨_, S2.cell 1 rfl rfl, ⟨by omega, by omega⟩, aggLits.getD n E0, ?_, ?_⟩
  · rw [hna, addr_one]
    refine S2.cell 0 rfl ?_
    show ((aggLits.map Value.string).toArray)[n]? = _
    have : n < aggLits.length := hn6
    simp [this, List.getD_eq_getElem?_getD]
  have hlit : ¬ n = 0 → ¬ n = 1 → aggLits.getD n E0 = aggName i.2.1 ++ ⟨#[40]⟩ := fun h0 h1 => by
    have h : n = 2 ∨ n = 3 ∨ n = 4 ∨ n = 5 := by omega
    rw [hna]
    rcases h with rfl | rfl | rfl | rfl <;> rfl
  refine ⟨fun st w4 => st = [.string (if n = 0 then i.2.2.text else aggLits.getD n E0)] ∧ ST w w4 [It.cells b10 (aggLits.map Value.string).toArray ty.string, itI b9 i a cap], ⟨_, S2.cell 1 rfl rfl, IFB_eq (fun h0 => ?_) (fun h0 => ⟨by rw [if_neg (by omega)], S2⟩)⟩, ?_⟩
  · have hX := rightI_x hr (by omega)
    refine ⟨_, S2.cell 1 rfl rfl, _, S2.cell 1 rfl rfl, _, S2.cell 1 rfl rfl, _, S2.cell 1 rfl rfl, _, S2.cell 1 rfl rfl, _, _, _, S2.cell 1 rfl rfl, (ref11_text_ok i.2.2 40 (rightX_fair hX hx.fit) (rightX_size hX) w2 a cap (hx.grown S2.bel)).mono ?_⟩
    rintro _ w3 ⟨_, rfl, rfl, B3⟩
    exact ⟨_, rfl, by rw [if_pos (by omega)], S2.grown B3⟩
  · rintro s w4 ⟨hs, S4⟩
    obtain rfl : s = if n = 0 then i.2.2.text else aggLits.getD n E0 := by simpa using hs
    refine ⟨_, S4.cell 1 rfl rfl, IFB_dec (fun h2 => ?_) (fun h2 => ?_)⟩
    · have hX := rightI_x hr (by omega)
      have ht := rightX_text hX hx.fit
      rw [if_neg (by omega), hlit (by omega) (by omega)]
      refine ⟨_, S4.cell 1 rfl rfl, _, S4.cell 1 rfl rfl, _, S4.cell 1 rfl rfl, _, S4.cell 1 rfl rfl, _, S4.cell 1 rfl rfl, _, _, _, S4.cell 1 rfl rfl, (ref11_text_ok i.2.2 40 (rightX_fair hX hx.fit) (rightX_size hX) w4 a cap (hx.grown S4.bel)).mono ?_⟩
      rintro _ w5 ⟨_, rfl, rfl, B5⟩
      have S5 := S4.grown B5
      refine ⟨_, rfl, by simp only [ByteArray.size_append]; omega, by simp only [ByteArray.size_append]; omega, by simp only [ByteArray.size_append]; omega, _, S5.cell 1 rfl rfl, by simp only [ByteArray.size_append]; omega, ?_, S5.bel⟩
      unfold itemT
      rw [if_neg (by omega), if_neg (by omega)]
    · have hz : (if n = 0 then i.2.2.text else aggLits.getD n E0).size ≤ 900000 := by
        split
        · have hX := rightI_x hr (by omega)
          have ht := rightX_text hX hx.fit
          omega
        · obtain rfl : n = 1 := by omega
          decide
      refine ⟨by omega, _, S4.cell 1 rfl rfl, by rw [ByteArray.size_append]; omega, ?_, S4.bel⟩
      unfold itemT
      by_cases h0 : n = 0
      · rw [if_pos h0, if_pos (by omega)]
      · obtain rfl : n = 1 := by omega
        rw [if_neg h0, if_neg (by omega), if_pos (by omega)]
        rfl
end
theorem part_zero {α : Type} (h : ByteArray) (l : List α) (g : α → ByteArray) : partT h ((l.take 0).map g) = E0 := rfl
theorem part_one {α : Type} (h : ByteArray) (l : List α) (g : α → ByteArray) (hl : 0 < l.length) : partT h ((l.take 1).map g) = h ++ g l[0] := by
  rw [List.take_succ_eq_append_getElem hl]
  rfl
theorem part_step {α : Type} (h : ByteArray) (l : List α) (g : α → ByteArray) {i : Nat} (hi : i < l.length) (h0 : 0 < i) : partT h ((l.take (i + 1)).map g) = partT h ((l.take i).map g) ++ ⟨#[44, 32]⟩ ++ g l[i] := by
  have hl : ((l.take i).map g).length = i := by simp; omega
  rw [List.take_succ_eq_append_getElem hi, List.map_append]
  unfold partT
  rw [if_neg (by simp), if_neg (by omega)]
  show h ++ commas ((l.take i).map g ++ [g l[i]]) = _
  rw [commas_snoc _ _ (fun e => by rw [e] at hl; simp at hl; omega)]
  simp only [ByteArray.append_assoc]
theorem take_size {α : Type} {B : Nat} {l : List α} {g : α → ByteArray} (h : ∀ x ∈ l, (g x).size ≤ B) (hd : ByteArray) (i : Nat) : (partT hd ((l.take i).map g)).size ≤ hd.size + l.length * (B + 2) := by
  have := part_size hd ((l.take i).map g) (fun x hx => by obtain ⟨y, hy, rfl⟩ := List.mem_map.1 hx; exact h y (List.mem_of_mem_take hy))
  rw [List.length_map, List.length_take] at this
  have h2 : min i l.length * (B + 2) ≤ l.length * (B + 2) := Nat.mul_le_mul_right _ (Nat.min_le_right _ _)
  omega
def selT : ByteArray := ⟨#[115, 101, 108, 101, 99, 116, 32]⟩
def whT : ByteArray := ⟨#[32, 119, 104, 101, 114, 101, 32]⟩
def grT : ByteArray := ⟨#[32, 103, 114, 111, 117, 112, 32, 98, 121, 32]⟩
def odT : ByteArray := ⟨#[32, 111, 114, 100, 101, 114, 32, 98, 121, 32]⟩
def accI (q : Qu) (i : Nat) : ByteArray := if i = 0 then selT else partT selT ((q.it.take i).map itemT)
section
variable {w : World} {q : Qu} {ai aw ag ao : Option Addr} {ci cw cg co : Nat}
theorem ref11_shown_ok (Q : QAt w q ai aw ag ao) (hs : smallQ q = true) : Calls Tryz.prog f.ref11_shown #[.agg ⟨quL q ai aw ag ao ci cw cg co⟩] w (Ret fun r w' => r = .string (quT q) ∧ Below w.heap.size w w') := by
  apply R.ref11_shown_calls
  unfold R.ref11_shown
  obtain ⟨hn, hi, hw, hg, ho⟩ := smallQ_iff.1 hs
  have bd := Q.bnd hs
  obtain ⟨ri, hri, hCi⟩ := Q.it
  obtain ⟨rw_, hrw, hCw⟩ := Q.wh
  obtain ⟨rg, hrg, hCg⟩ := Q.gr
  obtain ⟨ro, hro, hCo⟩ := Q.od
  have e2 : (ByteArray.mk #[44, 32]).size = 2 := rfl
  have f1 : (ByteArray.mk #[115, 101, 108, 101, 99, 116, 32]).size = 7 := rfl
  have f2 : (ByteArray.mk #[32, 119, 104, 101, 114, 101, 32]).size = 7 := rfl
  have f3 : (ByteArray.mk #[32, 103, 114, 111, 117, 112, 32, 98, 121, 32]).size = 10 := rfl
  have f4 : (ByteArray.mk #[32, 111, 114, 100, 101, 114, 32, 98, 121, 32]).size = 10 := rfl
  have g1 : selT.size = 7 := rfl
  have g2 : whT.size = 7 := rfl
  have g3 : grT.size = 10 := rfl
  have g4 : odT.size = 10 := rfl
  have m1 : q.it.length * (1000000 + 2) ≤ 16 * (1000000 + 2) := Nat.mul_le_mul_right _ (by omega)
  have m2 : q.wh.length * (1000000 + 2) ≤ 16 * (1000000 + 2) := Nat.mul_le_mul_right _ (by omega)
  have m3 : q.gr.length * (1000000 + 2) ≤ 16 * (1000000 + 2) := Nat.mul_le_mul_right _ (by omega)
  have m4 : q.od.length * (1000000 + 2) ≤ 16 * (1000000 + 2) := Nat.mul_le_mul_right _ (by omega)
  have z1 := take_size (B := 1000000) bd.it selT
  have z2 := take_size (B := 1000000) bd.wh whT
  have z3 := take_size (B := 1000000) bd.gr grT
  have z4 := take_size (B := 1000000) bd.od odT
  refine (ST.start w).newB fun b6 w1 _ _ S1 => ?_
  have S1 : ST w w1 [quI b6 q ai aw ag ao ci cw cg co] := S1
  refine ⟨fun st w2 => ∃ i : Nat, st = [.string (accI q i), .int .i64 (i : Int)] ∧ i ≤ q.it.length ∧ ST w w2 [quI b6 q ai aw ag ao ci cw cg co], fun st _ => match st with | [_, .int _ t] => q.it.length - t.toNat | _ => 0, ⟨0, rfl, by omega, S1⟩, ?_⟩
  rintro s t w2 ⟨i, hst, hil, S2⟩
  cases hst
  refine ⟨_, _, _, S2.cell 0 rfl rfl, IFB_dec (fun hlt => ?_) (fun hge => ?_)⟩
  · have hi1 : i < q.it.length := by omega
    obtain ⟨p, a3, cap3, hpa, hxk, hsz, cell⟩ := item_at (hri.grown S2.bel) hCi hi1
    have hz := bd.it _ (List.getElem_mem hi1)
    have next : ∀ w', ST w w' [quI b6 q ai aw ag ao ci cw cg co] → ∀ s, s = accI q (i + 1) → (∃ j : Nat, [Value.string s, Value.int .i64 (IntKind.i64.wrap ((i : Int) + 1))] = [.string (accI q j), .int .i64 (j : Int)] ∧ j ≤ q.it.length ∧ ST w w' [quI b6 q ai aw ag ao ci cw cg co]) ∧ q.it.length - (IntKind.i64.wrap ((i : Int) + 1)).toNat < q.it.length - ((i : Nat) : Int).toNat := by
      rintro w' S s rfl
      rw [wrap_succ (by omega)]
      refine ⟨⟨i + 1, rfl, by omega, S⟩, ?_⟩
      simp only [Int.toNat_natCast]
      omega
    subst hpa
    refine IFB_dec (fun h0 => ?_) (fun h0 => ?_)
    · have hacc : accI q i = partT selT ((q.it.take i).map itemT) := by unfold accI; rw [if_neg (by omega)]
      have hzi := z1 i
      rw [← hacc] at hzi
      refine ⟨by omega, _, _, _, S2.cell 0 rfl rfl, ⟨by omega, hlt⟩, _, by rw [Int.toNat_natCast]; exact cell 0 _ rfl, _, by rw [Int.toNat_natCast]; exact cell 1 _ rfl, _, by rw [Int.toNat_natCast]; exact cell 2 _ rfl, _, by rw [Int.toNat_natCast]; exact cell 3 _ rfl, _, by rw [Int.toNat_natCast]; exact cell 4 _ rfl, _, by rw [Int.toNat_natCast]; exact cell 5 _ rfl, _, by rw [Int.toNat_natCast]; exact cell 6 _ rfl, _, _, _, by rw [Int.toNat_natCast]; exact cell 7 _ rfl, (ref11_gathered_ok (i := q.it[i]) (hxk.grown S2.bel) (hi _ (List.getElem_mem hi1))).mono ?_⟩
      rintro _ w3 ⟨_, rfl, rfl, B3⟩
      refine ⟨_, rfl, by simp only [ByteArray.size_append]; omega, next _ (S2.grown B3) _ ?_⟩
      rw [hacc]
      unfold accI
      rw [if_neg (by omega), part_step _ _ _ hi1 (by omega)]
    · obtain rfl : i = 0 := by omega
      have hz0 : (accI q 0).size = 7 := rfl
      refine ⟨_, _, _, S2.cell 0 rfl rfl, ⟨by omega, hlt⟩, _, by rw [Int.toNat_natCast]; exact cell 0 _ rfl, _, by rw [Int.toNat_natCast]; exact cell 1 _ rfl, _, by rw [Int.toNat_natCast]; exact cell 2 _ rfl, _, by rw [Int.toNat_natCast]; exact cell 3 _ rfl, _, by rw [Int.toNat_natCast]; exact cell 4 _ rfl, _, by rw [Int.toNat_natCast]; exact cell 5 _ rfl, _, by rw [Int.toNat_natCast]; exact cell 6 _ rfl, _, _, _, by rw [Int.toNat_natCast]; exact cell 7 _ rfl, (ref11_gathered_ok (i := q.it[0]) (hxk.grown S2.bel) (hi _ (List.getElem_mem hi1))).mono ?_⟩
      rintro _ w3 ⟨_, rfl, rfl, B3⟩
      refine ⟨_, rfl, by omega, next _ (S2.grown B3) _ ?_⟩
      unfold accI
      rw [if_pos rfl, if_neg (by omega), part_one _ _ _ hi1]
  have hacc : accI q i = partT selT (q.it.map itemT) := by
    obtain rfl : i = q.it.length := by omega
    unfold accI
    rw [if_neg (by omega), List.take_length]
  have hz1 : (partT selT (q.it.map itemT)).size ≤ 7 + 16 * (1000000 + 2) := by have := z1 q.it.length; rw [List.take_length] at this; omega
  have hz2 : (partT whT (q.wh.map Ex.text)).size ≤ 7 + 16 * (1000000 + 2) := by have := z2 q.wh.length; rw [List.take_length] at this; omega
  rw [hacc]
  refine ⟨fun st w6 => st = [.string (partT selT (q.it.map itemT) ++ partT whT (q.wh.map Ex.text))] ∧ ST w w6 [quI b6 q ai aw ag ao ci cw cg co], ⟨_, _, _, S2.cell 0 rfl rfl, IFB_dec (fun h0 => ?_) (fun h0 => ?_)⟩, ?_⟩
  · have hwl : 0 < q.wh.length := by omega
    obtain ⟨p, a3, cap3, hpa, hxk, cell⟩ := exs_at (hrw.grown S2.bel) hCw hwl
    subst hpa
    have hX := hw _ (List.getElem_mem hwl)
    have hz := bd.wh _ (List.getElem_mem hwl)
    refine ⟨by omega, _, _, _, S2.cell 0 rfl rfl, ⟨by omega, by omega⟩, _, cell 0 _ rfl, _, cell 1 _ rfl, _, cell 2 _ rfl, _, cell 3 _ rfl, _, cell 4 _ rfl, _, _, _, cell 5 _ rfl, (ref11_text_ok _ 40 (rightX_fair hX hxk.fit) (rightX_size hX) w2 a3 cap3 (hxk.grown S2.bel)).mono ?_⟩
    rintro _ w5 ⟨_, rfl, rfl, B5⟩
    refine ⟨_, rfl, by simp only [ByteArray.size_append]; omega, ?_, S2.grown B5⟩
    have : q.wh = [q.wh[0]] := by
      match hq : q.wh, hwl with
      | [x], _ => rfl
      | x :: y :: l, _ => rw [hq] at hn; simp at hn
    rw [show partT whT (q.wh.map Ex.text) = whT ++ q.wh[0].text by
      conv => lhs; rw [this]
      rfl, ByteArray.append_assoc]
    rfl
  · have : q.wh = [] := List.eq_nil_of_length_eq_zero (by omega)
    refine ⟨?_, S2⟩
    rw [this]
    exact congrArg (fun x => [Value.string x]) (app_e0 _).symm
  rintro s w6 ⟨hs6, S6⟩
  obtain rfl : s = partT selT (q.it.map itemT) ++ partT whT (q.wh.map Ex.text) := by simpa using hs6
  obtain ⟨P2, hP2⟩ : ∃ P2, P2 = partT selT (q.it.map itemT) ++ partT whT (q.wh.map Ex.text) := ⟨_, rfl⟩
  have hzP2 : P2.size ≤ 14 + 32 * (1000000 + 2) := by rw [hP2, ByteArray.size_append]; omega
  rw [← hP2]
  refine ⟨fun st w7 => ∃ i : Nat, st = [.string (P2 ++ partT grT ((q.gr.take i).map Ex.text)), .int .i64 (i : Int)] ∧ i ≤ q.gr.length ∧ ST w w7 [quI b6 q ai aw ag ao ci cw cg co], fun st _ => match st with | [_, .int _ t] => q.gr.length - t.toNat | _ => 0, ⟨0, by rw [part_zero, app_e0]; rfl, by omega, S6⟩, ?_⟩
  rintro s t w7 ⟨i, hst, hil, S7⟩
  cases hst
  have hzi := z3 i
  refine ⟨_, _, _, S7.cell 0 rfl rfl, IFB_dec (fun hlt => ?_) (fun hge => ?_)⟩
  · have hi1 : i < q.gr.length := by omega
    have next : ∀ w', ST w w' [quI b6 q ai aw ag ao ci cw cg co] → ∀ s, s = P2 ++ partT grT ((q.gr.take (i + 1)).map Ex.text) → (∃ j : Nat, [Value.string s, Value.int .i64 (IntKind.i64.wrap ((i : Int) + 1))] = [.string (P2 ++ partT grT ((q.gr.take j).map Ex.text)), .int .i64 (j : Int)] ∧ j ≤ q.gr.length ∧ ST w w' [quI b6 q ai aw ag ao ci cw cg co]) ∧ q.gr.length - (IntKind.i64.wrap ((i : Int) + 1)).toNat < q.gr.length - ((i : Nat) : Int).toNat := by
      rintro w' S s rfl
      rw [wrap_succ (by omega)]
      refine ⟨⟨i + 1, rfl, by omega, S⟩, ?_⟩
      simp only [Int.toNat_natCast]
      omega
    obtain ⟨p, a3, cap3, hpa, hxk, cell⟩ := exs_at (hrg.grown S7.bel) hCg hi1
    subst hpa
    have hX := hg _ (List.getElem_mem hi1)
    have hz := bd.gr _ (List.getElem_mem hi1)
    refine IFB_eq (fun h0 => ?_) (fun h0 => ?_)
    · obtain rfl : i = 0 := by omega
      rw [part_zero, app_e0]
      refine ⟨by omega, _, _, _, S7.cell 0 rfl rfl, ⟨by omega, by omega⟩, _, cell 0 _ rfl, _, cell 1 _ rfl, _, cell 2 _ rfl, _, cell 3 _ rfl, _, cell 4 _ rfl, _, _, _, cell 5 _ rfl, (ref11_text_ok _ 40 (rightX_fair hX hxk.fit) (rightX_size hX) w7 a3 cap3 (hxk.grown S7.bel)).mono ?_⟩
      rintro _ w8 ⟨_, rfl, rfl, B8⟩
      refine ⟨_, rfl, by simp only [ByteArray.size_append]; omega, next _ (S7.grown B8) _ ?_⟩
      rw [part_one _ _ _ hi1, ByteArray.append_assoc]
      rfl
    · refine ⟨by simp only [ByteArray.size_append]; omega, _, _, _, S7.cell 0 rfl rfl, ⟨by omega, hlt⟩, _, by rw [Int.toNat_natCast]; exact cell 0 _ rfl, _, by rw [Int.toNat_natCast]; exact cell 1 _ rfl, _, by rw [Int.toNat_natCast]; exact cell 2 _ rfl, _, by rw [Int.toNat_natCast]; exact cell 3 _ rfl, _, by rw [Int.toNat_natCast]; exact cell 4 _ rfl, _, _, _, by rw [Int.toNat_natCast]; exact cell 5 _ rfl, (ref11_text_ok _ 40 (rightX_fair hX hxk.fit) (rightX_size hX) w7 a3 cap3 (hxk.grown S7.bel)).mono ?_⟩
      rintro _ w8 ⟨_, rfl, rfl, B8⟩
      refine ⟨_, rfl, by simp only [ByteArray.size_append]; omega, next _ (S7.grown B8) _ ?_⟩
      rw [part_step _ _ _ hi1 (by omega)]
      simp only [ByteArray.append_assoc]
  obtain rfl : i = q.gr.length := by omega
  rw [List.take_length] at hzi ⊢
  obtain ⟨P3, hP3⟩ : ∃ P3, P3 = P2 ++ partT grT (q.gr.map Ex.text) := ⟨_, rfl⟩
  have hzP3 : P3.size ≤ 24 + 48 * (1000000 + 2) := by rw [hP3, ByteArray.size_append]; omega
  rw [← hP3]
  refine ⟨fun st w10 => ∃ i : Nat, st = [.string (P3 ++ partT odT ((q.od.take i).map (keyT q.it))), .int .i64 (i : Int)] ∧ i ≤ q.od.length ∧ ST w w10 [quI b6 q ai aw ag ao ci cw cg co], fun st _ => match st with | [_, .int _ t] => q.od.length - t.toNat | _ => 0, ⟨0, by rw [part_zero, app_e0]; rfl, by omega, S7⟩, ?_⟩
  rintro s t w10 ⟨i, hst, hil, S10⟩
  cases hst
  have hzj := z4 i
  refine ⟨_, _, _, S10.cell 0 rfl rfl, IFB_dec (fun hlt => ?_) (fun hge => ?_)⟩
  · have hi1 : i < q.od.length := by omega
    refine ⟨fun st w11 => st = [.string (P3 ++ if i = 0 then odT else partT odT ((q.od.take i).map (keyT q.it)) ++ ⟨#[44, 32]⟩)] ∧ w11 = w10, IFB_eq (fun h0 => ⟨by rw [ByteArray.size_append]; omega, ?_, rfl⟩) (fun h0 => ⟨by simp only [ByteArray.size_append]; omega, ?_, rfl⟩), ?_⟩
    · obtain rfl : i = 0 := by omega
      rw [part_zero, app_e0, if_pos rfl]
      rfl
    · rw [if_neg (by omega), ByteArray.append_assoc]
    rintro s w11 ⟨hs11, rfl⟩
    obtain rfl : s = P3 ++ if i = 0 then odT else partT odT ((q.od.take i).map (keyT q.it)) ++ ⟨#[44, 32]⟩ := by simpa using hs11
    have hzs : (P3 ++ if i = 0 then odT else partT odT ((q.od.take i).map (keyT q.it)) ++ ⟨#[44, 32]⟩).size ≤ 100 + 64 * (1000000 + 2) := by
      rw [ByteArray.size_append]
      split
      · omega
      · rw [ByteArray.size_append]; omega
    refine S10.draw fun w12 _ S12 => ?_
    obtain ⟨pk, hpk, hk0, hk1, _⟩ := key_at (hro.grown S12.bel) hCo hi1
    obtain ⟨m, hm, he, _⟩ := rightK_iff.1 (ho _ (List.getElem_mem hi1))
    obtain ⟨pi, hpi, hc⟩ := it_name (hri.grown S12.bel) hCi hm
    subst hpk
    subst hpi
    have hnm := bd.nm _ (List.getElem_mem hm)
    have f5 : (ByteArray.mk #[32, 100, 101, 115, 99]).size = 5 := rfl
    refine ⟨_, _, _, S12.cell 0 rfl rfl, _, _, _, S12.cell 0 rfl rfl, ⟨by omega, hlt⟩, _, by rw [Int.toNat_natCast]; exact hk0, ⟨by omega, by omega⟩, _, by rw [he, Int.toNat_natCast]; exact hc, by omega, _, _, _, S12.cell 0 rfl rfl, ⟨by omega, hlt⟩, _, by rw [Int.toNat_natCast]; exact hk1, ?_⟩
    have next : ∀ w', ST w w' [quI b6 q (some pi) aw ag (some pk) ci cw cg co] → ∀ s, s = P3 ++ partT odT ((q.od.take (i + 1)).map (keyT q.it)) → (∃ j : Nat, [Value.string s, Value.int .i64 (IntKind.i64.wrap ((i : Int) + 1))] = [.string (P3 ++ partT odT ((q.od.take j).map (keyT q.it))), .int .i64 (j : Int)] ∧ j ≤ q.od.length ∧ ST w w' [quI b6 q (some pi) aw ag (some pk) ci cw cg co]) ∧ q.od.length - (IntKind.i64.wrap ((i : Int) + 1)).toNat < q.od.length - ((i : Nat) : Int).toNat := by
      rintro w' S s rfl
      rw [wrap_succ (by omega)]
      refine ⟨⟨i + 1, rfl, by omega, S⟩, ?_⟩
      simp only [Int.toNat_natCast]
      omega
    have hstep : partT odT ((q.od.take (i + 1)).map (keyT q.it)) = (if i = 0 then odT else partT odT ((q.od.take i).map (keyT q.it)) ++ ⟨#[44, 32]⟩) ++ keyT q.it q.od[i] := by
      by_cases h0 : i = 0
      · subst h0
        rw [part_one _ _ _ hi1, if_pos rfl]
      · rw [part_step _ _ _ hi1 (by omega), if_neg h0]
    refine IFB_of (fun hd => ⟨by rw [ByteArray.size_append]; omega, next _ S12 _ ?_⟩) (fun hd => next _ S12 _ ?_)
    · rw [hstep, keyT_at hm he, hd]
      simp only [ByteArray.append_assoc]
      rfl
    · rw [hstep, keyT_at hm he, hd]
      rw [show (if false = true then (ByteArray.mk #[32, 100, 101, 115, 99]) else E0) = E0 from rfl, app_e0]
      simp only [ByteArray.append_assoc]
  obtain rfl : i = q.od.length := by omega
  rw [List.take_length] at hzj ⊢
  have hL : (ByteArray.mk #[32, 108, 105, 109, 105, 116, 32]).size = 7 := rfl
  have hq : quT q = P3 ++ partT odT (q.od.map (keyT q.it)) ++ limT q.lim := by rw [hP3, hP2]; rfl
  have hit := Lib.itoa_length_le q.lim Q.lim.1 Q.lim.2
  have hsz : (sof (Lib.itoa q.lim)).size ≤ 21 := by rw [size_sof]; exact hit
  refine ⟨_, S10.cell 0 rfl rfl, IFB_dec (fun h0 => ⟨by rw [ByteArray.size_append]; omega, _, S10.cell 0 rfl rfl, (ref_Digits_ok w10 q.lim Q.lim.1 Q.lim.2).mono ?_⟩) (fun h0 => ⟨?_, S10.bel⟩)⟩
  · rintro _ w13 ⟨_, rfl, rfl, B13⟩
    refine ⟨_, rfl, by simp only [ByteArray.size_append]; omega, ?_, (S10.grown B13).bel⟩
    rw [hq]
    unfold limT
    rw [if_pos h0]
    simp only [ByteArray.append_assoc]
  · rw [hq]
    unfold limT
    rw [if_neg h0, app_e0]
theorem ref11_Right_ok (Q : QAt w q ai aw ag ao) : Calls Tryz.prog f.ref11_Right #[.agg ⟨quL q ai aw ag ao ci cw cg co⟩] w (Ret fun r w' => r = .bool (rightQ q) ∧ Below w.heap.size w w') := by
  apply R.ref11_Right_calls
  unfold R.ref11_Right
  refine (ST.start w).newB fun b6 w1 _ _ S1 => ?_
  have S1 : ST w w1 [quI b6 q ai aw ag ao ci cw cg co] := S1
  refine ⟨_, _, _, S1.cell 0 rfl rfl, _, _, _, S1.cell 0 rfl rfl, _, _, _, S1.cell 0 rfl rfl, _, _, _, S1.cell 0 rfl rfl, _, S1.cell 0 rfl rfl, (ref11_small_ok (Q.grown S1.bel) (ci := ci) (cw := cw) (cg := cg) (co := co)).mono ?_⟩
  rintro _ w2 ⟨_, rfl, rfl, B2⟩
  have S2 := S1.grown B2
  refine ⟨_, rfl, IFB_of (fun hs => ⟨_, _, _, S2.cell 0 rfl rfl, _, _, _, S2.cell 0 rfl rfl, _, _, _, S2.cell 0 rfl rfl, _, _, _, S2.cell 0 rfl rfl, _, S2.cell 0 rfl rfl, (ref11_shown_ok (Q.grown S2.bel) hs (ci := ci) (cw := cw) (cg := cg) (co := co)).mono ?_⟩) (fun hs => ⟨by simp [rightQ, hs], S2.bel⟩)⟩
  rintro _ w3 ⟨_, rfl, rfl, B3⟩
  refine ⟨_, rfl, ?_, (S2.grown B3).bel⟩
  congr 1
  rw [Bool.eq_iff_iff]
  simp [rightQ, hs]
  omega
end
theorem IFB_yes {b : Bool} {A B : Prop} (hb : b = true) (h : A) : IFB b A B := by subst hb; exact h
theorem IFB_no {b : Bool} {A B : Prop} (hb : b = false) (h : B) : IFB b A B := by subst hb; exact h
section
variable {w : World} {q : Qu} {ai aw ag ao bi bw bg bo : Option Addr} {ci cw cg co di dw dg d_o : Nat}
end
/-! ### lists of columns -/
section
variable {w : World} {a b : Option Addr} {c d : Nat}
end
theorem bne_dec (a b : Int) : (a != b) = decide (a ≠ b) := by rw [Bool.eq_iff_iff]; simp
section
variable {w0 w : World} {H : List It}
theorem ldX {p : Addr} {x : Ex} {a : Option Addr} {cap : Nat} (h : ∀ j v, (exHead x a cap)[j]? = some v → w.cell? (p.add j) = some v) {Q : Int → ByteArray → Int → Int → ByteArray → Option Addr → Nat → Nat → Prop} (hq : Q x.op x.nm x.v.1 x.v.2.1 x.v.2.2 a x.ks.length cap) :
    ∃ t0 : Int, w.cell? p = some (.int .i64 t0) ∧ ∃ t1 : ByteArray, w.cell? (p.add 1) = some (.string t1) ∧ ∃ t2 : Int, w.cell? (p.add 2) = some (.int .i64 t2) ∧ ∃ t3 : Int, w.cell? (p.add 3) = some (.int .i64 t3) ∧ ∃ t4 : ByteArray, w.cell? (p.add 4) = some (.string t4) ∧
      ∃ (t5 : Option Addr) (l c : Nat), w.cell? (p.add 5) = some (.slice t5 l c) ∧ Q t0 t1 t2 t3 t4 t5 l c :=
  ⟨_, h 0 _ rfl, _, h 1 _ rfl, _, h 2 _ rfl, _, h 3 _ rfl, _, h 4 _ rfl, _, _, _, h 5 _ rfl, hq⟩
theorem ldI {p : Addr} {i : Itm} {a : Option Addr} {cap : Nat} (h : ∀ j v, (itHead i a cap)[j]? = some v → w.cell? (p.add j) = some v) {Q : ByteArray → Int → Int → ByteArray → Int → Int → ByteArray → Option Addr → Nat → Nat → Prop} (hq : Q i.1 i.2.1 i.2.2.op i.2.2.nm i.2.2.v.1 i.2.2.v.2.1 i.2.2.v.2.2 a i.2.2.ks.length cap) :
    ∃ t0 : ByteArray, w.cell? p = some (.string t0) ∧ ∃ t1 : Int, w.cell? (p.add 1) = some (.int .i64 t1) ∧ ∃ t2 : Int, w.cell? (p.add 2) = some (.int .i64 t2) ∧ ∃ t3 : ByteArray, w.cell? (p.add 3) = some (.string t3) ∧ ∃ t4 : Int, w.cell? (p.add 4) = some (.int .i64 t4) ∧ ∃ t5 : Int, w.cell? (p.add 5) = some (.int .i64 t5) ∧ ∃ t6 : ByteArray, w.cell? (p.add 6) = some (.string t6) ∧
      ∃ (t7 : Option Addr) (l c : Nat), w.cell? (p.add 7) = some (.slice t7 l c) ∧ Q t0 t1 t2 t3 t4 t5 t6 t7 l c :=
  ⟨_, h 0 _ rfl, _, h 1 _ rfl, _, h 2 _ rfl, _, h 3 _ rfl, _, h 4 _ rfl, _, h 5 _ rfl, _, h 6 _ rfl, _, _, _, h 7 _ rfl, hq⟩
theorem stX (S : ST w0 w H) (n : Nat) {b : Nat} {x : Ex} {a : Option Addr} {cap : Nat} (hn : H[n]? = some (exI b (exHead x a cap))) {Q : Int → ByteArray → Int → Int → ByteArray → Option Addr → Nat → Nat → Prop} (hq : Q x.op x.nm x.v.1 x.v.2.1 x.v.2.2 a x.ks.length cap) :
    ∃ t0 : Int, w.cell? ⟨b, 0, none⟩ = some (.int .i64 t0) ∧ ∃ t1 : ByteArray, w.cell? ⟨b, 1, none⟩ = some (.string t1) ∧ ∃ t2 : Int, w.cell? ⟨b, 2, none⟩ = some (.int .i64 t2) ∧ ∃ t3 : Int, w.cell? ⟨b, 3, none⟩ = some (.int .i64 t3) ∧ ∃ t4 : ByteArray, w.cell? ⟨b, 4, none⟩ = some (.string t4) ∧
      ∃ (t5 : Option Addr) (l c : Nat), w.cell? ⟨b, 5, none⟩ = some (.slice t5 l c) ∧ Q t0 t1 t2 t3 t4 t5 l c :=
  ⟨_, S.cell n hn rfl, _, S.cell n hn rfl, _, S.cell n hn rfl, _, S.cell n hn rfl, _, S.cell n hn rfl, _, _, _, S.cell n hn rfl, hq⟩
theorem stIx (S : ST w0 w H) (n : Nat) {b : Nat} {i : Itm} {a : Option Addr} {cap : Nat} (hn : H[n]? = some (itI b i a cap)) {Q : Int → ByteArray → Int → Int → ByteArray → Option Addr → Nat → Nat → Prop} (hq : Q i.2.2.op i.2.2.nm i.2.2.v.1 i.2.2.v.2.1 i.2.2.v.2.2 a i.2.2.ks.length cap) :
    ∃ t0 : Int, w.cell? ⟨b, 2, none⟩ = some (.int .i64 t0) ∧ ∃ t1 : ByteArray, w.cell? ⟨b, 3, none⟩ = some (.string t1) ∧ ∃ t2 : Int, w.cell? ⟨b, 4, none⟩ = some (.int .i64 t2) ∧ ∃ t3 : Int, w.cell? ⟨b, 5, none⟩ = some (.int .i64 t3) ∧ ∃ t4 : ByteArray, w.cell? ⟨b, 6, none⟩ = some (.string t4) ∧
      ∃ (t5 : Option Addr) (l c : Nat), w.cell? ⟨b, 7, none⟩ = some (.slice t5 l c) ∧ Q t0 t1 t2 t3 t4 t5 l c :=
  ⟨_, S.cell n hn rfl, _, S.cell n hn rfl, _, S.cell n hn rfl, _, S.cell n hn rfl, _, S.cell n hn rfl, _, _, _, S.cell n hn rfl, hq⟩
theorem stQ (S : ST w0 w H) (n : Nat) {b : Nat} {q : Qu} {ai aw ag ao : Option Addr} {ci cw cg co : Nat} (hn : H[n]? = some (quI b q ai aw ag ao ci cw cg co)) {Q : Option Addr → Nat → Nat → Option Addr → Nat → Nat → Option Addr → Nat → Nat → Option Addr → Nat → Nat → Int → Prop}
    (hq : Q ai q.it.length ci aw q.wh.length cw ag q.gr.length cg ao q.od.length co q.lim) :
    ∃ (a0 : Option Addr) (l0 c0 : Nat), w.cell? ⟨b, 0, none⟩ = some (.slice a0 l0 c0) ∧ ∃ (a1 : Option Addr) (l1 c1 : Nat), w.cell? ⟨b, 1, none⟩ = some (.slice a1 l1 c1) ∧ ∃ (a2 : Option Addr) (l2 c2 : Nat), w.cell? ⟨b, 2, none⟩ = some (.slice a2 l2 c2) ∧ ∃ (a3 : Option Addr) (l3 c3 : Nat), w.cell? ⟨b, 3, none⟩ = some (.slice a3 l3 c3) ∧
      ∃ n4 : Int, w.cell? ⟨b, 4, none⟩ = some (.int .i64 n4) ∧ Q a0 l0 c0 a1 l1 c1 a2 l2 c2 a3 l3 c3 n4 :=
  ⟨_, _, _, S.cell n hn rfl, _, _, _, S.cell n hn rfl, _, _, _, S.cell n hn rfl, _, _, _, S.cell n hn rfl, _, S.cell n hn rfl, hq⟩
theorem stPlan (S : ST w0 w H) (n : Nat) {b : Nat} {x0 x1 x2 x3 x4 x5 x6 x7 : Value} {a0 a1 a2 a3 a4 a6 : Option Addr} {l0 c0 l1 c1 l2 c2 l3 c3 l4 c4 l6 c6 : Nat} {k5 : Int} {g7 : Bool} {t : TypeId} (hn : H[n]? = some (It.cells b #[x0, x1, x2, x3, x4, x5, x6, x7] t))
    {Q : Option Addr → Nat → Nat → Option Addr → Nat → Nat → Option Addr → Nat → Nat → Option Addr → Nat → Nat → Option Addr → Nat → Nat → Int → Option Addr → Nat → Nat → Bool → World → Prop}
    (hk : ∀ w', ST w0 w' (H.set n (It.cells b #[.slice a0 l0 c0, .slice a1 l1 c1, .slice a2 l2 c2, .slice a3 l3 c3, .slice a4 l4 c4, .int .i64 k5, .slice a6 l6 c6, .bool g7] t)) → Q a0 l0 c0 a1 l1 c1 a2 l2 c2 a3 l3 c3 a4 l4 c4 k5 a6 l6 c6 g7 w') :
    STO ⟨b, 0, none⟩ (.slice a0 l0 c0) (fun w => STO ⟨b, 1, none⟩ (.slice a1 l1 c1) (fun w => STO ⟨b, 2, none⟩ (.slice a2 l2 c2) (fun w => STO ⟨b, 3, none⟩ (.slice a3 l3 c3) (fun w => STO ⟨b, 4, none⟩ (.slice a4 l4 c4) (fun w => STO ⟨b, 5, none⟩ (.int .i64 k5) (fun w => STO ⟨b, 6, none⟩ (.slice a6 l6 c6) (fun w => STO ⟨b, 7, none⟩ (.bool g7) (fun w =>
      ∃ (r0 : Option Addr) (r0l r0c : Nat), w.cell? ⟨b, 0, none⟩ = some (.slice r0 r0l r0c) ∧ ∃ (r1 : Option Addr) (r1l r1c : Nat), w.cell? ⟨b, 1, none⟩ = some (.slice r1 r1l r1c) ∧ ∃ (r2 : Option Addr) (r2l r2c : Nat), w.cell? ⟨b, 2, none⟩ = some (.slice r2 r2l r2c) ∧ ∃ (r3 : Option Addr) (r3l r3c : Nat), w.cell? ⟨b, 3, none⟩ = some (.slice r3 r3l r3c) ∧
      ∃ (r4 : Option Addr) (r4l r4c : Nat), w.cell? ⟨b, 4, none⟩ = some (.slice r4 r4l r4c) ∧ ∃ r5 : Int, w.cell? ⟨b, 5, none⟩ = some (.int .i64 r5) ∧ ∃ (r6 : Option Addr) (r6l r6c : Nat), w.cell? ⟨b, 6, none⟩ = some (.slice r6 r6l r6c) ∧ ∃ r7 : Bool, w.cell? ⟨b, 7, none⟩ = some (.bool r7) ∧
      Q r0 r0l r0c r1 r1l r1c r2 r2l r2c r3 r3l r3c r4 r4l r4c r5 r6 r6l r6c r7 w) w) w) w) w) w) w) w) w := by
  have hlt := (List.getElem?_eq_some_iff.1 hn).1
  refine S.sto8 n hn fun w' S' => ⟨_, _, _, S'.cell n (List.getElem?_set_self hlt) rfl, _, _, _, S'.cell n (List.getElem?_set_self hlt) rfl, _, _, _, S'.cell n (List.getElem?_set_self hlt) rfl, _, _, _, S'.cell n (List.getElem?_set_self hlt) rfl, _, _, _, S'.cell n (List.getElem?_set_self hlt) rfl, _, S'.cell n (List.getElem?_set_self hlt) rfl, _, _, _, S'.cell n (List.getElem?_set_self hlt) rfl, _, S'.cell n (List.getElem?_set_self hlt) rfl, hk w' S'⟩
end
abbrev Tk := Int × Int × ByteArray
def tkC (t : Tk) : List Value := [.int .i64 t.1, .int .i64 t.2.1, .string t.2.2]
abbrev tksL (T : List Tk) : List Value := T.flatMap tkC
theorem tk_at {w : World} {a : Option Addr} {T : List Tk} (hl : Rd w a (tksL T)) {i : Nat} (hi : i < T.length) : ∃ p, a = some p ∧ w.cell? (p.add (i * 3)) = some (.int .i64 T[i].1) ∧ w.cell? ((p.add (i * 3)).add 1) = some (.int .i64 T[i].2.1) ∧ w.cell? ((p.add (i * 3)).add 2) = some (.string T[i].2.2) := by
  have hc : ∀ c : Tk, (tkC c).length = 3 := fun _ => rfl
  obtain ⟨p, hp, h0⟩ := hl (i * 3 + 0) _ (by rw [flat_get hc T i 0 hi (by omega)]; rfl)
  obtain ⟨p1, hp1, h1⟩ := hl (i * 3 + 1) _ (by rw [flat_get hc T i 1 hi (by omega)]; rfl)
  obtain ⟨p2, hp2, h2⟩ := hl (i * 3 + 2) _ (by rw [flat_get hc T i 2 hi (by omega)]; rfl)
  subst hp
  cases hp1
  cases hp2
  exact ⟨p, rfl, h0, by rw [addr_add_add]; exact h1, by rw [addr_add_add]; exact h2⟩
def rpI (b : Nat) (a : Option Addr) (n c i : Nat) (ok : Bool) : It := It.cells b #[.slice a n c, .int .i64 (i : Int), .bool ok] ty.ref11_parser
def seesB (t : Tk) (s : ByteArray) : Bool := decide (t.2.1 ≠ 3) && decide (t.2.2 = s) && decide (t.2.1 ≠ 0)
section
variable {w w0 : World} {H : List It} {b : Nat} {a : Option Addr} {c i : Nat} {ok : Bool} {T : List Tk}
theorem rsees_ok (S : ST w0 w (rpI b a T.length c i ok :: It.rd a (tksL T) :: H)) (hi : i < T.length) (s : ByteArray) : Calls Tryz.prog f.ref11_parser_sees #[.pointer (some ⟨b, 0, none⟩), .string s] w (Ret fun r w' => r = .bool (seesB T[i] s) ∧ Below w.heap.size w w') := by
  apply R.ref11_parser_sees_calls
  unfold R.ref11_parser_sees
  refine S.draw fun w1 B1 S1 => ?_
  obtain ⟨p, hp, h0, h1, h2⟩ := tk_at (show Rd w1 a (tksL T) from S1.get 1 rfl) hi
  subst hp
  refine ⟨_, _, _, S1.cell 0 rfl rfl, _, S1.cell 0 rfl rfl, ⟨by omega, by omega⟩, _, by rw [Int.toNat_natCast]; exact h1, IFB_ne (fun h3 => ⟨_, _, _, S1.cell 0 rfl rfl, _, S1.cell 0 rfl rfl, ⟨by omega, by omega⟩, _, by rw [Int.toNat_natCast]; exact h2, ?_⟩) (fun h3 => ⟨?_, B1⟩)⟩
  · rw [bytesEq_iff]
    refine IFB_dec (fun he => ⟨_, _, _, S1.cell 0 rfl rfl, _, S1.cell 0 rfl rfl, ⟨by omega, by omega⟩, _, by rw [Int.toNat_natCast]; exact h1, ?_, B1⟩) (fun he => ⟨?_, B1⟩)
    · rw [bne_dec, seesB, decide_eq_true h3, decide_eq_true he]; rfl
    · rw [seesB, decide_eq_true h3, decide_eq_false he]; rfl
  · rw [seesB, h3]; rfl
theorem rtakes_ok (S : ST w0 w (rpI b a T.length c i ok :: It.rd a (tksL T) :: H)) (hi : i < T.length) (hT : T.length ≤ 1000000) (s : ByteArray) : Calls Tryz.prog f.ref11_parser_takes #[.pointer (some ⟨b, 0, none⟩), .string s] w (Ret fun r w' => r = .bool (seesB T[i] s && ok) ∧ ST w0 w' (rpI b a T.length c (if (seesB T[i] s && ok) = true then i + 1 else i) ok :: It.rd a (tksL T) :: H)) := by
  apply R.ref11_parser_takes_calls
  unfold R.ref11_parser_takes
  refine S.call (rsees_ok S hi s) fun w1 _ S1 => ⟨_, rfl, fun st w2 => st = [.bool (seesB T[i] s && ok)] ∧ ST w0 w2 (rpI b a T.length c i ok :: It.rd a (tksL T) :: H), IFB_of (fun h => ⟨_, S1.cell 0 rfl rfl, by rw [h]; rfl, S1⟩) (fun h => ⟨by rw [h]; rfl, S1⟩), ?_⟩
  rintro t w2 ⟨ht, S2⟩
  obtain rfl : t = (seesB T[i] s && ok) := by simpa using ht
  refine IFB_of (fun h => ?_) (fun h => ?_)
  · obtain ⟨h1, h2⟩ := Bool.and_eq_true_iff.1 h
    rw [h1]
    refine ⟨_, S2.cell 0 rfl rfl, ?_⟩
    rw [wrap_succ (by omega)]
    subst h2
    exact PTR_i (S2.sto 0 rfl (i := 1) (cs' := #[.slice a T.length c, .int .i64 ((i + 1 : Nat) : Int), .bool true]) (by simp) rfl fun w3 S3 => IFB_true ⟨_, S3.cell 0 rfl rfl, rfl, S3⟩)
  · rw [h, if_neg (by decide)]
    refine IFB_of (fun h1 => ⟨_, S2.cell 0 rfl rfl, ?_, S2⟩) (fun h1 => ⟨rfl, S2⟩)
    rw [h1, Bool.true_and] at h
    rw [h]
theorem rtakesN (S : ST w0 w (rpI b a T.length c i ok :: It.rd a (tksL T) :: H)) (hi : i < T.length) (hT : T.length ≤ 1000000) {s : ByteArray} (h : seesB T[i] s = false) {Q : Ending → World → Prop} (hk : ∀ w', ST w0 w' (rpI b a T.length c i ok :: It.rd a (tksL T) :: H) → Q (.returned (.bool false)) w') : Calls Tryz.prog f.ref11_parser_takes #[.pointer (some ⟨b, 0, none⟩), .string s] w Q := by
  refine (rtakes_ok S hi hT s).mono ?_
  rintro _ w' ⟨_, rfl, rfl, S'⟩
  rw [h, Bool.false_and, if_neg (by decide)] at S'
  rw [h, Bool.false_and]
  exact hk w' S'
theorem rtakesY (S : ST w0 w (rpI b a T.length c i true :: It.rd a (tksL T) :: H)) (hi : i < T.length) (hT : T.length ≤ 1000000) {s : ByteArray} (h : seesB T[i] s = true) {Q : Ending → World → Prop} (hk : ∀ w', ST w0 w' (rpI b a T.length c (i + 1) true :: It.rd a (tksL T) :: H) → Q (.returned (.bool true)) w') : Calls Tryz.prog f.ref11_parser_takes #[.pointer (some ⟨b, 0, none⟩), .string s] w Q := by
  refine (rtakes_ok S hi hT s).mono ?_
  rintro _ w' ⟨_, rfl, rfl, S'⟩
  rw [h, if_pos (by decide)] at S'
  rw [h]
  exact hk w' S'
theorem rneedsY (S : ST w0 w (rpI b a T.length c i true :: It.rd a (tksL T) :: H)) (hi : i < T.length) (hT : T.length ≤ 1000000) {s : ByteArray} (h : seesB T[i] s = true) {Q : Ending → World → Prop} (hk : ∀ w', ST w0 w' (rpI b a T.length c (i + 1) true :: It.rd a (tksL T) :: H) → Q (.returned (.tuple #[])) w') : Calls Tryz.prog f.ref11_parser_needs #[.pointer (some ⟨b, 0, none⟩), .string s] w Q := by
  have hh : Calls Tryz.prog f.ref11_parser_needs #[.pointer (some ⟨b, 0, none⟩), .string s] w (Ret fun v w' => v = .tuple #[] ∧ ST w0 w' (rpI b a T.length c (i + 1) true :: It.rd a (tksL T) :: H)) := by
    apply R.ref11_parser_needs_calls
    unfold R.ref11_parser_needs
    exact rtakesY S hi hT h fun w1 S1 => ⟨_, rfl, _, S1.cell 0 rfl rfl, IFB_true (PTR_i (S1.sto 0 rfl (i := 2) (cs' := #[.slice a T.length c, .int .i64 ((i + 1 : Nat) : Int), .bool true]) (by simp) rfl fun w2 S2 => ⟨rfl, S2⟩))⟩
  refine hh.mono ?_
  · rintro _ w' ⟨_, rfl, rfl, S'⟩
    exact hk w' S'
theorem rnameY (S : ST w0 w (rpI b a T.length c i true :: It.rd a (tksL T) :: H)) (hi : i < T.length) (hT : T.length ≤ 1000000) (h1 : T[i].2.1 = 1) (h2 : isKeyB T[i].2.2 = false) {Q : Ending → World → Prop} (hk : ∀ w', ST w0 w' (rpI b a T.length c (i + 1) true :: It.rd a (tksL T) :: H) → Q (.returned (.string T[i].2.2)) w') : Calls Tryz.prog f.ref11_parser_name #[.pointer (some ⟨b, 0, none⟩)] w Q := by
  have hh : Calls Tryz.prog f.ref11_parser_name #[.pointer (some ⟨b, 0, none⟩)] w (Ret fun v w' => v = .string T[i].2.2 ∧ ST w0 w' (rpI b a T.length c (i + 1) true :: It.rd a (tksL T) :: H)) := by
    apply R.ref11_parser_name_calls
    unfold R.ref11_parser_name
    refine S.draw fun w1 _ S1 => ?_
    obtain ⟨p, hp, c0, c1, c2⟩ := tk_at (show Rd w1 a (tksL T) from S1.get 1 rfl) hi
    subst hp
    refine ⟨_, _, _, S1.cell 0 rfl rfl, _, S1.cell 0 rfl rfl, ⟨by omega, by omega⟩, ?_⟩
    rw [Int.toNat_natCast]
    refine ⟨_, c0, _, c1, _, c2, S1.newB fun b10 w2 _ B2 S2 => ?_⟩
    have hR := (show Rd w1 (some p) (tksL T) from S1.get 1 rfl).grown B2
    obtain ⟨_, hp, d0, d1, d2⟩ := tk_at hR hi
    cases hp
    refine ⟨⟨d0, d1, d2⟩, S2.cell 1 rfl rfl, S2.cell 1 rfl rfl, S2.sto3 0 rfl fun w5 S5 => ⟨_, S5.cell 0 rfl rfl, S5.call (ref11_IsKey_ok _) fun w6 _ S6 => ⟨_, rfl, _, S6.cell 1 rfl rfl, IFB_not (IFB_true ⟨_, S6.cell 0 rfl rfl, IFB_ne (fun h => absurd h1 h) (fun _ => IFB_no h2 ⟨_, S6.cell 1 rfl rfl, ?_⟩)⟩)⟩⟩⟩
    rw [wrap_succ (by omega)]
    exact PTR_i (S6.sto 1 rfl (i := 1) (cs' := #[.slice (some p) T.length c, .int .i64 ((i + 1 : Nat) : Int), .bool true]) (by simp) rfl fun w7 S7 => ⟨_, S7.cell 0 rfl rfl, rfl, S7.drop 1⟩)
  refine hh.mono ?_
  · rintro _ w' ⟨_, rfl, rfl, S'⟩
    exact hk w' S'
end
section
variable {w0 w : World} {H : List It}
theorem stEx (S : ST w0 w H) (n : Nat) {b : Nat} {x0 x1 x2 x3 x4 x5 : Value} {t0 t2 t3 : Int} {t1 t4 : ByteArray} {a5 : Option Addr} {l5 c5 : Nat} {t : TypeId} (hn : H[n]? = some (It.cells b #[x0, x1, x2, x3, x4, x5] t)) {Q : Int → ByteArray → Int → Int → ByteArray → Option Addr → Nat → Nat → World → Prop}
    (hk : ∀ w', ST w0 w' (H.set n (It.cells b #[.int .i64 t0, .string t1, .int .i64 t2, .int .i64 t3, .string t4, .slice a5 l5 c5] t)) → Q t0 t1 t2 t3 t4 a5 l5 c5 w') :
    STO ⟨b, 0, none⟩ (.int .i64 t0) (fun w => STO ⟨b, 1, none⟩ (.string t1) (fun w => STO ⟨b, 2, none⟩ (.int .i64 t2) (fun w => STO ⟨b, 3, none⟩ (.int .i64 t3) (fun w => STO ⟨b, 4, none⟩ (.string t4) (fun w => STO ⟨b, 5, none⟩ (.slice a5 l5 c5) (fun w =>
      ∃ r0 : Int, w.cell? ⟨b, 0, none⟩ = some (.int .i64 r0) ∧ ∃ r1 : ByteArray, w.cell? ⟨b, 1, none⟩ = some (.string r1) ∧ ∃ r2 : Int, w.cell? ⟨b, 2, none⟩ = some (.int .i64 r2) ∧ ∃ r3 : Int, w.cell? ⟨b, 3, none⟩ = some (.int .i64 r3) ∧ ∃ r4 : ByteArray, w.cell? ⟨b, 4, none⟩ = some (.string r4) ∧
      ∃ (r5 : Option Addr) (r5l r5c : Nat), w.cell? ⟨b, 5, none⟩ = some (.slice r5 r5l r5c) ∧ Q r0 r1 r2 r3 r4 r5 r5l r5c w) w) w) w) w) w) w := by
  have hlt := (List.getElem?_eq_some_iff.1 hn).1
  have g : ∀ {x : It}, (H.set n x)[n]? = some x := List.getElem?_set_self hlt
  refine S.sto n hn (cs' := #[.int .i64 t0, x1, x2, x3, x4, x5]) (by simp) rfl fun w1 S1 => S1.sto n g (cs' := #[.int .i64 t0, .string t1, x2, x3, x4, x5]) (by simp) rfl fun w2 S2 => ?_
  rw [List.set_set] at S2
  refine S2.sto n g (cs' := #[.int .i64 t0, .string t1, .int .i64 t2, x3, x4, x5]) (by simp) rfl fun w3 S3 => ?_
  rw [List.set_set] at S3
  refine S3.sto n g (cs' := #[.int .i64 t0, .string t1, .int .i64 t2, .int .i64 t3, x4, x5]) (by simp) rfl fun w4 S4 => ?_
  rw [List.set_set] at S4
  refine S4.sto n g (cs' := #[.int .i64 t0, .string t1, .int .i64 t2, .int .i64 t3, .string t4, x5]) (by simp) rfl fun w5 S5 => ?_
  rw [List.set_set] at S5
  refine S5.sto n g (cs' := #[.int .i64 t0, .string t1, .int .i64 t2, .int .i64 t3, .string t4, .slice a5 l5 c5]) (by simp) rfl fun w6 S6 => ?_
  rw [List.set_set] at S6
  exact ⟨_, S6.cell n g rfl, _, S6.cell n g rfl, _, S6.cell n g rfl, _, S6.cell n g rfl, _, S6.cell n g rfl, _, _, _, S6.cell n g rfl, hk w6 S6⟩
end
def colX (s : ByteArray) : Ex := .mk 1 s V0 []
def headW : List ByteArray := [⟨#[110, 117, 108, 108]⟩, ⟨#[116, 114, 117, 101]⟩, ⟨#[102, 97, 108, 115, 101]⟩, ⟨#[108, 101, 110]⟩, ⟨#[40]⟩, ⟨#[45]⟩, ⟨#[110, 111, 116]⟩, ⟨#[99, 111, 117, 110, 116]⟩, ⟨#[115, 117, 109]⟩, ⟨#[109, 105, 110]⟩, ⟨#[109, 97, 120]⟩]
def tailW : List ByteArray := [⟨#[42]⟩, ⟨#[47]⟩, ⟨#[37]⟩, ⟨#[43]⟩, ⟨#[45]⟩, ⟨#[61]⟩, ⟨#[60]⟩, ⟨#[60, 61]⟩, ⟨#[105, 115]⟩, ⟨#[97, 110, 100]⟩, ⟨#[111, 114]⟩]
structure Lone (T : List Tk) (i : Nat) : Prop where
  lt : i + 1 < T.length
  nm : ∀ h : i < T.length, T[i].2.1 = 1 ∧ isKeyB T[i].2.2 = false
  hd : ∀ h : i < T.length, ∀ s ∈ headW, seesB T[i] s = false
  tl : ∀ s ∈ tailW, seesB T[i + 1] s = false
abbrev rpL (b : Nat) (a : Option Addr) (c i : Nat) (T : List Tk) (H : List It) : List It := rpI b a T.length c i true :: It.rd a (tksL T) :: H
def NameCall (f : FuncId) : Prop := ∀ {w0 w : World} {H : List It} {b : Nat} {a : Option Addr} {c i : Nat} {T : List Tk}, T.length ≤ 1000000 → (h : Lone T i) → ST w0 w (rpL b a c i T H) →
  Calls Tryz.prog f #[.pointer (some ⟨b, 0, none⟩)] w (Ret fun r w' => r = .agg ⟨exHead (colX (T[i]'(by have := h.lt; omega)).2.2) none 0⟩ ∧ ST w0 w' (rpL b a c (i + 1) T H))
theorem rword_ok {w0 w : World} {H : List It} {b : Nat} {a : Option Addr} {c i : Nat} {T : List Tk} (hT : T.length ≤ 1000000) (h : Lone T i) (S : ST w0 w (rpL b a c i T H)) :
    Calls Tryz.prog f.ref11_parser_word #[.pointer (some ⟨b, 0, none⟩)] w (Ret fun r w' => r = .tuple #[.agg #[.int .i64 0, .string E0, .int .i64 0, .int .i64 0, .string E0, .slice none 0 0], .bool false] ∧ ST w0 w' (rpL b a c i T H)) := by
  have hi : i < T.length := by have := h.lt; omega
  apply R.ref11_parser_word_calls
  unfold R.ref11_parser_word
  refine S.newB fun b2 w1 _ _ S1 => S1.newB fun b3 w2 _ _ S2 => ?_
  obtain ⟨K, hK⟩ : ∃ K, K = [It.cells b3 #[.string ⟨#[110, 117, 108, 108]⟩, .string ⟨#[116, 114, 117, 101]⟩, .string ⟨#[102, 97, 108, 115, 101]⟩] ty.string, It.cells b2 #[.int .i64 0, .string E0, .int .i64 0, .int .i64 0, .string E0, .slice none 0 0] ty.api_Expr] ++ H := ⟨_, rfl⟩
  have k2 : K[1]? = some (It.cells b2 #[.int .i64 0, .string E0, .int .i64 0, .int .i64 0, .string E0, .slice none 0 0] ty.api_Expr) := by rw [hK]; rfl
  have k3 : K[0]? = some (It.cells b3 #[.string ⟨#[110, 117, 108, 108]⟩, .string ⟨#[116, 114, 117, 101]⟩, .string ⟨#[102, 97, 108, 115, 101]⟩] ty.string) := by rw [hK]; rfl
  have S3 : ST w0 w2 (rpL b a c i T K) := by rw [hK]; exact (S2.pull 3 rfl).pull 3 rfl
  refine forUp 3 (fun j w => ST w0 w (rpL b a c i T K)) (by omega) S3 fun I M j w3 hj S4 next => ?_
  refine IFB_dec (fun hlt => ⟨⟨by omega, hlt⟩, ?_⟩) (fun hge => stEx S4 3 k2 fun w9 S9 => ⟨rfl, ?_⟩)
  · have hj3 : j < 3 := by omega
    obtain ⟨s, hs, hm⟩ : ∃ s : ByteArray, (#[Value.string ⟨#[110, 117, 108, 108]⟩, .string ⟨#[116, 114, 117, 101]⟩, .string ⟨#[102, 97, 108, 115, 101]⟩] : Array Value)[j]? = some (.string s) ∧ s ∈ headW := by
      have : j = 0 ∨ j = 1 ∨ j = 2 := by omega
      rcases this with rfl | rfl | rfl
      · exact ⟨_, rfl, by simp [headW]⟩
      · exact ⟨_, rfl, by simp [headW]⟩
      · exact ⟨_, rfl, by simp [headW]⟩
    refine ⟨s, ?_, rtakesN S4 hi hT (h.hd hi s hm) fun w10 S10 => ⟨_, rfl, IFB_false (next _ hj3 S10)⟩⟩
    rw [Int.toNat_natCast, Nat.mul_one, addr_add_blk, Nat.zero_add]
    exact S4.cell 2 k3 hs
  · rw [hK] at S9
    exact (((S9.pull 2 rfl).drop 1).pull 2 rfl).drop 1
theorem rpL_in {w0 w : World} {H : List It} {b : Nat} {a : Option Addr} {c i : Nat} {T : List Tk} {x : It} (S : ST w0 w (x :: rpL b a c i T H)) : ST w0 w (rpL b a c i T (x :: H)) := (S.pull 2 rfl).pull 2 rfl
theorem rpL_out {w0 w : World} {H : List It} {b : Nat} {a : Option Addr} {c i : Nat} {T : List Tk} {x : It} (S : ST w0 w (rpL b a c i T (x :: H))) : ST w0 w (rpL b a c i T H) := (S.pull 2 rfl).drop 1
theorem ratom_ok : NameCall f.ref11_parser_atom := by
  intro w0 w H b a c i T hT h S
  have hi : i < T.length := by have := h.lt; omega
  obtain ⟨h1, h2⟩ := h.nm hi
  apply R.ref11_parser_atom_calls
  unfold R.ref11_parser_atom
  refine S.newB fun b2 w1 _ _ S1 => (rword_ok hT h (rpL_in S1)).mono ?_
  rintro _ w2 ⟨_, rfl, rfl, S2⟩
  refine ⟨_, _, _, _, _, _, _, _, _, rfl, S2.lit6 fun b11 w9 _ S9 => IFB_false ((rpL_in S9).draw fun w16 _ S16 => ?_)⟩
  obtain ⟨p, hp, c0, c1, c2⟩ := tk_at (show Rd w16 a (tksL T) from S16.get 1 rfl) hi
  subst hp
  refine ⟨_, _, _, S16.cell 0 rfl rfl, _, S16.cell 0 rfl rfl, ⟨by omega, by omega⟩, ?_⟩
  rw [Int.toNat_natCast]
  refine ⟨_, c0, _, c1, _, c2, S16.newB fun b32 w17 _ B17 S17 => ?_⟩
  obtain ⟨_, hp, d0, d1, d2⟩ := tk_at ((show Rd w16 (some p) (tksL T) from S16.get 1 rfl).grown B17) hi
  cases hp
  refine ⟨⟨d0, d1, d2⟩, S17.cell 1 rfl rfl, S17.cell 1 rfl rfl, S17.sto3 0 rfl fun w20 S20 => ?_⟩
  obtain ⟨K, hK⟩ : ∃ K, K = It.cells b32 #[.int .i64 T[i].1, .int .i64 T[i].2.1, .string T[i].2.2] ty.ref11_Token :: It.cells b11 #[.int .i64 0, .string E0, .int .i64 0, .int .i64 0, .string E0, .slice none 0 0] ty.api_Expr :: It.cells b2 #[.int .i64 0, .string E0, .int .i64 0, .int .i64 0, .string E0, .slice none 0 0] ty.api_Expr :: H := ⟨_, rfl⟩
  have S20 : ST w0 w20 (rpL b (some p) c i T K) := by rw [hK]; exact rpL_in S20
  have k0 : K[0]? = some (It.cells b32 #[.int .i64 T[i].1, .int .i64 T[i].2.1, .string T[i].2.2] ty.ref11_Token) := by rw [hK]; rfl
  have k2 : K[2]? = some (It.cells b2 #[.int .i64 0, .string E0, .int .i64 0, .int .i64 0, .string E0, .slice none 0 0] ty.api_Expr) := by rw [hK]; rfl
  refine ⟨fun st w => st = [.bool false] ∧ ST w0 w (rpL b (some p) c i T K), ⟨_, S20.cell 0 rfl rfl, IFB_true ⟨_, S20.cell 2 k0 rfl, by rw [h1]; rfl, S20⟩⟩, ?_⟩
  rintro _ w21 ⟨hst, S21⟩
  cases hst
  refine IFB_false ⟨fun st w => st = [.bool false] ∧ ST w0 w (rpL b (some p) c i T K), ⟨_, S21.cell 0 rfl rfl, IFB_true ⟨_, S21.cell 2 k0 rfl, by rw [h1]; rfl, S21⟩⟩, ?_⟩
  rintro _ w30 ⟨hst, S30⟩
  cases hst
  refine IFB_false (rtakesN S30 hi hT (h.hd hi _ (by simp [headW])) fun w50 S50 => ⟨_, rfl, fun st w => st = [.bool false] ∧ ST w0 w (rpL b (some p) c i T K), ⟨_, S50.cell 0 rfl rfl, IFB_true (S50.call (rsees_ok S50 hi _) fun w51 _ S51 => ⟨_, rfl, by rw [h.hd hi _ (by simp [headW])], S51⟩)⟩, ?_⟩)
  rintro _ w52 ⟨hst, S52⟩
  cases hst
  refine ⟨fun st w => st = [.bool false] ∧ ST w0 w (rpL b (some p) c i T K), IFB_false ⟨rfl, S52⟩, ?_⟩
  rintro _ w53 ⟨hst, S53⟩
  cases hst
  refine IFB_false (rnameY S53 hi hT h1 h2 fun w77 S77 => ⟨_, rfl, stEx S77 4 k2 fun w83 S83 => ⟨rfl, ?_⟩⟩)
  rw [hK] at S83
  exact rpL_out (rpL_out (rpL_out S83))
theorem rminus_ok : NameCall f.ref11_parser_minus := by
  intro w0 w H b a c i T hT h S
  have hi : i < T.length := by have := h.lt; omega
  apply R.ref11_parser_minus_calls
  unfold R.ref11_parser_minus
  refine S.newB fun b2 w1 _ _ S1 => rtakesN (rpL_in S1) hi hT (h.hd hi _ (by simp [headW])) fun w2 S2 => ⟨_, rfl, IFB_not (IFB_false ((ratom_ok hT h S2).mono ?_))⟩
  rintro _ w3 ⟨_, rfl, rfl, S3⟩
  exact ⟨_, _, _, _, _, _, _, _, rfl, stEx S3 2 rfl fun w9 S9 => ⟨rfl, rpL_out S9⟩⟩
abbrev lvl (b10 b2 : Nat) (x : Ex) (H : List It) : List It := exI b10 (exHead x none 0) :: It.cells b2 #[.int .i64 0, .string E0, .int .i64 0, .int .i64 0, .string E0, .slice none 0 0] ty.api_Expr :: H
theorem rprod_ok : NameCall f.ref11_parser_prod := by
  intro w0 w H b a c i T hT h S
  have hi : i < T.length := by have := h.lt; omega
  apply R.ref11_parser_prod_calls
  unfold R.ref11_parser_prod
  refine S.newB fun b2 w1 _ _ S1 => (rminus_ok hT h (rpL_in S1)).mono ?_
  rintro _ w2 ⟨_, rfl, rfl, S2⟩
  refine ⟨_, _, _, _, _, _, _, _, rfl, S2.lit6 fun b10 w9 _ S9 => ?_⟩
  have S9 : ST w0 w9 (rpL b a c (i + 1) T (lvl b10 b2 (colX T[i].2.2) H)) := rpL_in S9
  refine ⟨fun _ w => ST w0 w (rpL b a c (i + 1) T (lvl b10 b2 (colX T[i].2.2) H)), fun _ _ => 0, S9, fun w10 S10 => ⟨_, S10.cell 0 rfl rfl, IFB_true (rtakesN S10 h.lt hT (h.tl _ (by simp [tailW])) fun w17 S17 => ⟨_, rfl, fun st w => st = [.bool false] ∧ ST w0 w (rpL b a c (i + 1) T (lvl b10 b2 (colX T[i].2.2) H)), IFB_not (IFB_false (rtakesN S17 h.lt hT (h.tl _ (by simp [tailW])) fun w18 S18 => ⟨_, rfl, rfl, S18⟩)), ?_⟩)⟩⟩
  rintro _ w19 ⟨hst, S19⟩
  cases hst
  refine ⟨fun st w => st = [.bool false] ∧ ST w0 w (rpL b a c (i + 1) T (lvl b10 b2 (colX T[i].2.2) H)), IFB_not (IFB_false (IFB_not (IFB_false (rtakesN S19 h.lt hT (h.tl _ (by simp [tailW])) fun w18 S18 => ⟨_, rfl, rfl, S18⟩)))), ?_⟩
  rintro _ w21 ⟨hst, S21⟩
  cases hst
  exact IFB_false (IFB_false (IFB_false (stX S21 2 rfl (stEx S21 3 rfl fun w54 S54 => ⟨rfl, rpL_out (rpL_out S54)⟩))))
theorem rsum_ok : NameCall f.ref11_parser_sum := by
  intro w0 w H b a c i T hT h S
  have hi : i < T.length := by have := h.lt; omega
  apply R.ref11_parser_sum_calls
  unfold R.ref11_parser_sum
  refine S.newB fun b2 w1 _ _ S1 => (rprod_ok hT h (rpL_in S1)).mono ?_
  rintro _ w2 ⟨_, rfl, rfl, S2⟩
  refine ⟨_, _, _, _, _, _, _, _, rfl, S2.lit6 fun b10 w9 _ S9 => ?_⟩
  have S9 : ST w0 w9 (rpL b a c (i + 1) T (lvl b10 b2 (colX T[i].2.2) H)) := rpL_in S9
  refine ⟨fun _ w => ST w0 w (rpL b a c (i + 1) T (lvl b10 b2 (colX T[i].2.2) H)), fun _ _ => 0, S9, fun w10 S10 => ⟨_, S10.cell 0 rfl rfl, IFB_true (rtakesN S10 h.lt hT (h.tl _ (by simp [tailW])) fun w17 S17 => ⟨_, rfl, fun st w => st = [.bool false] ∧ ST w0 w (rpL b a c (i + 1) T (lvl b10 b2 (colX T[i].2.2) H)), IFB_not (IFB_false (rtakesN S17 h.lt hT (h.tl _ (by simp [tailW])) fun w18 S18 => ⟨_, rfl, rfl, S18⟩)), ?_⟩)⟩⟩
  rintro _ w19 ⟨hst, S19⟩
  cases hst
  exact IFB_false (IFB_false (stX S19 2 rfl (stEx S19 3 rfl fun w54 S54 => ⟨rfl, rpL_out (rpL_out S54)⟩)))
theorem rrel_ok : NameCall f.ref11_parser_rel := by
  intro w0 w H b a c i T hT h S
  have hi : i < T.length := by have := h.lt; omega
  apply R.ref11_parser_rel_calls
  unfold R.ref11_parser_rel
  refine S.newB fun b2 w1 _ _ S1 => (rsum_ok hT h (rpL_in S1)).mono ?_
  rintro _ w2 ⟨_, rfl, rfl, S2⟩
  refine ⟨_, _, _, _, _, _, _, _, rfl, S2.lit6 fun b10 w9 _ S9 => ?_⟩
  have S9 : ST w0 w9 (rpL b a c (i + 1) T (lvl b10 b2 (colX T[i].2.2) H)) := rpL_in S9
  refine rtakesN S9 h.lt hT (h.tl _ (by simp [tailW])) fun w17 S17 => ⟨_, rfl, fun st w => st = [.bool false] ∧ ST w0 w (rpL b a c (i + 1) T (lvl b10 b2 (colX T[i].2.2) H)), IFB_not (IFB_false (rtakesN S17 h.lt hT (h.tl _ (by simp [tailW])) fun w18 S18 => ⟨_, rfl, rfl, S18⟩)), ?_⟩
  rintro _ w19 ⟨hst, S19⟩
  cases hst
  refine ⟨fun st w => st = [.bool false] ∧ ST w0 w (rpL b a c (i + 1) T (lvl b10 b2 (colX T[i].2.2) H)), IFB_not (IFB_false (IFB_not (IFB_false (rtakesN S19 h.lt hT (h.tl _ (by simp [tailW])) fun w18 S18 => ⟨_, rfl, rfl, S18⟩)))), ?_⟩
  rintro _ w21 ⟨hst, S21⟩
  cases hst
  exact IFB_false (IFB_false (IFB_false (stX S21 2 rfl (stEx S21 3 rfl fun w54 S54 => ⟨rfl, rpL_out (rpL_out S54)⟩))))
theorem ris_ok : NameCall f.ref11_parser_is := by
  intro w0 w H b a c i T hT h S
  have hi : i < T.length := by have := h.lt; omega
  apply R.ref11_parser_is_calls
  unfold R.ref11_parser_is
  refine S.newB fun b2 w1 _ _ S1 => (rrel_ok hT h (rpL_in S1)).mono ?_
  rintro _ w2 ⟨_, rfl, rfl, S2⟩
  refine ⟨_, _, _, _, _, _, _, _, rfl, S2.lit6 fun b10 w9 _ S9 => ?_⟩
  have S9 : ST w0 w9 (rpL b a c (i + 1) T (lvl b10 b2 (colX T[i].2.2) H)) := rpL_in S9
  exact rtakesN S9 h.lt hT (h.tl _ (by simp [tailW])) fun w17 S17 => ⟨_, rfl, IFB_false (stX S17 2 rfl (stEx S17 3 rfl fun w54 S54 => ⟨rfl, rpL_out (rpL_out S54)⟩))⟩
theorem rnot_ok : NameCall f.ref11_parser_not := by
  intro w0 w H b a c i T hT h S
  have hi : i < T.length := by have := h.lt; omega
  apply R.ref11_parser_not_calls
  unfold R.ref11_parser_not
  refine S.newB fun b2 w1 _ _ S1 => rtakesN (rpL_in S1) hi hT (h.hd hi _ (by simp [headW])) fun w2 S2 => ⟨_, rfl, IFB_false ((ris_ok hT h S2).mono ?_)⟩
  rintro _ w3 ⟨_, rfl, rfl, S3⟩
  exact ⟨_, _, _, _, _, _, _, _, rfl, stEx S3 2 rfl fun w9 S9 => ⟨rfl, rpL_out S9⟩⟩
theorem rand_ok : NameCall f.ref11_parser_and := by
  intro w0 w H b a c i T hT h S
  have hi : i < T.length := by have := h.lt; omega
  apply R.ref11_parser_and_calls
  unfold R.ref11_parser_and
  refine S.newB fun b2 w1 _ _ S1 => (rnot_ok hT h (rpL_in S1)).mono ?_
  rintro _ w2 ⟨_, rfl, rfl, S2⟩
  refine ⟨_, _, _, _, _, _, _, _, rfl, S2.lit6 fun b10 w9 _ S9 => ?_⟩
  have S9 : ST w0 w9 (rpL b a c (i + 1) T (lvl b10 b2 (colX T[i].2.2) H)) := rpL_in S9
  refine rtakesN S9 h.lt hT (h.tl _ (by simp [tailW])) fun w17 S17 => ⟨_, rfl, fun st w => st = [.bool false] ∧ ST w0 w (rpL b a c (i + 1) T (lvl b10 b2 (colX T[i].2.2) H)), fun _ _ => 0, ⟨rfl, S17⟩, ?_⟩
  rintro _ w19 ⟨hst, S19⟩
  cases hst
  exact IFB_false (stX S19 2 rfl (stEx S19 3 rfl fun w54 S54 => ⟨rfl, rpL_out (rpL_out S54)⟩))
theorem ror_ok : NameCall f.ref11_parser_or := by
  intro w0 w H b a c i T hT h S
  have hi : i < T.length := by have := h.lt; omega
  apply R.ref11_parser_or_calls
  unfold R.ref11_parser_or
  refine S.newB fun b2 w1 _ _ S1 => (rand_ok hT h (rpL_in S1)).mono ?_
  rintro _ w2 ⟨_, rfl, rfl, S2⟩
  refine ⟨_, _, _, _, _, _, _, _, rfl, S2.lit6 fun b10 w9 _ S9 => ?_⟩
  have S9 : ST w0 w9 (rpL b a c (i + 1) T (lvl b10 b2 (colX T[i].2.2) H)) := rpL_in S9
  refine rtakesN S9 h.lt hT (h.tl _ (by simp [tailW])) fun w17 S17 => ⟨_, rfl, fun st w => st = [.bool false] ∧ ST w0 w (rpL b a c (i + 1) T (lvl b10 b2 (colX T[i].2.2) H)), fun _ _ => 0, ⟨rfl, S17⟩, ?_⟩
  rintro _ w19 ⟨hst, S19⟩
  cases hst
  exact IFB_false (stX S19 2 rfl (stEx S19 3 rfl fun w54 S54 => ⟨rfl, rpL_out (rpL_out S54)⟩))
end Go.Proofs.YtbpdfpfgijhokaaGreatDoor
namespace Go.Proofs.YtbpdfpfgijhokaaGreatDoor
set_option maxRecDepth 100000
open Go.Dn Go.Proofs
open Go.RowKit (Below)
set_option linter.unusedVariables false
/-! ### plain -/
def isLet (c : UInt8) : Bool := decide (97 ≤ c.toNat ∧ c.toNat ≤ 122)
def isDig (c : UInt8) : Bool := decide (48 ≤ c.toNat ∧ c.toNat ≤ 57)
def wordCh (c : UInt8) : Bool := isLet c || isDig c || decide (c.toNat = 95)
def runN (p : UInt8 → Bool) : List UInt8 → Nat
  | [] => 0
  | c :: r => if p c then runN p r + 1 else 0
def quoteN : List UInt8 → Nat
  | [] => 0
  | c :: r => if c.toNat ≠ 39 then (if quoteN r = 0 then 0 else quoteN r + 1) else
    match r with
    | [] => 1
    | d :: r' => if d.toNat ≠ 39 then 1 else if quoteN r' = 0 then 0 else quoteN r' + 2
def signCh (c : UInt8) : Bool := [40, 41, 44, 43, 45, 42, 47, 37, 61, 60].contains c.toNat
def lenT : List UInt8 → Nat × Int
  | [] => (0, 0)
  | c :: r => if isLet c then (runN wordCh r + 1, 1) else if isDig c then (runN isDig r + 1, 2) else
    if c.toNat = 39 then (if quoteN r = 0 then (0, 0) else (quoteN r + 1, 3)) else
    if c.toNat = 60 ∧ 1 ≤ r.length ∧ (r.getD 0 0).toNat = 61 then (2, 4) else if signCh c then (1, 4) else (0, 0)
def toksF : Nat → List UInt8 → Nat → Except Int (List Tk)
  | 0, _, _ => .ok []
  | f + 1, l, at_ => match l with
    | [] => .ok [((at_ : Int), 0, E0)]
    | c :: r => if c.toNat = 32 ∨ c.toNat = 10 then toksF f r (at_ + 1) else
      if (lenT (c :: r)).1 = 0 then .error at_ else
      match toksF f ((c :: r).drop (lenT (c :: r)).1) (at_ + (lenT (c :: r)).1) with
      | .error e => .error e
      | .ok T => .ok (((at_ : Int), (lenT (c :: r)).2, sof ((c :: r).take (lenT (c :: r)).1)) :: T)
theorem runN_le (p : UInt8 → Bool) : ∀ l, runN p l ≤ l.length
  | [] => Nat.le_refl _
  | c :: r => by have := runN_le p r; simp only [runN, List.length_cons]; split <;> omega
theorem runN_at {p : UInt8 → Bool} : ∀ {l : List UInt8} {n : Nat}, n ≤ l.length → (∀ c ∈ l.take n, p c = true) → (∀ h : n < l.length, p l[n] = false) → runN p l = n
  | [], n, hn, _, _ => by simp at hn; simp [runN, hn]
  | c :: r, 0, _, _, h => by
    have := h (by simp)
    simp only [List.getElem_cons_zero] at this
    simp [runN, this]
  | c :: r, n + 1, hn, h1, h2 => by
    have hc := h1 c (by simp)
    simp only [runN, hc, if_true]
    rw [runN_at (l := r) (n := n) (by simpa using hn) (fun d hd => h1 d (by simp [hd])) fun h => by have := h2 (by simpa using h); simpa using this]
theorem quoteN_other {c : UInt8} (h : c.toNat ≠ 39) (r : List UInt8) : quoteN (c :: r) = if quoteN r = 0 then 0 else quoteN r + 1 := by
  cases r with
  | nil => simp [quoteN, h]
  | cons d r => rw [quoteN, if_pos h]
theorem quoteN_end {c : UInt8} (h : c.toNat = 39) : quoteN [c] = 1 := by rw [quoteN, if_neg (by omega)]
theorem quoteN_one {c d : UInt8} (h : c.toNat = 39) (h2 : d.toNat ≠ 39) (r : List UInt8) : quoteN (c :: d :: r) = 1 := by rw [quoteN, if_neg (by omega)]; exact if_pos h2
theorem quoteN_two {c d : UInt8} (h : c.toNat = 39) (h2 : d.toNat = 39) (r : List UInt8) : quoteN (c :: d :: r) = if quoteN r = 0 then 0 else quoteN r + 2 := by rw [quoteN, if_neg (by omega)]; exact if_neg (by omega)
theorem quoteN_le : ∀ (n : Nat) (l : List UInt8), l.length ≤ n → quoteN l ≤ l.length
  | 0, l, h => by
    have : l = [] := List.eq_nil_of_length_eq_zero (by omega)
    subst this
    simp [quoteN]
  | n + 1, [], _ => by simp [quoteN]
  | n + 1, [c], _ => by
    by_cases hc : c.toNat = 39
    · rw [quoteN_end hc]; simp
    · rw [quoteN_other hc]; simp [quoteN]
  | n + 1, c :: d :: r, h => by
    simp only [List.length_cons] at h ⊢
    have h1 := quoteN_le n (d :: r) (by simp only [List.length_cons]; omega)
    have h2 := quoteN_le n r (by omega)
    simp only [List.length_cons] at h1
    by_cases hc : c.toNat = 39
    · by_cases hd : d.toNat = 39
      · rw [quoteN_two hc hd]; split <;> omega
      · rw [quoteN_one hc hd]; omega
    · rw [quoteN_other hc]; split <;> omega
theorem lenT_le (l : List UInt8) : (lenT l).1 ≤ l.length := by
  cases l with
  | nil => simp [lenT]
  | cons c r =>
    have h1 := runN_le wordCh r
    have h2 := runN_le isDig r
    have h3 := quoteN_le _ r (Nat.le_refl _)
    simp only [lenT, List.length_cons]
    split
    · simp only; omega
    · split
      · simp only; omega
      · split
        · split
          · simp
          · simp only; omega
        · split
          · simp only; omega
          · split <;> simp
/-! ### the walk -/
section
variable {w : World} {s : ByteArray}
theorem sget_at {i : Nat} (h : i < s.size) : sget s i = (bl s)[i]'(by rw [bl_length]; exact h) := by
  rw [sget_eq, List.getD_eq_getElem?_getD, List.getElem?_eq_getElem (by rw [bl_length]; exact h), Option.getD_some]
theorem ref11_letter_ok (c : UInt8) : Calls Tryz.prog f.ref11_letter #[.int .u8 (c.toNat : Int)] w (Ret fun r w' => r = .bool (isLet c) ∧ w' = w) := by
  apply R.ref11_letter_calls
  unfold R.ref11_letter
  refine IFB_dec (fun h => ⟨?_, rfl⟩) (fun h => ⟨?_, rfl⟩)
  · congr 1
    rw [isLet, decide_eq_decide]
    omega
  · rw [isLet, decide_eq_false (by omega)]
theorem ref11_digit_ok (c : UInt8) : Calls Tryz.prog f.ref11_digit #[.int .u8 (c.toNat : Int)] w (Ret fun r w' => r = .bool (isDig c) ∧ w' = w) := by
  apply R.ref11_digit_calls
  unfold R.ref11_digit
  refine IFB_dec (fun h => ⟨?_, rfl⟩) (fun h => ⟨?_, rfl⟩)
  · congr 1
    rw [isDig, decide_eq_decide]
    omega
  · rw [isDig, decide_eq_false (by omega)]
theorem call0 {P : Program} {f : FuncId} {args : Array Value} {v : Value} {Q : Ending → World → Prop} (h : Calls P f args w (Ret fun r w' => r = v ∧ w' = w)) (hk : Q (.returned v) w) : Calls P f args w Q := (ST.start w).call0 h hk
theorem take_snoc_all {p : UInt8 → Bool} {l : List UInt8} {n : Nat} (hn : n < l.length) (h : ∀ c ∈ l.take n, p c = true) (h2 : p l[n] = true) : ∀ c ∈ l.take (n + 1), p c = true := all_snoc hn h h2
theorem ref11_length_ok (h0 : 0 < s.size) (hs : s.size ≤ 9223372036854775800) : Calls Tryz.prog f.ref11_length #[.string s] w (Ret fun v w' => v = .tuple #[.int .i64 ((lenT (bl s)).1 : Int), .int .i64 (lenT (bl s)).2] ∧ w' = w) := by
  apply R.ref11_length_calls
  unfold R.ref11_length
  obtain ⟨c, r, hcr⟩ : ∃ c r, bl s = c :: r := by
    cases h : bl s with
    | nil => have := bl_length s; rw [h] at this; simp at this; omega
    | cons c r => exact ⟨c, r, rfl⟩
  have hlen : s.size = r.length + 1 := by rw [← bl_length, hcr]; simp
  have g0 : sget s 0 = c := by rw [sget_eq, hcr]; rfl
  have gn : ∀ n, n < r.length → sget s (n + 1) = r.getD n 0 := fun n h => by rw [sget_eq, hcr]; rfl
  have gr : ∀ n (h : n < r.length), r.getD n 0 = r[n] := fun n h => by rw [List.getD_eq_getElem?_getD, List.getElem?_eq_getElem h, Option.getD_some]
  rw [hcr, lenT]
  refine ⟨⟨by omega, by omega⟩, call0 (by rw [g0]; exact ref11_letter_ok c) ⟨_, rfl, IFB_of (fun hl => ?_) (fun hl => ?_)⟩⟩
  · rw [if_pos hl]
    refine ⟨fun st w2 => ∃ n : Nat, st = [.int .i64 ((n + 1 : Nat) : Int)] ∧ n ≤ r.length ∧ (∀ c ∈ r.take n, wordCh c = true) ∧ w2 = w, fun st _ => match st with | [.int _ t] => s.size - t.toNat | _ => 0, ⟨0, rfl, by omega, by simp, rfl⟩, ?_⟩
    rintro t w2 ⟨n, hst, hn, hall, rfl⟩
    cases hst
    have fin : (∀ h : n < r.length, wordCh r[n] = false) → Value.tuple #[.int .i64 ((n + 1 : Nat) : Int), .int .i64 1] = .tuple #[.int .i64 (((runN wordCh r + 1, (1 : Int)) : Nat × Int).1 : Int), .int .i64 ((runN wordCh r + 1, (1 : Int)) : Nat × Int).2] := fun h => by
      rw [runN_at hn hall h]
    refine IFB_dec (fun hlt => ?_) (fun hge => ⟨fin fun h => by omega, rfl⟩)
    have hnl : n < r.length := by omega
    have nx : wordCh r[n] = true → (∃ m : Nat, [Value.int .i64 (IntKind.i64.wrap (((n + 1 : Nat) : Int) + 1))] = [.int .i64 ((m + 1 : Nat) : Int)] ∧ m ≤ r.length ∧ (∀ c ∈ r.take m, wordCh c = true) ∧ w2 = w2) ∧ s.size - (IntKind.i64.wrap (((n + 1 : Nat) : Int) + 1)).toNat < s.size - (((n + 1 : Nat) : Int)).toNat := fun hc => by
      rw [wrap_succ (by omega)]
      exact ⟨⟨n + 1, rfl, hnl, take_snoc_all hnl hall hc, rfl⟩, by simp only [Int.toNat_natCast]; omega⟩
    have eg : sget s (((n + 1 : Nat) : Int).toNat) = r[n] := by rw [Int.toNat_natCast, gn n hnl, gr n hnl]
    rw [eg]
    refine ⟨⟨by omega, by omega⟩, call0 (ref11_letter_ok _) ⟨_, rfl, IFB_of (fun h1 => nx (by rw [wordCh, h1]; rfl)) (fun h1 => ⟨⟨by omega, by omega⟩, call0 (ref11_digit_ok _) ⟨_, rfl, IFB_of (fun h2 => nx (by rw [wordCh, h1, h2]; rfl)) (fun h2 => ⟨⟨by omega, by omega⟩, IFB_eq (fun h3 => nx ?_) (fun h3 => ⟨fin fun _ => ?_, rfl⟩)⟩)⟩⟩)⟩⟩
    · rw [wordCh, h1, h2, decide_eq_true (by omega)]; rfl
    · rw [wordCh, h1, h2, decide_eq_false (by omega)]; rfl
  rw [if_neg (by rw [hl]; decide)]
  refine call0 (by rw [g0]; exact ref11_digit_ok c) ⟨_, rfl, IFB_of (fun hd => ?_) (fun hd => ?_)⟩
  · rw [if_pos hd]
    refine ⟨fun st w2 => ∃ n : Nat, st = [.int .i64 ((n + 1 : Nat) : Int)] ∧ n ≤ r.length ∧ (∀ c ∈ r.take n, isDig c = true) ∧ w2 = w, fun st _ => match st with | [.int _ t] => s.size - t.toNat | _ => 0, ⟨0, rfl, by omega, by simp, rfl⟩, ?_⟩
    rintro t w2 ⟨n, hst, hn, hall, rfl⟩
    cases hst
    have fin : (∀ h : n < r.length, isDig r[n] = false) → Value.tuple #[.int .i64 ((n + 1 : Nat) : Int), .int .i64 2] = .tuple #[.int .i64 (((runN isDig r + 1, (2 : Int)) : Nat × Int).1 : Int), .int .i64 ((runN isDig r + 1, (2 : Int)) : Nat × Int).2] := fun h => by
      rw [runN_at hn hall h]
    refine IFB_dec (fun hlt => ?_) (fun hge => ⟨fin fun h => by omega, rfl⟩)
    have hnl : n < r.length := by omega
    have eg : sget s (((n + 1 : Nat) : Int).toNat) = r[n] := by rw [Int.toNat_natCast, gn n hnl, gr n hnl]
    rw [eg]
    refine ⟨⟨by omega, by omega⟩, call0 (ref11_digit_ok _) ⟨_, rfl, IFB_of (fun h2 => ?_) (fun h2 => ⟨fin fun _ => h2, rfl⟩)⟩⟩
    rw [wrap_succ (by omega)]
    exact ⟨⟨n + 1, rfl, hnl, take_snoc_all hnl hall h2, rfl⟩, by simp only [Int.toNat_natCast]; omega⟩
  rw [if_neg (by rw [hd]; decide), g0]
  refine IFB_eq (fun hq => ?_) (fun hq => ?_)
  · rw [if_pos (by omega)]
    refine ⟨fun st w2 => ∃ n : Nat, st = [.int .i64 ((n + 1 : Nat) : Int)] ∧ n ≤ r.length ∧ quoteN r = (if quoteN (r.drop n) = 0 then 0 else quoteN (r.drop n) + n) ∧ w2 = w, fun st _ => match st with | [.int _ t] => s.size + 1 - t.toNat | _ => 0, ⟨0, rfl, by omega, ?_, rfl⟩, ?_⟩
    · simp only [List.drop_zero, Nat.add_zero]; split <;> omega
    rintro t w2 ⟨n, hst, hn, hall, rfl⟩
    cases hst
    refine IFB_dec (fun hlt => ?_) (fun hge => ⟨?_, rfl⟩)
    · have hnl : n < r.length := by omega
      have eg : sget s (((n + 1 : Nat) : Int).toNat) = r[n] := by rw [Int.toNat_natCast, gn n hnl, gr n hnl]
      have ew : IntKind.i64.wrap (((n + 1 : Nat) : Int) + 1) = ((n + 2 : Nat) : Int) := by rw [wrap_i64 (by omega) (by omega)]; omega
      have ew2 : IntKind.i64.wrap (((n + 1 : Nat) : Int) + 2) = ((n + 3 : Nat) : Int) := by rw [wrap_i64 (by omega) (by omega)]; omega
      have hdr : r.drop n = r[n] :: r.drop (n + 1) := (List.getElem_cons_drop hnl).symm
      rw [eg, ew, ew2]
      refine ⟨⟨by omega, by omega⟩, IFB_ne (fun hc => ⟨⟨n + 1, rfl, hnl, ?_, rfl⟩, by simp only [Int.toNat_natCast]; omega⟩) (fun hc => IFB_eq (fun he => ⟨?_, rfl⟩) (fun he => ⟨⟨by omega, by omega⟩, ?_⟩))⟩
      · rw [hall, hdr, quoteN_other (by omega)]
        by_cases h : quoteN (r.drop (n + 1)) = 0
        · rw [if_pos h, if_pos rfl, if_pos h]
        · rw [if_neg h, if_neg (by omega), if_neg h]; omega
      · have hr : r.drop (n + 1) = [] := List.drop_eq_nil_of_le (by omega)
        have hq1 : quoteN (r.drop n) = 1 := by rw [hdr, hr]; exact quoteN_end (by omega)
        have : quoteN r = n + 1 := by rw [hall, hq1, if_neg (by decide)]; omega
        rw [this, if_neg (by omega)]
      · have hnl2 : n + 1 < r.length := by omega
        have eg2 : sget s (((n + 2 : Nat) : Int).toNat) = r[n + 1] := by rw [Int.toNat_natCast, gn (n + 1) hnl2, gr (n + 1) hnl2]
        have hdr2 : r.drop (n + 1) = r[n + 1] :: r.drop (n + 2) := (List.getElem_cons_drop hnl2).symm
        rw [eg2]
        refine IFB_ne (fun hd2 => ⟨?_, rfl⟩) (fun hd2 => ⟨⟨n + 2, rfl, by omega, ?_, rfl⟩, by simp only [Int.toNat_natCast]; omega⟩)
        · have hq1 : quoteN (r.drop n) = 1 := by rw [hdr, hdr2]; exact quoteN_one (by omega) (by omega) _
          have : quoteN r = n + 1 := by rw [hall, hq1, if_neg (by decide)]; omega
          rw [this, if_neg (by omega)]
        · rw [hall, hdr, hdr2, quoteN_two (by omega) (by omega)]
          by_cases h : quoteN (r.drop (n + 2)) = 0
          · rw [if_pos h, if_pos rfl, if_pos h]
          · rw [if_neg h, if_neg (by omega), if_neg h]; omega
    · have : quoteN r = 0 := by
        rw [hall, List.drop_eq_nil_of_le (by omega)]; rfl
      rw [if_pos this]
      rfl
  rw [if_neg (by omega)]
  refine ⟨fun st w2 => st = [.bool (decide (c.toNat = 60 ∧ 1 ≤ r.length ∧ (r.getD 0 0).toNat = 61))] ∧ w2 = w, IFB_eq (fun h6 => IFB_dec (fun h1 => ⟨⟨by omega, by omega⟩, ?_, rfl⟩) (fun h1 => ⟨?_, rfl⟩)) (fun h6 => ⟨?_, rfl⟩), ?_⟩
  · rw [show sget s 1 = r.getD 0 0 from gn 0 (by omega)]
    congr 2
    rw [Bool.eq_iff_iff, beq_iff_eq, decide_eq_true_eq]
    omega
  · rw [decide_eq_false (by omega)]
  · rw [decide_eq_false (by omega)]
  rintro t w2 ⟨ht, rfl⟩
  obtain rfl : t = decide (c.toNat = 60 ∧ 1 ≤ r.length ∧ (r.getD 0 0).toNat = 61) := by simpa using ht
  refine IFB_dec (fun h => ⟨by rw [if_pos h]; rfl, rfl⟩) (fun h => ?_)
  rw [if_neg h]
  have yes : ∀ k : Nat, k ∈ [40, 41, 44, 43, 45, 42, 47, 37, 61, 60] → (c.toNat : Int) = (k : Int) → (if signCh c = true then ((1 : Nat), (4 : Int)) else (0, 0)) = (1, 4) := fun k hk h => by
    rw [if_pos]
    rw [signCh, show c.toNat = k by omega]
    simpa using hk
  refine IFB_eq (fun h => ⟨by rw [yes 40 (by simp) h]; rfl, rfl⟩) (fun n1 => IFB_eq (fun h => ⟨by rw [yes 41 (by simp) h]; rfl, rfl⟩) (fun n2 => IFB_eq (fun h => ⟨by rw [yes 44 (by simp) h]; rfl, rfl⟩) (fun n3 => IFB_eq (fun h => ⟨by rw [yes 43 (by simp) h]; rfl, rfl⟩) (fun n4 => IFB_eq (fun h => ⟨by rw [yes 45 (by simp) h]; rfl, rfl⟩) (fun n5 => IFB_eq (fun h => ⟨by rw [yes 42 (by simp) h]; rfl, rfl⟩) (fun n6 => IFB_eq (fun h => ⟨by rw [yes 47 (by simp) h]; rfl, rfl⟩) (fun n7 => IFB_eq (fun h => ⟨by rw [yes 37 (by simp) h]; rfl, rfl⟩) (fun n8 => IFB_eq (fun h => ⟨by rw [yes 61 (by simp) h]; rfl, rfl⟩) (fun n9 => IFB_eq (fun h => ⟨by rw [yes 60 (by simp) h]; rfl, rfl⟩) (fun n10 => ⟨?_, rfl⟩))))))))))
  have : signCh c = false := by
    rw [signCh]
    simp
    omega
  rw [this]
  rfl
def zTk : Value := .agg #[.int .i64 0, .int .i64 0, .string ⟨#[]⟩]
theorem tTks : slT Tryz.prog ty.L_ref11_Token = some (ty.ref11_Token, 3, 32, zTk) := by kernel_rfl
def tksI (a : Option Addr) (c : Nat) (T : List Tk) : It := It.row ty.ref11_Token 3 a T.length c (tksL T)
def ToksV (s : ByteArray) (w w' : World) (v : Value) : Prop :=
  match toksF (s.size + 1) (bl s) 0 with
  | .ok T => ∃ a c, v = .tuple #[.slice a T.length c, .int .i64 0, .bool true] ∧ ST w w' [tksI a c T]
  | .error e => v = .tuple #[.slice none 0 0, .int .i64 e, .bool false] ∧ Below w.heap.size w w'
theorem ref11_Tokens_ok (hs : s.size ≤ 1000000) : Calls Tryz.prog f.ref11_Tokens #[.string s] w (Ret fun v w' => ToksV s w w' v) := by
  apply R.ref11_Tokens_calls
  unfold R.ref11_Tokens
  refine ⟨fun st w1 => ∃ (a : Option Addr) (c n k : Nat) (T : List Tk), st = [.slice a T.length c, .int .i64 (n : Int)] ∧ n ≤ s.size ∧ T.length ≤ n ∧ s.size - n < k ∧ toksF (s.size + 1) (bl s) 0 = (match toksF k ((bl s).drop n) n with | .error e => .error e | .ok T' => .ok (T ++ T')) ∧ ST w w1 [tksI a c T],
    fun st _ => match st with | [_, .int _ t] => s.size - t.toNat | _ => 0, ⟨none, 0, 0, s.size + 1, [], rfl, by omega, by simp, by omega, ?_, (ST.start w).nil _ _⟩, ?_⟩
  · rw [List.drop_zero]
    all_goals (cases toksF (s.size + 1) (bl s) 0 <;> rfl)
  rintro a l c t w1 ⟨a, c, n, k, T, hst, hn, hTn, hk, htk, S1⟩
  cases hst
  obtain ⟨k, rfl⟩ : ∃ k', k = k' + 1 := ⟨k - 1, by omega⟩
  refine IFB_dec (fun hlt => ⟨⟨by omega, hlt⟩, ?_⟩) (fun hge => ?_)
  · have hnl : n < s.size := by omega
    have hnb : n < (bl s).length := by rw [bl_length]; exact hnl
    have hdr : (bl s).drop n = (bl s)[n] :: (bl s).drop (n + 1) := (List.getElem_cons_drop hnb).symm
    rw [Int.toNat_natCast, sget_at hnl]
    rw [hdr, toksF] at htk
    have blank : ((bl s)[n].toNat = 32 ∨ (bl s)[n].toNat = 10) → (∃ (a' : Option Addr) (c' n' k' : Nat) (T' : List Tk), [Value.slice a T.length c, .int .i64 (IntKind.i64.wrap ((n : Int) + 1))] = [.slice a' T'.length c', .int .i64 (n' : Int)] ∧ n' ≤ s.size ∧ T'.length ≤ n' ∧ s.size - n' < k' ∧ toksF (s.size + 1) (bl s) 0 = (match toksF k' ((bl s).drop n') n' with | .error e => .error e | .ok T'' => .ok (T' ++ T'')) ∧ ST w w1 [tksI a' c' T']) ∧ s.size - (IntKind.i64.wrap ((n : Int) + 1)).toNat < s.size - ((n : Nat) : Int).toNat := fun hb => by
      rw [if_pos hb] at htk
      rw [wrap_succ (by omega)]
      exact ⟨⟨a, c, n + 1, k, T, rfl, by omega, by omega, by omega, htk, S1⟩, by simp only [Int.toNat_natCast]; omega⟩
    have hb1 : (0 : Int) ≤ (n : Int) := by omega
    have hb2 : (0 : Int) ≤ (n : Int) ∧ (n : Int) ≤ (s.size : Int) ∧ (s.size : Int) ≤ (s.size : Int) := by omega
    have e32 : ∀ c : UInt8, ((c.toNat : Nat) : Int) = 32 → c.toNat = 32 := fun c h => by omega
    have e10 : ∀ c : UInt8, ((c.toNat : Nat) : Int) = 10 → c.toNat = 10 := fun c h => by omega
    refine IFB_eq (fun h => blank (.inl (e32 _ h))) (fun h32 => ⟨⟨hb1, hlt⟩, IFB_eq (fun h => blank (.inr (e10 _ h))) (fun h10 => ⟨hb2, ?_⟩)⟩)
    clear blank
    rw [if_neg (by omega)] at htk
    have hbe : bl (s.extract n s.size) = (bl s)[n] :: (bl s).drop (n + 1) := by
      rw [bl_extract, hdr, List.take_of_length_le]
      simp [bl_length]
    have hse : (s.extract n s.size).size = s.size - n := by rw [← bl_length, bl_extract]; simp [bl_length]
    refine S1.call0 (ref11_length_ok (by omega) (by omega)) ⟨_, _, rfl, ?_⟩
    rw [hbe]
    obtain ⟨m, hm⟩ : ∃ m, m = lenT ((bl s)[n] :: (bl s).drop (n + 1)) := ⟨_, rfl⟩
    rw [← hm] at htk ⊢
    have hml : m.1 ≤ s.size - n := by
      have := lenT_le ((bl s)[n] :: (bl s).drop (n + 1))
      rw [← hm, ← hdr, List.length_drop, bl_length] at this
      exact this
    refine IFB_eq (fun h0 => ?_) (fun h0 => ?_)
    · rw [if_pos (by omega)] at htk
      unfold ToksV
      rw [htk]
      exact ⟨rfl, S1.bel⟩
    · rw [if_neg (by omega), ← hdr, List.drop_drop] at htk
      have ew : IntKind.i64.wrap ((n : Int) + (m.1 : Int)) = ((n + m.1 : Nat) : Int) := by rw [wrap_i64 (by omega) (by omega)]; omega
      rw [ew, Int.toNat_natCast]
      refine ⟨⟨by omega, by omega, by omega⟩, S1.newB fun b8 w3 _ _ S3 => ?_⟩
      refine S3.app 1 rfl tTks rfl (by omega) (by omega) (S3.rdc 0 rfl) (mm := 1) rfl (by intro u hu; simp at hu; rcases hu with rfl | rfl | rfl <;> rfl) (by omega) fun a' c' w4 S4 => ⟨_, _, _, rfl, ⟨a', c', n + m.1, k, T ++ [((n : Int), m.2, s.extract n (n + m.1))], by simp, by omega, by simp; omega, by omega, ?_, ?_⟩, by simp only [Int.toNat_natCast]; omega⟩
      · have he : s.extract n (n + m.1) = sof (((bl s).drop n).take m.1) := by rw [extract_eq, Nat.add_sub_cancel_left]
        rw [htk, he]
        cases toksF k ((bl s).drop (n + m.1)) (n + m.1) with
        | error e => rfl
        | ok T' => simp only [List.append_assoc, List.singleton_append]
      · have e : tksI a' c' (T ++ [((n : Int), m.2, s.extract n (n + m.1))]) = It.row ty.ref11_Token 3 a' (T.length + 1) c' (tksL T ++ tkC ((n : Int), m.2, s.extract n (n + m.1))) := by
          unfold tksI
          rw [List.length_append, List.length_singleton]
          simp [tksL]
        rw [e]
        exact S4.drop 1
  · obtain rfl : n = s.size := by omega
    rw [List.drop_eq_nil_of_le (by rw [bl_length]; omega), toksF] at htk
    refine S1.newB fun b11 w5 _ _ S5 => ?_
    refine S5.app 1 rfl tTks rfl (by omega) (by omega) (S5.rdc 0 rfl) (mm := 1) rfl (by intro u hu; simp at hu; rcases hu with rfl | rfl | rfl <;> rfl) (by omega) fun a' c' w6 S6 => ⟨_, _, _, rfl, ?_⟩
    unfold ToksV
    rw [htk]
    refine ⟨a', c', by simp, ?_⟩
    have e : tksI a' c' (T ++ [((s.size : Int), 0, E0)]) = It.row ty.ref11_Token 3 a' (T.length + 1) c' (tksL T ++ tkC ((s.size : Int), 0, E0)) := by
      unfold tksI
      rw [List.length_append, List.length_singleton]
      simp [tksL]
    rw [e]
    exact S6.drop 1
end
end Go.Proofs.YtbpdfpfgijhokaaGreatDoor
