/-
  Texts of this claim, laid one behind the other by a program of mine (install.py): P.Rp2, P.Rp3, P.Rp4, P.Pl1, P.Pl2, P.Pl3, P.SortI, P.Pl4, P.Pl5, P.Pl6.
-/
import Derived.Test.YtbpdfpfgijhokaaGreatDoorM6
import Derived.Test.YtbpdfpfgijhokaaGreatDoorM5
namespace Go.Proofs.YtbpdfpfgijhokaaGreatDoor
set_option maxRecDepth 100000
open Go.Dn Go.Proofs
open Go.RowKit (Below)
set_option linter.unusedVariables false
section
variable {w0 w : World} {H : List It}
theorem stEx (S : ST w0 w H) (n : Nat) {b : Nat} {x0 x1 x2 x3 x4 x5 : Value} {t0 t2 t3 : Int} {t1 t4 : ByteArray} {a5 : Option Addr} {l5 c5 : Nat} {t : TypeId} (hn : H[n]? = some (It.cells b #[x0, x1, x2, x3, x4, x5] t)) {Q : Int → ByteArray → Int → Int → ByteArray → Option Addr → Nat → Nat → World → Prop}
    (hk : ∀ w', ST w0 w' (H.set n (It.cells b #[.int .i64 t0, .string t1, .int .i64 t2, .int .i64 t3, .string t4, .slice a5 l5 c5] t)) → Q t0 t1 t2 t3 t4 a5 l5 c5 w') :
    STO ⟨b, 0, none⟩ (.int .i64 t0) (fun w => STO ⟨b, 1, none⟩ (.string t1) (fun w => STO ⟨b, 2, none⟩ (.int .i64 t2) (fun w => STO ⟨b, 3, none⟩ (.int .i64 t3) (fun w => STO ⟨b, 4, none⟩ (.string t4) (fun w => STO ⟨b, 5, none⟩ (.slice a5 l5 c5) (fun w =>
      ∃ r0 : Int, w.cell? ⟨b, 0, none⟩ = some (.int .i64 r0) ∧ ∃ r1 : ByteArray, w.cell? ⟨b, 1, none⟩ = some (.string r1) ∧ ∃ r2 : Int, w.cell? ⟨b, 2, none⟩ = some (.int .i64 r2) ∧ ∃ r3 : Int, w.cell? ⟨b, 3, none⟩ = some (.int .i64 r3) ∧ ∃ r4 : ByteArray, w.cell? ⟨b, 4, none⟩ = some (.string r4) ∧
      ∃ (r5 : Option Addr) (r5l r5c : Nat), w.cell? ⟨b, 5, none⟩ = some (.slice r5 r5l r5c) ∧ Q r0 r1 r2 r3 r4 r5 r5l r5c w) w) w) w) w) w) w := by
  have hlt := (List.getElem?_eq_some_iff.1 hn).1
  have g : ∀ {x : It}, (H.set n x)[n]? = some x := List.getElem?_set_self hlt
  refine S.sto n hn (cs' := #[.int .i64 t0, x1, x2, x3, x4, x5]) (by simp) rfl fun w1 S1 => S1.sto n g (cs' := #[.int .i64 t0, .string t1, x2, x3, x4, x5]) (by simp) rfl fun w2 S2 => ?_
  rw [List.set_set] at S2
  refine S2.sto n g (cs' := #[.int .i64 t0, .string t1, .int .i64 t2, x3, x4, x5]) (by simp) rfl fun w3 S3 => ?_
  rw [List.set_set] at S3
  refine S3.sto n g (cs' := #[.int .i64 t0, .string t1, .int .i64 t2, .int .i64 t3, x4, x5]) (by simp) rfl fun w4 S4 => ?_
  rw [List.set_set] at S4
  refine S4.sto n g (cs' := #[.int .i64 t0, .string t1, .int .i64 t2, .int .i64 t3, .string t4, x5]) (by simp) rfl fun w5 S5 => ?_
  rw [List.set_set] at S5
  refine S5.sto n g (cs' := #[.int .i64 t0, .string t1, .int .i64 t2, .int .i64 t3, .string t4, .slice a5 l5 c5]) (by simp) rfl fun w6 S6 => ?_
  rw [List.set_set] at S6
  exact ⟨_, S6.cell n g rfl, _, S6.cell n g rfl, _, S6.cell n g rfl, _, S6.cell n g rfl, _, S6.cell n g rfl, _, _, _, S6.cell n g rfl, hk w6 S6⟩
end
def colX (s : ByteArray) : Ex := .mk 1 s V0 []
def headW : List ByteArray := [⟨#[110, 117, 108, 108]⟩, ⟨#[116, 114, 117, 101]⟩, ⟨#[102, 97, 108, 115, 101]⟩, ⟨#[108, 101, 110]⟩, ⟨#[40]⟩, ⟨#[45]⟩, ⟨#[110, 111, 116]⟩, ⟨#[99, 111, 117, 110, 116]⟩, ⟨#[115, 117, 109]⟩, ⟨#[109, 105, 110]⟩, ⟨#[109, 97, 120]⟩]
def tailW : List ByteArray := [⟨#[42]⟩, ⟨#[47]⟩, ⟨#[37]⟩, ⟨#[43]⟩, ⟨#[45]⟩, ⟨#[61]⟩, ⟨#[60]⟩, ⟨#[60, 61]⟩, ⟨#[105, 115]⟩, ⟨#[97, 110, 100]⟩, ⟨#[111, 114]⟩]
structure Lone (T : List Tk) (i : Nat) : Prop where
  lt : i + 1 < T.length
  nm : ∀ h : i < T.length, T[i].2.1 = 1 ∧ isKeyB T[i].2.2 = false
  hd : ∀ h : i < T.length, ∀ s ∈ headW, seesB T[i] s = false
  tl : ∀ s ∈ tailW, seesB T[i + 1] s = false
abbrev rpL (b : Nat) (a : Option Addr) (c i : Nat) (T : List Tk) (H : List It) : List It := rpI b a T.length c i true :: It.rd a (tksL T) :: H
def NameCall (f : FuncId) : Prop := ∀ {w0 w : World} {H : List It} {b : Nat} {a : Option Addr} {c i : Nat} {T : List Tk}, T.length ≤ 1000000 → (h : Lone T i) → ST w0 w (rpL b a c i T H) →
  Calls Tryz.prog f #[.pointer (some ⟨b, 0, none⟩)] w (Ret fun r w' => r = .agg ⟨exHead (colX (T[i]'(by have := h.lt; omega)).2.2) none 0⟩ ∧ ST w0 w' (rpL b a c (i + 1) T H))
theorem rword_ok {w0 w : World} {H : List It} {b : Nat} {a : Option Addr} {c i : Nat} {T : List Tk} (hT : T.length ≤ 1000000) (h : Lone T i) (S : ST w0 w (rpL b a c i T H)) :
    Calls Tryz.prog f.ref11_parser_word #[.pointer (some ⟨b, 0, none⟩)] w (Ret fun r w' => r = .tuple #[.agg #[.int .i64 0, .string E0, .int .i64 0, .int .i64 0, .string E0, .slice none 0 0], .bool false] ∧ ST w0 w' (rpL b a c i T H)) := by
  have hi : i < T.length := by have := h.lt; omega
  apply R.ref11_parser_word_calls
  unfold R.ref11_parser_word
  refine S.newB fun b2 w1 _ _ S1 => S1.newB fun b3 w2 _ _ S2 => ?_
  obtain ⟨K, hK⟩ : ∃ K, K = [It.cells b3 #[.string ⟨#[110, 117, 108, 108]⟩, .string ⟨#[116, 114, 117, 101]⟩, .string ⟨#[102, 97, 108, 115, 101]⟩] ty.string, It.cells b2 #[.int .i64 0, .string E0, .int .i64 0, .int .i64 0, .string E0, .slice none 0 0] ty.api_Expr] ++ H := ⟨_, rfl⟩
  have k2 : K[1]? = some (It.cells b2 #[.int .i64 0, .string E0, .int .i64 0, .int .i64 0, .string E0, .slice none 0 0] ty.api_Expr) := by rw [hK]; rfl
  have k3 : K[0]? = some (It.cells b3 #[.string ⟨#[110, 117, 108, 108]⟩, .string ⟨#[116, 114, 117, 101]⟩, .string ⟨#[102, 97, 108, 115, 101]⟩] ty.string) := by rw [hK]; rfl
  have S3 : ST w0 w2 (rpL b a c i T K) := by rw [hK]; exact (S2.pull 3 rfl).pull 3 rfl
  refine forUp 3 (fun j w => ST w0 w (rpL b a c i T K)) (by omega) S3 fun I M j w3 hj S4 next => ?_
  refine IFB_dec (fun hlt => ⟨⟨by omega, hlt⟩, ?_⟩) (fun hge => stEx S4 3 k2 fun w9 S9 => ⟨rfl, ?_⟩)
  · have hj3 : j < 3 := by omega
    obtain ⟨s, hs, hm⟩ : ∃ s : ByteArray, (#[Value.string ⟨#[110, 117, 108, 108]⟩, .string ⟨#[116, 114, 117, 101]⟩, .string ⟨#[102, 97, 108, 115, 101]⟩] : Array Value)[j]? = some (.string s) ∧ s ∈ headW := by
      have : j = 0 ∨ j = 1 ∨ j = 2 := by omega
      rcases this with rfl | rfl | rfl
      · exact ⟨_, rfl, by simp [headW]⟩
      · exact ⟨_, rfl, by simp [headW]⟩
      · exact ⟨_, rfl, by simp [headW]⟩
    refine ⟨s, ?_, rtakesN S4 hi hT (h.hd hi s hm) fun w10 S10 => ⟨_, rfl, IFB_false (next _ hj3 S10)⟩⟩
    rw [Int.toNat_natCast, Nat.mul_one, addr_add_blk, Nat.zero_add]
    exact S4.cell 2 k3 hs
  · rw [hK] at S9
    exact (((S9.pull 2 rfl).drop 1).pull 2 rfl).drop 1
theorem rpL_in {w0 w : World} {H : List It} {b : Nat} {a : Option Addr} {c i : Nat} {T : List Tk} {x : It} (S : ST w0 w (x :: rpL b a c i T H)) : ST w0 w (rpL b a c i T (x :: H)) := (S.pull 2 rfl).pull 2 rfl
theorem rpL_out {w0 w : World} {H : List It} {b : Nat} {a : Option Addr} {c i : Nat} {T : List Tk} {x : It} (S : ST w0 w (rpL b a c i T (x :: H))) : ST w0 w (rpL b a c i T H) := (S.pull 2 rfl).drop 1
theorem ratom_ok : NameCall f.ref11_parser_atom := by
  intro w0 w H b a c i T hT h S
  have hi : i < T.length := by have := h.lt; omega
  obtain ⟨h1, h2⟩ := h.nm hi
  apply R.ref11_parser_atom_calls
  unfold R.ref11_parser_atom
  refine S.newB fun b2 w1 _ _ S1 => (rword_ok hT h (rpL_in S1)).mono ?_
  rintro _ w2 ⟨_, rfl, rfl, S2⟩
  refine ⟨_, _, _, _, _, _, _, _, _, rfl, S2.lit6 fun b11 w9 _ S9 => IFB_false ((rpL_in S9).draw fun w16 _ S16 => ?_)⟩
  obtain ⟨p, hp, c0, c1, c2⟩ := tk_at (show Rd w16 a (tksL T) from S16.get 1 rfl) hi
  subst hp
  refine ⟨_, _, _, S16.cell 0 rfl rfl, _, S16.cell 0 rfl rfl, ⟨by omega, by omega⟩, ?_⟩
  rw [Int.toNat_natCast]
  refine ⟨_, c0, _, c1, _, c2, S16.newB fun b32 w17 _ B17 S17 => ?_⟩
  obtain ⟨_, hp, d0, d1, d2⟩ := tk_at ((show Rd w16 (some p) (tksL T) from S16.get 1 rfl).grown B17) hi
  cases hp
  refine ⟨⟨d0, d1, d2⟩, S17.cell 1 rfl rfl, S17.cell 1 rfl rfl, S17.sto3 0 rfl fun w20 S20 => ?_⟩
  obtain ⟨K, hK⟩ : ∃ K, K = It.cells b32 #[.int .i64 T[i].1, .int .i64 T[i].2.1, .string T[i].2.2] ty.ref11_Token :: It.cells b11 #[.int .i64 0, .string E0, .int .i64 0, .int .i64 0, .string E0, .slice none 0 0] ty.api_Expr :: It.cells b2 #[.int .i64 0, .string E0, .int .i64 0, .int .i64 0, .string E0, .slice none 0 0] ty.api_Expr :: H := ⟨_, rfl⟩
  have S20 : ST w0 w20 (rpL b (some p) c i T K) := by rw [hK]; exact rpL_in S20
  have k0 : K[0]? = some (It.cells b32 #[.int .i64 T[i].1, .int .i64 T[i].2.1, .string T[i].2.2] ty.ref11_Token) := by rw [hK]; rfl
  have k2 : K[2]? = some (It.cells b2 #[.int .i64 0, .string E0, .int .i64 0, .int .i64 0, .string E0, .slice none 0 0] ty.api_Expr) := by rw [hK]; rfl
  refine ⟨fun st w => st = [.bool false] ∧ ST w0 w (rpL b (some p) c i T K), ⟨_, S20.cell 0 rfl rfl, IFB_true ⟨_, S20.cell 2 k0 rfl, by rw [h1]; rfl, S20⟩⟩, ?_⟩
  rintro _ w21 ⟨hst, S21⟩
  cases hst
  refine IFB_false ⟨fun st w => st = [.bool false] ∧ ST w0 w (rpL b (some p) c i T K), ⟨_, S21.cell 0 rfl rfl, IFB_true ⟨_, S21.cell 2 k0 rfl, by rw [h1]; rfl, S21⟩⟩, ?_⟩
  rintro _ w30 ⟨hst, S30⟩
  cases hst
  refine IFB_false (rtakesN S30 hi hT (h.hd hi _ (by simp [headW])) fun w50 S50 => ⟨_, rfl, fun st w => st = [.bool false] ∧ ST w0 w (rpL b (some p) c i T K), ⟨_, S50.cell 0 rfl rfl, IFB_true (S50.call (rsees_ok S50 hi _) fun w51 _ S51 => ⟨_, rfl, by rw [h.hd hi _ (by simp [headW])], S51⟩)⟩, ?_⟩)
  rintro _ w52 ⟨hst, S52⟩
  cases hst
  refine ⟨fun st w => st = [.bool false] ∧ ST w0 w (rpL b (some p) c i T K), IFB_false ⟨rfl, S52⟩, ?_⟩
  rintro _ w53 ⟨hst, S53⟩
  cases hst
  refine IFB_false (rnameY S53 hi hT h1 h2 fun w77 S77 => ⟨_, rfl, stEx S77 4 k2 fun w83 S83 => ⟨rfl, ?_⟩⟩)
  rw [hK] at S83
  exact rpL_out (rpL_out (rpL_out S83))
theorem rminus_ok : NameCall f.ref11_parser_minus := by
  intro w0 w H b a c i T hT h S
  have hi : i < T.length := by have := h.lt; omega
  apply R.ref11_parser_minus_calls
  unfold R.ref11_parser_minus
  refine S.newB fun b2 w1 _ _ S1 => rtakesN (rpL_in S1) hi hT (h.hd hi _ (by simp [headW])) fun w2 S2 => ⟨_, rfl, IFB_not (IFB_false ((ratom_ok hT h S2).mono ?_))⟩
  rintro _ w3 ⟨_, rfl, rfl, S3⟩
  exact ⟨_, _, _, _, _, _, _, _, rfl, stEx S3 2 rfl fun w9 S9 => ⟨rfl, rpL_out S9⟩⟩
abbrev lvl (b10 b2 : Nat) (x : Ex) (H : List It) : List It := exI b10 (exHead x none 0) :: It.cells b2 #[.int .i64 0, .string E0, .int .i64 0, .int .i64 0, .string E0, .slice none 0 0] ty.api_Expr :: H
theorem rprod_ok : NameCall f.ref11_parser_prod := by
  intro w0 w H b a c i T hT h S
  have hi : i < T.length := by have := h.lt; omega
  apply R.ref11_parser_prod_calls
  unfold R.ref11_parser_prod
  refine S.newB fun b2 w1 _ _ S1 => (rminus_ok hT h (rpL_in S1)).mono ?_
  rintro _ w2 ⟨_, rfl, rfl, S2⟩
  refine ⟨_, _, _, _, _, _, _, _, rfl, S2.lit6 fun b10 w9 _ S9 => ?_⟩
  have S9 : ST w0 w9 (rpL b a c (i + 1) T (lvl b10 b2 (colX T[i].2.2) H)) := rpL_in S9
  refine ⟨fun _ w => ST w0 w (rpL b a c (i + 1) T (lvl b10 b2 (colX T[i].2.2) H)), fun _ _ => 0, S9, fun w10 S10 => ⟨_, S10.cell 0 rfl rfl, IFB_true (rtakesN S10 h.lt hT (h.tl _ (by simp [tailW])) fun w17 S17 => ⟨_, rfl, fun st w => st = [.bool false] ∧ ST w0 w (rpL b a c (i + 1) T (lvl b10 b2 (colX T[i].2.2) H)), IFB_not (IFB_false (rtakesN S17 h.lt hT (h.tl _ (by simp [tailW])) fun w18 S18 => ⟨_, rfl, rfl, S18⟩)), ?_⟩)⟩⟩
  rintro _ w19 ⟨hst, S19⟩
  cases hst
  refine ⟨fun st w => st = [.bool false] ∧ ST w0 w (rpL b a c (i + 1) T (lvl b10 b2 (colX T[i].2.2) H)), IFB_not (IFB_false (IFB_not (IFB_false (rtakesN S19 h.lt hT (h.tl _ (by simp [tailW])) fun w18 S18 => ⟨_, rfl, rfl, S18⟩)))), ?_⟩
  rintro _ w21 ⟨hst, S21⟩
  cases hst
  exact IFB_false (IFB_false (IFB_false (stX S21 2 rfl (stEx S21 3 rfl fun w54 S54 => ⟨rfl, rpL_out (rpL_out S54)⟩))))
theorem rsum_ok : NameCall f.ref11_parser_sum := by
  intro w0 w H b a c i T hT h S
  have hi : i < T.length := by have := h.lt; omega
  apply R.ref11_parser_sum_calls
  unfold R.ref11_parser_sum
  refine S.newB fun b2 w1 _ _ S1 => (rprod_ok hT h (rpL_in S1)).mono ?_
  rintro _ w2 ⟨_, rfl, rfl, S2⟩
  refine ⟨_, _, _, _, _, _, _, _, rfl, S2.lit6 fun b10 w9 _ S9 => ?_⟩
  have S9 : ST w0 w9 (rpL b a c (i + 1) T (lvl b10 b2 (colX T[i].2.2) H)) := rpL_in S9
  refine ⟨fun _ w => ST w0 w (rpL b a c (i + 1) T (lvl b10 b2 (colX T[i].2.2) H)), fun _ _ => 0, S9, fun w10 S10 => ⟨_, S10.cell 0 rfl rfl, IFB_true (rtakesN S10 h.lt hT (h.tl _ (by simp [tailW])) fun w17 S17 => ⟨_, rfl, fun st w => st = [.bool false] ∧ ST w0 w (rpL b a c (i + 1) T (lvl b10 b2 (colX T[i].2.2) H)), IFB_not (IFB_false (rtakesN S17 h.lt hT (h.tl _ (by simp [tailW])) fun w18 S18 => ⟨_, rfl, rfl, S18⟩)), ?_⟩)⟩⟩
  rintro _ w19 ⟨hst, S19⟩
  cases hst
  exact IFB_false (IFB_false (stX S19 2 rfl (stEx S19 3 rfl fun w54 S54 => ⟨rfl, rpL_out (rpL_out S54)⟩)))
theorem rrel_ok : NameCall f.ref11_parser_rel := by
  intro w0 w H b a c i T hT h S
  have hi : i < T.length := by have := h.lt; omega
  apply R.ref11_parser_rel_calls
  unfold R.ref11_parser_rel
  refine S.newB fun b2 w1 _ _ S1 => (rsum_ok hT h (rpL_in S1)).mono ?_
  rintro _ w2 ⟨_, rfl, rfl, S2⟩
  refine ⟨_, _, _, _, _, _, _, _, rfl, S2.lit6 fun b10 w9 _ S9 => ?_⟩
  have S9 : ST w0 w9 (rpL b a c (i + 1) T (lvl b10 b2 (colX T[i].2.2) H)) := rpL_in S9
  refine rtakesN S9 h.lt hT (h.tl _ (by simp [tailW])) fun w17 S17 => ⟨_, rfl, fun st w => st = [.bool false] ∧ ST w0 w (rpL b a c (i + 1) T (lvl b10 b2 (colX T[i].2.2) H)), IFB_not (IFB_false (rtakesN S17 h.lt hT (h.tl _ (by simp [tailW])) fun w18 S18 => ⟨_, rfl, rfl, S18⟩)), ?_⟩
  rintro _ w19 ⟨hst, S19⟩
  cases hst
  refine ⟨fun st w => st = [.bool false] ∧ ST w0 w (rpL b a c (i + 1) T (lvl b10 b2 (colX T[i].2.2) H)), IFB_not (IFB_false (IFB_not (IFB_false (rtakesN S19 h.lt hT (h.tl _ (by simp [tailW])) fun w18 S18 => ⟨_, rfl, rfl, S18⟩)))), ?_⟩
  rintro _ w21 ⟨hst, S21⟩
  cases hst
  exact IFB_false (IFB_false (IFB_false (stX S21 2 rfl (stEx S21 3 rfl fun w54 S54 => ⟨rfl, rpL_out (rpL_out S54)⟩))))
theorem ris_ok : NameCall f.ref11_parser_is := by
  intro w0 w H b a c i T hT h S
  have hi : i < T.length := by have := h.lt; omega
  apply R.ref11_parser_is_calls
  unfold R.ref11_parser_is
  refine S.newB fun b2 w1 _ _ S1 => (rrel_ok hT h (rpL_in S1)).mono ?_
  rintro _ w2 ⟨_, rfl, rfl, S2⟩
  refine ⟨_, _, _, _, _, _, _, _, rfl, S2.lit6 fun b10 w9 _ S9 => ?_⟩
  have S9 : ST w0 w9 (rpL b a c (i + 1) T (lvl b10 b2 (colX T[i].2.2) H)) := rpL_in S9
  exact rtakesN S9 h.lt hT (h.tl _ (by simp [tailW])) fun w17 S17 => ⟨_, rfl, IFB_false (stX S17 2 rfl (stEx S17 3 rfl fun w54 S54 => ⟨rfl, rpL_out (rpL_out S54)⟩))⟩
theorem rnot_ok : NameCall f.ref11_parser_not := by
  intro w0 w H b a c i T hT h S
  have hi : i < T.length := by have := h.lt; omega
  apply R.ref11_parser_not_calls
  unfold R.ref11_parser_not
  refine S.newB fun b2 w1 _ _ S1 => rtakesN (rpL_in S1) hi hT (h.hd hi _ (by simp [headW])) fun w2 S2 => ⟨_, rfl, IFB_false ((ris_ok hT h S2).mono ?_)⟩
  rintro _ w3 ⟨_, rfl, rfl, S3⟩
  exact ⟨_, _, _, _, _, _, _, _, rfl, stEx S3 2 rfl fun w9 S9 => ⟨rfl, rpL_out S9⟩⟩
theorem rand_ok : NameCall f.ref11_parser_and := by
  intro w0 w H b a c i T hT h S
  have hi : i < T.length := by have := h.lt; omega
  apply R.ref11_parser_and_calls
  unfold R.ref11_parser_and
  refine S.newB fun b2 w1 _ _ S1 => (rnot_ok hT h (rpL_in S1)).mono ?_
  rintro _ w2 ⟨_, rfl, rfl, S2⟩
  refine ⟨_, _, _, _, _, _, _, _, rfl, S2.lit6 fun b10 w9 _ S9 => ?_⟩
  have S9 : ST w0 w9 (rpL b a c (i + 1) T (lvl b10 b2 (colX T[i].2.2) H)) := rpL_in S9
  refine rtakesN S9 h.lt hT (h.tl _ (by simp [tailW])) fun w17 S17 => ⟨_, rfl, fun st w => st = [.bool false] ∧ ST w0 w (rpL b a c (i + 1) T (lvl b10 b2 (colX T[i].2.2) H)), fun _ _ => 0, ⟨rfl, S17⟩, ?_⟩
  rintro _ w19 ⟨hst, S19⟩
  cases hst
  exact IFB_false (stX S19 2 rfl (stEx S19 3 rfl fun w54 S54 => ⟨rfl, rpL_out (rpL_out S54)⟩))
theorem ror_ok : NameCall f.ref11_parser_or := by
  intro w0 w H b a c i T hT h S
  have hi : i < T.length := by have := h.lt; omega
  apply R.ref11_parser_or_calls
  unfold R.ref11_parser_or
  refine S.newB fun b2 w1 _ _ S1 => (rand_ok hT h (rpL_in S1)).mono ?_
  rintro _ w2 ⟨_, rfl, rfl, S2⟩
  refine ⟨_, _, _, _, _, _, _, _, rfl, S2.lit6 fun b10 w9 _ S9 => ?_⟩
  have S9 : ST w0 w9 (rpL b a c (i + 1) T (lvl b10 b2 (colX T[i].2.2) H)) := rpL_in S9
  refine rtakesN S9 h.lt hT (h.tl _ (by simp [tailW])) fun w17 S17 => ⟨_, rfl, fun st w => st = [.bool false] ∧ ST w0 w (rpL b a c (i + 1) T (lvl b10 b2 (colX T[i].2.2) H)), fun _ _ => 0, ⟨rfl, S17⟩, ?_⟩
  rintro _ w19 ⟨hst, S19⟩
  cases hst
  exact IFB_false (stX S19 2 rfl (stEx S19 3 rfl fun w54 S54 => ⟨rfl, rpL_out (rpL_out S54)⟩))
end Go.Proofs.YtbpdfpfgijhokaaGreatDoor
namespace Go.Proofs.YtbpdfpfgijhokaaGreatDoor
set_option maxRecDepth 100000
open Go.Dn Go.Proofs
open Go.RowKit (Below)
set_option linter.unusedVariables false
/-! ### plain -/
def isLet (c : UInt8) : Bool := decide (97 ≤ c.toNat ∧ c.toNat ≤ 122)
def isDig (c : UInt8) : Bool := decide (48 ≤ c.toNat ∧ c.toNat ≤ 57)
def wordCh (c : UInt8) : Bool := isLet c || isDig c || decide (c.toNat = 95)
def runN (p : UInt8 → Bool) : List UInt8 → Nat
  | [] => 0
  | c :: r => if p c then runN p r + 1 else 0
def quoteN : List UInt8 → Nat
  | [] => 0
  | c :: r => if c.toNat ≠ 39 then (if quoteN r = 0 then 0 else quoteN r + 1) else
    match r with
    | [] => 1
    | d :: r' => if d.toNat ≠ 39 then 1 else if quoteN r' = 0 then 0 else quoteN r' + 2
def signCh (c : UInt8) : Bool := [40, 41, 44, 43, 45, 42, 47, 37, 61, 60].contains c.toNat
def lenT : List UInt8 → Nat × Int
  | [] => (0, 0)
  | c :: r => if isLet c then (runN wordCh r + 1, 1) else if isDig c then (runN isDig r + 1, 2) else
    if c.toNat = 39 then (if quoteN r = 0 then (0, 0) else (quoteN r + 1, 3)) else
    if c.toNat = 60 ∧ 1 ≤ r.length ∧ (r.getD 0 0).toNat = 61 then (2, 4) else if signCh c then (1, 4) else (0, 0)
def toksF : Nat → List UInt8 → Nat → Except Int (List Tk)
  | 0, _, _ => .ok []
  | f + 1, l, at_ => match l with
    | [] => .ok [((at_ : Int), 0, E0)]
    | c :: r => if c.toNat = 32 ∨ c.toNat = 10 then toksF f r (at_ + 1) else
      if (lenT (c :: r)).1 = 0 then .error at_ else
      match toksF f ((c :: r).drop (lenT (c :: r)).1) (at_ + (lenT (c :: r)).1) with
      | .error e => .error e
      | .ok T => .ok (((at_ : Int), (lenT (c :: r)).2, sof ((c :: r).take (lenT (c :: r)).1)) :: T)
theorem runN_le (p : UInt8 → Bool) : ∀ l, runN p l ≤ l.length
  | [] => Nat.le_refl _
  | c :: r => by have := runN_le p r; simp only [runN, List.length_cons]; split <;> omega
theorem runN_at {p : UInt8 → Bool} : ∀ {l : List UInt8} {n : Nat}, n ≤ l.length → (∀ c ∈ l.take n, p c = true) → (∀ h : n < l.length, p l[n] = false) → runN p l = n
  | [], n, hn, _, _ => by simp at hn; simp [runN, hn]
  | c :: r, 0, _, _, h => by
    have := h (by simp)
    simp only [List.getElem_cons_zero] at this
    simp [runN, this]
  | c :: r, n + 1, hn, h1, h2 => by
    have hc := h1 c (by simp)
    simp only [runN, hc, if_true]
    rw [runN_at (l := r) (n := n) (by simpa using hn) (fun d hd => h1 d (by simp [hd])) fun h => by have := h2 (by simpa using h); simpa using this]
theorem quoteN_other {c : UInt8} (h : c.toNat ≠ 39) (r : List UInt8) : quoteN (c :: r) = if quoteN r = 0 then 0 else quoteN r + 1 := by
  cases r with
  | nil => simp [quoteN, h]
  | cons d r => rw [quoteN, if_pos h]
theorem quoteN_end {c : UInt8} (h : c.toNat = 39) : quoteN [c] = 1 := by rw [quoteN, if_neg (by omega)]
theorem quoteN_one {c d : UInt8} (h : c.toNat = 39) (h2 : d.toNat ≠ 39) (r : List UInt8) : quoteN (c :: d :: r) = 1 := by rw [quoteN, if_neg (by omega)]; exact if_pos h2
theorem quoteN_two {c d : UInt8} (h : c.toNat = 39) (h2 : d.toNat = 39) (r : List UInt8) : quoteN (c :: d :: r) = if quoteN r = 0 then 0 else quoteN r + 2 := by rw [quoteN, if_neg (by omega)]; exact if_neg (by omega)
theorem quoteN_le : ∀ (n : Nat) (l : List UInt8), l.length ≤ n → quoteN l ≤ l.length
  | 0, l, h => by
    have : l = [] := List.eq_nil_of_length_eq_zero (by omega)
    subst this
    simp [quoteN]
  | n + 1, [], _ => by simp [quoteN]
  | n + 1, [c], _ => by
    by_cases hc : c.toNat = 39
    · rw [quoteN_end hc]; simp
    · rw [quoteN_other hc]; simp [quoteN]
  | n + 1, c :: d :: r, h => by
    simp only [List.length_cons] at h ⊢
    have h1 := quoteN_le n (d :: r) (by simp only [List.length_cons]; omega)
    have h2 := quoteN_le n r (by omega)
    simp only [List.length_cons] at h1
    by_cases hc : c.toNat = 39
    · by_cases hd : d.toNat = 39
      · rw [quoteN_two hc hd]; split <;> omega
      · rw [quoteN_one hc hd]; omega
    · rw [quoteN_other hc]; split <;> omega
theorem lenT_le (l : List UInt8) : (lenT l).1 ≤ l.length := by
  cases l with
  | nil => simp [lenT]
  | cons c r =>
    have h1 := runN_le wordCh r
    have h2 := runN_le isDig r
    have h3 := quoteN_le _ r (Nat.le_refl _)
    simp only [lenT, List.length_cons]
    split
    · simp only; omega
    · split
      · simp only; omega
      · split
        · split
          · simp
          · simp only; omega
        · split
          · simp only; omega
          · split <;> simp
/-! ### the walk -/
section
variable {w : World} {s : ByteArray}
theorem sget_at {i : Nat} (h : i < s.size) : sget s i = (bl s)[i]'(by rw [bl_length]; exact h) := by
  rw [sget_eq, List.getD_eq_getElem?_getD, List.getElem?_eq_getElem (by rw [bl_length]; exact h), Option.getD_some]
theorem ref11_letter_ok (c : UInt8) : Calls Tryz.prog f.ref11_letter #[.int .u8 (c.toNat : Int)] w (Ret fun r w' => r = .bool (isLet c) ∧ w' = w) := by
  apply R.ref11_letter_calls
  unfold R.ref11_letter
  refine IFB_dec (fun h => ⟨?_, rfl⟩) (fun h => ⟨?_, rfl⟩)
  · congr 1
    rw [isLet, decide_eq_decide]
    omega
  · rw [isLet, decide_eq_false (by omega)]
theorem ref11_digit_ok (c : UInt8) : Calls Tryz.prog f.ref11_digit #[.int .u8 (c.toNat : Int)] w (Ret fun r w' => r = .bool (isDig c) ∧ w' = w) := by
  apply R.ref11_digit_calls
  unfold R.ref11_digit
  refine IFB_dec (fun h => ⟨?_, rfl⟩) (fun h => ⟨?_, rfl⟩)
  · congr 1
    rw [isDig, decide_eq_decide]
    omega
  · rw [isDig, decide_eq_false (by omega)]
theorem call0 {P : Program} {f : FuncId} {args : Array Value} {v : Value} {Q : Ending → World → Prop} (h : Calls P f args w (Ret fun r w' => r = v ∧ w' = w)) (hk : Q (.returned v) w) : Calls P f args w Q := (ST.start w).call0 h hk
theorem take_snoc_all {p : UInt8 → Bool} {l : List UInt8} {n : Nat} (hn : n < l.length) (h : ∀ c ∈ l.take n, p c = true) (h2 : p l[n] = true) : ∀ c ∈ l.take (n + 1), p c = true := all_snoc hn h h2
theorem ref11_length_ok (h0 : 0 < s.size) (hs : s.size ≤ 9223372036854775800) : Calls Tryz.prog f.ref11_length #[.string s] w (Ret fun v w' => v = .tuple #[.int .i64 ((lenT (bl s)).1 : Int), .int .i64 (lenT (bl s)).2] ∧ w' = w) := by
  apply R.ref11_length_calls
  unfold R.ref11_length
  obtain ⟨c, r, hcr⟩ : ∃ c r, bl s = c :: r := by
    cases h : bl s with
    | nil => have := bl_length s; rw [h] at this; simp at this; omega
    | cons c r => exact ⟨c, r, rfl⟩
  have hlen : s.size = r.length + 1 := by rw [← bl_length, hcr]; simp
  have g0 : sget s 0 = c := by rw [sget_eq, hcr]; rfl
  have gn : ∀ n, n < r.length → sget s (n + 1) = r.getD n 0 := fun n h => by rw [sget_eq, hcr]; rfl
  have gr : ∀ n (h : n < r.length), r.getD n 0 = r[n] := fun n h => by rw [List.getD_eq_getElem?_getD, List.getElem?_eq_getElem h, Option.getD_some]
  rw [hcr, lenT]
  refine ⟨⟨by omega, by omega⟩, call0 (by rw [g0]; exact ref11_letter_ok c) ⟨_, rfl, IFB_of (fun hl => ?_) (fun hl => ?_)⟩⟩
  · rw [if_pos hl]
    refine ⟨fun st w2 => ∃ n : Nat, st = [.int .i64 ((n + 1 : Nat) : Int)] ∧ n ≤ r.length ∧ (∀ c ∈ r.take n, wordCh c = true) ∧ w2 = w, fun st _ => match st with | [.int _ t] => s.size - t.toNat | _ => 0, ⟨0, rfl, by omega, by simp, rfl⟩, ?_⟩
    rintro t w2 ⟨n, hst, hn, hall, rfl⟩
    cases hst
    have fin : (∀ h : n < r.length, wordCh r[n] = false) → Value.tuple #[.int .i64 ((n + 1 : Nat) : Int), .int .i64 1] = .tuple #[.int .i64 (((runN wordCh r + 1, (1 : Int)) : Nat × Int).1 : Int), .int .i64 ((runN wordCh r + 1, (1 : Int)) : Nat × Int).2] := fun h => by
      rw [runN_at hn hall h]
    refine IFB_dec (fun hlt => ?_) (fun hge => ⟨fin fun h => by omega, rfl⟩)
    have hnl : n < r.length := by omega
    have nx : wordCh r[n] = true → (∃ m : Nat, [Value.int .i64 (IntKind.i64.wrap (((n + 1 : Nat) : Int) + 1))] = [.int .i64 ((m + 1 : Nat) : Int)] ∧ m ≤ r.length ∧ (∀ c ∈ r.take m, wordCh c = true) ∧ w2 = w2) ∧ s.size - (IntKind.i64.wrap (((n + 1 : Nat) : Int) + 1)).toNat < s.size - (((n + 1 : Nat) : Int)).toNat := fun hc => by
      rw [wrap_succ (by omega)]
      exact ⟨⟨n + 1, rfl, hnl, take_snoc_all hnl hall hc, rfl⟩, by simp only [Int.toNat_natCast]; omega⟩
    have eg : sget s (((n + 1 : Nat) : Int).toNat) = r[n] := by rw [Int.toNat_natCast, gn n hnl, gr n hnl]
    rw [eg]
    refine ⟨⟨by omega, by omega⟩, call0 (ref11_letter_ok _) ⟨_, rfl, IFB_of (fun h1 => nx (by rw [wordCh, h1]; rfl)) (fun h1 => ⟨⟨by omega, by omega⟩, call0 (ref11_digit_ok _) ⟨_, rfl, IFB_of (fun h2 => nx (by rw [wordCh, h1, h2]; rfl)) (fun h2 => ⟨⟨by omega, by omega⟩, IFB_eq (fun h3 => nx ?_) (fun h3 => ⟨fin fun _ => ?_, rfl⟩)⟩)⟩⟩)⟩⟩
    · rw [wordCh, h1, h2, decide_eq_true (by omega)]; rfl
    · rw [wordCh, h1, h2, decide_eq_false (by omega)]; rfl
  rw [if_neg (by rw [hl]; decide)]
  refine call0 (by rw [g0]; exact ref11_digit_ok c) ⟨_, rfl, IFB_of (fun hd => ?_) (fun hd => ?_)⟩
  · rw [if_pos hd]
    refine ⟨fun st w2 => ∃ n : Nat, st = [.int .i64 ((n + 1 : Nat) : Int)] ∧ n ≤ r.length ∧ (∀ c ∈ r.take n, isDig c = true) ∧ w2 = w, fun st _ => match st with | [.int _ t] => s.size - t.toNat | _ => 0, ⟨0, rfl, by omega, by simp, rfl⟩, ?_⟩
    rintro t w2 ⟨n, hst, hn, hall, rfl⟩
    cases hst
    have fin : (∀ h : n < r.length, isDig r[n] = false) → Value.tuple #[.int .i64 ((n + 1 : Nat) : Int), .int .i64 2] = .tuple #[.int .i64 (((runN isDig r + 1, (2 : Int)) : Nat × Int).1 : Int), .int .i64 ((runN isDig r + 1, (2 : Int)) : Nat × Int).2] := fun h => by
      rw [runN_at hn hall h]
    refine IFB_dec (fun hlt => ?_) (fun hge => ⟨fin fun h => by omega, rfl⟩)
    have hnl : n < r.length := by omega
    have eg : sget s (((n + 1 : Nat) : Int).toNat) = r[n] := by rw [Int.toNat_natCast, gn n hnl, gr n hnl]
    rw [eg]
    refine ⟨⟨by omega, by omega⟩, call0 (ref11_digit_ok _) ⟨_, rfl, IFB_of (fun h2 => ?_) (fun h2 => ⟨fin fun _ => h2, rfl⟩)⟩⟩
    rw [wrap_succ (by omega)]
    exact ⟨⟨n + 1, rfl, hnl, take_snoc_all hnl hall h2, rfl⟩, by simp only [Int.toNat_natCast]; omega⟩
  rw [if_neg (by rw [hd]; decide), g0]
  refine IFB_eq (fun hq => ?_) (fun hq => ?_)
  · rw [if_pos (by omega)]
    refine ⟨fun st w2 => ∃ n : Nat, st = [.int .i64 ((n + 1 : Nat) : Int)] ∧ n ≤ r.length ∧ quoteN r = (if quoteN (r.drop n) = 0 then 0 else quoteN (r.drop n) + n) ∧ w2 = w, fun st _ => match st with | [.int _ t] => s.size + 1 - t.toNat | _ => 0, ⟨0, rfl, by omega, ?_, rfl⟩, ?_⟩
    · simp only [List.drop_zero, Nat.add_zero]; split <;> omega
    rintro t w2 ⟨n, hst, hn, hall, rfl⟩
    cases hst
    refine IFB_dec (fun hlt => ?_) (fun hge => ⟨?_, rfl⟩)
    · have hnl : n < r.length := by omega
      have eg : sget s (((n + 1 : Nat) : Int).toNat) = r[n] := by rw [Int.toNat_natCast, gn n hnl, gr n hnl]
      have ew : IntKind.i64.wrap (((n + 1 : Nat) : Int) + 1) = ((n + 2 : Nat) : Int) := by rw [wrap_i64 (by omega) (by omega)]; omega
      have ew2 : IntKind.i64.wrap (((n + 1 : Nat) : Int) + 2) = ((n + 3 : Nat) : Int) := by rw [wrap_i64 (by omega) (by omega)]; omega
      have hdr : r.drop n = r[n] :: r.drop (n + 1) := (List.getElem_cons_drop hnl).symm
      rw [eg, ew, ew2]
      refine ⟨⟨by omega, by omega⟩, IFB_ne (fun hc => ⟨⟨n + 1, rfl, hnl, ?_, rfl⟩, by simp only [Int.toNat_natCast]; omega⟩) (fun hc => IFB_eq (fun he => ⟨?_, rfl⟩) (fun he => ⟨⟨by omega, by omega⟩, ?_⟩))⟩
      · rw [hall, hdr, quoteN_other (by omega)]
        by_cases h : quoteN (r.drop (n + 1)) = 0
        · rw [if_pos h, if_pos rfl, if_pos h]
        · rw [if_neg h, if_neg (by omega), if_neg h]; omega
      · have hr : r.drop (n + 1) = [] := List.drop_eq_nil_of_le (by omega)
        have hq1 : quoteN (r.drop n) = 1 := by rw [hdr, hr]; exact quoteN_end (by omega)
        have : quoteN r = n + 1 := by rw [hall, hq1, if_neg (by decide)]; omega
        rw [this, if_neg (by omega)]
      · have hnl2 : n + 1 < r.length := by omega
        have eg2 : sget s (((n + 2 : Nat) : Int).toNat) = r[n + 1] := by rw [Int.toNat_natCast, gn (n + 1) hnl2, gr (n + 1) hnl2]
        have hdr2 : r.drop (n + 1) = r[n + 1] :: r.drop (n + 2) := (List.getElem_cons_drop hnl2).symm
        rw [eg2]
        refine IFB_ne (fun hd2 => ⟨?_, rfl⟩) (fun hd2 => ⟨⟨n + 2, rfl, by omega, ?_, rfl⟩, by simp only [Int.toNat_natCast]; omega⟩)
        · have hq1 : quoteN (r.drop n) = 1 := by rw [hdr, hdr2]; exact quoteN_one (by omega) (by omega) _
          have : quoteN r = n + 1 := by rw [hall, hq1, if_neg (by decide)]; omega
          rw [this, if_neg (by omega)]
        · rw [hall, hdr, hdr2, quoteN_two (by omega) (by omega)]
          by_cases h : quoteN (r.drop (n + 2)) = 0
          · rw [if_pos h, if_pos rfl, if_pos h]
          · rw [if_neg h, if_neg (by omega), if_neg h]; omega
    · have : quoteN r = 0 := by
        rw [hall, List.drop_eq_nil_of_le (by omega)]; rfl
      rw [if_pos this]
      rfl
  rw [if_neg (by omega)]
  refine ⟨fun st w2 => st = [.bool (decide (c.toNat = 60 ∧ 1 ≤ r.length ∧ (r.getD 0 0).toNat = 61))] ∧ w2 = w, IFB_eq (fun h6 => IFB_dec (fun h1 => ⟨⟨by omega, by omega⟩, ?_, rfl⟩) (fun h1 => ⟨?_, rfl⟩)) (fun h6 => ⟨?_, rfl⟩), ?_⟩
  · rw [show sget s 1 = r.getD 0 0 from gn 0 (by omega)]
    congr 2
    rw [Bool.eq_iff_iff, beq_iff_eq, decide_eq_true_eq]
    omega
  · rw [decide_eq_false (by omega)]
  · rw [decide_eq_false (by omega)]
  rintro t w2 ⟨ht, rfl⟩
  obtain rfl : t = decide (c.toNat = 60 ∧ 1 ≤ r.length ∧ (r.getD 0 0).toNat = 61) := by simpa using ht
  refine IFB_dec (fun h => ⟨by rw [if_pos h]; rfl, rfl⟩) (fun h => ?_)
  rw [if_neg h]
  have yes : ∀ k : Nat, k ∈ [40, 41, 44, 43, 45, 42, 47, 37, 61, 60] → (c.toNat : Int) = (k : Int) → (if signCh c = true then ((1 : Nat), (4 : Int)) else (0, 0)) = (1, 4) := fun k hk h => by
    rw [if_pos]
    rw [signCh, show c.toNat = k by omega]
    simpa using hk
  refine IFB_eq (fun h => ⟨by rw [yes 40 (by simp) h]; rfl, rfl⟩) (fun n1 => IFB_eq (fun h => ⟨by rw [yes 41 (by simp) h]; rfl, rfl⟩) (fun n2 => IFB_eq (fun h => ⟨by rw [yes 44 (by simp) h]; rfl, rfl⟩) (fun n3 => IFB_eq (fun h => ⟨by rw [yes 43 (by simp) h]; rfl, rfl⟩) (fun n4 => IFB_eq (fun h => ⟨by rw [yes 45 (by simp) h]; rfl, rfl⟩) (fun n5 => IFB_eq (fun h => ⟨by rw [yes 42 (by simp) h]; rfl, rfl⟩) (fun n6 => IFB_eq (fun h => ⟨by rw [yes 47 (by simp) h]; rfl, rfl⟩) (fun n7 => IFB_eq (fun h => ⟨by rw [yes 37 (by simp) h]; rfl, rfl⟩) (fun n8 => IFB_eq (fun h => ⟨by rw [yes 61 (by simp) h]; rfl, rfl⟩) (fun n9 => IFB_eq (fun h => ⟨by rw [yes 60 (by simp) h]; rfl, rfl⟩) (fun n10 => ⟨?_, rfl⟩))))))))))
  have : signCh c = false := by
    rw [signCh]
    simp
    omega
  rw [this]
  rfl
def zTk : Value := .agg #[.int .i64 0, .int .i64 0, .string ⟨#[]⟩]
theorem tTks : slT Tryz.prog ty.L_ref11_Token = some (ty.ref11_Token, 3, 32, zTk) := by kernel_rfl
def tksI (a : Option Addr) (c : Nat) (T : List Tk) : It := It.row ty.ref11_Token 3 a T.length c (tksL T)
def ToksV (s : ByteArray) (w w' : World) (v : Value) : Prop :=
  match toksF (s.size + 1) (bl s) 0 with
  | .ok T => ∃ a c, v = .tuple #[.slice a T.length c, .int .i64 0, .bool true] ∧ ST w w' [tksI a c T]
  | .error e => v = .tuple #[.slice none 0 0, .int .i64 e, .bool false] ∧ Below w.heap.size w w'
theorem ref11_Tokens_ok (hs : s.size ≤ 1000000) : Calls Tryz.prog f.ref11_Tokens #[.string s] w (Ret fun v w' => ToksV s w w' v) := by
  apply R.ref11_Tokens_calls
  unfold R.ref11_Tokens
  refine ⟨fun st w1 => ∃ (a : Option Addr) (c n k : Nat) (T : List Tk), st = [.slice a T.length c, .int .i64 (n : Int)] ∧ n ≤ s.size ∧ T.length ≤ n ∧ s.size - n < k ∧ toksF (s.size + 1) (bl s) 0 = (match toksF k ((bl s).drop n) n with | .error e => .error e | .ok T' => .ok (T ++ T')) ∧ ST w w1 [tksI a c T],
    fun st _ => match st with | [_, .int _ t] => s.size - t.toNat | _ => 0, ⟨none, 0, 0, s.size + 1, [], rfl, by omega, by simp, by omega, ?_, (ST.start w).nil _ _⟩, ?_⟩
  · rw [List.drop_zero]
    cases toksF (s.size + 1) (bl s) 0 <;> rfl
  rintro a l c t w1 ⟨a, c, n, k, T, hst, hn, hTn, hk, htk, S1⟩
  cases hst
  obtain ⟨k, rfl⟩ : ∃ k', k = k' + 1 := ⟨k - 1, by omega⟩
  refine IFB_dec (fun hlt => ⟨⟨by omega, hlt⟩, ?_⟩) (fun hge => ?_)
  · have hnl : n < s.size := by omega
    have hnb : n < (bl s).length := by rw [bl_length]; exact hnl
    have hdr : (bl s).drop n = (bl s)[n] :: (bl s).drop (n + 1) := (List.getElem_cons_drop hnb).symm
    rw [Int.toNat_natCast, sget_at hnl]
    rw [hdr, toksF] at htk
    have blank : ((bl s)[n].toNat = 32 ∨ (bl s)[n].toNat = 10) → (∃ (a' : Option Addr) (c' n' k' : Nat) (T' : List Tk), [Value.slice a T.length c, .int .i64 (IntKind.i64.wrap ((n : Int) + 1))] = [.slice a' T'.length c', .int .i64 (n' : Int)] ∧ n' ≤ s.size ∧ T'.length ≤ n' ∧ s.size - n' < k' ∧ toksF (s.size + 1) (bl s) 0 = (match toksF k' ((bl s).drop n') n' with | .error e => .error e | .ok T'' => .ok (T' ++ T'')) ∧ ST w w1 [tksI a' c' T']) ∧ s.size - (IntKind.i64.wrap ((n : Int) + 1)).toNat < s.size - ((n : Nat) : Int).toNat := fun hb => by
      rw [if_pos hb] at htk
      rw [wrap_succ (by omega)]
      exact ⟨⟨a, c, n + 1, k, T, rfl, by omega, by omega, by omega, htk, S1⟩, by simp only [Int.toNat_natCast]; omega⟩
    have hb1 : (0 : Int) ≤ (n : Int) := by omega
    have hb2 : (0 : Int) ≤ (n : Int) ∧ (n : Int) ≤ (s.size : Int) ∧ (s.size : Int) ≤ (s.size : Int) := by omega
    have e32 : ∀ c : UInt8, ((c.toNat : Nat) : Int) = 32 → c.toNat = 32 := fun c h => by omega
    have e10 : ∀ c : UInt8, ((c.toNat : Nat) : Int) = 10 → c.toNat = 10 := fun c h => by omega
    refine IFB_eq (fun h => blank (.inl (e32 _ h))) (fun h32 => ⟨⟨hb1, hlt⟩, IFB_eq (fun h => blank (.inr (e10 _ h))) (fun h10 => ⟨hb2, ?_⟩)⟩)
    clear blank
    rw [if_neg (by omega)] at htk
    have hbe : bl (s.extract n s.size) = (bl s)[n] :: (bl s).drop (n + 1) := by
      rw [bl_extract, hdr, List.take_of_length_le]
      simp [bl_length]
    have hse : (s.extract n s.size).size = s.size - n := by rw [← bl_length, bl_extract]; simp [bl_length]
    refine S1.call0 (ref11_length_ok (by omega) (by omega)) ⟨_, _, rfl, ?_⟩
    rw [hbe]
    obtain ⟨m, hm⟩ : ∃ m, m = lenT ((bl s)[n] :: (bl s).drop (n + 1)) := ⟨_, rfl⟩
    rw [← hm] at htk ⊢
    have hml : m.1 ≤ s.size - n := by
      have := lenT_le ((bl s)[n] :: (bl s).drop (n + 1))
      rw [← hm, ← hdr, List.length_drop, bl_length] at this
      exact this
    refine IFB_eq (fun h0 => ?_) (fun h0 => ?_)
    · rw [if_pos (by omega)] at htk
      unfold ToksV
      rw [htk]
      exact ⟨rfl, S1.bel⟩
    · rw [if_neg (by omega), ← hdr, List.drop_drop] at htk
      have ew : IntKind.i64.wrap ((n : Int) + (m.1 : Int)) = ((n + m.1 : Nat) : Int) := by rw [wrap_i64 (by omega) (by omega)]; omega
      rw [ew, Int.toNat_natCast]
      refine ⟨⟨by omega, by omega, by omega⟩, S1.newB fun b8 w3 _ _ S3 => ?_⟩
      refine S3.app 1 rfl tTks rfl (by omega) (by omega) (S3.rdc 0 rfl) (mm := 1) rfl (by intro u hu; simp at hu; rcases hu with rfl | rfl | rfl <;> rfl) (by omega) fun a' c' w4 S4 => ⟨_, _, _, rfl, ⟨a', c', n + m.1, k, T ++ [((n : Int), m.2, s.extract n (n + m.1))], by simp, by omega, by simp; omega, by omega, ?_, ?_⟩, by simp only [Int.toNat_natCast]; omega⟩
      · have he : s.extract n (n + m.1) = sof (((bl s).drop n).take m.1) := by rw [extract_eq, Nat.add_sub_cancel_left]
        rw [htk, he]
        cases toksF k ((bl s).drop (n + m.1)) (n + m.1) with
        | error e => rfl
        | ok T' => simp only [List.append_assoc, List.singleton_append]
      · have e : tksI a' c' (T ++ [((n : Int), m.2, s.extract n (n + m.1))]) = It.row ty.ref11_Token 3 a' (T.length + 1) c' (tksL T ++ tkC ((n : Int), m.2, s.extract n (n + m.1))) := by
          unfold tksI
          rw [List.length_append, List.length_singleton]
          simp [tksL]
        rw [e]
        exact S4.drop 1
  · obtain rfl : n = s.size := by omega
    rw [List.drop_eq_nil_of_le (by rw [bl_length]; omega), toksF] at htk
    refine S1.newB fun b11 w5 _ _ S5 => ?_
    refine S5.app 1 rfl tTks rfl (by omega) (by omega) (S5.rdc 0 rfl) (mm := 1) rfl (by intro u hu; simp at hu; rcases hu with rfl | rfl | rfl <;> rfl) (by omega) fun a' c' w6 S6 => ⟨_, _, _, rfl, ?_⟩
    unfold ToksV
    rw [htk]
    refine ⟨a', c', by simp, ?_⟩
    have e : tksI a' c' (T ++ [((s.size : Int), 0, E0)]) = It.row ty.ref11_Token 3 a' (T.length + 1) c' (tksL T ++ tkC ((s.size : Int), 0, E0)) := by
      unfold tksI
      rw [List.length_append, List.length_singleton]
      simp [tksL]
    rw [e]
    exact S6.drop 1
end
end Go.Proofs.YtbpdfpfgijhokaaGreatDoor
namespace Go.Proofs.YtbpdfpfgijhokaaGreatDoor
set_option maxRecDepth 100000
open Go.Dn Go.Proofs
open Go.RowKit (Below)
set_option linter.unusedVariables false
section
variable {w0 w : World} {H : List It}
theorem stI (S : ST w0 w H) (n : Nat) {b : Nat} {i : Itm} {a : Option Addr} {cap : Nat} (hn : H[n]? = some (itI b i a cap)) {Q : ByteArray → Int → Int → ByteArray → Int → Int → ByteArray → Option Addr → Nat → Nat → Prop} (hq : Q i.1 i.2.1 i.2.2.op i.2.2.nm i.2.2.v.1 i.2.2.v.2.1 i.2.2.v.2.2 a i.2.2.ks.length cap) :
    ∃ t0 : ByteArray, w.cell? ⟨b, 0, none⟩ = some (.string t0) ∧ ∃ t1 : Int, w.cell? ⟨b, 1, none⟩ = some (.int .i64 t1) ∧ ∃ t2 : Int, w.cell? ⟨b, 2, none⟩ = some (.int .i64 t2) ∧ ∃ t3 : ByteArray, w.cell? ⟨b, 3, none⟩ = some (.string t3) ∧ ∃ t4 : Int, w.cell? ⟨b, 4, none⟩ = some (.int .i64 t4) ∧ ∃ t5 : Int, w.cell? ⟨b, 5, none⟩ = some (.int .i64 t5) ∧ ∃ t6 : ByteArray, w.cell? ⟨b, 6, none⟩ = some (.string t6) ∧
      ∃ (t7 : Option Addr) (l c : Nat), w.cell? ⟨b, 7, none⟩ = some (.slice t7 l c) ∧ Q t0 t1 t2 t3 t4 t5 t6 t7 l c :=
  ⟨_, S.cell n hn rfl, _, S.cell n hn rfl, _, S.cell n hn rfl, _, S.cell n hn rfl, _, S.cell n hn rfl, _, S.cell n hn rfl, _, S.cell n hn rfl, _, _, _, S.cell n hn rfl, hq⟩
theorem stItm (S : ST w0 w H) (n : Nat) {b : Nat} {x0 x1 x2 x3 x4 x5 x6 x7 : Value} {t1 t2 t4 t5 : Int} {t0 t3 t6 : ByteArray} {a7 : Option Addr} {l7 c7 : Nat} {t : TypeId} (hn : H[n]? = some (It.cells b #[x0, x1, x2, x3, x4, x5, x6, x7] t)) {Q : ByteArray → Int → Int → ByteArray → Int → Int → ByteArray → Option Addr → Nat → Nat → World → Prop}
    (hk : ∀ w', ST w0 w' (H.set n (It.cells b #[.string t0, .int .i64 t1, .int .i64 t2, .string t3, .int .i64 t4, .int .i64 t5, .string t6, .slice a7 l7 c7] t)) → Q t0 t1 t2 t3 t4 t5 t6 a7 l7 c7 w') :
    STO ⟨b, 0, none⟩ (.string t0) (fun w => STO ⟨b, 1, none⟩ (.int .i64 t1) (fun w => STO ⟨b, 2, none⟩ (.int .i64 t2) (fun w => STO ⟨b, 3, none⟩ (.string t3) (fun w => STO ⟨b, 4, none⟩ (.int .i64 t4) (fun w => STO ⟨b, 5, none⟩ (.int .i64 t5) (fun w => STO ⟨b, 6, none⟩ (.string t6) (fun w => STO ⟨b, 7, none⟩ (.slice a7 l7 c7) (fun w =>
      ∃ r0 : ByteArray, w.cell? ⟨b, 0, none⟩ = some (.string r0) ∧ ∃ r1 : Int, w.cell? ⟨b, 1, none⟩ = some (.int .i64 r1) ∧ ∃ r2 : Int, w.cell? ⟨b, 2, none⟩ = some (.int .i64 r2) ∧ ∃ r3 : ByteArray, w.cell? ⟨b, 3, none⟩ = some (.string r3) ∧ ∃ r4 : Int, w.cell? ⟨b, 4, none⟩ = some (.int .i64 r4) ∧ ∃ r5 : Int, w.cell? ⟨b, 5, none⟩ = some (.int .i64 r5) ∧ ∃ r6 : ByteArray, w.cell? ⟨b, 6, none⟩ = some (.string r6) ∧
      ∃ (r7 : Option Addr) (l c : Nat), w.cell? ⟨b, 7, none⟩ = some (.slice r7 l c) ∧ Q r0 r1 r2 r3 r4 r5 r6 r7 l c w) w) w) w) w) w) w) w) w := by
  have hlt := (List.getElem?_eq_some_iff.1 hn).1
  have g : ∀ {x : It}, (H.set n x)[n]? = some x := List.getElem?_set_self hlt
  exact S.sto8 n hn fun w' S' => ⟨_, S'.cell n g rfl, _, S'.cell n g rfl, _, S'.cell n g rfl, _, S'.cell n g rfl, _, S'.cell n g rfl, _, S'.cell n g rfl, _, S'.cell n g rfl, _, _, _, S'.cell n g rfl, hk w' S'⟩
theorem stIx6 (S : ST w0 w H) (n : Nat) {b : Nat} {x0 x1 x2 x3 x4 x5 x6 x7 v2 v3 v4 v5 v6 v7 : Value} {t : TypeId} (hn : H[n]? = some (It.cells b #[x0, x1, x2, x3, x4, x5, x6, x7] t)) {k : World → Prop}
    (hk : ∀ w', ST w0 w' (H.set n (It.cells b #[x0, x1, v2, v3, v4, v5, v6, v7] t)) → k w') :
    STO ⟨b, 2, none⟩ v2 (fun w => STO ⟨b, 3, none⟩ v3 (fun w => STO ⟨b, 4, none⟩ v4 (fun w => STO ⟨b, 5, none⟩ v5 (fun w => STO ⟨b, 6, none⟩ v6 (fun w => STO ⟨b, 7, none⟩ v7 k w) w) w) w) w) w := by
  have hlt := (List.getElem?_eq_some_iff.1 hn).1
  have g : ∀ {x : It}, (H.set n x)[n]? = some x := List.getElem?_set_self hlt
  refine S.sto n hn (cs' := #[x0, x1, v2, x3, x4, x5, x6, x7]) (by simp) rfl fun w1 S1 => S1.sto n g (cs' := #[x0, x1, v2, v3, x4, x5, x6, x7]) (by simp) rfl fun w2 S2 => ?_
  rw [List.set_set] at S2
  refine S2.sto n g (cs' := #[x0, x1, v2, v3, v4, x5, x6, x7]) (by simp) rfl fun w3 S3 => ?_
  rw [List.set_set] at S3
  refine S3.sto n g (cs' := #[x0, x1, v2, v3, v4, v5, x6, x7]) (by simp) rfl fun w4 S4 => ?_
  rw [List.set_set] at S4
  refine S4.sto n g (cs' := #[x0, x1, v2, v3, v4, v5, v6, x7]) (by simp) rfl fun w5 S5 => ?_
  rw [List.set_set] at S5
  refine S5.sto n g (cs' := #[x0, x1, v2, v3, v4, v5, v6, v7]) (by simp) rfl fun w6 S6 => ?_
  rw [List.set_set] at S6
  exact hk w6 S6
end
def asW : ByteArray := ⟨#[97, 115]⟩
def zItC : Array Value := #[.string E0, .int .i64 0, .int .i64 0, .string E0, .int .i64 0, .int .i64 0, .string E0, .slice none 0 0]
def aggC : Array Value := #[.string ⟨#[99, 111, 117, 110, 116]⟩, .string ⟨#[115, 117, 109]⟩, .string ⟨#[109, 105, 110]⟩, .string ⟨#[109, 97, 120]⟩]
section
variable {w0 w : World} {H : List It} {b : Nat} {a : Option Addr} {c i : Nat} {T : List Tk}
theorem ritem_plain (hT : T.length ≤ 1000000) (h : Lone T i) (h2 : i + 2 < T.length) (has : seesB T[i + 1] asW = true) (hk : T[i + 2].2.1 = 1 ∧ isKeyB T[i + 2].2.2 = false) (S : ST w0 w (rpL b a c i T H)) :
    Calls Tryz.prog f.ref11_parser_item #[.pointer (some ⟨b, 0, none⟩)] w (Ret fun r w' => r = .agg ⟨itHead (T[i + 2].2.2, 0, colX T[i].2.2) none 0⟩ ∧ ST w0 w' (rpL b a c (i + 3) T H)) := by
  have hi : i < T.length := by omega
  apply R.ref11_parser_item_calls
  unfold R.ref11_parser_item
  refine S.newB fun b2 w1 _ _ S1 => S1.newB fun b3 w2 _ _ S2 => S2.newB fun b4 w3 _ _ S3 => ?_
  have S3 : ST w0 w3 (rpL b a c i T (It.cells b4 aggC ty.string :: It.cells b3 zItC ty.api_Item :: It.cells b2 zItC ty.api_Item :: H)) := (S3.pull 4 rfl).pull 4 rfl
  refine ⟨fun _ w => ST w0 w (rpL b a c i T (It.cells b4 aggC ty.string :: It.cells b3 zItC ty.api_Item :: It.cells b2 zItC ty.api_Item :: H)), forUp 4 (fun j w => ST w0 w (rpL b a c i T (It.cells b4 aggC ty.string :: It.cells b3 zItC ty.api_Item :: It.cells b2 zItC ty.api_Item :: H))) (by omega) S3 fun I M j w4 hj S4 next => IFB_dec (fun hlt => ⟨⟨by omega, hlt⟩, ?_⟩) (fun hge => S4), fun w20 S20 => ?_⟩
  · have hj4 : j < 4 := by omega
    obtain ⟨s, hs, hm⟩ : ∃ s : ByteArray, aggC[j]? = some (.string s) ∧ s ∈ headW := by
      have : j = 0 ∨ j = 1 ∨ j = 2 ∨ j = 3 := by omega
      rcases this with rfl | rfl | rfl | rfl
      · exact ⟨_, rfl, by simp [headW]⟩
      · exact ⟨_, rfl, by simp [headW]⟩
      · exact ⟨_, rfl, by simp [headW]⟩
      · exact ⟨_, rfl, by simp [headW]⟩
    refine ⟨s, ?_, rtakesN S4 hi hT (h.hd hi s hm) fun w10 S10 => ⟨_, rfl, IFB_not (IFB_false (next _ hj4 S10))⟩⟩
    rw [Int.toNat_natCast, Nat.mul_one, addr_add_blk, Nat.zero_add]
    exact S4.cell 2 rfl hs
  · refine ⟨_, S20.cell 3 rfl rfl, IFB_eq (fun _ => (ror_ok hT h S20).mono ?_) (fun h => absurd rfl h)⟩
    rintro _ w21 ⟨_, rfl, rfl, S21⟩
    refine ⟨_, _, _, _, _, _, _, _, rfl, stIx6 S21 3 rfl fun w27 S27 => ?_⟩
    have S27 : ST w0 w27 (rpL b a c (i + 1) T (It.cells b4 aggC ty.string :: itI b3 (E0, 0, colX T[i].2.2) none 0 :: It.cells b2 zItC ty.api_Item :: H)) := S27
    refine rneedsY S27 h.lt hT has fun w28 S28 => ⟨rfl, rnameY S28 h2 hT hk.1 hk.2 fun w29 S29 => ⟨_, rfl, S29.sto 3 rfl (i := 0) (cs' := ⟨itHead (T[i + 2].2.2, 0, colX T[i].2.2) none 0⟩) (by show 0 < 8; omega) rfl fun w30 S30 => ?_⟩⟩
    have S30 : ST w0 w30 (rpL b a c (i + 3) T (It.cells b4 aggC ty.string :: itI b3 (T[i + 2].2.2, 0, colX T[i].2.2) none 0 :: It.cells b2 zItC ty.api_Item :: H)) := S30
    exact stI S30 3 rfl (stItm S30 4 rfl fun w38 S38 => ⟨rfl, rpL_out (rpL_out (rpL_out S38))⟩)
theorem ritem_sum (hT : T.length ≤ 1000000) (h5 : i + 5 < T.length) (hc : seesB T[i] ⟨#[99, 111, 117, 110, 116]⟩ = false) (hsm : seesB T[i] ⟨#[115, 117, 109]⟩ = true) (ho : seesB T[i + 1] ⟨#[40]⟩ = true) (h : Lone T (i + 2)) (hcl : seesB T[i + 3] ⟨#[41]⟩ = true) (has : seesB T[i + 4] asW = true) (hk : T[i + 5].2.1 = 1 ∧ isKeyB T[i + 5].2.2 = false) (S : ST w0 w (rpL b a c i T H)) :
    Calls Tryz.prog f.ref11_parser_item #[.pointer (some ⟨b, 0, none⟩)] w (Ret fun r w' => r = .agg ⟨itHead (T[i + 5].2.2, 3, colX T[i + 2].2.2) none 0⟩ ∧ ST w0 w' (rpL b a c (i + 6) T H)) := by
  have hi : i < T.length := by omega
  apply R.ref11_parser_item_calls
  unfold R.ref11_parser_item
  refine S.newB fun b2 w1 _ _ S1 => S1.newB fun b3 w2 _ _ S2 => S2.newB fun b4 w3 _ _ S3 => ?_
  have S3 : ST w0 w3 (rpL b a c i T (It.cells b4 aggC ty.string :: It.cells b3 zItC ty.api_Item :: It.cells b2 zItC ty.api_Item :: H)) := (S3.pull 4 rfl).pull 4 rfl
  refine ⟨fun _ w => ST w0 w (rpL b a c (i + 4) T (It.cells b4 aggC ty.string :: itI b3 (E0, 3, colX T[i + 2].2.2) none 0 :: It.cells b2 zItC ty.api_Item :: H)), forUp 4 (fun j w => j ≤ 1 ∧ ST w0 w (rpL b a c i T (It.cells b4 aggC ty.string :: It.cells b3 zItC ty.api_Item :: It.cells b2 zItC ty.api_Item :: H))) (by omega) ⟨by omega, S3⟩ fun I M j w4 hj hS4 next => ?_, fun w20 S20 => ?_⟩
  · obtain ⟨hj1, S4⟩ := hS4
    refine IFB_dec (fun hlt => ⟨⟨by omega, hlt⟩, ?_⟩) (fun hge => by omega)
    rw [Int.toNat_natCast, Nat.mul_one, addr_add_blk, Nat.zero_add]
    rcases (show j = 0 ∨ j = 1 by omega) with rfl | rfl
    · exact ⟨_, S4.cell 2 rfl rfl, rtakesN S4 hi hT hc fun w10 S10 => ⟨_, rfl, IFB_not (IFB_false (next _ (by omega) ⟨by omega, S10⟩))⟩⟩
    · refine ⟨_, S4.cell 2 rfl rfl, rtakesY S4 hi hT hsm fun w5 S5 => ⟨_, rfl, IFB_not (IFB_true (rneedsY S5 (by omega) hT ho fun w6 S6 => ⟨rfl, fun st w => st = [.bool false] ∧ ST w0 w (rpL b a c (i + 2) T (It.cells b4 aggC ty.string :: It.cells b3 zItC ty.api_Item :: It.cells b2 zItC ty.api_Item :: H)), IFB_eq (fun h => by cases h) (fun _ => ⟨rfl, S6⟩), ?_⟩))⟩⟩
      rintro _ w8 ⟨hst, S8⟩
      cases hst
      refine S8.sto 3 rfl (i := 1) (cs' := #[.string E0, .int .i64 3, .int .i64 0, .string E0, .int .i64 0, .int .i64 0, .string E0, .slice none 0 0]) (by show 1 < 8; omega) (by rfl) fun w9 S9 => IFB_false ((ror_ok hT h S9).mono ?_)
      rintro _ w12 ⟨_, rfl, rfl, S12⟩
      refine ⟨_, _, _, _, _, _, _, _, rfl, stIx6 S12 3 rfl fun w18 S18 => rneedsY S18 (by omega) hT hcl fun w19 S19 => ⟨rfl, S19⟩⟩
  · refine ⟨_, S20.cell 3 rfl rfl, IFB_eq (fun h => by cases h) (fun _ => rneedsY S20 (by omega) hT has fun w28 S28 => ⟨rfl, rnameY S28 h5 hT hk.1 hk.2 fun w29 S29 => ⟨_, rfl, S29.sto 3 rfl (i := 0) (cs' := ⟨itHead (T[i + 5].2.2, 3, colX T[i + 2].2.2) none 0⟩) (by show 0 < 8; omega) rfl fun w30 S30 => ?_⟩⟩)⟩
    have S30 : ST w0 w30 (rpL b a c (i + 6) T (It.cells b4 aggC ty.string :: itI b3 (T[i + 5].2.2, 3, colX T[i + 2].2.2) none 0 :: It.cells b2 zItC ty.api_Item :: H)) := S30
    exact stI S30 3 rfl (stItm S30 4 rfl fun w38 S38 => ⟨rfl, rpL_out (rpL_out (rpL_out S38))⟩)
end
theorem type_err {cs : List Col} {x : Ex} {e : Int} (h : typeE cs x = .error e) : e ≠ 0 := by
  unfold typeE at h
  split at h
  · split at h
    · have := kind_err h; omega
    · cases h; decide
  · cases h; decide
theorem any_snoc {α : Type} {p : α → Bool} {l : List α} {i : Nat} (hi : i < l.length) (h : ∀ x ∈ l.take i, p x = false) (h2 : p l[i] = false) : ∀ x ∈ l.take (i + 1), p x = false := by
  intro x hx
  rw [List.take_succ_eq_append_getElem hi] at hx
  rcases List.mem_append.1 hx with hx | hx
  · exact h x hx
  · rw [List.mem_singleton.1 hx]; exact h2
theorem any_no {α : Type} {p : α → Bool} {l : List α} (h : ∀ x ∈ l, p x = false) : l.any p = false := by
  rw [Bool.eq_false_iff]
  intro hc
  obtain ⟨x, hx, hp⟩ := List.any_eq_true.1 hc
  rw [h x hx] at hp
  cases hp
section
variable {w : World} {q : Qu} {ai aw ag ao : Option Addr} {ci cw cg co : Nat}
theorem ref12_Gathers_ok (Q : QAt w q ai aw ag ao) : Calls Tryz.prog f.ref12_Gathers #[.agg ⟨quL q ai aw ag ao ci cw cg co⟩] w (Ret fun r w' => r = .bool (gathersQ q) ∧ Below w.heap.size w w') := by
  apply R.ref12_Gathers_calls
  unfold R.ref12_Gathers
  obtain ⟨ri, hri, hCi⟩ := Q.it
  refine (ST.start w).newB fun b6 w1 _ _ S1 => ?_
  have S1 : ST w w1 [quI b6 q ai aw ag ao ci cw cg co] := S1
  refine forUp q.it.length (fun i w3 => (∀ x ∈ q.it.take i, decide (x.2.1 ≠ 0) = false) ∧ ST w w3 [quI b6 q ai aw ag ao ci cw cg co]) Q.nit ⟨by simp, S1⟩ fun I M i w3 hi h next => ?_
  obtain ⟨hall, S3⟩ := h
  refine ⟨_, _, _, S3.cell 0 rfl rfl, IFB_dec (fun hlt => ⟨_, _, _, S3.cell 0 rfl rfl, ⟨by omega, hlt⟩, ?_⟩) (fun hge => ⟨_, _, _, S3.cell 0 rfl rfl, ?_, S3.bel⟩)⟩
  · have hil : i < q.it.length := by change (i : Int) < (q.it.length : Int) at hlt; omega
    obtain ⟨p, a3, cap3, rfl, hxk, hsz, cell⟩ := item_at (hri.grown S3.bel) hCi hil
    refine ⟨_, by rw [Int.toNat_natCast]; exact cell 1 _ rfl, IFB_ne (fun h => ⟨?_, S3.bel⟩) (fun h => next _ hil ⟨any_snoc hil hall (by simpa using h), S3⟩)⟩
    have : (q.it.any fun i => decide (i.2.1 ≠ 0)) = true := List.any_eq_true.2 ⟨q.it[i], List.getElem_mem hil, by simpa using h⟩
    rw [gathersQ, this]
    rfl
  · have hil : i = q.it.length := by change ¬ (i : Int) < (q.it.length : Int) at hge; omega
    rw [hil, List.take_length] at hall
    rw [gathersQ, any_no hall, Bool.false_or]
    congr 1
    rw [decide_eq_decide]
    omega
theorem ref12_among_ok {x : Ex} {a : Option Addr} {cap : Nat} (hx : XC w x (exHead x a cap)) {al : Option Addr} {cl : Nat} {rs : List Value} {l : List Ex} (hl : Rd w al rs) (hC : RowsC (ExC (fun _ => False) w) l rs) (hn : l.length ≤ 9223372036854775807) :
    Calls Tryz.prog f.ref12_among #[.agg ⟨exHead x a cap⟩, .slice al l.length cl] w (Ret fun r w' => r = .bool (l.any fun g => sameF x g) ∧ Below w.heap.size w w') := by
  apply R.ref12_among_calls
  unfold R.ref12_among
  refine (ST.start w).newB fun b8 w1 _ _ S1 => ?_
  have S1 : ST w w1 [exI b8 (exHead x a cap)] := S1
  refine forUp l.length (fun i w3 => (∀ y ∈ l.take i, sameF x y = false) ∧ ST w w3 [exI b8 (exHead x a cap)]) hn ⟨by simp, S1⟩ fun I M i w3 hi h next => ?_
  obtain ⟨hall, S3⟩ := h
  refine IFB_dec (fun hlt => S3.draw fun w4 _ S4 => ⟨⟨by omega, hlt⟩, ?_⟩) (fun hge => ⟨?_, S3.bel⟩)
  · have hil : i < l.length := by omega
    obtain ⟨p, a3, cap3, rfl, hxk, cell⟩ := exs_at (hl.grown S4.bel) hC hil
    refine stX S4 0 rfl ?_
    rw [Int.toNat_natCast]
    refine ldX cell ?_
    refine S4.call (ref10_Same_ok (hx.grown S4.bel) (hxk.grown S4.bel)) fun w5 _ S5 => ⟨_, rfl, IFB_of (fun h => ⟨?_, S5.bel⟩) (fun h => next _ hil ⟨any_snoc hil hall h, S5⟩)⟩
    rw [List.any_eq_true.2 ⟨l[i], List.getElem_mem hil, h⟩]
  · rw [List.take_of_length_le (by omega)] at hall
    rw [any_no hall]
def colV : Except Int Col → Value
  | .ok c => .tuple #[.agg #[.string c.1, .int .i64 c.2.1, .bool c.2.2], .int .i64 0]
  | .error e => .tuple #[.agg #[.string E0, .int .i64 0, .bool false], .int .i64 e]
theorem among_same (x : Ex) (l : List Ex) : amongX x l = l.any fun g => sameF x g := rfl
theorem ref12_item_ok {cs : List Col} {a1 : Option Addr} {c1 : Nat} (hl : Rd w a1 (colsL cs)) (hn : cs.length ≤ 9223372036854775807) (hq : ∀ c ∈ cs, c.1.size ≤ 9223372036854775807) (Q : QAt w q ai aw ag ao) {i : Nat} (hi : i < q.it.length) :
    Calls Tryz.prog f.ref12_item #[.slice a1 cs.length c1, .agg ⟨quL q ai aw ag ao ci cw cg co⟩, .int .i64 (i : Int)] w (Ret fun r w' => r = colV (itemP cs q i q.it[i]) ∧ Below w.heap.size w w') := by
  apply R.ref12_item_calls
  unfold R.ref12_item
  obtain ⟨ri, hri, hCi⟩ := Q.it
  obtain ⟨rg, hrg, hCg⟩ := Q.gr
  obtain ⟨x, hxe⟩ : ∃ x, x = q.it[i] := ⟨_, rfl⟩
  refine (ST.start w).newB fun b8 w1 _ _ S1 => S1.newB fun b9 w2 _ _ S2 => ⟨_, _, _, S2.cell 1 rfl rfl, ⟨by omega, by change (i : Int) < (q.it.length : Int); omega⟩, ?_⟩
  obtain ⟨p, a3, cap3, hpa, hxk, hsz, cell⟩ := item_at (hri.grown S2.bel) hCi hi
  rw [← hxe] at hxk cell ⊢
  subst hpa
  have S2 : ST w w2 [It.cells b9 #[.string E0, .int .i64 0, .bool false] ty.api_Column, quI b8 q (some p) aw ag ao ci cw cg co] := S2
  rw [Int.toNat_natCast]
  refine ldI cell (S2.lit8 fun b20 w11 _ S11 => ?_)
  have S11 : ST w w11 [itI b20 x a3 cap3, It.cells b9 #[.string E0, .int .i64 0, .bool false] ty.api_Column, quI b8 q (some p) aw ag ao ci cw cg co] := S11
  refine ⟨fun st w20 => ∃ k, st = [.int .i64 (if x.2.1 = 1 ∨ x.2.1 = 2 then 1 else orInt k)] ∧ ((x.2.1 = 1 ∧ k = 1) ∨ (x.2.1 ≠ 1 ∧ typeE cs x.2.2 = .ok k)) ∧ ¬ (x.2.1 = 3 ∧ orInt k ≠ 1) ∧ ST w w20 [itI b20 x a3 cap3, It.cells b9 #[.string E0, .int .i64 0, .bool false] ty.api_Column, quI b8 q (some p) aw ag ao ci cw cg co], ?_, ?_⟩
  · refine ⟨_, S11.cell 0 rfl rfl, IFB_ne (fun h1 => ?_) (fun h1 => ⟨1, by rw [if_pos (.inl h1)], .inl ⟨h1, rfl⟩, by change x.2.1 = 1 at h1; omega, S11⟩)⟩
    change x.2.1 ≠ 1 at h1
    refine stIx S11 0 rfl ?_
    refine S11.call (ref10_Type_ok (hl.grown S11.bel) hn hq (hxk.grown S11.bel)) fun w12 _ S12 => ?_
    cases hT : typeE cs x.2.2 with
    | error e =>
      refine ⟨_, _, rfl, IFB_ne (fun _ => stCol S12 1 rfl fun w15 S15 => ⟨?_, S15.bel⟩) (fun h => absurd h (type_err hT))⟩
      rw [itemP, if_neg h1, hT]
      rfl
    | ok k =>
      refine ⟨_, _, rfl, IFB_ne (fun h => absurd rfl h) (fun _ => ?_)⟩
      refine ⟨fun st w19 => st = [] ∧ ¬ (x.2.1 = 3 ∧ orInt k ≠ 1) ∧ ST w w19 [itI b20 x a3 cap3, It.cells b9 #[.string E0, .int .i64 0, .bool false] ty.api_Column, quI b8 q (some p) aw ag ao ci cw cg co], ?_, ?_⟩
      · refine ⟨_, S12.cell 0 rfl rfl, IFB_eq (fun h3 => IFB_ne (fun k1 => IFB_ne (fun k0 => stCol S12 1 rfl fun w15 S15 => ⟨?_, S15.bel⟩) (fun k0 => ⟨rfl, by rw [k0]; simp [orInt], S12⟩)) (fun k1 => ⟨rfl, by rw [k1]; simp [orInt], S12⟩)) (fun h3 => ⟨rfl, fun h => h3 h.1, S12⟩)⟩
        change x.2.1 = 3 at h3
        rw [itemP, if_neg h1, hT]
        simp only [itemK]
        rw [if_pos ⟨h3, by rw [orInt, if_neg k0]; exact k1⟩]
        rfl
      · rintro w19 ⟨_, h3, S19⟩
        refine ⟨_, S19.cell 0 rfl rfl, IFB_ne (fun h2 => ?_) (fun h2 => ⟨k, by rw [if_pos (.inr h2)], .inr ⟨h1, rfl⟩, h3, S19⟩)⟩
        change x.2.1 ≠ 2 at h2
        exact IFB_ne (fun k0 => ⟨k, by rw [if_neg (by omega), orInt, if_neg k0], .inr ⟨h1, rfl⟩, h3, S19⟩) (fun k0 => ⟨k, by rw [if_neg (by omega), orInt, if_pos k0], .inr ⟨h1, rfl⟩, h3, S19⟩)
  rintro t w20 ⟨k, hst, hk, h3, S20⟩
  obtain rfl : t = if x.2.1 = 1 ∨ x.2.1 = 2 then 1 else orInt k := by simpa using hst
  have hP : itemP cs q i x = itemK q i x k := by
    unfold itemP
    rcases hk with ⟨h1, rfl⟩ | ⟨h1, hT⟩
    · rw [if_pos h1]
    · rw [if_neg h1, hT]
  rw [hP]
  unfold itemK
  rw [if_neg h3]
  refine stQ S20 2 rfl (S20.call (ref12_Gathers_ok (Q.grown S20.bel)) fun w21 _ S21 => ⟨_, rfl, ?_⟩)
  refine stIx S21 0 rfl ⟨_, _, _, S21.cell 2 rfl rfl, S21.call (ref12_among_ok (hxk.grown S21.bel) (hrg.grown S21.bel) (hCg.mono fun _ _ h => h.grown S21.bel) Q.ngr) fun w22 _ S22 => ⟨_, rfl, ?_⟩⟩
  rw [← among_same]
  refine ⟨fun st w26 => st = [] ∧ ¬ (gathersQ q = true ∧ x.2.1 = 0 ∧ amongX x.2.2 q.gr = false) ∧ ST w w26 [itI b20 x a3 cap3, It.cells b9 #[.string E0, .int .i64 0, .bool false] ty.api_Column, quI b8 q (some p) aw ag ao ci cw cg co], ?_, ?_⟩
  · refine IFB_of (fun hg => ⟨_, S22.cell 0 rfl rfl, IFB_eq (fun h0 => IFB_not (IFB_of (fun ha => ⟨rfl, (fun h => by rw [ha] at h; cases h.2.2), S22⟩) (fun ha => stCol S22 1 rfl fun w15 S15 => ⟨?_, S15.bel⟩))) (fun h0 => ⟨rfl, fun h => h0 h.2.1, S22⟩)⟩) (fun hg => ⟨rfl, (fun h => by rw [hg] at h; cases h.1), S22⟩)
    rw [if_pos (.inl ⟨hg, h0, ha⟩)]
    rfl
  rintro w26 ⟨_, hno, S26⟩
  refine forUp i (fun j w3 => (∀ y ∈ (q.it.take i).take j, decide (y.1 = x.1) = false) ∧ ST w w3 [itI b20 x a3 cap3, It.cells b9 #[.string E0, .int .i64 0, .bool false] ty.api_Column, quI b8 q (some p) aw ag ao ci cw cg co]) (by have := Q.nit; omega) ⟨by simp, S26⟩ fun I M j w3 hj h next => ?_
  obtain ⟨hall, S3⟩ := h
  have hlen : (q.it.take i).length = i := by rw [List.length_take]; omega
  refine IFB_dec (fun hlt => S3.draw fun w4 _ S4 => ⟨_, _, _, S4.cell 2 rfl rfl, ⟨by omega, by change (j : Int) < (q.it.length : Int); omega⟩, ?_⟩) (fun hge => ?_)
  · have hjl : j < q.it.length := by omega
    obtain ⟨p2, a5, cap5, hp2, hyk, _, cell2⟩ := item_at (hri.grown S4.bel) hCi hjl
    cases hp2
    have hj2 : j < (q.it.take i).length := by omega
    have he : (q.it.take i)[j] = q.it[j] := List.getElem_take
    refine ⟨_, by rw [Int.toNat_natCast]; exact cell2 0 _ rfl, _, S4.cell 0 rfl rfl, ?_⟩
    rw [bytesEq_iff]
    refine IFB_dec (fun h => stCol S4 1 rfl fun w15 S15 => ⟨?_, S15.bel⟩) (fun h => next _ (by omega) ⟨any_snoc hj2 hall (by rw [he]; simpa using h), S4⟩)
    rw [if_pos (.inr (List.any_eq_true.2 ⟨q.it[j], he ▸ List.getElem_mem hj2, by simpa using h⟩))]
    rfl
  · rw [List.take_of_length_le (by omega)] at hall
    have hno2 : ¬ ((gathersQ q = true ∧ x.2.1 = 0 ∧ amongX x.2.2 q.gr = false) ∨ ((q.it.take i).any fun y => decide (y.1 = x.1)) = true) := by
      rw [any_no hall]
      rintro (h | h)
      · exact hno h
      · cases h
    refine ⟨_, S3.cell 0 rfl rfl, stCol S3 1 rfl fun w15 S15 => ⟨?_, S15.bel⟩⟩
    rw [if_neg hno2]
    rfl
end
def zCol : Value := .agg #[.string ⟨#[]⟩, .int .i64 0, .bool false]
theorem tCols : slT Tryz.prog ty.L_api_Column = some (ty.api_Column, 3, 32, zCol) := by kernel_rfl
def colsI (a : Option Addr) (c : Nat) (l : List Col) : It := It.row ty.api_Column 3 a l.length c (colsL l)
theorem cols_one (l : List Col) : ∀ u ∈ colsL l, u.oneCell' = true := by
  intro u hu
  obtain ⟨c, _, hc⟩ := List.mem_flatMap.1 hu
  simp only [colC, List.mem_cons, List.not_mem_nil, or_false] at hc
  rcases hc with rfl | rfl | rfl <;> rfl
theorem colsL_append (l m : List Col) : colsL (l ++ m) = colsL l ++ colsL m := List.flatMap_append
structure Pl where
  cs : List Col
  q : Qu
  out : List Col
  g : Bool
def Qu0 : Qu := ⟨[], [], [], [], 0⟩
def Pl0 : Pl := ⟨[], Qu0, [], false⟩
def plL (p : Pl) (a0 : Option Addr) (c0 : Nat) (ai : Option Addr) (ci : Nat) (aw : Option Addr) (cw : Nat) (ag : Option Addr) (cg : Nat) (ao : Option Addr) (co : Nat) (a6 : Option Addr) (c6 : Nat) : List Value :=
  [.slice a0 p.cs.length c0, .slice ai p.q.it.length ci, .slice aw p.q.wh.length cw, .slice ag p.q.gr.length cg, .slice ao p.q.od.length co, .int .i64 p.q.lim, .slice a6 p.out.length c6, .bool p.g]
structure PlAt (w : World) (p : Pl) (a0 ai aw ag ao a6 : Option Addr) : Prop where
  cs : Rd w a0 (colsL p.cs)
  ncs : p.cs.length ≤ 9223372036854775807
  qcs : ∀ c ∈ p.cs, c.1.size ≤ 9223372036854775807
  q : QAt w p.q ai aw ag ao
  out : Rd w a6 (colsL p.out)
  nout : p.out.length ≤ 9223372036854775807
theorem PlAt.grown {w w' : World} {p : Pl} {a0 ai aw ag ao a6 : Option Addr} (h : PlAt w p a0 ai aw ag ao a6) (B : Below w.heap.size w w') : PlAt w' p a0 ai aw ag ao a6 :=
  ⟨h.cs.grown B, h.ncs, h.qcs, h.q.grown B, h.out.grown B, h.nout⟩
theorem qat0 (w : World) : QAt w Qu0 none none none none :=
  ⟨⟨[], Rd.nil _ _, rfl⟩, ⟨[], Rd.nil _ _, rfl⟩, ⟨[], Rd.nil _ _, rfl⟩, ⟨[], Rd.nil _ _, rfl⟩, by decide, by decide, by decide, by decide, by decide⟩
theorem plat0 (w : World) : PlAt w Pl0 none none none none none none := ⟨Rd.nil _ _, by decide, by simp [Pl0], qat0 w, Rd.nil _ _, by decide⟩
def planOf (cs : List Col) (q : Qu) : Pl × Int :=
  match makeP cs q with
  | .ok out => (⟨cs, q, out, gathersQ q⟩, 0)
  | .error e => (Pl0, e)
def MakeV (cs : List Col) (q : Qu) (w w' : World) (v : Value) : Prop := ∃ a0 c0 ai ci aw cw ag cg ao co a6 c6, v = .tuple #[.agg ⟨plL (planOf cs q).1 a0 c0 ai ci aw cw ag cg ao co a6 c6⟩, .int .i64 (planOf cs q).2] ∧ PlAt w' (planOf cs q).1 a0 ai aw ag ao a6 ∧ (planOf cs q).1.q.it.length ≤ ci ∧ Below w.heap.size w w'
def plI (b : Nat) (p : Pl) (a0 : Option Addr) (c0 : Nat) (ai : Option Addr) (ci : Nat) (aw : Option Addr) (cw : Nat) (ag : Option Addr) (cg : Nat) (ao : Option Addr) (co : Nat) (a6 : Option Addr) (c6 : Nat) : It := It.cells b ⟨plL p a0 c0 ai ci aw cw ag cg ao co a6 c6⟩ ty.api_Plan
theorem make_err {cs : List Col} {q : Qu} {e : Int} (h : makeP cs q = .error e) {w w' : World} (B : Below w.heap.size w w') :
    MakeV cs q w w' (.tuple #[.agg #[.slice none 0 0, .slice none 0 0, .slice none 0 0, .slice none 0 0, .slice none 0 0, .int .i64 0, .slice none 0 0, .bool false], .int .i64 e]) := by
  have hp : planOf cs q = (Pl0, e) := by rw [planOf, h]
  unfold MakeV
  rw [hp]
  exact ⟨none, 0, none, 0, none, 0, none, 0, none, 0, none, 0, rfl, plat0 w', Nat.le_refl _, B⟩
theorem whereP_cons (cs : List Col) (x : Ex) (l : List Ex) : whereP cs (x :: l) = match typeE cs x with | .error e => some e | .ok k => if k ≠ 2 ∧ k ≠ 0 then some 121 else whereP cs l := rfl
theorem groupP_cons (cs : List Col) (x : Ex) (l : List Ex) : groupP cs (x :: l) = match typeE cs x with | .error e => some e | .ok _ => groupP cs l := rfl
theorem itemsP_cons (cs : List Col) (q : Qu) (i : Nat) (x : Itm) (l : List Itm) : itemsP cs q i (x :: l) = match itemP cs q i x with | .error e => .error e | .ok c => match itemsP cs q (i + 1) l with | .error e => .error e | .ok r => .ok (c :: r) := rfl
theorem where_split {cs : List Col} : ∀ {l m : List Ex}, whereP cs l = none → whereP cs (l ++ m) = whereP cs m
  | [], m, _ => rfl
  | x :: l, m, h => by
    rw [List.cons_append, whereP_cons]
    rw [whereP_cons] at h
    cases hT : typeE cs x with
    | error e => rw [hT] at h; cases h
    | ok k =>
      rw [hT] at h
      simp only at h ⊢
      split at h
      · cases h
      · rename_i hk; rw [if_neg hk]; exact where_split h
theorem group_split {cs : List Col} : ∀ {l m : List Ex}, groupP cs l = none → groupP cs (l ++ m) = groupP cs m
  | [], m, _ => rfl
  | x :: l, m, h => by
    rw [List.cons_append, groupP_cons]
    rw [groupP_cons] at h
    cases hT : typeE cs x with
    | error e => rw [hT] at h; cases h
    | ok k => rw [hT] at h; simp only at h ⊢; exact group_split h
theorem items_split {cs : List Col} {q : Qu} : ∀ {l m : List Itm} {i : Nat} {r : List Col}, itemsP cs q i l = .ok r → itemsP cs q i (l ++ m) = match itemsP cs q (i + l.length) m with | .error e => .error e | .ok r' => .ok (r ++ r')
  | [], m, i, r, h => by
    cases h
    simp only [List.nil_append, List.length_nil, Nat.add_zero]
    cases itemsP cs q i m <;> rfl
  | x :: l, m, i, r, h => by
    rw [List.cons_append, itemsP_cons]
    rw [itemsP_cons] at h
    split at h
    · cases h
    · rename_i c hc
      split at h
      · cases h
      · rename_i r0 hr
        cases h
        rw [items_split hr, List.length_cons, show i + (l.length + 1) = i + 1 + l.length by omega]
        cases itemsP cs q (i + 1 + l.length) m <;> rfl
theorem at_drop {α : Type} {l : List α} {i : Nat} (hi : i < l.length) : l = l.take i ++ l[i] :: l.drop (i + 1) := by rw [List.getElem_cons_drop, List.take_append_drop]
section
variable {cs : List Col} {q : Qu} (h1 : rightCols cs = true) (h2 : rightQ q = true)
include h1 h2
theorem make_where {e : Int} (h : whereP cs q.wh = some e) : makeP cs q = .error e := by
  unfold makeP; rw [if_neg (by rw [h1]; decide), if_neg (by rw [h2]; decide), h]
theorem make_group {e : Int} (hw : whereP cs q.wh = none) (h : groupP cs q.gr = some e) : makeP cs q = .error e := by
  unfold makeP; rw [if_neg (by rw [h1]; decide), if_neg (by rw [h2]; decide), hw, h]
theorem make_items (hw : whereP cs q.wh = none) (h : groupP cs q.gr = none) : makeP cs q = itemsP cs q 0 q.it := by
  unfold makeP; rw [if_neg (by rw [h1]; decide), if_neg (by rw [h2]; decide), hw, h]
end
theorem item_err {cs : List Col} {q : Qu} {i : Nat} {x : Itm} {e : Int} (h : itemP cs q i x = .error e) : e ≠ 0 := by
  have hK : ∀ k, itemK q i x k = .error e → e ≠ 0 := by
    intro k h
    unfold itemK at h
    split at h
    · cases h; decide
    · split at h
      · cases h; decide
      · cases h
  unfold itemP at h
  split at h
  · exact hK _ h
  · split at h
    · rename_i hT
      cases h
      exact type_err hT
    · exact hK _ h
section
variable {w : World} {q : Qu} {ai aw ag ao : Option Addr} {ci cw cg co : Nat}
theorem ref12_Make_ok {cs : List Col} {a1 : Option Addr} {c1 : Nat} (hl : Rd w a1 (colsL cs)) (hn : cs.length ≤ 9223372036854775807) (hq : ∀ c ∈ cs, c.1.size ≤ 9223372036854775807) (Q : QAt w q ai aw ag ao) (hci : q.it.length ≤ ci) :
    Calls Tryz.prog f.ref12_Make #[.slice a1 cs.length c1, .agg ⟨quL q ai aw ag ao ci cw cg co⟩] w (Ret fun r w' => MakeV cs q w w' r) := by
  apply R.ref12_Make_calls
  unfold R.ref12_Make
  obtain ⟨rw_, hrw, hCw⟩ := Q.wh
  obtain ⟨rg, hrg, hCg⟩ := Q.gr
  refine (ST.start w).newB fun b7 w1 _ _ S1 => S1.newB fun b8 w2 _ _ S2 => S2.call0 (ref05_Right_ok (hl.grown S2.bel) hn hq) ⟨_, rfl, IFB_not (IFB_of (fun h1 => ?_) (fun h1 => stPlan S2 0 rfl fun w11 S11 => make_err (by rw [makeP, if_pos h1]) S11.bel))⟩
  have S2 : ST w w2 [It.cells b8 #[.slice none 0 0, .slice none 0 0, .slice none 0 0, .slice none 0 0, .slice none 0 0, .int .i64 0, .slice none 0 0, .bool false] ty.api_Plan, quI b7 q ai aw ag ao ci cw cg co] := S2
  refine stQ S2 1 rfl (S2.call (ref11_Right_ok (Q.grown S2.bel)) fun w12 _ S12 => ⟨_, rfl, IFB_not (IFB_of (fun h2 => ?_) (fun h2 => stPlan S12 0 rfl fun w11 S11 => make_err (by rw [makeP, if_neg (by rw [h1]; decide), if_pos h2]) S11.bel))⟩)
  obtain ⟨H, hH⟩ : ∃ H, H = [It.cells b8 #[.slice none 0 0, .slice none 0 0, .slice none 0 0, .slice none 0 0, .slice none 0 0, .int .i64 0, .slice none 0 0, .bool false] ty.api_Plan, quI b7 q ai aw ag ao ci cw cg co] := ⟨_, rfl⟩
  have g0 : H[0]? = some (It.cells b8 #[.slice none 0 0, .slice none 0 0, .slice none 0 0, .slice none 0 0, .slice none 0 0, .int .i64 0, .slice none 0 0, .bool false] ty.api_Plan) := by rw [hH]; rfl
  have g1 : H[1]? = some (quI b7 q ai aw ag ao ci cw cg co) := by rw [hH]; rfl
  rw [← hH] at S12
  refine forUp q.wh.length (fun i w3 => whereP cs (q.wh.take i) = none ∧ ST w w3 H) Q.nwh ⟨rfl, S12⟩ fun I M i w3 hi h next => ?_
  obtain ⟨hall, S3⟩ := h
  refine ⟨_, _, _, S3.cell 1 g1 rfl, IFB_dec (fun hlt => ⟨_, _, _, S3.cell 1 g1 rfl, ⟨by omega, hlt⟩, ?_⟩) (fun hge => ?_)⟩
  · have hil : i < q.wh.length := by change (i : Int) < (q.wh.length : Int) at hlt; omega
    obtain ⟨p, a3, cap3, rfl, hxk, cell⟩ := exs_at (hrw.grown S3.bel) hCw hil
    rw [Int.toNat_natCast]
    refine ldX cell (S3.call (ref10_Type_ok (hl.grown S3.bel) hn hq (hxk.grown S3.bel)) fun w4 _ S4 => ?_)
    have hsp := where_split (m := q.wh[i] :: q.wh.drop (i + 1)) hall
    rw [← at_drop hil] at hsp
    rw [whereP_cons] at hsp
    cases hT : typeE cs q.wh[i] with
    | error e =>
      rw [hT] at hsp
      exact ⟨_, _, rfl, IFB_ne (fun _ => stPlan S4 0 g0 fun w11 S11 => make_err (make_where h1 h2 hsp) S11.bel) (fun h => absurd h (type_err hT))⟩
    | ok k =>
      rw [hT] at hsp
      have ok : ¬ (k ≠ 2 ∧ k ≠ 0) → whereP cs (q.wh.take (i + 1)) = none := fun hk => by
        rw [List.take_succ_eq_append_getElem hil, where_split hall, whereP, hT]
        simp only
        rw [if_neg hk]
        rfl
      exact ⟨_, _, rfl, IFB_ne (fun h => absurd rfl h) (fun _ => IFB_ne (fun k2 => IFB_ne (fun k0 => stPlan S4 0 g0 fun w11 S11 => make_err (make_where h1 h2 (by rw [hsp]; exact if_pos ⟨k2, k0⟩)) S11.bel) (fun k0 => next _ hil ⟨ok (fun h => h.2 k0), S4⟩)) (fun k2 => next _ hil ⟨ok (fun h => h.1 k2), S4⟩))⟩
  have hw : whereP cs q.wh = none := by
    rw [List.take_of_length_le (by change ¬ (i : Int) < (q.wh.length : Int) at hge; omega)] at hall
    exact hall
  clear hall hge hi next
  refine forUp q.gr.length (fun i w3 => groupP cs (q.gr.take i) = none ∧ ST w w3 H) Q.ngr ⟨rfl, S3⟩ fun I M i w3 hi h next => ?_
  clear S3
  obtain ⟨hall, S3⟩ := h
  refine ⟨_, _, _, S3.cell 1 g1 rfl, IFB_dec (fun hlt => ⟨_, _, _, S3.cell 1 g1 rfl, ⟨by omega, hlt⟩, ?_⟩) (fun hge => ?_)⟩
  · have hil : i < q.gr.length := by change (i : Int) < (q.gr.length : Int) at hlt; omega
    obtain ⟨p, a3, cap3, rfl, hxk, cell⟩ := exs_at (hrg.grown S3.bel) hCg hil
    rw [Int.toNat_natCast]
    refine ldX cell (S3.call (ref10_Type_ok (hl.grown S3.bel) hn hq (hxk.grown S3.bel)) fun w4 _ S4 => ?_)
    have hsp := group_split (m := q.gr[i] :: q.gr.drop (i + 1)) hall
    rw [← at_drop hil] at hsp
    rw [groupP_cons] at hsp
    cases hT : typeE cs q.gr[i] with
    | error e =>
      rw [hT] at hsp
      exact ⟨_, _, rfl, IFB_ne (fun _ => stPlan S4 0 g0 fun w11 S11 => make_err (make_group h1 h2 hw hsp) S11.bel) (fun h => absurd h (type_err hT))⟩
    | ok k =>
      exact ⟨_, _, rfl, IFB_ne (fun h => absurd rfl h) (fun _ => next _ hil ⟨by rw [List.take_succ_eq_append_getElem hil, group_split hall, groupP, hT]; rfl, S4⟩)⟩
  have hg : groupP cs q.gr = none := by
    rw [List.take_of_length_le (by change ¬ (i : Int) < (q.gr.length : Int) at hge; omega)] at hall
    exact hall
  clear hall hge hi next
  have hmk := make_items h1 h2 hw hg
  refine ⟨fun st w70 => ∃ b, st = [.pointer (some ⟨b, 0, none⟩)] ∧ ST w w70 (plI b ⟨cs, q, [], gathersQ q⟩ a1 c1 ai ci aw cw ag cg ao co none 0 :: H), S3.draw fun w49 _ S => ?_, ?_⟩
  · have five : ∀ {w'} {K : List It}, ST w w' (K ++ H) → w'.cell? ⟨b7, 0, none⟩ = some (.slice ai q.it.length ci) ∧ w'.cell? ⟨b7, 1, none⟩ = some (.slice aw q.wh.length cw) ∧ w'.cell? ⟨b7, 2, none⟩ = some (.slice ag q.gr.length cg) ∧ w'.cell? ⟨b7, 3, none⟩ = some (.slice ao q.od.length co) ∧ w'.cell? ⟨b7, 4, none⟩ = some (.int .i64 q.lim) := fun {w'} {K} S => by
      have S := S.sub (List.sublist_append_right K H)
      exact ⟨S.cell 1 g1 rfl, S.cell 1 g1 rfl, S.cell 1 g1 rfl, S.cell 1 g1 rfl, S.cell 1 g1 rfl⟩
    refine stQ S 1 g1 (stQ S 1 g1 ⟨S.call (ref12_Gathers_ok (Q.grown S.bel)) fun w50 _ S50 => ⟨_, rfl, five (K := []) S50, S50.newB fun b51 w51 _ _ S51 => ⟨five (K := [_]) S51, S51.sto8 0 rfl fun w59 S59 => ⟨b51, rfl, S59⟩⟩⟩, S.newB fun b60 w60 _ _ S60 => ⟨five (K := [_]) S60, five (K := [_]) S60, S60.call (ref12_Gathers_ok (Q.grown S60.bel)) fun w61 _ S61 => ⟨_, rfl, five (K := [_]) S61, S61.sto8 0 rfl fun w69 S69 => ⟨b60, rfl, S69⟩⟩⟩⟩)
  rintro pp w70 ⟨b, hst, S70⟩
  obtain rfl : pp = some ⟨b, 0, none⟩ := by simpa using hst
  obtain ⟨_, hit, _⟩ := smallQ_iff.1 (rightQ_small h2).1
  have hn16 := (smallQ_iff.1 (rightQ_small h2).1).1.2.1
  refine forUp q.it.length (fun i w3 => ∃ out a6 c6, itemsP cs q 0 (q.it.take i) = .ok out ∧ ST w w3 (colsI a6 c6 out :: plI b ⟨cs, q, out, gathersQ q⟩ a1 c1 ai ci aw cw ag cg ao co a6 c6 :: H)) Q.nit ⟨[], none, 0, rfl, S70.nil _ _⟩ fun I M i w3 hi h next => ?_
  obtain ⟨out, a6, c6, hall, S3⟩ := h
  have hol := (itemsP_len hall).1
  rw [List.length_take, Nat.min_eq_left hi] at hol
  have g3 : (colsI a6 c6 out :: plI b ⟨cs, q, out, gathersQ q⟩ a1 c1 ai ci aw cw ag cg ao co a6 c6 :: H)[3]? = some (quI b7 q ai aw ag ao ci cw cg co) := g1
  refine ⟨_, _, _, S3.cell 3 g3 rfl, IFB_dec (fun hlt => ?_) (fun hge => ?_)⟩
  · have hil : i < q.it.length := by change (i : Int) < (q.it.length : Int) at hlt; omega
    refine stQ S3 3 g3 (S3.call (ref12_item_ok (hl.grown S3.bel) hn hq (Q.grown S3.bel) hil) fun w80 _ S80 => ?_)
    have hsp := items_split (m := q.it[i] :: q.it.drop (i + 1)) hall
    rw [← at_drop hil, ← hmk, List.length_take, Nat.min_eq_left hi, Nat.zero_add] at hsp
    rw [itemsP_cons] at hsp
    cases hT : itemP cs q i q.it[i] with
    | error e =>
      rw [hT] at hsp
      exact ⟨_, _, _, _, rfl, S80.newB fun b134 w81 _ _ S81 => S81.sto3 0 rfl fun w84 S84 => IFB_ne (fun _ => stPlan S84 3 g0 fun w11 S11 => make_err hsp S11.bel) (fun h => absurd h (item_err hT))⟩
    | ok c =>
      refine ⟨_, _, _, _, rfl, S80.newB fun b134 w81 _ _ S81 => S81.sto3 0 rfl fun w84 S84 => IFB_ne (fun h => absurd rfl h) (fun _ => ⟨_, _, _, S84.cell 2 rfl rfl, _, S84.cell 0 rfl rfl, _, S84.cell 0 rfl rfl, _, S84.cell 0 rfl rfl, S84.newB fun b148 w93 _ _ S93 => ?_⟩)⟩
      refine S93.app 2 rfl tCols rfl (by omega) (by omega) (S93.rdc 0 rfl) (mm := 1) rfl (by intro u hu; simp at hu; rcases hu with rfl | rfl | rfl <;> rfl) (by omega) fun a' c' w94 S94 => ⟨_, _, _, rfl, PTR_i (S94.sto 3 rfl (i := 6) (cs' := ⟨plL ⟨cs, q, out ++ [c], gathersQ q⟩ a1 c1 ai ci aw cw ag cg ao co a' c'⟩) (by show 6 < 8; omega) (by simp [plL]) fun w95 S95 => next _ hil ⟨out ++ [c], a', c', ?_, ?_⟩)⟩
      · rw [List.take_succ_eq_append_getElem hil, items_split hall, List.length_take, Nat.min_eq_left hi, Nat.zero_add, itemsP, hT]
        rfl
      · have S96 := S95.drop 2
        have e : colsI a' c' (out ++ [c]) = It.row ty.api_Column 3 a' (out.length + 1) c' (colsL out ++ colC c) := by
          unfold colsI
          rw [colsL_append, List.length_append]
          simp [colsL]
        rw [e]
        exact S96
  · have hil : q.it.length ≤ i := by change ¬ (i : Int) < (q.it.length : Int) at hge; omega
    rw [List.take_of_length_le hil, ← hmk] at hall
    have hp : planOf cs q = (⟨cs, q, out, gathersQ q⟩, 0) := by rw [planOf, hall]
    refine ⟨_, _, _, S3.cell 1 rfl rfl, _, _, _, S3.cell 1 rfl rfl, _, _, _, S3.cell 1 rfl rfl, _, _, _, S3.cell 1 rfl rfl, _, _, _, S3.cell 1 rfl rfl, _, S3.cell 1 rfl rfl, _, _, _, S3.cell 1 rfl rfl, _, S3.cell 1 rfl rfl, stPlan S3 2 g0 fun w79 S79 => ?_⟩
    unfold MakeV
    rw [hp]
    exact ⟨a1, c1, ai, ci, aw, cw, ag, cg, ao, co, a6, c6, rfl, ⟨hl.grown S79.bel, hn, hq, Q.grown S79.bel, S79.rd 0 rfl, by show out.length ≤ _; omega⟩, hci, S79.bel⟩
end
section
variable {w : World} {p : Pl} {a0 ai aw ag ao a6 b0 bi bw bg bo b6 : Option Addr} {c0 ci cw cg co c6 d0 di dw dg d_o d6 : Nat}
theorem ref12_Same_ok (A : PlAt w p a0 ai aw ag ao a6) (B : PlAt w p b0 bi bw bg bo b6) : Calls Tryz.prog f.ref12_Same #[.agg ⟨plL p a0 c0 ai ci aw cw ag cg ao co a6 c6⟩, .agg ⟨plL p b0 d0 bi di bw dw bg dg bo d_o b6 d6⟩] w (Ret fun r w' => r = .bool true ∧ Below w.heap.size w w') := by
  apply R.ref12_Same_calls
  unfold R.ref12_Same
  refine (ST.start w).newB fun b17 w1 _ _ S1 => S1.newB fun b18 w2 _ _ S2 => ⟨_, _, _, S2.cell 1 rfl rfl, _, _, _, S2.cell 0 rfl rfl, S2.call (ref05_Same_ok (A.cs.grown S2.bel) (B.cs.grown S2.bel) A.ncs) fun w3 _ S3 => ⟨_, rfl, ?_⟩⟩
  refine ⟨_, _, _, S3.cell 1 rfl rfl, _, _, _, S3.cell 0 rfl rfl, S3.call (ref05_Same_ok (A.out.grown S3.bel) (B.out.grown S3.bel) A.nout) fun w4 _ S4 => ⟨_, rfl, ?_⟩⟩
  refine ⟨_, _, _, S4.cell 1 rfl rfl, _, _, _, S4.cell 1 rfl rfl, _, _, _, S4.cell 1 rfl rfl, _, _, _, S4.cell 1 rfl rfl, _, S4.cell 1 rfl rfl, _, _, _, S4.cell 0 rfl rfl, _, _, _, S4.cell 0 rfl rfl, _, _, _, S4.cell 0 rfl rfl, _, _, _, S4.cell 0 rfl rfl, _, S4.cell 0 rfl rfl, S4.call (ref11_Alike_ok (A.q.grown S4.bel) (B.q.grown S4.bel)) fun w5 _ S5 => ⟨_, rfl, ?_⟩⟩
  exact IFB_true (IFB_true (IFB_true ⟨_, S5.cell 1 rfl rfl, _, S5.cell 0 rfl rfl, by rw [beq_self_eq_true], S5.bel⟩))
end
def ux (cs : List Col) (c : Nat) (x : Ex) : Bool := x.formed && x.names.any fun s => decide (findC cs s = some c)
theorem uses_any {x : Ex} {t : List ByteArray} (h : IsRise (usesL x) (t.map bl)) (p : ByteArray → Bool) : t.any p = (x.formed && x.names.any p) := by
  have hm : ∀ s, s ∈ t ↔ x.formed = true ∧ s ∈ x.names := by
    intro s
    have hi : ∀ l : List ByteArray, bl s ∈ l.map bl ↔ s ∈ l := fun l => ⟨fun h => by obtain ⟨y, hy, he⟩ := List.mem_map.1 h; rw [← bl_inj he]; exact hy, fun h => List.mem_map.2 ⟨s, h, rfl⟩⟩
    rw [← hi, h.mem]
    unfold usesL
    split
    · rename_i hf; rw [hi]; exact ⟨fun h => ⟨hf, h⟩, fun h => h.2⟩
    · rename_i hf; exact ⟨fun h => by simp at h, fun h => absurd h.1 hf⟩
  rw [Bool.eq_iff_iff]
  simp only [List.any_eq_true, Bool.and_eq_true]
  constructor
  · rintro ⟨s, hs, hp⟩; exact ⟨((hm s).1 hs).1, s, ((hm s).1 hs).2, hp⟩
  · rintro ⟨hf, s, hs, hp⟩; exact ⟨s, (hm s).2 ⟨hf, hs⟩, hp⟩
def NeedsV (cs : List Col) (q : Qu) (w w' : World) (v : Value) : Prop := ∃ a c, v = .slice a (neededL cs q).length c ∧ Rd w' a (((neededL cs q).map fun n : Nat => (n : Int)).map (Value.int .i64)) ∧ Below w.heap.size w w'
section
variable {w : World} {p : Pl} {a0 ai aw ag ao a6 : Option Addr} {c0 ci cw cg co c6 : Nat}
end
end Go.Proofs.YtbpdfpfgijhokaaGreatDoor
namespace Go.Proofs.YtbpdfpfgijhokaaGreatDoor
set_option maxRecDepth 100000
open Go.Dn Go.Proofs
open Go.RowKit (Below)
open Go.Sort (putRow putCells Holds)
set_option linter.unusedVariables false
section
variable {w0 w : World} {H : List It} {a : Option Addr} {c : Nat}
theorem sortI_ok (S : ST w0 w H) (n : Nat) {xs : List Int} (hn : H[n]? = some (intsI a c xs)) (hl : xs.length ≤ 1000000000) : Calls Tryz.prog f.slices_Sort_int_int #[.slice a xs.length c] w (Ret fun v w' => v = .tuple #[] ∧ ST w0 w' (H.set n (intsI a c (xs.mergeSort fun x y => decide (x ≤ y))))) := by
  have hR : Row w ty.int 1 a xs.length c (xs.map (Value.int .i64)) := S.get n hn
  have hset : H.set n (intsI a c xs) = H := set_self hn
  have hnone : xs = [] → Calls Tryz.prog f.slices_Sort_int_int #[.slice a xs.length c] w (Ret fun v w' => v = .tuple #[] ∧ ST w0 w' (H.set n (intsI a c (xs.mergeSort fun x y => decide (x ≤ y))))) := by
    rintro rfl
    refine (Tryz.slices_Sort_int_none a c w).mono ?_
    rintro _ w' ⟨rfl, rfl⟩
    exact ⟨_, rfl, rfl, by rw [List.mergeSort_nil, hset]; exact S⟩
  rcases a with _ | ⟨g, o, idx⟩
  · refine hnone ?_
    rcases hR.2 with ⟨_, h, _⟩ | ⟨_, _, h, _⟩
    · exact List.eq_nil_of_length_eq_zero h
    · cases h
  · have hgo : o = 0 ∧ idx = none := by
      rcases hR.2 with ⟨h, _⟩ | ⟨_, _, h, _⟩
      · cases h
      · cases h; exact ⟨rfl, rfl⟩
    obtain ⟨rfl, rfl⟩ := hgo
    obtain ⟨hH, hg, hlen, hcap⟩ := holds_row (Value.int .i64) hR
    refine (Tryz.slices_Sort_int g 0 c xs w hH hg (by omega)).mono ?_
    rintro _ w' ⟨rfl, m, os, rfl⟩
    have hml : (xs.mergeSort fun x y => decide (x ≤ y)).length = xs.length := List.length_mergeSort ..
    refine ⟨_, rfl, rfl, ?_⟩
    refine S.chg n hn (put_keeps (Value.int .i64) w g m _ os) _ ?_ (fun k hk => .inl hk)
    show Row _ ty.int 1 _ _ c _
    have := row_put (Value.int .i64) (m := m) (os := os) (xs.mergeSort fun x y => decide (x ≤ y)) (k := xs.length) hR (by omega) (by omega)
    rw [List.take_of_length_le (by omega)] at this
    rw [hml]
    exact this
theorem compactI_ok (S : ST w0 w H) (n : Nat) {xs : List Int} (hn : H[n]? = some (intsI a c xs)) (hl : xs.length ≤ 1000000000) : Calls Tryz.prog f.slices_Compact_int_int #[.slice a xs.length c] w (Ret fun v w' => v = .slice a (Lib.compact xs).length c ∧ ST w0 w' (H.set n (intsI a c (Lib.compact xs)))) := by
  have hR : Row w ty.int 1 a xs.length c (xs.map (Value.int .i64)) := S.get n hn
  have hset : H.set n (intsI a c xs) = H := set_self hn
  have hnone : xs = [] → Calls Tryz.prog f.slices_Compact_int_int #[.slice a xs.length c] w (Ret fun v w' => v = .slice a (Lib.compact xs).length c ∧ ST w0 w' (H.set n (intsI a c (Lib.compact xs)))) := by
    rintro rfl
    refine (Tryz.slices_Compact_int_empty a c w).mono ?_
    rintro _ w' ⟨rfl, rfl⟩
    have : Lib.compact ([] : List Int) = [] := rfl
    exact ⟨_, rfl, by rw [this]; rfl, by rw [this, hset]; exact S⟩
  rcases a with _ | ⟨g, o, idx⟩
  · refine hnone ?_
    rcases hR.2 with ⟨_, h, _⟩ | ⟨_, _, h, _⟩
    · exact List.eq_nil_of_length_eq_zero h
    · cases h
  · have hgo : o = 0 ∧ idx = none := by
      rcases hR.2 with ⟨h, _⟩ | ⟨_, _, h, _⟩
      · cases h
      · cases h; exact ⟨rfl, rfl⟩
    obtain ⟨rfl, rfl⟩ := hgo
    obtain ⟨hH, hg, hlen, hcap⟩ := holds_row (Value.int .i64) hR
    refine (Tryz.slices_Compact_int g 0 c xs w hH (by omega) (by omega)).mono ?_
    rintro _ w' ⟨rfl, m, rfl⟩
    have hcl : (Lib.compact xs).length ≤ xs.length := by
      have := List.length_filter_le (Lib.keeps xs.toArray) (List.range xs.length)
      unfold Lib.compact Lib.compactUpTo
      rw [List.length_map]
      rw [List.length_range] at this
      exact this
    refine ⟨_, rfl, rfl, ?_⟩
    have ew : putRow (Value.int .i64) (Go.Sort.ahead w m) g 0 (Lib.compact xs ++ List.replicate (xs.length - (Lib.compact xs).length) 0).toArray = Go.Sort.grow (putRow (Value.int .i64) (Go.Sort.ahead w m) g 0 (Lib.compact xs ++ List.replicate (xs.length - (Lib.compact xs).length) 0).toArray) #[] := (grow_nil _).symm
    rw [ew]
    refine S.chg n hn (put_keeps (Value.int .i64) w g m _ #[]) _ ?_ (fun k hk => .inl hk)
    show Row _ ty.int 1 _ _ c _
    have := row_put (Value.int .i64) (m := m) (os := #[]) (Lib.compact xs ++ List.replicate (xs.length - (Lib.compact xs).length) 0) (k := (Lib.compact xs).length) hR (by simp; omega) (by simp)
    rw [List.take_left' rfl] at this
    exact this
end
theorem compactI_up (l : List Int) : (Lib.compact (l.mergeSort fun x y => decide (x ≤ y))).Pairwise (· < ·) ∧ ∀ x, x ∈ Lib.compact (l.mergeSort fun x y => decide (x ≤ y)) ↔ x ∈ l := by
  have hs := List.pairwise_mergeSort (le := fun x y : Int => decide (x ≤ y)) (fun a b c h1 h2 => by simp only [decide_eq_true_eq] at *; omega) (fun a b => by simp only [Bool.or_eq_true, decide_eq_true_eq]; omega) l
  have hp := List.mergeSort_perm l (fun x y : Int => decide (x ≤ y))
  obtain ⟨h1, h2⟩ := compact_sorted (fun a b : Int => a ≤ b) (fun a b c h1 h2 => by omega) (fun a b h1 h2 => by omega) (l.mergeSort fun x y => decide (x ≤ y)) (hs.imp fun h => by simpa using h)
  exact ⟨h1.imp fun h => by omega, fun x => (h2 x).trans hp.mem_iff⟩
end Go.Proofs.YtbpdfpfgijhokaaGreatDoor
namespace Go.Proofs.YtbpdfpfgijhokaaGreatDoor
set_option maxRecDepth 100000
open Go.Dn Go.Proofs
open Go.RowKit (Below)
set_option linter.unusedVariables false
/-! ### plain -/
abbrev Prt := Int × Bool × Ex
def itPrts (i : Nat) : List Itm → List Prt
  | [] => []
  | x :: l => ((i : Int), false, x.2.2) :: itPrts (i + 1) l
def prts (q : Qu) : List Prt := q.wh.map (fun x => (-1, true, x)) ++ q.gr.map (fun x => (-1, false, x)) ++ itPrts 0 q.it
theorem itPrts_append : ∀ (l m : List Itm) (i : Nat), itPrts i (l ++ m) = itPrts i l ++ itPrts (i + l.length) m
  | [], m, i => rfl
  | x :: l, m, i => by
    simp only [List.cons_append, itPrts, itPrts_append l m (i + 1), List.length_cons]
    rw [show i + 1 + l.length = i + (l.length + 1) by omega]
theorem itPrts_x : ∀ (l : List Itm) (i : Nat), (itPrts i l).map (·.2.2) = l.map (·.2.2)
  | [], _ => rfl
  | x :: l, i => by simp only [itPrts, List.map_cons, itPrts_x l (i + 1)]
theorem prts_x (q : Qu) : (prts q).map (·.2.2) = partsQ q := by
  unfold prts partsQ
  rw [List.map_append, List.map_append, itPrts_x, List.map_map, List.map_map]
  have h1 : ((fun p : Prt => p.2.2) ∘ fun x => ((-1, true, x) : Prt)) = id := rfl
  have h2 : ((fun p : Prt => p.2.2) ∘ fun x => ((-1, false, x) : Prt)) = id := rfl
  rw [h1, h2, List.map_id, List.map_id]
def stepP (cs : List Col) (q : Qu) (p : Prt) : Except Int (List Col) :=
  if p.1 < 0 then
    match typeE cs p.2.2 with
    | .error e => .error e
    | .ok k => if p.2.1 = true ∧ k ≠ 2 ∧ k ≠ 0 then .error 121 else .ok []
  else match q.it[p.1.toNat]? with
    | none => .ok []
    | some x => match itemP cs q p.1.toNat x with
      | .error e => .error e
      | .ok c => .ok [c]
def runP (cs : List Col) (q : Qu) : List Prt → Except Int (List Col)
  | [] => .ok []
  | p :: l => match stepP cs q p with
    | .error e => .error e
    | .ok c => match runP cs q l with
      | .error e => .error e
      | .ok r => .ok (c ++ r)
theorem step_err {cs : List Col} {q : Qu} {p : Prt} {e : Int} (h : stepP cs q p = .error e) : e ≠ 0 := by
  unfold stepP at h
  split at h
  · split at h
    · rename_i hT; cases h; exact type_err hT
    · split at h
      · cases h; decide
      · cases h
  · split at h
    · cases h
    · split at h
      · rename_i hT; cases h; exact item_err hT
      · cases h
theorem run_bad {cs : List Col} {q : Qu} {p : Prt} {e : Int} (hp : stepP cs q p = .error e) : ∀ {l m : List Prt} {r : List Col}, runP cs q l = .ok r → runP cs q (l ++ p :: m) = .error e
  | [], m, r, h => by simp only [List.nil_append, runP, hp]
  | x :: l, m, r, h => by
    rw [List.cons_append]
    unfold runP at h ⊢
    split at h
    · cases h
    · rename_i c hc
      split at h
      · cases h
      · rename_i r' hr
        simp only [run_bad hp hr]
theorem run_snoc {cs : List Col} {q : Qu} {p : Prt} {c : List Col} (hp : stepP cs q p = .ok c) : ∀ {l : List Prt} {r : List Col}, runP cs q l = .ok r → runP cs q (l ++ [p]) = .ok (r ++ c)
  | [], r, h => by cases h; simp only [List.nil_append, runP, hp, List.append_nil]
  | x :: l, r, h => by
    rw [List.cons_append]
    unfold runP at h ⊢
    split at h
    · cases h
    · rename_i c' hc
      split at h
      · cases h
      · rename_i r' hr
        cases h
        simp only [run_snoc hp hr, List.append_assoc]
theorem run_where {cs : List Col} {q : Qu} : ∀ (l : List Ex) (m : List Prt), runP cs q (l.map (fun x => ((-1, true, x) : Prt)) ++ m) = match whereP cs l with | some e => .error e | none => runP cs q m
  | [], m => rfl
  | x :: l, m => by
    simp only [List.map_cons, List.cons_append, runP, stepP, whereP, run_where l m]
    rw [if_pos (by decide)]
    cases hT : typeE cs x with
    | error e => rfl
    | ok k =>
      simp only [true_and]
      by_cases hk : k ≠ 2 ∧ k ≠ 0
      · rw [if_pos hk, if_pos hk]
      · rw [if_neg hk, if_neg hk]
        cases whereP cs l with
        | some e => rfl
        | none => simp only [List.nil_append]; cases runP cs q m <;> rfl
theorem run_group {cs : List Col} {q : Qu} : ∀ (l : List Ex) (m : List Prt), runP cs q (l.map (fun x => ((-1, false, x) : Prt)) ++ m) = match groupP cs l with | some e => .error e | none => runP cs q m
  | [], m => rfl
  | x :: l, m => by
    simp only [List.map_cons, List.cons_append, runP, stepP, groupP, run_group l m]
    rw [if_pos (by decide)]
    cases hT : typeE cs x with
    | error e => rfl
    | ok k =>
      simp only [Bool.false_eq_true, false_and, if_false]
      cases groupP cs l with
      | some e => rfl
      | none => simp only [List.nil_append]; cases runP cs q m <;> rfl
theorem run_items {cs : List Col} {q : Qu} : ∀ (l : List Itm) (i : Nat), (∀ j (h : j < l.length), q.it[i + j]? = some l[j]) → runP cs q (itPrts i l) = itemsP cs q i l
  | [], i, _ => rfl
  | x :: l, i, h => by
    simp only [itPrts, runP, stepP, itemsP]
    rw [if_neg (by omega), Int.toNat_natCast]
    have h0 := h 0 (by simp)
    simp only [Nat.add_zero, List.getElem_cons_zero] at h0
    rw [h0, run_items l (i + 1) fun j hj => by
      have := h (j + 1) (by simpa using hj)
      simp only [List.getElem_cons_succ] at this
      rwa [show i + 1 + j = i + (j + 1) by omega]]
    simp only
    cases itemP cs q i x with
    | error e => rfl
    | ok c => simp only; cases itemsP cs q (i + 1) l <;> rfl
theorem run_make {cs : List Col} {q : Qu} (h1 : rightCols cs = true) (h2 : rightQ q = true) : runP cs q (prts q) = makeP cs q := by
  unfold prts makeP
  rw [if_neg (by rw [h1]; decide), if_neg (by rw [h2]; decide), List.append_assoc, run_where, run_group, run_items q.it 0 fun j h => by rw [Nat.zero_add]; exact List.getElem?_eq_getElem h]
  cases whereP cs q.wh with
  | some e => rfl
  | none => cases groupP cs q.gr <;> rfl
theorem map_at {α β : Type} (f : α → β) {l : List α} {i : Nat} (hi : i < l.length) : l.map f = (l.take i).map f ++ f l[i] :: (l.drop (i + 1)).map f := by
  conv => lhs; rw [at_drop hi]
  rw [List.map_append, List.map_cons]
theorem run_len {cs : List Col} {q : Qu} : ∀ {l : List Prt} {r : List Col}, runP cs q l = .ok r → r.length ≤ l.length
  | [], r, h => by cases h; simp
  | p :: l, r, h => by
    unfold runP at h
    split at h
    · cases h
    · rename_i c hc
      split at h
      · cases h
      · rename_i r' hr
        cases h
        have := run_len hr
        have hcl : c.length ≤ 1 := by
          unfold stepP at hc
          split at hc
          · split at hc
            · cases hc
            · split at hc <;> cases hc
              simp
          · split at hc
            · cases hc; simp
            · split at hc <;> cases hc
              simp
        simp only [List.length_append, List.length_cons]
        omega
theorem itPrts_len : ∀ (l : List Itm) (i : Nat), (itPrts i l).length = l.length
  | [], _ => rfl
  | x :: l, i => by simp only [itPrts, List.length_cons, itPrts_len l (i + 1)]
theorem prts_len {q : Qu} (h : smallQ q = true) : (prts q).length ≤ 21 := by
  have := (smallQ_iff.1 h).1
  unfold prts
  simp only [List.length_append, List.length_map, itPrts_len]
  omega
/-! ### the walk over them -/
def prtC (w0 : World) (p : Prt) (vs : List Value) : Prop := ∃ cs, vs = [.agg ⟨.int .i64 p.1 :: .bool p.2.1 :: cs⟩] ∧ XC w0 p.2.2 cs
section
variable {w0 : World} {q : Qu} {ai aw ag ao : Option Addr} {ci cw cg co : Nat}
theorem plan_parts_ok {w : World} : Calls Tryz.prog f.plan_parts #[.agg ⟨quL q ai aw ag ao ci cw cg co⟩] w (Ret fun v w' => ∃ b, v = .func (.func f.plan_parts_c1) #[] #[.pointer (some ⟨b, 0, none⟩)] ∧ ST w w' [quI b q ai aw ag ao ci cw cg co]) := by
  apply R.plan_parts_calls
  unfold R.plan_parts
  exact (ST.start w).newB fun b1 w1 _ _ S1 => ⟨b1, rfl, S1⟩
theorem parts_c1_ok {L : Nat} {I : List Prt → List It → Prop} {J : List It → Prop} (hy : Yld w0 L (prts q) (prtC w0) I J) (Q : QAt w0 q ai aw ag ao) {HN B : List It} {w : World} {b : Nat} (hI : I [] B) (S : ST w0 w (quI b q ai aw ag ao ci cw cg co :: (HN ++ B))) :
    Calls Tryz.prog f.plan_parts_c1 #[.func (.yield L) #[] #[], .pointer (some ⟨b, 0, none⟩)] w (Ret fun _ w' => ∃ B', ST w0 w' (HN ++ B') ∧ (I (prts q) B' ∨ J B')) := by
  apply R.plan_parts_c1_calls
  unfold R.plan_parts_c1
  obtain ⟨ri, hri, hCi⟩ := Q.it
  obtain ⟨rw_, hrw, hCw⟩ := Q.wh
  obtain ⟨rg, hrg, hCg⟩ := Q.gr
  refine ⟨_, _, _, S.cell 0 rfl rfl, forUp q.wh.length (fun i w => ∃ B', ST w0 w (quI b q ai aw ag ao ci cw cg co :: (HN ++ B')) ∧ I ((q.wh.take i).map fun x => (-1, true, x)) B') Q.nwh ⟨B, S, hI⟩ fun I1 M1 i w1 hi h next => ?_⟩
  obtain ⟨B1, S1, hI1⟩ := h
  refine IFB_dec (fun hlt => ⟨⟨by omega, hlt⟩, ?_⟩) (fun hge => ?_)
  · have hil : i < q.wh.length := by omega
    obtain ⟨p, a3, cap3, hp, hxk, cell⟩ := exs_at (hrw.grown S1.bel) hCw hil
    subst hp
    rw [Int.toNat_natCast]
    refine ldX cell (S1.lit6 fun b12 w8 _ S8 => stX S8 0 rfl ?_)
    have htot : prts q = (q.wh.take i).map (fun x => ((-1, true, x) : Prt)) ++ (-1, true, q.wh[i]) :: ((q.wh.drop (i + 1)).map (fun x => ((-1, true, x) : Prt)) ++ (q.gr.map (fun x => ((-1, false, x) : Prt)) ++ itPrts 0 q.it)) := by
      unfold prts
      rw [map_at (fun x => ((-1, true, x) : Prt)) hil]
      simp only [List.append_assoc, List.cons_append]
    refine (hy _ (-1, true, q.wh[i]) _ _ (exI b12 (exHead q.wh[i] a3 cap3) :: quI b q ai (some p) ag ao ci cw cg co :: HN) B1 w8 htot hI1 S8 ⟨_, rfl, hxk⟩).mono ?_
    rintro y w9 ⟨B', S9, ⟨rfl, hI9⟩ | ⟨rfl, hJ⟩⟩
    · refine IFB_not (IFB_true (next _ hil ⟨B', S9.drop 1, ?_⟩))
      rw [List.take_succ_eq_append_getElem hil, List.map_append]
      exact hI9
    · exact IFB_not (IFB_false ⟨B', S9.drop 2, .inr hJ⟩)
  have hil : q.wh.length ≤ i := by omega
  rw [List.take_of_length_le hil] at hI1
  clear next hge hi hil
  refine ⟨_, _, _, S1.cell 0 rfl rfl, forUp q.gr.length (fun i w => ∃ B', ST w0 w (quI b q ai aw ag ao ci cw cg co :: (HN ++ B')) ∧ I (q.wh.map (fun x => (-1, true, x)) ++ (q.gr.take i).map fun x => (-1, false, x)) B') Q.ngr ⟨B1, S1, by simpa using hI1⟩ fun I2 M2 i w2 hi h next => ?_⟩
  obtain ⟨B2, S2, hI2⟩ := h
  refine IFB_dec (fun hlt => ⟨⟨by omega, hlt⟩, ?_⟩) (fun hge => ?_)
  · have hil : i < q.gr.length := by omega
    obtain ⟨p, a3, cap3, hp, hxk, cell⟩ := exs_at (hrg.grown S2.bel) hCg hil
    subst hp
    rw [Int.toNat_natCast]
    refine ldX cell (S2.lit6 fun b12 w8 _ S8 => stX S8 0 rfl ?_)
    have htot : prts q = (q.wh.map (fun x => ((-1, true, x) : Prt)) ++ (q.gr.take i).map fun x => (-1, false, x)) ++ (-1, false, q.gr[i]) :: ((q.gr.drop (i + 1)).map (fun x => ((-1, false, x) : Prt)) ++ itPrts 0 q.it) := by
      unfold prts
      rw [map_at (fun x => ((-1, false, x) : Prt)) hil]
      simp only [List.append_assoc, List.cons_append]
    refine (hy _ (-1, false, q.gr[i]) _ _ (exI b12 (exHead q.gr[i] a3 cap3) :: quI b q ai aw (some p) ao ci cw cg co :: HN) B2 w8 htot hI2 S8 ⟨_, rfl, hxk⟩).mono ?_
    rintro y w9 ⟨B', S9, ⟨rfl, hI9⟩ | ⟨rfl, hJ⟩⟩
    · refine IFB_not (IFB_true (next _ hil ⟨B', S9.drop 1, ?_⟩))
      rw [List.take_succ_eq_append_getElem hil, List.map_append, ← List.append_assoc]
      exact hI9
    · exact IFB_not (IFB_false ⟨B', S9.drop 2, .inr hJ⟩)
  have hil : q.gr.length ≤ i := by omega
  rw [List.take_of_length_le hil] at hI2
  clear next hge hi hil
  refine ⟨_, _, _, S2.cell 0 rfl rfl, forUp q.it.length (fun i w => ∃ B', ST w0 w (quI b q ai aw ag ao ci cw cg co :: (HN ++ B')) ∧ I (q.wh.map (fun x => (-1, true, x)) ++ q.gr.map (fun x => (-1, false, x)) ++ itPrts 0 (q.it.take i)) B') Q.nit ⟨B2, S2, by simpa [itPrts] using hI2⟩ fun I3 M3 i w3 hi h next => ?_⟩
  obtain ⟨B3, S3, hI3⟩ := h
  refine IFB_dec (fun hlt => ⟨⟨by omega, hlt⟩, ?_⟩) (fun hge => ?_)
  · have hil : i < q.it.length := by omega
    obtain ⟨p, a3, cap3, hp, hxk, hsz, cell⟩ := item_at (hri.grown S3.bel) hCi hil
    subst hp
    rw [Int.toNat_natCast]
    refine ldI cell (S3.lit8 fun b12 w8 _ S8 => ?_)
    have S8 : ST w0 w8 (itI b12 q.it[i] a3 cap3 :: quI b q (some p) aw ag ao ci cw cg co :: (HN ++ B3)) := S8
    refine stIx S8 0 rfl ?_
    have hlen : (q.it.take i).length = i := by rw [List.length_take]; omega
    have hone : itPrts 0 (q.it.take (i + 1)) = itPrts 0 (q.it.take i) ++ [((i : Int), false, q.it[i].2.2)] := by
      rw [List.take_succ_eq_append_getElem hil, itPrts_append, hlen, Nat.zero_add]
      rfl
    have htot : prts q = (q.wh.map (fun x => ((-1, true, x) : Prt)) ++ q.gr.map (fun x => (-1, false, x)) ++ itPrts 0 (q.it.take i)) ++ ((i : Int), false, q.it[i].2.2) :: itPrts (i + 1) (q.it.drop (i + 1)) := by
      unfold prts
      conv => lhs; rw [at_drop hil]
      rw [itPrts_append, hlen, Nat.zero_add]
      simp [List.append_assoc, itPrts]
    refine (hy _ ((i : Int), false, q.it[i].2.2) _ _ (itI b12 q.it[i] a3 cap3 :: quI b q (some p) aw ag ao ci cw cg co :: HN) B3 w8 htot hI3 S8 ⟨_, rfl, hxk⟩).mono ?_
    rintro y w9 ⟨B', S9, ⟨rfl, hI9⟩ | ⟨rfl, hJ⟩⟩
    · refine IFB_not (IFB_true (next _ hil ⟨B', S9.drop 1, ?_⟩))
      rw [hone, ← List.append_assoc]
      exact hI9
    · exact IFB_not (IFB_false ⟨B', S9.drop 2, .inr hJ⟩)
  have hil : q.it.length ≤ i := by omega
  rw [List.take_of_length_le hil] at hI3
  exact ⟨B3, S3.drop 1, .inl hI3⟩
end
/-! ### an item, an expression -/
def plnI (b : Nat) (p : Pl) (a0 : Option Addr) (c0 : Nat) (ai : Option Addr) (ci : Nat) (aw : Option Addr) (cw : Nat) (ag : Option Addr) (cg : Nat) (ao : Option Addr) (co : Nat) (a6 : Option Addr) (c6 : Nat) : It := It.cells b ⟨plL p a0 c0 ai ci aw cw ag cg ao co a6 c6⟩ ty.plan_planner
theorem plan_orInt_ok (w : World) (k : Int) : Calls Tryz.prog f.plan_orInt #[.int .i64 k] w (Ret fun r w' => r = .int .i64 (orInt k) ∧ w' = w) := by
  apply R.plan_orInt_calls
  unfold R.plan_orInt
  exact IFB_eq (fun h => ⟨by rw [orInt, if_pos h], rfl⟩) (fun h => ⟨by rw [orInt, if_neg h], rfl⟩)
theorem RowsC.take {α : Type} {C : α → List Value → Prop} {n : Nat} (hn : ∀ x c, C x c → c.length = n) {l : List α} {cs : List Value} (h : RowsC C l cs) (i : Nat) : RowsC C (l.take i) (cs.take (i * n)) := by
  have hl := RowsC.len hn h
  have hm : min i l.length * n = min (i * n) (l.length * n) := by
    rcases Nat.le_total i l.length with h | h
    · rw [Nat.min_eq_left h, Nat.min_eq_left (Nat.mul_le_mul_right _ h)]
    · rw [Nat.min_eq_right h, Nat.min_eq_right (Nat.mul_le_mul_right _ h)]
  refine RowsC.of (n := n) (by rw [List.length_take, List.length_take, hl, hm]) fun j hj => ?_
  rw [List.length_take] at hj
  have := h.get hn j (by omega)
  rw [List.getElem_take]
  rw [List.drop_take, List.take_take, Nat.min_eq_left]
  · exact this
  · have : (j + 1) * n ≤ i * n := Nat.mul_le_mul_right _ (by omega)
    rw [Nat.add_mul] at this
    omega
section
variable {w w0 : World} {q : Qu} {ai aw ag ao : Option Addr} {ci cw cg co : Nat} {H : List It} {cs : List Col} {a0 a6 : Option Addr} {c0 c6 b : Nat} {out : List Col} {g : Bool}
theorem item_c1_ok (E : Env w) (n : Nat) {x : Itm} {a3 : Option Addr} {cap3 b15 : Nat} (S : ST w0 w H) (hn : H[n]? = some (itI b15 x a3 cap3)) (hx : XC w x.2.2 (exHead x.2.2 a3 cap3)) {y : Ex} {c : List Value} (hy : XC w y c) :
    Calls Tryz.prog f.plan_planner_item_c1 #[.agg ⟨c⟩, .pointer (some ⟨b15, 0, none⟩)] w (Ret fun r w' => r = .bool (sameF x.2.2 y) ∧ Below w.heap.size w w') := by
  obtain ⟨a4, cap4, _, rfl, _⟩ := ExC.open hy
  apply R.plan_planner_item_c1_calls
  unfold R.plan_planner_item_c1
  refine S.newB fun b8 w1 _ B1 S1 => stIx S1 (n + 1) hn (stX S1 0 rfl (S1.call (expr_Same_ok (E.grown B1) (hx.grown B1) (hy.grown B1)) fun w2 B2 _ => ⟨_, rfl, rfl, below_j B1 B2⟩))
theorem item_c2_ok (n : Nat) {x : Itm} {a3 : Option Addr} {cap3 b15 : Nat} (S : ST w0 w H) (hn : H[n]? = some (itI b15 x a3 cap3)) {wc : World} {y : Itm} {c : List Value} (hy : ItC (fun _ => False) wc y c) :
    Calls Tryz.prog f.plan_planner_item_c2 #[.agg ⟨c⟩, .pointer (some ⟨b15, 0, none⟩)] w (Ret fun r w' => r = .bool (decide (y.1 = x.1)) ∧ Below w.heap.size w w') := by
  obtain ⟨ce, rfl, hx2, _⟩ := hy
  obtain ⟨a4, cap4, _, rfl, _⟩ := ExC.open hx2
  apply R.plan_planner_item_c2_calls
  unfold R.plan_planner_item_c2
  refine S.newB fun b8 w1 _ B1 S1 => ⟨_, S1.cell 0 rfl rfl, _, S1.cell (n + 1) hn rfl, by rw [bytesEq_iff], B1⟩
end
end Go.Proofs.YtbpdfpfgijhokaaGreatDoor
namespace Go.Proofs.YtbpdfpfgijhokaaGreatDoor
set_option maxRecDepth 100000
open Go.Dn Go.Proofs
open Go.RowKit (Below)
set_option linter.unusedVariables false
section
variable {w w0 : World} {q : Qu} {ai aw ag ao : Option Addr} {ci cw cg co : Nat} {H : List It} {cs : List Col} {a0 a6 : Option Addr} {c0 c6 b : Nat} {out : List Col}
def StepV (w0 : World) (q : Qu) (ai aw ag ao : Option Addr) (ci cw cg co : Nat) (H : List It) (cs : List Col) (a0 a6 : Option Addr) (c0 c6 b : Nat) (out : List Col) (r : Except Int (List Col)) (v : Value) (w' : World) : Prop :=
  match r with
  | .error e => v = .int .i64 e ∧ ST w0 w' (plnI b ⟨cs, q, out, gathersQ q⟩ a0 c0 ai ci aw cw ag cg ao co a6 c6 :: colsI a6 c6 out :: H)
  | .ok l => ∃ a' c', v = .int .i64 0 ∧ ST w0 w' (plnI b ⟨cs, q, out ++ l, gathersQ q⟩ a0 c0 ai ci aw cw ag cg ao co a' c' :: colsI a' c' (out ++ l) :: H)
def oneC : Except Int Col → Except Int (List Col)
  | .error e => .error e
  | .ok c => .ok [c]
theorem planner_item_ok (E : Env w0) (Q : QAt w0 q ai aw ag ao) (hci : q.it.length ≤ ci) (S : ST w0 w (plnI b ⟨cs, q, out, gathersQ q⟩ a0 c0 ai ci aw cw ag cg ao co a6 c6 :: colsI a6 c6 out :: H)) {i : Nat} (hi : i < q.it.length) (ho : out.length ≤ 1000) (k : Int) :
    Calls Tryz.prog f.plan_planner_item #[.pointer (some ⟨b, 0, none⟩), .int .i64 (i : Int), .int .i64 k] w (Ret fun v w' => StepV w0 q ai aw ag ao ci cw cg co H cs a0 a6 c0 c6 b out (oneC (itemK q i q.it[i] k)) v w') := by
  apply R.plan_planner_item_calls
  unfold R.plan_planner_item
  obtain ⟨ri, hri, hCi⟩ := Q.it
  obtain ⟨rg, hrg, hCg⟩ := Q.gr
  obtain ⟨x, hxe⟩ : ∃ x, x = q.it[i] := ⟨_, rfl⟩
  refine ⟨_, _, _, S.cell 0 rfl rfl, ⟨by omega, by show (i : Int) < (q.it.length : Int); omega⟩, ?_⟩
  obtain ⟨p, a3, cap3, hpa, hxk, hsz, cell⟩ := item_at (hri.grown S.bel) hCi hi
  rw [← hxe] at hxk cell ⊢
  subst hpa
  rw [Int.toNat_natCast]
  refine ldI cell (S.lit8 fun b15 w9 _ S9 => ?_)
  obtain ⟨K, hK⟩ : ∃ K, K = itI b15 x a3 cap3 :: plnI b ⟨cs, q, out, gathersQ q⟩ a0 c0 (some p) ci aw cw ag cg ao co a6 c6 :: colsI a6 c6 out :: H := ⟨_, rfl⟩
  have S9 : ST w0 w9 K := by rw [hK]; exact S9
  have k0 : K[0]? = some (itI b15 x a3 cap3) := by rw [hK]; rfl
  have k1 : K[1]? = some (plnI b ⟨cs, q, out, gathersQ q⟩ a0 c0 (some p) ci aw cw ag cg ao co a6 c6) := by rw [hK]; rfl
  have hd : K.drop 1 = plnI b ⟨cs, q, out, gathersQ q⟩ a0 c0 (some p) ci aw cw ag cg ao co a6 c6 :: colsI a6 c6 out :: H := by rw [hK]; rfl
  refine ⟨fun st w => st = [.int .i64 (if x.2.1 = 1 ∨ x.2.1 = 2 then 1 else k)] ∧ ¬ (x.2.1 = 3 ∧ orInt k ≠ 1) ∧ ¬ ((gathersQ q = true ∧ x.2.1 = 0 ∧ amongX x.2.2 q.gr = false) ∨ ((q.it.take i).any fun y => decide (y.1 = x.1)) = true) ∧ ST w0 w K,
    ⟨fun st w => st = [.bool (decide (x.2.1 = 3 ∧ orInt k ≠ 1))] ∧ ST w0 w K, ⟨_, S9.cell 0 k0 rfl, IFB_eq (fun h3 => S9.call0 (plan_orInt_ok w9 k) ⟨_, rfl, ?_, S9⟩) (fun h3 => ⟨?_, S9⟩)⟩, ?_⟩, ?_⟩
  · change x.2.1 = 3 at h3
    rw [bne_dec]
    congr 2
    rw [decide_eq_decide]
    exact ⟨fun h => ⟨h3, h⟩, fun h => h.2⟩
  · change x.2.1 ≠ 3 at h3
    rw [decide_eq_false (fun h => h3 h.1)]
  · rintro t w11 ⟨ht, S11⟩
    obtain rfl : t = decide (x.2.1 = 3 ∧ orInt k ≠ 1) := by simpa using ht
    refine IFB_dec (fun h => ?_) (fun hno3 => ?_)
    · rw [itemK, if_pos h]
      exact ⟨rfl, hd ▸ S11.drop 1⟩
    refine ⟨fun st w => st = [.bool (decide ((gathersQ q = true ∧ x.2.1 = 0 ∧ amongX x.2.2 q.gr = false) ∨ ((q.it.take i).any fun y => decide (y.1 = x.1)) = true))] ∧ ST w0 w K,
      ⟨fun st w => st = [.bool (decide (gathersQ q = true ∧ x.2.1 = 0 ∧ amongX x.2.2 q.gr = false))] ∧ ST w0 w K, ⟨_, S11.cell 1 k1 rfl, IFB_of (fun hg => ⟨_, S11.cell 0 k0 rfl, IFB_eq (fun h0 => ⟨_, _, _, S11.cell 1 k1 rfl, ?_⟩) (fun h0 => ⟨?_, S11⟩)⟩) (fun hg => ⟨?_, S11⟩)⟩, ?_⟩, ?_⟩
    · change x.2.1 = 0 at h0
      change gathersQ q = true at hg
      refine S11.call (any_api_Expr_ok (hrg.grown S11.bel) hCg Q.ngr (by kernel_rfl) (sameF x.2.2) fun w' y c B hy hc => item_c1_ok (E.grown (S11.grown B).bel) 0 (S11.grown B) k0 (hxk.grown (S11.grown B).bel) (hc.grown (S11.grown B).bel)) fun w12 _ S12 => ⟨_, rfl, ?_, S12⟩
      show [Value.bool (!amongX x.2.2 q.gr)] = _
      congr 2
      rw [hg, h0]
      cases amongX x.2.2 q.gr <;> simp
    · change x.2.1 ≠ 0 at h0
      rw [decide_eq_false (fun h => h0 h.2.1)]
    · change gathersQ q = false at hg
      rw [decide_eq_false (fun h => by rw [hg] at h; cases h.1)]
    · rintro t w13 ⟨ht, S13⟩
      obtain rfl : t = decide (gathersQ q = true ∧ x.2.1 = 0 ∧ amongX x.2.2 q.gr = false) := by simpa using ht
      refine IFB_dec (fun h => ⟨by rw [decide_eq_true (Or.inl h)], S13⟩) (fun hno => ⟨_, _, _, S13.cell 1 k1 rfl, ⟨by omega, by omega, by omega⟩, ?_⟩)
      have e : i - 0 = (q.it.take i).length := by rw [List.length_take]; omega
      have hsl := (hri.grown S13.bel).sla 0 i ci 8 (by omega)
      rw [Nat.zero_mul, List.drop_zero, Nat.sub_zero] at hsl
      have hq8 := Q.nit
      rw [e]
      refine S13.call (any_api_Item_ok hsl (RowsC.take (fun _ _ h => ItC.len h) hCi i) (by rw [List.length_take]; omega) (by kernel_rfl) (fun y => decide (y.1 = x.1)) fun w' y c B hy hc => item_c2_ok 0 (S13.grown B) k0 hc) fun w14 _ S14 => ⟨_, rfl, ?_, S14⟩
      congr 2
      rw [Bool.eq_iff_iff, decide_eq_true_eq]
      exact ⟨.inr, fun h => h.elim (fun h => absurd h hno) id⟩
    · rintro t w15 ⟨ht, S15⟩
      obtain rfl : t = decide ((gathersQ q = true ∧ x.2.1 = 0 ∧ amongX x.2.2 q.gr = false) ∨ ((q.it.take i).any fun y => decide (y.1 = x.1)) = true) := by simpa using ht
      refine IFB_dec (fun h => ?_) (fun hno => ⟨_, S15.cell 0 k0 rfl, IFB_eq (fun h1 => ⟨?_, hno3, hno, S15⟩) (fun h1 => ⟨_, S15.cell 0 k0 rfl, IFB_eq (fun h2 => ⟨?_, hno3, hno, S15⟩) (fun h2 => ⟨?_, hno3, hno, S15⟩)⟩)⟩)
      · rw [itemK, if_neg hno3, if_pos h]
        exact ⟨rfl, hd ▸ S15.drop 1⟩
      · rw [if_pos (.inl h1)]
      · rw [if_pos (.inr h2)]
      · change x.2.1 ≠ 1 at h1
        change x.2.1 ≠ 2 at h2
        rw [if_neg (by omega)]
  rintro t w16 ⟨ht, hno3, hno, S16⟩
  obtain rfl : t = if x.2.1 = 1 ∨ x.2.1 = 2 then 1 else k := by simpa using ht
  rw [itemK, if_neg hno3, if_neg hno]
  rw [hK] at S16
  refine S16.draw fun w17 _ S17 => ⟨_, _, _, S17.cell 1 rfl rfl, _, S17.cell 0 rfl rfl, S17.call0 (plan_orInt_ok _ _) ⟨_, rfl, S17.cell 0 rfl rfl, S17.cell 1 rfl rfl, S17.newB fun b45 w19 _ _ S19 => ⟨S19.cell 2 rfl rfl, ?_⟩⟩⟩
  refine S19.app 3 rfl tCols rfl (by omega) (by omega) (S19.rdc 0 rfl) (mm := 1) rfl (by intro u hu; simp at hu; rcases hu with rfl | rfl | rfl <;> rfl) (by omega) fun a' c' w20 S20 => ⟨_, _, _, rfl, ?_⟩
  obtain ⟨cc, hcc⟩ : ∃ cc : Col, cc = (x.1, if x.2.1 = 1 ∨ x.2.1 = 2 then 1 else orInt k, true) := ⟨_, rfl⟩
  have ek : orInt (if x.2.1 = 1 ∨ x.2.1 = 2 then 1 else k) = if x.2.1 = 1 ∨ x.2.1 = 2 then 1 else orInt k := by split <;> rfl
  refine PTR_i (S20.sto 2 rfl (i := 6) (cs' := ⟨plL ⟨cs, q, out ++ [cc], gathersQ q⟩ a0 c0 (some p) ci aw cw ag cg ao co a' c'⟩) (by show 6 < 8; omega) (by simp [plL]) fun w21 S21 => ?_)
  rw [← hcc]
  refine ⟨a', c', rfl, ?_⟩
  have e : colsI a' c' (out ++ [cc]) = It.row ty.api_Column 3 a' (out.length + 1) c' (colsL out ++ [.string x.1, .int .i64 (orInt (if x.2.1 = 1 ∨ x.2.1 = 2 then 1 else k)), .bool true]) := by
    unfold colsI
    rw [colsL_append, List.length_append, ek, hcc]
    simp [colsL, colC]
  rw [e]
  exact S21.drop 2
theorem prt_mem {p : Prt} (h : p ∈ prts q) : p.1 = -1 ∨ ∃ (i : Nat) (hi : i < q.it.length), p = ((i : Int), false, q.it[i].2.2) := by
  have hI : ∀ (l : List Itm) (j : Nat), p ∈ itPrts j l → ∃ (i : Nat) (hi : i < l.length), p = (((j + i : Nat) : Int), false, l[i].2.2) := by
    intro l
    induction l with
    | nil => intro j h; cases h
    | cons x l ih =>
      intro j h
      rcases List.mem_cons.1 h with rfl | h
      · exact ⟨0, by simp, rfl⟩
      · obtain ⟨i, hi, rfl⟩ := ih _ h
        exact ⟨i + 1, by simpa using hi, by simp only [List.getElem_cons_succ]; rw [show j + 1 + i = j + (i + 1) by omega]⟩
  unfold prts at h
  rcases List.mem_append.1 h with h | h
  · rcases List.mem_append.1 h with h | h
    · obtain ⟨x, _, rfl⟩ := List.mem_map.1 h; exact .inl rfl
    · obtain ⟨x, _, rfl⟩ := List.mem_map.1 h; exact .inl rfl
  · obtain ⟨i, hi, rfl⟩ := hI q.it 0 h
    exact .inr ⟨i, hi, by rw [Nat.zero_add]⟩
def prtI (b : Nat) (p : Prt) (a : Option Addr) (cap : Nat) : It := It.cells b ⟨.int .i64 p.1 :: .bool p.2.1 :: exHead p.2.2 a cap⟩ ty.plan_part
def typed (q : Qu) (p : Prt) : Bool := decide (p.1 < 0) || (match q.it[p.1.toNat]? with | some x => decide (x.2.1 ≠ 1) | none => true)
theorem planner_check_ok (E : Env w0) (Q : QAt w0 q ai aw ag ao) (hci : q.it.length ≤ ci) (hl : Rd w a0 (colsL cs)) (hn : cs.length ≤ 9223372036854775807) (hq : ∀ c ∈ cs, c.1.size ≤ 9223372036854775807) (S : ST w0 w (plnI b ⟨cs, q, out, gathersQ q⟩ a0 c0 ai ci aw cw ag cg ao co a6 c6 :: colsI a6 c6 out :: H)) (ho : out.length ≤ 1000)
    {p : Prt} (hp : p ∈ prts q) {a3 : Option Addr} {cap3 : Nat} (hx : XC w0 p.2.2 (exHead p.2.2 a3 cap3)) :
    Calls Tryz.prog f.plan_planner_check #[.pointer (some ⟨b, 0, none⟩), .agg ⟨.int .i64 p.1 :: .bool p.2.1 :: exHead p.2.2 a3 cap3⟩] w (Ret fun v w' => StepV w0 q ai aw ag ao ci cw cg co H cs a0 a6 c0 c6 b out (stepP cs q p) v w') := by
  apply R.plan_planner_check_calls
  unfold R.plan_planner_check
  obtain ⟨ri, hri, hCi⟩ := Q.it
  have hpm := prt_mem hp
  refine S.newB fun b10 w1 _ B1 S1 => ?_
  have hl1 := hl.grown B1
  obtain ⟨K, hK⟩ : ∃ K, K = prtI b10 p a3 cap3 :: plnI b ⟨cs, q, out, gathersQ q⟩ a0 c0 ai ci aw cw ag cg ao co a6 c6 :: colsI a6 c6 out :: H := ⟨_, rfl⟩
  have S1 : ST w0 w1 K := by rw [hK]; exact S1
  have k0 : K[0]? = some (prtI b10 p a3 cap3) := by rw [hK]; rfl
  have k1 : K[1]? = some (plnI b ⟨cs, q, out, gathersQ q⟩ a0 c0 ai ci aw cw ag cg ao co a6 c6) := by rw [hK]; rfl
  have hd : K.drop 1 = plnI b ⟨cs, q, out, gathersQ q⟩ a0 c0 ai ci aw cw ag cg ao co a6 c6 :: colsI a6 c6 out :: H := by rw [hK]; rfl
  refine ⟨fun st w => ∃ k, st = [.int .i64 k] ∧ (typed q p = true → typeE cs p.2.2 = .ok k) ∧ (typed q p = false → k = 1) ∧ ST w0 w K, ⟨fun st w => st = [.bool (typed q p)] ∧ Rd w a0 (colsL cs) ∧ ST w0 w K, S1.draw fun w2 B2 S2 => ⟨_, S2.cell 0 k0 rfl, IFB_dec (fun h => ⟨?_, hl1.grown B2, S2⟩) (fun h => ?_)⟩, ?_⟩, ?_⟩
  · change p.1 < 0 at h
    rw [typed, decide_eq_true h]
    rfl
  · change ¬ p.1 < 0 at h
    rcases hpm with h1 | ⟨i, hi, rfl⟩
    · omega
    · obtain ⟨pp, a4, cap4, hpa, hxk, hsz, cell⟩ := item_at (hri.grown S2.bel) hCi hi
      subst hpa
      refine ⟨_, _, _, S2.cell 1 k1 rfl, _, S2.cell 0 k0 rfl, ⟨by show (0 : Int) ≤ (i : Int); omega, by show (i : Int) < (q.it.length : Int); omega⟩, _, by show w2.cell? ((pp.add (((i : Nat) : Int).toNat * 8)).add 1) = _; rw [Int.toNat_natCast]; exact cell 1 _ rfl, ?_, hl1.grown B2, S2⟩
      rw [typed, decide_eq_false h, Bool.false_or]
      show [Value.bool (q.it[i].2.1 != 1)] = _
      rw [bne_dec]
      simp only [Int.toNat_natCast, List.getElem?_eq_getElem hi]
  · rintro t w3 ⟨ht, hl3, S3⟩
    obtain rfl : t = typed q p := by simpa using ht
    refine IFB_of (fun h => S3.draw fun w4 B4 S4 => ⟨_, _, _, S4.cell 1 k1 rfl, _, S4.cell 0 k0 rfl, _, S4.cell 0 k0 rfl, _, S4.cell 0 k0 rfl, _, S4.cell 0 k0 rfl, _, S4.cell 0 k0 rfl, _, _, _, S4.cell 0 k0 rfl, S4.call (expr_Type_ok (E.grown S4.bel) (hl3.grown B4) hn hq (hx.grown S4.bel)) fun w5 _ S5 => ?_⟩) (fun h => ⟨1, rfl, (fun h' => by rw [h] at h'; cases h'), fun _ => rfl, S3⟩)
    cases hT : typeE cs p.2.2 with
    | ok k => exact ⟨_, _, rfl, IFB_ne (fun h => absurd rfl h) (fun _ => ⟨k, rfl, fun _ => rfl, (fun h' => by rw [h] at h'; cases h'), S5⟩)⟩
    | error e =>
      refine ⟨_, _, rfl, IFB_ne (fun _ => ?_) (fun h => absurd h (type_err hT))⟩
      have : stepP cs q p = .error e := by
        unfold stepP
        rw [hT]
        rcases hpm with h1 | ⟨i, hi, rfl⟩
        · rw [if_pos (by omega)]
        · rw [if_neg (by simp only; omega)]
          simp only [Int.toNat_natCast, List.getElem?_eq_getElem hi]
          rw [typed, decide_eq_false (by simp only; omega)] at h
          simp only [Int.toNat_natCast, List.getElem?_eq_getElem hi, Bool.false_or, decide_eq_true_eq] at h
          change typeE cs q.it[i].2.2 = _ at hT
          rw [itemP, if_neg h, hT]
      rw [this]
      exact ⟨rfl, hd ▸ S5.drop 1⟩
  rintro t w6 ⟨k, ht, hk1, hk2, S6⟩
  obtain rfl : t = k := by simpa using ht
  refine ⟨fun st w => st = [.bool (decide (p.2.1 = true ∧ t ≠ 2 ∧ t ≠ 0))] ∧ ST w0 w K, ⟨_, S6.cell 0 k0 rfl, IFB_of (fun hw => IFB_ne (fun h2 => ⟨?_, S6⟩) (fun h2 => ⟨?_, S6⟩)) (fun hw => ⟨?_, S6⟩)⟩, ?_⟩
  · change p.2.1 = true at hw
    rw [bne_dec]
    congr 2
    rw [decide_eq_decide]
    exact ⟨fun h => ⟨hw, h2, h⟩, fun h => h.2.2⟩
  · rw [decide_eq_false (fun h => h.2.1 h2)]
  · change p.2.1 = false at hw
    rw [decide_eq_false (fun h => by rw [hw] at h; cases h.1)]
  rintro t' w7 ⟨ht', S7⟩
  obtain rfl : t' = decide (p.2.1 = true ∧ t ≠ 2 ∧ t ≠ 0) := by simpa using ht'
  rcases hpm with h1 | ⟨i, hi, rfl⟩
  · have hty : typeE cs p.2.2 = .ok t := hk1 (by rw [typed, decide_eq_true (by omega)]; rfl)
    refine IFB_dec (fun h => ?_) (fun h => ⟨_, S7.cell 0 k0 rfl, IFB_dec (fun h' => absurd (show p.1 ≥ 0 from h') (by omega)) (fun _ => ?_)⟩)
    · rw [stepP, if_pos (by omega), hty]
      simp only
      rw [if_pos h]
      exact ⟨rfl, hd ▸ S7.drop 1⟩
    · rw [stepP, if_pos (by omega), hty]
      simp only
      rw [if_neg h]
      refine ⟨a6, c6, rfl, ?_⟩
      rw [List.append_nil]
      exact hd ▸ S7.drop 1
  · refine IFB_dec (fun h => by cases h.1) (fun _ => ⟨_, S7.cell 0 k0 rfl, IFB_dec (fun _ => ⟨_, S7.cell 0 k0 rfl, ?_⟩) (fun h' => absurd (show ((i : Nat) : Int) ≥ 0 by omega) h')⟩)
    have S8 : ST w0 w7 (plnI b ⟨cs, q, out, gathersQ q⟩ a0 c0 ai ci aw cw ag cg ao co a6 c6 :: colsI a6 c6 out :: H) := hd ▸ S7.drop 1
    have hst : stepP cs q ((i : Int), false, q.it[i].2.2) = oneC (itemK q i q.it[i] t) := by
      rw [stepP, if_neg (by simp only; omega)]
      simp only [Int.toNat_natCast, List.getElem?_eq_getElem hi]
      have htp : typed q ((i : Int), false, q.it[i].2.2) = decide (q.it[i].2.1 ≠ 1) := by
        rw [typed, decide_eq_false (by simp only; omega), Bool.false_or]
        simp only [Int.toNat_natCast, List.getElem?_eq_getElem hi]
      rw [htp] at hk1 hk2
      have hP : itemP cs q i q.it[i] = itemK q i q.it[i] t := by
        unfold itemP
        by_cases h1 : q.it[i].2.1 = 1
        · rw [if_pos h1, hk2 (by simp [h1])]
        · rw [if_neg h1, hk1 (by simp [h1])]
      rw [hP]
      cases itemK q i q.it[i] t <;> rfl
    rw [hst]
    refine (planner_item_ok E Q hci S8 hi ho t).mono ?_
    rintro _ w8 ⟨v, rfl, hv⟩
    cases hI : itemK q i q.it[i] t with
    | error e => rw [hI] at hv; obtain ⟨rfl, S9⟩ := hv; exact ⟨_, rfl, rfl, S9⟩
    | ok c => rw [hI] at hv; obtain ⟨a', c', rfl, S9⟩ := hv; exact ⟨_, rfl, a', c', rfl, S9⟩
end
section
variable {w w0 : World} {H : List It}
theorem clone_cols_ok (S : ST w0 w H) {a : Option Addr} {c : Nat} {l : List Col} (h : Rd w a (colsL l)) (hl : l.length ≤ 1000) : Calls Tryz.prog f.slices_Clone_api_Column_api_Column #[.slice a l.length c] w (Ret fun v w' => ∃ a' c', v = .slice a' l.length c' ∧ ST w0 w' (colsI a' c' l :: H)) := by
  apply R.slices_Clone_api_Column_api_Column_calls
  unfold R.slices_Clone_api_Column_api_Column
  cases a with
  | none =>
    have : l = [] := by
      cases l with
      | nil => rfl
      | cons x l =>
        obtain ⟨p, hp, _⟩ := h 0 (.string x.1) (by simp [colC])
        cases hp
    subst this
    exact IFB_true ⟨none, 0, rfl, S.nil _ _⟩
  | some q =>
    refine IFB_false (S.empty (sz := 3) fun b2 w1 B1 S => ?_)
    refine S.app 0 rfl tCols rfl (by omega) (by omega) (h.grown B1) (mm := l.length) (cols_len l) (cols_one l) (by omega) fun a' c' w' S => ⟨_, _, _, rfl, a', c', by rw [Nat.zero_add], ?_⟩
    simp only [Nat.zero_add, List.nil_append] at S
    exact S
theorem make_c1_ok {wc : World} {y : Itm} {c : List Value} (hy : ItC (fun _ => False) wc y c) : Calls Tryz.prog f.plan_Make_c1 #[.agg ⟨c⟩] w (Ret fun r w' => r = .bool (decide (y.2.1 ≠ 0)) ∧ Below w.heap.size w w') := by
  obtain ⟨ce, rfl, hx2, _⟩ := hy
  obtain ⟨a4, cap4, _, rfl, _⟩ := ExC.open hx2
  apply R.plan_Make_c1_calls
  unfold R.plan_Make_c1
  exact (ST.start w).newB fun b8 w1 _ B1 S1 => ⟨_, S1.cell 0 rfl rfl, by rw [bne_dec], B1⟩
def ptrI (b c : Nat) (t : TypeId) : It := It.cells b #[.pointer (some ⟨c, 0, none⟩)] t
def intI1 (b : Nat) (n : Int) (t : TypeId) : It := It.cells b #[.int .i64 n] t
end
section
variable {w : World} {q : Qu} {ai aw ag ao : Option Addr} {ci cw cg co : Nat}
theorem plan_Make_ok (E : Env w) {cs : List Col} {a1 : Option Addr} {c1 : Nat} (hl : Rd w a1 (colsL cs)) (hn : cs.length ≤ 9223372036854775807) (hq : ∀ c ∈ cs, c.1.size ≤ 9223372036854775807) (Q : QAt w q ai aw ag ao) (hci : q.it.length ≤ ci) :
    Calls Tryz.prog f.plan_Make #[.slice a1 cs.length c1, .agg ⟨quL q ai aw ag ao ci cw cg co⟩] w (Ret fun r w' => MakeV cs q w w' r) := by
  apply R.plan_Make_calls
  unfold R.plan_Make
  obtain ⟨ri, hri, hCi⟩ := Q.it
  refine (ST.start w).newB fun b7 w1 _ _ S1 => S1.newB fun b8 w2 _ _ S2 => S2.call (schema_Right_ok (hl.grown S2.bel) hn hq) fun w3 _ S3 => ⟨_, rfl, IFB_not (IFB_of (fun h1 => ?_) (fun h1 => stPlan S3 0 rfl fun w11 S11 => make_err (by rw [makeP, if_pos h1]) S11.bel))⟩
  have S3 : ST w w3 [It.cells b8 #[.slice none 0 0, .slice none 0 0, .slice none 0 0, .slice none 0 0, .slice none 0 0, .int .i64 0, .slice none 0 0, .bool false] ty.api_Plan, quI b7 q ai aw ag ao ci cw cg co] := S3
  refine stQ S3 1 rfl (stQ S3 1 rfl (S3.call (query_Same_self (E.grown S3.bel) (Q.grown S3.bel)) fun w12 _ S12 => ⟨_, rfl, IFB_not (IFB_of (fun h2 => ?_) (fun h2 => stPlan S12 0 rfl fun w11 S11 => make_err (by rw [makeP, if_neg (by rw [h1]; decide), if_pos h2]) S11.bel))⟩))
  have hn16 : cs.length ≤ 16 := by
    unfold rightCols at h1
    simp only [Bool.and_eq_true, decide_eq_true_eq] at h1
    exact h1.1.1.2
  have hi16 := (smallQ_iff.1 (rightQ_small h2).1).1.2.1
  obtain ⟨Z, hZ⟩ : ∃ Z, Z = It.cells b8 #[.slice none 0 0, .slice none 0 0, .slice none 0 0, .slice none 0 0, .slice none 0 0, .int .i64 0, .slice none 0 0, .bool false] ty.api_Plan := ⟨_, rfl⟩
  rw [← hZ] at S12
  refine ⟨_, _, _, S12.cell 1 rfl rfl, S12.call (any_api_Item_ok (hri.grown S12.bel) hCi Q.nit (by kernel_rfl) (fun y => decide (y.2.1 ≠ 0)) fun w' y c B hy hc => make_c1_ok hc) fun w21 _ S21 => ⟨_, rfl, ?_⟩⟩
  have hg1 : (q.it.any fun y => decide (y.2.1 ≠ 0)) = true → true = gathersQ q := fun h => by rw [gathersQ, h]; rfl
  have hg2 : (q.it.any fun y => decide (y.2.1 ≠ 0)) = false → decide ((q.gr.length : Int) > 0) = gathersQ q := fun h => by rw [gathersQ, h, Bool.false_or, decide_eq_decide]; omega
  refine ⟨fun st w' => ∃ bq bp a' c', st = [.pointer (some ⟨bq, 0, none⟩)] ∧ ST w w' [plnI bp ⟨cs, q, [], gathersQ q⟩ a' c' ai ci aw cw ag cg ao co none 0, ptrI bq bp ty.P_plan_planner, colsI a' c' cs, Z, quI b7 q ai aw ag ao ci cw cg co], S21.draw fun w22 _ S => ?_, ?_⟩
  · have five : ∀ {w'} {K : List It} (n : Nat), ST w w' K → K[n]? = some (quI b7 q ai aw ag ao ci cw cg co) → w'.cell? ⟨b7, 0, none⟩ = some (.slice ai q.it.length ci) ∧ w'.cell? ⟨b7, 1, none⟩ = some (.slice aw q.wh.length cw) ∧ w'.cell? ⟨b7, 2, none⟩ = some (.slice ag q.gr.length cg) ∧ w'.cell? ⟨b7, 3, none⟩ = some (.slice ao q.od.length co) ∧ w'.cell? ⟨b7, 4, none⟩ = some (.int .i64 q.lim) := fun n S g1 => ⟨S.cell n g1 rfl, S.cell n g1 rfl, S.cell n g1 rfl, S.cell n g1 rfl, S.cell n g1 rfl⟩
    have fst : ∀ {w'} {a' c'} {g : Bool} {k : Nat → World → Prop}, g = gathersQ q → ST w w' [colsI a' c' cs, Z, quI b7 q ai aw ag ao ci cw cg co] → (∀ bq bp w', ST w w' [plnI bp ⟨cs, q, [], gathersQ q⟩ a' c' ai ci aw cw ag cg ao co none 0, ptrI bq bp ty.P_plan_planner, colsI a' c' cs, Z, quI b7 q ai aw ag ao ci cw cg co] → k bq w') →
        NEWB #[.slice a' cs.length c', .slice ai q.it.length ci, .slice aw q.wh.length cw, .slice ag q.gr.length cg, .slice ao q.od.length co, .int .i64 q.lim, .slice none 0 0, .bool g] ty.plan_planner (fun bp w => NEWB #[.pointer none] ty.P_plan_planner (fun bq w => STO ⟨bq, 0, none⟩ (.pointer (some ⟨bp, 0, none⟩)) (fun w => k bq w) w) w) w' := fun hg S hk => by
      subst hg
      exact S.newB fun bp w1 _ _ S1 => S1.newB fun bq w2 _ _ S2 => S2.sto 0 rfl (cs' := #[.pointer (some ⟨bp, 0, none⟩)]) (by simp) rfl fun w3 S3 => hk bq bp w3 (S3.pull 1 rfl)
    have snd : ∀ {w'} {a' c'} {g : Bool} {bq : Nat} {k : World → Prop}, g = gathersQ q → ST w w' [colsI a' c' cs, It.cells bq #[.pointer none] ty.P_plan_planner, Z, quI b7 q ai aw ag ao ci cw cg co] → (∀ bp w', ST w w' [plnI bp ⟨cs, q, [], gathersQ q⟩ a' c' ai ci aw cw ag cg ao co none 0, ptrI bq bp ty.P_plan_planner, colsI a' c' cs, Z, quI b7 q ai aw ag ao ci cw cg co] → k w') →
        NEWB #[.slice a' cs.length c', .slice ai q.it.length ci, .slice aw q.wh.length cw, .slice ag q.gr.length cg, .slice ao q.od.length co, .int .i64 q.lim, .slice none 0 0, .bool g] ty.plan_planner (fun bp w => STO ⟨bq, 0, none⟩ (.pointer (some ⟨bp, 0, none⟩)) (fun w => k w) w) w' := fun hg S hk => by
      subst hg
      exact S.newB fun bp w1 _ _ S1 => S1.sto 2 rfl (cs' := #[.pointer (some ⟨bp, 0, none⟩)]) (by simp) rfl fun w3 S3 => hk bp w3 ((S3.pull 2 rfl).pull 1 rfl)
    refine stQ S 1 rfl ⟨(clone_cols_ok S (hl.grown S.bel) (by omega)).mono ?_, S.newB fun b58 w36 _ _ S36 => ⟨five 2 S36 rfl, (clone_cols_ok S36 (hl.grown S36.bel) (by omega)).mono ?_⟩⟩
    · rintro _ w23 ⟨_, rfl, a', c', rfl, S23⟩
      refine ⟨_, _, _, rfl, five 2 S23 rfl, IFB_of (fun h => ⟨fst (hg1 h) S23 fun bq bp w' S' => ⟨bq, bp, a', c', rfl, S'⟩, S23.newB fun b51 w27 _ _ S27 => ⟨five 3 S27 rfl, snd (hg1 h) (S27.pull 1 rfl) fun bp w' S' => ⟨_, bp, a', c', rfl, S'⟩⟩⟩) (fun h => ⟨_, _, _, S23.cell 2 rfl rfl, fst (hg2 h) S23 fun bq bp w' S' => ⟨bq, bp, a', c', rfl, S'⟩, S23.newB fun b51 w27 _ _ S27 => ⟨S27.cell 3 rfl rfl, five 3 S27 rfl, snd (hg2 h) (S27.pull 1 rfl) fun bp w' S' => ⟨_, bp, a', c', rfl, S'⟩⟩⟩)⟩
    · rintro _ w37 ⟨_, rfl, a', c', rfl, S37⟩
      refine ⟨_, _, _, rfl, five 3 S37 rfl, IFB_of (fun h => snd (hg1 h) S37 fun bp w' S' => ⟨_, bp, a', c', rfl, S'⟩) (fun h => ⟨_, _, _, S37.cell 3 rfl rfl, snd (hg2 h) S37 fun bp w' S' => ⟨_, bp, a', c', rfl, S'⟩⟩)⟩
  rintro pp w42 ⟨bq, bp, a', c', hst, S42⟩
  obtain rfl : pp = some ⟨bq, 0, none⟩ := by simpa using hst
  refine S42.newB fun b66 w43 _ _ S43 => S43.sto 0 rfl (cs' := #[.int .i64 0]) (by simp) rfl fun w44 S44 => ?_
  refine ⟨fun _ ms w' => ∃ m e out a6 c6, ms = [m] ∧ ((e = 0 ∧ runP cs q (prts q) = .ok out) ∨ (e ≠ 0 ∧ runP cs q (prts q) = .error e)) ∧ ST w w' [plnI bp ⟨cs, q, out, gathersQ q⟩ a' c' ai ci aw cw ag cg ao co a6 c6, colsI a6 c6 out, intI1 b66 e ty.api_Errno, ptrI bq bp ty.P_plan_planner, colsI a' c' cs, It.obj m (.deferred (some [])), Z, quI b7 q ai aw ag ao ci cw cg co], ?_, ?_⟩
  · refine stQ S44 5 rfl (plan_parts_ok.mono ?_)
    rintro _ w45 ⟨_, rfl, bx, rfl, P45⟩
    have S45 := ((S44.nil ty.api_Column 3).join P45)
    refine ⟨_, _, _, rfl, by kernel_rfl, fun rr hst hpe hy => ?_⟩
    have S46 := S45.range rr
    obtain ⟨L, hL⟩ : ∃ L, L = w45.heap.size + 1 := ⟨_, rfl⟩
    obtain ⟨m, hm⟩ : ∃ m, m = w45.heap.size := ⟨_, rfl⟩
    rw [← hL] at S46 hy ⊢
    rw [← hm] at S46 ⊢
    have S47 : ST w ((w45.alloc (.deferred (some []))).alloc (.loop rr)) (quI bx q ai aw ag ao ci cw cg co :: ([It.obj m (.deferred (some [])), Z, quI b7 q ai aw ag ao ci cw cg co] ++ [plnI bp ⟨cs, q, [], gathersQ q⟩ a' c' ai ci aw cw ag cg ao co none 0, colsI none 0 [], It.obj L (.loop rr), intI1 b66 0 ty.api_Errno, ptrI bq bp ty.P_plan_planner, colsI a' c' cs])) := by
      exact (((((((((S46.pull 7 rfl).pull 7 rfl).pull 6 rfl).pull 3 rfl).pull 6 rfl).pull 7 rfl).pull 9 rfl).pull 9 rfl).pull 8 rfl).pull 9 rfl
    refine (parts_c1_ok (I := fun done B => ∃ out a6 c6, runP cs q done = .ok out ∧ B = [plnI bp ⟨cs, q, out, gathersQ q⟩ a' c' ai ci aw cw ag cg ao co a6 c6, colsI a6 c6 out, It.obj L (.loop rr), intI1 b66 0 ty.api_Errno, ptrI bq bp ty.P_plan_planner, colsI a' c' cs])
      (J := fun B => ∃ e out a6 c6, e ≠ 0 ∧ runP cs q (prts q) = .error e ∧ B = [plnI bp ⟨cs, q, out, gathersQ q⟩ a' c' ai ci aw cw ag cg ao co a6 c6, colsI a6 c6 out, It.obj L (.loop { rr with state := .done, pending := some (.exit 1) }), intI1 b66 e ty.api_Errno, ptrI bq bp ty.P_plan_planner, colsI a' c' cs]) ?_ Q ⟨[], none, 0, rfl, rfl⟩ S47).mono ?_
    · rintro done x rest vs HN _ w6 htot ⟨out, a6, c6, hrun, rfl⟩ S ⟨cs2, rfl, hx⟩
      obtain ⟨a4, cap4, _, rfl, _⟩ := ExC.open hx
      have S := ST.mid (B := []) [plnI bp ⟨cs, q, out, gathersQ q⟩ a' c' ai ci aw cw ag cg ao co a6 c6, colsI a6 c6 out, It.obj L (.loop rr), intI1 b66 0 ty.api_Errno, ptrI bq bp ty.P_plan_planner, colsI a' c' cs] S
      have hxm : x ∈ prts q := by rw [htot]; simp
      have hol : out.length ≤ 1000 := by
        have h1 := run_len hrun
        have h2 := prts_len (rightQ_small h2).1
        have := congrArg List.length htot
        simp only [List.length_append, List.length_cons] at this
        omega
      refine hy _ _ _ _ _ _ _ _ _ _ _ w6 (S.get 2 rfl) ?_
      refine S.lit8 fun b83 w55 _ S => S.begr 3 rfl fun w56 S => ⟨_, S.cell 5 rfl rfl, _, S.cell 0 rfl rfl, _, S.cell 0 rfl rfl, _, S.cell 0 rfl rfl, _, S.cell 0 rfl rfl, _, S.cell 0 rfl rfl, _, S.cell 0 rfl rfl, _, S.cell 0 rfl rfl, _, _, _, S.cell 0 rfl rfl, ?_⟩
      have S56 := (S.pull 2 rfl).pull 2 rfl
      refine (planner_check_ok E Q hci (S.rd 6 rfl) hn hq S56 hol hxm hx).mono ?_
      rintro _ w57 ⟨v, rfl, hv⟩
      have hbad : ∀ e, stepP cs q x = .error e → runP cs q (prts q) = .error e := fun e he => by rw [htot]; exact run_bad he hrun
      cases hst2 : stepP cs q x with
      | error e =>
        rw [hst2] at hv
        obtain ⟨rfl, S57⟩ := hv
        refine ⟨_, rfl, S57.sto 4 rfl (cs' := #[.int .i64 e]) (by simp) rfl fun w58 S58 => ⟨_, S58.cell 4 rfl rfl, IFB_ne (fun _ => S58.endr1 3 rfl fun w' S' => ⟨_, ST.unmid (B := []) [plnI bp ⟨cs, q, out, gathersQ q⟩ a' c' ai ci aw cw ag cg ao co a6 c6, colsI a6 c6 out, It.obj L (.loop { rr with state := .done, pending := some (.exit 1) }), intI1 b66 e ty.api_Errno, ptrI bq bp ty.P_plan_planner, colsI a' c' cs] ((S'.pull 2 rfl).drop 1), .inr ⟨rfl, e, out, a6, c6, step_err hst2, hbad e hst2, rfl⟩⟩) (fun h => absurd h (step_err hst2))⟩⟩
      | ok l =>
        rw [hst2] at hv
        obtain ⟨a5, c5, rfl, S57⟩ := hv
        refine ⟨_, rfl, S57.sto 4 rfl (cs' := #[.int .i64 0]) (by simp) rfl fun w58 S58 => ⟨_, S58.cell 4 rfl rfl, IFB_ne (fun h => absurd rfl h) (fun _ => S58.endr0 3 hst hpe rfl fun w' S' => ⟨_, ST.unmid (B := []) [plnI bp ⟨cs, q, out ++ l, gathersQ q⟩ a' c' ai ci aw cw ag cg ao co a5 c5, colsI a5 c5 (out ++ l), It.obj L (.loop rr), intI1 b66 0 ty.api_Errno, ptrI bq bp ty.P_plan_planner, colsI a' c' cs] ((S'.pull 2 rfl).drop 1), .inl ⟨rfl, out ++ l, a5, c5, run_snoc hst2 hrun, rfl⟩⟩)⟩⟩
    · rintro _ w59 ⟨_, rfl, B', S59, ⟨out, a6, c6, hrun, rfl⟩ | ⟨e, out, a6, c6, he, hrun, rfl⟩⟩
      · have S59 := ST.mid (B := []) [plnI bp ⟨cs, q, out, gathersQ q⟩ a' c' ai ci aw cw ag cg ao co a6 c6, colsI a6 c6 out, It.obj L (.loop rr), intI1 b66 0 ty.api_Errno, ptrI bq bp ty.P_plan_planner, colsI a' c' cs] S59
        exact ⟨⟨_, rfl⟩, S59.endl0 2 hst hpe rfl fun w60 S60 => .inl ⟨rfl, m, 0, out, a6, c6, rfl, .inl ⟨rfl, hrun⟩, (S60.pull 2 rfl).drop 1⟩⟩
      · have S59 := ST.mid (B := []) [plnI bp ⟨cs, q, out, gathersQ q⟩ a' c' ai ci aw cw ag cg ao co a6 c6, colsI a6 c6 out, It.obj L (.loop { rr with state := .done, pending := some (.exit 1) }), intI1 b66 e ty.api_Errno, ptrI bq bp ty.P_plan_planner, colsI a' c' cs] S59
        exact ⟨⟨_, rfl⟩, S59.endl1 2 rfl fun w60 S60 => .inr ⟨rfl, m, e, out, a6, c6, rfl, .inr ⟨he, hrun⟩, (S60.pull 2 rfl).drop 1⟩⟩
  rintro _ w61 ⟨m, e, out, a6, c6, rfl, hrun, S61⟩
  rw [run_make h1 h2] at hrun
  rw [hZ] at S61
  refine ⟨_, S61.cell 2 rfl rfl, IFB_ne (fun he => S61.draw fun w62 _ S62 => ⟨_, S62.cell 2 rfl rfl, S62.sto8 6 rfl fun w70 S70 => ⟨S70.cell 2 rfl rfl, ?_⟩⟩) (fun he => ⟨_, S61.cell 3 rfl rfl, _, _, _, S61.cell 0 rfl rfl, _, _, _, S61.cell 0 rfl rfl, _, _, _, S61.cell 0 rfl rfl, _, _, _, S61.cell 0 rfl rfl, _, _, _, S61.cell 0 rfl rfl, _, S61.cell 0 rfl rfl, _, _, _, S61.cell 0 rfl rfl, _, S61.cell 0 rfl rfl, S61.sto8 6 rfl fun w79 S79 => ?_⟩)⟩
  · refine ST.shut (ms := [m]) (S70.pull 5 rfl) fun w71 S71 => ⟨_, _, _, S71.cell 5 rfl rfl, _, _, _, S71.cell 5 rfl rfl, _, _, _, S71.cell 5 rfl rfl, _, _, _, S71.cell 5 rfl rfl, _, _, _, S71.cell 5 rfl rfl, _, S71.cell 5 rfl rfl, _, _, _, S71.cell 5 rfl rfl, _, S71.cell 5 rfl rfl, ?_⟩
    rcases hrun with ⟨h, _⟩ | ⟨_, h⟩
    · exact absurd h he
    · exact make_err h S71.bel
  · refine ST.shut (ms := [m]) (S79.pull 5 rfl) fun w71 S71 => ⟨_, _, _, S71.cell 5 rfl rfl, _, _, _, S71.cell 5 rfl rfl, _, _, _, S71.cell 5 rfl rfl, _, _, _, S71.cell 5 rfl rfl, _, _, _, S71.cell 5 rfl rfl, _, S71.cell 5 rfl rfl, _, _, _, S71.cell 5 rfl rfl, _, S71.cell 5 rfl rfl, ?_⟩
    rcases hrun with ⟨_, h⟩ | ⟨h, _⟩
    · have hp : planOf cs q = (⟨cs, q, out, gathersQ q⟩, 0) := by rw [planOf, h]
      unfold MakeV
      rw [hp]
      have hol := makeP_len h
      exact ⟨a', c', ai, ci, aw, cw, ag, cg, ao, co, a6, c6, rfl, ⟨S71.rd 4 rfl, hn, hq, Q.grown S71.bel, S71.rd 1 rfl, by show out.length ≤ _; omega⟩, hci, S71.bel⟩
    · exact absurd he h
end
end Go.Proofs.YtbpdfpfgijhokaaGreatDoor
