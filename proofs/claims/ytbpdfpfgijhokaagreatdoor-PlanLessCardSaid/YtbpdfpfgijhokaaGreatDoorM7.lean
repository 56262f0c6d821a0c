/-
  Texts of this claim, laid one behind the other by a program of mine (install.py): P.Rp2, P.Rp3, P.Rp4, P.Pl1, P.Pl2, P.Pl3, P.SortI, P.Pl4, P.Pl5, P.Pl6, P.Pl7, P.Rp5, P.Rp6.
-/
import Derived.Test.YtbpdfpfgijhokaaGreatDoorM6
import Derived.Test.YtbpdfpfgijhokaaGreatDoorM5
namespace Go.Proofs.YtbpdfpfgijhokaaGreatDoor
set_option maxRecDepth 100000
open Go.Dn Go.Proofs
open Go.RowKit (Below)
set_option linter.unusedVariables false
section
variable {w0 w : World} {H : List It}
theorem stEx (S : ST w0 w H) (n : Nat) {b : Nat} {x0 x1 x2 x3 x4 x5 : Value} {t0 t2 t3 : Int} {t1 t4 : ByteArray} {a5 : Option Addr} {l5 c5 : Nat} {t : TypeId} (hn : H[n]? = some (It.cells b #[x0, x1, x2, x3, x4, x5] t)) {Q : Int → ByteArray → Int → Int → ByteArray → Option Addr → Nat → Nat → World → Prop}
    (hk : ∀ w', ST w0 w' (H.set n (It.cells b #[.int .i64 t0, .string t1, .int .i64 t2, .int .i64 t3, .string t4, .slice a5 l5 c5] t)) → Q t0 t1 t2 t3 t4 a5 l5 c5 w') :
    STO ⟨b, 0, none⟩ (.int .i64 t0) (fun w => STO ⟨b, 1, none⟩ (.string t1) (fun w => STO ⟨b, 2, none⟩ (.int .i64 t2) (fun w => STO ⟨b, 3, none⟩ (.int .i64 t3) (fun w => STO ⟨b, 4, none⟩ (.string t4) (fun w => STO ⟨b, 5, none⟩ (.slice a5 l5 c5) (fun w =>
      ∃ r0 : Int, w.cell? ⟨b, 0, none⟩ = some (.int .i64 r0) ∧ ∃ r1 : ByteArray, w.cell? ⟨b, 1, none⟩ = some (.string r1) ∧ ∃ r2 : Int, w.cell? ⟨b, 2, none⟩ = some (.int .i64 r2) ∧ ∃ r3 : Int, w.cell? ⟨b, 3, none⟩ = some (.int .i64 r3) ∧ ∃ r4 : ByteArray, w.cell? ⟨b, 4, none⟩ = some (.string r4) ∧
      ∃ (r5 : Option Addr) (r5l r5c : Nat), w.cell? ⟨b, 5, none⟩ = some (.slice r5 r5l r5c) ∧ Q r0 r1 r2 r3 r4 r5 r5l r5c w) w) w) w) w) w) w := by
  have hlt := (List.getElem?_eq_some_iff.1 hn).1
  have g : ∀ {x : It}, (H.set n x)[n]? = some x := List.getElem?_set_self hlt
  refine S.sto n hn (cs' := #[.int .i64 t0, x1, x2, x3, x4, x5]) (by simp) rfl fun w1 S1 => S1.sto n g (cs' := #[.int .i64 t0, .string t1, x2, x3, x4, x5]) (by simp) rfl fun w2 S2 => ?_
  rw [List.set_set] at S2
  refine S2.sto n g (cs' := #[.int .i64 t0, .string t1, .int .i64 t2, x3, x4, x5]) (by simp) rfl fun w3 S3 => ?_
  rw [List.set_set] at S3
  refine S3.sto n g (cs' := #[.int .i64 t0, .string t1, .int .i64 t2, .int .i64 t3, x4, x5]) (by simp) rfl fun w4 S4 => ?_
  rw [List.set_set] at S4
  refine S4.sto n g (cs' := #[.int .i64 t0, .string t1, .int .i64 t2, .int .i64 t3, .string t4, x5]) (by simp) rfl fun w5 S5 => ?_
  rw [List.set_set] at S5
  refine S5.sto n g (cs' := #[.int .i64 t0, .string t1, .int .i64 t2, .int .i64 t3, .string t4, .slice a5 l5 c5]) (by simp) rfl fun w6 S6 => ?_
  rw [List.set_set] at S6
  exact ⟨_, S6.cell n g rfl, _, S6.cell n g rfl, _, S6.cell n g rfl, _, S6.cell n g rfl, _, S6.cell n g rfl, _, _, _, S6.cell n g rfl, hk w6 S6⟩
end
def colX (s : ByteArray) : Ex := .mk 1 s V0 []
def headW : List ByteArray := [⟨#[110, 117, 108, 108]⟩, ⟨#[116, 114, 117, 101]⟩, ⟨#[102, 97, 108, 115, 101]⟩, ⟨#[108, 101, 110]⟩, ⟨#[40]⟩, ⟨#[45]⟩, ⟨#[110, 111, 116]⟩, ⟨#[99, 111, 117, 110, 116]⟩, ⟨#[115, 117, 109]⟩, ⟨#[109, 105, 110]⟩, ⟨#[109, 97, 120]⟩]
def tailW : List ByteArray := [⟨#[42]⟩, ⟨#[47]⟩, ⟨#[37]⟩, ⟨#[43]⟩, ⟨#[45]⟩, ⟨#[61]⟩, ⟨#[60]⟩, ⟨#[60, 61]⟩, ⟨#[105, 115]⟩, ⟨#[97, 110, 100]⟩, ⟨#[111, 114]⟩]
structure Lone (T : List Tk) (i : Nat) : Prop where
  lt : i + 1 < T.length
  nm : ∀ h : i < T.length, T[i].2.1 = 1 ∧ isKeyB T[i].2.2 = false
  hd : ∀ h : i < T.length, ∀ s ∈ headW, seesB T[i] s = false
  tl : ∀ s ∈ tailW, seesB T[i + 1] s = false
abbrev rpL (b : Nat) (a : Option Addr) (c i : Nat) (T : List Tk) (H : List It) : List It := rpI b a T.length c i true :: It.rd a (tksL T) :: H
def NameCall (f : FuncId) : Prop := ∀ {w0 w : World} {H : List It} {b : Nat} {a : Option Addr} {c i : Nat} {T : List Tk}, T.length ≤ 1000000 → (h : Lone T i) → ST w0 w (rpL b a c i T H) →
  Calls Tryz.prog f #[.pointer (some ⟨b, 0, none⟩)] w (Ret fun r w' => r = .agg ⟨exHead (colX (T[i]'(by have := h.lt; omega)).2.2) none 0⟩ ∧ ST w0 w' (rpL b a c (i + 1) T H))
theorem rword_ok {w0 w : World} {H : List It} {b : Nat} {a : Option Addr} {c i : Nat} {T : List Tk} (hT : T.length ≤ 1000000) (h : Lone T i) (S : ST w0 w (rpL b a c i T H)) :
    Calls Tryz.prog f.ref11_parser_word #[.pointer (some ⟨b, 0, none⟩)] w (Ret fun r w' => r = .tuple #[.agg #[.int .i64 0, .string E0, .int .i64 0, .int .i64 0, .string E0, .slice none 0 0], .bool false] ∧ ST w0 w' (rpL b a c i T H)) := by
  have hi : i < T.length := by have := h.lt; omega
  apply R.ref11_parser_word_calls
  unfold R.ref11_parser_word
  refine S.newB fun b2 w1 _ _ S1 => S1.newB fun b3 w2 _ _ S2 => ?_
  obtain ⟨K, hK⟩ : ∃ K, K = [It.cells b3 #[.string ⟨#[110, 117, 108, 108]⟩, .string ⟨#[116, 114, 117, 101]⟩, .string ⟨#[102, 97, 108, 115, 101]⟩] ty.string, It.cells b2 #[.int .i64 0, .string E0, .int .i64 0, .int .i64 0, .string E0, .slice none 0 0] ty.api_Expr] ++ H := ⟨_, rfl⟩
  have k2 : K[1]? = some (It.cells b2 #[.int .i64 0, .string E0, .int .i64 0, .int .i64 0, .string E0, .slice none 0 0] ty.api_Expr) := by rw [hK]; rfl
  have k3 : K[0]? = some (It.cells b3 #[.string ⟨#[110, 117, 108, 108]⟩, .string ⟨#[116, 114, 117, 101]⟩, .string ⟨#[102, 97, 108, 115, 101]⟩] ty.string) := by rw [hK]; rfl
  have S3 : ST w0 w2 (rpL b a c i T K) := by rw [hK]; exact (S2.pull 3 rfl).pull 3 rfl
  refine forUp 3 (fun j w => ST w0 w (rpL b a c i T K)) (by omega) S3 fun I M j w3 hj S4 next => ?_
  refine IFB_dec (fun hlt => ⟨⟨by omega, hlt⟩, ?_⟩) (fun hge => stEx S4 3 k2 fun w9 S9 => ⟨rfl, ?_⟩)
  · have hj3 : j < 3 := by omega
    obtain ⟨s, hs, hm⟩ : ∃ s : ByteArray, (#[Value.string ⟨#[110, 117, 108, 108]⟩, .string ⟨#[116, 114, 117, 101]⟩, .string ⟨#[102, 97, 108, 115, 101]⟩] : Array Value)[j]? = some (.string s) ∧ s ∈ headW := by
      have : j = 0 ∨ j = 1 ∨ j = 2 := by omega
      rcases this with rfl | rfl | rfl
      · exact ⟨_, rfl, by simp [headW]⟩
      · exact ⟨_, rfl, by simp [headW]⟩
      · exact ⟨_, rfl, by simp [headW]⟩
    refine ⟨s, ?_, rtakesN S4 hi hT (h.hd hi s hm) fun w10 S10 => ⟨_, rfl, IFB_false (next _ hj3 S10)⟩⟩
    rw [Int.toNat_natCast, Nat.mul_one, addr_add_blk, Nat.zero_add]
    exact S4.cell 2 k3 hs
  · rw [hK] at S9
    exact (((S9.pull 2 rfl).drop 1).pull 2 rfl).drop 1
theorem rpL_in {w0 w : World} {H : List It} {b : Nat} {a : Option Addr} {c i : Nat} {T : List Tk} {x : It} (S : ST w0 w (x :: rpL b a c i T H)) : ST w0 w (rpL b a c i T (x :: H)) := (S.pull 2 rfl).pull 2 rfl
theorem rpL_out {w0 w : World} {H : List It} {b : Nat} {a : Option Addr} {c i : Nat} {T : List Tk} {x : It} (S : ST w0 w (rpL b a c i T (x :: H))) : ST w0 w (rpL b a c i T H) := (S.pull 2 rfl).drop 1
theorem ratom_ok : NameCall f.ref11_parser_atom := by
  intro w0 w H b a c i T hT h S
  have hi : i < T.length := by have := h.lt; omega
  obtain ⟨h1, h2⟩ := h.nm hi
  apply R.ref11_parser_atom_calls
  unfold R.ref11_parser_atom
  refine S.newB fun b2 w1 _ _ S1 => (rword_ok hT h (rpL_in S1)).mono ?_
  rintro _ w2 ⟨_, rfl, rfl, S2⟩
  refine ⟨_, _, _, _, _, _, _, _, _, rfl, S2.lit6 fun b11 w9 _ S9 => IFB_false ((rpL_in S9).draw fun w16 _ S16 => ?_)⟩
  obtain ⟨p, hp, c0, c1, c2⟩ := tk_at (show Rd w16 a (tksL T) from S16.get 1 rfl) hi
  subst hp
  refine ⟨_, _, _, S16.cell 0 rfl rfl, _, S16.cell 0 rfl rfl, ⟨by omega, by omega⟩, ?_⟩
  rw [Int.toNat_natCast]
  refine ⟨_, c0, _, c1, _, c2, S16.newB fun b32 w17 _ B17 S17 => ?_⟩
  obtain ⟨_, hp, d0, d1, d2⟩ := tk_at ((show Rd w16 (some p) (tksL T) from S16.get 1 rfl).grown B17) hi
  cases hp
  refine ⟨⟨d0, d1, d2⟩, S17.cell 1 rfl rfl, S17.cell 1 rfl rfl, S17.sto3 0 rfl fun w20 S20 => ?_⟩
  obtain ⟨K, hK⟩ : ∃ K, K = It.cells b32 #[.int .i64 T[i].1, .int .i64 T[i].2.1, .string T[i].2.2] ty.ref11_Token :: It.cells b11 #[.int .i64 0, .string E0, .int .i64 0, .int .i64 0, .string E0, .slice none 0 0] ty.api_Expr :: It.cells b2 #[.int .i64 0, .string E0, .int .i64 0, .int .i64 0, .string E0, .slice none 0 0] ty.api_Expr :: H := ⟨_, rfl⟩
  have S20 : ST w0 w20 (rpL b (some p) c i T K) := by rw [hK]; exact rpL_in S20
  have k0 : K[0]? = some (It.cells b32 #[.int .i64 T[i].1, .int .i64 T[i].2.1, .string T[i].2.2] ty.ref11_Token) := by rw [hK]; rfl
  have k2 : K[2]? = some (It.cells b2 #[.int .i64 0, .string E0, .int .i64 0, .int .i64 0, .string E0, .slice none 0 0] ty.api_Expr) := by rw [hK]; rfl
  refine ⟨fun st w => st = [.bool false] ∧ ST w0 w (rpL b (some p) c i T K), ⟨_, S20.cell 0 rfl rfl, IFB_true ⟨_, S20.cell 2 k0 rfl, by rw [h1]; rfl, S20⟩⟩, ?_⟩
  rintro _ w21 ⟨hst, S21⟩
  cases hst
  refine IFB_false ⟨fun st w => st = [.bool false] ∧ ST w0 w (rpL b (some p) c i T K), ⟨_, S21.cell 0 rfl rfl, IFB_true ⟨_, S21.cell 2 k0 rfl, by rw [h1]; rfl, S21⟩⟩, ?_⟩
  rintro _ w30 ⟨hst, S30⟩
  cases hst
  refine IFB_false (rtakesN S30 hi hT (h.hd hi _ (by simp [headW])) fun w50 S50 => ⟨_, rfl, fun st w => st = [.bool false] ∧ ST w0 w (rpL b (some p) c i T K), ⟨_, S50.cell 0 rfl rfl, IFB_true (S50.call (rsees_ok S50 hi _) fun w51 _ S51 => ⟨_, rfl, by rw [h.hd hi _ (by simp [headW])], S51⟩)⟩, ?_⟩)
  rintro _ w52 ⟨hst, S52⟩
  cases hst
  refine ⟨fun st w => st = [.bool false] ∧ ST w0 w (rpL b (some p) c i T K), IFB_false ⟨rfl, S52⟩, ?_⟩
  rintro _ w53 ⟨hst, S53⟩
  cases hst
  refine IFB_false (rnameY S53 hi hT h1 h2 fun w77 S77 => ⟨_, rfl, stEx S77 4 k2 fun w83 S83 => ⟨rfl, ?_⟩⟩)
  rw [hK] at S83
  exact rpL_out (rpL_out (rpL_out S83))
theorem rminus_ok : NameCall f.ref11_parser_minus := by
  intro w0 w H b a c i T hT h S
  have hi : i < T.length := by have := h.lt; omega
  apply R.ref11_parser_minus_calls
  unfold R.ref11_parser_minus
  refine S.newB fun b2 w1 _ _ S1 => rtakesN (rpL_in S1) hi hT (h.hd hi _ (by simp [headW])) fun w2 S2 => ⟨_, rfl, IFB_not (IFB_false ((ratom_ok hT h S2).mono ?_))⟩
  rintro _ w3 ⟨_, rfl, rfl, S3⟩
  exact ⟨_, _, _, _, _, _, _, _, rfl, stEx S3 2 rfl fun w9 S9 => ⟨rfl, rpL_out S9⟩⟩
abbrev lvl (b10 b2 : Nat) (x : Ex) (H : List It) : List It := exI b10 (exHead x none 0) :: It.cells b2 #[.int .i64 0, .string E0, .int .i64 0, .int .i64 0, .string E0, .slice none 0 0] ty.api_Expr :: H
theorem rprod_ok : NameCall f.ref11_parser_prod := by
  intro w0 w H b a c i T hT h S
  have hi : i < T.length := by have := h.lt; omega
  apply R.ref11_parser_prod_calls
  unfold R.ref11_parser_prod
  refine S.newB fun b2 w1 _ _ S1 => (rminus_ok hT h (rpL_in S1)).mono ?_
  rintro _ w2 ⟨_, rfl, rfl, S2⟩
  refine ⟨_, _, _, _, _, _, _, _, rfl, S2.lit6 fun b10 w9 _ S9 => ?_⟩
  have S9 : ST w0 w9 (rpL b a c (i + 1) T (lvl b10 b2 (colX T[i].2.2) H)) := rpL_in S9
  refine ⟨fun _ w => ST w0 w (rpL b a c (i + 1) T (lvl b10 b2 (colX T[i].2.2) H)), fun _ _ => 0, S9, fun w10 S10 => ⟨_, S10.cell 0 rfl rfl, IFB_true (rtakesN S10 h.lt hT (h.tl _ (by simp [tailW])) fun w17 S17 => ⟨_, rfl, fun st w => st = [.bool false] ∧ ST w0 w (rpL b a c (i + 1) T (lvl b10 b2 (colX T[i].2.2) H)), IFB_not (IFB_false (rtakesN S17 h.lt hT (h.tl _ (by simp [tailW])) fun w18 S18 => ⟨_, rfl, rfl, S18⟩)), ?_⟩)⟩⟩
  rintro _ w19 ⟨hst, S19⟩
  cases hst
  refine ⟨fun st w => st = [.bool false] ∧ ST w0 w (rpL b a c (i + 1) T (lvl b10 b2 (colX T[i].2.2) H)), IFB_not (IFB_false (IFB_not (IFB_false (rtakesN S19 h.lt hT (h.tl _ (by simp [tailW])) fun w18 S18 => ⟨_, rfl, rfl, S18⟩)))), ?_⟩
  rintro _ w21 ⟨hst, S21⟩
  cases hst
  exact IFB_false (IFB_false (IFB_false (stX S21 2 rfl (stEx S21 3 rfl fun w54 S54 => ⟨rfl, rpL_out (rpL_out S54)⟩))))
theorem rsum_ok : NameCall f.ref11_parser_sum := by
  intro w0 w H b a c i T hT h S
  have hi : i < T.length := by have := h.lt; omega
  apply R.ref11_parser_sum_calls
  unfold R.ref11_parser_sum
  refine S.newB fun b2 w1 _ _ S1 => (rprod_ok hT h (rpL_in S1)).mono ?_
  rintro _ w2 ⟨_, rfl, rfl, S2⟩
  refine ⟨_, _, _, _, _, _, _, _, rfl, S2.lit6 fun b10 w9 _ S9 => ?_⟩
  have S9 : ST w0 w9 (rpL b a c (i + 1) T (lvl b10 b2 (colX T[i].2.2) H)) := rpL_in S9
  refine ⟨fun _ w => ST w0 w (rpL b a c (i + 1) T (lvl b10 b2 (colX T[i].2.2) H)), fun _ _ => 0, S9, fun w10 S10 => ⟨_, S10.cell 0 rfl rfl, IFB_true (rtakesN S10 h.lt hT (h.tl _ (by simp [tailW])) fun w17 S17 => ⟨_, rfl, fun st w => st = [.bool false] ∧ ST w0 w (rpL b a c (i + 1) T (lvl b10 b2 (colX T[i].2.2) H)), IFB_not (IFB_false (rtakesN S17 h.lt hT (h.tl _ (by simp [tailW])) fun w18 S18 => ⟨_, rfl, rfl, S18⟩)), ?_⟩)⟩⟩
  rintro _ w19 ⟨hst, S19⟩
  cases hst
  exact IFB_false (IFB_false (stX S19 2 rfl (stEx S19 3 rfl fun w54 S54 => ⟨rfl, rpL_out (rpL_out S54)⟩)))
theorem rrel_ok : NameCall f.ref11_parser_rel := by
  intro w0 w H b a c i T hT h S
  have hi : i < T.length := by have := h.lt; omega
  apply R.ref11_parser_rel_calls
  unfold R.ref11_parser_rel
  refine S.newB fun b2 w1 _ _ S1 => (rsum_ok hT h (rpL_in S1)).mono ?_
  rintro _ w2 ⟨_, rfl, rfl, S2⟩
  refine ⟨_, _, _, _, _, _, _, _, rfl, S2.lit6 fun b10 w9 _ S9 => ?_⟩
  have S9 : ST w0 w9 (rpL b a c (i + 1) T (lvl b10 b2 (colX T[i].2.2) H)) := rpL_in S9
  refine rtakesN S9 h.lt hT (h.tl _ (by simp [tailW])) fun w17 S17 => ⟨_, rfl, fun st w => st = [.bool false] ∧ ST w0 w (rpL b a c (i + 1) T (lvl b10 b2 (colX T[i].2.2) H)), IFB_not (IFB_false (rtakesN S17 h.lt hT (h.tl _ (by simp [tailW])) fun w18 S18 => ⟨_, rfl, rfl, S18⟩)), ?_⟩
  rintro _ w19 ⟨hst, S19⟩
  cases hst
  refine ⟨fun st w => st = [.bool false] ∧ ST w0 w (rpL b a c (i + 1) T (lvl b10 b2 (colX T[i].2.2) H)), IFB_not (IFB_false (IFB_not (IFB_false (rtakesN S19 h.lt hT (h.tl _ (by simp [tailW])) fun w18 S18 => ⟨_, rfl, rfl, S18⟩)))), ?_⟩
  rintro _ w21 ⟨hst, S21⟩
  cases hst
  exact IFB_false (IFB_false (IFB_false (stX S21 2 rfl (stEx S21 3 rfl fun w54 S54 => ⟨rfl, rpL_out (rpL_out S54)⟩))))
theorem ris_ok : NameCall f.ref11_parser_is := by
  intro w0 w H b a c i T hT h S
  have hi : i < T.length := by have := h.lt; omega
  apply R.ref11_parser_is_calls
  unfold R.ref11_parser_is
  refine S.newB fun b2 w1 _ _ S1 => (rrel_ok hT h (rpL_in S1)).mono ?_
  rintro _ w2 ⟨_, rfl, rfl, S2⟩
  refine ⟨_, _, _, _, _, _, _, _, rfl, S2.lit6 fun b10 w9 _ S9 => ?_⟩
  have S9 : ST w0 w9 (rpL b a c (i + 1) T (lvl b10 b2 (colX T[i].2.2) H)) := rpL_in S9
  exact rtakesN S9 h.lt hT (h.tl _ (by simp [tailW])) fun w17 S17 => ⟨_, rfl, IFB_false (stX S17 2 rfl (stEx S17 3 rfl fun w54 S54 => ⟨rfl, rpL_out (rpL_out S54)⟩))⟩
theorem rnot_ok : NameCall f.ref11_parser_not := by
  intro w0 w H b a c i T hT h S
  have hi : i < T.length := by have := h.lt; omega
  apply R.ref11_parser_not_calls
  unfold R.ref11_parser_not
  refine S.newB fun b2 w1 _ _ S1 => rtakesN (rpL_in S1) hi hT (h.hd hi _ (by simp [headW])) fun w2 S2 => ⟨_, rfl, IFB_false ((ris_ok hT h S2).mono ?_)⟩
  rintro _ w3 ⟨_, rfl, rfl, S3⟩
  exact ⟨_, _, _, _, _, _, _, _, rfl, stEx S3 2 rfl fun w9 S9 => ⟨rfl, rpL_out S9⟩⟩
theorem rand_ok : NameCall f.ref11_parser_and := by
  intro w0 w H b a c i T hT h S
  have hi : i < T.length := by have := h.lt; omega
  apply R.ref11_parser_and_calls
  unfold R.ref11_parser_and
  refine S.newB fun b2 w1 _ _ S1 => (rnot_ok hT h (rpL_in S1)).mono ?_
  rintro _ w2 ⟨_, rfl, rfl, S2⟩
  refine ⟨_, _, _, _, _, _, _, _, rfl, S2.lit6 fun b10 w9 _ S9 => ?_⟩
  have S9 : ST w0 w9 (rpL b a c (i + 1) T (lvl b10 b2 (colX T[i].2.2) H)) := rpL_in S9
  refine rtakesN S9 h.lt hT (h.tl _ (by simp [tailW])) fun w17 S17 => ⟨_, rfl, fun st w => st = [.bool false] ∧ ST w0 w (rpL b a c (i + 1) T (lvl b10 b2 (colX T[i].2.2) H)), fun _ _ => 0, ⟨rfl, S17⟩, ?_⟩
  rintro _ w19 ⟨hst, S19⟩
  cases hst
  exact IFB_false (stX S19 2 rfl (stEx S19 3 rfl fun w54 S54 => ⟨rfl, rpL_out (rpL_out S54)⟩))
theorem ror_ok : NameCall f.ref11_parser_or := by
  intro w0 w H b a c i T hT h S
  have hi : i < T.length := by have := h.lt; omega
  apply R.ref11_parser_or_calls
  unfold R.ref11_parser_or
  refine S.newB fun b2 w1 _ _ S1 => (rand_ok hT h (rpL_in S1)).mono ?_
  rintro _ w2 ⟨_, rfl, rfl, S2⟩
  refine ⟨_, _, _, _, _, _, _, _, rfl, S2.lit6 fun b10 w9 _ S9 => ?_⟩
  have S9 : ST w0 w9 (rpL b a c (i + 1) T (lvl b10 b2 (colX T[i].2.2) H)) := rpL_in S9
  refine rtakesN S9 h.lt hT (h.tl _ (by simp [tailW])) fun w17 S17 => ⟨_, rfl, fun st w => st = [.bool false] ∧ ST w0 w (rpL b a c (i + 1) T (lvl b10 b2 (colX T[i].2.2) H)), fun _ _ => 0, ⟨rfl, S17⟩, ?_⟩
  rintro _ w19 ⟨hst, S19⟩
  cases hst
  exact IFB_false (stX S19 2 rfl (stEx S19 3 rfl fun w54 S54 => ⟨rfl, rpL_out (rpL_out S54)⟩))
end Go.Proofs.YtbpdfpfgijhokaaGreatDoor
namespace Go.Proofs.YtbpdfpfgijhokaaGreatDoor
set_option maxRecDepth 100000
open Go.Dn Go.Proofs
open Go.RowKit (Below)
set_option linter.unusedVariables false
/-! ### plain -/
def isLet (c : UInt8) : Bool := decide (97 ≤ c.toNat ∧ c.toNat ≤ 122)
def isDig (c : UInt8) : Bool := decide (48 ≤ c.toNat ∧ c.toNat ≤ 57)
def wordCh (c : UInt8) : Bool := isLet c || isDig c || decide (c.toNat = 95)
def runN (p : UInt8 → Bool) : List UInt8 → Nat
  | [] => 0
  | c :: r => if p c then runN p r + 1 else 0
def quoteN : List UInt8 → Nat
  | [] => 0
  | c :: r => if c.toNat ≠ 39 then (if quoteN r = 0 then 0 else quoteN r + 1) else
    match r with
    | [] => 1
    | d :: r' => if d.toNat ≠ 39 then 1 else if quoteN r' = 0 then 0 else quoteN r' + 2
def signCh (c : UInt8) : Bool := [40, 41, 44, 43, 45, 42, 47, 37, 61, 60].contains c.toNat
def lenT : List UInt8 → Nat × Int
  | [] => (0, 0)
  | c :: r => if isLet c then (runN wordCh r + 1, 1) else if isDig c then (runN isDig r + 1, 2) else
    if c.toNat = 39 then (if quoteN r = 0 then (0, 0) else (quoteN r + 1, 3)) else
    if c.toNat = 60 ∧ 1 ≤ r.length ∧ (r.getD 0 0).toNat = 61 then (2, 4) else if signCh c then (1, 4) else (0, 0)
def toksF : Nat → List UInt8 → Nat → Except Int (List Tk)
  | 0, _, _ => .ok []
  | f + 1, l, at_ => match l with
    | [] => .ok [((at_ : Int), 0, E0)]
    | c :: r => if c.toNat = 32 ∨ c.toNat = 10 then toksF f r (at_ + 1) else
      if (lenT (c :: r)).1 = 0 then .error at_ else
      match toksF f ((c :: r).drop (lenT (c :: r)).1) (at_ + (lenT (c :: r)).1) with
      | .error e => .error e
      | .ok T => .ok (((at_ : Int), (lenT (c :: r)).2, sof ((c :: r).take (lenT (c :: r)).1)) :: T)
theorem runN_le (p : UInt8 → Bool) : ∀ l, runN p l ≤ l.length
  | [] => Nat.le_refl _
  | c :: r => by have := runN_le p r; simp only [runN, List.length_cons]; split <;> omega
theorem runN_at {p : UInt8 → Bool} : ∀ {l : List UInt8} {n : Nat}, n ≤ l.length → (∀ c ∈ l.take n, p c = true) → (∀ h : n < l.length, p l[n] = false) → runN p l = n
  | [], n, hn, _, _ => by simp at hn; simp [runN, hn]
  | c :: r, 0, _, _, h => by
    have := h (by simp)
    simp only [List.getElem_cons_zero] at this
    simp [runN, this]
  | c :: r, n + 1, hn, h1, h2 => by
    have hc := h1 c (by simp)
    simp only [runN, hc, if_true]
    rw [runN_at (l := r) (n := n) (by simpa using hn) (fun d hd => h1 d (by simp [hd])) fun h => by have := h2 (by simpa using h); simpa using this]
theorem quoteN_other {c : UInt8} (h : c.toNat ≠ 39) (r : List UInt8) : quoteN (c :: r) = if quoteN r = 0 then 0 else quoteN r + 1 := by
  cases r with
  | nil => simp [quoteN, h]
  | cons d r => rw [quoteN, if_pos h]
theorem quoteN_end {c : UInt8} (h : c.toNat = 39) : quoteN [c] = 1 := by rw [quoteN, if_neg (by omega)]
theorem quoteN_one {c d : UInt8} (h : c.toNat = 39) (h2 : d.toNat ≠ 39) (r : List UInt8) : quoteN (c :: d :: r) = 1 := by rw [quoteN, if_neg (by omega)]; exact if_pos h2
theorem quoteN_two {c d : UInt8} (h : c.toNat = 39) (h2 : d.toNat = 39) (r : List UInt8) : quoteN (c :: d :: r) = if quoteN r = 0 then 0 else quoteN r + 2 := by rw [quoteN, if_neg (by omega)]; exact if_neg (by omega)
theorem quoteN_le : ∀ (n : Nat) (l : List UInt8), l.length ≤ n → quoteN l ≤ l.length
  | 0, l, h => by
    have : l = [] := List.eq_nil_of_length_eq_zero (by omega)
    subst this
    simp [quoteN]
  | n + 1, [], _ => by simp [quoteN]
  | n + 1, [c], _ => by
    by_cases hc : c.toNat = 39
    · rw [quoteN_end hc]; simp
    · rw [quoteN_other hc]; simp [quoteN]
  | n + 1, c :: d :: r, h => by
    simp only [List.length_cons] at h ⊢
    have h1 := quoteN_le n (d :: r) (by simp only [List.length_cons]; omega)
    have h2 := quoteN_le n r (by omega)
    simp only [List.length_cons] at h1
    by_cases hc : c.toNat = 39
    · by_cases hd : d.toNat = 39
      · rw [quoteN_two hc hd]; split <;> omega
      · rw [quoteN_one hc hd]; omega
    · rw [quoteN_other hc]; split <;> omega
theorem lenT_le (l : List UInt8) : (lenT l).1 ≤ l.length := by
  cases l with
  | nil => simp [lenT]
  | cons c r =>
    have h1 := runN_le wordCh r
    have h2 := runN_le isDig r
    have h3 := quoteN_le _ r (Nat.le_refl _)
    simp only [lenT, List.length_cons]
    split
    · simp only; omega
    · split
      · simp only; omega
      · split
        · split
          · simp
          · simp only; omega
        · split
          · simp only; omega
          · split <;> simp
/-! ### the walk -/
section
variable {w : World} {s : ByteArray}
theorem sget_at {i : Nat} (h : i < s.size) : sget s i = (bl s)[i]'(by rw [bl_length]; exact h) := by
  rw [sget_eq, List.getD_eq_getElem?_getD, List.getElem?_eq_getElem (by rw [bl_length]; exact h), Option.getD_some]
theorem ref11_letter_ok (c : UInt8) : Calls Tryz.prog f.ref11_letter #[.int .u8 (c.toNat : Int)] w (Ret fun r w' => r = .bool (isLet c) ∧ w' = w) := by
  apply R.ref11_letter_calls
  unfold R.ref11_letter
  refine IFB_dec (fun h => ⟨?_, rfl⟩) (fun h => ⟨?_, rfl⟩)
  · congr 1
    rw [isLet, decide_eq_decide]
    omega
  · rw [isLet, decide_eq_false (by omega)]
theorem ref11_digit_ok (c : UInt8) : Calls Tryz.prog f.ref11_digit #[.int .u8 (c.toNat : Int)] w (Ret fun r w' => r = .bool (isDig c) ∧ w' = w) := by
  apply R.ref11_digit_calls
  unfold R.ref11_digit
  refine IFB_dec (fun h => ⟨?_, rfl⟩) (fun h => ⟨?_, rfl⟩)
  · congr 1
    rw [isDig, decide_eq_decide]
    omega
  · rw [isDig, decide_eq_false (by omega)]
theorem call0 {P : Program} {f : FuncId} {args : Array Value} {v : Value} {Q : Ending → World → Prop} (h : Calls P f args w (Ret fun r w' => r = v ∧ w' = w)) (hk : Q (.returned v) w) : Calls P f args w Q := (ST.start w).call0 h hk
theorem take_snoc_all {p : UInt8 → Bool} {l : List UInt8} {n : Nat} (hn : n < l.length) (h : ∀ c ∈ l.take n, p c = true) (h2 : p l[n] = true) : ∀ c ∈ l.take (n + 1), p c = true := all_snoc hn h h2
theorem ref11_length_ok (h0 : 0 < s.size) (hs : s.size ≤ 9223372036854775800) : Calls Tryz.prog f.ref11_length #[.string s] w (Ret fun v w' => v = .tuple #[.int .i64 ((lenT (bl s)).1 : Int), .int .i64 (lenT (bl s)).2] ∧ w' = w) := by
  apply R.ref11_length_calls
  unfold R.ref11_length
  obtain ⟨c, r, hcr⟩ : ∃ c r, bl s = c :: r := by
    cases h : bl s with
    | nil => have := bl_length s; rw [h] at this; simp at this; omega
    | cons c r => exact ⟨c, r, rfl⟩
  have hlen : s.size = r.length + 1 := by rw [← bl_length, hcr]; simp
  have g0 : sget s 0 = c := by rw [sget_eq, hcr]; rfl
  have gn : ∀ n, n < r.length → sget s (n + 1) = r.getD n 0 := fun n h => by rw [sget_eq, hcr]; rfl
  have gr : ∀ n (h : n < r.length), r.getD n 0 = r[n] := fun n h => by rw [List.getD_eq_getElem?_getD, List.getElem?_eq_getElem h, Option.getD_some]
  rw [hcr, lenT]
  refine ⟨⟨by omega, by omega⟩, call0 (by rw [g0]; exact ref11_letter_ok c) ⟨_, rfl, IFB_of (fun hl => ?_) (fun hl => ?_)⟩⟩
  · rw [if_pos hl]
    refine ⟨fun st w2 => ∃ n : Nat, st = [.int .i64 ((n + 1 : Nat) : Int)] ∧ n ≤ r.length ∧ (∀ c ∈ r.take n, wordCh c = true) ∧ w2 = w, fun st _ => match st with | [.int _ t] => s.size - t.toNat | _ => 0, ⟨0, rfl, by omega, by simp, rfl⟩, ?_⟩
    rintro t w2 ⟨n, hst, hn, hall, rfl⟩
    cases hst
    have fin : (∀ h : n < r.length, wordCh r[n] = false) → Value.tuple #[.int .i64 ((n + 1 : Nat) : Int), .int .i64 1] = .tuple #[.int .i64 (((runN wordCh r + 1, (1 : Int)) : Nat × Int).1 : Int), .int .i64 ((runN wordCh r + 1, (1 : Int)) : Nat × Int).2] := fun h => by
      rw [runN_at hn hall h]
    refine IFB_dec (fun hlt => ?_) (fun hge => ⟨fin fun h => by omega, rfl⟩)
    have hnl : n < r.length := by omega
    have nx : wordCh r[n] = true → (∃ m : Nat, [Value.int .i64 (IntKind.i64.wrap (((n + 1 : Nat) : Int) + 1))] = [.int .i64 ((m + 1 : Nat) : Int)] ∧ m ≤ r.length ∧ (∀ c ∈ r.take m, wordCh c = true) ∧ w2 = w2) ∧ s.size - (IntKind.i64.wrap (((n + 1 : Nat) : Int) + 1)).toNat < s.size - (((n + 1 : Nat) : Int)).toNat := fun hc => by
      rw [wrap_succ (by omega)]
      exact ⟨⟨n + 1, rfl, hnl, take_snoc_all hnl hall hc, rfl⟩, by simp only [Int.toNat_natCast]; omega⟩
    have eg : sget s (((n + 1 : Nat) : Int).toNat) = r[n] := by rw [Int.toNat_natCast, gn n hnl, gr n hnl]
    rw [eg]
    refine ⟨⟨by omega, by omega⟩, call0 (ref11_letter_ok _) ⟨_, rfl, IFB_of (fun h1 => nx (by rw [wordCh, h1]; rfl)) (fun h1 => ⟨⟨by omega, by omega⟩, call0 (ref11_digit_ok _) ⟨_, rfl, IFB_of (fun h2 => nx (by rw [wordCh, h1, h2]; rfl)) (fun h2 => ⟨⟨by omega, by omega⟩, IFB_eq (fun h3 => nx ?_) (fun h3 => ⟨fin fun _ => ?_, rfl⟩)⟩)⟩⟩)⟩⟩
    · rw [wordCh, h1, h2, decide_eq_true (by omega)]; rfl
    · rw [wordCh, h1, h2, decide_eq_false (by omega)]; rfl
  rw [if_neg (by rw [hl]; decide)]
  refine call0 (by rw [g0]; exact ref11_digit_ok c) ⟨_, rfl, IFB_of (fun hd => ?_) (fun hd => ?_)⟩
  · rw [if_pos hd]
    refine ⟨fun st w2 => ∃ n : Nat, st = [.int .i64 ((n + 1 : Nat) : Int)] ∧ n ≤ r.length ∧ (∀ c ∈ r.take n, isDig c = true) ∧ w2 = w, fun st _ => match st with | [.int _ t] => s.size - t.toNat | _ => 0, ⟨0, rfl, by omega, by simp, rfl⟩, ?_⟩
    rintro t w2 ⟨n, hst, hn, hall, rfl⟩
    cases hst
    have fin : (∀ h : n < r.length, isDig r[n] = false) → Value.tuple #[.int .i64 ((n + 1 : Nat) : Int), .int .i64 2] = .tuple #[.int .i64 (((runN isDig r + 1, (2 : Int)) : Nat × Int).1 : Int), .int .i64 ((runN isDig r + 1, (2 : Int)) : Nat × Int).2] := fun h => by
      rw [runN_at hn hall h]
    refine IFB_dec (fun hlt => ?_) (fun hge => ⟨fin fun h => by omega, rfl⟩)
    have hnl : n < r.length := by omega
    have eg : sget s (((n + 1 : Nat) : Int).toNat) = r[n] := by rw [Int.toNat_natCast, gn n hnl, gr n hnl]
    rw [eg]
    refine ⟨⟨by omega, by omega⟩, call0 (ref11_digit_ok _) ⟨_, rfl, IFB_of (fun h2 => ?_) (fun h2 => ⟨fin fun _ => h2, rfl⟩)⟩⟩
    rw [wrap_succ (by omega)]
    exact ⟨⟨n + 1, rfl, hnl, take_snoc_all hnl hall h2, rfl⟩, by simp only [Int.toNat_natCast]; omega⟩
  rw [if_neg (by rw [hd]; decide), g0]
  refine IFB_eq (fun hq => ?_) (fun hq => ?_)
  · rw [if_pos (by omega)]
    refine ⟨fun st w2 => ∃ n : Nat, st = [.int .i64 ((n + 1 : Nat) : Int)] ∧ n ≤ r.length ∧ quoteN r = (if quoteN (r.drop n) = 0 then 0 else quoteN (r.drop n) + n) ∧ w2 = w, fun st _ => match st with | [.int _ t] => s.size + 1 - t.toNat | _ => 0, ⟨0, rfl, by omega, ?_, rfl⟩, ?_⟩
    · simp only [List.drop_zero, Nat.add_zero]; split <;> omega
    rintro t w2 ⟨n, hst, hn, hall, rfl⟩
    cases hst
    refine IFB_dec (fun hlt => ?_) (fun hge => ⟨?_, rfl⟩)
    · have hnl : n < r.length := by omega
      have eg : sget s (((n + 1 : Nat) : Int).toNat) = r[n] := by rw [Int.toNat_natCast, gn n hnl, gr n hnl]
      have ew : IntKind.i64.wrap (((n + 1 : Nat) : Int) + 1) = ((n + 2 : Nat) : Int) := by rw [wrap_i64 (by omega) (by omega)]; omega
      have ew2 : IntKind.i64.wrap (((n + 1 : Nat) : Int) + 2) = ((n + 3 : Nat) : Int) := by rw [wrap_i64 (by omega) (by omega)]; omega
      have hdr : r.drop n = r[n] :: r.drop (n + 1) := (List.getElem_cons_drop hnl).symm
      rw [eg, ew, ew2]
      refine ⟨⟨by omega, by omega⟩, IFB_ne (fun hc => ⟨⟨n + 1, rfl, hnl, ?_, rfl⟩, by simp only [Int.toNat_natCast]; omega⟩) (fun hc => IFB_eq (fun he => ⟨?_, rfl⟩) (fun he => ⟨⟨by omega, by omega⟩, ?_⟩))⟩
      · rw [hall, hdr, quoteN_other (by omega)]
        by_cases h : quoteN (r.drop (n + 1)) = 0
        · rw [if_pos h, if_pos rfl, if_pos h]
        · rw [if_neg h, if_neg (by omega), if_neg h]; omega
      · have hr : r.drop (n + 1) = [] := List.drop_eq_nil_of_le (by omega)
        have hq1 : quoteN (r.drop n) = 1 := by rw [hdr, hr]; exact quoteN_end (by omega)
        have : quoteN r = n + 1 := by rw [hall, hq1, if_neg (by decide)]; omega
        rw [this, if_neg (by omega)]
      · have hnl2 : n + 1 < r.length := by omega
        have eg2 : sget s (((n + 2 : Nat) : Int).toNat) = r[n + 1] := by rw [Int.toNat_natCast, gn (n + 1) hnl2, gr (n + 1) hnl2]
        have hdr2 : r.drop (n + 1) = r[n + 1] :: r.drop (n + 2) := (List.getElem_cons_drop hnl2).symm
        rw [eg2]
        refine IFB_ne (fun hd2 => ⟨?_, rfl⟩) (fun hd2 => ⟨⟨n + 2, rfl, by omega, ?_, rfl⟩, by simp only [Int.toNat_natCast]; omega⟩)
        · have hq1 : quoteN (r.drop n) = 1 := by rw [hdr, hdr2]; exact quoteN_one (by omega) (by omega) _
          have : quoteN r = n + 1 := by rw [hall, hq1, if_neg (by decide)]; omega
          rw [this, if_neg (by omega)]
        · rw [hall, hdr, hdr2, quoteN_two (by omega) (by omega)]
          by_cases h : quoteN (r.drop (n + 2)) = 0
          · rw [if_pos h, if_pos rfl, if_pos h]
          · rw [if_neg h, if_neg (by omega), if_neg h]; omega
    · have : quoteN r = 0 := by
        rw [hall, List.drop_eq_nil_of_le (by omega)]; rfl
      rw [if_pos this]
      rfl
  rw [if_neg (by omega)]
  refine ⟨fun st w2 => st = [.bool (decide (c.toNat = 60 ∧ 1 ≤ r.length ∧ (r.getD 0 0).toNat = 61))] ∧ w2 = w, IFB_eq (fun h6 => IFB_dec (fun h1 => ⟨⟨by omega, by omega⟩, ?_, rfl⟩) (fun h1 => ⟨?_, rfl⟩)) (fun h6 => ⟨?_, rfl⟩), ?_⟩
  · rw [show sget s 1 = r.getD 0 0 from gn 0 (by omega)]
    congr 2
    rw [Bool.eq_iff_iff, beq_iff_eq, decide_eq_true_eq]
    omega
  · rw [decide_eq_false (by omega)]
  · rw [decide_eq_false (by omega)]
  rintro t w2 ⟨ht, rfl⟩
  obtain rfl : t = decide (c.toNat = 60 ∧ 1 ≤ r.length ∧ (r.getD 0 0).toNat = 61) := by simpa using ht
  refine IFB_dec (fun h => ⟨by rw [if_pos h]; rfl, rfl⟩) (fun h => ?_)
  rw [if_neg h]
  have yes : ∀ k : Nat, k ∈ [40, 41, 44, 43, 45, 42, 47, 37, 61, 60] → (c.toNat : Int) = (k : Int) → (if signCh c = true then ((1 : Nat), (4 : Int)) else (0, 0)) = (1, 4) := fun k hk h => by
    rw [if_pos]
    rw [signCh, show c.toNat = k by omega]
    simpa using hk
  refine IFB_eq (fun h => ⟨by rw [yes 40 (by simp) h]; rfl, rfl⟩) (fun n1 => IFB_eq (fun h => ⟨by rw [yes 41 (by simp) h]; rfl, rfl⟩) (fun n2 => IFB_eq (fun h => ⟨by rw [yes 44 (by simp) h]; rfl, rfl⟩) (fun n3 => IFB_eq (fun h => ⟨by rw [yes 43 (by simp) h]; rfl, rfl⟩) (fun n4 => IFB_eq (fun h => ⟨by rw [yes 45 (by simp) h]; rfl, rfl⟩) (fun n5 => IFB_eq (fun h => ⟨by rw [yes 42 (by simp) h]; rfl, rfl⟩) (fun n6 => IFB_eq (fun h => ⟨by rw [yes 47 (by simp) h]; rfl, rfl⟩) (fun n7 => IFB_eq (fun h => ⟨by rw [yes 37 (by simp) h]; rfl, rfl⟩) (fun n8 => IFB_eq (fun h => ⟨by rw [yes 61 (by simp) h]; rfl, rfl⟩) (fun n9 => IFB_eq (fun h => ⟨by rw [yes 60 (by simp) h]; rfl, rfl⟩) (fun n10 => ⟨?_, rfl⟩))))))))))
  have : signCh c = false := by
    rw [signCh]
    simp
    omega
  rw [this]
  rfl
def zTk : Value := .agg #[.int .i64 0, .int .i64 0, .string ⟨#[]⟩]
theorem tTks : slT Tryz.prog ty.L_ref11_Token = some (ty.ref11_Token, 3, 32, zTk) := by kernel_rfl
def tksI (a : Option Addr) (c : Nat) (T : List Tk) : It := It.row ty.ref11_Token 3 a T.length c (tksL T)
def ToksV (s : ByteArray) (w w' : World) (v : Value) : Prop :=
  match toksF (s.size + 1) (bl s) 0 with
  | .ok T => ∃ a c, v = .tuple #[.slice a T.length c, .int .i64 0, .bool true] ∧ ST w w' [tksI a c T]
  | .error e => v = .tuple #[.slice none 0 0, .int .i64 e, .bool false] ∧ Below w.heap.size w w'
theorem ref11_Tokens_ok (hs : s.size ≤ 1000000) : Calls Tryz.prog f.ref11_Tokens #[.string s] w (Ret fun v w' => ToksV s w w' v) := by
  apply R.ref11_Tokens_calls
  unfold R.ref11_Tokens
  refine ⟨fun st w1 => ∃ (a : Option Addr) (c n k : Nat) (T : List Tk), st = [.slice a T.length c, .int .i64 (n : Int)] ∧ n ≤ s.size ∧ T.length ≤ n ∧ s.size - n < k ∧ toksF (s.size + 1) (bl s) 0 = (match toksF k ((bl s).drop n) n with | .error e => .error e | .ok T' => .ok (T ++ T')) ∧ ST w w1 [tksI a c T],
    fun st _ => match st with | [_, .int _ t] => s.size - t.toNat | _ => 0, ⟨none, 0, 0, s.size + 1, [], rfl, by omega, by simp, by omega, ?_, (ST.start w).nil _ _⟩, ?_⟩
  · rw [List.drop_zero]
    all_goals (cases toksF (s.size + 1) (bl s) 0 <;> rfl)
  rintro a l c t w1 ⟨a, c, n, k, T, hst, hn, hTn, hk, htk, S1⟩
  cases hst
  obtain ⟨k, rfl⟩ : ∃ k', k = k' + 1 := ⟨k - 1, by omega⟩
  refine IFB_dec (fun hlt => ⟨⟨by omega, hlt⟩, ?_⟩) (fun hge => ?_)
  · have hnl : n < s.size := by omega
    have hnb : n < (bl s).length := by rw [bl_length]; exact hnl
    have hdr : (bl s).drop n = (bl s)[n] :: (bl s).drop (n + 1) := (List.getElem_cons_drop hnb).symm
    rw [Int.toNat_natCast, sget_at hnl]
    rw [hdr, toksF] at htk
    have blank : ((bl s)[n].toNat = 32 ∨ (bl s)[n].toNat = 10) → (∃ (a' : Option Addr) (c' n' k' : Nat) (T' : List Tk), [Value.slice a T.length c, .int .i64 (IntKind.i64.wrap ((n : Int) + 1))] = [.slice a' T'.length c', .int .i64 (n' : Int)] ∧ n' ≤ s.size ∧ T'.length ≤ n' ∧ s.size - n' < k' ∧ toksF (s.size + 1) (bl s) 0 = (match toksF k' ((bl s).drop n') n' with | .error e => .error e | .ok T'' => .ok (T' ++ T'')) ∧ ST w w1 [tksI a' c' T']) ∧ s.size - (IntKind.i64.wrap ((n : Int) + 1)).toNat < s.size - ((n : Nat) : Int).toNat := fun hb => by
      rw [if_pos hb] at htk
      rw [wrap_succ (by omega)]
      exact ⟨⟨a, c, n + 1, k, T, rfl, by omega, by omega, by omega, htk, S1⟩, by simp only [Int.toNat_natCast]; omega⟩
    have hb1 : (0 : Int) ≤ (n : Int) := by omega
    have hb2 : (0 : Int) ≤ (n : Int) ∧ (n : Int) ≤ (s.size : Int) ∧ (s.size : Int) ≤ (s.size : Int) := by omega
    have e32 : ∀ c : UInt8, ((c.toNat : Nat) : Int) = 32 → c.toNat = 32 := fun c h => by omega
    have e10 : ∀ c : UInt8, ((c.toNat : Nat) : Int) = 10 → c.toNat = 10 := fun c h => by omega
    refine IFB_eq (fun h => blank (.inl (e32 _ h))) (fun h32 => ⟨⟨hb1, hlt⟩, IFB_eq (fun h => blank (.inr (e10 _ h))) (fun h10 => ⟨hb2, ?_⟩)⟩)
    clear blank
    rw [if_neg (by omega)] at htk
    have hbe : bl (s.extract n s.size) = (bl s)[n] :: (bl s).drop (n + 1) := by
      rw [bl_extract, hdr, List.take_of_length_le]
      simp [bl_length]
    have hse : (s.extract n s.size).size = s.size - n := by rw [← bl_length, bl_extract]; simp [bl_length]
    refine S1.call0 (ref11_length_ok (by omega) (by omega)) ⟨_, _, rfl, ?_⟩
    rw [hbe]
    obtain ⟨m, hm⟩ : ∃ m, m = lenT ((bl s)[n] :: (bl s).drop (n + 1)) := ⟨_, rfl⟩
    rw [← hm] at htk ⊢
    have hml : m.1 ≤ s.size - n := by
      have := lenT_le ((bl s)[n] :: (bl s).drop (n + 1))
      rw [← hm, ← hdr, List.length_drop, bl_length] at this
      exact this
    refine IFB_eq (fun h0 => ?_) (fun h0 => ?_)
    · rw [if_pos (by omega)] at htk
      unfold ToksV
      rw [htk]
      exact ⟨rfl, S1.bel⟩
    · rw [if_neg (by omega), ← hdr, List.drop_drop] at htk
      have ew : IntKind.i64.wrap ((n : Int) + (m.1 : Int)) = ((n + m.1 : Nat) : Int) := by rw [wrap_i64 (by omega) (by omega)]; omega
      rw [ew, Int.toNat_natCast]
      refine ⟨⟨by omega, by omega, by omega⟩, S1.newB fun b8 w3 _ _ S3 => ?_⟩
      refine S3.app 1 rfl tTks rfl (by omega) (by omega) (S3.rdc 0 rfl) (mm := 1) rfl (by intro u hu; simp at hu; rcases hu with rfl | rfl | rfl <;> rfl) (by omega) fun a' c' w4 S4 => ⟨_, _, _, rfl, ⟨a', c', n + m.1, k, T ++ [((n : Int), m.2, s.extract n (n + m.1))], by simp, by omega, by simp; omega, by omega, ?_, ?_⟩, by simp only [Int.toNat_natCast]; omega⟩
      · have he : s.extract n (n + m.1) = sof (((bl s).drop n).take m.1) := by rw [extract_eq, Nat.add_sub_cancel_left]
        rw [htk, he]
        cases toksF k ((bl s).drop (n + m.1)) (n + m.1) with
        | error e => rfl
        | ok T' => simp only [List.append_assoc, List.singleton_append]
      · have e : tksI a' c' (T ++ [((n : Int), m.2, s.extract n (n + m.1))]) = It.row ty.ref11_Token 3 a' (T.length + 1) c' (tksL T ++ tkC ((n : Int), m.2, s.extract n (n + m.1))) := by
          unfold tksI
          rw [List.length_append, List.length_singleton]
          simp [tksL]
        rw [e]
        exact S4.drop 1
  · obtain rfl : n = s.size := by omega
    rw [List.drop_eq_nil_of_le (by rw [bl_length]; omega), toksF] at htk
    refine S1.newB fun b11 w5 _ _ S5 => ?_
    refine S5.app 1 rfl tTks rfl (by omega) (by omega) (S5.rdc 0 rfl) (mm := 1) rfl (by intro u hu; simp at hu; rcases hu with rfl | rfl | rfl <;> rfl) (by omega) fun a' c' w6 S6 => ⟨_, _, _, rfl, ?_⟩
    unfold ToksV
    rw [htk]
    refine ⟨a', c', by simp, ?_⟩
    have e : tksI a' c' (T ++ [((s.size : Int), 0, E0)]) = It.row ty.ref11_Token 3 a' (T.length + 1) c' (tksL T ++ tkC ((s.size : Int), 0, E0)) := by
      unfold tksI
      rw [List.length_append, List.length_singleton]
      simp [tksL]
    rw [e]
    exact S6.drop 1
end
end Go.Proofs.YtbpdfpfgijhokaaGreatDoor
namespace Go.Proofs.YtbpdfpfgijhokaaGreatDoor
set_option maxRecDepth 100000
open Go.Dn Go.Proofs
open Go.RowKit (Below)
set_option linter.unusedVariables false
section
variable {w0 w : World} {H : List It}
theorem stI (S : ST w0 w H) (n : Nat) {b : Nat} {i : Itm} {a : Option Addr} {cap : Nat} (hn : H[n]? = some (itI b i a cap)) {Q : ByteArray → Int → Int → ByteArray → Int → Int → ByteArray → Option Addr → Nat → Nat → Prop} (hq : Q i.1 i.2.1 i.2.2.op i.2.2.nm i.2.2.v.1 i.2.2.v.2.1 i.2.2.v.2.2 a i.2.2.ks.length cap) :
    ∃ t0 : ByteArray, w.cell? ⟨b, 0, none⟩ = some (.string t0) ∧ ∃ t1 : Int, w.cell? ⟨b, 1, none⟩ = some (.int .i64 t1) ∧ ∃ t2 : Int, w.cell? ⟨b, 2, none⟩ = some (.int .i64 t2) ∧ ∃ t3 : ByteArray, w.cell? ⟨b, 3, none⟩ = some (.string t3) ∧ ∃ t4 : Int, w.cell? ⟨b, 4, none⟩ = some (.int .i64 t4) ∧ ∃ t5 : Int, w.cell? ⟨b, 5, none⟩ = some (.int .i64 t5) ∧ ∃ t6 : ByteArray, w.cell? ⟨b, 6, none⟩ = some (.string t6) ∧
      ∃ (t7 : Option Addr) (l c : Nat), w.cell? ⟨b, 7, none⟩ = some (.slice t7 l c) ∧ Q t0 t1 t2 t3 t4 t5 t6 t7 l c :=
  ⟨_, S.cell n hn rfl, _, S.cell n hn rfl, _, S.cell n hn rfl, _, S.cell n hn rfl, _, S.cell n hn rfl, _, S.cell n hn rfl, _, S.cell n hn rfl, _, _, _, S.cell n hn rfl, hq⟩
theorem stItm (S : ST w0 w H) (n : Nat) {b : Nat} {x0 x1 x2 x3 x4 x5 x6 x7 : Value} {t1 t2 t4 t5 : Int} {t0 t3 t6 : ByteArray} {a7 : Option Addr} {l7 c7 : Nat} {t : TypeId} (hn : H[n]? = some (It.cells b #[x0, x1, x2, x3, x4, x5, x6, x7] t)) {Q : ByteArray → Int → Int → ByteArray → Int → Int → ByteArray → Option Addr → Nat → Nat → World → Prop}
    (hk : ∀ w', ST w0 w' (H.set n (It.cells b #[.string t0, .int .i64 t1, .int .i64 t2, .string t3, .int .i64 t4, .int .i64 t5, .string t6, .slice a7 l7 c7] t)) → Q t0 t1 t2 t3 t4 t5 t6 a7 l7 c7 w') :
    STO ⟨b, 0, none⟩ (.string t0) (fun w => STO ⟨b, 1, none⟩ (.int .i64 t1) (fun w => STO ⟨b, 2, none⟩ (.int .i64 t2) (fun w => STO ⟨b, 3, none⟩ (.string t3) (fun w => STO ⟨b, 4, none⟩ (.int .i64 t4) (fun w => STO ⟨b, 5, none⟩ (.int .i64 t5) (fun w => STO ⟨b, 6, none⟩ (.string t6) (fun w => STO ⟨b, 7, none⟩ (.slice a7 l7 c7) (fun w =>
      ∃ r0 : ByteArray, w.cell? ⟨b, 0, none⟩ = some (.string r0) ∧ ∃ r1 : Int, w.cell? ⟨b, 1, none⟩ = some (.int .i64 r1) ∧ ∃ r2 : Int, w.cell? ⟨b, 2, none⟩ = some (.int .i64 r2) ∧ ∃ r3 : ByteArray, w.cell? ⟨b, 3, none⟩ = some (.string r3) ∧ ∃ r4 : Int, w.cell? ⟨b, 4, none⟩ = some (.int .i64 r4) ∧ ∃ r5 : Int, w.cell? ⟨b, 5, none⟩ = some (.int .i64 r5) ∧ ∃ r6 : ByteArray, w.cell? ⟨b, 6, none⟩ = some (.string r6) ∧
      ∃ (r7 : Option Addr) (l c : Nat), w.cell? ⟨b, 7, none⟩ = some (.slice r7 l c) ∧ Q r0 r1 r2 r3 r4 r5 r6 r7 l c w) w) w) w) w) w) w) w) w := by
  have hlt := (List.getElem?_eq_some_iff.1 hn).1
  have g : ∀ {x : It}, (H.set n x)[n]? = some x := List.getElem?_set_self hlt
  exact S.sto8 n hn fun w' S' => ⟨_, S'.cell n g rfl, _, S'.cell n g rfl, _, S'.cell n g rfl, _, S'.cell n g rfl, _, S'.cell n g rfl, _, S'.cell n g rfl, _, S'.cell n g rfl, _, _, _, S'.cell n g rfl, hk w' S'⟩
theorem stIx6 (S : ST w0 w H) (n : Nat) {b : Nat} {x0 x1 x2 x3 x4 x5 x6 x7 v2 v3 v4 v5 v6 v7 : Value} {t : TypeId} (hn : H[n]? = some (It.cells b #[x0, x1, x2, x3, x4, x5, x6, x7] t)) {k : World → Prop}
    (hk : ∀ w', ST w0 w' (H.set n (It.cells b #[x0, x1, v2, v3, v4, v5, v6, v7] t)) → k w') :
    STO ⟨b, 2, none⟩ v2 (fun w => STO ⟨b, 3, none⟩ v3 (fun w => STO ⟨b, 4, none⟩ v4 (fun w => STO ⟨b, 5, none⟩ v5 (fun w => STO ⟨b, 6, none⟩ v6 (fun w => STO ⟨b, 7, none⟩ v7 k w) w) w) w) w) w := by
  have hlt := (List.getElem?_eq_some_iff.1 hn).1
  have g : ∀ {x : It}, (H.set n x)[n]? = some x := List.getElem?_set_self hlt
  refine S.sto n hn (cs' := #[x0, x1, v2, x3, x4, x5, x6, x7]) (by simp) rfl fun w1 S1 => S1.sto n g (cs' := #[x0, x1, v2, v3, x4, x5, x6, x7]) (by simp) rfl fun w2 S2 => ?_
  rw [List.set_set] at S2
  refine S2.sto n g (cs' := #[x0, x1, v2, v3, v4, x5, x6, x7]) (by simp) rfl fun w3 S3 => ?_
  rw [List.set_set] at S3
  refine S3.sto n g (cs' := #[x0, x1, v2, v3, v4, v5, x6, x7]) (by simp) rfl fun w4 S4 => ?_
  rw [List.set_set] at S4
  refine S4.sto n g (cs' := #[x0, x1, v2, v3, v4, v5, v6, x7]) (by simp) rfl fun w5 S5 => ?_
  rw [List.set_set] at S5
  refine S5.sto n g (cs' := #[x0, x1, v2, v3, v4, v5, v6, v7]) (by simp) rfl fun w6 S6 => ?_
  rw [List.set_set] at S6
  exact hk w6 S6
end
def asW : ByteArray := ⟨#[97, 115]⟩
def zItC : Array Value := #[.string E0, .int .i64 0, .int .i64 0, .string E0, .int .i64 0, .int .i64 0, .string E0, .slice none 0 0]
def aggC : Array Value := #[.string ⟨#[99, 111, 117, 110, 116]⟩, .string ⟨#[115, 117, 109]⟩, .string ⟨#[109, 105, 110]⟩, .string ⟨#[109, 97, 120]⟩]
section
variable {w0 w : World} {H : List It} {b : Nat} {a : Option Addr} {c i : Nat} {T : List Tk}
theorem ritem_plain (hT : T.length ≤ 1000000) (h : Lone T i) (h2 : i + 2 < T.length) (has : seesB T[i + 1] asW = true) (hk : T[i + 2].2.1 = 1 ∧ isKeyB T[i + 2].2.2 = false) (S : ST w0 w (rpL b a c i T H)) :
    Calls Tryz.prog f.ref11_parser_item #[.pointer (some ⟨b, 0, none⟩)] w (Ret fun r w' => r = .agg ⟨itHead (T[i + 2].2.2, 0, colX T[i].2.2) none 0⟩ ∧ ST w0 w' (rpL b a c (i + 3) T H)) := by
  have hi : i < T.length := by omega
  apply R.ref11_parser_item_calls
  unfold R.ref11_parser_item
  refine S.newB fun b2 w1 _ _ S1 => S1.newB fun b3 w2 _ _ S2 => S2.newB fun b4 w3 _ _ S3 => ?_
  have S3 : ST w0 w3 (rpL b a c i T (It.cells b4 aggC ty.string :: It.cells b3 zItC ty.api_Item :: It.cells b2 zItC ty.api_Item :: H)) := (S3.pull 4 rfl).pull 4 rfl
  refine ⟨fun _ w => ST w0 w (rpL b a c i T (It.cells b4 aggC ty.string :: It.cells b3 zItC ty.api_Item :: It.cells b2 zItC ty.api_Item :: H)), forUp 4 (fun j w => ST w0 w (rpL b a c i T (It.cells b4 aggC ty.string :: It.cells b3 zItC ty.api_Item :: It.cells b2 zItC ty.api_Item :: H))) (by omega) S3 fun I M j w4 hj S4 next => IFB_dec (fun hlt => ⟨⟨by omega, hlt⟩, ?_⟩) (fun hge => S4), fun w20 S20 => ?_⟩
  · have hj4 : j < 4 := by omega
    obtain ⟨s, hs, hm⟩ : ∃ s : ByteArray, aggC[j]? = some (.string s) ∧ s ∈ headW := by
      have : j = 0 ∨ j = 1 ∨ j = 2 ∨ j = 3 := by omega
      rcases this with rfl | rfl | rfl | rfl
      · exact ⟨_, rfl, by simp [headW]⟩
      · exact ⟨_, rfl, by simp [headW]⟩
      · exact ⟨_, rfl, by simp [headW]⟩
      · exact ⟨_, rfl, by simp [headW]⟩
    refine ⟨s, ?_, rtakesN S4 hi hT (h.hd hi s hm) fun w10 S10 => ⟨_, rfl, IFB_not (IFB_false (next _ hj4 S10))⟩⟩
    rw [Int.toNat_natCast, Nat.mul_one, addr_add_blk, Nat.zero_add]
    exact S4.cell 2 rfl hs
  · refine ⟨_, S20.cell 3 rfl rfl, IFB_eq (fun _ => (ror_ok hT h S20).mono ?_) (fun h => absurd rfl h)⟩
    rintro _ w21 ⟨_, rfl, rfl, S21⟩
    refine ⟨_, _, _, _, _, _, _, _, rfl, stIx6 S21 3 rfl fun w27 S27 => ?_⟩
    have S27 : ST w0 w27 (rpL b a c (i + 1) T (It.cells b4 aggC ty.string :: itI b3 (E0, 0, colX T[i].2.2) none 0 :: It.cells b2 zItC ty.api_Item :: H)) := S27
    refine rneedsY S27 h.lt hT has fun w28 S28 => ⟨rfl, rnameY S28 h2 hT hk.1 hk.2 fun w29 S29 => ⟨_, rfl, S29.sto 3 rfl (i := 0) (cs' := ⟨itHead (T[i + 2].2.2, 0, colX T[i].2.2) none 0⟩) (by show 0 < 8; omega) rfl fun w30 S30 => ?_⟩⟩
    have S30 : ST w0 w30 (rpL b a c (i + 3) T (It.cells b4 aggC ty.string :: itI b3 (T[i + 2].2.2, 0, colX T[i].2.2) none 0 :: It.cells b2 zItC ty.api_Item :: H)) := S30
    exact stI S30 3 rfl (stItm S30 4 rfl fun w38 S38 => ⟨rfl, rpL_out (rpL_out (rpL_out S38))⟩)
theorem ritem_sum (hT : T.length ≤ 1000000) (h5 : i + 5 < T.length) (hc : seesB T[i] ⟨#[99, 111, 117, 110, 116]⟩ = false) (hsm : seesB T[i] ⟨#[115, 117, 109]⟩ = true) (ho : seesB T[i + 1] ⟨#[40]⟩ = true) (h : Lone T (i + 2)) (hcl : seesB T[i + 3] ⟨#[41]⟩ = true) (has : seesB T[i + 4] asW = true) (hk : T[i + 5].2.1 = 1 ∧ isKeyB T[i + 5].2.2 = false) (S : ST w0 w (rpL b a c i T H)) :
    Calls Tryz.prog f.ref11_parser_item #[.pointer (some ⟨b, 0, none⟩)] w (Ret fun r w' => r = .agg ⟨itHead (T[i + 5].2.2, 3, colX T[i + 2].2.2) none 0⟩ ∧ ST w0 w' (rpL b a c (i + 6) T H)) := by
  have hi : i < T.length := by omega
  apply R.ref11_parser_item_calls
  unfold R.ref11_parser_item
  refine S.newB fun b2 w1 _ _ S1 => S1.newB fun b3 w2 _ _ S2 => S2.newB fun b4 w3 _ _ S3 => ?_
  have S3 : ST w0 w3 (rpL b a c i T (It.cells b4 aggC ty.string :: It.cells b3 zItC ty.api_Item :: It.cells b2 zItC ty.api_Item :: H)) := (S3.pull 4 rfl).pull 4 rfl
  refine ⟨fun _ w => ST w0 w (rpL b a c (i + 4) T (It.cells b4 aggC ty.string :: itI b3 (E0, 3, colX T[i + 2].2.2) none 0 :: It.cells b2 zItC ty.api_Item :: H)), forUp 4 (fun j w => j ≤ 1 ∧ ST w0 w (rpL b a c i T (It.cells b4 aggC ty.string :: It.cells b3 zItC ty.api_Item :: It.cells b2 zItC ty.api_Item :: H))) (by omega) ⟨by omega, S3⟩ fun I M j w4 hj hS4 next => ?_, fun w20 S20 => ?_⟩
  · obtain ⟨hj1, S4⟩ := hS4
    refine IFB_dec (fun hlt => ⟨⟨by omega, hlt⟩, ?_⟩) (fun hge => by omega)
    rw [Int.toNat_natCast, Nat.mul_one, addr_add_blk, Nat.zero_add]
    rcases (show j = 0 ∨ j = 1 by omega) with rfl | rfl
    · exact ⟨_, S4.cell 2 rfl rfl, rtakesN S4 hi hT hc fun w10 S10 => ⟨_, rfl, IFB_not (IFB_false (next _ (by omega) ⟨by omega, S10⟩))⟩⟩
    · refine ⟨_, S4.cell 2 rfl rfl, rtakesY S4 hi hT hsm fun w5 S5 => ⟨_, rfl, IFB_not (IFB_true (rneedsY S5 (by omega) hT ho fun w6 S6 => ⟨rfl, fun st w => st = [.bool false] ∧ ST w0 w (rpL b a c (i + 2) T (It.cells b4 aggC ty.string :: It.cells b3 zItC ty.api_Item :: It.cells b2 zItC ty.api_Item :: H)), IFB_eq (fun h => by cases h) (fun _ => ⟨rfl, S6⟩), ?_⟩))⟩⟩
      rintro _ w8 ⟨hst, S8⟩
      cases hst
      refine S8.sto 3 rfl (i := 1) (cs' := #[.string E0, .int .i64 3, .int .i64 0, .string E0, .int .i64 0, .int .i64 0, .string E0, .slice none 0 0]) (by show 1 < 8; omega) (by rfl) fun w9 S9 => IFB_false ((ror_ok hT h S9).mono ?_)
      rintro _ w12 ⟨_, rfl, rfl, S12⟩
      refine ⟨_, _, _, _, _, _, _, _, rfl, stIx6 S12 3 rfl fun w18 S18 => rneedsY S18 (by omega) hT hcl fun w19 S19 => ⟨rfl, S19⟩⟩
  · refine ⟨_, S20.cell 3 rfl rfl, IFB_eq (fun h => by cases h) (fun _ => rneedsY S20 (by omega) hT has fun w28 S28 => ⟨rfl, rnameY S28 h5 hT hk.1 hk.2 fun w29 S29 => ⟨_, rfl, S29.sto 3 rfl (i := 0) (cs' := ⟨itHead (T[i + 5].2.2, 3, colX T[i + 2].2.2) none 0⟩) (by show 0 < 8; omega) rfl fun w30 S30 => ?_⟩⟩)⟩
    have S30 : ST w0 w30 (rpL b a c (i + 6) T (It.cells b4 aggC ty.string :: itI b3 (T[i + 5].2.2, 3, colX T[i + 2].2.2) none 0 :: It.cells b2 zItC ty.api_Item :: H)) := S30
    exact stI S30 3 rfl (stItm S30 4 rfl fun w38 S38 => ⟨rfl, rpL_out (rpL_out (rpL_out S38))⟩)
end
theorem type_err {cs : List Col} {x : Ex} {e : Int} (h : typeE cs x = .error e) : e ≠ 0 := by
  unfold typeE at h
  split at h
  · split at h
    · have := kind_err h; omega
    · cases h; decide
  · cases h; decide
section
variable {w : World} {q : Qu} {ai aw ag ao : Option Addr} {ci cw cg co : Nat}
end
def zCol : Value := .agg #[.string ⟨#[]⟩, .int .i64 0, .bool false]
theorem tCols : slT Tryz.prog ty.L_api_Column = some (ty.api_Column, 3, 32, zCol) := by kernel_rfl
def colsI (a : Option Addr) (c : Nat) (l : List Col) : It := It.row ty.api_Column 3 a l.length c (colsL l)
theorem cols_one (l : List Col) : ∀ u ∈ colsL l, u.oneCell' = true := by
  intro u hu
  obtain ⟨c, _, hc⟩ := List.mem_flatMap.1 hu
  simp only [colC, List.mem_cons, List.not_mem_nil, or_false] at hc
  rcases hc with rfl | rfl | rfl <;> rfl
theorem colsL_append (l m : List Col) : colsL (l ++ m) = colsL l ++ colsL m := List.flatMap_append
structure Pl where
  cs : List Col
  q : Qu
  out : List Col
  g : Bool
def Qu0 : Qu := ⟨[], [], [], [], 0⟩
def Pl0 : Pl := ⟨[], Qu0, [], false⟩
def plL (p : Pl) (a0 : Option Addr) (c0 : Nat) (ai : Option Addr) (ci : Nat) (aw : Option Addr) (cw : Nat) (ag : Option Addr) (cg : Nat) (ao : Option Addr) (co : Nat) (a6 : Option Addr) (c6 : Nat) : List Value :=
  [.slice a0 p.cs.length c0, .slice ai p.q.it.length ci, .slice aw p.q.wh.length cw, .slice ag p.q.gr.length cg, .slice ao p.q.od.length co, .int .i64 p.q.lim, .slice a6 p.out.length c6, .bool p.g]
structure PlAt (w : World) (p : Pl) (a0 ai aw ag ao a6 : Option Addr) : Prop where
  cs : Rd w a0 (colsL p.cs)
  ncs : p.cs.length ≤ 9223372036854775807
  qcs : ∀ c ∈ p.cs, c.1.size ≤ 9223372036854775807
  q : QAt w p.q ai aw ag ao
  out : Rd w a6 (colsL p.out)
  nout : p.out.length ≤ 9223372036854775807
theorem PlAt.grown {w w' : World} {p : Pl} {a0 ai aw ag ao a6 : Option Addr} (h : PlAt w p a0 ai aw ag ao a6) (B : Below w.heap.size w w') : PlAt w' p a0 ai aw ag ao a6 :=
  ⟨h.cs.grown B, h.ncs, h.qcs, h.q.grown B, h.out.grown B, h.nout⟩
theorem qat0 (w : World) : QAt w Qu0 none none none none :=
  ⟨⟨[], Rd.nil _ _, rfl⟩, ⟨[], Rd.nil _ _, rfl⟩, ⟨[], Rd.nil _ _, rfl⟩, ⟨[], Rd.nil _ _, rfl⟩, by decide, by decide, by decide, by decide, by decide⟩
theorem plat0 (w : World) : PlAt w Pl0 none none none none none none := ⟨Rd.nil _ _, by decide, by simp [Pl0], qat0 w, Rd.nil _ _, by decide⟩
def planOf (cs : List Col) (q : Qu) : Pl × Int :=
  match makeP cs q with
  | .ok out => (⟨cs, q, out, gathersQ q⟩, 0)
  | .error e => (Pl0, e)
def MakeV (cs : List Col) (q : Qu) (w w' : World) (v : Value) : Prop := ∃ a0 c0 ai ci aw cw ag cg ao co a6 c6, v = .tuple #[.agg ⟨plL (planOf cs q).1 a0 c0 ai ci aw cw ag cg ao co a6 c6⟩, .int .i64 (planOf cs q).2] ∧ PlAt w' (planOf cs q).1 a0 ai aw ag ao a6 ∧ (planOf cs q).1.q.it.length ≤ ci ∧ Below w.heap.size w w'
def plI (b : Nat) (p : Pl) (a0 : Option Addr) (c0 : Nat) (ai : Option Addr) (ci : Nat) (aw : Option Addr) (cw : Nat) (ag : Option Addr) (cg : Nat) (ao : Option Addr) (co : Nat) (a6 : Option Addr) (c6 : Nat) : It := It.cells b ⟨plL p a0 c0 ai ci aw cw ag cg ao co a6 c6⟩ ty.api_Plan
theorem make_err {cs : List Col} {q : Qu} {e : Int} (h : makeP cs q = .error e) {w w' : World} (B : Below w.heap.size w w') :
    MakeV cs q w w' (.tuple #[.agg #[.slice none 0 0, .slice none 0 0, .slice none 0 0, .slice none 0 0, .slice none 0 0, .int .i64 0, .slice none 0 0, .bool false], .int .i64 e]) := by
  have hp : planOf cs q = (Pl0, e) := by rw [planOf, h]
  unfold MakeV
  rw [hp]
  exact ⟨none, 0, none, 0, none, 0, none, 0, none, 0, none, 0, rfl, plat0 w', Nat.le_refl _, B⟩
theorem at_drop {α : Type} {l : List α} {i : Nat} (hi : i < l.length) : l = l.take i ++ l[i] :: l.drop (i + 1) := by rw [List.getElem_cons_drop, List.take_append_drop]
section
variable {cs : List Col} {q : Qu} (h1 : rightCols cs = true) (h2 : rightQ q = true)
include h1 h2
end
theorem item_err {cs : List Col} {q : Qu} {i : Nat} {x : Itm} {e : Int} (h : itemP cs q i x = .error e) : e ≠ 0 := by
  have hK : ∀ k, itemK q i x k = .error e → e ≠ 0 := by
    intro k h
    unfold itemK at h
    split at h
    · cases h; decide
    · split at h
      · cases h; decide
      · cases h
  unfold itemP at h
  split at h
  · exact hK _ h
  · split at h
    · rename_i hT
      cases h
      exact type_err hT
    · exact hK _ h
section
variable {w : World} {q : Qu} {ai aw ag ao : Option Addr} {ci cw cg co : Nat}
end
section
variable {w : World} {p : Pl} {a0 ai aw ag ao a6 b0 bi bw bg bo b6 : Option Addr} {c0 ci cw cg co c6 d0 di dw dg d_o d6 : Nat}
end
def ux (cs : List Col) (c : Nat) (x : Ex) : Bool := x.formed && x.names.any fun s => decide (findC cs s = some c)
theorem uses_any {x : Ex} {t : List ByteArray} (h : IsRise (usesL x) (t.map bl)) (p : ByteArray → Bool) : t.any p = (x.formed && x.names.any p) := by
  have hm : ∀ s, s ∈ t ↔ x.formed = true ∧ s ∈ x.names := by
    intro s
    have hi : ∀ l : List ByteArray, bl s ∈ l.map bl ↔ s ∈ l := fun l => ⟨fun h => by obtain ⟨y, hy, he⟩ := List.mem_map.1 h; rw [← bl_inj he]; exact hy, fun h => List.mem_map.2 ⟨s, h, rfl⟩⟩
    rw [← hi, h.mem]
    unfold usesL
    split
    · rename_i hf; rw [hi]; exact ⟨fun h => ⟨hf, h⟩, fun h => h.2⟩
    · rename_i hf; exact ⟨fun h => by simp at h, fun h => absurd h.1 hf⟩
  rw [Bool.eq_iff_iff]
  simp only [List.any_eq_true, Bool.and_eq_true]
  constructor
  · rintro ⟨s, hs, hp⟩; exact ⟨((hm s).1 hs).1, s, ((hm s).1 hs).2, hp⟩
  · rintro ⟨hf, s, hs, hp⟩; exact ⟨s, (hm s).2 ⟨hf, hs⟩, hp⟩
def NeedsV (cs : List Col) (q : Qu) (w w' : World) (v : Value) : Prop := ∃ a c, v = .slice a (neededL cs q).length c ∧ Rd w' a (((neededL cs q).map fun n : Nat => (n : Int)).map (Value.int .i64)) ∧ Below w.heap.size w w'
section
variable {w : World} {p : Pl} {a0 ai aw ag ao a6 : Option Addr} {c0 ci cw cg co c6 : Nat}
end
end Go.Proofs.YtbpdfpfgijhokaaGreatDoor
namespace Go.Proofs.YtbpdfpfgijhokaaGreatDoor
set_option maxRecDepth 100000
open Go.Dn Go.Proofs
open Go.RowKit (Below)
open Go.Sort (putRow putCells Holds)
set_option linter.unusedVariables false
section
variable {w0 w : World} {H : List It} {a : Option Addr} {c : Nat}
theorem sortI_ok (S : ST w0 w H) (n : Nat) {xs : List Int} (hn : H[n]? = some (intsI a c xs)) (hl : xs.length ≤ 1000000000) : Calls Tryz.prog f.slices_Sort_int_int #[.slice a xs.length c] w (Ret fun v w' => v = .tuple #[] ∧ ST w0 w' (H.set n (intsI a c (xs.mergeSort fun x y => decide (x ≤ y))))) := by
  have hR : Row w ty.int 1 a xs.length c (xs.map (Value.int .i64)) := S.get n hn
  have hset : H.set n (intsI a c xs) = H := set_self hn
  have hnone : xs = [] → Calls Tryz.prog f.slices_Sort_int_int #[.slice a xs.length c] w (Ret fun v w' => v = .tuple #[] ∧ ST w0 w' (H.set n (intsI a c (xs.mergeSort fun x y => decide (x ≤ y))))) := by
    rintro rfl
    refine (Tryz.slices_Sort_int_none a c w).mono ?_
    rintro _ w' ⟨rfl, rfl⟩
    exact ⟨_, rfl, rfl, by rw [List.mergeSort_nil, hset]; exact S⟩
  rcases a with _ | ⟨g, o, idx⟩
  · refine hnone ?_
    rcases hR.2 with ⟨_, h, _⟩ | ⟨_, _, h, _⟩
    · exact List.eq_nil_of_length_eq_zero h
    · cases h
  · have hgo : o = 0 ∧ idx = none := by
      rcases hR.2 with ⟨h, _⟩ | ⟨_, _, h, _⟩
      · cases h
      · cases h; exact ⟨rfl, rfl⟩
    obtain ⟨rfl, rfl⟩ := hgo
    obtain ⟨hH, hg, hlen, hcap⟩ := holds_row (Value.int .i64) hR
    refine (Tryz.slices_Sort_int g 0 c xs w hH hg (by omega)).mono ?_
    rintro _ w' ⟨rfl, m, os, rfl⟩
    have hml : (xs.mergeSort fun x y => decide (x ≤ y)).length = xs.length := List.length_mergeSort ..
    refine ⟨_, rfl, rfl, ?_⟩
    refine S.chg n hn (put_keeps (Value.int .i64) w g m _ os) _ ?_ (fun k hk => .inl hk)
    show Row _ ty.int 1 _ _ c _
    have := row_put (Value.int .i64) (m := m) (os := os) (xs.mergeSort fun x y => decide (x ≤ y)) (k := xs.length) hR (by omega) (by omega)
    rw [List.take_of_length_le (by omega)] at this
    rw [hml]
    exact this
theorem compactI_ok (S : ST w0 w H) (n : Nat) {xs : List Int} (hn : H[n]? = some (intsI a c xs)) (hl : xs.length ≤ 1000000000) : Calls Tryz.prog f.slices_Compact_int_int #[.slice a xs.length c] w (Ret fun v w' => v = .slice a (Lib.compact xs).length c ∧ ST w0 w' (H.set n (intsI a c (Lib.compact xs)))) := by
  have hR : Row w ty.int 1 a xs.length c (xs.map (Value.int .i64)) := S.get n hn
  have hset : H.set n (intsI a c xs) = H := set_self hn
  have hnone : xs = [] → Calls Tryz.prog f.slices_Compact_int_int #[.slice a xs.length c] w (Ret fun v w' => v = .slice a (Lib.compact xs).length c ∧ ST w0 w' (H.set n (intsI a c (Lib.compact xs)))) := by
    rintro rfl
    refine (Tryz.slices_Compact_int_empty a c w).mono ?_
    rintro _ w' ⟨rfl, rfl⟩
    have : Lib.compact ([] : List Int) = [] := rfl
    exact ⟨_, rfl, by rw [this]; rfl, by rw [this, hset]; exact S⟩
  rcases a with _ | ⟨g, o, idx⟩
  · refine hnone ?_
    rcases hR.2 with ⟨_, h, _⟩ | ⟨_, _, h, _⟩
    · exact List.eq_nil_of_length_eq_zero h
    · cases h
  · have hgo : o = 0 ∧ idx = none := by
      rcases hR.2 with ⟨h, _⟩ | ⟨_, _, h, _⟩
      · cases h
      · cases h; exact ⟨rfl, rfl⟩
    obtain ⟨rfl, rfl⟩ := hgo
    obtain ⟨hH, hg, hlen, hcap⟩ := holds_row (Value.int .i64) hR
    refine (Tryz.slices_Compact_int g 0 c xs w hH (by omega) (by omega)).mono ?_
    rintro _ w' ⟨rfl, m, rfl⟩
    have hcl : (Lib.compact xs).length ≤ xs.length := by
      have := List.length_filter_le (Lib.keeps xs.toArray) (List.range xs.length)
      unfold Lib.compact Lib.compactUpTo
      rw [List.length_map]
      rw [List.length_range] at this
      exact this
    refine ⟨_, rfl, rfl, ?_⟩
    have ew : putRow (Value.int .i64) (Go.Sort.ahead w m) g 0 (Lib.compact xs ++ List.replicate (xs.length - (Lib.compact xs).length) 0).toArray = Go.Sort.grow (putRow (Value.int .i64) (Go.Sort.ahead w m) g 0 (Lib.compact xs ++ List.replicate (xs.length - (Lib.compact xs).length) 0).toArray) #[] := (grow_nil _).symm
    rw [ew]
    refine S.chg n hn (put_keeps (Value.int .i64) w g m _ #[]) _ ?_ (fun k hk => .inl hk)
    show Row _ ty.int 1 _ _ c _
    have := row_put (Value.int .i64) (m := m) (os := #[]) (Lib.compact xs ++ List.replicate (xs.length - (Lib.compact xs).length) 0) (k := (Lib.compact xs).length) hR (by simp; omega) (by simp)
    rw [List.take_left' rfl] at this
    exact this
end
theorem compactI_up (l : List Int) : (Lib.compact (l.mergeSort fun x y => decide (x ≤ y))).Pairwise (· < ·) ∧ ∀ x, x ∈ Lib.compact (l.mergeSort fun x y => decide (x ≤ y)) ↔ x ∈ l := by
  have hs := List.pairwise_mergeSort (le := fun x y : Int => decide (x ≤ y)) (fun a b c h1 h2 => by simp only [decide_eq_true_eq] at *; omega) (fun a b => by simp only [Bool.or_eq_true, decide_eq_true_eq]; omega) l
  have hp := List.mergeSort_perm l (fun x y : Int => decide (x ≤ y))
  obtain ⟨h1, h2⟩ := compact_sorted (fun a b : Int => a ≤ b) (fun a b c h1 h2 => by omega) (fun a b h1 h2 => by omega) (l.mergeSort fun x y => decide (x ≤ y)) (hs.imp fun h => by simpa using h)
  exact ⟨h1.imp fun h => by omega, fun x => (h2 x).trans hp.mem_iff⟩
end Go.Proofs.YtbpdfpfgijhokaaGreatDoor
namespace Go.Proofs.YtbpdfpfgijhokaaGreatDoor
set_option maxRecDepth 100000
open Go.Dn Go.Proofs
open Go.RowKit (Below)
set_option linter.unusedVariables false
/-! ### plain -/
abbrev Prt := Int × Bool × Ex
def itPrts (i : Nat) : List Itm → List Prt
  | [] => []
  | x :: l => ((i : Int), false, x.2.2) :: itPrts (i + 1) l
def prts (q : Qu) : List Prt := q.wh.map (fun x => (-1, true, x)) ++ q.gr.map (fun x => (-1, false, x)) ++ itPrts 0 q.it
theorem itPrts_append : ∀ (l m : List Itm) (i : Nat), itPrts i (l ++ m) = itPrts i l ++ itPrts (i + l.length) m
  | [], m, i => rfl
  | x :: l, m, i => by
    simp only [List.cons_append, itPrts, itPrts_append l m (i + 1), List.length_cons]
    rw [show i + 1 + l.length = i + (l.length + 1) by omega]
theorem itPrts_x : ∀ (l : List Itm) (i : Nat), (itPrts i l).map (·.2.2) = l.map (·.2.2)
  | [], _ => rfl
  | x :: l, i => by simp only [itPrts, List.map_cons, itPrts_x l (i + 1)]
theorem prts_x (q : Qu) : (prts q).map (·.2.2) = partsQ q := by
  unfold prts partsQ
  rw [List.map_append, List.map_append, itPrts_x, List.map_map, List.map_map]
  have h1 : ((fun p : Prt => p.2.2) ∘ fun x => ((-1, true, x) : Prt)) = id := rfl
  have h2 : ((fun p : Prt => p.2.2) ∘ fun x => ((-1, false, x) : Prt)) = id := rfl
  rw [h1, h2, List.map_id, List.map_id]
def stepP (cs : List Col) (q : Qu) (p : Prt) : Except Int (List Col) :=
  if p.1 < 0 then
    match typeE cs p.2.2 with
    | .error e => .error e
    | .ok k => if p.2.1 = true ∧ k ≠ 2 ∧ k ≠ 0 then .error 121 else .ok []
  else match q.it[p.1.toNat]? with
    | none => .ok []
    | some x => match itemP cs q p.1.toNat x with
      | .error e => .error e
      | .ok c => .ok [c]
def runP (cs : List Col) (q : Qu) : List Prt → Except Int (List Col)
  | [] => .ok []
  | p :: l => match stepP cs q p with
    | .error e => .error e
    | .ok c => match runP cs q l with
      | .error e => .error e
      | .ok r => .ok (c ++ r)
theorem step_err {cs : List Col} {q : Qu} {p : Prt} {e : Int} (h : stepP cs q p = .error e) : e ≠ 0 := by
  unfold stepP at h
  split at h
  · split at h
    · rename_i hT; cases h; exact type_err hT
    · split at h
      · cases h; decide
      · cases h
  · split at h
    · cases h
    · split at h
      · rename_i hT; cases h; exact item_err hT
      · cases h
theorem run_bad {cs : List Col} {q : Qu} {p : Prt} {e : Int} (hp : stepP cs q p = .error e) : ∀ {l m : List Prt} {r : List Col}, runP cs q l = .ok r → runP cs q (l ++ p :: m) = .error e
  | [], m, r, h => by simp only [List.nil_append, runP, hp]
  | x :: l, m, r, h => by
    rw [List.cons_append]
    unfold runP at h ⊢
    split at h
    · cases h
    · rename_i c hc
      split at h
      · cases h
      · rename_i r' hr
        simp only [run_bad hp hr]
theorem run_snoc {cs : List Col} {q : Qu} {p : Prt} {c : List Col} (hp : stepP cs q p = .ok c) : ∀ {l : List Prt} {r : List Col}, runP cs q l = .ok r → runP cs q (l ++ [p]) = .ok (r ++ c)
  | [], r, h => by cases h; simp only [List.nil_append, runP, hp, List.append_nil]
  | x :: l, r, h => by
    rw [List.cons_append]
    unfold runP at h ⊢
    split at h
    · cases h
    · rename_i c' hc
      split at h
      · cases h
      · rename_i r' hr
        cases h
        simp only [run_snoc hp hr, List.append_assoc]
theorem run_where {cs : List Col} {q : Qu} : ∀ (l : List Ex) (m : List Prt), runP cs q (l.map (fun x => ((-1, true, x) : Prt)) ++ m) = match whereP cs l with | some e => .error e | none => runP cs q m
  | [], m => rfl
  | x :: l, m => by
    simp only [List.map_cons, List.cons_append, runP, stepP, whereP, run_where l m]
    rw [if_pos (by decide)]
    cases hT : typeE cs x with
    | error e => rfl
    | ok k =>
      simp only [true_and]
      by_cases hk : k ≠ 2 ∧ k ≠ 0
      · rw [if_pos hk, if_pos hk]
      · rw [if_neg hk, if_neg hk]
        cases whereP cs l with
        | some e => rfl
        | none => simp only [List.nil_append] <;> (cases runP cs q m <;> rfl)
theorem run_group {cs : List Col} {q : Qu} : ∀ (l : List Ex) (m : List Prt), runP cs q (l.map (fun x => ((-1, false, x) : Prt)) ++ m) = match groupP cs l with | some e => .error e | none => runP cs q m
  | [], m => rfl
  | x :: l, m => by
    simp only [List.map_cons, List.cons_append, runP, stepP, groupP, run_group l m]
    rw [if_pos (by decide)]
    cases hT : typeE cs x with
    | error e => rfl
    | ok k =>
      simp only [Bool.false_eq_true, false_and, if_false]
      cases groupP cs l with
      | some e => rfl
      | none => simp only [List.nil_append] <;> (cases runP cs q m <;> rfl)
theorem run_items {cs : List Col} {q : Qu} : ∀ (l : List Itm) (i : Nat), (∀ j (h : j < l.length), q.it[i + j]? = some l[j]) → runP cs q (itPrts i l) = itemsP cs q i l
  | [], i, _ => rfl
  | x :: l, i, h => by
    simp only [itPrts, runP, stepP, itemsP]
    rw [if_neg (by omega), Int.toNat_natCast]
    have h0 := h 0 (by simp)
    simp only [Nat.add_zero, List.getElem_cons_zero] at h0
    rw [h0, run_items l (i + 1) fun j hj => by
      have := h (j + 1) (by simpa using hj)
      simp only [List.getElem_cons_succ] at this
      rwa [show i + 1 + j = i + (j + 1) by omega]]
    simp only
    cases itemP cs q i x with
    | error e => rfl
    | ok c => simp only <;> (cases itemsP cs q (i + 1) l <;> rfl)
theorem run_make {cs : List Col} {q : Qu} (h1 : rightCols cs = true) (h2 : rightQ q = true) : runP cs q (prts q) = makeP cs q := by
  unfold prts makeP
  rw [if_neg (by rw [h1]; decide), if_neg (by rw [h2]; decide), List.append_assoc, run_where, run_group, run_items q.it 0 fun j h => by rw [Nat.zero_add]; exact List.getElem?_eq_getElem h]
  cases whereP cs q.wh with
  | some e => rfl
  | none => cases groupP cs q.gr <;> rfl
theorem map_at {α β : Type} (f : α → β) {l : List α} {i : Nat} (hi : i < l.length) : l.map f = (l.take i).map f ++ f l[i] :: (l.drop (i + 1)).map f := by
  conv => lhs; rw [at_drop hi]
  rw [List.map_append, List.map_cons]
theorem run_len {cs : List Col} {q : Qu} : ∀ {l : List Prt} {r : List Col}, runP cs q l = .ok r → r.length ≤ l.length
  | [], r, h => by cases h; simp
  | p :: l, r, h => by
    unfold runP at h
    split at h
    · cases h
    · rename_i c hc
      split at h
      · cases h
      · rename_i r' hr
        cases h
        have := run_len hr
        have hcl : c.length ≤ 1 := by
          unfold stepP at hc
          split at hc
          · split at hc
            · cases hc
            · split at hc <;> cases hc
              simp
          · split at hc
            · cases hc; simp
            · split at hc <;> cases hc
              simp
        simp only [List.length_append, List.length_cons]
        omega
theorem itPrts_len : ∀ (l : List Itm) (i : Nat), (itPrts i l).length = l.length
  | [], _ => rfl
  | x :: l, i => by simp only [itPrts, List.length_cons, itPrts_len l (i + 1)]
theorem prts_len {q : Qu} (h : smallQ q = true) : (prts q).length ≤ 21 := by
  have := (smallQ_iff.1 h).1
  unfold prts
  simp only [List.length_append, List.length_map, itPrts_len]
  omega
/-! ### the walk over them -/
def prtC (w0 : World) (p : Prt) (vs : List Value) : Prop := ∃ cs, vs = [.agg ⟨.int .i64 p.1 :: .bool p.2.1 :: cs⟩] ∧ XC w0 p.2.2 cs
section
variable {w0 : World} {q : Qu} {ai aw ag ao : Option Addr} {ci cw cg co : Nat}
theorem plan_parts_ok {w : World} : Calls Tryz.prog f.plan_parts #[.agg ⟨quL q ai aw ag ao ci cw cg co⟩] w (Ret fun v w' => ∃ b, v = .func (.func f.plan_parts_c1) #[] #[.pointer (some ⟨b, 0, none⟩)] ∧ ST w w' [quI b q ai aw ag ao ci cw cg co]) := by
  apply R.plan_parts_calls
  unfold R.plan_parts
  exact (ST.start w).newB fun b1 w1 _ _ S1 => ⟨b1, rfl, S1⟩
theorem parts_c1_ok {L : Nat} {I : List Prt → List It → Prop} {J : List It → Prop} (hy : Yld w0 L (prts q) (prtC w0) I J) (Q : QAt w0 q ai aw ag ao) {HN B : List It} {w : World} {b : Nat} (hI : I [] B) (S : ST w0 w (quI b q ai aw ag ao ci cw cg co :: (HN ++ B))) :
    Calls Tryz.prog f.plan_parts_c1 #[.func (.yield L) #[] #[], .pointer (some ⟨b, 0, none⟩)] w (Ret fun _ w' => ∃ B', ST w0 w' (HN ++ B') ∧ (I (prts q) B' ∨ J B')) := by
  apply R.plan_parts_c1_calls
  unfold R.plan_parts_c1
  obtain ⟨ri, hri, hCi⟩ := Q.it
  obtain ⟨rw_, hrw, hCw⟩ := Q.wh
  obtain ⟨rg, hrg, hCg⟩ := Q.gr
  refine ⟨_, _, _, S.cell 0 rfl rfl, forUp q.wh.length (fun i w => ∃ B', ST w0 w (quI b q ai aw ag ao ci cw cg co :: (HN ++ B')) ∧ I ((q.wh.take i).map fun x => (-1, true, x)) B') Q.nwh ⟨B, S, hI⟩ fun I1 M1 i w1 hi h next => ?_⟩
  obtain ⟨B1, S1, hI1⟩ := h
  refine IFB_dec (fun hlt => ⟨⟨by omega, hlt⟩, ?_⟩) (fun hge => ?_)
  · have hil : i < q.wh.length := by omega
    obtain ⟨p, a3, cap3, hp, hxk, cell⟩ := exs_at (hrw.grown S1.bel) hCw hil
    subst hp
    rw [Int.toNat_natCast]
    refine ldX cell (S1.lit6 fun b12 w8 _ S8 => stX S8 0 rfl ?_)
    have htot : prts q = (q.wh.take i).map (fun x => ((-1, true, x) : Prt)) ++ (-1, true, q.wh[i]) :: ((q.wh.drop (i + 1)).map (fun x => ((-1, true, x) : Prt)) ++ (q.gr.map (fun x => ((-1, false, x) : Prt)) ++ itPrts 0 q.it)) := by
      unfold prts
      rw [map_at (fun x => ((-1, true, x) : Prt)) hil]
      simp only [List.append_assoc, List.cons_append]
    refine (hy _ (-1, true, q.wh[i]) _ _ (exI b12 (exHead q.wh[i] a3 cap3) :: quI b q ai (some p) ag ao ci cw cg co :: HN) B1 w8 htot hI1 S8 ⟨_, rfl, hxk⟩).mono ?_
    rintro y w9 ⟨B', S9, ⟨rfl, hI9⟩ | ⟨rfl, hJ⟩⟩
    · refine IFB_not (IFB_true (next _ hil ⟨B', S9.drop 1, ?_⟩))
      rw [List.take_succ_eq_append_getElem hil, List.map_append]
      exact hI9
    · exact IFB_not (IFB_false ⟨B', S9.drop 2, .inr hJ⟩)
  have hil : q.wh.length ≤ i := by omega
  rw [List.take_of_length_le hil] at hI1
  clear next hge hi hil
  refine ⟨_, _, _, S1.cell 0 rfl rfl, forUp q.gr.length (fun i w => ∃ B', ST w0 w (quI b q ai aw ag ao ci cw cg co :: (HN ++ B')) ∧ I (q.wh.map (fun x => (-1, true, x)) ++ (q.gr.take i).map fun x => (-1, false, x)) B') Q.ngr ⟨B1, S1, by simpa using hI1⟩ fun I2 M2 i w2 hi h next => ?_⟩
  obtain ⟨B2, S2, hI2⟩ := h
  refine IFB_dec (fun hlt => ⟨⟨by omega, hlt⟩, ?_⟩) (fun hge => ?_)
  · have hil : i < q.gr.length := by omega
    obtain ⟨p, a3, cap3, hp, hxk, cell⟩ := exs_at (hrg.grown S2.bel) hCg hil
    subst hp
    rw [Int.toNat_natCast]
    refine ldX cell (S2.lit6 fun b12 w8 _ S8 => stX S8 0 rfl ?_)
    have htot : prts q = (q.wh.map (fun x => ((-1, true, x) : Prt)) ++ (q.gr.take i).map fun x => (-1, false, x)) ++ (-1, false, q.gr[i]) :: ((q.gr.drop (i + 1)).map (fun x => ((-1, false, x) : Prt)) ++ itPrts 0 q.it) := by
      unfold prts
      rw [map_at (fun x => ((-1, false, x) : Prt)) hil]
      simp only [List.append_assoc, List.cons_append]
    refine (hy _ (-1, false, q.gr[i]) _ _ (exI b12 (exHead q.gr[i] a3 cap3) :: quI b q ai aw (some p) ao ci cw cg co :: HN) B2 w8 htot hI2 S8 ⟨_, rfl, hxk⟩).mono ?_
    rintro y w9 ⟨B', S9, ⟨rfl, hI9⟩ | ⟨rfl, hJ⟩⟩
    · refine IFB_not (IFB_true (next _ hil ⟨B', S9.drop 1, ?_⟩))
      rw [List.take_succ_eq_append_getElem hil, List.map_append, ← List.append_assoc]
      exact hI9
    · exact IFB_not (IFB_false ⟨B', S9.drop 2, .inr hJ⟩)
  have hil : q.gr.length ≤ i := by omega
  rw [List.take_of_length_le hil] at hI2
  clear next hge hi hil
  refine ⟨_, _, _, S2.cell 0 rfl rfl, forUp q.it.length (fun i w => ∃ B', ST w0 w (quI b q ai aw ag ao ci cw cg co :: (HN ++ B')) ∧ I (q.wh.map (fun x => (-1, true, x)) ++ q.gr.map (fun x => (-1, false, x)) ++ itPrts 0 (q.it.take i)) B') Q.nit ⟨B2, S2, by simpa [itPrts] using hI2⟩ fun I3 M3 i w3 hi h next => ?_⟩
  obtain ⟨B3, S3, hI3⟩ := h
  refine IFB_dec (fun hlt => ⟨⟨by omega, hlt⟩, ?_⟩) (fun hge => ?_)
  · have hil : i < q.it.length := by omega
    obtain ⟨p, a3, cap3, hp, hxk, hsz, cell⟩ := item_at (hri.grown S3.bel) hCi hil
    subst hp
    rw [Int.toNat_natCast]
    refine ldI cell (S3.lit8 fun b12 w8 _ S8 => ?_)
    have S8 : ST w0 w8 (itI b12 q.it[i] a3 cap3 :: quI b q (some p) aw ag ao ci cw cg co :: (HN ++ B3)) := S8
    refine stIx S8 0 rfl ?_
    have hlen : (q.it.take i).length = i := by rw [List.length_take]; omega
    have hone : itPrts 0 (q.it.take (i + 1)) = itPrts 0 (q.it.take i) ++ [((i : Int), false, q.it[i].2.2)] := by
      rw [List.take_succ_eq_append_getElem hil, itPrts_append, hlen, Nat.zero_add]
      rfl
    have htot : prts q = (q.wh.map (fun x => ((-1, true, x) : Prt)) ++ q.gr.map (fun x => (-1, false, x)) ++ itPrts 0 (q.it.take i)) ++ ((i : Int), false, q.it[i].2.2) :: itPrts (i + 1) (q.it.drop (i + 1)) := by
      unfold prts
      conv => lhs; rw [at_drop hil]
      rw [itPrts_append, hlen, Nat.zero_add]
      simp [List.append_assoc, itPrts]
    refine (hy _ ((i : Int), false, q.it[i].2.2) _ _ (itI b12 q.it[i] a3 cap3 :: quI b q (some p) aw ag ao ci cw cg co :: HN) B3 w8 htot hI3 S8 ⟨_, rfl, hxk⟩).mono ?_
    rintro y w9 ⟨B', S9, ⟨rfl, hI9⟩ | ⟨rfl, hJ⟩⟩
    · refine IFB_not (IFB_true (next _ hil ⟨B', S9.drop 1, ?_⟩))
      rw [hone, ← List.append_assoc]
      exact hI9
    · exact IFB_not (IFB_false ⟨B', S9.drop 2, .inr hJ⟩)
  have hil : q.it.length ≤ i := by omega
  rw [List.take_of_length_le hil] at hI3
  exact ⟨B3, S3.drop 1, .inl hI3⟩
end
/-! ### an item, an expression -/
def plnI (b : Nat) (p : Pl) (a0 : Option Addr) (c0 : Nat) (ai : Option Addr) (ci : Nat) (aw : Option Addr) (cw : Nat) (ag : Option Addr) (cg : Nat) (ao : Option Addr) (co : Nat) (a6 : Option Addr) (c6 : Nat) : It := It.cells b ⟨plL p a0 c0 ai ci aw cw ag cg ao co a6 c6⟩ ty.plan_planner
theorem plan_orInt_ok (w : World) (k : Int) : Calls Tryz.prog f.plan_orInt #[.int .i64 k] w (Ret fun r w' => r = .int .i64 (orInt k) ∧ w' = w) := by
  apply R.plan_orInt_calls
  unfold R.plan_orInt
  exact IFB_eq (fun h => ⟨by rw [orInt, if_pos h], rfl⟩) (fun h => ⟨by rw [orInt, if_neg h], rfl⟩)
theorem RowsC.take {α : Type} {C : α → List Value → Prop} {n : Nat} (hn : ∀ x c, C x c → c.length = n) {l : List α} {cs : List Value} (h : RowsC C l cs) (i : Nat) : RowsC C (l.take i) (cs.take (i * n)) := by
  have hl := RowsC.len hn h
  have hm : min i l.length * n = min (i * n) (l.length * n) := by
    rcases Nat.le_total i l.length with h | h
    · rw [Nat.min_eq_left h, Nat.min_eq_left (Nat.mul_le_mul_right _ h)]
    · rw [Nat.min_eq_right h, Nat.min_eq_right (Nat.mul_le_mul_right _ h)]
  refine RowsC.of (n := n) (by rw [List.length_take, List.length_take, hl, hm]) fun j hj => ?_
  rw [List.length_take] at hj
  have := h.get hn j (by omega)
  rw [List.getElem_take]
  rw [List.drop_take, List.take_take, Nat.min_eq_left]
  · exact this
  · have : (j + 1) * n ≤ i * n := Nat.mul_le_mul_right _ (by omega)
    rw [Nat.add_mul] at this
    omega
section
variable {w w0 : World} {q : Qu} {ai aw ag ao : Option Addr} {ci cw cg co : Nat} {H : List It} {cs : List Col} {a0 a6 : Option Addr} {c0 c6 b : Nat} {out : List Col} {g : Bool}
theorem item_c1_ok (E : Env w) (n : Nat) {x : Itm} {a3 : Option Addr} {cap3 b15 : Nat} (S : ST w0 w H) (hn : H[n]? = some (itI b15 x a3 cap3)) (hx : XC w x.2.2 (exHead x.2.2 a3 cap3)) {y : Ex} {c : List Value} (hy : XC w y c) :
    Calls Tryz.prog f.plan_planner_item_c1 #[.agg ⟨c⟩, .pointer (some ⟨b15, 0, none⟩)] w (Ret fun r w' => r = .bool (sameF x.2.2 y) ∧ Below w.heap.size w w') := by
  obtain ⟨a4, cap4, _, rfl, _⟩ := ExC.open hy
  apply R.plan_planner_item_c1_calls
  unfold R.plan_planner_item_c1
  refine S.newB fun b8 w1 _ B1 S1 => stIx S1 (n + 1) hn (stX S1 0 rfl (S1.call (expr_Same_ok (E.grown B1) (hx.grown B1) (hy.grown B1)) fun w2 B2 _ => ⟨_, rfl, rfl, below_j B1 B2⟩))
theorem item_c2_ok (n : Nat) {x : Itm} {a3 : Option Addr} {cap3 b15 : Nat} (S : ST w0 w H) (hn : H[n]? = some (itI b15 x a3 cap3)) {wc : World} {y : Itm} {c : List Value} (hy : ItC (fun _ => False) wc y c) :
    Calls Tryz.prog f.plan_planner_item_c2 #[.agg ⟨c⟩, .pointer (some ⟨b15, 0, none⟩)] w (Ret fun r w' => r = .bool (decide (y.1 = x.1)) ∧ Below w.heap.size w w') := by
  obtain ⟨ce, rfl, hx2, _⟩ := hy
  obtain ⟨a4, cap4, _, rfl, _⟩ := ExC.open hx2
  apply R.plan_planner_item_c2_calls
  unfold R.plan_planner_item_c2
  refine S.newB fun b8 w1 _ B1 S1 => ⟨_, S1.cell 0 rfl rfl, _, S1.cell (n + 1) hn rfl, by rw [bytesEq_iff], B1⟩
end
end Go.Proofs.YtbpdfpfgijhokaaGreatDoor
namespace Go.Proofs.YtbpdfpfgijhokaaGreatDoor
set_option maxRecDepth 100000
open Go.Dn Go.Proofs
open Go.RowKit (Below)
set_option linter.unusedVariables false
section
variable {w w0 : World} {q : Qu} {ai aw ag ao : Option Addr} {ci cw cg co : Nat} {H : List It} {cs : List Col} {a0 a6 : Option Addr} {c0 c6 b : Nat} {out : List Col}
def StepV (w0 : World) (q : Qu) (ai aw ag ao : Option Addr) (ci cw cg co : Nat) (H : List It) (cs : List Col) (a0 a6 : Option Addr) (c0 c6 b : Nat) (out : List Col) (r : Except Int (List Col)) (v : Value) (w' : World) : Prop :=
  match r with
  | .error e => v = .int .i64 e ∧ ST w0 w' (plnI b ⟨cs, q, out, gathersQ q⟩ a0 c0 ai ci aw cw ag cg ao co a6 c6 :: colsI a6 c6 out :: H)
  | .ok l => ∃ a' c', v = .int .i64 0 ∧ ST w0 w' (plnI b ⟨cs, q, out ++ l, gathersQ q⟩ a0 c0 ai ci aw cw ag cg ao co a' c' :: colsI a' c' (out ++ l) :: H)
def oneC : Except Int Col → Except Int (List Col)
  | .error e => .error e
  | .ok c => .ok [c]
theorem planner_item_ok (E : Env w0) (Q : QAt w0 q ai aw ag ao) (hci : q.it.length ≤ ci) (S : ST w0 w (plnI b ⟨cs, q, out, gathersQ q⟩ a0 c0 ai ci aw cw ag cg ao co a6 c6 :: colsI a6 c6 out :: H)) {i : Nat} (hi : i < q.it.length) (ho : out.length ≤ 1000) (k : Int) :
    Calls Tryz.prog f.plan_planner_item #[.pointer (some ⟨b, 0, none⟩), .int .i64 (i : Int), .int .i64 k] w (Ret fun v w' => StepV w0 q ai aw ag ao ci cw cg co H cs a0 a6 c0 c6 b out (oneC (itemK q i q.it[i] k)) v w') := by
  apply R.plan_planner_item_calls
  unfold R.plan_planner_item
  obtain ⟨ri, hri, hCi⟩ := Q.it
  obtain ⟨rg, hrg, hCg⟩ := Q.gr
  obtain ⟨x, hxe⟩ : ∃ x, x = q.it[i] := ⟨_, rfl⟩
  refine ⟨_, _, _, S.cell 0 rfl rfl, ⟨by omega, by show (i : Int) < (q.it.length : Int); omega⟩, ?_⟩
  obtain ⟨p, a3, cap3, hpa, hxk, hsz, cell⟩ := item_at (hri.grown S.bel) hCi hi
  rw [← hxe] at hxk cell ⊢
  subst hpa
  rw [Int.toNat_natCast]
  refine ldI cell (S.lit8 fun b15 w9 _ S9 => ?_)
  obtain ⟨K, hK⟩ : ∃ K, K = itI b15 x a3 cap3 :: plnI b ⟨cs, q, out, gathersQ q⟩ a0 c0 (some p) ci aw cw ag cg ao co a6 c6 :: colsI a6 c6 out :: H := ⟨_, rfl⟩
  have S9 : ST w0 w9 K := by rw [hK]; exact S9
  have k0 : K[0]? = some (itI b15 x a3 cap3) := by rw [hK]; rfl
  have k1 : K[1]? = some (plnI b ⟨cs, q, out, gathersQ q⟩ a0 c0 (some p) ci aw cw ag cg ao co a6 c6) := by rw [hK]; rfl
  have hd : K.drop 1 = plnI b ⟨cs, q, out, gathersQ q⟩ a0 c0 (some p) ci aw cw ag cg ao co a6 c6 :: colsI a6 c6 out :: H := by rw [hK]; rfl
  refine ⟨fun st w => st = [.int .i64 (if x.2.1 = 1 ∨ x.2.1 = 2 then 1 else k)] ∧ ¬ (x.2.1 = 3 ∧ orInt k ≠ 1) ∧ ¬ ((gathersQ q = true ∧ x.2.1 = 0 ∧ amongX x.2.2 q.gr = false) ∨ ((q.it.take i).any fun y => decide (y.1 = x.1)) = true) ∧ ST w0 w K,
    ⟨fun st w => st = [.bool (decide (x.2.1 = 3 ∧ orInt k ≠ 1))] ∧ ST w0 w K, ⟨_, S9.cell 0 k0 rfl, IFB_eq (fun h3 => S9.call0 (plan_orInt_ok w9 k) ⟨_, rfl, ?_, S9⟩) (fun h3 => ⟨?_, S9⟩)⟩, ?_⟩, ?_⟩
  · change x.2.1 = 3 at h3
    rw [bne_dec]
    congr 2
    rw [decide_eq_decide]
    exact ⟨fun h => ⟨h3, h⟩, fun h => h.2⟩
  · change x.2.1 ≠ 3 at h3
    rw [decide_eq_false (fun h => h3 h.1)]
  · rintro t w11 ⟨ht, S11⟩
    obtain rfl : t = decide (x.2.1 = 3 ∧ orInt k ≠ 1) := by simpa using ht
    refine IFB_dec (fun h => ?_) (fun hno3 => ?_)
    · rw [itemK, if_pos h]
      exact ⟨rfl, hd ▸ S11.drop 1⟩
    refine ⟨fun st w => st = [.bool (decide ((gathersQ q = true ∧ x.2.1 = 0 ∧ amongX x.2.2 q.gr = false) ∨ ((q.it.take i).any fun y => decide (y.1 = x.1)) = true))] ∧ ST w0 w K,
      ⟨fun st w => st = [.bool (decide (gathersQ q = true ∧ x.2.1 = 0 ∧ amongX x.2.2 q.gr = false))] ∧ ST w0 w K, ⟨_, S11.cell 1 k1 rfl, IFB_of (fun hg => ⟨_, S11.cell 0 k0 rfl, IFB_eq (fun h0 => ⟨_, _, _, S11.cell 1 k1 rfl, ?_⟩) (fun h0 => ⟨?_, S11⟩)⟩) (fun hg => ⟨?_, S11⟩)⟩, ?_⟩, ?_⟩
    · change x.2.1 = 0 at h0
      change gathersQ q = true at hg
      refine S11.call (any_api_Expr_ok (hrg.grown S11.bel) hCg Q.ngr (by kernel_rfl) (sameF x.2.2) fun w' y c B hy hc => item_c1_ok (E.grown (S11.grown B).bel) 0 (S11.grown B) k0 (hxk.grown (S11.grown B).bel) (hc.grown (S11.grown B).bel)) fun w12 _ S12 => ⟨_, rfl, ?_, S12⟩
      show [Value.bool (!amongX x.2.2 q.gr)] = _
      congr 2
      rw [hg, h0]
      cases amongX x.2.2 q.gr <;> simp
    · change x.2.1 ≠ 0 at h0
      rw [decide_eq_false (fun h => h0 h.2.1)]
    · change gathersQ q = false at hg
      rw [decide_eq_false (fun h => by rw [hg] at h; cases h.1)]
    · rintro t w13 ⟨ht, S13⟩
      obtain rfl : t = decide (gathersQ q = true ∧ x.2.1 = 0 ∧ amongX x.2.2 q.gr = false) := by simpa using ht
      refine IFB_dec (fun h => ⟨by rw [decide_eq_true (Or.inl h)], S13⟩) (fun hno => ⟨_, _, _, S13.cell 1 k1 rfl, ⟨by omega, by omega, by omega⟩, ?_⟩)
      have e : i - 0 = (q.it.take i).length := by rw [List.length_take]; omega
      have hsl := (hri.grown S13.bel).sla 0 i ci 8 (by omega)
      rw [Nat.zero_mul, List.drop_zero, Nat.sub_zero] at hsl
      have hq8 := Q.nit
      rw [e]
      refine S13.call (any_api_Item_ok hsl (RowsC.take (fun _ _ h => ItC.len h) hCi i) (by rw [List.length_take]; omega) (by kernel_rfl) (fun y => decide (y.1 = x.1)) fun w' y c B hy hc => item_c2_ok 0 (S13.grown B) k0 hc) fun w14 _ S14 => ⟨_, rfl, ?_, S14⟩
      congr 2
      rw [Bool.eq_iff_iff, decide_eq_true_eq]
      exact ⟨.inr, fun h => h.elim (fun h => absurd h hno) id⟩
    · rintro t w15 ⟨ht, S15⟩
      obtain rfl : t = decide ((gathersQ q = true ∧ x.2.1 = 0 ∧ amongX x.2.2 q.gr = false) ∨ ((q.it.take i).any fun y => decide (y.1 = x.1)) = true) := by simpa using ht
      refine IFB_dec (fun h => ?_) (fun hno => ⟨_, S15.cell 0 k0 rfl, IFB_eq (fun h1 => ⟨?_, hno3, hno, S15⟩) (fun h1 => ⟨_, S15.cell 0 k0 rfl, IFB_eq (fun h2 => ⟨?_, hno3, hno, S15⟩) (fun h2 => ⟨?_, hno3, hno, S15⟩)⟩)⟩)
      · rw [itemK, if_neg hno3, if_pos h]
        exact ⟨rfl, hd ▸ S15.drop 1⟩
      · rw [if_pos (.inl h1)]
      · rw [if_pos (.inr h2)]
      · change x.2.1 ≠ 1 at h1
        change x.2.1 ≠ 2 at h2
        rw [if_neg (by omega)]
  rintro t w16 ⟨ht, hno3, hno, S16⟩
  obtain rfl : t = if x.2.1 = 1 ∨ x.2.1 = 2 then 1 else k := by simpa using ht
  rw [itemK, if_neg hno3, if_neg hno]
  rw [hK] at S16
  refine S16.draw fun w17 _ S17 => ⟨_, _, _, S17.cell 1 rfl rfl, _, S17.cell 0 rfl rfl, S17.call0 (plan_orInt_ok _ _) ⟨_, rfl, S17.cell 0 rfl rfl, S17.cell 1 rfl rfl, S17.newB fun b45 w19 _ _ S19 => ⟨S19.cell 2 rfl rfl, ?_⟩⟩⟩
  refine S19.app 3 rfl tCols rfl (by omega) (by omega) (S19.rdc 0 rfl) (mm := 1) rfl (by intro u hu; simp at hu; rcases hu with rfl | rfl | rfl <;> rfl) (by omega) fun a' c' w20 S20 => ⟨_, _, _, rfl, ?_⟩
  obtain ⟨cc, hcc⟩ : ∃ cc : Col, cc = (x.1, if x.2.1 = 1 ∨ x.2.1 = 2 then 1 else orInt k, true) := ⟨_, rfl⟩
  have ek : orInt (if x.2.1 = 1 ∨ x.2.1 = 2 then 1 else k) = if x.2.1 = 1 ∨ x.2.1 = 2 then 1 else orInt k := by split <;> rfl
  refine PTR_i (S20.sto 2 rfl (i := 6) (cs' := ⟨plL ⟨cs, q, out ++ [cc], gathersQ q⟩ a0 c0 (some p) ci aw cw ag cg ao co a' c'⟩) (by show 6 < 8; omega) (by simp [plL]) fun w21 S21 => ?_)
  rw [← hcc]
  refine ⟨a', c', rfl, ?_⟩
  have e : colsI a' c' (out ++ [cc]) = It.row ty.api_Column 3 a' (out.length + 1) c' (colsL out ++ [.string x.1, .int .i64 (orInt (if x.2.1 = 1 ∨ x.2.1 = 2 then 1 else k)), .bool true]) := by
    unfold colsI
    rw [colsL_append, List.length_append, ek, hcc]
    simp [colsL, colC]
  rw [e]
  exact S21.drop 2
theorem prt_mem {p : Prt} (h : p ∈ prts q) : p.1 = -1 ∨ ∃ (i : Nat) (hi : i < q.it.length), p = ((i : Int), false, q.it[i].2.2) := by
  have hI : ∀ (l : List Itm) (j : Nat), p ∈ itPrts j l → ∃ (i : Nat) (hi : i < l.length), p = (((j + i : Nat) : Int), false, l[i].2.2) := by
    intro l
    induction l with
    | nil => intro j h; cases h
    | cons x l ih =>
      intro j h
      rcases List.mem_cons.1 h with rfl | h
      · exact ⟨0, by simp, rfl⟩
      · obtain ⟨i, hi, rfl⟩ := ih _ h
        exact ⟨i + 1, by simpa using hi, by simp only [List.getElem_cons_succ]; rw [show j + 1 + i = j + (i + 1) by omega]⟩
  unfold prts at h
  rcases List.mem_append.1 h with h | h
  · rcases List.mem_append.1 h with h | h
    · obtain ⟨x, _, rfl⟩ := List.mem_map.1 h; exact .inl rfl
    · obtain ⟨x, _, rfl⟩ := List.mem_map.1 h; exact .inl rfl
  · obtain ⟨i, hi, rfl⟩ := hI q.it 0 h
    exact .inr ⟨i, hi, by rw [Nat.zero_add]⟩
def prtI (b : Nat) (p : Prt) (a : Option Addr) (cap : Nat) : It := It.cells b ⟨.int .i64 p.1 :: .bool p.2.1 :: exHead p.2.2 a cap⟩ ty.plan_part
def typed (q : Qu) (p : Prt) : Bool := decide (p.1 < 0) || (match q.it[p.1.toNat]? with | some x => decide (x.2.1 ≠ 1) | none => true)
theorem planner_check_ok (E : Env w0) (Q : QAt w0 q ai aw ag ao) (hci : q.it.length ≤ ci) (hl : Rd w a0 (colsL cs)) (hn : cs.length ≤ 9223372036854775807) (hq : ∀ c ∈ cs, c.1.size ≤ 9223372036854775807) (S : ST w0 w (plnI b ⟨cs, q, out, gathersQ q⟩ a0 c0 ai ci aw cw ag cg ao co a6 c6 :: colsI a6 c6 out :: H)) (ho : out.length ≤ 1000)
    {p : Prt} (hp : p ∈ prts q) {a3 : Option Addr} {cap3 : Nat} (hx : XC w0 p.2.2 (exHead p.2.2 a3 cap3)) :
    Calls Tryz.prog f.plan_planner_check #[.pointer (some ⟨b, 0, none⟩), .agg ⟨.int .i64 p.1 :: .bool p.2.1 :: exHead p.2.2 a3 cap3⟩] w (Ret fun v w' => StepV w0 q ai aw ag ao ci cw cg co H cs a0 a6 c0 c6 b out (stepP cs q p) v w') := by
  apply R.plan_planner_check_calls
  unfold R.plan_planner_check
  obtain ⟨ri, hri, hCi⟩ := Q.it
  have hpm := prt_mem hp
  refine S.newB fun b10 w1 _ B1 S1 => ?_
  have hl1 := hl.grown B1
  obtain ⟨K, hK⟩ : ∃ K, K = prtI b10 p a3 cap3 :: plnI b ⟨cs, q, out, gathersQ q⟩ a0 c0 ai ci aw cw ag cg ao co a6 c6 :: colsI a6 c6 out :: H := ⟨_, rfl⟩
  have S1 : ST w0 w1 K := by rw [hK]; exact S1
  have k0 : K[0]? = some (prtI b10 p a3 cap3) := by rw [hK]; rfl
  have k1 : K[1]? = some (plnI b ⟨cs, q, out, gathersQ q⟩ a0 c0 ai ci aw cw ag cg ao co a6 c6) := by rw [hK]; rfl
  have hd : K.drop 1 = plnI b ⟨cs, q, out, gathersQ q⟩ a0 c0 ai ci aw cw ag cg ao co a6 c6 :: colsI a6 c6 out :: H := by rw [hK]; rfl
  refine ⟨fun st w => ∃ k, st = [.int .i64 k] ∧ (typed q p = true → typeE cs p.2.2 = .ok k) ∧ (typed q p = false → k = 1) ∧ ST w0 w K, ⟨fun st w => st = [.bool (typed q p)] ∧ Rd w a0 (colsL cs) ∧ ST w0 w K, S1.draw fun w2 B2 S2 => ⟨_, S2.cell 0 k0 rfl, IFB_dec (fun h => ⟨?_, hl1.grown B2, S2⟩) (fun h => ?_)⟩, ?_⟩, ?_⟩
  · change p.1 < 0 at h
    rw [typed, decide_eq_true h]
    rfl
  · change ¬ p.1 < 0 at h
    rcases hpm with h1 | ⟨i, hi, rfl⟩
    · omega
    · obtain ⟨pp, a4, cap4, hpa, hxk, hsz, cell⟩ := item_at (hri.grown S2.bel) hCi hi
      subst hpa
      refine ⟨_, _, _, S2.cell 1 k1 rfl, _, S2.cell 0 k0 rfl, ⟨by show (0 : Int) ≤ (i : Int); omega, by show (i : Int) < (q.it.length : Int); omega⟩, _, by show w2.cell? ((pp.add (((i : Nat) : Int).toNat * 8)).add 1) = _; rw [Int.toNat_natCast]; exact cell 1 _ rfl, ?_, hl1.grown B2, S2⟩
      rw [typed, decide_eq_false h, Bool.false_or]
      show [Value.bool (q.it[i].2.1 != 1)] = _
      rw [bne_dec]
      simp only [Int.toNat_natCast, List.getElem?_eq_getElem hi]
  · rintro t w3 ⟨ht, hl3, S3⟩
    obtain rfl : t = typed q p := by simpa using ht
    refine IFB_of (fun h => S3.draw fun w4 B4 S4 => ⟨_, _, _, S4.cell 1 k1 rfl, _, S4.cell 0 k0 rfl, _, S4.cell 0 k0 rfl, _, S4.cell 0 k0 rfl, _, S4.cell 0 k0 rfl, _, S4.cell 0 k0 rfl, _, _, _, S4.cell 0 k0 rfl, S4.call (expr_Type_ok (E.grown S4.bel) (hl3.grown B4) hn hq (hx.grown S4.bel)) fun w5 _ S5 => ?_⟩) (fun h => ⟨1, rfl, (fun h' => by rw [h] at h'; cases h'), fun _ => rfl, S3⟩)
    cases hT : typeE cs p.2.2 with
    | ok k => exact ⟨_, _, rfl, IFB_ne (fun h => absurd rfl h) (fun _ => ⟨k, rfl, fun _ => rfl, (fun h' => by rw [h] at h'; cases h'), S5⟩)⟩
    | error e =>
      refine ⟨_, _, rfl, IFB_ne (fun _ => ?_) (fun h => absurd h (type_err hT))⟩
      have : stepP cs q p = .error e := by
        unfold stepP
        rw [hT]
        rcases hpm with h1 | ⟨i, hi, rfl⟩
        · rw [if_pos (by omega)]
        · rw [if_neg (by simp only; omega)]
          simp only [Int.toNat_natCast, List.getElem?_eq_getElem hi]
          rw [typed, decide_eq_false (by simp only; omega)] at h
          simp only [Int.toNat_natCast, List.getElem?_eq_getElem hi, Bool.false_or, decide_eq_true_eq] at h
          change typeE cs q.it[i].2.2 = _ at hT
          rw [itemP, if_neg h, hT]
      rw [this]
      exact ⟨rfl, hd ▸ S5.drop 1⟩
  rintro t w6 ⟨k, ht, hk1, hk2, S6⟩
  obtain rfl : t = k := by simpa using ht
  refine ⟨fun st w => st = [.bool (decide (p.2.1 = true ∧ t ≠ 2 ∧ t ≠ 0))] ∧ ST w0 w K, ⟨_, S6.cell 0 k0 rfl, IFB_of (fun hw => IFB_ne (fun h2 => ⟨?_, S6⟩) (fun h2 => ⟨?_, S6⟩)) (fun hw => ⟨?_, S6⟩)⟩, ?_⟩
  · change p.2.1 = true at hw
    rw [bne_dec]
    congr 2
    rw [decide_eq_decide]
    exact ⟨fun h => ⟨hw, h2, h⟩, fun h => h.2.2⟩
  · rw [decide_eq_false (fun h => h.2.1 h2)]
  · change p.2.1 = false at hw
    rw [decide_eq_false (fun h => by rw [hw] at h; cases h.1)]
  rintro t' w7 ⟨ht', S7⟩
  obtain rfl : t' = decide (p.2.1 = true ∧ t ≠ 2 ∧ t ≠ 0) := by simpa using ht'
  rcases hpm with h1 | ⟨i, hi, rfl⟩
  · have hty : typeE cs p.2.2 = .ok t := hk1 (by rw [typed, decide_eq_true (by omega)]; rfl)
    refine IFB_dec (fun h => ?_) (fun h => ⟨_, S7.cell 0 k0 rfl, IFB_dec (fun h' => absurd (show p.1 ≥ 0 from h') (by omega)) (fun _ => ?_)⟩)
    · rw [stepP, if_pos (by omega), hty]
      simp only
      rw [if_pos h]
      exact ⟨rfl, hd ▸ S7.drop 1⟩
    · rw [stepP, if_pos (by omega), hty]
      simp only
      rw [if_neg h]
      refine ⟨a6, c6, rfl, ?_⟩
      rw [List.append_nil]
      exact hd ▸ S7.drop 1
  · refine IFB_dec (fun h => by cases h.1) (fun _ => ⟨_, S7.cell 0 k0 rfl, IFB_dec (fun _ => ⟨_, S7.cell 0 k0 rfl, ?_⟩) (fun h' => absurd (show ((i : Nat) : Int) ≥ 0 by omega) h')⟩)
    have S8 : ST w0 w7 (plnI b ⟨cs, q, out, gathersQ q⟩ a0 c0 ai ci aw cw ag cg ao co a6 c6 :: colsI a6 c6 out :: H) := hd ▸ S7.drop 1
    have hst : stepP cs q ((i : Int), false, q.it[i].2.2) = oneC (itemK q i q.it[i] t) := by
      rw [stepP, if_neg (by simp only; omega)]
      simp only [Int.toNat_natCast, List.getElem?_eq_getElem hi]
      have htp : typed q ((i : Int), false, q.it[i].2.2) = decide (q.it[i].2.1 ≠ 1) := by
        rw [typed, decide_eq_false (by simp only; omega), Bool.false_or]
        simp only [Int.toNat_natCast, List.getElem?_eq_getElem hi]
      rw [htp] at hk1 hk2
      have hP : itemP cs q i q.it[i] = itemK q i q.it[i] t := by
        unfold itemP
        by_cases h1 : q.it[i].2.1 = 1
        · rw [if_pos h1, hk2 (by simp [h1])]
        · rw [if_neg h1, hk1 (by simp [h1])]
      rw [hP]
      all_goals (cases itemK q i q.it[i] t <;> rfl)
    rw [hst]
    refine (planner_item_ok E Q hci S8 hi ho t).mono ?_
    rintro _ w8 ⟨v, rfl, hv⟩
    cases hI : itemK q i q.it[i] t with
    | error e => rw [hI] at hv; obtain ⟨rfl, S9⟩ := hv; exact ⟨_, rfl, rfl, S9⟩
    | ok c => rw [hI] at hv; obtain ⟨a', c', rfl, S9⟩ := hv; exact ⟨_, rfl, a', c', rfl, S9⟩
end
section
variable {w w0 : World} {H : List It}
theorem clone_cols_ok (S : ST w0 w H) {a : Option Addr} {c : Nat} {l : List Col} (h : Rd w a (colsL l)) (hl : l.length ≤ 1000) : Calls Tryz.prog f.slices_Clone_api_Column_api_Column #[.slice a l.length c] w (Ret fun v w' => ∃ a' c', v = .slice a' l.length c' ∧ ST w0 w' (colsI a' c' l :: H)) := by
  apply R.slices_Clone_api_Column_api_Column_calls
  unfold R.slices_Clone_api_Column_api_Column
  cases a with
  | none =>
    have : l = [] := by
      cases l with
      | nil => rfl
      | cons x l =>
        obtain ⟨p, hp, _⟩ := h 0 (.string x.1) (by simp [colC])
        cases hp
    subst this
    exact IFB_true ⟨none, 0, rfl, S.nil _ _⟩
  | some q =>
    refine IFB_false (S.empty (sz := 3) fun b2 w1 B1 S => ?_)
    refine S.app 0 rfl tCols rfl (by omega) (by omega) (h.grown B1) (mm := l.length) (cols_len l) (cols_one l) (by omega) fun a' c' w' S => ⟨_, _, _, rfl, a', c', by rw [Nat.zero_add], ?_⟩
    simp only [Nat.zero_add, List.nil_append] at S
    exact S
theorem make_c1_ok {wc : World} {y : Itm} {c : List Value} (hy : ItC (fun _ => False) wc y c) : Calls Tryz.prog f.plan_Make_c1 #[.agg ⟨c⟩] w (Ret fun r w' => r = .bool (decide (y.2.1 ≠ 0)) ∧ Below w.heap.size w w') := by
  obtain ⟨ce, rfl, hx2, _⟩ := hy
  obtain ⟨a4, cap4, _, rfl, _⟩ := ExC.open hx2
  apply R.plan_Make_c1_calls
  unfold R.plan_Make_c1
  exact (ST.start w).newB fun b8 w1 _ B1 S1 => ⟨_, S1.cell 0 rfl rfl, by rw [bne_dec], B1⟩
def ptrI (b c : Nat) (t : TypeId) : It := It.cells b #[.pointer (some ⟨c, 0, none⟩)] t
def intI1 (b : Nat) (n : Int) (t : TypeId) : It := It.cells b #[.int .i64 n] t
end
section
variable {w : World} {q : Qu} {ai aw ag ao : Option Addr} {ci cw cg co : Nat}
theorem plan_Make_ok (E : Env w) {cs : List Col} {a1 : Option Addr} {c1 : Nat} (hl : Rd w a1 (colsL cs)) (hn : cs.length ≤ 9223372036854775807) (hq : ∀ c ∈ cs, c.1.size ≤ 9223372036854775807) (Q : QAt w q ai aw ag ao) (hci : q.it.length ≤ ci) :
    Calls Tryz.prog f.plan_Make #[.slice a1 cs.length c1, .agg ⟨quL q ai aw ag ao ci cw cg co⟩] w (Ret fun r w' => MakeV cs q w w' r) := by
  apply R.plan_Make_calls
  unfold R.plan_Make
  obtain ⟨ri, hri, hCi⟩ := Q.it
  refine (ST.start w).newB fun b7 w1 _ _ S1 => S1.newB fun b8 w2 _ _ S2 => S2.call (schema_Right_ok (hl.grown S2.bel) hn hq) fun w3 _ S3 => ⟨_, rfl, IFB_not (IFB_of (fun h1 => ?_) (fun h1 => stPlan S3 0 rfl fun w11 S11 => make_err (by rw [makeP, if_pos h1]) S11.bel))⟩
  have S3 : ST w w3 [It.cells b8 #[.slice none 0 0, .slice none 0 0, .slice none 0 0, .slice none 0 0, .slice none 0 0, .int .i64 0, .slice none 0 0, .bool false] ty.api_Plan, quI b7 q ai aw ag ao ci cw cg co] := S3
  refine stQ S3 1 rfl (stQ S3 1 rfl (S3.call (query_Same_self (E.grown S3.bel) (Q.grown S3.bel)) fun w12 _ S12 => ⟨_, rfl, IFB_not (IFB_of (fun h2 => ?_) (fun h2 => stPlan S12 0 rfl fun w11 S11 => make_err (by rw [makeP, if_neg (by rw [h1]; decide), if_pos h2]) S11.bel))⟩))
  have hn16 : cs.length ≤ 16 := by
    unfold rightCols at h1
    simp only [Bool.and_eq_true, decide_eq_true_eq] at h1
    exact h1.1.1.2
  have hi16 := (smallQ_iff.1 (rightQ_small h2).1).1.2.1
  obtain ⟨Z, hZ⟩ : ∃ Z, Z = It.cells b8 #[.slice none 0 0, .slice none 0 0, .slice none 0 0, .slice none 0 0, .slice none 0 0, .int .i64 0, .slice none 0 0, .bool false] ty.api_Plan := ⟨_, rfl⟩
  rw [← hZ] at S12
  refine ⟨_, _, _, S12.cell 1 rfl rfl, S12.call (any_api_Item_ok (hri.grown S12.bel) hCi Q.nit (by kernel_rfl) (fun y => decide (y.2.1 ≠ 0)) fun w' y c B hy hc => make_c1_ok hc) fun w21 _ S21 => ⟨_, rfl, ?_⟩⟩
  have hg1 : (q.it.any fun y => decide (y.2.1 ≠ 0)) = true → true = gathersQ q := fun h => by rw [gathersQ, h]; rfl
  have hg2 : (q.it.any fun y => decide (y.2.1 ≠ 0)) = false → decide ((q.gr.length : Int) > 0) = gathersQ q := fun h => by rw [gathersQ, h, Bool.false_or, decide_eq_decide]; omega
  refine ⟨fun st w' => ∃ bq bp a' c', st = [.pointer (some ⟨bq, 0, none⟩)] ∧ ST w w' [plnI bp ⟨cs, q, [], gathersQ q⟩ a' c' ai ci aw cw ag cg ao co none 0, ptrI bq bp ty.P_plan_planner, colsI a' c' cs, Z, quI b7 q ai aw ag ao ci cw cg co], S21.draw fun w22 _ S => ?_, ?_⟩
  · have five : ∀ {w'} {K : List It} (n : Nat), ST w w' K → K[n]? = some (quI b7 q ai aw ag ao ci cw cg co) → w'.cell? ⟨b7, 0, none⟩ = some (.slice ai q.it.length ci) ∧ w'.cell? ⟨b7, 1, none⟩ = some (.slice aw q.wh.length cw) ∧ w'.cell? ⟨b7, 2, none⟩ = some (.slice ag q.gr.length cg) ∧ w'.cell? ⟨b7, 3, none⟩ = some (.slice ao q.od.length co) ∧ w'.cell? ⟨b7, 4, none⟩ = some (.int .i64 q.lim) := fun n S g1 => ⟨S.cell n g1 rfl, S.cell n g1 rfl, S.cell n g1 rfl, S.cell n g1 rfl, S.cell n g1 rfl⟩
    have fst : ∀ {w'} {a' c'} {g : Bool} {k : Nat → World → Prop}, g = gathersQ q → ST w w' [colsI a' c' cs, Z, quI b7 q ai aw ag ao ci cw cg co] → (∀ bq bp w', ST w w' [plnI bp ⟨cs, q, [], gathersQ q⟩ a' c' ai ci aw cw ag cg ao co none 0, ptrI bq bp ty.P_plan_planner, colsI a' c' cs, Z, quI b7 q ai aw ag ao ci cw cg co] → k bq w') →
        NEWB #[.slice a' cs.length c', .slice ai q.it.length ci, .slice aw q.wh.length cw, .slice ag q.gr.length cg, .slice ao q.od.length co, .int .i64 q.lim, .slice none 0 0, .bool g] ty.plan_planner (fun bp w => NEWB #[.pointer none] ty.P_plan_planner (fun bq w => STO ⟨bq, 0, none⟩ (.pointer (some ⟨bp, 0, none⟩)) (fun w => k bq w) w) w) w' := fun hg S hk => by
      subst hg
      exact S.newB fun bp w1 _ _ S1 => S1.newB fun bq w2 _ _ S2 => S2.sto 0 rfl (cs' := #[.pointer (some ⟨bp, 0, none⟩)]) (by simp) rfl fun w3 S3 => hk bq bp w3 (S3.pull 1 rfl)
    have snd : ∀ {w'} {a' c'} {g : Bool} {bq : Nat} {k : World → Prop}, g = gathersQ q → ST w w' [colsI a' c' cs, It.cells bq #[.pointer none] ty.P_plan_planner, Z, quI b7 q ai aw ag ao ci cw cg co] → (∀ bp w', ST w w' [plnI bp ⟨cs, q, [], gathersQ q⟩ a' c' ai ci aw cw ag cg ao co none 0, ptrI bq bp ty.P_plan_planner, colsI a' c' cs, Z, quI b7 q ai aw ag ao ci cw cg co] → k w') →
        NEWB #[.slice a' cs.length c', .slice ai q.it.length ci, .slice aw q.wh.length cw, .slice ag q.gr.length cg, .slice ao q.od.length co, .int .i64 q.lim, .slice none 0 0, .bool g] ty.plan_planner (fun bp w => STO ⟨bq, 0, none⟩ (.pointer (some ⟨bp, 0, none⟩)) (fun w => k w) w) w' := fun hg S hk => by
      subst hg
      exact S.newB fun bp w1 _ _ S1 => S1.sto 2 rfl (cs' := #[.pointer (some ⟨bp, 0, none⟩)]) (by simp) rfl fun w3 S3 => hk bp w3 ((S3.pull 2 rfl).pull 1 rfl)
    refine stQ S 1 rfl ⟨(clone_cols_ok S (hl.grown S.bel) (by omega)).mono ?_, S.newB fun b58 w36 _ _ S36 => ⟨five 2 S36 rfl, (clone_cols_ok S36 (hl.grown S36.bel) (by omega)).mono ?_⟩⟩
    · rintro _ w23 ⟨_, rfl, a', c', rfl, S23⟩
      refine ⟨_, _, _, rfl, five 2 S23 rfl, IFB_of (fun h => ⟨fst (hg1 h) S23 fun bq bp w' S' => ⟨bq, bp, a', c', rfl, S'⟩, S23.newB fun b51 w27 _ _ S27 => ⟨five 3 S27 rfl, snd (hg1 h) (S27.pull 1 rfl) fun bp w' S' => ⟨_, bp, a', c', rfl, S'⟩⟩⟩) (fun h => ⟨_, _, _, S23.cell 2 rfl rfl, fst (hg2 h) S23 fun bq bp w' S' => ⟨bq, bp, a', c', rfl, S'⟩, S23.newB fun b51 w27 _ _ S27 => ⟨S27.cell 3 rfl rfl, five 3 S27 rfl, snd (hg2 h) (S27.pull 1 rfl) fun bp w' S' => ⟨_, bp, a', c', rfl, S'⟩⟩⟩)⟩
    · rintro _ w37 ⟨_, rfl, a', c', rfl, S37⟩
      refine ⟨_, _, _, rfl, five 3 S37 rfl, IFB_of (fun h => snd (hg1 h) S37 fun bp w' S' => ⟨_, bp, a', c', rfl, S'⟩) (fun h => ⟨_, _, _, S37.cell 3 rfl rfl, snd (hg2 h) S37 fun bp w' S' => ⟨_, bp, a', c', rfl, S'⟩⟩)⟩
  rintro pp w42 ⟨bq, bp, a', c', hst, S42⟩
  obtain rfl : pp = some ⟨bq, 0, none⟩ := by simpa using hst
  refine S42.newB fun b66 w43 _ _ S43 => S43.sto 0 rfl (cs' := #[.int .i64 0]) (by simp) rfl fun w44 S44 => ?_
  refine ⟨fun _ ms w' => ∃ m e out a6 c6, ms = [m] ∧ ((e = 0 ∧ runP cs q (prts q) = .ok out) ∨ (e ≠ 0 ∧ runP cs q (prts q) = .error e)) ∧ ST w w' [plnI bp ⟨cs, q, out, gathersQ q⟩ a' c' ai ci aw cw ag cg ao co a6 c6, colsI a6 c6 out, intI1 b66 e ty.api_Errno, ptrI bq bp ty.P_plan_planner, colsI a' c' cs, It.obj m (.deferred (some [])), Z, quI b7 q ai aw ag ao ci cw cg co], ?_, ?_⟩
  · refine stQ S44 5 rfl (plan_parts_ok.mono ?_)
    rintro _ w45 ⟨_, rfl, bx, rfl, P45⟩
    have S45 := ((S44.nil ty.api_Column 3).join P45)
    refine ⟨_, _, _, rfl, by kernel_rfl, fun rr hst hpe hy => ?_⟩
    have S46 := S45.range rr
    obtain ⟨L, hL⟩ : ∃ L, L = w45.heap.size + 1 := ⟨_, rfl⟩
    obtain ⟨m, hm⟩ : ∃ m, m = w45.heap.size := ⟨_, rfl⟩
    rw [← hL] at S46 hy ⊢
    rw [← hm] at S46 ⊢
    have S47 : ST w ((w45.alloc (.deferred (some []))).alloc (.loop rr)) (quI bx q ai aw ag ao ci cw cg co :: ([It.obj m (.deferred (some [])), Z, quI b7 q ai aw ag ao ci cw cg co] ++ [plnI bp ⟨cs, q, [], gathersQ q⟩ a' c' ai ci aw cw ag cg ao co none 0, colsI none 0 [], It.obj L (.loop rr), intI1 b66 0 ty.api_Errno, ptrI bq bp ty.P_plan_planner, colsI a' c' cs])) := by
      exact (((((((((S46.pull 7 rfl).pull 7 rfl).pull 6 rfl).pull 3 rfl).pull 6 rfl).pull 7 rfl).pull 9 rfl).pull 9 rfl).pull 8 rfl).pull 9 rfl
    refine (parts_c1_ok (I := fun done B => ∃ out a6 c6, runP cs q done = .ok out ∧ B = [plnI bp ⟨cs, q, out, gathersQ q⟩ a' c' ai ci aw cw ag cg ao co a6 c6, colsI a6 c6 out, It.obj L (.loop rr), intI1 b66 0 ty.api_Errno, ptrI bq bp ty.P_plan_planner, colsI a' c' cs])
      (J := fun B => ∃ e out a6 c6, e ≠ 0 ∧ runP cs q (prts q) = .error e ∧ B = [plnI bp ⟨cs, q, out, gathersQ q⟩ a' c' ai ci aw cw ag cg ao co a6 c6, colsI a6 c6 out, It.obj L (.loop { rr with state := .done, pending := some (.exit 1) }), intI1 b66 e ty.api_Errno, ptrI bq bp ty.P_plan_planner, colsI a' c' cs]) ?_ Q ⟨[], none, 0, rfl, rfl⟩ S47).mono ?_
    · rintro done x rest vs HN _ w6 htot ⟨out, a6, c6, hrun, rfl⟩ S ⟨cs2, rfl, hx⟩
      obtain ⟨a4, cap4, _, rfl, _⟩ := ExC.open hx
      have S := ST.mid (B := []) [plnI bp ⟨cs, q, out, gathersQ q⟩ a' c' ai ci aw cw ag cg ao co a6 c6, colsI a6 c6 out, It.obj L (.loop rr), intI1 b66 0 ty.api_Errno, ptrI bq bp ty.P_plan_planner, colsI a' c' cs] S
      have hxm : x ∈ prts q := by rw [htot]; simp
      have hol : out.length ≤ 1000 := by
        have h1 := run_len hrun
        have h2 := prts_len (rightQ_small h2).1
        have := congrArg List.length htot
        simp only [List.length_append, List.length_cons] at this
        omega
      refine hy _ _ _ _ _ _ _ _ _ _ _ w6 (S.get 2 rfl) ?_
      refine S.lit8 fun b83 w55 _ S => S.begr 3 rfl fun w56 S => ⟨_, S.cell 5 rfl rfl, _, S.cell 0 rfl rfl, _, S.cell 0 rfl rfl, _, S.cell 0 rfl rfl, _, S.cell 0 rfl rfl, _, S.cell 0 rfl rfl, _, S.cell 0 rfl rfl, _, S.cell 0 rfl rfl, _, _, _, S.cell 0 rfl rfl, ?_⟩
      have S56 := (S.pull 2 rfl).pull 2 rfl
      refine (planner_check_ok E Q hci (S.rd 6 rfl) hn hq S56 hol hxm hx).mono ?_
      rintro _ w57 ⟨v, rfl, hv⟩
      have hbad : ∀ e, stepP cs q x = .error e → runP cs q (prts q) = .error e := fun e he => by rw [htot]; exact run_bad he hrun
      cases hst2 : stepP cs q x with
      | error e =>
        rw [hst2] at hv
        obtain ⟨rfl, S57⟩ := hv
        refine ⟨_, rfl, S57.sto 4 rfl (cs' := #[.int .i64 e]) (by simp) rfl fun w58 S58 => ⟨_, S58.cell 4 rfl rfl, IFB_ne (fun _ => S58.endr1 3 rfl fun w' S' => ⟨_, ST.unmid (B := []) [plnI bp ⟨cs, q, out, gathersQ q⟩ a' c' ai ci aw cw ag cg ao co a6 c6, colsI a6 c6 out, It.obj L (.loop { rr with state := .done, pending := some (.exit 1) }), intI1 b66 e ty.api_Errno, ptrI bq bp ty.P_plan_planner, colsI a' c' cs] ((S'.pull 2 rfl).drop 1), .inr ⟨rfl, e, out, a6, c6, step_err hst2, hbad e hst2, rfl⟩⟩) (fun h => absurd h (step_err hst2))⟩⟩
      | ok l =>
        rw [hst2] at hv
        obtain ⟨a5, c5, rfl, S57⟩ := hv
        refine ⟨_, rfl, S57.sto 4 rfl (cs' := #[.int .i64 0]) (by simp) rfl fun w58 S58 => ⟨_, S58.cell 4 rfl rfl, IFB_ne (fun h => absurd rfl h) (fun _ => S58.endr0 3 hst hpe rfl fun w' S' => ⟨_, ST.unmid (B := []) [plnI bp ⟨cs, q, out ++ l, gathersQ q⟩ a' c' ai ci aw cw ag cg ao co a5 c5, colsI a5 c5 (out ++ l), It.obj L (.loop rr), intI1 b66 0 ty.api_Errno, ptrI bq bp ty.P_plan_planner, colsI a' c' cs] ((S'.pull 2 rfl).drop 1), .inl ⟨rfl, out ++ l, a5, c5, run_snoc hst2 hrun, rfl⟩⟩)⟩⟩
    · rintro _ w59 ⟨_, rfl, B', S59, ⟨out, a6, c6, hrun, rfl⟩ | ⟨e, out, a6, c6, he, hrun, rfl⟩⟩
      · have S59 := ST.mid (B := []) [plnI bp ⟨cs, q, out, gathersQ q⟩ a' c' ai ci aw cw ag cg ao co a6 c6, colsI a6 c6 out, It.obj L (.loop rr), intI1 b66 0 ty.api_Errno, ptrI bq bp ty.P_plan_planner, colsI a' c' cs] S59
        exact ⟨⟨_, rfl⟩, S59.endl0 2 hst hpe rfl fun w60 S60 => .inl ⟨rfl, m, 0, out, a6, c6, rfl, .inl ⟨rfl, hrun⟩, (S60.pull 2 rfl).drop 1⟩⟩
      · have S59 := ST.mid (B := []) [plnI bp ⟨cs, q, out, gathersQ q⟩ a' c' ai ci aw cw ag cg ao co a6 c6, colsI a6 c6 out, It.obj L (.loop { rr with state := .done, pending := some (.exit 1) }), intI1 b66 e ty.api_Errno, ptrI bq bp ty.P_plan_planner, colsI a' c' cs] S59
        exact ⟨⟨_, rfl⟩, S59.endl1 2 rfl fun w60 S60 => .inr ⟨rfl, m, e, out, a6, c6, rfl, .inr ⟨he, hrun⟩, (S60.pull 2 rfl).drop 1⟩⟩
  rintro _ w61 ⟨m, e, out, a6, c6, rfl, hrun, S61⟩
  rw [run_make h1 h2] at hrun
  rw [hZ] at S61
  refine ⟨_, S61.cell 2 rfl rfl, IFB_ne (fun he => S61.draw fun w62 _ S62 => ⟨_, S62.cell 2 rfl rfl, S62.sto8 6 rfl fun w70 S70 => ⟨S70.cell 2 rfl rfl, ?_⟩⟩) (fun he => ⟨_, S61.cell 3 rfl rfl, _, _, _, S61.cell 0 rfl rfl, _, _, _, S61.cell 0 rfl rfl, _, _, _, S61.cell 0 rfl rfl, _, _, _, S61.cell 0 rfl rfl, _, _, _, S61.cell 0 rfl rfl, _, S61.cell 0 rfl rfl, _, _, _, S61.cell 0 rfl rfl, _, S61.cell 0 rfl rfl, S61.sto8 6 rfl fun w79 S79 => ?_⟩)⟩
  · refine ST.shut (ms := [m]) (S70.pull 5 rfl) fun w71 S71 => ⟨_, _, _, S71.cell 5 rfl rfl, _, _, _, S71.cell 5 rfl rfl, _, _, _, S71.cell 5 rfl rfl, _, _, _, S71.cell 5 rfl rfl, _, _, _, S71.cell 5 rfl rfl, _, S71.cell 5 rfl rfl, _, _, _, S71.cell 5 rfl rfl, _, S71.cell 5 rfl rfl, ?_⟩
    rcases hrun with ⟨h, _⟩ | ⟨_, h⟩
    · exact absurd h he
    · exact make_err h S71.bel
  · refine ST.shut (ms := [m]) (S79.pull 5 rfl) fun w71 S71 => ⟨_, _, _, S71.cell 5 rfl rfl, _, _, _, S71.cell 5 rfl rfl, _, _, _, S71.cell 5 rfl rfl, _, _, _, S71.cell 5 rfl rfl, _, _, _, S71.cell 5 rfl rfl, _, S71.cell 5 rfl rfl, _, _, _, S71.cell 5 rfl rfl, _, S71.cell 5 rfl rfl, ?_⟩
    rcases hrun with ⟨_, h⟩ | ⟨h, _⟩
    · have hp : planOf cs q = (⟨cs, q, out, gathersQ q⟩, 0) := by rw [planOf, h]
      unfold MakeV
      rw [hp]
      have hol := makeP_len h
      exact ⟨a', c', ai, ci, aw, cw, ag, cg, ao, co, a6, c6, rfl, ⟨S71.rd 4 rfl, hn, hq, Q.grown S71.bel, S71.rd 1 rfl, by show out.length ≤ _; omega⟩, hci, S71.bel⟩
    · exact absurd he h
end
theorem up_oneI {l m : List Int} (h1 : l.Pairwise (· < ·)) (h2 : m.Pairwise (· < ·)) (hm : ∀ x, x ∈ l ↔ x ∈ m) : l = m := by
  have n1 : l.Nodup := h1.imp fun h e => by omega
  have n2 : m.Nodup := h2.imp fun h e => by omega
  have hp : l.Perm m := (List.perm_ext_iff_of_nodup n1 n2).2 hm
  exact List.Perm.eq_of_pairwise (le := fun a b => a < b) (fun a b _ _ h1 h2 => absurd h2 (by omega)) h1 h2 hp
def Places (cs : List Col) (xs : List Ex) (l : List Int) : Prop := ∀ n : Int, n ∈ l ↔ ∃ c : Nat, n = c ∧ xs.any (ux cs c) = true
theorem places_needed {cs : List Col} {q : Qu} {l : List Int} (h : Places cs (partsQ q) l) : Lib.compact (l.mergeSort fun x y => decide (x ≤ y)) = (neededL cs q).map fun n : Nat => (n : Int) := by
  obtain ⟨h1, h2⟩ := compactI_up l
  refine up_oneI h1 ?_ fun x => ?_
  · rw [List.pairwise_map]
    exact (needed_up cs q).imp fun h => by omega
  · rw [h2, h x, List.mem_map]
    constructor
    · rintro ⟨c, rfl, hc⟩; exact ⟨c, needed_mem.2 hc, rfl⟩
    · rintro ⟨c, hc, rfl⟩; exact ⟨c, rfl, needed_mem.1 hc⟩
section
variable {w : World} {p : Pl} {a0 ai aw ag ao a6 : Option Addr} {c0 ci cw cg co c6 : Nat}
theorem plan_Needs_ok (E : Env w) (A : PlAt w p a0 ai aw ag ao a6) (hs : smallQ p.q = true) : Calls Tryz.prog f.plan_Needs #[.agg ⟨plL p a0 c0 ai ci aw cw ag cg ao co a6 c6⟩] w (Ret fun r w' => NeedsV p.cs p.q w w' r) := by
  apply R.plan_Needs_calls
  unfold R.plan_Needs
  refine (ST.start w).newB fun b9 w1 _ _ S1 => S1.newB fun b10 w2 _ _ S2 => ⟨_, _, _, S2.cell 1 rfl rfl, _, _, _, S2.cell 1 rfl rfl, _, _, _, S2.cell 1 rfl rfl, _, _, _, S2.cell 1 rfl rfl, _, S2.cell 1 rfl rfl, plan_parts_ok.mono ?_⟩
  rintro _ w3 ⟨_, rfl, bx, rfl, P3⟩
  have S3 : ST w w3 [quI bx p.q ai aw ag ao ci cw cg co, intsI none 0 [], It.cells b10 #[.slice none 0 0] ty.L_int, plI b9 p a0 c0 ai ci aw cw ag cg ao co a6 c6] := (S2.nil ty.int 1).join P3
  refine ⟨_, _, _, rfl, by kernel_rfl, fun rr hst hpe hy => ?_⟩
  have S4 := S3.range rr
  obtain ⟨L, hL⟩ : ∃ L, L = w3.heap.size + 1 := ⟨_, rfl⟩
  obtain ⟨m, hm⟩ : ∃ m, m = w3.heap.size := ⟨_, rfl⟩
  rw [← hL] at S4 hy ⊢
  rw [← hm] at S4 ⊢
  have S5 : ST w ((w3.alloc (.deferred (some []))).alloc (.loop rr)) (quI bx p.q ai aw ag ao ci cw cg co :: ([It.obj m (.deferred (some []))] ++ [intsI none 0 [], It.cells b10 #[.slice none 0 0] ty.L_int, It.obj L (.loop rr), plI b9 p a0 c0 ai ci aw cw ag cg ao co a6 c6])) :=
    (((((S4.pull 5 rfl).pull 1 rfl).pull 5 rfl).pull 5 rfl).pull 4 rfl).pull 5 rfl
  have hpl := prts_len hs
  obtain ⟨M, hM⟩ : ∃ M, M = 1000000 := ⟨_, rfl⟩
  refine (parts_c1_ok (I := fun done B => ∃ (l : List Int) (sa : Option Addr) (sc : Nat), Places p.cs (done.map (·.2.2)) l ∧ l.length ≤ done.length * M ∧ B = [intsI sa sc l, It.cells b10 #[.slice sa l.length sc] ty.L_int, It.obj L (.loop rr), plI b9 p a0 c0 ai ci aw cw ag cg ao co a6 c6]) (J := fun _ => False) ?_ A.q ⟨[], none, 0, ?_, by simp, rfl⟩ S5).mono ?_
  · rintro done x rest vs HN _ w4 htot ⟨l, sa, sc, hP, hll, rfl⟩ S ⟨cs2, rfl, hx⟩
    obtain ⟨a4, cap4, _, rfl, _⟩ := ExC.open hx
    have S := ST.mid (B := []) [intsI sa sc l, It.cells b10 #[.slice sa l.length sc] ty.L_int, It.obj L (.loop rr), plI b9 p a0 c0 ai ci aw cw ag cg ao co a6 c6] S
    have hdl : done.length ≤ 21 := by
      have := congrArg List.length htot
      simp only [List.length_append, List.length_cons] at this
      omega
    have hll2 : done.length * M ≤ 21000000 := by subst hM; omega
    refine hy _ _ _ _ _ _ _ _ _ _ _ w4 (S.get 2 rfl) ?_
    refine S.lit8 fun b27 w13 _ S => S.begr 3 rfl fun w14 S => ⟨_, S.cell 0 rfl rfl, _, S.cell 0 rfl rfl, _, S.cell 0 rfl rfl, _, S.cell 0 rfl rfl, _, S.cell 0 rfl rfl, _, _, _, S.cell 0 rfl rfl, (expr_Uses_st (E.grown S.bel) (hx.grown S.bel)).mono ?_⟩
    rintro _ w15 ⟨_, rfl, at_, ct, t, rfl, hrise, htn, P15⟩
    have S15 := S.join P15
    refine ⟨_, _, _, rfl, ?_⟩
    refine forUp t.length (fun k w16 => ∃ (l2 : List Int) (sa : Option Addr) (sc : Nat), (∀ n : Int, n ∈ l2 ↔ ∃ c : Nat, n = c ∧ ((done.map (·.2.2)).any (ux p.cs c) || (t.take k).any fun s => decide (findC p.cs s = some c)) = true) ∧ l2.length ≤ done.length * M + k ∧
      ST w w16 (strsI at_ ct t :: It.cells b27 ⟨.int .i64 x.1 :: .bool x.2.1 :: exHead x.2.2 a4 cap4⟩ ty.plan_part :: intsI sa sc l2 :: It.cells b10 #[.slice sa l2.length sc] ty.L_int :: It.obj L (.loop { rr with state := .busy }) :: plI b9 p a0 c0 ai ci aw cw ag cg ao co a6 c6 :: (HN ++ []))) (by omega) ⟨l, sa, sc, fun n => by rw [hP n]; simp, hll, S15⟩ fun I2 M2 k w16 hk h next => ?_
    obtain ⟨l2, sa2, sc2, hm2, hl2, S16⟩ := h
    refine IFB_dec (fun hlt => ⟨⟨by omega, hlt⟩, ?_⟩) (fun hge => ?_)
    · have hkl : k < t.length := by omega
      obtain ⟨ps, hps, hc⟩ := strs_at (S16.rd 0 rfl) hkl
      subst hps
      refine ⟨_, by rw [Int.toNat_natCast, Nat.mul_one]; exact hc, _, _, _, S16.cell 5 rfl rfl, (schema_Find_ok (A.cs.grown S16.bel) A.ncs _).mono ?_⟩
      rintro _ w17 ⟨_, rfl, rfl, B17⟩
      have S17 := S16.grown B17
      have hsnoc : ∀ j, ((t.take (k + 1)).any fun s => decide (findC p.cs s = some j)) = (((t.take k).any fun s => decide (findC p.cs s = some j)) || decide (findC p.cs t[k] = some j)) := fun j => by
        rw [List.take_succ_eq_append_getElem hkl, List.any_append]; simp
      refine ⟨_, rfl, ?_⟩
      cases hf : findC p.cs t[k] with
      | none =>
        refine IFB_dec (fun h => absurd h (by show ¬ ((-1 : Int) ≥ 0); omega)) (fun _ => next _ hkl ⟨l2, sa2, sc2, fun n => ?_, by omega, S17⟩)
        rw [hm2]
        simp only [hsnoc, hf]
        simp
      | some j0 =>
        refine IFB_dec (fun _ => ⟨_, _, _, S17.cell 3 rfl rfl, S17.newB fun b44 w18 _ B18 S18 => ?_⟩) (fun h => absurd (show ((j0 : Nat) : Int) ≥ 0 by omega) h)
        refine S18.app 3 rfl tInts rfl (by omega) (by omega) (S18.rdc 0 rfl) (mm := 1) rfl (by intro u hu; simp at hu; rw [hu]; rfl) (by omega) fun a' c' w19 S19 => ⟨_, _, _, rfl, S19.sto 4 rfl (cs' := #[.slice a' (l2.length + 1) c']) (by simp) rfl fun w20 S20 => next _ hkl ⟨l2 ++ [(j0 : Int)], a', c', fun n => ?_, by simp; omega, ?_⟩⟩
        · rw [List.mem_append, hm2, List.mem_singleton]
          simp only [hsnoc, hf, Bool.or_eq_true, decide_eq_true_eq, Option.some.injEq]
          constructor
          · rintro (⟨c, rfl, h | h⟩ | rfl)
            · exact ⟨c, rfl, .inl h⟩
            · exact ⟨c, rfl, .inr (.inl h)⟩
            · exact ⟨j0, rfl, .inr (.inr rfl)⟩
          · rintro ⟨c, rfl, h | h | h⟩
            · exact .inl ⟨c, rfl, .inl h⟩
            · exact .inl ⟨c, rfl, .inr h⟩
            · exact .inr (by rw [h])
        · have S21 := S20.drop 1
          have e : (l2 ++ [(j0 : Int)]).length = l2.length + 1 := by simp
          rw [e]
          unfold intsI
          rw [List.map_append, e]
          exact S21
    · refine S16.endr0 4 hst hpe rfl fun w' S' => ⟨_, ST.unmid (B := []) [intsI sa2 sc2 l2, It.cells b10 #[.slice sa2 l2.length sc2] ty.L_int, It.obj L (.loop rr), plI b9 p a0 c0 ai ci aw cw ag cg ao co a6 c6] (S'.drop 2), .inl ⟨rfl, l2, sa2, sc2, fun n => ?_, by rw [List.length_append, List.length_singleton, Nat.add_mul, Nat.one_mul]; omega, rfl⟩⟩
      rw [List.take_of_length_le (by omega)] at hm2
      rw [hm2]
      simp only [uses_any hrise, List.map_append, List.any_append, List.map_cons, List.map_nil, List.any_cons, List.any_nil, Bool.or_false]
      rfl
  · intro n
    simp
  · rintro _ w21 ⟨_, rfl, B', S21, ⟨l, sa, sc, hP, hll, rfl⟩ | h⟩
    rotate_left
    · cases h
    have hll2 : (prts p.q).length * M ≤ 21000000 := by subst hM; omega
    have S21 := ST.mid (B := []) [intsI sa sc l, It.cells b10 #[.slice sa l.length sc] ty.L_int, It.obj L (.loop rr), plI b9 p a0 c0 ai ci aw cw ag cg ao co a6 c6] S21
    refine ⟨⟨_, rfl⟩, S21.endl0 2 hst hpe rfl fun w22 S22 => ⟨rfl, _, _, _, S22.cell 1 rfl rfl, (sortI_ok S22 0 rfl (by omega)).mono ?_⟩⟩
    rintro _ w23 ⟨_, rfl, rfl, S23⟩
    have hsl : (l.mergeSort fun x y => decide (x ≤ y)).length = l.length := List.length_mergeSort ..
    refine ⟨rfl, _, _, _, S23.cell 1 rfl rfl, ?_⟩
    rw [← hsl]
    refine (compactI_ok S23 0 rfl (by omega)).mono ?_
    rintro _ w24 ⟨_, rfl, rfl, S24⟩
    have S25 := S24.put 4 rfl (.deferred none)
    rw [prts_x] at hP
    refine ⟨_, _, _, rfl, S24.get 4 rfl, sa, sc, ?_, ?_, S25.bel⟩
    · rw [places_needed hP, List.length_map]
    · rw [← places_needed hP]; exact S25.rd 0 rfl
end
def txt0 : ByteArray := ⟨#[115, 101, 108, 101, 99, 116, 32, 98, 32, 97, 115, 32, 107, 44, 32, 115, 117, 109, 40, 97, 41, 32, 97, 115, 32, 115, 32, 103, 114, 111, 117, 112, 32, 98, 121, 32, 98]⟩
def T0 : List Tk := [(0, 1, ⟨#[115, 101, 108, 101, 99, 116]⟩), (7, 1, ⟨#[98]⟩), (9, 1, ⟨#[97, 115]⟩), (12, 1, ⟨#[107]⟩), (13, 4, ⟨#[44]⟩), (15, 1, ⟨#[115, 117, 109]⟩), (18, 4, ⟨#[40]⟩), (19, 1, ⟨#[97]⟩), (20, 4, ⟨#[41]⟩), (22, 1, ⟨#[97, 115]⟩), (25, 1, ⟨#[115]⟩), (27, 1, ⟨#[103, 114, 111, 117, 112]⟩), (33, 1, ⟨#[98, 121]⟩), (36, 1, ⟨#[98]⟩), (37, 0, ⟨#[]⟩)]
theorem toks0 : toksF (txt0.size + 1) (bl txt0) 0 = .ok T0 := by kernel_rfl
def i1 : Itm := (⟨#[107]⟩, 0, colX ⟨#[98]⟩)
def i2 : Itm := (⟨#[115]⟩, 3, colX ⟨#[97]⟩)
def Q0 : Qu := ⟨[i1, i2], [], [colX ⟨#[98]⟩], [], -1⟩
theorem lone1 : Lone T0 1 := ⟨by decide, fun _ => ⟨rfl, show isKeyB ⟨#[98]⟩ = false by decide⟩, fun _ => show ∀ s ∈ headW, seesB (7, 1, ⟨#[98]⟩) s = false by decide, by decide⟩
theorem lone7 : Lone T0 7 := ⟨by decide, fun _ => ⟨rfl, show isKeyB ⟨#[97]⟩ = false by decide⟩, fun _ => show ∀ s ∈ headW, seesB (19, 1, ⟨#[97]⟩) s = false by decide, by decide⟩
theorem lone13 : Lone T0 13 := ⟨by decide, fun _ => ⟨rfl, show isKeyB ⟨#[98]⟩ = false by decide⟩, fun _ => show ∀ s ∈ headW, seesB (36, 1, ⟨#[98]⟩) s = false by decide, by decide⟩
def zIt : Value := .agg #[.string ⟨#[]⟩, .int .i64 0, .int .i64 0, .string ⟨#[]⟩, .int .i64 0, .int .i64 0, .string ⟨#[]⟩, .slice none 0 0]
theorem tItems : slT Tryz.prog ty.L_api_Item = some (ty.api_Item, 8, 104, zIt) := by kernel_rfl
theorem it_one (i : Itm) (a : Option Addr) (cap : Nat) : ∀ u ∈ itHead i a cap, u.oneCell' = true := by
  intro u hu
  simp only [itHead, exHead, List.mem_cons, List.not_mem_nil, or_false] at hu
  rcases hu with rfl | rfl | rfl | rfl | rfl | rfl | rfl | rfl <;> rfl
theorem ex_one (x : Ex) (a : Option Addr) (cap : Nat) : ∀ u ∈ exHead x a cap, u.oneCell' = true := by
  intro u hu
  simp only [exHead, List.mem_cons, List.not_mem_nil, or_false] at hu
  rcases hu with rfl | rfl | rfl | rfl | rfl | rfl <;> rfl
abbrev qb (b : Nat) (ai : Option Addr) (ni ci : Nat) (ag : Option Addr) (ng cg : Nat) : It := It.cells b #[.slice ai ni ci, .slice none 0 0, .slice ag ng cg, .slice none 0 0, .int .i64 (-1)] ty.api_Query
abbrev zqb (b : Nat) : It := It.cells b #[.slice none 0 0, .slice none 0 0, .slice none 0 0, .slice none 0 0, .int .i64 0] ty.api_Query
abbrev itemsI (a : Option Addr) (n c : Nat) (rs : List Value) : It := It.row ty.api_Item 8 a n c rs
abbrev qK (b2 b3 : Nat) (ai : Option Addr) (ni ci : Nat) (rs : List Value) (ag : Option Addr) (ng cg : Nat) (gs : List Value) (H : List It) : List It := exsI ag ng cg gs :: itemsI ai ni ci rs :: qb b3 ai ni ci ag ng cg :: zqb b2 :: H
section
variable {w0 w : World} {H : List It} {b : Nat} {a : Option Addr} {c : Nat}
theorem rquery0 (S : ST w0 w (rpL b a c 0 T0 H)) : Calls Tryz.prog f.ref11_parser_query #[.pointer (some ⟨b, 0, none⟩)] w (Ret fun r w' => ∃ ai ci ag cg, r = .agg ⟨quL Q0 ai none ag none ci 0 cg 0⟩ ∧
    ST w0 w' (rpL b a c 14 T0 (exsI ag 1 cg (exHead (colX ⟨#[98]⟩) none 0) :: itemsI ai 2 ci (itHead i1 none 0 ++ itHead i2 none 0) :: H))) := by
  apply R.ref11_parser_query_calls
  unfold R.ref11_parser_query
  have hT : T0.length ≤ 1000000 := by decide
  refine S.newB fun b2 w1 _ _ S1 => S1.newB fun b3 w2 _ _ S2 => ?_
  refine S2.sto 0 rfl (cs' := #[.slice none 0 0, .slice none 0 0, .slice none 0 0, .slice none 0 0, .int .i64 0]) (by simp) rfl fun w3 S3 => S3.sto 0 rfl (cs' := #[.slice none 0 0, .slice none 0 0, .slice none 0 0, .slice none 0 0, .int .i64 0]) (by simp) rfl fun w4 S4 => S4.sto 0 rfl (cs' := #[.slice none 0 0, .slice none 0 0, .slice none 0 0, .slice none 0 0, .int .i64 0]) (by simp) rfl fun w5 S5 =>
    S5.sto 0 rfl (cs' := #[.slice none 0 0, .slice none 0 0, .slice none 0 0, .slice none 0 0, .int .i64 0]) (by simp) rfl fun w6 S6 => S6.sto 0 rfl (cs' := #[.slice none 0 0, .slice none 0 0, .slice none 0 0, .slice none 0 0, .int .i64 (-1)]) (by simp) rfl fun w7 S7 => ?_
  have S7 : ST w0 w7 (rpL b a c 0 T0 (qK b2 b3 none 0 0 [] none 0 0 [] H)) := (((S7.nil ty.api_Item 8).nil ty.api_Expr 6).pull 5 rfl).pull 5 rfl
  refine rneedsY S7 (by decide) hT (by decide) fun w8 S8 => ⟨rfl, S8.draw fun w9 _ S9 => ⟨_, _, _, S9.cell 4 rfl rfl, (ritem_plain hT lone1 (by decide) (by decide) (by decide) S9).mono ?_⟩⟩
  rintro _ w10 ⟨_, rfl, rfl, S10⟩
  refine ⟨_, _, _, _, _, _, _, _, _, _, rfl, S10.cell 4 rfl rfl, S10.newB fun b15 w11 _ _ S11 => ⟨S11.cell 5 rfl rfl, ?_⟩⟩
  refine S11.app 4 rfl tItems rfl (by omega) (by omega) (S11.rdc 0 rfl) (mm := 1) rfl (it_one i1 none 0) (by omega) fun a1 c1 w12 S12 => ⟨_, _, _, rfl, S12.sto 5 rfl (cs' := #[.slice a1 1 c1, .slice none 0 0, .slice none 0 0, .slice none 0 0, .int .i64 (-1)]) (by simp) rfl fun w13 S13 => ?_⟩
  have S13 : ST w0 w13 (rpL b a c 4 T0 (qK b2 b3 a1 1 c1 (itHead i1 none 0) none 0 0 [] H)) := S13.drop 1
  refine rtakesY S13 (by decide) hT (by decide) fun w14 S14 => ⟨_, rfl, fun st w => (st = [.bool true] ∧ ∃ ai ci, ST w0 w (rpL b a c 5 T0 (qK b2 b3 ai 1 ci (itHead i1 none 0) none 0 0 [] H))) ∨ (st = [.bool false] ∧ ∃ ai ci, ST w0 w (rpL b a c 11 T0 (qK b2 b3 ai 2 ci (itHead i1 none 0 ++ itHead i2 none 0) none 0 0 [] H))),
    fun st _ => match st with | [.bool true] => 1 | _ => 0, .inl ⟨rfl, a1, c1, S14⟩, ?_⟩
  rintro more w15 (⟨hst, ai, ci, S15⟩ | ⟨hst, ai, ci, S15⟩)
  · cases hst
    refine IFB_true (S15.draw fun w16 _ S16 => ⟨_, _, _, S16.cell 4 rfl rfl, (ritem_sum (i := 5) hT (by decide) (by decide) (by decide) (by decide) lone7 (by decide) (by decide) (by decide) S16).mono ?_⟩)
    rintro _ w17 ⟨_, rfl, rfl, S17⟩
    refine ⟨_, _, _, _, _, _, _, _, _, _, rfl, S17.cell 4 rfl rfl, S17.newB fun b32 w18 _ _ S18 => ⟨S18.cell 5 rfl rfl, ?_⟩⟩
    refine S18.app 4 rfl tItems rfl (by omega) (by omega) (S18.rdc 0 rfl) (mm := 1) rfl (it_one i2 none 0) (by omega) fun a2 c2 w19 S19 => ⟨_, _, _, rfl, S19.sto 5 rfl (cs' := #[.slice a2 2 c2, .slice none 0 0, .slice none 0 0, .slice none 0 0, .int .i64 (-1)]) (by simp) rfl fun w20 S20 => ?_⟩
    have S20 : ST w0 w20 (rpL b a c 11 T0 (qK b2 b3 a2 2 c2 (itHead i1 none 0 ++ itHead i2 none 0) none 0 0 [] H)) := S20.drop 1
    exact rtakesN S20 (by decide) hT (by decide) fun w21 S21 => ⟨_, rfl, .inr ⟨rfl, a2, c2, S21⟩, show 0 < 1 by decide⟩
  cases hst
  refine IFB_false (rtakesN S15 (by decide) hT (by decide) fun w22 S22 => ⟨_, rfl, fun _ w => ST w0 w (rpL b a c 11 T0 (qK b2 b3 ai 2 ci (itHead i1 none 0 ++ itHead i2 none 0) none 0 0 [] H)), IFB_false S22, fun w28 S28 => rtakesY S28 (by decide) hT (by decide) fun w29 S29 => ⟨_, rfl, fun _ w => ST w0 w (rpL b a c 13 T0 (qK b2 b3 ai 2 ci (itHead i1 none 0 ++ itHead i2 none 0) none 0 0 [] H)), IFB_true (rneedsY S29 (by decide) hT (by decide) fun w30 S30 => ⟨rfl, S30⟩), fun w31 S31 => ?_⟩⟩)
  refine ⟨fun st w => (st = [.bool true] ∧ ST w0 w (rpL b a c 13 T0 (qK b2 b3 ai 2 ci (itHead i1 none 0 ++ itHead i2 none 0) none 0 0 [] H))) ∨ (st = [.bool false] ∧ ∃ ag cg, ST w0 w (rpL b a c 14 T0 (qK b2 b3 ai 2 ci (itHead i1 none 0 ++ itHead i2 none 0) ag 1 cg (exHead (colX ⟨#[98]⟩) none 0) H))),
    fun st _ => match st with | [.bool true] => 1 | _ => 0, .inl ⟨rfl, S31⟩, ?_⟩
  rintro more w32 (⟨hst, S32⟩ | ⟨hst, ag, cg, S32⟩)
  · cases hst
    refine IFB_true (S32.draw fun w33 _ S33 => ⟨_, _, _, S33.cell 4 rfl rfl, (ror_ok hT lone13 S33).mono ?_⟩)
    rintro _ w34 ⟨_, rfl, rfl, S34⟩
    refine ⟨_, _, _, _, _, _, _, _, rfl, S34.cell 4 rfl rfl, S34.newB fun b65 w35 _ _ S35 => ⟨S35.cell 5 rfl rfl, ?_⟩⟩
    refine S35.app 3 rfl tExs rfl (by omega) (by omega) (S35.rdc 0 rfl) (mm := 1) rfl (ex_one (colX ⟨#[98]⟩) none 0) (by omega) fun a2 c2 w36 S36 => ⟨_, _, _, rfl, S36.sto 5 rfl (cs' := #[.slice ai 2 ci, .slice none 0 0, .slice a2 1 c2, .slice none 0 0, .int .i64 (-1)]) (by simp) rfl fun w37 S37 => ?_⟩
    have S37 : ST w0 w37 (rpL b a c 14 T0 (qK b2 b3 ai 2 ci (itHead i1 none 0 ++ itHead i2 none 0) a2 1 c2 (exHead (colX ⟨#[98]⟩) none 0) H)) := S37.drop 1
    exact rtakesN S37 (by decide) hT (by decide) fun w38 S38 => ⟨_, rfl, .inr ⟨rfl, a2, c2, S38⟩, show 0 < 1 by decide⟩
  cases hst
  obtain ⟨K, hK⟩ : ∃ K, K = rpL b a c 14 T0 (qK b2 b3 ai 2 ci (itHead i1 none 0 ++ itHead i2 none 0) ag 1 cg (exHead (colX ⟨#[98]⟩) none 0) H) := ⟨_, rfl⟩
  refine IFB_false (rtakesN S32 (by decide) hT (by decide) fun w39 S39 => ⟨_, rfl, fun _ w => ST w0 w K, IFB_false (by rw [hK]; exact S39), fun w41 S41 => ⟨fun st w => st = [.bool false] ∧ ST w0 w K, fun _ _ => 0, ⟨rfl, S41⟩, ?_⟩⟩)
  rintro _ w42 ⟨hst, S42⟩
  cases hst
  rw [hK] at S42
  refine IFB_false (rtakesN S42 (by decide) hT (by decide) fun w65 S65 => ⟨_, rfl, fun _ w => ST w0 w K, ⟨fun st w => st = [.bool false] ∧ ST w0 w K, S65.draw fun w66 _ S66 => IFB_false ⟨rfl, by rw [hK]; exact S66⟩, ?_⟩, ?_⟩)
  · rintro _ w67 ⟨hst, S67⟩
    cases hst
    exact IFB_false (IFB_false S67)
  · intro w92 S92
    rw [hK] at S92
    refine S92.draw fun w93 _ S93 => ⟨_, S93.cell 0 rfl rfl, IFB_true ?_⟩
    obtain ⟨p, hp, c0, c1, c2⟩ := tk_at (show Rd w93 a (tksL T0) from S93.get 1 rfl) (show 14 < T0.length by decide)
    subst hp
    refine ⟨_, _, _, S93.cell 0 rfl rfl, _, S93.cell 0 rfl rfl, ⟨by omega, by decide⟩, _, c1, PTR_i (S93.sto 0 rfl (i := 2) (cs' := #[.slice (some p) T0.length c, .int .i64 ((14 : Nat) : Int), .bool true]) (by simp) rfl fun w94 S94 => ⟨_, _, _, S94.cell 4 rfl rfl, _, _, _, S94.cell 4 rfl rfl, _, _, _, S94.cell 4 rfl rfl, _, _, _, S94.cell 4 rfl rfl, _, S94.cell 4 rfl rfl, ?_⟩)⟩
    refine S94.sto 5 rfl (cs' := #[.slice ai 2 ci, .slice none 0 0, .slice none 0 0, .slice none 0 0, .int .i64 0]) (by simp) rfl fun w95 S95 => S95.sto 5 rfl (cs' := #[.slice ai 2 ci, .slice none 0 0, .slice none 0 0, .slice none 0 0, .int .i64 0]) (by simp) rfl fun w96 S96 => S96.sto 5 rfl (cs' := #[.slice ai 2 ci, .slice none 0 0, .slice ag 1 cg, .slice none 0 0, .int .i64 0]) (by simp) rfl fun w97 S97 =>
      S97.sto 5 rfl (cs' := #[.slice ai 2 ci, .slice none 0 0, .slice ag 1 cg, .slice none 0 0, .int .i64 0]) (by simp) rfl fun w98 S98 => S98.sto 5 rfl (cs' := #[.slice ai 2 ci, .slice none 0 0, .slice ag 1 cg, .slice none 0 0, .int .i64 (-1)]) (by simp) rfl fun w99 S99 => ⟨_, _, _, S99.cell 5 rfl rfl, _, _, _, S99.cell 5 rfl rfl, _, _, _, S99.cell 5 rfl rfl, _, _, _, S99.cell 5 rfl rfl, _, S99.cell 5 rfl rfl, ai, ci, ag, cg, rfl, ?_⟩
    exact (((S99.pull 4 rfl).drop 1).pull 4 rfl).drop 1
end
theorem colX_c (w : World) {s : ByteArray} (h : s.size ≤ maxLen) : XC w (colX s) (exHead (colX s) none 0) :=
  ExC.close (rs := []) (Rd.nil _ _) (by simp) (Nat.le_refl _) (by decide) (fun _ => rfl) ⟨⟨by show -9223372036854775808 ≤ (1 : Int); decide, by show (1 : Int) ≤ 9223372036854775807; decide⟩, h, ⟨by show -9223372036854775808 ≤ (0 : Int); decide, by show (0 : Int) ≤ 9223372036854775807; decide⟩, ⟨by show -9223372036854775808 ≤ (0 : Int); decide, by show (0 : Int) ≤ 9223372036854775807; decide⟩, by show (0 : Nat) ≤ maxLen; omega⟩ ExL.nil
section
variable {w : World}
theorem qat_Q0 {ai ag : Option Addr} (h1 : Rd w ai (itHead i1 none 0 ++ itHead i2 none 0)) (h2 : Rd w ag (exHead (colX ⟨#[98]⟩) none 0)) : QAt w Q0 ai none ag none where
  it := ⟨_, h1, RowsC.append (RowsC.one ⟨_, rfl, colX_c w (by show 1 ≤ maxLen; decide), by show 1 ≤ maxLen; decide, by show i64 0; decide⟩) (RowsC.one ⟨_, rfl, colX_c w (by show 1 ≤ maxLen; decide), by show 1 ≤ maxLen; decide, by show i64 3; decide⟩)⟩
  wh := ⟨[], Rd.nil _ _, rfl⟩
  gr := ⟨_, h2, RowsC.one (colX_c w (by show 1 ≤ maxLen; decide))⟩
  od := ⟨[], Rd.nil _ _, rfl⟩
  nit := by decide
  nwh := by decide
  ngr := by decide
  nod := by decide
  lim := by decide
theorem right_Q0 : rightQ Q0 = true := by kernel_rfl
theorem rparse0 : Calls Tryz.prog f.ref11_Parse #[.string txt0] w (Ret fun v w' => ∃ ai ci ag cg, v = .tuple #[.agg ⟨quL Q0 ai none ag none ci 0 cg 0⟩, .int .i64 0, .int .i64 0] ∧ QAt w' Q0 ai none ag none ∧ 2 ≤ ci ∧ Below w.heap.size w w') := by
  apply R.ref11_Parse_calls
  unfold R.ref11_Parse
  refine (ST.start w).newB fun b2 w1 _ _ S1 => IFB_dec (fun h => absurd h (by decide)) (fun _ => (ref11_Tokens_ok (by decide)).mono ?_)
  rintro _ w7 ⟨v, rfl, hv⟩
  unfold ToksV at hv
  rw [toks0] at hv
  obtain ⟨a, c, rfl, P7⟩ := hv
  have S7 := S1.join P7
  refine ⟨_, _, _, _, _, rfl, IFB_not (IFB_true (S7.newB fun b17 w13 _ _ S13 => ?_))⟩
  have S14 : ST w w13 (rpL b17 a c 0 T0 [zqb b2]) := S13.toRd 1 rfl
  refine (rquery0 S14).mono ?_
  rintro _ w14 ⟨_, rfl, ai, ci, ag, cg, rfl, S15⟩
  refine ⟨_, _, _, _, _, _, _, _, _, _, _, _, _, rfl, S15.newB fun b24 w15 _ _ S16 => S16.sto5 0 rfl fun w20 S20 => ⟨_, S20.cell 1 rfl rfl, IFB_not (IFB_true ?_)⟩⟩
  have S20 : ST w w20 (quI b24 Q0 ai none ag none ci 0 cg 0 :: rpL b17 a c 14 T0 [exsI ag 1 cg (exHead (colX ⟨#[98]⟩) none 0), itemsI ai 2 ci (itHead i1 none 0 ++ itHead i2 none 0), zqb b2]) := S20
  have hQ : QAt w20 Q0 ai none ag none := qat_Q0 (S20.rd 4 rfl) (S20.rd 3 rfl)
  refine stQ S20 0 rfl (S20.call (ref11_Right_ok hQ) fun w27 _ S27 => ⟨_, rfl, IFB_not (IFB_yes right_Q0 (stQ S27 0 rfl (S27.sto5 5 rfl fun w37 S37 => ⟨_, _, _, S37.cell 5 rfl rfl, _, _, _, S37.cell 5 rfl rfl, _, _, _, S37.cell 5 rfl rfl, _, _, _, S37.cell 5 rfl rfl, _, S37.cell 5 rfl rfl, ai, ci, ag, cg, rfl, qat_Q0 (S37.rd 4 rfl) (S37.rd 3 rfl), (S37.rw 4 rfl).le, S37.bel⟩)))⟩)
/-! ### a query that sums gathers -/
def cs0 : List Col := [(⟨#[97]⟩, 1, false), (⟨#[98]⟩, 3, true)]
def out0 : List Col := [(⟨#[107]⟩, 3, true), (⟨#[115]⟩, 1, true)]
theorem plan0 : planOf cs0 Q0 = (⟨cs0, Q0, out0, true⟩, 0) := by kernel_rfl
theorem need0 : (neededL cs0 Q0).length = 2 := by kernel_rfl
theorem law12_shown_ok (E : Env w) : Calls Tryz.prog f.law12_shown #[] w (Ret fun r w' => r = .bool true ∧ Below w.heap.size w w') := by
  apply R.law12_shown_calls
  unfold R.law12_shown
  refine rparse0.mono ?_
  rintro _ w1 ⟨_, rfl, ai, ci, ag, cg, rfl, hQ, hci, B1⟩
  have E1 := E.grown B1
  refine ⟨_, _, _, _, _, _, _, _, _, _, _, _, _, _, _, rfl, (ST.start w1).newB fun b9 w2 _ B2 S2 => S2.sto5 0 rfl fun w7 S7 => S7.newB fun b10 w8 _ _ S8 => ?_⟩
  have S8 : ST w1 w8 [It.cells b10 ⟨colsL cs0⟩ ty.api_Column, quI b9 Q0 ai none ag none ci 0 cg 0] := S8
  refine stQ S8 1 rfl ((plan_Make_ok (E1.grown S8.bel) (cs := cs0) (S8.rdc 0 rfl) (by decide) (by decide) (hQ.grown S8.bel) hci).mono ?_)
  rintro _ w9 ⟨_, rfl, a0, c0, bi, di, bw, dw, bg, dg, bo, d_o, a6, c6, rfl, A, _, B9⟩
  rw [plan0] at A ⊢
  have hB : Below w.heap.size w w9 := below_j B1 (S8.grown B9).bel
  refine ⟨_, _, _, _, _, _, _, _, _, _, _, _, _, _, _, _, _, _, _, _, _, rfl, (ST.start w9).newB fun b26 w10 _ B10 S10 => S10.sto8 0 rfl fun w18 S18 => ?_⟩
  have S18 : ST w9 w18 [plI b26 ⟨cs0, Q0, out0, true⟩ a0 c0 bi di bw dw bg dg bo d_o a6 c6] := S18
  have A' := A.grown S18.bel
  obtain ⟨p, hp, x0, x1, x2⟩ := col_at A'.out (show 1 < out0.length by decide)
  subst hp
  refine IFB_eq (fun _ => ⟨_, S18.cell 0 rfl rfl, IFB_true ⟨_, _, _, S18.cell 0 rfl rfl, IFB_eq (fun _ => ⟨_, _, _, S18.cell 0 rfl rfl, ⟨by omega, by decide⟩, _, x0, _, x1, _, x2, IFB_yes (by decide) ?_⟩) (fun h => absurd rfl h)⟩⟩) (fun h => absurd rfl h)
  refine ⟨_, _, _, S18.cell 0 rfl rfl, _, _, _, S18.cell 0 rfl rfl, _, _, _, S18.cell 0 rfl rfl, _, _, _, S18.cell 0 rfl rfl, _, _, _, S18.cell 0 rfl rfl, _, S18.cell 0 rfl rfl, _, _, _, S18.cell 0 rfl rfl, _, S18.cell 0 rfl rfl, (plan_Needs_ok ((E.grown hB).grown S18.bel) A' (rightQ_small right_Q0).1).mono ?_⟩
  rintro _ w19 ⟨_, rfl, an, cn, rfl, hrd, B19⟩
  refine ⟨_, _, _, rfl, ?_, below_j hB (S18.grown B19).bel⟩
  rw [need0]
  rfl
end
end Go.Proofs.YtbpdfpfgijhokaaGreatDoor
