/-
  Texts of this claim, laid one behind the other by a program of mine (install.py): G.Ch14, G.Seg1, G.Seg2, Dn.Lit, G.Seg3, G.Seg4, G.Seg5, G.Seg6, G.Seg7, G.Seg8, G.Seg9, G.Seg10, G.Seg11, G.Seg12, G.SegEnv, G.Cp1, G.Cp2, G.Ct1, G.Seg13, G.Seg14, G.Seg15, G.SegArg, G.Seg16, G.Seg17, Dn.St2, Dn.St3, Dn.Ld, G.Ct2, G.ReadB, Dn.MapsP.
-/
import Derived.Test.YtpnaifmmggnimaaGreatDoorM6
import Derived.Test.YtpnaifmmggnimaaGreatDoorM1
import Derived.Test.YtpnaifmmggnimaaGreatDoorRows
import Derived.Test.YtpnaifmmggnimaaGreatDoorRead
import Derived.Maps.OwnSet
import Derived.Maps.Range
namespace Go.Proofs.YtpnaifmmggnimaaGreatDoor
set_option maxRecDepth 100000
open Go.Dn Go.Proofs
open Go.RowKit (Below)
set_option linter.unusedVariables false
section
variable {w : World} {a : Option Addr} {c : Nat} {l : List UInt8}
end
abbrev RowP := Option Addr × Nat × List Val
def rowV1 (p : RowP) : Value := .slice p.1 p.2.2.length p.2.1
abbrev rws (ps : List RowP) : List (List Val) := ps.map (·.2.2)
structure RowsAt (w : World) (a : Option Addr) (ps : List RowP) : Prop where
  top : Rd w a (ps.map rowV1)
  each : ∀ p ∈ ps, Rd w p.1 (valsL p.2.2)
theorem RowsAt.grown {w w' : World} {a : Option Addr} {ps : List RowP} (h : RowsAt w a ps) (B : Below w.heap.size w w') : RowsAt w' a ps := ⟨h.top.grown B, fun p hp => (h.each p hp).grown B⟩
theorem RowsAt.at {w : World} {a : Option Addr} {ps : List RowP} (h : RowsAt w a ps) {i : Nat} (hi : i < ps.length) : ∃ q, a = some q ∧ w.cell? (q.add (i * 1)) = some (.slice ps[i].1 ps[i].2.2.length ps[i].2.1) ∧ Rd w ps[i].1 (valsL ps[i].2.2) := by
  obtain ⟨q, hq, hc⟩ := h.top i (rowV1 ps[i]) (by simp [hi])
  exact ⟨q, hq, by rw [Nat.mul_one]; exact hc, h.each _ (List.getElem_mem hi)⟩
def colOf (rows : List (List Val)) (c : Nat) : List Val := rows.map fun r => r.getD c Z0
theorem colOf_len (rows : List (List Val)) (c : Nat) : (colOf rows c).length = rows.length := by simp [colOf]
theorem colOf_take (ps : List RowP) {c i : Nat} (hi : i < ps.length) (hc : c < ps[i].2.2.length) : colOf (rws (ps.take (i + 1))) c = colOf (rws (ps.take i)) c ++ [ps[i].2.2[c]] := by
  unfold colOf rws
  rw [List.take_succ_eq_append_getElem hi, List.map_append, List.map_append]
  simp only [List.map_cons, List.map_nil, List.getD, List.getElem?_eq_getElem hc, Option.getD_some]
def valsI (a : Option Addr) (c : Nat) (vs : List Val) : It := It.row ty.api_Value 3 a vs.length c (valsL vs)
section
variable {w0 w : World} {H : List It} {a : Option Addr} {c : Nat} {vs : List Val}
theorem stRdV (S : ST w0 w H) (n : Nat) (hn : H[n]? = some (valsI a c vs)) : Rd w a (valsL vs) := S.rd n hn
theorem stAppV (S : ST w0 w H) (n : Nat) {t : TypeId} (ht : slT Tryz.prog t = some (ty.api_Value, 3, 32, .agg #[.int .i64 0, .int .i64 0, .string ⟨#[]⟩])) (hn : H[n]? = some (valsI a c vs)) {x : Val} {b : Nat} (hs : Rd w (some ⟨b, 0, none⟩) (valC x)) (hl : vs.length + 1 ≤ 1000000) {f : Value → World → Prop}
    (hf : ∀ a' c' w', ST w0 w' (H.set n (valsI a' c' (vs ++ [x]))) → f (.slice a' (vs ++ [x]).length c') w') :
    OPR Tryz.prog (Builtin.append_ #[t, t] t #[.slice a vs.length c, .slice (some ⟨b, 0, none⟩) 1 1]) f w := by
  refine S.app n hn ht rfl (by omega) (by omega) hs (mm := 1) rfl (by simp [valC]; exact ⟨rfl, rfl, rfl⟩) (by omega) fun a' c' w' S' => ?_
  have e1 : (vs ++ [x]).length = vs.length + 1 := by simp
  have e2 : valsL vs ++ valC x = valsL (vs ++ [x]) := by simp [valsL]
  rw [e2] at S'
  have := hf a' c' w' (by unfold valsI; rw [e1]; exact S')
  rwa [e1] at this
end
section
variable {w : World} {a : Option Addr} {c : Nat} {ps : List RowP}
theorem ref09_Column_ok (hr : RowsAt w a ps) (hn : ps.length ≤ 900000) {k : Nat} (hk : ∀ p ∈ ps, k < p.2.2.length) :
    Calls Tryz.prog f.ref09_Column #[.slice a ps.length c, .int .i64 (k : Int)] w (Ret fun v w' => ∃ a' c', v = .slice a' (colOf (rws ps) k).length c' ∧ ST w w' [valsI a' c' (colOf (rws ps) k)]) := by
  apply R.ref09_Column_calls
  unfold R.ref09_Column
  refine ⟨fun s w1 => ∃ (i : Nat) (oa : Option Addr) (oc : Nat) (os : List Val), s = [.slice oa os.length oc, .int .i64 (i : Int)] ∧ i ≤ ps.length ∧ os = colOf (rws (ps.take i)) k ∧ ST w w1 [valsI oa oc os], fun s _ => match s with
      | [_, .int _ i] => ps.length - i.toNat
      | _ => 0, ⟨0, none, 0, [], rfl, by omega, rfl, (ST.start w).nil _ _⟩, ?_⟩
  rintro oa _ oc _ w1 ⟨i, _, _, os, hst, hi, ho, S⟩
  cases hst
  have hol : os.length = i := by rw [ho, colOf_len]; simp; omega
  refine IFB_dec (fun hlt => ⟨⟨by omega, hlt⟩, ?_⟩) (fun hge => ?_)
  · have hil : i < ps.length := by omega
    have hkl := hk _ (List.getElem_mem hil)
    obtain ⟨q, rfl, hq, hv⟩ := (hr.grown S.bel).at hil
    obtain ⟨p, hp, c0, c1, c2⟩ := val_at hv hkl
    refine ⟨_, _, _, by rw [Int.toNat_natCast]; exact hq, ⟨by omega, by omega⟩, ?_⟩
    rw [hp]
    refine ⟨_, by rw [Int.toNat_natCast]; exact c0, _, by rw [Int.toNat_natCast]; exact c1, _, by rw [Int.toNat_natCast]; exact c2, S.newB fun b12 w2 _ _ S => ?_⟩
    have hsrc : Rd w2 (some ⟨b12, 0, none⟩) (valC ps[i].2.2[k]) := S.rdc 0 rfl
    refine stAppV S 1 tVals rfl hsrc (by omega) fun a3 c3 w3 S => ⟨_, _, _, rfl, ?_⟩
    rw [wrap_succ (by omega)]
    refine ⟨⟨i + 1, a3, c3, _, rfl, by omega, by rw [colOf_take ps hil hkl, ho], S.drop 1⟩, ?_⟩
    show ps.length - ((i + 1 : Nat) : Int).toNat < ps.length - ((i : Nat) : Int).toNat
    simp only [Int.toNat_natCast]
    omega
  · rw [List.take_of_length_le (by omega)] at ho
    subst ho
    exact ⟨oa, oc, rfl, S⟩
theorem segment_byColumns_ok {a2 : Option Addr} {c2 n : Nat} : Calls Tryz.prog f.segment_byColumns #[.slice a2 n c2, .slice a ps.length c] w (Ret fun v w' => ∃ b1 b2, v = .func (.func f.segment_byColumns_c1) #[] #[.pointer (some ⟨b1, 0, none⟩), .pointer (some ⟨b2, 0, none⟩)] ∧
    ST w w' [It.cells b2 #[.slice a ps.length c] ty.L_api_Row, It.cells b1 #[.slice a2 n c2] ty.L_api_Column]) := by
  apply R.segment_byColumns_calls
  unfold R.segment_byColumns
  exact (ST.start w).newB fun b1 w1 _ _ S1 => S1.newB fun b2 w2 _ _ S2 => ⟨b1, b2, rfl, S2⟩
theorem byColumns_c1_ok {L b1 b2 n c2 : Nat} {a2 : Option Addr} (hn : n ≤ 9223372036854775807) (hm : ps.length ≤ 900000) (hk : ∀ p ∈ ps, p.2.2.length = n) (J : Nat → World → Prop) (hrd : ∀ k w, J k w → RowsAt w a ps ∧ w.cell? ⟨b2, 0, none⟩ = some (.slice a ps.length c))
    (hgrow : ∀ k w w', J k w → Below w.heap.size w w' → J k w') (hstep : ∀ k w la lc, k < n → J k w → Rd w la (valsL (colOf (rws ps) k)) → YLD Tryz.prog L #[.int .i64 (k : Int), .slice la ps.length lc] (fun y w' => y = true ∧ J (k + 1) w') w)
    (h0 : J 0 w) (hb : w.cell? ⟨b1, 0, none⟩ = some (.slice a2 n c2)) :
    Calls Tryz.prog f.segment_byColumns_c1 #[.func (.yield L) #[] #[], .pointer (some ⟨b1, 0, none⟩), .pointer (some ⟨b2, 0, none⟩)] w (Ret fun _ w' => J n w') := by
  apply R.segment_byColumns_c1_calls
  unfold R.segment_byColumns_c1
  refine ⟨_, _, _, hb, fun s w1 => ∃ k : Nat, k ≤ n ∧ s = [.int .i64 (k : Int)] ∧ J k w1, fun s _ => match s with
      | [.int _ i] => n - i.toNat
      | _ => 0, ⟨0, by omega, rfl, h0⟩, ?_⟩
  rintro _ w1 ⟨k, hkn, hst, hj⟩
  cases hst
  refine IFB_dec (fun hlt => ?_) (fun hge => ?_)
  · have hkl : k < n := by omega
    refine ⟨_, _, _, (hrd _ _ hj).2, ?_⟩
    refine ⟨fun s w2 => ∃ (i : Nat) (oa : Option Addr) (oc : Nat) (os : List Val), s = [.slice oa os.length oc, .int .i64 (i : Int)] ∧ i ≤ ps.length ∧ os = colOf (rws (ps.take i)) k ∧ ST w1 w2 [valsI oa oc os], fun s _ => match s with
      | [_, .int _ i] => ps.length - i.toNat
      | _ => 0, ⟨0, none, 0, [], rfl, by omega, rfl, (ST.start w1).nil _ _⟩, ?_⟩
    rintro oa _ oc _ w2 ⟨i, _, _, os, hst, hi, ho, S⟩
    cases hst
    have hol : os.length = i := by rw [ho, colOf_len]; simp; omega
    refine IFB_dec (fun hlt => ⟨⟨by omega, hlt⟩, ?_⟩) (fun hge => ?_)
    · have hil : i < ps.length := by omega
      have hkl' : k < ps[i].2.2.length := by rw [hk _ (List.getElem_mem hil)]; exact hkl
      obtain ⟨q, rfl, hq, hv⟩ := ((hrd _ _ hj).1.grown S.bel).at hil
      obtain ⟨p, hp, c0, c1, c2⟩ := val_at hv hkl'
      refine ⟨_, _, _, by rw [Int.toNat_natCast]; exact hq, ⟨by omega, by omega⟩, ?_⟩
      rw [hp]
      refine ⟨_, by rw [Int.toNat_natCast]; exact c0, _, by rw [Int.toNat_natCast]; exact c1, _, by rw [Int.toNat_natCast]; exact c2, S.newB fun b12 w2 _ _ S => ?_⟩
      have hsrc : Rd w2 (some ⟨b12, 0, none⟩) (valC ps[i].2.2[k]) := S.rdc 0 rfl
      refine stAppV S 1 tVals rfl hsrc (by omega) fun a3 c3 w3 S => ⟨_, _, _, rfl, ?_⟩
      rw [wrap_succ (by omega)]
      refine ⟨⟨i + 1, a3, c3, _, rfl, by omega, by rw [colOf_take ps hil hkl', ho], S.drop 1⟩, ?_⟩
      show ps.length - ((i + 1 : Nat) : Int).toNat < ps.length - ((i : Nat) : Int).toNat
      simp only [Int.toNat_natCast]
      omega
    · have hie : i = ps.length := by omega
      rw [List.take_of_length_le (by omega)] at ho
      subst ho
      rw [hol, hie, wrap_succ (by omega)]
      refine (hstep k w2 oa oc hkl (hgrow _ _ _ hj S.bel) (stRdV S 0 rfl)).mono ?_
      rintro y w3 ⟨rfl, h⟩
      refine IFB_false ⟨⟨k + 1, by omega, rfl, h⟩, ?_⟩
      show n - ((k + 1 : Nat) : Int).toNat < n - ((k : Nat) : Int).toNat
      simp only [Int.toNat_natCast]
      omega
  · have : k = n := by omega
    subst this
    exact hj
end
structure SegOk (cs : List Col) (rows : List (List Val)) : Prop where
  right : rightCols cs = true
  len : rows.length ≤ 1024
  fits : ∀ r ∈ rows, fitsB cs r = true
  ok : ∀ r ∈ rows, ∀ v ∈ r, ValOk v
section
variable {cs : List Col} {rows : List (List Val)}
theorem fits_len {r : List Val} (h : fitsB cs r = true) : r.length = cs.length := by
  simp only [fitsB, Bool.and_eq_true, decide_eq_true_eq] at h
  exact h.1
theorem fits_at {r : List Val} (h : fitsB cs r = true) {k : Nat} (h1 : k < cs.length) (h2 : k < r.length) : fitV cs[k] r[k] = true := by
  simp only [fitsB, Bool.and_eq_true, fitL, List.all_eq_true] at h
  exact h.2 (cs[k], r[k]) (List.mem_iff_getElem.2 ⟨k, by simp; omega, by simp⟩)
theorem SegOk.rowLen (h : SegOk cs rows) {r : List Val} (hr : r ∈ rows) : r.length = cs.length := fits_len (h.fits r hr)
theorem SegOk.good (h : SegOk cs rows) {k : Nat} (hk : k < cs.length) : Good1 cs[k].2.1 (colOf rows k) := by
  have key : ∀ v ∈ colOf rows k, okV cs[k].2.1 v = true ∧ ValOk v := by
    intro v hv
    obtain ⟨r, hr, rfl⟩ := List.mem_map.1 hv
    have hl := h.rowLen hr
    have hkr : k < r.length := by omega
    have e : r.getD k Z0 = r[k] := by simp [List.getD, hkr]
    rw [e]
    refine ⟨?_, h.ok r hr _ (List.getElem_mem hkr)⟩
    have := fits_at (h.fits r hr) hk hkr
    simp only [fitV, Bool.and_eq_true, Bool.or_eq_true, decide_eq_true_eq] at this
    simp only [okV, Bool.and_eq_true, Bool.or_eq_true, decide_eq_true_eq]
    exact ⟨this.1, this.2.imp id fun h => h.2⟩
  obtain ⟨_, h1, h2, _⟩ := right_col h.right (List.getElem_mem hk)
  refine ⟨?_, fun v hv => (key v hv).2⟩
  have h3 : (colOf rows k).all (okV cs[k].2.1) = true := List.all_eq_true.2 fun v hv => (key v hv).1
  have h4 : 1 ≤ cs[k].2.1 ∧ cs[k].2.1 ≤ 3 ∧ (colOf rows k).length ≤ 1024 := ⟨h1, h2, by rw [colOf_len]; exact h.len⟩
  simp [rightL, h3, h4]
end
theorem zmm_all {P : Val → Prop} {ls : List Val} (h0 : P Z0) (h : ∀ v ∈ ls, P v) : P (zmm ls).1 ∧ P (zmm ls).2 := by
  have key : ∀ i, i ≤ ls.length → ∀ p, zoneS (ls.take i) = some p → P p.1 ∧ P p.2 := by
    intro i
    induction i with
    | zero => intro _ p hp; simp [zoneS] at hp
    | succ i ih =>
      intro hi p hp
      have hil : i < ls.length := by omega
      have hm := h _ (List.getElem_mem hil)
      rw [zoneS_take hil] at hp
      unfold zstep at hp
      split at hp
      · exact ih (by omega) p hp
      · split at hp
        · cases hp; exact ⟨hm, hm⟩
        · rename_i q hq
          obtain ⟨q1, q2⟩ := ih (by omega) q hq
          cases hp
          refine ⟨?_, ?_⟩
          · show P (if _ then _ else _)
            split
            · exact hm
            · exact q1
          · show P (if _ then _ else _)
            split
            · exact hm
            · exact q2
  unfold zmm
  cases hz : zoneS ls with
  | none => exact ⟨h0, h0⟩
  | some p =>
    have := key ls.length (Nat.le_refl _) p (by rw [List.take_length]; exact hz)
    exact this
theorem Good1.rights {k : Int} {ls : List Val} (h : Good1 k ls) : ∀ v ∈ ls, rightB v = true ∧ ValOk v := by
  intro v hv
  have := h.all v hv
  simp only [okV, Bool.and_eq_true] at this
  exact ⟨this.1, h.ok v hv⟩
theorem Good1.zone {k : Int} {ls : List Val} (h : Good1 k ls) : (rightB (zmm ls).1 = true ∧ ValOk (zmm ls).1) ∧ (rightB (zmm ls).2 = true ∧ ValOk (zmm ls).2) :=
  zmm_all (P := fun v => rightB v = true ∧ ValOk v) ⟨by decide, valok_small (by decide) (by decide)⟩ h.rights
theorem Good1.zoneOk {k : Int} {ls : List Val} (h : Good1 k ls) : zoneOk ls := ⟨h.len, fun v hv => (h.rights v hv).1⟩
theorem layL_len {v : Val} (h : rightB v = true) (hv : ValOk v) : (layL v).length ≤ 1040 := by
  unfold layL
  split
  · have := digitsL_len10 (zigN_lt hv.lo hv.hi)
    simp only [List.length_cons]
    omega
  · split
    · simp
    · split
      · rename_i h3
        have hs : v.2.2.size ≤ 1024 := by
          rcases right_kind h with h | h | ⟨h, _⟩ | ⟨_, h⟩
          · omega
          · omega
          · omega
          · exact h
        have := textL_len hs
        simp only [List.length_cons]
        omega
      · simp
theorem ChIs.len {k : Int} {ls : List Val} {b : List UInt8} (hg : Good1 k ls) (h : ChIs k ls b) : b.length ≤ 2000300 := by
  obtain ⟨o, h1, h2, rfl⟩ := h.ex
  have hs : ∀ x, (sum4 x).length = 4 := fun x => rfl
  have e1 := headL_len hg
  have e2 := maskL_len hg
  have e3 : o.length ≤ 2000000 := by
    by_cases hn : nullsN ls < ls.length
    · exact (h1 hn).len hg
    · rw [h2 hn]; simp
  simp only [List.length_append, hs]
  omega
def lowB (n : Nat) : List UInt8 := [UInt8.ofNat (n % 256), UInt8.ofNat (n / 256 % 256), UInt8.ofNat (n / 65536 % 256), UInt8.ofNat (n / 16777216 % 256)]
def magicB : List UInt8 := [83, 89, 68, 49]
def footC (x : List UInt8) (l : List Val) : List UInt8 := digitsL x.length ++ digitsL (nullsN l) ++ layL (zmm l).1 ++ layL (zmm l).2
def footsL (rows : List (List Val)) (xs : List (List UInt8)) : List UInt8 := (xs.mapIdx fun i x => footC x (colOf rows i)).flatten
theorem footsL_snoc (rows : List (List Val)) (xs : List (List UInt8)) (x : List UInt8) : footsL rows (xs ++ [x]) = footsL rows xs ++ footC x (colOf rows xs.length) := by
  unfold footsL
  rw [List.mapIdx_concat]
  simp
def footL (cs : List Col) (rows : List (List Val)) (xs : List (List UInt8)) : List UInt8 := schL cs ++ digitsL rows.length ++ footsL rows xs
def preL (cs : List Col) (rows : List (List Val)) (xs : List (List UInt8)) : List UInt8 := magicB ++ xs.flatten ++ footL cs rows xs ++ lowB (footL cs rows xs).length
def sealD (p : List UInt8) : List UInt8 := p ++ digP p
structure ChsIs (cs : List Col) (rows : List (List Val)) (xs : List (List UInt8)) : Prop where
  len : xs.length ≤ cs.length
  each : ∀ i (h1 : i < cs.length) (h2 : i < xs.length), ChIs cs[i].2.1 (colOf rows i) xs[i]
theorem ChsIs.nil (cs : List Col) (rows : List (List Val)) : ChsIs cs rows [] := ⟨by simp, fun i _ h => by simp at h⟩
theorem ChsIs.snoc {cs : List Col} {rows : List (List Val)} {xs : List (List UInt8)} (h : ChsIs cs rows xs) {x : List UInt8} (h1 : xs.length < cs.length) (hx : ChIs cs[xs.length].2.1 (colOf rows xs.length) x) : ChsIs cs rows (xs ++ [x]) := by
  refine ⟨by simp; omega, fun i g1 g2 => ?_⟩
  rcases Nat.lt_or_ge i xs.length with h3 | h3
  · rw [List.getElem_append_left h3]
    exact h.each i g1 h3
  · have : i = xs.length := by simp at g2; omega
    subst this
    simp only [List.getElem_concat_length]
    exact hx
theorem flatten_le {xs : List (List UInt8)} {m : Nat} (h : ∀ x ∈ xs, x.length ≤ m) : xs.flatten.length ≤ xs.length * m := by
  induction xs with
  | nil => simp
  | cons x xs ih =>
    have h1 := h x (by simp)
    have h2 := ih fun y hy => h y (by simp [hy])
    simp only [List.flatten_cons, List.length_append, List.length_cons, Nat.add_mul]
    omega
theorem footC_len {k : Int} {x : List UInt8} {l : List Val} (hg : Good1 k l) (hx : x.length ≤ 2000300) : (footC x l).length ≤ 2100 := by
  have h1 := digitsL_len10 (n := x.length) (by omega)
  have h2 := digitsL_len10 (n := nullsN l) (by have := nullsN_le l; have := hg.len; omega)
  have h3 := layL_len hg.zone.1.1 hg.zone.1.2
  have h4 := layL_len hg.zone.2.1 hg.zone.2.2
  simp only [footC, List.length_append]
  omega
section
variable {cs : List Col} {rows : List (List Val)} {xs : List (List UInt8)}
theorem ChsIs.lens (h : ChsIs cs rows xs) (hs : SegOk cs rows) : ∀ x ∈ xs, x.length ≤ 2000300 := by
  intro x hx
  obtain ⟨i, hi, rfl⟩ := List.getElem_of_mem hx
  have := h.len
  exact (h.each i (by omega) hi).len (hs.good (by omega))
theorem ChsIs.flat (h : ChsIs cs rows xs) (hs : SegOk cs rows) : xs.flatten.length ≤ 33000000 := by
  have h1 := flatten_le (h.lens hs)
  have h2 := h.len
  have h3 := right_len hs.right
  have : xs.length * 2000300 ≤ 16 * 2000300 := Nat.mul_le_mul_right _ (by omega)
  omega
theorem ChsIs.foots (h : ChsIs cs rows xs) (hs : SegOk cs rows) : (footsL rows xs).length ≤ 34000 := by
  have h1 : (footsL rows xs).length ≤ (xs.mapIdx fun i x => footC x (colOf rows i)).length * 2100 := by
    refine flatten_le fun x hx => ?_
    obtain ⟨i, hi, rfl⟩ := List.mem_mapIdx.1 hx
    have := h.len
    exact footC_len (hs.good (by omega : i < cs.length)) (h.lens hs _ (List.getElem_mem hi))
  rw [List.length_mapIdx] at h1
  have h2 := h.len
  have h3 := right_len hs.right
  omega
theorem ChsIs.footLen (h : ChsIs cs rows xs) (hs : SegOk cs rows) : (footL cs rows xs).length ≤ 35000 := by
  have h1 := h.foots hs
  have h2 := schL_len hs.right
  have h3 := digitsL_len10 (n := rows.length) (by have := hs.len; omega)
  simp only [footL, List.length_append]
  omega
theorem ChsIs.preLen (h : ChsIs cs rows xs) (hs : SegOk cs rows) : (preL cs rows xs).length ≤ 34000000 := by
  have h1 := h.footLen hs
  have h2 := h.flat hs
  simp only [preL, List.length_append, magicB, lowB, List.length_cons, List.length_nil]
  omega
end
structure SegIs (cs : List Col) (rows : List (List Val)) (b : List UInt8) : Prop where
  ex : ∃ xs, xs.length = cs.length ∧ ChsIs cs rows xs ∧ b = sealD (preL cs rows xs)
def segE (cs : List Col) (rows : List (List Val)) : Int := if rightCols cs = false then 50 else if 1024 < rows.length ∨ ∃ r ∈ rows, fitsB cs r = false then 51 else 0
def SegV (cs : List Col) (rows : List (List Val)) (v : Value) : Prop :=
  (¬ SegOk cs rows ∧ v = .tuple #[.string ⟨#[]⟩, .int .i64 (segE cs rows)] ∧ segE cs rows ≠ 0) ∨ (SegOk cs rows ∧ ∃ b, v = .tuple #[.string (sof b), .int .i64 0] ∧ SegIs cs rows b)
end Go.Proofs.YtpnaifmmggnimaaGreatDoor
namespace Go.Dn
set_option linter.unusedVariables false
set_option maxRecDepth 100000
open Go.RowKit (Below)
theorem conv_lit {P : Program} {bt el : TypeId} (hb : P.underlying bt = some (.slice el)) (he : P.underlying el = some (.int .u8)) {w : World} {b n c : Nat} {cs : Array Value} {e : TypeId} (hg : w.heap[b]? = some (.cells cs e (0, 0))) {f : Value → World → Prop}
    (hf : ∀ w', Keeps (· = b) w w' → w'.heap[b]? = some (.cells cs e (cs.size, cs.size + 1)) → f (.slice (some ⟨b, 0, none⟩) n c) w') : OPR P (convert bt bt (.slice (some ⟨b, 0, none⟩) n c)) f w := by
  have hshape : w.shape? b = some (e, cs.size) := by simp [World.shape?, hg]
  have hmark : (markStringish ⟨b, 0, none⟩).run P w = .ok () (w.freeze ⟨b, cs.size, none⟩ 1) := by simp [markStringish, hshape]
  have hrun : (convert bt bt (.slice (some ⟨b, 0, none⟩) n c)).run P w = .ok (.slice (some ⟨b, 0, none⟩) n c) (w.freeze ⟨b, cs.size, none⟩ 1) := by
    simp only [convert, Sem.run_bind, run_underlying hb, run_underlying he, Result.andThen_ok, beq_self_eq_true, hmark, Sem.run_pure]
  unfold OPR
  rw [hrun]
  refine hf _ (freeze_keeps (· = b) w ⟨b, cs.size, none⟩ 1 rfl) ?_
  unfold World.freeze
  simp [Array.getElem?_modify, hg]
theorem append_grow {P : Program} {t ty e : TypeId} {sz bytes : Nat} {z : Value} (hT : slT P t = some (e, sz, bytes, z)) (hz : z.cells.size = sz) (hsz : 0 < sz) (hb0 : 0 < bytes)
    {w : World} {p : Addr} {n c : Nat} {xs : List Value} (hr : Rd w (some p) xs) (hxl : xs.length = n * sz) {b : Option Addr} {m mc : Nat} {news : List Value} (hs : Rd w b news) (hl : news.length = m * sz) (hm : 0 < m)
    (hc : c < n + m) (_hnc : n ≤ c) (hby : (n + m) * bytes ≤ 140737488355328) :
    ∃ a' c' w', (Builtin.append_ #[t, t] ty #[.slice (some p) n c, .slice b m mc]).run P w = .ok (.slice a' (n + m) c') w' ∧ Row w' e sz a' (n + m) c' (xs ++ news) ∧ Below w.heap.size w w' ∧ (∀ k, rowB a' = some k → w.heap.size ≤ k) := by
  obtain ⟨hu, i, hi, hiz, rfl, rfl⟩ := slT_out hT
  have hnm : n + m ≤ 140737488355328 := Nat.le_trans (Nat.le_mul_of_pos_right _ hb0) hby
  have hlen : (xs ++ news).length = (n + m) * i.size := by rw [List.length_append, hxl, hl, Nat.add_mul]
  have h0 : 0 < news.length := by rw [hl]; exact Nat.mul_pos hm hsz
  obtain ⟨q, rfl, _⟩ := hs 0 news[0] (List.getElem?_eq_getElem h0)
  have hq : ∀ j u, news[j]? = some u → w.cell? (q.add j) = some u := by
    intro j u hu
    obtain ⟨q', hq', hc⟩ := hs j u hu
    cases hq'
    exact hc
  have hold : ∀ j v, xs[j]? = some v → w.cell? (p.add j) = some v := by
    intro j v hv
    obtain ⟨q', hq', hc⟩ := hr j v hv
    cases hq'
    exact hc
  have hge := grownCap_ge w (n + m) c e
  have hcm : grownCap w (n + m) c e ≤ maxLen := grownCap_le_maxLen w (n + m) c e (by unfold maxLen; omega)
  have hrun := run_append_grow (P := P) w t ty e i z hu hi hiz p n c xs hxl hold q m mc news hl hq (by omega) (by omega) (growslice_fits (by omega) hby)
  refine ⟨_, _, _, hrun, ⟨hlen, .inr ⟨w.heap.size, _, rfl, heap_alloc_new w.drew _, hge, by unfold maxLen at hcm; omega, ?_, ?_⟩⟩, ((Below.refl _ w).drew).alloc (Nat.le_refl _) _, fun k hk => ?_⟩
  · simp only [Array.size_append, List.size_toArray, size_zeroCells, hz, hxl, hl, ← Nat.add_mul]
    congr 1
    omega
  · simp only [Array.toList_append, List.append_assoc]
    rw [← List.append_assoc, ← hlen]
    exact List.take_left
  · simp [rowB] at hk
    omega
def It.buf (e : TypeId) (sz : Nat) (a : Option Addr) (n c : Nat) (xs : List Value) : It where
  blk := rowB a
  ok := fun w => Row w e sz a n c xs ∨ (∃ p, a = some p ∧ c = n ∧ Rd w a xs ∧ xs.length = n * sz ∧ p.block < w.heap.size)
  st := fun w w' h h0 => by
    rcases h0 with h0 | ⟨p, rfl, h1, h2, h3, h4⟩
    · exact .inl ((It.row e sz a n c xs).st w w' h h0)
    · refine .inr ⟨p, rfl, h1, ?_, h3, ?_⟩
      · intro j v hv
        obtain ⟨q, hq, hc⟩ := h2 j v hv
        cases hq
        exact ⟨p, rfl, by rw [World.cell?_of_block (w := w) (by rw [addr_add_block]; exact h p.block rfl)]; exact hc⟩
      · have := h p.block rfl
        rw [Array.getElem?_eq_getElem h4] at this
        exact (Array.getElem?_eq_some_iff.1 this).1
  lt := fun w h k hk => by
    rcases h with h | ⟨p, rfl, _, _, _, h4⟩
    · exact h.lt hk
    · cases hk; exact h4
section
variable {w0 w : World} {H : List It}
theorem ST.appF (S : ST w0 w H) (n : Nat) {P : Program} {t ty e : TypeId} {sz bytes : Nat} {z : Value} {a : Option Addr} {m c : Nat} {xs : List Value} (hn : H[n]? = some (It.buf e sz a m c xs)) (hT : slT P t = some (e, sz, bytes, z)) (hz : z.cells.size = sz) (hsz : 0 < sz) (hb0 : 0 < bytes)
    {b : Option Addr} {mm mc : Nat} {news : List Value} (hs : Rd w b news) (hl : news.length = mm * sz) (hmm : 0 < mm) (h1 : ∀ u ∈ news, u.oneCell' = true) (hby : (m + mm) * bytes ≤ 140737488355328) {f : Value → World → Prop}
    (hf : ∀ a' c' w', ST w0 w' (H.set n (It.row e sz a' (m + mm) c' (xs ++ news))) → f (.slice a' (m + mm) c') w') : OPR P (Builtin.append_ #[t, t] ty #[.slice a m c, .slice b mm mc]) f w := by
  rcases S.get n hn with h | ⟨p, rfl, rfl, h2, h3, h4⟩
  · obtain ⟨a', c', w', hrun, hrow, hk, hnew⟩ := append_row (ty := ty) (mc := mc) hT hz hsz hb0 h hs hl h1 hby
    unfold OPR
    rw [hrun]
    exact hf a' c' w' (S.chg n hn hk _ hrow hnew)
  · obtain ⟨a', c', w', hrun, hrow, hB, hnew⟩ := append_grow (ty := ty) (mc := mc) hT hz hsz hb0 h2 h3 hs hl hmm (by omega) (Nat.le_refl _) hby
    unfold OPR
    rw [hrun]
    exact hf a' c' w' (S.chg n hn (Keeps.of_below hB) _ hrow (fun k hk => .inr (hnew k hk)))
theorem ST.rdF (S : ST w0 w H) (n : Nat) {e : TypeId} {sz : Nat} {a : Option Addr} {m c : Nat} {xs : List Value} (hn : H[n]? = some (It.buf e sz a m c xs)) : Rd w a xs := by
  rcases S.get n hn with h | ⟨p, rfl, rfl, h2, h3, h4⟩
  · exact h.rd
  · exact h2
end
end Go.Dn
namespace Go.Proofs.YtpnaifmmggnimaaGreatDoor
set_option maxRecDepth 100000
open Go.Dn Go.Proofs
open Go.RowKit (Below)
set_option linter.unusedVariables false
theorem und_B : Tryz.prog.underlying ty.L_uint8 = some (.slice ty.uint8) := by kernel_rfl
theorem und_u8 : Tryz.prog.underlying ty.uint8 = some (.int .u8) := by kernel_rfl
theorem LIKEL_by (l : List UInt8) {n : Nat} {f : List Value → Prop} (hn : l.length = n) (h : f (l.map byteV)) : LIKEL (List.replicate n (.int .u8 0)) f :=
  LIKEL_ints .u8 (l.map uI) (by simpa using hn) (by rw [← map_byteV]; exact h)
def bufI (a : Option Addr) (c : Nat) (l : List UInt8) : It := It.buf ty.uint8 1 a l.length c (l.map byteV)
section
variable {w0 w : World} {H : List It} {a : Option Addr} {c : Nat} {l : List UInt8}
theorem stAppF (S : ST w0 w H) (n : Nat) (hn : H[n]? = some (bufI a c l)) {m : List UInt8} {b : Option Addr} {mc : Nat} (hs : Rd w b (m.map byteV)) (h0 : 0 < m.length) (hl : l.length + m.length ≤ 140737488355328) {f : Value → World → Prop}
    (hf : ∀ a' c' w', ST w0 w' (H.set n (bytesI a' c' (l ++ m))) → f (.slice a' (l ++ m).length c') w') :
    OPR Tryz.prog (Builtin.append_ #[ty.L_uint8, ty.L_uint8] ty.L_uint8 #[.slice a l.length c, .slice b m.length mc]) f w := by
  refine S.appF n hn tB zB (by omega) (by omega) hs (mm := m.length) (by simp) h0 (bytes_one _) (by omega) fun a' c' w' S' => ?_
  have e1 : (l ++ m).length = l.length + m.length := by simp
  rw [← List.map_append] at S'
  have := hf a' c' w' (by unfold bytesI; rw [e1]; exact S')
  rwa [e1] at this
theorem stToBuf (S : ST w0 w H) (n : Nat) (hn : H[n]? = some (bytesI a c l)) : ST w0 w (H.set n (bufI a c l)) := S.chg n hn (.refl _ _) _ (.inl (S.get n hn)) (fun k hk => .inl hk)
theorem stAppK (S : ST w0 w H) (n : Nat) (hn : H[n]? = some (bytesI a c l)) {m : List UInt8} {k : Nat} (hk : m.length = k) {b : Option Addr} {mc : Nat} (hs : Rd w b (m.map byteV)) (hl : l.length + m.length ≤ 140737488355328) {f : Value → World → Prop}
    (hf : ∀ a' c' w', ST w0 w' (H.set n (bytesI a' c' (l ++ m))) → f (.slice a' (l ++ m).length c') w') :
    OPR Tryz.prog (Builtin.append_ #[ty.L_uint8, ty.L_uint8] ty.L_uint8 #[.slice a l.length c, .slice b k mc]) f w := by
  subst hk
  exact stAppB S n hn hs hl hf
end
section
variable {w : World} {a a2 : Option Addr} {c c2 : Nat} {cs : List Col} {ps : List RowP}
theorem segment_low_ok (n : Nat) (hn : n < 4294967296) : Calls Tryz.prog f.segment_low #[.int .i64 (n : Int)] w (Ret fun v w' => ∃ b, v = .slice (some ⟨b, 0, none⟩) 4 4 ∧ NewB w w' (lowB n) (some ⟨b, 0, none⟩) 4) := by
  apply R.segment_low_calls
  unfold R.segment_low
  refine (ST.start w).newB fun b w1 hb B S => ⟨b, rfl, ?_⟩
  have sh : ∀ k, Int.fdiv (n : Int) (2 ^ k) = ((n / 2 ^ k : Nat) : Int) := fun k => by
    rw [Int.fdiv_eq_ediv_of_nonneg _ (Int.pow_nonneg (by decide))]
    norm_cast
  have by_ : ∀ m : Nat, Value.int .u8 (IntKind.u8.wrap (m : Int)) = byteV (UInt8.ofNat (m % 256)) := fun m => by
    rw [wrap_u8, ← byteV_of (x := m % 256) (by omega)]
    congr 1
  have e : (#[Value.int .u8 (IntKind.u8.wrap (n : Int)), .int .u8 (IntKind.u8.wrap (Int.fdiv (n : Int) (2 ^ (min 8 64)))), .int .u8 (IntKind.u8.wrap (Int.fdiv (n : Int) (2 ^ (min 16 64)))), .int .u8 (IntKind.u8.wrap (Int.fdiv (n : Int) (2 ^ (min 24 64))))] : Array Value) = ((lowB n).map byteV).toArray := by
    rw [show min 8 64 = 8 from rfl, show min 16 64 = 16 from rfl, show min 24 64 = 24 from rfl, sh, sh, sh, by_, by_, by_, by_]
    rfl
  rw [e] at S
  have hg := S.blk 0 rfl
  exact ⟨⟨rfl, .inr ⟨b, _, rfl, hg, Nat.le_refl _, by decide, rfl, rfl⟩⟩, fun k hk => by cases hk; exact hb, B⟩
theorem Write_c1_ok {b : Nat} {r : List Val} {ra : Option Addr} {rc : Nat} (hc : w.cell? ⟨b, 0, none⟩ = some (.slice a cs.length c)) (hl : Rd w a (colsL cs)) (hn : cs.length ≤ 9223372036854775807) (hq : ∀ c ∈ cs, c.1.size ≤ 9223372036854775807) (hr : Rd w ra (valsL r)) :
    Calls Tryz.prog f.segment_Write_c1 #[.slice ra r.length rc, .pointer (some ⟨b, 0, none⟩)] w (Ret fun v w' => v = .bool (!(rightCols cs && fitsB cs r)) ∧ Below w.heap.size w w') := by
  apply R.segment_Write_c1_calls
  unfold R.segment_Write_c1
  refine ⟨_, _, _, hc, (schema_Fits_ok hl hn hq hr).mono ?_⟩
  rintro _ w1 ⟨_, rfl, rfl, B⟩
  exact ⟨_, rfl, rfl, B⟩
theorem IndexRows_ok {b : Nat} (hc : w.cell? ⟨b, 0, none⟩ = some (.slice a cs.length c)) (hl : Rd w a (colsL cs)) (hn : cs.length ≤ 9223372036854775807) (hq : ∀ c ∈ cs, c.1.size ≤ 9223372036854775807) (hr : RowsAt w a2 ps) (hm : ps.length ≤ 900000) :
    Calls Tryz.prog f.slices_IndexFunc_api_Row_api_Row #[.slice a2 ps.length c2, .func (.func f.segment_Write_c1) #[] #[.pointer (some ⟨b, 0, none⟩)]] w (Ret fun v w' => ∃ z : Int, v = .int .i64 z ∧ Below w.heap.size w w' ∧ (0 ≤ z ↔ ∃ r ∈ rws ps, (rightCols cs && fitsB cs r) = false)) := by
  apply R.slices_IndexFunc_api_Row_api_Row_calls
  unfold R.slices_IndexFunc_api_Row_api_Row
  refine ⟨fun st w2 => ∃ i : Nat, st = [.int .i64 (i : Int)] ∧ i ≤ ps.length ∧ (∀ r ∈ rws (ps.take i), (rightCols cs && fitsB cs r) = true) ∧ Below w.heap.size w w2, fun st _ => match st with | [.int _ t] => ps.length - t.toNat | _ => 0, ⟨0, rfl, by omega, by simp, .refl _ _⟩, ?_⟩
  rintro t w2 ⟨i, hst, hi, hall, B2⟩
  cases hst
  refine IFB_dec (fun hlt => ⟨⟨by omega, hlt⟩, ?_⟩) (fun hge => ⟨_, rfl, B2, ?_⟩)
  · have hil : i < ps.length := by omega
    obtain ⟨q, rfl, hq1, hv⟩ := (hr.grown B2).at hil
    have hc2 : w2.cell? ⟨b, 0, none⟩ = some (.slice a cs.length c) := (Keeps.of_below (F := fun _ => False) B2).cell hc (by simp)
    refine ⟨_, _, _, by rw [Int.toNat_natCast]; exact hq1, ?_⟩
    rw [show enters Tryz.prog f.segment_Write_c1 = true by kernel_rfl]
    refine (Write_c1_ok hc2 (hl.grown B2) hn hq hv).mono ?_
    rintro _ w3 ⟨_, rfl, rfl, B3⟩
    refine ⟨_, rfl, IFB_not (IFB_of (fun hf => ?_) (fun hf => ?_))⟩
    · rw [wrap_succ (by omega)]
      refine ⟨⟨i + 1, rfl, by omega, fun r hr => ?_, below_trans B2 B3⟩, ?_⟩
      · simp only [rws, List.mem_map] at hr
        obtain ⟨p, hp, rfl⟩ := hr
        rw [List.take_succ_eq_append_getElem hil] at hp
        rcases List.mem_append.1 hp with h | h
        · exact hall _ (List.mem_map.2 ⟨p, h, rfl⟩)
        · rw [List.mem_singleton.1 h]; exact hf
      · show ps.length - ((i + 1 : Nat) : Int).toNat < ps.length - ((i : Nat) : Int).toNat
        simp only [Int.toNat_natCast]
        omega
    · exact ⟨_, rfl, below_trans B2 B3, ⟨fun _ => ⟨_, List.mem_map.2 ⟨ps[i], List.getElem_mem hil, rfl⟩, hf⟩, fun _ => by omega⟩⟩
  · rw [List.take_of_length_le (by omega)] at hall
    constructor
    · intro h; omega
    · rintro ⟨r, hr, hf⟩
      rw [hall r hr] at hf
      cases hf
theorem ContainsRows_ok {b : Nat} (hc : w.cell? ⟨b, 0, none⟩ = some (.slice a cs.length c)) (hl : Rd w a (colsL cs)) (hn : cs.length ≤ 9223372036854775807) (hq : ∀ c ∈ cs, c.1.size ≤ 9223372036854775807) (hr : RowsAt w a2 ps) (hm : ps.length ≤ 900000) :
    Calls Tryz.prog f.slices_ContainsFunc_api_Row_api_Row #[.slice a2 ps.length c2, .func (.func f.segment_Write_c1) #[] #[.pointer (some ⟨b, 0, none⟩)]] w (Ret fun v w' => ∃ z : Bool, v = .bool z ∧ Below w.heap.size w w' ∧ (z = true ↔ ∃ r ∈ rws ps, (rightCols cs && fitsB cs r) = false)) := by
  apply R.slices_ContainsFunc_api_Row_api_Row_calls
  unfold R.slices_ContainsFunc_api_Row_api_Row
  refine (IndexRows_ok hc hl hn hq hr hm).mono ?_
  rintro _ w1 ⟨_, rfl, z, rfl, B, h⟩
  exact ⟨_, rfl, _, rfl, B, by rw [decide_eq_true_eq]; exact h⟩
theorem lay_good {l : List UInt8} {v : Val} {r : Value} {w w' : World} (hr : rightB v = true) (h : layV l v r w w') : ∃ a c, r = .tuple #[.slice a (l ++ layL v).length c, .int .i64 0] ∧ NewB w w' (l ++ layL v) a c := by
  rcases h with ⟨h, _⟩ | ⟨_, h⟩
  · rw [hr] at h; cases h
  · exact h
set_option maxHeartbeats 1000000 in
theorem segment_Write_ok (T : Tabs w) (hl : Rd w a (colsL cs)) (hn : cs.length ≤ 9223372036854775807) (hq : ∀ c ∈ cs, c.1.size ≤ 9223372036854775807) (hr : RowsAt w a2 ps) (hm : ps.length ≤ 9223372036854775807) (hv : ∀ r ∈ rws ps, ∀ v ∈ r, ValOk v) :
    Calls Tryz.prog f.segment_Write #[.slice a cs.length c, .slice a2 ps.length c2] w (Ret fun v w' => SegV cs (rws ps) v ∧ Below w.heap.size w w') := by
  apply R.segment_Write_calls
  unfold R.segment_Write
  refine (ST.start w).newB fun b3 w1 hb3 B1 S => ⟨_, _, _, S.cell 0 rfl rfl, ?_⟩
  refine (schema_Lay_ok (l := []) (a := none) (c := 0) (Rd.nil _ _) (by simp) (hl.grown S.bel) hn hq).mono ?_
  rintro _ w2 ⟨_, rfl, h2⟩
  have bad : ∀ {wx : World} (e : Int), Below w.heap.size w wx → (segE cs (rws ps) = e) → e ≠ 0 → SegV cs (rws ps) (.tuple #[.string ⟨#[]⟩, .int .i64 e]) ∧ Below w.heap.size w wx := by
    rintro wx e B rfl h0
    refine ⟨.inl ⟨fun hs => h0 ?_, rfl, h0⟩, B⟩
    have h1 : ¬ (1024 < (rws ps).length ∨ ∃ r ∈ rws ps, fitsB cs r = false) := by
      rintro (h | ⟨r, hr, h⟩)
      · have := hs.len; omega
      · rw [hs.fits r hr] at h; cases h
    have h2 : ¬ rightCols cs = false := by rw [hs.right]; decide
    rw [segE, if_neg h2, if_neg h1]
  rcases h2 with ⟨hR, rfl, B2⟩ | ⟨hR, a2', c2', rfl, h2⟩
  · refine ⟨_, _, _, _, rfl, (S.grown B2).newB fun b8 w3 _ _ S => S.sto 0 rfl (by simp) rfl fun w4 S => IFB_ne (fun _ => bad 50 S.bel ?_ (by decide)) (fun h => by cases h)⟩
    rw [segE, if_pos hR]
  have hRn : ¬ rightCols cs = false := by rw [hR]; decide
  rw [List.nil_append] at h2 ⊢
  have S := stAddB S h2
  refine ⟨_, _, _, _, rfl, S.newB fun b8 w3 _ _ S => S.sto 0 rfl (cs' := #[.slice a2' (schL cs).length c2']) (by simp) rfl fun w4 S => IFB_ne (fun h => absurd rfl h) (fun _ => IFB_dec (fun h => bad 51 S.bel ?_ (by decide)) (fun hlen => ?_))⟩
  · have : 1024 < (rws ps).length := by simp only [rws, List.length_map]; omega
    rw [segE, if_neg hRn, if_pos (.inl this)]
  have hlen' : ps.length ≤ 1024 := by omega
  refine (ContainsRows_ok (S.cell 2 rfl rfl) (hl.grown S.bel) hn hq (hr.grown S.bel) (by omega)).mono ?_
  rintro _ w5 ⟨_, rfl, z, rfl, B5, hz⟩
  have S := S.grown B5
  refine ⟨_, rfl, IFB_of (fun h => bad 51 S.bel ?_ (by decide)) (fun hz0 => ?_)⟩
  · obtain ⟨r, hr, hf⟩ := hz.1 h
    rw [hR, Bool.true_and] at hf
    rw [segE, if_neg hRn, if_pos (.inr ⟨r, hr, hf⟩)]
  have hok : SegOk cs (rws ps) := by
    refine ⟨hR, by simp only [rws, List.length_map]; omega, fun r hr => ?_, hv⟩
    cases hf : fitsB cs r with
    | true => rfl
    | false =>
      have := hz.2 ⟨r, hr, by rw [hf, Bool.and_false]⟩
      rw [hz0] at this; cases this
  have hrl : ∀ p ∈ ps, p.2.2.length = cs.length := fun p hp => hok.rowLen (List.mem_map.2 ⟨p, hp, rfl⟩)
  have hcl := right_len hR
  have hsl := schL_len hR
  have d1 := digitsL_len10 (n := ps.length) (by omega)
  have hrd5 : Rd w5 a2' ((schL cs).map byteV) := stRdB S 1 rfl
  rw [wrap_u64_id (by omega) (by omega)]
  refine ⟨_, _, _, S.cell 0 rfl rfl, (wire_Number_ok (schL cs) hrd5 ps.length (by omega) (by omega)).mono ?_⟩
  rintro _ w6 ⟨_, rfl, a6, c6, rfl, h6⟩
  have S := stAddB S h6
  refine ⟨_, _, _, rfl, S.sto 1 rfl (cs' := #[.slice a6 (schL cs ++ digitsL ps.length).length c6]) (by simp) rfl fun w7 S => S.newB fun b14 w8 hb14 _ S => conv_lit und_B und_u8 (S.blk 0 rfl) fun w9 K9 hg9 => ⟨_, _, _, rfl, ?_⟩⟩
  have S := S.chg 0 rfl (K9.mono fun k _ h => by subst h; rfl) (bufI (some ⟨b14, 0, none⟩) 4 magicB) (.inr ⟨_, rfl, rfl, Rd.of_block0 hg9, rfl, (Array.getElem?_eq_some_iff.1 hg9).1⟩) (fun k hk => .inl hk)
  refine S.newB fun b17 w10 _ _ S => S.sto 0 rfl (cs' := #[.slice (some ⟨b14, 0, none⟩) 4 4]) (by simp) rfl fun w11 S => ⟨_, _, _, S.cell 5 rfl rfl, segment_byColumns_ok.mono ?_⟩
  rintro _ w12 ⟨_, rfl, q1, q2, rfl, P⟩
  have S := S.join P
  refine ⟨_, _, _, rfl, by kernel_rfl, fun rr hst hpe hy => ?_⟩
  have S := S.range rr
  obtain ⟨L, hL⟩ : ∃ L, L = w12.heap.size + 1 := ⟨_, rfl⟩
  obtain ⟨d, hd⟩ : ∃ d, d = w12.heap.size := ⟨_, rfl⟩
  rw [← hL] at S hy ⊢
  rw [← hd] at S ⊢
  have S := S.pull 6 rfl
  let Hq : Obj → Option Addr → Nat → List UInt8 → Option Addr → Nat → List UInt8 → List It := fun o fa fc ft ba bc bb => [bytesI fa fc ft, It.obj L o, It.obj d (.deferred (some [])), It.cells q2 #[.slice a2 ps.length c2] ty.L_api_Row, It.cells q1 #[.slice a cs.length c] ty.L_api_Column,
    It.cells b17 #[.slice ba bb.length bc] ty.L_uint8, bufI ba bc bb, It.cells b8 #[.slice fa ft.length fc] ty.L_uint8, bytesI a2' c2' (schL cs), It.cells b3 #[.slice a cs.length c] ty.L_api_Column]
  let J : Nat → World → Prop := fun q wx => ∃ (xs : List (List UInt8)) (fa : Option Addr) (fc : Nat) (ba : Option Addr) (bc : Nat), xs.length = q ∧ ChsIs cs (rws ps) xs ∧
    ST w wx (Hq (.loop rr) fa fc (schL cs ++ digitsL ps.length ++ footsL (rws ps) xs) ba bc (magicB ++ xs.flatten))
  have hcall := byColumns_c1_ok (w := (w12.alloc (.deferred (some []))).alloc (.loop rr)) (c := c2) (L := L) (b1 := q1) (b2 := q2) (a := a2) (c2 := c) (a2 := a) (n := cs.length) hn (by omega) hrl J (fun q wx hj => by
      obtain ⟨xs, fa, fc, ba, bc, _, _, S⟩ := hj
      exact ⟨hr.grown S.bel, S.cell 3 rfl rfl⟩) (fun q wx wy hj B => by
      obtain ⟨xs, fa, fc, ba, bc, h1, h2, S⟩ := hj
      exact ⟨xs, fa, fc, ba, bc, h1, h2, S.grown B⟩) (by
    rintro q wx la lc hqn ⟨xs, fa, fc, ba, bc, hxl, hch, S⟩ hla
    subst hxl
    have hg := hok.good hqn
    have hfl := hch.flat hok
    have hfo := hch.foots hok
    obtain ⟨⟨z1, z2⟩, z3, z4⟩ := hg.zone
    have hcol : (colOf (rws ps) xs.length).length = ps.length := by rw [colOf_len]; simp [rws]
    refine hy _ _ _ _ _ wx (S.get 1 rfl) ?_
    refine S.begrK 1 rfl fun w14 hk14 S => ?_
    obtain ⟨p, hp, c0, c1, c2⟩ := col_at (hl.grown S.bel) hqn
    refine ⟨_, _, _, S.cell 9 rfl rfl, ⟨by omega, by omega⟩, ?_⟩
    rw [hp]
    refine ⟨_, by rw [Int.toNat_natCast]; exact c1, ?_⟩
    have hla14 := hk14 _ _ hla
    have hE := chunk_Encode_ok (c := lc) cs[xs.length].2.1 hla14 (by omega) hg.ok
    rw [hcol] at hE
    refine hE.mono ?_
    rintro _ w15 ⟨_, rfl, h15⟩
    rcases h15 with ⟨hno, _⟩ | ⟨_, x, xa, xc, hx, rfl, h15⟩
    · rw [hg.right] at hno; cases hno
    have hxl := hx.len hg
    have hx5 : 0 < x.length := by have := (hx.read hg).2.1; omega
    have S := stAddB S h15
    have hZ := chunk_Zone_ok (c := lc) (hla14.grown h15.bel)
    rw [hcol] at hZ
    refine ⟨_, _, _, _, rfl, hZ.mono ?_⟩
    rintro _ w16 ⟨_, rfl, hzv, B16⟩
    rcases hzv with ⟨_, rfl⟩ | ⟨hno, _⟩
    case inr => exact absurd hg.zoneOk hno
    have S := S.grown B16
    refine ⟨_, _, _, _, _, _, _, _, rfl, S.newB fun b39 w17 _ _ S => S.sto7 0 rfl fun w24 S => ⟨_, _, _, S.cell 7 rfl rfl, ?_⟩⟩
    have hrx : Rd w24 xa (x.map byteV) := stRdB S 1 rfl
    have hml : magicB.length = 4 := rfl
    refine stAppF S 8 rfl hrx hx5 (by rw [List.length_append]; omega) fun a25 c25 w25 S => ⟨_, _, _, rfl, S.sto 7 rfl (cs' := #[.slice a25 (magicB ++ xs.flatten ++ x).length c25]) (by simp) rfl fun w26 S => S.draw fun w27 _ S => ⟨_, _, _, S.cell 9 rfl rfl, _, S.cell 0 rfl rfl, ?_⟩⟩
    have hnl : nullsN (colOf (rws ps) xs.length) ≤ 1024 := by have := nullsN_le (colOf (rws ps) xs.length); omega
    obtain ⟨ft, hft⟩ : ∃ ft, ft = schL cs ++ digitsL ps.length ++ footsL (rws ps) xs := ⟨_, rfl⟩
    rw [← hft] at S ⊢
    have hftl : ft.length ≤ 40000 := by rw [hft]; simp only [List.length_append]; omega
    have hrf : Rd w27 fa (ft.map byteV) := stRdB S 2 rfl
    rw [wrap_u64_id (n := (x.length : Int)) (by omega) (by omega)]
    refine (wire_Number_ok ft hrf x.length (by omega) (by omega)).mono ?_
    rintro _ w28 ⟨_, rfl, a28, c28, rfl, h28⟩
    have S := stAddB S h28
    have e28 := digitsL_len10 (n := x.length) (by omega)
    have e29 := digitsL_len10 (n := nullsN (colOf (rws ps) xs.length)) (by omega)
    have e30 := layL_len z1 z2
    have e31 := layL_len z3 z4
    refine ⟨_, _, _, rfl, S.cell 1 rfl rfl, ?_⟩
    rw [wrap_u64_id (n := ((nullsN (colOf (rws ps) xs.length) : Nat) : Int)) (by omega) (by omega)]
    refine (wire_Number_ok _ h28.rd (nullsN (colOf (rws ps) xs.length)) (by omega) (by rw [List.length_append]; omega)).mono ?_
    rintro _ w29 ⟨_, rfl, a29, c29, rfl, h29⟩
    have S := stAddB S h29
    refine ⟨_, _, _, rfl, S.sto 11 rfl (cs' := #[.slice a29 (ft ++ digitsL x.length ++ digitsL (nullsN (colOf (rws ps) xs.length))).length c29]) (by simp) rfl fun w30 S => ⟨_, _, _, S.cell 11 rfl rfl, _, S.cell 2 rfl rfl, _, S.cell 2 rfl rfl, _, S.cell 2 rfl rfl, ?_⟩⟩
    have hr30 : Rd w30 a29 ((ft ++ digitsL x.length ++ digitsL (nullsN (colOf (rws ps) xs.length))).map byteV) := stRdB S 0 rfl
    refine (value_Lay_ok _ hr30 (zmm (colOf (rws ps) xs.length)).1 z2 (by simp only [List.length_append]; omega)).mono ?_
    rintro _ w31 ⟨_, rfl, h31⟩
    obtain ⟨a31, c31, rfl, n31⟩ := lay_good z1 h31
    have S := stAddB S n31
    refine ⟨_, _, _, _, rfl, S.sto 12 rfl (cs' := #[.slice a31 (ft ++ digitsL x.length ++ digitsL (nullsN (colOf (rws ps) xs.length)) ++ layL (zmm (colOf (rws ps) xs.length)).1).length c31]) (by simp) rfl fun w32 S => ⟨_, _, _, S.cell 12 rfl rfl, _, S.cell 3 rfl rfl, _, S.cell 3 rfl rfl, _, S.cell 3 rfl rfl, ?_⟩⟩
    have hr32 : Rd w32 a31 ((ft ++ digitsL x.length ++ digitsL (nullsN (colOf (rws ps) xs.length)) ++ layL (zmm (colOf (rws ps) xs.length)).1).map byteV) := stRdB S 0 rfl
    refine (value_Lay_ok _ hr32 (zmm (colOf (rws ps) xs.length)).2 z4 (by simp only [List.length_append]; omega)).mono ?_
    rintro _ w33 ⟨_, rfl, h33⟩
    obtain ⟨a33, c33, rfl, n33⟩ := lay_good z3 h33
    have S := stAddB S n33
    have efoot : ft ++ digitsL x.length ++ digitsL (nullsN (colOf (rws ps) xs.length)) ++ layL (zmm (colOf (rws ps) xs.length)).1 ++ layL (zmm (colOf (rws ps) xs.length)).2 = schL cs ++ digitsL ps.length ++ footsL (rws ps) (xs ++ [x]) := by
      rw [footsL_snoc, hft]
      simp [footC]
    have ebody : magicB ++ xs.flatten ++ x = magicB ++ (xs ++ [x]).flatten := by simp
    rw [efoot] at S ⊢
    rw [ebody] at S
    refine ⟨_, _, _, _, rfl, S.sto 13 rfl (cs' := #[.slice a33 (schL cs ++ digitsL ps.length ++ footsL (rws ps) (xs ++ [x])).length c33]) (by simp) rfl fun w34 S => S.endr0 7 hst hpe rfl fun w' S => ⟨rfl, xs ++ [x], a33, c33, a25, c25, by simp, hch.snoc hqn hx, ?_⟩⟩
    exact (stToBuf S 12 rfl).keep 6) ⟨[], a6, c6, some ⟨b14, 0, none⟩, 4, rfl, ChsIs.nil _ _, by
      have e1 : schL cs ++ digitsL ps.length ++ footsL (rws ps) [] = schL cs ++ digitsL ps.length := by simp [footsL]
      have e2 : magicB ++ ([] : List (List UInt8)).flatten = magicB := by simp
      rw [e1, e2]
      exact S⟩ (S.cell 4 rfl rfl)
  refine hcall.mono ?_
  rintro _ w35 ⟨_, rfl, xs, fa, fc, ba, bc, hxl, hch, S⟩
  refine ⟨⟨_, rfl⟩, S.endl0 1 hst hpe rfl fun w36 S => ⟨rfl, S.draw fun w37 _ S => ⟨_, _, _, S.cell 5 rfl rfl, _, _, _, S.cell 7 rfl rfl, _, _, _, S.cell 7 rfl rfl, ?_⟩⟩⟩
  have hfl := hch.flat hok
  have hfo := hch.footLen hok
  have hpl := hch.preLen hok
  have efl : schL cs ++ digitsL ps.length ++ footsL (rws ps) xs = footL cs (rws ps) xs := by
    unfold footL
    rw [show (rws ps).length = ps.length by simp [rws]]
  rw [efl] at S ⊢
  obtain ⟨ft, hft⟩ : ∃ ft, ft = footL cs (rws ps) xs := ⟨_, rfl⟩
  rw [← hft] at S hfo ⊢
  obtain ⟨bb, hbb⟩ : ∃ bb, bb = magicB ++ xs.flatten := ⟨_, rfl⟩
  rw [← hbb] at S ⊢
  refine (segment_low_ok ft.length (by omega)).mono ?_
  rintro _ w38 ⟨_, rfl, blo, rfl, h38⟩
  have S := stAddB S h38
  refine ⟨_, _, _, rfl, S.cell 8 rfl rfl, S.cell 6 rfl rfl, S.newB fun b69 w39 _ _ S => ?_⟩
  have hrb : Rd w39 ba (bb.map byteV) := S.rdF 8 rfl
  have hrf : Rd w39 fa (ft.map byteV) := stRdB S 2 rfl
  have hrl2 : Rd w39 (some ⟨blo, 0, none⟩) ((lowB ft.length).map byteV) := stRdB S 1 rfl
  have hp39 : Rd w39 (some ⟨b69, 0, none⟩) ([(ba, bc, bb), (fa, fc, ft), (some ⟨blo, 0, none⟩, 4, lowB ft.length)].map partV1) := S.rdc 0 rfl
  have ebl : bb.length ≤ 33000004 := by rw [hbb]; simp only [List.length_append, magicB, List.length_cons, List.length_nil]; omega
  refine (slices_Concat_ok (c := 3) [(ba, bc, bb), (fa, fc, ft), (some ⟨blo, 0, none⟩, 4, lowB ft.length)] hp39 (by
      intro p hp
      simp only [List.mem_cons, List.not_mem_nil, or_false] at hp
      rcases hp with rfl | rfl | rfl
      · exact hrb
      · exact hrf
      · exact hrl2) (by simp) (by rw [flat3]; simp only [List.length_append, lowB, List.length_cons, List.length_nil]; omega)).mono ?_
  rintro _ w40 ⟨_, rfl, a40, c40, rfl, h40⟩
  have epre : flatB [(ba, bc, bb), (fa, fc, ft), (some ⟨blo, 0, none⟩, 4, lowB ft.length)] = preL cs (rws ps) xs := by
    rw [flat3, hbb, hft]
    simp [preL]
  rw [epre] at h40 ⊢
  have S := stAddB S h40
  obtain ⟨pre, hpre⟩ : ∃ pre, pre = preL cs (rws ps) xs := ⟨_, rfl⟩
  rw [← hpre] at S hpl ⊢
  refine ⟨_, _, _, rfl, S.sto 8 rfl (cs' := #[.slice a40 pre.length c40]) (by simp) rfl fun w41 S => ⟨_, _, _, S.cell 8 rfl rfl, S.newB fun b73 w42 _ _ S => ?_⟩⟩
  have hr42 : Rd w42 a40 (pre.map byteV) := stRdB S 1 rfl
  have hp42 : Rd w42 (some ⟨b73, 0, none⟩) ([(a40, c40, pre)].map partV1) := S.rdc 0 rfl
  have e42 : flatB [(a40, c40, pre)] = pre := by simp [flatB]
  refine (hash_Sum_ok (c := 1) (T.grown S.bel) [(a40, c40, pre)] hp42 (by
      intro p hp
      simp only [List.mem_cons, List.not_mem_nil, or_false] at hp
      subst hp
      exact hr42) (by simp) (by rw [e42]; omega)).mono ?_
  rw [e42]
  rintro _ w43 ⟨_, rfl, rfl, B43⟩
  have S := S.grown B43
  have hdl : (digP pre).length = 32 := digP_len _
  obtain ⟨dg, hdg⟩ : ∃ dg, dg = digP pre := ⟨_, rfl⟩
  rw [← hdg] at hdl ⊢
  refine LIKEL_by (dg) hdl ⟨rfl, ?_⟩
  refine S.newB fun b76 w44 _ _ S => ?_
  have hdm : ((dg).map byteV).length = 32 := by rw [List.length_map]; exact hdl
  refine BIF_len hdm ?_
  refine S.stoAll 0 rfl hdm (bytes_one _) fun w45 S => ?_
  refine S.draw fun w46 _ S => ?_
  refine ⟨⟨by omega, by omega, by omega⟩, _, _, _, S.cell 10 rfl rfl, ?_⟩
  have hr46 : Rd w46 (SLA (some ⟨b76, 0, none⟩) 0 32 1) ((dg).map byteV) := by
    have h := (S.rdc 0 rfl).sla 0 32 32 1 (by omega)
    have e : (List.take ((32 - 0) * 1) (List.drop (0 * 1) ((dg).map byteV))) = (dg).map byteV := by
      rw [Nat.zero_mul, List.drop_zero]
      exact List.take_of_length_le (by rw [List.length_map]; omega)
    have h' : Rd w46 (SLA (some ⟨b76, 0, none⟩) 0 32 1) (List.take ((32 - 0) * 1) (List.drop (0 * 1) ((dg).map byteV))) := h
    rwa [e] at h'
  refine stAppK S 2 rfl hdl hr46 (by omega) fun a47 c47 w47 S => ⟨_, _, _, rfl, ?_⟩
  have hr47 : Rd w47 a47 ((pre ++ dg).map byteV) := stRdB S 2 rfl
  refine string_of_bytes tbytes rfl hr47 ⟨_, rfl, S.get 7 rfl, .inr ⟨hok, _, rfl, ⟨xs, hxl, hch, ?_⟩⟩, (S.put 7 rfl _).bel⟩
  rw [sealD, hdg, hpre]
end
def rowI (p : RowP) : It := valsI p.1 p.2.1 p.2.2
theorem tRow : slT Tryz.prog ty.api_Row = some (ty.api_Value, 3, 32, .agg #[.int .i64 0, .int .i64 0, .string ⟨#[]⟩]) := by kernel_rfl
theorem tRows : slT Tryz.prog ty.L_api_Row = some (ty.api_Row, 1, 24, .slice none 0 0) := by kernel_rfl
section
variable {w0 w : World} {E : List It} {bo : Nat} {ps : List RowP}
end
section
variable {w : World} {p : Addr} {n : Nat} {cps : List RowP} {va : Option Addr} {vc : Nat}
end
theorem num_open {l : List UInt8} {at_ : Int} (o : Option (Nat × Nat)) (h : takeN l at_ = o) : ∃ (n k : Nat) (e : Int), numV o = .tuple #[.int .u64 (n : Int), .int .i64 (k : Int), .int .i64 e] ∧ k ≤ l.length ∧ n < 18446744073709551616 ∧ ((e = 0 ∧ o = some (n, k)) ∨ (e ≠ 0 ∧ o = none)) := by
  cases o with
  | none => exact ⟨0, 0, 20, rfl, by omega, by omega, .inr ⟨by decide, rfl⟩⟩
  | some x =>
    have := takeN_bounds (n := x.1) (k := x.2) h
    exact ⟨x.1, x.2, 0, rfl, by omega, by omega, .inl ⟨rfl, rfl⟩⟩
theorem takeV_le {l : List UInt8} {at_ : Int} {v : Val} {k : Nat} (h : takeV l at_ = some (v, k)) : k ≤ l.length := by
  unfold takeV at h
  split at h
  · cases h
  · rename_i hb
    simp only at h
    split at h
    · cases h; omega
    · split at h
      · obtain ⟨x, hx, he⟩ := Option.map_eq_some_iff.1 h
        have := takeN_bounds (n := x.1) (k := x.2) hx
        cases he
        omega
      · split at h
        · split at h
          · rename_i h2; cases h; omega
          · cases h
        · split at h
          · obtain ⟨x, hx, he⟩ := Option.map_eq_some_iff.1 h
            have := takeT_le (s := x.1) (k := x.2) hx
            cases he
            omega
          · cases h
theorem val_open {l : List UInt8} {at_ : Int} (o : Option (Val × Nat)) (h : takeV l at_ = o) : ∃ (v : Val) (k : Nat) (e : Int), takenV o = .tuple #[.agg #[.int .i64 v.1, .int .i64 v.2.1, .string v.2.2], .int .i64 (k : Int), .int .i64 e] ∧ k ≤ l.length ∧ ((e = 0 ∧ o = some (v, k)) ∨ (e ≠ 0 ∧ o = none)) := by
  cases o with
  | none => exact ⟨Z0, 0, 20, rfl, by omega, .inr ⟨by decide, rfl⟩⟩
  | some x => exact ⟨x.1, x.2, 0, rfl, takeV_le (v := x.1) (k := x.2) h, .inl ⟨rfl, rfl⟩⟩
section
variable {w : World} {a : Option Addr} {c : Nat} {l : List UInt8}
end
theorem drop_cons_iff {l : List UInt8} {at_ : Nat} {c : UInt8} {r : List UInt8} (h : l.drop at_ = c :: r) : at_ < l.length ∧ l.getD at_ 0 = c ∧ l.drop (at_ + 1) = r := by
  have hlt : at_ < l.length := by
    rcases Nat.lt_or_ge at_ l.length with h1 | h1
    · exact h1
    · rw [List.drop_eq_nil_of_le h1] at h; cases h
  have h2 := List.drop_eq_getElem_cons hlt
  rw [h2] at h
  injection h with h3 h4
  exact ⟨hlt, by simp [List.getD, hlt, h3], h4⟩
theorem takeT_drop {l r : List UInt8} {at_ most : Nat} {s : ByteArray} (hs : s.size ≤ most) (hm : most ≤ 1048576) (h : l.drop at_ = textL s ++ r) : takeT l (at_ : Int) most = some (bl s, at_ + (textL s).length) := by
  unfold textL at h
  rw [List.append_assoc] at h
  have h1 := takeN_drop (m := s.size) (by omega) h
  have h2 := drop_more h
  have hbl := bl_length s
  have hlen := congrArg List.length h2
  rw [List.length_drop, List.length_append, hbl] at hlen
  unfold takeT
  rw [h1]
  have hno : ¬ (1048576 < s.size ∨ most < s.size ∨ l.length - (at_ + (digitsL s.size).length) < s.size) := by omega
  simp only [if_neg hno, Option.some.injEq, Prod.mk.injEq]
  refine ⟨?_, ?_⟩
  · rw [h2, ← hbl, List.take_left]
  · simp only [textL, List.length_append, hbl]
    omega
theorem takeV_drop {l r : List UInt8} {at_ : Nat} {v : Val} (hr : rightB v = true) (hv : ValOk v) (h : l.drop at_ = layL v ++ r) : takeV l (at_ : Int) = some (v, at_ + (layL v).length) := by
  have eI : ((at_ : Int) + 1) = ((at_ + 1 : Nat) : Int) := by omega
  obtain ⟨k, n, s⟩ := v
  rcases right_kind hr with hk | hk | ⟨hk, hn⟩ | ⟨hk, hs⟩
  · simp only at hk
    subst hk
    simp [rightB] at hr
    obtain ⟨rfl, rfl⟩ := hr
    simp only [layL] at h ⊢
    obtain ⟨h1, h2, h3⟩ := drop_cons_iff (c := 0) (r := r) (by simpa using h)
    unfold takeV
    rw [if_neg (by omega), Int.toNat_natCast, h2]
    simp
  · simp only at hk
    subst hk
    simp [rightB] at hr
    subst hr
    simp only [layL, if_true] at h ⊢
    obtain ⟨h1, h2, h3⟩ := drop_cons_iff (c := 1) (r := digitsL (zigN n) ++ r) (by simpa using h)
    have h4 := takeN_drop (zigN_lt hv.lo hv.hi) h3
    unfold takeV
    rw [if_neg (by omega), Int.toNat_natCast, h2, eI, h4]
    simp only [List.length_cons, Option.map_some]
    have := unzig_zig (n := n)
    simp [this]
    omega
  · simp only at hk hn
    subst hk
    simp [rightB] at hr
    obtain ⟨_, rfl⟩ := hr
    simp only [layL] at h ⊢
    obtain ⟨h1, h2, h3⟩ := drop_cons_iff (c := 2) (r := UInt8.ofNat n.toNat :: r) (by simpa using h)
    obtain ⟨h4, h5, h6⟩ := drop_cons_iff h3
    have e5 : (l.getD (at_ + 1) 0).toNat = n.toNat := by rw [h5]; rcases hn with rfl | rfl <;> rfl
    unfold takeV
    rw [if_neg (by omega), Int.toNat_natCast, h2]
    simp only
    have h7 : (at_ : Int) + 1 < (l.length : Int) ∧ (l.getD (at_ + 1) 0).toNat ≤ 1 := ⟨by omega, by omega⟩
    rw [if_neg (by decide), if_neg (by decide), if_pos (by decide), if_pos h7, e5]
    rcases hn with rfl | rfl <;> rfl
  · simp only at hk hs
    subst hk
    simp [rightB] at hr
    obtain ⟨rfl, _⟩ := hr
    simp only [layL] at h ⊢
    obtain ⟨h1, h2, h3⟩ := drop_cons_iff (c := 3) (r := textL s ++ r) (by simpa using h)
    have h4 := takeT_drop (most := 1024) hs (by omega) h3
    unfold takeV
    rw [if_neg (by omega), Int.toNat_natCast, h2, eI, h4]
    simp [sof_bl]
    omega
theorem takeCols_drop : ∀ (cs : List Col) {l r : List UInt8} {at_ : Nat}, (∀ c ∈ cs, c.1.size ≤ 24 ∧ 1 ≤ c.2.1 ∧ c.2.1 ≤ 3) → l.drop at_ = cs.flatMap colB ++ r → takeCols l at_ cs.length = some (cs, at_ + (cs.flatMap colB).length)
  | [], l, r, at_, _, _ => rfl
  | c :: cs, l, r, at_, hq, h => by
    obtain ⟨hs, hk1, hk2⟩ := hq c (by simp)
    rw [List.flatMap_cons, List.append_assoc] at h
    have h0 : l.drop at_ = textL c.1 ++ ([UInt8.ofNat c.2.1.toNat, flagB c.2.2] ++ (cs.flatMap colB ++ r)) := by rw [h]; simp [colB]
    have h1 := takeT_drop (most := 24) hs (by omega) h0
    have h2 := drop_more h0
    obtain ⟨g1, g2, g3⟩ := drop_cons_iff (c := UInt8.ofNat c.2.1.toNat) (r := flagB c.2.2 :: (cs.flatMap colB ++ r)) (by simpa using h2)
    obtain ⟨g4, g5, g6⟩ := drop_cons_iff g3
    have hf : (flagB c.2.2).toNat ≤ 1 := by unfold flagB; split <;> decide
    have hkk : ((UInt8.ofNat c.2.1.toNat).toNat : Int) = c.2.1 := by
      have : c.2.1 = 1 ∨ c.2.1 = 2 ∨ c.2.1 = 3 := by omega
      rcases this with h | h | h <;> rw [h] <;> rfl
    have hfl : ((flagB c.2.2).toNat == 1) = c.2.2 := by unfold flagB; cases c.2.2 <;> rfl
    have ih := takeCols_drop cs (l := l) (r := r) (at_ := at_ + (textL c.1).length + 2) (fun c hc => hq c (by simp [hc])) (by rw [← g6])
    show takeCols l at_ (cs.length + 1) = _
    unfold takeCols
    rw [h1]
    simp only
    have hno : ¬ (l.length - (at_ + (textL c.1).length) < 2 ∨ 1 < (l.getD (at_ + (textL c.1).length + 1) 0).toNat) := by rw [g5]; omega
    rw [if_neg hno, ih, g2, g5]
    simp only [Option.map_some, Option.some.injEq, Prod.mk.injEq, sof_bl, hkk, hfl, true_and]
    simp only [List.flatMap_cons, colB, List.length_append, List.length_cons, List.length_nil]
    omega
theorem takeSch_drop {cs : List Col} (hR : rightCols cs = true) {l r : List UInt8} {at_ : Nat} (h : l.drop at_ = schL cs ++ r) : takeSch l (at_ : Int) = some (cs, at_ + (schL cs).length) := by
  have hl := right_len hR
  unfold schL at h
  rw [List.append_assoc] at h
  have h1 := takeN_drop (m := cs.length) (by omega) h
  have h2 := takeCols_drop cs (fun c hc => by obtain ⟨_, a, b, c⟩ := right_col hR hc; exact ⟨c, a, b⟩) (drop_more h)
  unfold takeSch
  rw [h1]
  simp only
  rw [if_neg (by omega), h2]
  simp only [hR, if_true, schL, List.length_append]
  congr 2
  omega
section
variable {cs : List Col} {rows : List (List Val)} {xs : List (List UInt8)}
end
section
variable {w : World} {a : Option Addr} {c : Nat} {l : List UInt8}
end
section
variable {w0 w : World} {H : List It} {a : Option Addr} {c : Nat} {cps : List RowP}
end
theorem takeSch_right {l : List UInt8} {at_ : Int} {r : List Col × Nat} (h : takeSch l at_ = some r) : rightCols r.1 = true := by
  unfold takeSch at h
  split at h
  · cases h
  · split at h
    · cases h
    · split at h
      · cases h
      · split at h
        · rename_i hR
          cases h
          exact hR
        · cases h
theorem nat_at {w : World} {a : Option Addr} {ns : List Nat} (h : Rd w a (ns.map fun n : Nat => Value.int .i64 (n : Int))) {i : Nat} (hi : i < ns.length) : ∃ p, a = some p ∧ w.cell? (p.add (i * 1)) = some (.int .i64 (ns[i] : Int)) := by
  obtain ⟨p, hp, hc⟩ := h i (.int .i64 (ns[i] : Int)) (by simp [hi])
  exact ⟨p, hp, by rw [Nat.mul_one]; exact hc⟩
theorem stAddRd {w0 w w' : World} {H : List It} {a : Option Addr} {xs : List Value} (S : ST w0 w H) (B : Below w.heap.size w w') (h : RdN w w' a xs) : ST w0 w' (It.rd a xs :: H) := by
  refine S.add B _ h.rd fun k hk => h.new k ?_
  cases xs with
  | nil => cases hk
  | cons x xs => exact hk
section
variable {w : World} {a : Option Addr} {c : Nat} {b : List UInt8}
end
section
variable {w : World}
end
section
variable {w : World} {g p : Addr} {cs : List Col} {cps : List RowP} {n : Nat}
end
theorem SegIs.len {cs : List Col} {rows : List (List Val)} {b : List UInt8} (hs : SegOk cs rows) (h : SegIs cs rows b) : b.length ≤ 40000000 := by
  obtain ⟨xs, h1, h2, rfl⟩ := h.ex
  have := h2.preLen hs
  have hd := digP_len (preL cs rows xs)
  unfold sealD
  rw [List.length_append, hd]
  omega
theorem flat_rows {f : Int → Value} {m : Nat} : ∀ (zss : List (List Int)) (cs : List Value), cs.length = zss.length * m → (∀ i (hi : i < zss.length), (cs.drop (i * m)).take m = zss[i].map f) → cs = zss.flatten.map f
  | [], cs, hl, _ => by
    have : cs = [] := List.eq_nil_of_length_eq_zero (by simpa using hl)
    rw [this]; rfl
  | z :: zs, cs, hl, h => by
    have h0 := h 0 (by simp)
    simp only [Nat.zero_mul, List.drop_zero, List.getElem_cons_zero] at h0
    have ih := flat_rows (m := m) zs (cs.drop m) (by rw [List.length_drop, hl, List.length_cons, Nat.add_mul]; omega) (fun i hi => by
      have := h (i + 1) (by simp; omega)
      rw [List.drop_drop]
      rw [show m + i * m = (i + 1) * m by rw [Nat.add_mul]; omega]
      exact this)
    rw [List.flatten_cons, List.map_append, ← h0, ← ih, List.take_append_drop]
theorem cells_of_tab2 {H : Type} {enc : TypeId × Value → H} {P : Program} {w : World} {base : Nat} {sp : Nat → Bool} {held : Bool} {fuel : Nat} {t e e2 : TypeId} {n m : Nat} {k : IntKind} {cs : List Value} {zss : List (List Int)} {p : List MemPlace}
    (ht : P.underlying t = some (.array n e)) (he : P.underlying e = some (.array m e2)) (he2 : P.underlying e2 = some (.int k)) (hc2 : P.cellsOf e2 = 1) (hce : P.cellsOf e = m) (hct : P.cellsOf t = n * m)
    (h : DataW.trod enc P w base sp held fuel t cs = some (.agg (zss.map (Lib.tabData k)), p)) : cs = zss.flatten.map fun z => Value.int k z := by
  cases fuel with
  | zero => simp [DataW.trod] at h
  | succ fuel =>
    simp only [DataW.trod, ht, hce, hct] at h
    split at h
    · rename_i hl
      obtain ⟨xs, hm, hx⟩ := Option.map_eq_some_iff.1 h
      have hxs : xs.map (·.1) = zss.map (Lib.tabData (H := H) k) := by
        have := congrArg Prod.fst hx
        simpa using this
      have hxl : xs.length = n := by simpa using Lib.mapM_length hm
      have hzl : zss.length = n := by
        have := congrArg List.length hxs
        simp at this
        omega
      refine flat_rows (m := m) zss cs (by rw [hl, hzl]) fun i hi => ?_
      have hin : i < n := by omega
      obtain ⟨b, hb, hf⟩ := Lib.mapM_at hm i i (by simp [hin])
      have h2 : (xs.map (·.1))[i]? = some b.1 := by simp [hb]
      rw [hxs, List.getElem?_map, List.getElem?_eq_getElem hi] at h2
      have h3 : b.1 = Lib.tabData k zss[i] := (Option.some.inj h2).symm
      obtain ⟨b1, b2⟩ := b
      simp only at h3
      subst h3
      exact Lib.cells_of_tab he he2 hc2 hce hf
    · cases h
theorem vars_rd {P : Program} {W : World} {name : String} {g : Nat} {cs : List Value} (hg : P.globalNamed name = some g) (h : W.var? P name = some cs.toArray) : Rd W (some ⟨g, 0, none⟩) cs := by
  intro j v hv
  refine ⟨_, rfl, ?_⟩
  rw [addr_add_blk, Nat.zero_add]
  have := World.var?_cell hg h j
  rw [this]
  simpa using hv
theorem tab2_of {P : Program} {W : World} {name : String} {k : IntKind} {zss : List (List Int)} {g : Nat} {t e e2 : TypeId} {n m : Nat} {rest : List (String × DataW Unit)}
    (hg : P.globalNamed name = some g) (hty : (P.globals[g]?).map (·.type) = some t) (ht : P.underlying t = some (.array n e)) (he : P.underlying e = some (.array m e2)) (he2 : P.underlying e2 = some (.int k)) (hc2 : P.cellsOf e2 = 1) (hce : P.cellsOf e = m) (hct : P.cellsOf t = n * m)
    (h : laidMet P ((name, .agg (zss.map (Lib.tabData k))) :: rest) W) : Rd W (some ⟨g, 0, none⟩) (zss.flatten.map fun z => Value.int k z) := by
  obtain ⟨ps, ⟨g', t', cs, fuel, p, q, hg', ht', hvar, hd, _, _⟩, _⟩ := h
  obtain rfl := Option.some.inj (hg.symm.trans hg')
  obtain rfl := Option.some.inj (hty.symm.trans ht')
  have e := cells_of_tab2 ht he he2 hc2 hce hct hd
  refine vars_rd hg ?_
  rw [hvar, ← e]
theorem tab1_of {P : Program} {W : World} {name : String} {k : IntKind} {zs : List Int} {g : Nat} {t e : TypeId} {n : Nat} {rest : List (String × DataW Unit)}
    (hg : P.globalNamed name = some g) (hty : (P.globals[g]?).map (·.type) = some t) (ht : P.underlying t = some (.array n e)) (he : P.underlying e = some (.int k)) (hce : P.cellsOf e = 1) (hct : P.cellsOf t = n)
    (h : laidMet P ((name, Lib.tabData k zs) :: rest) W) : Rd W (some ⟨g, 0, none⟩) (zs.map fun z => Value.int k z) := vars_rd hg (Lib.tabIs_of_head hg hty ht he hce hct h)
theorem tabs_of {W : World} {l : List (String × DataW Unit)} (h1 : (l.filter fun x => x.1 == "stackyard/hash.first") = [("stackyard/hash.first", Rows.laid_stackyard_hash_first)]) (h2 : (l.filter fun x => x.1 == "stackyard/hash.orders") = [("stackyard/hash.orders", Rows.laid_stackyard_hash_orders)])
    (h3 : (l.filter fun x => x.1 == "stackyard/hash.places") = [("stackyard/hash.places", Rows.laid_stackyard_hash_places)]) (h : laidMet Tryz.prog l W) : Tabs W := by
  have g1 := h.filter fun x => x.1 == "stackyard/hash.first"
  have g2 := h.filter fun x => x.1 == "stackyard/hash.orders"
  have g3 := h.filter fun x => x.1 == "stackyard/hash.places"
  rw [h1] at g1
  rw [h2] at g2
  rw [h3] at g3
  have e1 : (Rows.laid_stackyard_hash_first : DataW Unit) = Lib.tabData .u32 (firstL.map fun x => (x.toNat : Int)) := by rfl
  have e2 : (Rows.laid_stackyard_hash_orders : DataW Unit) = .agg (((List.range 10).map ordRow).map (Lib.tabData .u8)) := by rfl
  have e3 : (Rows.laid_stackyard_hash_places : DataW Unit) = .agg (((List.range 8).map fun i => (hplacesL.drop (i * 4)).take 4).map (Lib.tabData .u8)) := by rfl
  rw [e1] at g1
  rw [e2] at g2
  rw [e3] at g3
  have r1 := tab1_of (g := 0) (t := 216) (e := 184) (n := 8) (by kernel_rfl) (by kernel_rfl) (by kernel_rfl) (by kernel_rfl) (by kernel_rfl) (by kernel_rfl) g1
  have r2 := tab2_of (g := 1) (t := 297) (e := 296) (e2 := 5) (n := 10) (m := 16) (by kernel_rfl) (by kernel_rfl) (by kernel_rfl) (by kernel_rfl) (by kernel_rfl) (by kernel_rfl) (by kernel_rfl) (by kernel_rfl) g2
  have r3 := tab2_of (g := 2) (t := 299) (e := 298) (e2 := 5) (n := 8) (m := 4) (by kernel_rfl) (by kernel_rfl) (by kernel_rfl) (by kernel_rfl) (by kernel_rfl) (by kernel_rfl) (by kernel_rfl) (by kernel_rfl) g3
  have q2 : ((List.range 10).map ordRow).flatten = ordersL := by decide
  have q3 : ((List.range 8).map fun i => (hplacesL.drop (i * 4)).take 4).flatten = hplacesL := by decide
  rw [q2] at r2
  rw [q3] at r3
  exact ⟨by rw [List.map_map] at r1; exact r1, r2, r3⟩
end Go.Proofs.YtpnaifmmggnimaaGreatDoor
namespace Go.Proofs.YtpnaifmmggnimaaGreatDoor
set_option maxRecDepth 100000
open Go.Dn Go.Proofs
set_option linter.unusedVariables false
structure Seg (l : List UInt8) (a b : Nat) (x : List UInt8) : Prop where
  le : b ≤ l.length
  eq : l.drop a = x ++ l.drop b
  len : b = a + x.length
theorem Seg.nil {l : List UInt8} {a : Nat} (h : a ≤ l.length) : Seg l a a [] := ⟨h, rfl, rfl⟩
theorem Seg.append {l x y : List UInt8} {a b c : Nat} (h : Seg l a b x) (h' : Seg l b c y) : Seg l a c (x ++ y) :=
  ⟨h'.le, by rw [h.eq, h'.eq, List.append_assoc], by rw [h'.len, h.len, List.length_append]; omega⟩
theorem Seg.all {l x : List UInt8} {b : Nat} (h : Seg l 0 b x) (hb : b = l.length) : l = x := by
  have := h.eq
  rw [List.drop_zero, hb, List.drop_length, List.append_nil] at this
  exact this
theorem takeN_seg {l : List UInt8} {a n b : Nat} (h : takeN l (a : Int) = some (n, b)) : Seg l a b (digitsL n) := by
  have hb := takeN_bounds h
  unfold takeN at h
  rw [if_neg (by omega), Int.toNat_natCast] at h
  obtain ⟨x, hx, he⟩ := Option.map_eq_some_iff.1 h
  obtain ⟨n', k⟩ := x
  simp only [Prod.mk.injEq] at he
  obtain ⟨rfl, rfl⟩ := he
  obtain ⟨m, e1, e2, e3, _⟩ := readN_conv _ _ _ _ _ hx
  simp only [Nat.pow_zero, Nat.mul_one, Nat.zero_add] at e1 e2
  subst e1
  subst e2
  refine ⟨hb.2.2.2.1, ?_, rfl⟩
  conv => lhs; rw [e3]
  rw [List.drop_drop]
theorem drop_sub {l : List UInt8} {k n : Nat} (h : n ≤ l.length - k) (hk : k ≤ l.length) : Seg l k (k + n) ((l.drop k).take n) := by
  refine ⟨by omega, ?_, by rw [List.length_take, List.length_drop]; omega⟩
  rw [← List.drop_drop, List.take_append_drop]
theorem takeT_seg {l : List UInt8} {a most k : Nat} {s : List UInt8} (h : takeT l (a : Int) most = some (s, k)) : Seg l a k (textL (sof s)) ∧ s.length ≤ most ∧ s.length ≤ 1048576 := by
  unfold takeT at h
  cases hn : takeN l (a : Int) with
  | none => rw [hn] at h; cases h
  | some x =>
    obtain ⟨n, p⟩ := x
    rw [hn] at h
    simp only at h
    split at h
    · cases h
    · rename_i hno
      simp only [Option.some.injEq, Prod.mk.injEq] at h
      obtain ⟨rfl, rfl⟩ := h
      have h1 := takeN_seg hn
      have h2 := drop_sub (l := l) (k := p) (n := n) (by omega) h1.le
      have e : ((l.drop p).take n).length = n := by rw [List.length_take, List.length_drop]; omega
      refine ⟨?_, by omega, by omega⟩
      have := h1.append h2
      unfold textL
      rw [bl_sof, size_sof, e]
      exact this
theorem two_seg {l : List UInt8} {k : Nat} (h : 2 ≤ l.length - k) : Seg l k (k + 2) [l.getD k 0, l.getD (k + 1) 0] := by
  refine ⟨by omega, ?_, rfl⟩
  have h1 : k < l.length := by omega
  have h2 : k + 1 < l.length := by omega
  rw [List.drop_eq_getElem_cons h1, List.drop_eq_getElem_cons h2]
  simp [List.getD, h1, h2]
theorem takeCols_seg : ∀ (n : Nat) {l : List UInt8} {a k : Nat} {cs : List Col}, a ≤ l.length → takeCols l a n = some (cs, k) → Seg l a k (cs.flatMap colB) ∧ cs.length = n
  | 0, l, a, k, cs, ha, h => by
    simp only [takeCols, Option.some.injEq, Prod.mk.injEq] at h
    obtain ⟨rfl, rfl⟩ := h
    exact ⟨.nil ha, rfl⟩
  | n + 1, l, a, k, cs, ha, h => by
    unfold takeCols at h
    cases ht : takeT l (a : Int) 24 with
    | none => rw [ht] at h; cases h
    | some x =>
      obtain ⟨s, p⟩ := x
      rw [ht] at h
      simp only at h
      split at h
      · cases h
      · rename_i hno
        obtain ⟨r, hr, he⟩ := Option.map_eq_some_iff.1 h
        obtain ⟨rs, q⟩ := r
        simp only [Prod.mk.injEq] at he
        obtain ⟨rfl, rfl⟩ := he
        have h1 := (takeT_seg ht).1
        have h2 := two_seg (l := l) (k := p) (by omega)
        obtain ⟨h3, h4⟩ := takeCols_seg n (by omega) hr
        refine ⟨?_, by simp [h4]⟩
        have := (h1.append h2).append h3
        have e1 : UInt8.ofNat ((l.getD p 0).toNat : Int).toNat = l.getD p 0 := by simp
        have e2 : flagB ((l.getD (p + 1) 0).toNat == 1) = l.getD (p + 1) 0 := by
          have hle : (l.getD (p + 1) 0).toNat ≤ 1 := by omega
          generalize l.getD (p + 1) 0 = u at hle ⊢
          have hu : u = UInt8.ofNat u.toNat := by simp
          rcases Nat.le_one_iff_eq_zero_or_eq_one.1 hle with h | h <;> rw [h] at hu <;> subst hu <;> rfl
        rw [List.flatMap_cons]
        unfold colB
        simp only
        rw [e1, e2]
        exact this
theorem takeSch_seg {l : List UInt8} {a k : Nat} {cs : List Col} (h : takeSch l (a : Int) = some (cs, k)) : Seg l a k (schL cs) ∧ rightCols cs = true := by
  unfold takeSch at h
  cases hn : takeN l (a : Int) with
  | none => rw [hn] at h; cases h
  | some x =>
    obtain ⟨n, p⟩ := x
    rw [hn] at h
    simp only at h
    split at h
    · cases h
    · cases hc : takeCols l p n with
      | none => rw [hc] at h; cases h
      | some y =>
        obtain ⟨cs', q⟩ := y
        rw [hc] at h
        simp only at h
        split at h
        · rename_i hR
          simp only [Option.some.injEq, Prod.mk.injEq] at h
          obtain ⟨rfl, rfl⟩ := h
          have h1 := takeN_seg hn
          obtain ⟨h2, h3⟩ := takeCols_seg n h1.le hc
          refine ⟨?_, hR⟩
          unfold schL
          rw [h3]
          exact h1.append h2
        · cases h
def greatN : Nat := 4611686018427387904
def numR (l : List UInt8) (lo hi at_ : Nat) : Option (Nat × Nat) := (takeN l (at_ : Int)).bind fun x => if lo ≤ x.1 ∧ x.1 ≤ hi then some x else none
def nameR (l : List UInt8) (at_ : Nat) : Option (ByteArray × Nat) := (takeT l (at_ : Int) 64).bind fun x => if x.1.length = 64 then some (sof x.1, x.2) else none
abbrev Prt := ByteArray × Nat
abbrev Cli := Nat × Nat × Nat × Nat
def partR (l : List UInt8) (at_ : Nat) : Option (Prt × Nat) := (nameR l at_).bind fun x => (numR l 1 1024 x.2).map fun y => ((x.1, y.1), y.2)
def cliR (l : List UInt8) (at_ : Nat) : Option (Cli × Nat) :=
  (numR l 0 greatN at_).bind fun x => (numR l 1 greatN x.2).bind fun y => (numR l 0 1000 y.2).bind fun z => (numR l 0 greatN z.2).map fun u => ((x.1, y.1, z.1, u.1), u.2)
def manyR {α : Type} (rd : Nat → Option (α × Nat)) : Nat → Nat → Option (List α × Nat)
  | 0, at_ => some ([], at_)
  | n + 1, at_ => (manyR rd n at_).bind fun r => (rd r.2).map fun x => (r.1 ++ [x.1], x.2)
def colsR (l : List UInt8) (at_ : Nat) : Option (List Col × Nat) := (numR l 0 1 at_).bind fun x => if x.1 = 1 then takeSch l (x.2 : Int) else some ([], x.2)
structure Cat where
  cols : List Col
  parts : List Prt
  clis : List Cli
def catR (l : List UInt8) : Option (Cat × Nat) :=
  (colsR l 0).bind fun c => (numR l 0 256 c.2).bind fun n => (manyR (partR l) n.1 n.2).bind fun p => (numR l 0 64 p.2).bind fun m => (manyR (cliR l) m.1 m.2).map fun k => (⟨c.1, p.1, k.1⟩, k.2)
def encP (p : Prt) : List UInt8 := textL p.1 ++ digitsL p.2
def encC (c : Cli) : List UInt8 := digitsL c.1 ++ digitsL c.2.1 ++ digitsL c.2.2.1 ++ digitsL c.2.2.2
def hasL (cs : List Col) : List UInt8 := if cs = [] then digitsL 0 else digitsL 1 ++ schL cs
def midL (cs : List Col) (ps : List Prt) : List UInt8 := hasL cs ++ digitsL ps.length ++ ps.flatMap encP
def snapL (cs : List Col) (ps : List Prt) (ks : List Cli) : List UInt8 := midL cs ps ++ digitsL ks.length ++ ks.flatMap encC
def PrtOk (p : Prt) : Prop := p.1.size = 64 ∧ 1 ≤ p.2 ∧ p.2 ≤ 1024
def CliOk (c : Cli) : Prop := c.1 ≤ greatN ∧ (1 ≤ c.2.1 ∧ c.2.1 ≤ greatN) ∧ c.2.2.1 ≤ 1000 ∧ c.2.2.2 ≤ greatN
structure CatOk (c : Cat) : Prop where
  cols : c.cols = [] ∨ rightCols c.cols = true
  np : c.parts.length ≤ 256
  nc : c.clis.length ≤ 64
  parts : ∀ p ∈ c.parts, PrtOk p
  clis : ∀ k ∈ c.clis, CliOk k
theorem numR_seg {l : List UInt8} {lo hi a n b : Nat} (h : numR l lo hi a = some (n, b)) : Seg l a b (digitsL n) ∧ lo ≤ n ∧ n ≤ hi := by
  unfold numR at h
  obtain ⟨x, hx, h⟩ := Option.bind_eq_some_iff.1 h
  split at h
  · rename_i hc
    cases h
    exact ⟨takeN_seg hx, hc⟩
  · cases h
theorem nameR_seg {l : List UInt8} {a b : Nat} {s : ByteArray} (h : nameR l a = some (s, b)) : Seg l a b (textL s) ∧ s.size = 64 := by
  unfold nameR at h
  obtain ⟨x, hx, h⟩ := Option.bind_eq_some_iff.1 h
  split at h
  · rename_i hc
    cases h
    exact ⟨(takeT_seg hx).1, by rw [size_sof]; exact hc⟩
  · cases h
theorem partR_seg {l : List UInt8} {a b : Nat} {p : Prt} (h : partR l a = some (p, b)) : Seg l a b (encP p) ∧ PrtOk p := by
  unfold partR at h
  obtain ⟨x, hx, h⟩ := Option.bind_eq_some_iff.1 h
  obtain ⟨y, hy, h⟩ := Option.map_eq_some_iff.1 h
  simp only [Prod.mk.injEq] at h
  obtain ⟨rfl, rfl⟩ := h
  have h1 := nameR_seg hx
  have h2 := numR_seg hy
  exact ⟨h1.1.append h2.1, h1.2, h2.2⟩
theorem cliR_seg {l : List UInt8} {a b : Nat} {c : Cli} (h : cliR l a = some (c, b)) : Seg l a b (encC c) ∧ CliOk c := by
  unfold cliR at h
  obtain ⟨x, hx, h⟩ := Option.bind_eq_some_iff.1 h
  obtain ⟨y, hy, h⟩ := Option.bind_eq_some_iff.1 h
  obtain ⟨z, hz, h⟩ := Option.bind_eq_some_iff.1 h
  obtain ⟨u, hu, h⟩ := Option.map_eq_some_iff.1 h
  simp only [Prod.mk.injEq] at h
  obtain ⟨rfl, rfl⟩ := h
  have h1 := numR_seg hx
  have h2 := numR_seg hy
  have h3 := numR_seg hz
  have h4 := numR_seg hu
  exact ⟨((h1.1.append h2.1).append h3.1).append h4.1, h1.2.2, h2.2, h3.2.2, h4.2.2⟩
theorem manyR_seg {α : Type} {l : List UInt8} {rd : Nat → Option (α × Nat)} {enc : α → List UInt8} {Ok : α → Prop} (hr : ∀ a x b, rd a = some (x, b) → Seg l a b (enc x) ∧ Ok x) :
    ∀ (n : Nat) {a b : Nat} {xs : List α}, a ≤ l.length → manyR rd n a = some (xs, b) → Seg l a b (xs.flatMap enc) ∧ xs.length = n ∧ ∀ x ∈ xs, Ok x
  | 0, a, b, xs, ha, h => by
    simp only [manyR, Option.some.injEq, Prod.mk.injEq] at h
    obtain ⟨rfl, rfl⟩ := h
    exact ⟨.nil ha, rfl, by simp⟩
  | n + 1, a, b, xs, ha, h => by
    unfold manyR at h
    obtain ⟨r, h1, h⟩ := Option.bind_eq_some_iff.1 h
    obtain ⟨x, h2, h⟩ := Option.map_eq_some_iff.1 h
    simp only [Prod.mk.injEq] at h
    obtain ⟨rfl, rfl⟩ := h
    obtain ⟨g1, g2, g3⟩ := manyR_seg hr n ha h1
    obtain ⟨g4, g5⟩ := hr _ _ _ h2
    refine ⟨?_, by simp [g2], fun y hy => ?_⟩
    · rw [List.flatMap_append]
      simpa using g1.append g4
    · rcases List.mem_append.1 hy with h | h
      · exact g3 y h
      · rw [List.mem_singleton.1 h]; exact g5
theorem right_ne {cs : List Col} (h : rightCols cs = true) : cs ≠ [] := by
  intro e
  have := right_len h
  rw [e] at this
  simp at this
theorem colsR_seg {l : List UInt8} {a b : Nat} {cs : List Col} (h : colsR l a = some (cs, b)) : Seg l a b (hasL cs) ∧ (cs = [] ∨ rightCols cs = true) := by
  unfold colsR at h
  obtain ⟨x, hx, h⟩ := Option.bind_eq_some_iff.1 h
  have h1 := numR_seg hx
  split at h
  · rename_i hc
    have h2 := takeSch_seg h
    rw [hc] at h1
    refine ⟨?_, .inr h2.2⟩
    rw [hasL, if_neg (right_ne h2.2)]
    exact h1.1.append h2.1
  · rename_i hc
    cases h
    have : x.1 = 0 := by omega
    rw [this] at h1
    exact ⟨by rw [hasL, if_pos rfl]; exact h1.1, .inl rfl⟩
theorem catR_seg {l : List UInt8} {c : Cat} {b : Nat} (h : catR l = some (c, b)) : Seg l 0 b (snapL c.cols c.parts c.clis) ∧ CatOk c := by
  unfold catR at h
  obtain ⟨x, hx, h⟩ := Option.bind_eq_some_iff.1 h
  obtain ⟨y, hy, h⟩ := Option.bind_eq_some_iff.1 h
  obtain ⟨z, hz, h⟩ := Option.bind_eq_some_iff.1 h
  obtain ⟨u, hu, h⟩ := Option.bind_eq_some_iff.1 h
  obtain ⟨v, hv, h⟩ := Option.map_eq_some_iff.1 h
  simp only [Prod.mk.injEq] at h
  obtain ⟨rfl, rfl⟩ := h
  have h1 := colsR_seg hx
  have h2 := numR_seg hy
  have h3 := manyR_seg (fun a p b => partR_seg) _ h2.1.le hz
  have h4 := numR_seg hu
  have h5 := manyR_seg (fun a p b => cliR_seg) _ h4.1.le hv
  refine ⟨?_, h1.2, by rw [h3.2.1]; exact h2.2.2, by rw [h5.2.1]; exact h4.2.2, h3.2.2, h5.2.2⟩
  unfold snapL midL
  simp only [h3.2.1, h5.2.1]
  exact (((h1.1.append h2.1).append h3.1).append h4.1).append h5.1
theorem digits_cut {a b : Nat} (ha : a < 18446744073709551616) (hb : b < 18446744073709551616) {x y : List UInt8} (h : digitsL a ++ x = digitsL b ++ y) : a = b ∧ x = y := by
  have h1 := takeN_drop (l := digitsL a ++ x) (r := x) (at_ := 0) ha (by simp)
  have h2 := takeN_drop (l := digitsL b ++ y) (r := y) (at_ := 0) hb (by simp)
  rw [h] at h1
  rw [h2] at h1
  simp only [Option.some.injEq, Prod.mk.injEq] at h1
  obtain ⟨e, _⟩ := h1
  subst e
  exact ⟨rfl, List.append_cancel_left h⟩
theorem encC_cut {c d : Cli} (hc : CliOk c) (hd : CliOk d) {x y : List UInt8} (h : encC c ++ x = encC d ++ y) : c = d ∧ x = y := by
  obtain ⟨c1, c2, c3, c4⟩ := c
  obtain ⟨d1, d2, d3, d4⟩ := d
  obtain ⟨a1, a2, a3, a4⟩ := hc
  obtain ⟨b1, b2, b3, b4⟩ := hd
  simp only [greatN] at a1 a2 a3 a4 b1 b2 b3 b4
  simp only [encC, List.append_assoc] at h
  have h1 := digits_cut (by omega) (by omega) h
  have h2 := digits_cut (by omega) (by omega) h1.2
  have h3 := digits_cut (by omega) (by omega) h2.2
  have h4 := digits_cut (by omega) (by omega) h3.2
  exact ⟨by rw [h1.1, h2.1, h3.1, h4.1], h4.2⟩
theorem flat_cut : ∀ {k m : List Cli}, (∀ c ∈ k, CliOk c) → (∀ c ∈ m, CliOk c) → k.length = m.length → k.flatMap encC = m.flatMap encC → k = m
  | [], [], _, _, _, _ => rfl
  | [], _ :: _, _, _, h, _ => by cases h
  | _ :: _, [], _, _, h, _ => by cases h
  | c :: k, d :: m, hk, hm, hl, h => by
    rw [List.flatMap_cons, List.flatMap_cons] at h
    have h1 := encC_cut (hk c (by simp)) (hm d (by simp)) h
    rw [h1.1, flat_cut (fun x hx => hk x (by simp [hx])) (fun x hx => hm x (by simp [hx])) (by simpa using hl) h1.2]
theorem snap_cut {cs : List Col} {ps : List Prt} {k m : List Cli} (hk : ∀ c ∈ k, CliOk c) (hm : ∀ c ∈ m, CliOk c) (lk : k.length ≤ 64) (lm : m.length ≤ 64) (h : snapL cs ps k = snapL cs ps m) : k = m := by
  unfold snapL at h
  simp only [List.append_assoc] at h
  have h1 := digits_cut (by omega) (by omega) (List.append_cancel_left h)
  exact flat_cut hk hm h1.1 h1.2
def mapOf (k : List Cli) (i : Nat) : Option (Nat × Nat × Nat) := (k.reverse.find? fun c => decide (c.1 = i)).map (·.2)
theorem mapOf_snoc (k : List Cli) (c : Cli) (i : Nat) : mapOf (k ++ [c]) i = if i = c.1 then some c.2 else mapOf k i := by
  unfold mapOf
  rw [List.reverse_append]
  simp only [List.reverse_cons, List.reverse_nil, List.nil_append, List.cons_append, List.find?_cons]
  by_cases h : i = c.1
  · subst h; simp
  · have hne : ¬ c.1 = i := fun e => h e.symm
    simp [h, hne]
theorem mapOf_mem {k : List Cli} {i : Nat} {x : Nat × Nat × Nat} (h : mapOf k i = some x) : (i, x) ∈ k := by
  unfold mapOf at h
  obtain ⟨c, hc, rfl⟩ := Option.map_eq_some_iff.1 h
  have h1 := List.find?_some hc
  have h2 := List.mem_of_find?_eq_some hc
  simp only [decide_eq_true_eq] at h1
  subst h1
  exact List.mem_reverse.1 h2
theorem mapOf_some {k : List Cli} {i : Nat} : (mapOf k i).isSome = true ↔ i ∈ k.map (·.1) := by
  constructor
  · intro h
    obtain ⟨x, hx⟩ := Option.isSome_iff_exists.1 h
    exact List.mem_map.2 ⟨_, mapOf_mem hx, rfl⟩
  · intro h
    obtain ⟨c, hc, rfl⟩ := List.mem_map.1 h
    unfold mapOf
    rw [Option.isSome_map, List.find?_isSome]
    exact ⟨c, List.mem_reverse.2 hc, by simp⟩
def Rising (k : List Cli) : Prop := (k.map (·.1)).Pairwise (· < ·)
theorem rise_eq : ∀ {x y : List Nat}, x.Pairwise (· < ·) → y.Pairwise (· < ·) → (∀ i, i ∈ x ↔ i ∈ y) → x = y
  | [], [], _, _, _ => rfl
  | [], b :: y, _, _, h => by have := (h b).2 (by simp); cases this
  | a :: x, [], _, _, h => by have := (h a).1 (by simp); cases this
  | a :: x, b :: y, hx, hy, h => by
    rw [List.pairwise_cons] at hx hy
    have hab : a = b := by
      rcases Nat.lt_trichotomy a b with hl | he | hl
      · have := (h a).1 (by simp)
        rcases List.mem_cons.1 this with e | e
        · exact e
        · have := hy.1 a e; omega
      · exact he
      · have := (h b).2 (by simp)
        rcases List.mem_cons.1 this with e | e
        · exact e.symm
        · have := hx.1 b e; omega
    subst hab
    congr 1
    refine rise_eq hx.2 hy.2 fun i => ?_
    constructor
    · intro hi
      rcases List.mem_cons.1 ((h i).1 (by simp [hi])) with e | e
      · have := hx.1 i hi; omega
      · exact e
    · intro hi
      rcases List.mem_cons.1 ((h i).2 (by simp [hi])) with e | e
      · have := hy.1 i hi; omega
      · exact e
def cliOf (g : Nat → Option (Nat × Nat × Nat)) (ids : List Nat) : List Cli := ids.map fun i => (i, (g i).getD (0, 0, 0))
theorem cliOf_ids (g : Nat → Option (Nat × Nat × Nat)) (ids : List Nat) : (cliOf g ids).map (·.1) = ids := by
  unfold cliOf
  rw [List.map_map]
  exact List.map_id _
theorem cliOf_mem {k : List Cli} {ids : List Nat} (hm : ∀ i, i ∈ ids ↔ (mapOf k i).isSome = true) {c : Cli} (h : c ∈ cliOf (mapOf k) ids) : c ∈ k := by
  unfold cliOf at h
  obtain ⟨i, hi, rfl⟩ := List.mem_map.1 h
  obtain ⟨x, hx⟩ := Option.isSome_iff_exists.1 ((hm i).1 hi)
  rw [hx]
  exact mapOf_mem hx
theorem rising_nodup {k : List Cli} (h : Rising k) {c d : Cli} (hc : c ∈ k) (hd : d ∈ k) (e : c.1 = d.1) : c = d := by
  unfold Rising at h
  induction k with
  | nil => cases hc
  | cons a k ih =>
    rw [List.map_cons, List.pairwise_cons] at h
    rcases List.mem_cons.1 hc with e1 | hc'
    · rcases List.mem_cons.1 hd with e2 | hd'
      · rw [e1, e2]
      · have := h.1 d.1 (List.mem_map.2 ⟨d, hd', rfl⟩)
        rw [e1] at e
        omega
    · rcases List.mem_cons.1 hd with e2 | hd'
      · have := h.1 c.1 (List.mem_map.2 ⟨c, hc', rfl⟩)
        rw [e2] at e
        omega
      · exact ih h.2 hc' hd'
theorem cliOf_rise {k : List Cli} {ids : List Nat} (hs : ids.Pairwise (· < ·)) (hm : ∀ i, i ∈ ids ↔ (mapOf k i).isSome = true) : cliOf (mapOf k) ids = k ↔ Rising k := by
  constructor
  · intro h
    unfold Rising
    rw [← h, cliOf_ids]
    exact hs
  · intro h
    have e : ids = k.map (·.1) := rise_eq hs h fun i => (hm i).trans mapOf_some
    rw [e]
    unfold cliOf
    rw [List.map_map]
    conv => rhs; rw [← List.map_id k]
    refine List.map_congr_left fun c hc => ?_
    obtain ⟨x, hx⟩ := Option.isSome_iff_exists.1 (mapOf_some.2 (List.mem_map.2 ⟨c, hc, rfl⟩))
    have := rising_nodup h (mapOf_mem hx) hc rfl
    simp only [Function.comp, hx, Option.getD_some, id]
    exact this
theorem takeV_good {l : List UInt8} {at_ : Int} {v : Val} {k : Nat} (h : takeV l at_ = some (v, k)) : ValOk v := by
  unfold takeV at h
  split at h
  · cases h
  · simp only at h
    split at h
    · cases h; exact ⟨by decide, by decide⟩
    · split at h
      · obtain ⟨x, hx, he⟩ := Option.map_eq_some_iff.1 h
        have := takeN_bounds (n := x.1) (k := x.2) hx
        have hr := unzig_range this.1
        cases he
        exact ⟨hr.1, hr.2⟩
      · split at h
        · split at h
          · rename_i h2
            cases h
            exact ⟨by simp only; omega, by simp only; omega⟩
          · cases h
        · split at h
          · obtain ⟨x, hx, he⟩ := Option.map_eq_some_iff.1 h
            cases he
            exact ⟨by simp only; omega, by simp only; omega⟩
          · cases h
theorem manyR_none {α : Type} {rd : Nat → Option (α × Nat)} {a i : Nat} (h : manyR rd i a = none) : ∀ {n : Nat}, i ≤ n → manyR rd n a = none := by
  intro n hn
  obtain ⟨d, rfl⟩ := Nat.exists_eq_add_of_le hn
  clear hn
  induction d with
  | zero => exact h
  | succ d ih => rw [Nat.add_succ]; unfold manyR; rw [ih]; rfl
theorem manyR_step {α : Type} {rd : Nat → Option (α × Nat)} {a i b : Nat} {xs : List α} (h : manyR rd i a = some (xs, b)) : manyR rd (i + 1) a = (rd b).map fun x => (xs ++ [x.1], x.2) := by
  show (manyR rd i a).bind _ = _
  rw [h]
  rfl
theorem manyR_len {α : Type} {rd : Nat → Option (α × Nat)} : ∀ (n : Nat) {a b : Nat} {xs : List α}, manyR rd n a = some (xs, b) → xs.length = n
  | 0, a, b, xs, h => by
    simp only [manyR, Option.some.injEq, Prod.mk.injEq] at h
    rw [← h.1]
    rfl
  | n + 1, a, b, xs, h => by
    unfold manyR at h
    obtain ⟨r, h1, h⟩ := Option.bind_eq_some_iff.1 h
    obtain ⟨x, h2, h⟩ := Option.map_eq_some_iff.1 h
    simp only [Prod.mk.injEq] at h
    rw [← h.1, List.length_append, manyR_len n h1]
    rfl
theorem manyR_all {α : Type} {rd : Nat → Option (α × Nat)} {Q : α → Nat → Prop} (hr : ∀ a x b, rd a = some (x, b) → Q x b) :
    ∀ (n : Nat) {a b : Nat} {xs : List α}, manyR rd n a = some (xs, b) → (∀ x ∈ xs, ∃ k, Q x k) ∧ (n = 0 ∧ b = a ∨ ∃ x, Q x b)
  | 0, a, b, xs, h => by
    simp only [manyR, Option.some.injEq, Prod.mk.injEq] at h
    obtain ⟨rfl, rfl⟩ := h
    exact ⟨by simp, .inl ⟨rfl, rfl⟩⟩
  | n + 1, a, b, xs, h => by
    unfold manyR at h
    obtain ⟨r, h1, h⟩ := Option.bind_eq_some_iff.1 h
    obtain ⟨x, h2, h⟩ := Option.map_eq_some_iff.1 h
    simp only [Prod.mk.injEq] at h
    obtain ⟨rfl, rfl⟩ := h
    refine ⟨fun y hy => ?_, .inr ⟨x.1, hr _ _ _ h2⟩⟩
    rcases List.mem_append.1 hy with hy | hy
    · exact (manyR_all hr n h1).1 y hy
    · rw [List.mem_singleton.1 hy]; exact ⟨_, hr _ _ _ h2⟩
theorem drop_app {l x r : List UInt8} {a : Nat} (h : l.drop a = x ++ r) : l.drop (a + x.length) = r := by
  rw [← List.drop_drop, h, List.drop_left]
theorem manyR_drop {α : Type} {l : List UInt8} {rd : Nat → Option (α × Nat)} {enc : α → List UInt8} {xs : List α} {a : Nat} {r : List UInt8} (hr : ∀ x ∈ xs, ∀ b r, l.drop b = enc x ++ r → rd b = some (x, b + (enc x).length)) (h : l.drop a = xs.flatMap enc ++ r) :
    manyR rd xs.length a = some (xs, a + (xs.flatMap enc).length) := by
  have key : ∀ k, k ≤ xs.length → manyR rd k a = some (xs.take k, a + ((xs.take k).flatMap enc).length) := by
    intro k
    induction k with
    | zero => intro _; simp [manyR]
    | succ k ih =>
      intro hk
      have hk' : k < xs.length := hk
      rw [manyR_step (ih (by omega))]
      have e : l.drop a = (xs.take k).flatMap enc ++ (enc xs[k] ++ ((xs.drop (k + 1)).flatMap enc ++ r)) := by
        rw [h]
        conv => lhs; rw [← List.take_append_drop k xs, List.drop_eq_getElem_cons hk', List.flatMap_append, List.flatMap_cons]
        simp only [List.append_assoc]
      rw [hr _ (List.getElem_mem hk') _ _ (drop_app e)]
      rw [List.take_succ_eq_append_getElem hk', List.flatMap_append]
      simp only [Option.map_some, List.flatMap_cons, List.flatMap_nil, List.append_nil, List.length_append]
      rw [Nat.add_assoc]
  have := key xs.length (Nat.le_refl _)
  rwa [List.take_length] at this
def rowL (r : List Val) : List UInt8 := r.flatMap layL
def rowsL (rows : List (List Val)) : List UInt8 := digitsL rows.length ++ rows.flatMap rowL
def rowR (l : List UInt8) (cs : List Col) (at_ : Nat) : Option (List Val × Nat) := (manyR (fun a => takeV l (a : Int)) cs.length at_).bind fun r => if fitsB cs r.1 then some r else none
def takeRows (l : List UInt8) (cs : List Col) (at_ : Int) : Option (List (List Val) × Nat) :=
  if rightCols cs then (takeN l at_).bind fun n => if n.1 ≤ 1024 then manyR (rowR l cs) n.1 n.2 else none else none
theorem takeRows_ok {l : List UInt8} {cs : List Col} {at_ : Int} {rows : List (List Val)} {k : Nat} (h : takeRows l cs at_ = some (rows, k)) : SegOk cs rows ∧ k ≤ l.length := by
  unfold takeRows at h
  split at h
  · rename_i hR
    obtain ⟨n, hn, h⟩ := Option.bind_eq_some_iff.1 h
    split at h
    · rename_i h4
      have hb := takeN_bounds (n := n.1) (k := n.2) hn
      have hl := manyR_len _ h
      have h5 := manyR_all (Q := fun r b => fitsB cs r = true ∧ (∀ v ∈ r, ValOk v) ∧ b ≤ l.length) (fun a x b hx => by
        unfold rowR at hx
        obtain ⟨y, hy, hx⟩ := Option.bind_eq_some_iff.1 hx
        split at hx
        · rename_i hf
          cases hx
          have h6 := manyR_all (Q := fun v b => ValOk v ∧ b ≤ l.length) (fun a x b hx => ⟨takeV_good hx, takeV_le hx⟩) _ hy
          refine ⟨hf, fun v hv => ?_, ?_⟩
          · obtain ⟨_, h7, _⟩ := h6.1 v hv
            exact h7
          · rcases h6.2 with ⟨h8, _⟩ | ⟨_, _, h8⟩
            · have := (right_len hR).1; omega
            · exact h8
        · cases hx) _ h
      refine ⟨⟨hR, by omega, fun r hr => ?_, fun r hr => ?_⟩, ?_⟩
      · obtain ⟨_, h6, _⟩ := h5.1 r hr; exact h6
      · obtain ⟨_, _, h6, _⟩ := h5.1 r hr; exact h6
      · rcases h5.2 with ⟨_, h6⟩ | ⟨_, _, _, h6⟩
        · omega
        · exact h6
    · cases h
  · cases h
theorem takeRows_drop {l r : List UInt8} {cs : List Col} {rows : List (List Val)} {at_ : Nat} (hs : SegOk cs rows) (h : l.drop at_ = rowsL rows ++ r) : takeRows l cs (at_ : Int) = some (rows, at_ + (rowsL rows).length) := by
  unfold takeRows
  have hlen := hs.len
  unfold rowsL at h ⊢
  rw [List.append_assoc] at h
  rw [if_pos hs.right, takeN_drop (by omega) h, Option.bind_some, if_pos hlen]
  simp only
  rw [manyR_drop (enc := rowL) (r := r) (fun x hx b r' hb => ?_) (drop_app h)]
  · rw [List.length_append, Nat.add_assoc]
  · unfold rowR
    have hf := hs.fits x hx
    have hl := fits_len hf
    rw [← hl, manyR_drop (enc := layL) (r := r') (fun v hv b2 r2 h2 => ?_) hb]
    · rw [Option.bind_some, if_pos hf]
      rfl
    · refine takeV_drop ?_ (hs.ok x hx v hv) h2
      obtain ⟨i, hi, rfl⟩ := List.mem_iff_getElem.1 hv
      have := fits_at hf (by omega) hi
      simp only [fitV, Bool.and_eq_true] at this
      exact this.1
theorem row_len {cs : List Col} {rows : List (List Val)} (hs : SegOk cs rows) {r : List Val} (hr : r ∈ rows) : (rowL r).length ≤ 16640 := by
  have hf := hs.fits r hr
  have hl := fits_len hf
  have h16 := (right_len hs.right).2
  have key : ∀ (r' : List Val), (∀ v ∈ r', rightB v = true ∧ ValOk v) → (rowL r').length ≤ r'.length * 1040 := by
    intro r'
    induction r' with
    | nil => intro _; simp [rowL]
    | cons v r' ih =>
      intro h
      have h1 := layL_len (h v (by simp)).1 (h v (by simp)).2
      have h2 := ih (fun x hx => h x (by simp [hx]))
      unfold rowL at h2 ⊢
      rw [List.flatMap_cons, List.length_append, List.length_cons]
      omega
  have := key r fun v hv => by
    obtain ⟨i, hi, rfl⟩ := List.mem_iff_getElem.1 hv
    have := fits_at hf (by omega) hi
    simp only [fitV, Bool.and_eq_true] at this
    exact ⟨this.1, hs.ok r hr _ (List.getElem_mem hi)⟩
  have : r.length * 1040 ≤ 16 * 1040 := Nat.mul_le_mul_right _ (by omega)
  omega
theorem rowsL_len {cs : List Col} {rows : List (List Val)} (hs : SegOk cs rows) {i : Nat} : ((rows.take i).flatMap rowL).length ≤ 17039360 := by
  have key : ∀ (rs : List (List Val)), (∀ r ∈ rs, (rowL r).length ≤ 16640) → (rs.flatMap rowL).length ≤ rs.length * 16640 := by
    intro rs
    induction rs with
    | nil => intro _; simp
    | cons r rs ih =>
      intro h
      have h1 := h r (by simp)
      have h2 := ih (fun x hx => h x (by simp [hx]))
      rw [List.flatMap_cons, List.length_append, List.length_cons]
      omega
  have h1 := key (rows.take i) fun r hr => row_len hs (List.mem_of_mem_take hr)
  have h2 := hs.len
  have h3 : (rows.take i).length ≤ 1024 := by rw [List.length_take]; omega
  omega
end Go.Proofs.YtpnaifmmggnimaaGreatDoor
namespace Go.Proofs.YtpnaifmmggnimaaGreatDoor
set_option maxRecDepth 100000
open Go.Dn Go.Proofs
open Go.RowKit (Below)
set_option linter.unusedVariables false
def rdrI (b : Nat) (a : Option Addr) (n c at_ : Nat) (bad : Bool) : It := It.cells b #[.slice a n c, .int .i64 (at_ : Int), .bool bad] ty.catalog_reader
def Got {α : Type} (bad bad' : Bool) (o : Option α) (x : α) : Prop := (bad' = false ∧ bad = false ∧ o = some x) ∨ (bad' = true ∧ (bad = true ∨ o = none))
theorem Got.bind {α β : Type} {b0 b1 b2 : Bool} {o : Option α} {x : α} {g : α → Option β} {y : β} (h : Got b0 b1 o x) (h2 : Got b1 b2 (g x) y) : Got b0 b2 (o.bind g) y := by
  rcases h2 with ⟨h3, h4, h5⟩ | ⟨h3, h4⟩
  · subst h4
    rcases h with ⟨_, h6, rfl⟩ | ⟨h6, _⟩
    · exact .inl ⟨h3, h6, h5⟩
    · cases h6
  · refine .inr ⟨h3, ?_⟩
    rcases h with ⟨h5, _, rfl⟩ | ⟨_, h5 | h5⟩
    · rcases h4 with h4 | h4
      · rw [h5] at h4; cases h4
      · exact .inr h4
    · exact .inl h5
    · exact .inr (by rw [h5]; rfl)
theorem Got.map {α β : Type} {b0 b1 : Bool} {o : Option α} {x : α} (g : α → β) (h : Got b0 b1 o x) : Got b0 b1 (o.map g) (g x) := by
  rcases h with ⟨h1, h2, rfl⟩ | ⟨h1, h2⟩
  · exact .inl ⟨h1, h2, rfl⟩
  · exact .inr ⟨h1, h2.imp id fun h => by rw [h]; rfl⟩
theorem Got.ok {α : Type} {bad : Bool} {o : Option α} {x : α} (h : Got bad false o x) : bad = false ∧ o = some x := by
  rcases h with ⟨_, h1, h2⟩ | ⟨h, _⟩
  · exact ⟨h1, h2⟩
  · cases h
theorem Got.no {α : Type} {bad : Bool} {o : Option α} {x : α} (h : Got bad true o x) : bad = true ∨ o = none := by
  rcases h with ⟨h, _⟩ | ⟨_, h⟩
  · cases h
  · exact h
section
variable {w0 w : World} {H : List It} {b : Nat} {a : Option Addr} {c at_ : Nat} {bad : Bool} {l : List UInt8}
theorem rnumber_ok (S : ST w0 w H) (n m : Nat) (hn : H[n]? = some (rdrI b a l.length c at_ bad)) (hm : H[m]? = some (It.rd a (l.map byteV))) (hc : l.length ≤ c) (hs : l.length ≤ 140737488355328) (lo hi : Nat) (hhi : hi ≤ greatN) :
    Calls Tryz.prog f.catalog_reader_number #[.pointer (some ⟨b, 0, none⟩), .int .i64 (lo : Int), .int .i64 (hi : Int)] w (Ret fun v w' => ∃ (z at' : Nat) (bad' : Bool), v = .int .i64 (z : Int) ∧ ST w0 w' (H.set n (rdrI b a l.length c at' bad')) ∧ Got bad bad' (numR l lo hi at_) (z, at') ∧ (bad' = true → z = 0)) := by
  apply R.catalog_reader_number_calls
  unfold R.catalog_reader_number
  refine S.draw fun w1 B1 S => ?_
  refine ⟨_, _, _, S.cell n hn rfl, _, S.cell n hn rfl, ?_⟩
  refine (wire_TakeNumber_ok (S.get m hm) hc (by omega) (at_ : Int)).mono ?_
  rintro _ w2 ⟨_, rfl, rfl, rfl⟩
  obtain ⟨n0, k0, e0, hv, hk, hn0, hx⟩ := num_open _ (rfl : takeN l (at_ : Int) = takeN l (at_ : Int))
  rw [hv]
  refine ⟨_, _, _, rfl, _, S.cell n hn rfl, ?_⟩
  have fail : (bad = true ∨ numR l lo hi at_ = none) → STO (Addr.add ⟨b, 0, none⟩ 2) (.bool true) (fun w' => ∃ (z at' : Nat) (bad' : Bool), Value.int .i64 0 = .int .i64 (z : Int) ∧ ST w0 w' (H.set n (rdrI b a l.length c at' bad')) ∧ Got bad bad' (numR l lo hi at_) (z, at') ∧ (bad' = true → z = 0)) w2 := fun h =>
    S.sto n hn (i := 2) (cs' := #[.slice a l.length c, .int .i64 (at_ : Int), .bool true]) (by simp) rfl fun w3 S => ⟨0, at_, true, rfl, S, .inr ⟨rfl, h⟩, fun _ => rfl⟩
  refine IFB_of (fun hb => fail (.inl hb)) (fun hb => ?_)
  subst hb
  refine IFB_ne (fun h => fail (.inr ?_)) (fun h => ?_)
  · rcases hx with ⟨h2, _⟩ | ⟨_, h2⟩
    · exact absurd h2 h
    · simp [numR, h2]
  have hx' : takeN l (at_ : Int) = some (n0, k0) := by
    rcases hx with ⟨_, h2⟩ | ⟨h2, _⟩
    · exact h2
    · exact absurd h h2
  have hR : numR l lo hi at_ = if lo ≤ n0 ∧ n0 ≤ hi then some (n0, k0) else none := by simp [numR, hx']
  unfold greatN at hhi
  refine IFB_dec (fun h => fail (.inr ?_)) (fun h1 => ?_)
  · rw [hR, if_neg (by omega)]
  rw [wrap_i64 (by omega) (by omega)]
  refine IFB_dec (fun h => fail (.inr ?_)) (fun h2 => IFB_dec (fun h => fail (.inr ?_)) (fun h3 => ?_))
  · rw [hR, if_neg (by omega)]
  · rw [hR, if_neg (by omega)]
  rw [if_pos (by omega)] at hR
  exact S.sto n hn (i := 1) (cs' := #[.slice a l.length c, .int .i64 (k0 : Int), .bool false]) (by simp) rfl fun w3 S => ⟨n0, k0, false, rfl, S, .inl ⟨rfl, rfl, hR⟩, fun h => by cases h⟩
theorem rschema_ok (S : ST w0 w H) (n m : Nat) (hn : H[n]? = some (rdrI b a l.length c at_ bad)) (hm : H[m]? = some (It.rd a (l.map byteV))) (hc : l.length ≤ c) (hs : l.length ≤ 140737488355328) :
    Calls Tryz.prog f.catalog_reader_schema #[.pointer (some ⟨b, 0, none⟩)] w (Ret fun v w' => ∃ (ca : Option Addr) (cc : Nat) (cs : List Col) (at' : Nat) (bad' : Bool), v = .slice ca cs.length cc ∧ ST w0 w' (colsI ca cc cs :: H.set n (rdrI b a l.length c at' bad')) ∧ Got bad bad' (takeSch l (at_ : Int)) (cs, at') ∧ (bad' = true → ca = none ∧ cs = [])) := by
  apply R.catalog_reader_schema_calls
  unfold R.catalog_reader_schema
  refine S.draw fun w1 B1 S => ?_
  refine ⟨_, _, _, S.cell n hn rfl, _, S.cell n hn rfl, ?_⟩
  refine (schema_Take_ok (S.get m hm) hc (by omega) (at_ : Int)).mono ?_
  rintro _ w2 ⟨_, rfl, hx⟩
  have fail : ∀ {wx : World}, ST w0 wx H → (bad = true ∨ takeSch l (at_ : Int) = none) → STO (Addr.add ⟨b, 0, none⟩ 2) (.bool true) (fun w' => ∃ (ca : Option Addr) (cc : Nat) (cs : List Col) (at' : Nat) (bad' : Bool), Value.slice none 0 0 = .slice ca cs.length cc ∧ ST w0 w' (colsI ca cc cs :: H.set n (rdrI b a l.length c at' bad')) ∧ Got bad bad' (takeSch l (at_ : Int)) (cs, at') ∧ (bad' = true → ca = none ∧ cs = [])) wx := fun S h =>
    S.sto n hn (i := 2) (cs' := #[.slice a l.length c, .int .i64 (at_ : Int), .bool true]) (by simp) rfl fun w3 S => ⟨none, 0, [], at_, true, rfl, S.nil _ _, .inr ⟨rfl, h⟩, fun _ => ⟨rfl, rfl⟩⟩
  cases ho : takeSch l (at_ : Int) with
  | none =>
    rw [ho] at hx fail
    obtain ⟨rfl, B⟩ := hx
    have S := S.grown B
    exact ⟨_, _, _, _, _, rfl, _, S.cell n hn rfl, IFB_of (fun hb => fail S (.inl hb)) (fun hb => IFB_ne (fun h => fail S (.inr rfl)) (fun h => by cases h))⟩
  | some x =>
    rw [ho] at hx fail
    obtain ⟨a', c', rfl, T⟩ := hx
    have hn' : ([colsI a' c' x.1] ++ H)[n + 1]? = some (rdrI b a l.length c at_ bad) := by simpa using hn
    have S := S.join T
    refine ⟨_, _, _, _, _, rfl, _, S.cell (n + 1) hn' rfl, ?_⟩
    refine IFB_of (fun hb => fail (S.drop 1) (.inl hb)) (fun hb => ?_)
    subst hb
    exact IFB_ne (fun h => absurd rfl h) (fun h => S.sto (n + 1) hn' (i := 1) (cs' := #[.slice a l.length c, .int .i64 (x.2 : Int), .bool false]) (by simp) rfl fun w3 S => ⟨a', c', x.1, x.2, false, rfl, S, .inl ⟨rfl, rfl, rfl⟩, fun h => by cases h⟩)
theorem rwhole_ok (S : ST w0 w H) (n : Nat) (hn : H[n]? = some (rdrI b a l.length c at_ bad)) :
    Calls Tryz.prog f.catalog_reader_whole #[.pointer (some ⟨b, 0, none⟩)] w (Ret fun v w' => v = .bool (!bad && decide (at_ = l.length)) ∧ ST w0 w' H) := by
  apply R.catalog_reader_whole_calls
  unfold R.catalog_reader_whole
  refine S.draw fun w1 B1 S => ⟨_, S.cell n hn rfl, ?_⟩
  refine IFB_not (IFB_of (fun hb => ?_) (fun hb => ?_))
  · subst hb
    exact ⟨rfl, S⟩
  · subst hb
    refine ⟨_, S.cell n hn rfl, _, _, _, S.cell n hn rfl, ?_, S⟩
    congr 1
    rw [Bool.not_false, Bool.true_and]
    by_cases h : at_ = l.length
    · simp [h]
    · have : ¬ (at_ : Int) = (l.length : Int) := by omega
      simp [h, this]
end
section
variable {w : World} {g p : Addr} {cs : List Col} {cps : List RowP} {n : Nat}
theorem rd_none {α : Type} {f : α → List Value} {k : Nat} (hf : ∀ x, (f x).length = k + 1) {xs : List α} (h : Rd w none (xs.flatMap f)) : xs = [] := by
  cases xs with
  | nil => rfl
  | cons x xs =>
    have hx := hf x
    cases hfx : f x with
    | nil => rw [hfx] at hx; simp at hx
    | cons v vs =>
      obtain ⟨p, hp, _⟩ := h 0 v (by simp [hfx])
      cases hp
theorem row_empty {b : Nat} {t : TypeId} {sz : Nat} (h : w.heap[b]? = some (.cells #[] t (0, 0))) : Row w t sz (some ⟨b, 0, none⟩) 0 0 [] :=
  ⟨by simp, .inr ⟨b, #[], rfl, h, by omega, by omega, by simp, by simp⟩⟩
theorem vals_one (vs : List Val) : ∀ u ∈ valsL vs, u.oneCell' = true := by
  intro u hu
  obtain ⟨v, _, hv⟩ := List.mem_flatMap.1 hu
  simp only [valC, List.mem_cons, List.not_mem_nil, or_false] at hv
  rcases hv with rfl | rfl | rfl <;> rfl
theorem cols_one (vs : List Col) : ∀ u ∈ colsL vs, u.oneCell' = true := by
  intro u hu
  obtain ⟨v, _, hv⟩ := List.mem_flatMap.1 hu
  simp only [colC, List.mem_cons, List.not_mem_nil, or_false] at hv
  rcases hv with rfl | rfl | rfl <;> rfl
theorem CloneC_ok {a : Option Addr} {c : Nat} {vs : List Col} (h : Rd w a (colsL vs)) (hl : vs.length ≤ 100000) : Calls Tryz.prog f.slices_Clone_api_Column_api_Column #[.slice a vs.length c] w (Ret fun v w' => ∃ a' c', v = .slice a' vs.length c' ∧ ST w w' [colsI a' c' vs]) := by
  apply R.slices_Clone_api_Column_api_Column_calls
  unfold R.slices_Clone_api_Column_api_Column
  cases a with
  | none =>
    have := rd_none (k := 2) (fun _ => rfl) h
    subst this
    exact IFB_true ⟨none, 0, rfl, (ST.start w).nil _ _⟩
  | some q =>
    refine IFB_false ((ST.start w).newB fun b2 w1 _ B1 S => ?_)
    have S := S.chg 0 rfl (.refl _ _) (It.row ty.api_Column 3 (some ⟨b2, 0, none⟩) 0 0 []) (row_empty (S.blk 0 rfl)) (fun k hk => .inl hk)
    refine S.app 0 rfl tCols rfl (by omega) (by omega) (h.grown B1) (mm := vs.length) (cols_len vs) (cols_one vs) (by omega) fun a' c' w' S => ⟨_, _, _, rfl, a', c', by rw [Nat.zero_add], ?_⟩
    simp only [Nat.zero_add, List.nil_append] at S
    exact S
end
theorem col_beq (u v : Col) : ((u.1 == v.1) && ((u.2.1 == v.2.1) && ((u.2.2 == v.2.2) && true))) = decide (u = v) := by
  obtain ⟨a, b, s⟩ := u
  obtain ⟨c, d, t⟩ := v
  rw [Bool.eq_iff_iff]
  simp [beq_str]
section
variable {w : World} {a a2 : Option Addr} {c c2 : Nat}
theorem ref05_Same_ok {ls ms : List Col} (hl : Rd w a (colsL ls)) (hm : Rd w a2 (colsL ms)) (hn : ls.length ≤ 9223372036854775807) :
    Calls Tryz.prog f.ref05_Same #[.slice a ls.length c, .slice a2 ms.length c2] w (Ret fun v w' => Below w.heap.size w w' ∧ v = .bool (decide (ls = ms))) := by
  apply R.ref05_Same_calls
  unfold R.ref05_Same
  refine IFB_ne (fun h => ⟨.refl _ _, ?_⟩) (fun hlen => ?_)
  · congr 1
    rw [eq_comm, decide_eq_false_iff_not]
    rintro rfl
    exact h rfl
  have hlen' : ls.length = ms.length := by omega
  refine ⟨fun s w1 => ∃ i : Nat, i ≤ ls.length ∧ s = [.int .i64 (i : Int)] ∧ Below w.heap.size w w1 ∧ ls.take i = ms.take i, fun s _ => match s with
      | [.int _ i] => ls.length - i.toNat
      | _ => 0, ⟨0, by omega, rfl, .refl _ _, rfl⟩, ?_⟩
  rintro _ w1 ⟨i, hi, hs, B1, hT⟩
  cases hs
  refine IFB_dec (fun hlt => ?_) (fun hge => ⟨B1, ?_⟩)
  · have h1 : i < ls.length := by omega
    have h2 : i < ms.length := by omega
    refine (SH.start (fun _ => False) w1).drawB fun w2 B2 _ => ⟨⟨by omega, hlt⟩, ?_⟩
    have C2 := below_trans B1 B2
    obtain ⟨p1, rfl, c0, c1, c2⟩ := col_at (hl.grown C2) h1
    obtain ⟨p2, rfl, d0, d1, d2⟩ := col_at (hm.grown C2) h2
    refine ⟨⟨by omega, by omega⟩, _, by rw [Int.toNat_natCast]; exact c0, _, by rw [Int.toNat_natCast]; exact c1, _, by rw [Int.toNat_natCast]; exact c2, _, by rw [Int.toNat_natCast]; exact d0, _, by rw [Int.toNat_natCast]; exact d1, _, by rw [Int.toNat_natCast]; exact d2, ?_⟩
    rw [col_beq]
    refine IFB_not (IFB_dec (fun he => ?_) (fun he => ⟨C2, ?_⟩))
    · rw [wrap_succ (by omega)]
      refine ⟨⟨i + 1, by omega, rfl, C2, ?_⟩, ?_⟩
      · rw [List.take_succ_eq_append_getElem h1, List.take_succ_eq_append_getElem h2, hT, he]
      · simp only [Int.toNat_natCast]
        omega
    · congr 1
      rw [eq_comm, decide_eq_false_iff_not]
      rintro rfl
      exact he rfl
  · congr 1
    rw [eq_comm, decide_eq_true_eq]
    rw [List.take_of_length_le (by omega), List.take_of_length_le (by omega)] at hT
    exact hT
end
section
variable {w : World} {g p : Addr} {cs : List Col} {cps : List RowP} {n : Nat} {a a2 : Option Addr} {c c2 : Nat} {ps : List RowP}
end
section
variable {w : World} {a a2 : Option Addr} {c c2 : Nat} {cs : List Col} {ps : List RowP}
end
def nameS (s : ByteArray) : ByteArray := sof (hexP (digP (bl s)))
theorem nameS_size (s : ByteArray) : (nameS s).size = 64 := by
  unfold nameS
  rw [size_sof, hexP_len, digP_len]
section
variable {w : World}
theorem segment_Name_ok (T : Tabs w) (s : ByteArray) (hs : s.size ≤ 140737488355328) : Calls Tryz.prog f.segment_Name #[.string s] w (Ret fun v w' => v = .string (nameS s) ∧ Below w.heap.size w w') := by
  apply R.segment_Name_calls
  unfold R.segment_Name
  have hbl := bl_length s
  refine bytes_of_string tbytes s w fun b0 c0 cells e0 w1 hb0 B1 hg1 hcs hsc htk => ?_
  have hr1 : Rd w1 (some ⟨b0, 0, none⟩) ((bl s).map byteV) := by
    have := (Rd.of_block0 hg1).take s.size
    rw [htk] at this
    exact this
  refine ⟨_, _, _, rfl, (((ST.start w).grown B1).newB fun b4 w2 _ B2 S => ?_)⟩
  rw [← hbl] at S
  have hp2 : Rd w2 (some ⟨b4, 0, none⟩) ([(some ⟨b0, 0, none⟩, c0, bl s)].map partV1) := S.rdc 0 rfl
  have e2 : flatB [(some ⟨b0, 0, none⟩, c0, bl s)] = bl s := by simp [flatB]
  refine (hash_Sum_ok (c := 1) (T.grown S.bel) [(some ⟨b0, 0, none⟩, c0, bl s)] hp2 (by
      intro p hp
      simp only [List.mem_cons, List.not_mem_nil, or_false] at hp
      subst hp
      exact hr1.grown B2) (by simp) (by rw [e2]; omega)).mono ?_
  rw [e2]
  rintro _ w3 ⟨_, rfl, rfl, B3⟩
  have S := S.grown B3
  have hdl : (digP (bl s)).length = 32 := digP_len _
  obtain ⟨nm, hnm⟩ : ∃ nm, nm = nameS s := ⟨_, rfl⟩
  unfold nameS at hnm
  obtain ⟨dg, hdg⟩ : ∃ dg, dg = digP (bl s) := ⟨_, rfl⟩
  rw [show nameS s = nm from hnm.symm]
  rw [← hdg] at hdl hnm ⊢
  refine LIKEL_by dg hdl ⟨rfl, (hash_Hex_ok dg hdl w3).mono ?_⟩
  rintro _ w4 ⟨_, rfl, rfl, B4⟩
  exact ⟨_, rfl, by rw [hnm], below_trans S.bel B4⟩
end
end Go.Proofs.YtpnaifmmggnimaaGreatDoor
namespace Go.Dn
set_option linter.unusedVariables false
set_option maxRecDepth 100000
open Go.RowKit (Below)
section
variable {w0 w : World} {H : List It}
theorem ST.mid (l : List It) {X B : List It} (S : ST w0 w (X ++ (l ++ B))) : ST w0 w (l ++ (X ++ B)) := S.perm (List.perm_append_comm_assoc X l B)
end
end Go.Dn
namespace Go.Dn
set_option linter.unusedVariables false
set_option maxRecDepth 100000
section
variable {w0 w : World} {H : List It}
end
end Go.Dn
namespace Go.Dn
set_option linter.unusedVariables false
set_option maxRecDepth 100000
open Go.RowKit (Below)
section
variable {w0 w : World} {H : List It} {P : Program} {f : FuncId} {args : Array Value} {Q : Ending → World → Prop}
end
section
variable {w0 w : World} {H : List It}
end
end Go.Dn
namespace Go.Proofs.YtpnaifmmggnimaaGreatDoor
set_option maxRecDepth 100000
open Go.Dn Go.Proofs
open Go.RowKit (Below)
set_option linter.unusedVariables false
theorem stLit1 {w0 w : World} {H : List It} (S : ST w0 w H) {v : Value} {t : TypeId} {k : Nat → World → Prop} (hk : ∀ b w', ST w0 w' (It.row t 1 (some ⟨b, 0, none⟩) 1 1 [v] :: H) → k b w') : NEWB #[v] t k w :=
  S.newB fun b w1 _ B S1 => hk b w1 (S1.chg 0 rfl (.refl _ _) _ (⟨by simp, .inr ⟨b, #[v], rfl, S1.blk 0 rfl, by omega, by omega, by simp, by simp⟩⟩ : Row w1 t 1 (some ⟨b, 0, none⟩) 1 1 [v]) fun k hk => .inl hk)
def partI (p : PartB) : It := bytesI p.1 p.2.1 p.2.2
def partsI (a : Option Addr) (c : Nat) (ps : List PartB) : It := It.row ty.L_uint8 1 a ps.length c (ps.map partV1)
theorem tParts : slT Tryz.prog ty.L_L_uint8 = some (ty.L_uint8, 1, 24, .slice none 0 0) := by kernel_rfl
theorem segE_bad {cs : List Col} {rows : List (List Val)} (h : segE cs rows ≠ 0) : ¬ SegOk cs rows := fun hs => h (by
  have h1 : ¬ (1024 < rows.length ∨ ∃ r ∈ rows, fitsB cs r = false) := by
    rintro (h | ⟨r, hr, h⟩)
    · have := hs.len; omega
    · rw [hs.fits r hr] at h; cases h
  have h2 : ¬ rightCols cs = false := by rw [hs.right]; decide
  rw [segE, if_neg h2, if_neg h1])
def LayRV (l : List UInt8) (cs : List Col) (rows : List (List Val)) (w w' : World) (v : Value) : Prop :=
  (¬ SegOk cs rows ∧ v = .tuple #[.slice none 0 0, .int .i64 (segE cs rows)] ∧ segE cs rows ≠ 0 ∧ Below w.heap.size w w') ∨
    (SegOk cs rows ∧ ∃ a c, v = .tuple #[.slice a (l ++ rowsL rows).length c, .int .i64 0] ∧ NewB w w' (l ++ rowsL rows) a c)
theorem flatB_snoc (qs : List PartB) (p : PartB) : flatB (qs ++ [p]) = flatB qs ++ p.2.2 := by simp [flatB]
theorem fits_right {cs : List Col} {r : List Val} (hf : fitsB cs r = true) {k : Nat} (hk : k < r.length) : rightB r[k] = true := by
  have hl := fits_len hf
  have := fits_at hf (by omega) hk
  simp only [fitV, Bool.and_eq_true] at this
  exact this.1
section
variable {w0 w : World} {H : List It} {a a2 a3 : Option Addr} {c c2 c3 : Nat} {l : List UInt8} {cs : List Col} {ps : List RowP}
theorem stAppP (S : ST w0 w H) {n : Nat} {qs : List PartB} (hn : H[n]? = some (partsI a c qs)) {p : PartB} {b : Nat} (hs : Rd w (some ⟨b, 0, none⟩) [partV1 p]) (hl : qs.length + 1 ≤ 1000000) {f : Value → World → Prop}
    (hf : ∀ a' c' w', ST w0 w' (H.set n (partsI a' c' (qs ++ [p]))) → f (.slice a' (qs ++ [p]).length c') w') :
    OPR Tryz.prog (Builtin.append_ #[ty.L_L_uint8, ty.L_L_uint8] ty.L_L_uint8 #[.slice a qs.length c, .slice (some ⟨b, 0, none⟩) 1 1]) f w := by
  refine S.app n hn tParts rfl (by omega) (by omega) hs (mm := 1) rfl (by simp [partV1]; rfl) (by omega) fun a' c' w' S' => ?_
  have e1 : (qs ++ [p]).length = qs.length + 1 := by simp
  have e2 : qs.map partV1 ++ [partV1 p] = (qs ++ [p]).map partV1 := by simp
  rw [e2] at S'
  have := hf a' c' w' (by unfold partsI; rw [e1]; exact S')
  rwa [e1] at this
theorem parts_rd {E : List It} {qs : List PartB} (S : ST w0 w (E ++ qs.map partI)) : ∀ p ∈ qs, Rd w p.1 (p.2.2.map byteV) := fun p hp => by
  have : (partI p).ok w := S.ok _ (List.mem_append_right _ (List.mem_map.2 ⟨p, hp, rfl⟩))
  exact Row.rd this
theorem parts_snoc {E : List It} {qs : List PartB} {p : PartB} (S : ST w0 w (partI p :: (E ++ qs.map partI))) : ST w0 w (E ++ (qs ++ [p]).map partI) := by
  refine S.perm ?_
  rw [List.map_append]
  simp only [List.map_cons, List.map_nil]
  rw [← List.append_assoc]
  exact (List.perm_append_comm (l₁ := [partI p]))
set_option maxHeartbeats 1000000 in
theorem schema_LayRows_ok (hl : Rd w a (l.map byteV)) (hs : l.length + 20000000 ≤ 140737488355328) (hcs : Rd w a2 (colsL cs)) (hn : cs.length ≤ 9223372036854775807) (hq : ∀ c ∈ cs, c.1.size ≤ 9223372036854775807) (hr : RowsAt w a3 ps) (hm : ps.length ≤ 9223372036854775807) (hv : ∀ r ∈ rws ps, ∀ v ∈ r, ValOk v) :
    Calls Tryz.prog f.schema_LayRows #[.slice a l.length c, .slice a2 cs.length c2, .slice a3 ps.length c3] w (Ret fun v w' => LayRV l cs (rws ps) w w' v) := by
  apply R.schema_LayRows_calls
  unfold R.schema_LayRows
  refine (schema_Right_ok hcs hn hq).mono ?_
  rintro _ w1 ⟨_, rfl, rfl, B1⟩
  have bad : ∀ {wx : World} (e : Int), Below w.heap.size w wx → segE cs (rws ps) = e → e ≠ 0 → LayRV l cs (rws ps) w wx (.tuple #[.slice none 0 0, .int .i64 e]) := by
    rintro wx e B rfl h0
    exact .inl ⟨segE_bad h0, rfl, h0, B⟩
  have S := (ST.start w).grown B1
  refine ⟨_, rfl, IFB_not (IFB_of (fun hR => ?_) (fun hR => bad 50 S.bel (by rw [segE, if_pos hR]) (by decide)))⟩
  have hRn : ¬ rightCols cs = false := by rw [hR]; decide
  refine IFB_dec (fun h => bad 51 S.bel ?_ (by decide)) (fun hlen => ?_)
  · have : 1024 < (rws ps).length := by simp only [rws, List.length_map]; omega
    rw [segE, if_neg hRn, if_pos (.inl this)]
  have hlen' : ps.length ≤ 1024 := by omega
  have hcl := right_len hR
  rw [wrap_u64_id (by omega) (by omega)]
  have d1 := digitsL_len10 (n := ps.length) (by omega)
  refine (wire_Number_ok l (hl.grown S.bel) ps.length (by omega) (by omega)).mono ?_
  rintro _ w2 ⟨_, rfl, a2', c2', rfl, h2⟩
  have S := stAddB S h2
  have hwl : (rws ps).length = ps.length := by simp [rws]
  have hbad2 : ∀ {wx : World} (r : List Val), Below w.heap.size w wx → r ∈ rws ps → fitsB cs r = false → LayRV l cs (rws ps) w wx (.tuple #[.slice none 0 0, .int .i64 51]) := fun r B h1 h2 =>
    bad 51 B (by rw [segE, if_neg hRn, if_pos (.inr ⟨r, h1, h2⟩)]) (by decide)
  obtain ⟨p0, hp0⟩ : ∃ p0 : PartB, p0 = (a2', c2', l ++ digitsL ps.length) := ⟨_, rfl⟩
  refine ⟨_, _, _, rfl, stLit1 S fun b8 w3 S => ?_⟩
  have S : ST w w3 ([partsI (some ⟨b8, 0, none⟩) 1 [p0]] ++ [p0].map partI) := by subst hp0; exact S
  let Inv : List Value → World → Prop := fun s wx => ∃ (i : Nat) (qs : List PartB) (pa : Option Addr) (pc : Nat), s = [.slice pa qs.length pc, .int .i64 (i : Int)] ∧ i ≤ ps.length ∧ qs.length ≤ 1 + i * 16 ∧
    flatB qs = l ++ digitsL ps.length ++ ((rws ps).take i).flatMap rowL ∧ (∀ r ∈ (rws ps).take i, fitsB cs r = true) ∧ ST w wx ([partsI pa pc qs] ++ qs.map partI)
  refine ⟨Inv, fun s _ => match s with
    | [_, .int _ i] => ps.length - i.toNat
    | _ => 0, ⟨0, [p0], _, 1, rfl, by omega, by simp, by subst hp0; simp [flatB], by simp, S⟩, ?_⟩
  clear S
  rintro pa _ pc _ w4 ⟨i, qs, _, _, hst, hi, hql, hfl, hfit, S⟩
  cases hst
  refine IFB_dec (fun hlt => ?_) (fun hge => ?_)
  · have hil : i < ps.length := by omega
    have hir : i < (rws ps).length := by omega
    obtain ⟨q, rfl, hq1, hrv⟩ := (hr.grown S.bel).at hil
    have ei : (rws ps)[i] = ps[i].2.2 := by simp [rws]
    refine ⟨⟨by omega, by omega⟩, _, _, _, by rw [Int.toNat_natCast]; exact hq1, ?_⟩
    obtain ⟨row, hrow⟩ : ∃ row, row = ps[i].2.2 := ⟨_, rfl⟩
    rw [← hrow] at hrv ei ⊢
    have hmem : row ∈ rws ps := by rw [← ei]; exact List.getElem_mem hir
    refine (schema_fits_ok (hcs.grown S.bel) hn hrv).mono ?_
    rintro _ w6 ⟨_, rfl, rfl, B6⟩
    have S := S.grown B6
    refine ⟨_, rfl, IFB_not (IFB_of (fun hf => ?_) (fun hf => hbad2 row S.bel hmem hf))⟩
    have hrl := fits_len hf
    have hok := hv row hmem
    have hrv0 : Rd w ps[i].1 (valsL row) := by rw [hrow]; exact hr.each _ (List.getElem_mem hil)
    let In2 : List Value → World → Prop := fun s wx => ∃ (k : Nat) (qs' : List PartB) (pa : Option Addr) (pc : Nat), s = [.slice pa qs'.length pc, .int .i64 (k : Int)] ∧ k ≤ row.length ∧ qs'.length = qs.length + k ∧
      flatB qs' = flatB qs ++ (row.take k).flatMap layL ∧ ST w wx ([partsI pa pc qs'] ++ qs'.map partI)
    refine ⟨In2, fun s _ => match s with
      | [_, .int _ i] => row.length - i.toNat
      | _ => 0, ⟨0, qs, _, _, rfl, by omega, by omega, by simp, S⟩, ?_⟩
    clear S
    rintro pa _ pc _ w7 ⟨k, qs', _, _, hst, hk, hql', hfl', S⟩
    cases hst
    refine IFB_dec (fun hlt2 => ?_) (fun hge2 => ?_)
    · have hkl : k < row.length := by omega
      obtain ⟨q2, hq2, e0, e1, e2⟩ := val_at (hrv0.grown S.bel) hkl
      rw [hq2]
      refine ⟨⟨by omega, by omega⟩, _, by rw [Int.toNat_natCast]; exact e0, _, by rw [Int.toNat_natCast]; exact e1, _, by rw [Int.toNat_natCast]; exact e2, S.lit3 fun b25 w11 _ S => ⟨_, S.cell 0 rfl rfl, _, S.cell 0 rfl rfl, _, S.cell 0 rfl rfl, ?_⟩⟩
      refine (value_Lay_ok (a := none) (c := 0) [] (Rd.nil _ _) row[k] (hok _ (List.getElem_mem hkl)) (by simp)).mono ?_
      rintro _ w12 ⟨_, rfl, h12⟩
      obtain ⟨xa, xc, rfl, n12⟩ := lay_good (fits_right hf hkl) h12
      rw [List.nil_append] at n12 ⊢
      have S := stAddB (S.drop 1) n12
      obtain ⟨p, hp⟩ : ∃ p : PartB, p = (xa, xc, layL row[k]) := ⟨_, rfl⟩
      refine ⟨_, _, _, _, rfl, stLit1 S fun b32 w13 S => ?_⟩
      have hlit : Rd w13 (some ⟨b32, 0, none⟩) [partV1 p] := by subst hp; exact S.rd 0 rfl
      refine stAppP S (n := 2) rfl hlit (by omega) fun a' c' w14 S => ⟨_, _, _, rfl, ?_⟩
      rw [wrap_succ (by omega)]
      refine ⟨⟨k + 1, qs' ++ [p], a', c', rfl, by omega, by simp; omega, ?_, ?_⟩, by simp only [Int.toNat_natCast]; omega⟩
      · rw [flatB_snoc, hfl', List.take_succ_eq_append_getElem hkl, List.flatMap_append]
        subst hp
        simp
      · subst hp
        exact parts_snoc (S.drop 1)
    · obtain rfl : k = row.length := by omega
      rw [wrap_succ (by omega)]
      rw [List.take_length] at hfl'
      refine ⟨⟨i + 1, qs', _, _, rfl, by omega, by omega, ?_, fun r hr' => ?_, S⟩, by simp only [Int.toNat_natCast]; omega⟩
      · rw [hfl', hfl, List.take_succ_eq_append_getElem hir, List.flatMap_append, ei]
        simp [rowL]
      · rw [List.take_succ_eq_append_getElem hir] at hr'
        rcases List.mem_append.1 hr' with h | h
        · exact hfit r h
        · rw [List.mem_singleton.1 h, ei]; exact hf
  · obtain rfl : i = ps.length := by omega
    rw [List.take_of_length_le (by omega)] at hfl hfit
    have hok : SegOk cs (rws ps) := ⟨hR, by omega, hfit, hv⟩
    have hln := rowsL_len (i := (rws ps).length) hok
    rw [List.take_length] at hln
    refine (slices_Concat_ok qs (S.rd 0 rfl) (parts_rd S) (by omega) (by rw [hfl]; simp only [List.length_append]; omega)).mono ?_
    rintro _ w5 ⟨_, rfl, a5, c5, rfl, h5⟩
    have e : l ++ digitsL ps.length ++ (rws ps).flatMap rowL = l ++ rowsL (rws ps) := by rw [rowsL, hwl, List.append_assoc]
    rw [hfl, e] at h5 ⊢
    exact ⟨_, _, _, rfl, .inr ⟨hok, a5, c5, rfl, h5.before S.bel⟩⟩
def rowsI (a : Option Addr) (c : Nat) (ps : List RowP) : It := It.row ty.api_Row 1 a ps.length c (ps.map rowV1)
def RowsTV (o : Option (List (List Val) × Nat)) (w w' : World) (v : Value) : Prop :=
  match o with
  | none => ∃ e : Int, e ≠ 0 ∧ v = .tuple #[.slice none 0 0, .int .i64 0, .int .i64 e] ∧ Below w.heap.size w w'
  | some r => ∃ a c ps, v = .tuple #[.slice a ps.length c, .int .i64 (r.2 : Int), .int .i64 0] ∧ rws ps = r.1 ∧ ST w w' ([rowsI a c ps] ++ ps.map rowI)
theorem stAppR (S : ST w0 w H) {n : Nat} {qs : List RowP} (hn : H[n]? = some (rowsI a c qs)) {p : RowP} {b : Nat} (hs : Rd w (some ⟨b, 0, none⟩) [rowV1 p]) (hl : qs.length + 1 ≤ 1000000) {f : Value → World → Prop}
    (hf : ∀ a' c' w', ST w0 w' (H.set n (rowsI a' c' (qs ++ [p]))) → f (.slice a' (qs ++ [p]).length c') w') :
    OPR Tryz.prog (Builtin.append_ #[ty.L_api_Row, ty.L_api_Row] ty.L_api_Row #[.slice a qs.length c, .slice (some ⟨b, 0, none⟩) 1 1]) f w := by
  refine S.app n hn tRows rfl (by omega) (by omega) hs (mm := 1) rfl (by simp [rowV1]; rfl) (by omega) fun a' c' w' S' => ?_
  have e1 : (qs ++ [p]).length = qs.length + 1 := by simp
  have e2 : qs.map rowV1 ++ [rowV1 p] = (qs ++ [p]).map rowV1 := by simp
  rw [e2] at S'
  have := hf a' c' w' (by unfold rowsI; rw [e1]; exact S')
  rwa [e1] at this
theorem rows_snoc {E : List It} {qs : List RowP} {p : RowP} (S : ST w0 w (rowI p :: (E ++ qs.map rowI))) : ST w0 w (E ++ (qs ++ [p]).map rowI) := by
  refine S.perm ?_
  rw [List.map_append]
  simp only [List.map_cons, List.map_nil]
  rw [← List.append_assoc]
  exact (List.perm_append_comm (l₁ := [rowI p]))
theorem stSetV (S : ST w0 w H) (n : Nat) {b : Nat} {cur : List Val} {t : TypeId} (hn : H[n]? = some (It.cells b ⟨valsL cur⟩ t)) {i : Nat} (hi : i < cur.length) (v : Val) {k : World → Prop} (hk : ∀ w', ST w0 w' (H.set n (It.cells b ⟨valsL (cur.set i v)⟩ t)) → k w') :
    STO ((⟨b, 0, none⟩ : Addr).add (i * 3)) (.int .i64 v.1) (fun w => STO (((⟨b, 0, none⟩ : Addr).add (i * 3)).add 1) (.int .i64 v.2.1) (fun w => STO (((⟨b, 0, none⟩ : Addr).add (i * 3)).add 2) (.string v.2.2) k w) w) w := by
  have hlt := (List.getElem?_eq_some_iff.1 hn).1
  have hsz : (⟨valsL cur⟩ : Array Value).size = cur.length * 3 := by show (valsL cur).length = _; rw [vals_len]
  have e0 : ((⟨b, 0, none⟩ : Addr).add (i * 3)) = ⟨b, i * 3, none⟩ := by rw [addr_add_blk]; simp
  simp only [e0, addr_add_blk]
  refine S.sto n hn (by omega) rfl fun w1 S1 => ?_
  refine S1.sto n (List.getElem?_set_self hlt) (by simp only [Array.size_setIfInBounds]; omega) rfl fun w2 S2 => ?_
  rw [List.set_set] at S2
  refine S2.sto n (List.getElem?_set_self hlt) (by simp only [Array.size_setIfInBounds]; omega) rfl fun w3 S3 => ?_
  rw [List.set_set, vals_set cur hi] at S3
  exact hk w3 S3
set_option maxHeartbeats 1000000 in
theorem schema_TakeRows_ok (hl : Rd w a (l.map byteV)) (hc : l.length ≤ c) (hs : l.length ≤ 140737488355328) (at_ : Int) (hcs : Rd w a2 (colsL cs)) (hn : cs.length ≤ 9223372036854775807) (hq : ∀ c ∈ cs, c.1.size ≤ 9223372036854775807) :
    Calls Tryz.prog f.schema_TakeRows #[.slice a l.length c, .int .i64 at_, .slice a2 cs.length c2] w (Ret fun v w' => RowsTV (takeRows l cs at_) w w' v) := by
  apply R.schema_TakeRows_calls
  unfold R.schema_TakeRows
  refine (schema_Right_ok hcs hn hq).mono ?_
  rintro _ w1 ⟨_, rfl, rfl, B1⟩
  have S := (ST.start w).grown B1
  have bad : ∀ {wx : World} (e : Int), e ≠ 0 → Below w.heap.size w wx → takeRows l cs at_ = none → RowsTV (takeRows l cs at_) w wx (.tuple #[.slice none 0 0, .int .i64 0, .int .i64 e]) := by
    intro wx e h0 B h
    rw [h]
    exact ⟨e, h0, rfl, B⟩
  refine ⟨_, rfl, IFB_not (IFB_of (fun hR => ?_) (fun hR => bad 50 (by decide) S.bel (by simp [takeRows, hR])))⟩
  have hcl := right_len hR
  refine (wire_TakeNumber_ok (hl.grown S.bel) hc (by omega) at_).mono ?_
  rintro _ w2 ⟨_, rfl, rfl, rfl⟩
  obtain ⟨n, at1, e, hv, hk, hnn, hx⟩ := num_open _ (rfl : takeN l at_ = takeN l at_)
  rw [hv]
  refine ⟨_, _, _, rfl, IFB_ne (fun h => bad 52 (by decide) S.bel ?_) (fun h => ?_)⟩
  · rcases hx with ⟨h2, _⟩ | ⟨_, h2⟩
    · exact absurd h2 h
    · simp [takeRows, h2]
  have hx' : takeN l at_ = some (n, at1) := by
    rcases hx with ⟨_, h2⟩ | ⟨h2, _⟩
    · exact h2
    · exact absurd h h2
  have hT : takeRows l cs at_ = if n ≤ 1024 then manyR (rowR l cs) n at1 else none := by simp [takeRows, hR, hx']
  refine IFB_dec (fun h => bad 52 (by decide) S.bel (by rw [hT, if_neg (by omega)])) (fun hle => ?_)
  rw [if_pos (by omega)] at hT
  refine ⟨fun s wx => ∃ (i at2 : Nat) (qs : List RowP) (ra : Option Addr) (rc : Nat), s = [.int .i64 (at2 : Int), .slice ra qs.length rc, .int .u64 (i : Int)] ∧ i ≤ n ∧ qs.length = i ∧ at2 ≤ l.length ∧ manyR (rowR l cs) i at1 = some (rws qs, at2) ∧ ST w wx ([rowsI ra rc qs] ++ qs.map rowI), fun s _ => match s with
    | [_, _, .int _ i] => n - i.toNat
    | _ => 0, ⟨0, at1, [], none, 0, rfl, by omega, rfl, hk, rfl, S.nil _ _⟩, ?_⟩
  clear S
  rintro _ ra _ rc _ w3 ⟨i, at2, qs, _, _, hst, hi, hqi, ha2, hrel, S⟩
  cases hst
  refine IFB_dec (fun hlt => ?_) (fun hge => ?_)
  · have hiln : i < n := by omega
    refine make_new tRow (l := (cs.length : Int)) (c := (cs.length : Int)) (by omega) (by omega) (by omega) (by omega) fun b w4 hb B4 hO => ?_
    rw [Int.toNat_natCast] at hO ⊢
    rw [vals_zero] at hO
    have S := S.add B4 (It.cells b ⟨valsL (List.replicate cs.length (0, 0, E0))⟩ ty.api_Value) hO (fun k hk => by cases hk; exact hb)
    have none2 : manyR (fun a => takeV l (a : Int)) cs.length at2 = none → takeRows l cs at_ = none := fun h => by
      rw [hT]
      refine manyR_none (i := i + 1) ?_ hiln
      rw [manyR_step hrel, rowR, h]
      rfl
    refine ⟨_, _, _, rfl, fun s wx => ∃ (k at3 : Nat) (cur : List Val), s = [.int .i64 (at3 : Int), .int .i64 (k : Int)] ∧ k ≤ cs.length ∧ cur.length = cs.length ∧ at3 ≤ l.length ∧ manyR (fun a => takeV l (a : Int)) k at2 = some (cur.take k, at3) ∧
        ST w wx (It.cells b ⟨valsL cur⟩ ty.api_Value :: ([rowsI ra rc qs] ++ qs.map rowI)), fun s _ => match s with
      | [_, .int _ k] => cs.length - k.toNat
      | _ => 0, ⟨0, at2, _, rfl, by omega, by simp, ha2, rfl, S⟩, ?_⟩
    clear S
    rintro _ _ w5 ⟨k, at3, cur, hst, hk2, hcl2, ha3, hrel2, S⟩
    cases hst
    refine IFB_dec (fun hlt2 => ?_) (fun hge2 => ?_)
    · have hkl : k < cs.length := by omega
      refine (value_Take_ok (hl.grown S.bel) hc (by omega) (at3 : Int)).mono ?_
      rintro _ w6 ⟨_, rfl, rfl, B6⟩
      have S := S.grown B6
      obtain ⟨v, k3, e3, hv3, hk3, hx3⟩ := val_open _ (rfl : takeV l (at3 : Int) = takeV l (at3 : Int))
      rw [hv3]
      refine ⟨_, _, _, _, _, rfl, ⟨by omega, by omega⟩, ?_⟩
      rw [Int.toNat_natCast]
      refine stSetV S 0 rfl (i := k) (by omega) v fun w9 S => IFB_ne (fun h => bad 52 (by decide) S.bel (none2 ?_)) (fun h => ?_)
      · refine manyR_none (i := k + 1) ?_ hkl
        rw [manyR_step hrel2]
        rcases hx3 with ⟨h2, _⟩ | ⟨_, h2⟩
        · exact absurd h2 h
        · simp [h2]
      · have hx3' : takeV l (at3 : Int) = some (v, k3) := by
          rcases hx3 with ⟨_, h2⟩ | ⟨h2, _⟩
          · exact h2
          · exact absurd h h2
        rw [wrap_succ (by omega)]
        refine ⟨⟨k + 1, k3, cur.set k v, rfl, by omega, by rw [List.length_set]; exact hcl2, hk3, ?_, S⟩, by simp only [Int.toNat_natCast]; omega⟩
        rw [manyR_step hrel2, hx3']
        have e : (cur.set k v).take (k + 1) = cur.take k ++ [v] := by
          rw [List.take_succ_eq_append_getElem (by rw [List.length_set]; omega), List.getElem_set_self, List.take_set_of_le (Nat.le_refl _)]
        rw [e]
        rfl
    · obtain rfl : k = cs.length := by omega
      rw [List.take_of_length_le (by omega)] at hrel2
      have hF := schema_fits_ok (c := c2) (c2 := cs.length) (hcs.grown S.bel) hn (S.rdc 0 rfl)
      rw [hcl2] at hF
      refine hF.mono ?_
      rintro _ w10 ⟨_, rfl, rfl, B10⟩
      have S := S.grown B10
      refine ⟨_, rfl, IFB_not (IFB_of (fun hf => ?_) (fun hf => bad 52 (by decide) S.bel ?_))⟩
      rotate_left
      · rw [hT]
        refine manyR_none (i := i + 1) ?_ hiln
        rw [manyR_step hrel, rowR, hrel2]
        simp [hf]
      obtain ⟨p, hp⟩ : ∃ p : RowP, p = (some ⟨b, 0, none⟩, cs.length, cur) := ⟨_, rfl⟩
      have hvl := vals_len cur
      have S := S.chg 0 rfl (.refl _ _) (rowI p) (by
        subst hp
        exact ⟨hvl, .inr ⟨b, ⟨valsL cur⟩, rfl, S.blk 0 rfl, by show cur.length ≤ cs.length; omega, by show cs.length ≤ _; omega, by show (valsL cur).length = cs.length * 3; omega, List.take_of_length_le (by show (valsL cur).length ≤ cur.length * 3; omega)⟩⟩) (fun k hk => by subst hp; exact .inl hk)
      refine stLit1 S fun b28 w11 S => ?_
      have hlit : Rd w11 (some ⟨b28, 0, none⟩) [rowV1 p] := by
        subst hp
        unfold rowV1
        rw [hcl2]
        exact S.rd 0 rfl
      refine stAppR S (n := 2) rfl hlit (by omega) fun a' c' w12 S => ⟨_, _, _, rfl, ?_⟩
      have e : IntKind.u64.wrap ((i : Int) + 1) = ((i + 1 : Nat) : Int) := by rw [wrap_u64_id (by omega) (by omega)]; omega
      rw [e]
      refine ⟨⟨i + 1, at3, qs ++ [p], a', c', rfl, by omega, by simp [hqi], ha3, ?_, rows_snoc (S.drop 1)⟩, by simp only [Int.toNat_natCast]; omega⟩
      rw [manyR_step hrel, rowR, hrel2, Option.bind_some, if_pos hf]
      subst hp
      simp [rws]
  · obtain rfl : i = n := by omega
    rw [hT, hrel]
    exact ⟨_, _, qs, rfl, rfl, S⟩
end
end Go.Proofs.YtpnaifmmggnimaaGreatDoor
namespace Go.Proofs.YtpnaifmmggnimaaGreatDoor
open Go.Dn Go.Proofs
set_option maxRecDepth 100000
set_option linter.unusedVariables false
namespace R
def slices_Equal_api_Column_api_Column (s1_1 : Option Addr) (s1_1l s1_1c : Nat) (s2_2 : Option Addr) (s2_2l s2_2c : Nat) (k : Value → World → Prop) (w0 : World) : Prop :=
  IFB ((s1_1l : Int) != (s2_2l : Int)) (k (.bool false) w0) (∃ (I_3 : List Value → World → Prop) (M_3 : List Value → World → Nat), I_3 [.int .i64 0] w0 ∧ ∀ (t13_4 : Int), ∀ w1 : World, I_3 [.int .i64 t13_4] w1 → IFB (decide (t13_4 < (s1_1l : Int))) (DRAW (fun w2 => ((0 : Int) ≤ t13_4 ∧ t13_4 < (s1_1l : Int)) ∧ PTR s1_1 (fun a_5 => ((0 : Int) ≤ t13_4 ∧ t13_4 < (s2_2l : Int)) ∧ PTR s2_2 (fun a_6 => ∃ t190_7 : ByteArray, w2.cell? (a_5.add (((t13_4).toNat) * 3)) = some (.string t190_7) ∧ ∃ t191_8 : Int, w2.cell? ((a_5.add (((t13_4).toNat) * 3)).add 1) = some (.int .i64 t191_8) ∧ ∃ t192_9 : Bool, w2.cell? ((a_5.add (((t13_4).toNat) * 3)).add 2) = some (.bool t192_9) ∧ ∃ t230_10 : ByteArray, w2.cell? (a_6.add (((t13_4).toNat) * 3)) = some (.string t230_10) ∧ ∃ t231_11 : Int, w2.cell? ((a_6.add (((t13_4).toNat) * 3)).add 1) = some (.int .i64 t231_11) ∧ ∃ t232_12 : Bool, w2.cell? ((a_6.add (((t13_4).toNat) * 3)).add 2) = some (.bool t232_12) ∧ IFB (!((t190_7 == t230_10) && ((t191_8 == t231_11) && ((t192_9 == t232_12) && true)))) (k (.bool false) w2) (I_3 [.int .i64 (IntKind.i64.wrap (t13_4 + 1))] w2 ∧ M_3 [.int .i64 (IntKind.i64.wrap (t13_4 + 1))] w2 < M_3 [.int .i64 t13_4] w1)))) w1) (k (.bool true) w1))
theorem slices_Equal_api_Column_api_Column_calls (s1_1 : Option Addr) (s1_1l s1_1c : Nat) (s2_2 : Option Addr) (s2_2l s2_2c : Nat) (k : Value → World → Prop) (w0 : World) (h : slices_Equal_api_Column_api_Column s1_1 s1_1l s1_1c s2_2 s2_2l s2_2c k w0) : Calls Tryz.prog f.slices_Equal_api_Column_api_Column #[.slice s1_1 s1_1l s1_1c, .slice s2_2 s2_2l s2_2c] w0 (fun e w => ∃ v, e = .returned v ∧ k v w) :=
  dFun_calls mixed (L := [(4, ⟨[(13, .int .i64 0)], [0, 1, 12]⟩)]) (C := []) (Eq.mpr (by kernel_rfl) h)
end R
end Go.Proofs.YtpnaifmmggnimaaGreatDoor
namespace Go.Dn
set_option maxRecDepth 100000
set_option linter.unusedVariables false
open Go.RowKit (Below)
open Go.Maps (has Tidy Keyed)
section
variable {P : Program} {k e t : TypeId} {w : World} {b n : Nat} {g : List UInt8 → Option Nat}
end
/-! ## Among a function's own things -/
section
variable {P : Program} {k e t : TypeId} {w0 w : World} {H : List It} {b n : Nat} {g : List UInt8 → Option Nat}
end
end Go.Dn
