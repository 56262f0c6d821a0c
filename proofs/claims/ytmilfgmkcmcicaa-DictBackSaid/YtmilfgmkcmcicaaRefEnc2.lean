/-
  The different texts of a list, rising: by the document.
-/
import Derived.Test.YtmilfgmkcmcicaaRefEnc
namespace Go.Proofs.Ytmilfgmkcmcicaa
open Go.Dn Go.Proofs
open Go.RowKit (Below)
set_option linter.unusedVariables false
set_option maxRecDepth 20000

theorem PlaceIs.mem {t : List (List UInt8)} {x : List UInt8} {lo : Nat} (h : PlaceIs t x lo) (hup : t.Pairwise (· < ·)) : x ∈ t ↔ t[lo]? = some x := by
  constructor
  · intro hx
    obtain ⟨j, hj, rfl⟩ := List.mem_iff_getElem.1 hx
    have h1 : ¬ j < lo := fun hlt => List.lt_irrefl _ (h.below t[j] (List.mem_take_iff_getElem.2 ⟨j, by omega, rfl⟩))
    have h2 : ¬ lo < j := fun hlt => by
      have h3 := up_get hup hlt hj
      have h4 : t[lo] ∈ t.drop lo := by rw [List.drop_eq_getElem_cons (by omega)]; exact List.mem_cons_self ..
      exact h.above _ h4 h3
    have : j = lo := by omega
    subst this
    exact List.getElem?_eq_getElem hj
  · intro hx
    exact List.mem_of_getElem? hx
theorem PlaceIs.idx {t : List (List UInt8)} {x : List UInt8} {lo : Nat} (h : PlaceIs t x lo) (hup : t.Pairwise (· < ·)) (hx : x ∈ t) : t.idxOf x = lo := by
  have h1 := (h.mem hup).1 hx
  obtain ⟨hlt, rfl⟩ := List.getElem?_eq_some_iff.1 h1
  exact (lt_nodup hup).idxOf_getElem lo hlt
theorem rise_insert {l t : List (List UInt8)} {x : List UInt8} {lo : Nat} (hr : IsRise l t) (h : PlaceIs t x lo) (hx : x ∉ t) : IsRise (l ++ [x]) (t.take lo ++ (x :: t.drop lo)) := by
  have hab : ∀ y ∈ t.drop lo, x < y := by
    intro y hy
    have h1 := h.above y hy
    have h2 : y ≠ x := by rintro rfl; exact hx (List.mem_of_mem_drop hy)
    rcases Decidable.em (x < y) with h3 | h3
    · exact h3
    · exact absurd (List.le_antisymm (List.not_lt.1 h3) (List.not_lt.1 h1)) h2
  refine ⟨?_, fun y => ?_⟩
  · have hp := hr.up
    rw [← List.take_append_drop lo t] at hp
    obtain ⟨p1, p2, p3⟩ := List.pairwise_append.1 hp
    refine List.pairwise_append.2 ⟨p1, List.pairwise_cons.2 ⟨hab, p2⟩, fun y hy z hz => ?_⟩
    rcases List.mem_cons.1 hz with rfl | hz
    · exact h.below y hy
    · exact p3 y hy z hz
  · have e : y ∈ t ↔ y ∈ t.take lo ∨ y ∈ t.drop lo := by
      conv => lhs; rw [← List.take_append_drop lo t]
      exact List.mem_append
    rw [List.mem_append, List.mem_cons, List.mem_append, List.mem_singleton, ← hr.mem y, e]
    constructor
    · rintro (h | h | h)
      · exact .inl (.inl h)
      · exact .inr h
      · exact .inl (.inr h)
    · rintro ((h | h) | h)
      · exact .inl h
      · exact .inr (.inr h)
      · exact .inr (.inl h)
theorem rise_again {l t : List (List UInt8)} {x : List UInt8} (hr : IsRise l t) (hx : x ∈ t) : IsRise (l ++ [x]) t := by
  refine ⟨hr.up, fun y => ?_⟩
  rw [List.mem_append, List.mem_singleton, ← hr.mem y]
  exact ⟨fun h => .inl h, fun h => h.elim id (fun e => e ▸ hx)⟩

def strs (t : List (List UInt8)) : List Value := (t.map sof).map Value.string
theorem strs_len (t : List (List UInt8)) : (strs t).length = t.length := by simp [strs]
theorem strs_append (t u : List (List UInt8)) : strs (t ++ u) = strs t ++ strs u := by simp [strs]
theorem strs_one (t : List (List UInt8)) : ∀ u ∈ strs t, u.oneCell' = true := by
  intro u hu
  obtain ⟨s, _, rfl⟩ := List.mem_map.1 hu
  rfl
theorem tS : slT Try.prog ty.L_string = some (ty.string, 1, 16, .string ⟨#[]⟩) := by kernel_rfl
/-- texts onto a row -/
theorem append_strs {w : World} {a : Option Addr} {c : Nat} {t u : List (List UInt8)} (hr : Row w ty.string 1 a t.length c (strs t)) {b : Option Addr} {m mc : Nat} (hm : m = u.length) (hb : Rd w b (strs u)) (hl : t.length + u.length ≤ 8796093022208) {f : Value → World → Prop}
    (hf : ∀ a' c' w', Row w' ty.string 1 a' (t ++ u).length c' (strs (t ++ u)) → Keeps (fun k => rowB a = some k) w w' → (∀ k, rowB a' = some k → rowB a = some k ∨ w.heap.size ≤ k) → f (.slice a' (t ++ u).length c') w') :
    OPR Try.prog (Builtin.append_ #[ty.L_string, ty.L_string] ty.L_string #[.slice a t.length c, .slice b m mc]) f w := by
  subst hm
  obtain ⟨a', c', w', hrun, hrow, hk, hnew⟩ := append_row (ty := ty.L_string) (mc := mc) tS rfl (by omega) (by omega) hr hb (m := u.length) (by rw [strs_len]; simp) (strs_one u) (by omega)
  unfold OPR
  rw [hrun]
  have hlen : (t ++ u).length = t.length + u.length := by simp
  rw [← strs_append, ← hlen] at hrow
  rw [← hlen]
  exact hf a' c' w' hrow hk hnew

theorem ref_rising_ok {w : World} {a : Option Addr} {c : Nat} {ls : List ByteArray} (hl : Rd w a (ls.map Value.string)) (hn : ls.length ≤ 4096) :
    Calls Try.prog f.ref07_rising #[.slice a ls.length c] w (Ret fun v w' => ∃ a' c' t, v = .slice a' t.length c' ∧ IsRise (ls.map bl) t ∧ Rd w' a' (strs t) ∧ Below w.heap.size w w') := by
  apply R.ref07_rising_calls
  unfold R.ref07_rising
  refine ⟨fun s w1 => ∃ (k : Nat) (oa : Option Addr) (oc : Nat) (t : List (List UInt8)), s = [.slice oa t.length oc, .int .i64 (k : Int)] ∧ k ≤ ls.length ∧ t.length ≤ oc ∧ t.length ≤ 4096 ∧ IsRise ((ls.take k).map bl) t ∧ Rd w1 oa (strs t) ∧ Below w.heap.size w w1, fun s _ => match s with
      | [_, .int _ i] => ls.length - i.toNat
      | _ => 0, ⟨0, none, 0, [], rfl, by omega, by simp, by simp, ⟨List.Pairwise.nil, by simp⟩, Rd.nil _ _, .refl _ _⟩, ?_⟩
  rintro oa _ oc _ w1 ⟨k, _, _, t, hs, hk, hoc, ht4, hr, hRd, B1⟩
  cases hs
  refine IFB_dec (fun hlt => ⟨⟨by omega, hlt⟩, ?_⟩) (fun hge => ?_)
  · have hkl : k < ls.length := by omega
    obtain ⟨p, hp, hc⟩ := str_at (hl.grown B1) hkl
    subst hp
    refine ⟨_, by rw [Int.toNat_natCast]; exact hc, (ref_place_ok hRd (by omega) hr.up ls[k]).mono ?_⟩
    rintro _ w2 ⟨_, rfl, lo, rfl, hP, B2⟩
    have e1 : (ls.take (k + 1)).map bl = (ls.take k).map bl ++ [bl ls[k]] := by rw [List.take_succ_eq_append_getElem hkl, List.map_append]; rfl
    have B2' : Below w.heap.size w w2 := B1.trans (B2.mono B1.size)
    refine ⟨_, _, rfl, IFB_dec (fun hok => ?_) (fun hno => ?_)⟩
    · rw [wrap_succ (by omega)]
      refine ⟨⟨k + 1, oa, oc, t, rfl, by omega, hoc, ht4, ?_, hRd.grown B2, B2'⟩, ?_⟩
      · rw [e1]
        exact rise_again hr ((hP.mem hr.up).2 hok)
      · simp only [Int.toNat_natCast]
        omega
    · have hx : bl ls[k] ∉ t := fun h => hno ((hP.mem hr.up).1 h)
      have hins := rise_insert hr hP hx
      rw [← e1] at hins
      have hlo := hP.le
      unfold DRAW
      have B3 : Below w2.heap.size w2 w2.drew := (Below.refl _ w2).drew
      have hRd3 := (hRd.grown B2).grown B3
      refine ⟨⟨by omega, by omega, by omega⟩, ?_⟩
      have ew : IntKind.i64.wrap ((t.length : Int) + 1) = ((t.length + 1 : Nat) : Int) := wrap_succ (by omega)
      rw [ew, Int.toNat_natCast]
      refine make_row0 tS (by omega) (by omega) fun bx w4 hbx B4 R4 => ⟨_, _, _, rfl, ?_⟩
      have hRd4 := hRd3.grown B4
      have hs1 : Rd w4 (SLA oa 0 oc 1) (strs (t.take lo)) := by
        have := hRd4.sla 0 lo oc 1 (by omega)
        simpa [strs, List.map_take] using this
      refine append_strs (t := []) (u := t.take lo) (by simpa [strs] using R4) (by rw [List.length_take]; omega) hs1 (by simp; omega) fun a5 c5 w5 R5 K5 N5 => ⟨_, _, _, rfl, ⟨by omega, hlt⟩, ?_⟩
      rw [List.nil_append] at R5 ⊢
      have sz4 := B4.size
      have szd : w2.drew.heap.size = w2.heap.size := rfl
      have K45 : Below w2.drew.heap.size w2.drew w5 := B4.trans (K5.below B4.size fun k hk he => by have h' : bx = k := Option.some.inj he; omega)
      have N5' : ∀ k, rowB a5 = some k → w2.heap.size ≤ k := fun k hk => by
        rcases N5 k hk with h | h
        · have h' : bx = k := Option.some.inj h
          omega
        · omega
      have Bw5 : Below w.heap.size w w5 := (B2'.trans (B3.mono B2'.size)).trans (K45.mono B2'.size)
      obtain ⟨p', hp', hc'⟩ := str_at (hl.grown Bw5) hkl
      cases hp'
      refine ⟨_, by rw [Int.toNat_natCast]; exact hc', (SH.start (fun _ => False) w5).newB fun b16 w6 hb16 B6 S6 => ?_⟩
      have hs2 : Rd w6 (some ⟨b16, 0, none⟩) (strs [bl ls[k]]) := by
        have := Rd.of_block0 (S6.get 0 rfl)
        simpa [strs, sof_bl] using this
      refine append_strs (u := [bl ls[k]]) (R5.grown B6) rfl hs2 (by simp; omega) fun a7 c7 w7 R7 K7 N7 => ⟨_, _, _, rfl, ⟨by omega, by omega, by omega⟩, ?_⟩
      have sz5 := K45.size
      have sz6 := B6.size
      have K27 : Below w2.drew.heap.size w2.drew w7 := (K45.trans (B6.mono sz5)).trans (K7.below (Nat.le_trans sz5 sz6) fun k hk he => by have := N5' k he; omega)
      have hs3 : Rd w7 (SLA oa lo oc 1) (strs (t.drop lo)) := by
        have := (hRd3.grown K27).sla lo t.length oc 1 hoc
        rw [Nat.mul_one, Nat.mul_one] at this
        have e : ((strs t).drop lo).take (t.length - lo) = strs (t.drop lo) := by
          rw [List.take_of_length_le (by rw [List.length_drop, strs_len]; omega)]
          simp [strs, List.map_drop]
        rwa [e] at this
      refine append_strs (u := t.drop lo) R7 (by rw [List.length_drop]) hs3 (by simp; omega) fun a8 c8 w8 R8 K8 N8 => ⟨_, _, _, rfl, ?_⟩
      have sz7 := K7.size
      have K28 : Below w2.drew.heap.size w2.drew w8 := K27.trans (K8.below K27.size fun k hk he => by
        rcases N7 k he with h | h
        · have := N5' k h; omega
        · omega)
      have et : (t.take lo ++ [bl ls[k]]) ++ t.drop lo = t.take lo ++ (bl ls[k] :: t.drop lo) := by simp
      rw [et] at R8 ⊢
      rw [wrap_succ (by omega)]
      refine ⟨⟨k + 1, a8, c8, _, rfl, by omega, R8.le, ?_, hins, R8.rd, (B2'.trans (B3.mono B2'.size)).trans (K28.mono B2'.size)⟩, ?_⟩
      · have := nodup_len (lt_nodup hins.up) (fun y hy => (hins.mem y).1 hy)
        rw [List.length_map, List.length_take] at this
        omega
      · simp only [Int.toNat_natCast]
        omega
  · have : ls.take k = ls := List.take_of_length_le (by omega)
    rw [this] at hr
    exact ⟨oa, oc, t, rfl, hr, hRd, B1⟩
end Go.Proofs.Ytmilfgmkcmcicaa
