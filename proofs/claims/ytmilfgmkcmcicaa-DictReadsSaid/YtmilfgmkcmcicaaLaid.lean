/-
  Texts' bytes, one behind the other; a list without long texts.
-/
import Derived.Test.YtmilfgmkcmcicaaRise
namespace Go.Proofs.Ytmilfgmkcmcicaa
open Go.Dn Go.Proofs
open Go.RowKit (Below)
set_option linter.unusedVariables false
set_option maxRecDepth 20000

def laidL (ls : List ByteArray) : List UInt8 := ls.flatMap textL
theorem laidL_take {ls : List ByteArray} {k : Nat} (hk : k < ls.length) : laidL (ls.take (k + 1)) = laidL (ls.take k) ++ textL ls[k] := by
  unfold laidL
  rw [List.take_succ_eq_append_getElem hk, List.flatMap_append]
  simp
theorem textL_len {s : ByteArray} (h : s.size ≤ 1024) : (textL s).length ≤ 1034 := by
  have := digitsL_len10 (n := s.size) (by omega)
  have := bl_length s
  simp [textL]
  omega
theorem laidL_len {ls : List ByteArray} (h : ∀ s ∈ ls, s.size ≤ 1024) : (laidL ls).length ≤ ls.length * 1034 := by
  induction ls with
  | nil => simp [laidL]
  | cons s ls ih =>
    have h1 := textL_len (h s (List.mem_cons_self ..))
    have h2 := ih fun x hx => h x (List.mem_cons_of_mem _ hx)
    simp only [laidL, List.flatMap_cons, List.length_append, List.length_cons] at *
    omega
theorem tP : slT Try.prog ty.L_L_uint8 = some (ty.L_uint8, 1, 24, .slice none 0 0) := by kernel_rfl
theorem str_at {w : World} {a : Option Addr} {ls : List ByteArray} (hl : Rd w a (ls.map Value.string)) {i : Nat} (hi : i < ls.length) : ∃ p, a = some p ∧ w.cell? (p.add (i * 1)) = some (.string ls[i]) := by
  obtain ⟨p, hp, hc⟩ := hl i (.string ls[i]) (by simp [hi])
  exact ⟨p, hp, by rw [Nat.mul_one]; exact hc⟩

theorem dict_laid_ok {w : World} {a : Option Addr} {c : Nat} {ls : List ByteArray} (hl : Rd w a (ls.map Value.string)) (hn : ls.length ≤ 4096) (hz : ∀ s ∈ ls, s.size ≤ 1024) :
    Calls Try.prog f.dict_laid #[.slice a ls.length c] w (Ret fun v w' => ∃ a' c', v = .slice a' (laidL ls).length c' ∧ NewB w w' (laidL ls) a' c') := by
  apply R.dict_laid_calls
  unfold R.dict_laid
  refine ⟨fun s w1 => ∃ (ps : List PartB) (pa : Option Addr) (pc : Nat), s = [.slice pa ps.length pc, .int .i64 (ps.length : Int)] ∧ ps.length ≤ ls.length ∧ Row w1 ty.L_uint8 1 pa ps.length pc (ps.map partV1) ∧ (∀ k, rowB pa = some k → w.heap.size ≤ k) ∧
      (∀ p ∈ ps, Rd w1 p.1 (p.2.2.map byteV) ∧ (∀ k, rowB pa = some k → rowB p.1 ≠ some k) ∧ ∀ k, rowB p.1 = some k → k < w1.heap.size) ∧ flatB ps = laidL (ls.take ps.length) ∧ Below w.heap.size w w1, fun s _ => match s with
      | [_, .int _ i] => ls.length - i.toNat
      | _ => 0, ⟨[], none, 0, rfl, by simp, Row.nil _ _ _, by simp [rowB], by simp, by simp [flatB, laidL], .refl _ _⟩, ?_⟩
  rintro pa _ pc _ w1 ⟨ps, _, _, hs, hle, hR, hnew, hps, hfl, B1⟩
  cases hs
  refine IFB_dec (fun hlt => ⟨⟨by omega, hlt⟩, ?_⟩) (fun hge => ?_)
  · have hkl : ps.length < ls.length := by omega
    obtain ⟨p, rfl, hc⟩ := str_at (hl.grown B1) hkl
    have hsz := hz _ (List.getElem_mem hkl)
    refine ⟨_, by rw [Int.toNat_natCast]; exact hc, (wire_Text_ok (c := 0) [] (Rd.nil _ _) ls[ps.length] (by omega) (by simp; omega)).mono ?_⟩
    rintro _ w3 ⟨_, rfl, a3, c3, rfl, h3⟩
    rw [List.nil_append] at h3 ⊢
    refine ⟨_, _, _, _, rfl, (SH.start (fun _ => False) w3).newB fun b12 w4 hb12 B4 S4 => ?_⟩
    have h4 := h3.grown B4
    have hsrc : Rd w4 (some ⟨b12, 0, none⟩) [partV1 (a3, c3, textL ls[ps.length])] := by
      have := Rd.of_block0 (S4.get 0 rfl)
      simpa [partV1] using this
    obtain ⟨a5, c5, w5, hrun, hrow, hk, hnw⟩ := append_row (ty := ty.L_L_uint8) (mc := 1) tP rfl (by omega) (by omega) (hR.grown (h4.bel)) hsrc (m := 1) rfl (by simp [partV1]; rfl) (by omega)
    unfold OPR
    rw [hrun]
    refine ⟨_, _, _, rfl, ?_⟩
    have e1 : (ps ++ [(a3, c3, textL ls[ps.length])]).length = ps.length + 1 := by simp
    have B4' : Below w.heap.size w w4 := B1.trans (h4.bel.mono B1.size)
    refine ⟨⟨ps ++ [(a3, c3, textL ls[ps.length])], a5, c5, ?_, by omega, ?_, fun k hk5 => ?_, fun q hq => ?_, ?_, B4'.trans (hk.below B4'.size fun k hlt hkk => ?_)⟩, ?_⟩
    · rw [wrap_succ (by omega), e1]
    · rw [e1, List.map_append]
      exact hrow
    · rcases hnw k hk5 with h | h
      · exact hnew k h
      · exact Nat.le_trans B4'.size h
    · have hpl : ∀ k, rowB pa = some k → k < w1.heap.size := fun k h => hR.lt h
      have hfar : ∀ k, rowB pa = some k → rowB q.1 ≠ some k := by
        intro k hk1 hk2
        rcases List.mem_append.1 hq with h | h
        · exact (hps q h).2.1 k hk1 hk2
        · simp only [List.mem_singleton] at h
          subst h
          have := h3.new k hk2
          have := hpl k hk1
          omega
      have hrd4 : Rd w4 q.1 (q.2.2.map byteV) := by
        rcases List.mem_append.1 hq with h | h
        · exact (hps q h).1.grown h4.bel
        · simp only [List.mem_singleton] at h
          subst h
          exact h4.rd
      have hql : ∀ k, rowB q.1 = some k → k < w4.heap.size := by
        intro k hk2
        rcases List.mem_append.1 hq with h' | h'
        · exact Nat.lt_of_lt_of_le ((hps q h').2.2 k hk2) h4.bel.size
        · simp only [List.mem_singleton] at h'
          subst h'
          exact h4.row.lt hk2
      refine ⟨?_, fun k hk5 hk2 => ?_, fun k hk2 => Nat.lt_of_lt_of_le (hql k hk2) hk.size⟩
      · exact hrd4.keeps hk (fun p hp hF => hfar p.block hF (by rw [hp]; rfl))
      · rcases hnw k hk5 with h | h
        · exact hfar k h hk2
        · have := hql k hk2
          omega
    · rw [e1, laidL_take hkl, ← hfl]
      simp [flatB]
    · have := hnew k hkk
      omega
    · simp only [Int.toNat_natCast]
      rw [wrap_succ (by omega)]
      omega
  · have hpl : ps.length = ls.length := by omega
    rw [hpl, List.take_length] at hfl
    have hlen := laidL_len hz
    refine (slices_Concat_ok ps hR.rd (fun p hp => (hps p hp).1) (by omega) (by rw [hfl]; omega)).mono ?_
    rintro _ w2 ⟨_, rfl, a2, c2, rfl, h2⟩
    rw [hfl] at h2 ⊢
    exact ⟨_, _, _, rfl, a2, c2, rfl, h2.before B1⟩
end Go.Proofs.Ytmilfgmkcmcicaa
