/-
  Append of a text's bytes; append of so many zeros onto nil.
-/
import Derived.Test.YtmilfgmkcmcicaaDnLaws3
namespace Go.Dn
open Go.RowKit (Below)

theorem first_string {P : Program} {w : World} (s : ByteArray) : (Builtin.firstCells 1 s.size (.string s)).run P w = .ok ((bl s).map byteV).toArray w := by
  simp only [Builtin.firstCells, Sem.run_pure]
  congr 1
  apply Array.ext'
  have : s.extract 0 s.size = s := by rw [extract_eq]; apply bl_inj; rw [bl_sof, List.drop_zero, Nat.sub_zero, List.take_of_length_le (by rw [bl_length]; omega)]
  rw [this]
  simp [bl, byteV]

theorem append_string {P : Program} {t u ty e : TypeId} {bytes : Nat} {z : Value} (hT : slT P t = some (e, 1, bytes, z)) (hu' : P.underlying u = some .string) (hz : z.cells.size = 1) (hb0 : 0 < bytes)
    {w : World} {a : Option Addr} {n c : Nat} {xs : List Value} (hr : Row w e 1 a n c xs) (s : ByteArray) (hby : (n + s.size) * bytes ≤ 140737488355328) :
    ∃ a' c' w', (Builtin.append_ #[t, u] ty #[.slice a n c, .string s]).run P w = .ok (.slice a' (n + s.size) c') w' ∧ Row w' e 1 a' (n + s.size) c' (xs ++ (bl s).map byteV) ∧
      Keeps (fun k => rowB a = some k) w w' ∧ (∀ k, rowB a' = some k → rowB a = some k ∨ w.heap.size ≤ k) := by
  obtain ⟨hu, i, hi, hiz, hi1, rfl⟩ := slT_out hT
  have hnm : n + s.size ≤ 140737488355328 := Nat.le_trans (Nat.le_mul_of_pos_right _ hb0) hby
  have hl : ((bl s).map byteV).length = s.size := by rw [List.length_map, bl_length]
  have hlen : (xs ++ (bl s).map byteV).length = (n + s.size) * 1 := by rw [List.length_append, hr.1, hl]; omega
  have h1 : ∀ u ∈ (bl s).map byteV, u.oneCell' = true := by
    intro u hu
    obtain ⟨c, _, rfl⟩ := List.mem_map.1 hu
    exact byteV_one c
  have grown : ∀ (old : Nat), old < n + s.size → Row (w.drew.alloc (.cells (xs.toArray ++ ((bl s).map byteV).toArray ++ Builtin.zeroCells z.cells (grownCap w (n + s.size) old e - (n + s.size))) e)) e 1
      (some ⟨w.heap.size, 0, none⟩) (n + s.size) (grownCap w (n + s.size) old e) (xs ++ (bl s).map byteV) := by
    intro old ho
    have hge := grownCap_ge w (n + s.size) old e
    have hcm : grownCap w (n + s.size) old e ≤ maxLen := grownCap_le_maxLen w (n + s.size) old e (by unfold maxLen; omega)
    refine ⟨hlen, .inr ⟨w.heap.size, _, rfl, heap_alloc_new w.drew _, hge, by unfold maxLen at hcm; omega, ?_, ?_⟩⟩
    · simp only [Array.size_append, List.size_toArray, size_zeroCells, hz, hr.1, hl]
      omega
    · simp only [Array.toList_append, List.append_assoc]
      rw [← List.append_assoc, ← hlen]
      exact List.take_left
  have gkeeps : ∀ (cs : Array Value) (row : Nat → Prop), Keeps row w (w.drew.alloc (.cells cs e)) := fun cs row => (Keeps.refl row w).drew.alloc _
  have grow : ∀ (old : Nat) (olds : Value), (∀ w', w'.heap = w.heap → (Builtin.firstCells 1 n olds).run P w' = .ok xs.toArray w') → old < n + s.size → (∃ b0, olds = .slice b0 n old) →
      (Builtin.append_ #[t, u] ty #[olds, .string s]).run P w = .ok (.slice (some ⟨w.heap.size, 0, none⟩) (n + s.size) (grownCap w (n + s.size) old e))
        (w.drew.alloc (.cells (xs.toArray ++ ((bl s).map byteV).toArray ++ Builtin.zeroCells z.cells (grownCap w (n + s.size) old e - (n + s.size))) e)) := by
    rintro old _ hf ho ⟨b0, rfl⟩
    have hn : ¬ (n + s.size ≤ old) := by omega
    have h63' : ¬ (9223372036854775807 < ((n : Int) + (s.size : Int))) := by omega
    have h48' : ¬ (281474976710656 < Builtin.nextslicecap (n + s.size) old * i.bytes) := by have := growslice_fits (old := old) (need := n + s.size) ho hby; omega
    have hf' := hf w.drew rfl
    simp [Builtin.append_, run_underlying hu, run_underlying hu', sizeOf, typeInfo, zeroValue, hi, hiz, hi1, Builtin.lenOf, hn, h63', h48', Question.forced, hf', first_string, newRow, grownCap]
    congr 2
    apply Array.ext'
    simp [List.append_assoc]
  rcases hr.2 with ⟨rfl, rfl, rfl⟩ | ⟨g, cur, rfl, hg, hnc, hcm, hcs, htake⟩
  · have hx : xs = [] := List.eq_nil_of_length_eq_zero (by simpa using hr.1)
    subst hx
    by_cases hm : s.size = 0
    · have hn : (bl s).map byteV = [] := List.eq_nil_of_length_eq_zero (by rw [hl, hm])
      refine ⟨none, 0, w, ?_, by rw [hm, hn]; exact Row.nil w e 1, .refl _ _, by simp [rowB]⟩
      have := first_string (P := P) (w := w) s
      rw [hm] at this
      simp [Builtin.append_, run_underlying hu, run_underlying hu', sizeOf, typeInfo, hi, hi1, Builtin.lenOf, hm, this]
    · exact ⟨_, _, _, grow 0 (.slice none 0 0) (fun w' _ => by simp [Builtin.firstCells]) (by omega) ⟨_, rfl⟩, grown 0 (by omega), gkeeps _ _, fun k hk => .inr (by simp [rowB] at hk; omega)⟩
  · by_cases hroom : n + s.size ≤ c
    · have hfit : n + ((bl s).map byteV).length ≤ cur.size := by rw [hl, hcs]; omega
      have hst := run_storeCells_at P g n e ((bl s).map byteV) 0 cur w hg (by simpa using hfit) h1
      simp only [Nat.add_zero] at hst
      refine ⟨some ⟨g, 0, none⟩, c, _, ?_, ⟨hlen, .inr ⟨g, _, rfl, heap_setRow hg, hroom, hcm, ?_, ?_⟩⟩, (keeps_setRow w g (cur.toList.take n ++ (bl s).map byteV ++ cur.toList.drop (n + ((bl s).map byteV).length)).toArray).mono (fun k _ h => by subst h; rfl), fun k hk => .inl hk⟩
      · simp [Builtin.append_, run_underlying hu, run_underlying hu', sizeOf, typeInfo, hi, hi1, Builtin.lenOf, hroom, first_string, Addr.add_lit]
        rw [hst]
        simp
      · simp only [List.size_toArray, List.length_append, List.length_take, List.length_drop, Array.length_toList]
        omega
      · have hxl : cur.toList.take n = xs := by rw [← htake]; simp
        rw [hxl, ← hlen]
        exact List.take_left
    · have hold : ∀ w', w'.heap = w.heap → (Builtin.firstCells 1 n (.slice (some ⟨g, 0, none⟩) n c)).run P w' = .ok xs.toArray w' := by
        intro w' hw'
        refine run_firstCells_some (P := P) w' 1 n ⟨g, 0, none⟩ n c xs hr.1 fun j v hv => ?_
        obtain ⟨q, hq, hc⟩ := hr.rd j v hv
        cases hq
        have : w'.cell? ((⟨g, 0, none⟩ : Addr).add j) = w.cell? ((⟨g, 0, none⟩ : Addr).add j) := by unfold World.cell?; rw [hw']
        rw [this]
        exact hc
      exact ⟨_, _, _, grow c _ hold (by omega) ⟨_, rfl⟩, grown c (by omega), gkeeps _ _, fun k hk => .inr (by simp [rowB] at hk; omega)⟩

/-- so many zeros onto nil, and cut back: room for so many -/
theorem append_zeros {P : Program} {t u ty e : TypeId} {sz bytes : Nat} {z : Value} (hT : slT P t = some (e, sz, bytes, z)) (hu' : P.underlying u = some (.int .i64)) (hz : z.cells.size = sz) (hsz : 0 < sz) (hb0 : 0 < bytes)
    {w : World} {m : Nat} (hm : 0 < m) (hby : m * bytes ≤ 140737488355328) :
    ∃ c' w', (Builtin.append_ #[t, u] ty #[.slice none 0 0, .int .i64 (m : Int)]).run P w = .ok (.slice (some ⟨w.heap.size, 0, none⟩) m c') w' ∧ Row w' e sz (some ⟨w.heap.size, 0, none⟩) 0 c' [] ∧ m ≤ c' ∧ Below w.heap.size w w' := by
  obtain ⟨hu, i, hi, hiz, rfl, rfl⟩ := slT_out hT
  have hnm : m ≤ 140737488355328 := Nat.le_trans (Nat.le_mul_of_pos_right _ hb0) hby
  have hge := grownCap_ge w m 0 e
  have hcm : grownCap w m 0 e ≤ maxLen := grownCap_le_maxLen w m 0 e (by unfold maxLen; omega)
  have hw : IntKind.i64.wrap (m : Int) = m := by rw [IntKind.wrap_i64]; omega
  have h1 : ¬ ((m : Int) < 0) := by omega
  have h2 : ¬ (281474976710656 < (m : Int) * (i.bytes : Int)) := by rw [← Int.natCast_mul]; omega
  have h3 : ¬ (m * i.size = 0) := by have := Nat.mul_pos hm hsz; omega
  have h4 : ¬ (m ≤ 0) := by omega
  have h5 : ¬ (9223372036854775807 < (m : Int)) := by omega
  have h6 : ¬ (281474976710656 < Builtin.nextslicecap m 0 * i.bytes) := by rw [nextslicecap_zero hm]; omega
  have h7 : ¬ (m = 0) := by omega
  have h8 : ¬ (i.size = 0) := by omega
  refine ⟨grownCap w m 0 e, w.drew.alloc (.cells (Builtin.zeroCells z.cells m ++ Builtin.zeroCells z.cells (grownCap w m 0 e - m)) e), ?_, ?_, hge, ((Below.refl _ w).drew).alloc (Nat.le_refl _) _⟩
  · simp [Builtin.append_, run_underlying hu, run_underlying hu', sizeOf, typeInfo, zeroValue, hi, hiz, asInt, asIntOf, hw, h1, h2, h5, h6, h7, Question.forced, Builtin.firstCells, newRow, grownCap]
    intro h
    exact absurd h h3
  · refine ⟨by simp, .inr ⟨w.heap.size, _, rfl, heap_alloc_new w.drew _, by omega, by unfold maxLen at hcm; omega, ?_, by simp⟩⟩
    rw [Array.size_append, size_zeroCells, size_zeroCells, hz, ← Nat.add_mul]
    congr 1
    omega
end Go.Dn
