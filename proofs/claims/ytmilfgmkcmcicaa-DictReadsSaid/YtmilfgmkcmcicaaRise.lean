/-
  The different texts of a list, rising: by the program.
-/
import Derived.Test.YtmilfgmkcmcicaaPack3
import Derived.Test.YtmilfgmkcmcicaaIter
import Derived.Test.YtmilfgmkcmcicaaDnMaps
namespace Go.Proofs.Ytmilfgmkcmcicaa
open Go.Dn Go.Proofs
open Go.RowKit (Below)
set_option linter.unusedVariables false
set_option maxRecDepth 20000

theorem row_of_owns {w : World} {base : Nat} {e : TypeId} {v : Value} {n : Nat} {xs : List Value} (h : w.ownsRow base e 1 v n xs) : ∃ a c, v = .slice a n c ∧ Row w e 1 a n c xs ∧ ∀ k, rowB a = some k → base ≤ k := by
  obtain ⟨hl, ⟨rfl, rfl⟩ | ⟨g, cap, cur, rfl, hb, hg, h1, h2, h3, h4⟩⟩ := h
  · exact ⟨none, 0, rfl, ⟨hl, .inl ⟨rfl, rfl, rfl⟩⟩, by simp [rowB]⟩
  · refine ⟨_, cap, rfl, ⟨hl, .inr ⟨g, cur, rfl, hg, h1, ?_, h3, h4⟩⟩, fun k hk => ?_⟩
    · exact Nat.le_trans h2 (by decide)
    · cases hk; exact hb

/-- t: the different texts of ls, rising -/
structure IsRise (ls t : List (List UInt8)) : Prop where
  up : t.Pairwise (· < ·)
  mem : ∀ x, x ∈ t ↔ x ∈ ls
theorem lt_nodup {t : List (List UInt8)} (h : t.Pairwise (· < ·)) : t.Nodup := h.imp fun {a b} hab e => by subst e; exact List.lt_irrefl _ hab
theorem IsRise.one {ls t u : List (List UInt8)} (h : IsRise ls t) (h' : IsRise ls u) : t = u := by
  have hp : t.Perm u := (List.perm_ext_iff_of_nodup (lt_nodup h.up) (lt_nodup h'.up)).2 fun x => (h.mem x).trans (h'.mem x).symm
  exact List.Perm.eq_of_pairwise (le := fun a b => a < b) (fun a b _ _ h1 h2 => absurd h2 (List.lt_asymm h1)) h.up h'.up hp
theorem rise_sort {ls ss : List (List UInt8)} (hnd : ss.Nodup) (hm : ∀ x, x ∈ ss ↔ x ∈ ls) : IsRise ls (ss.mergeSort (fun x y => decide (x ≤ y))) := by
  have tr : ∀ a b c : List UInt8, leB a b = true → leB b c = true → leB a c = true := fun a b c h1 h2 => by simp only [leB, decide_eq_true_eq] at *; exact List.le_trans h1 h2
  have to : ∀ a b : List UInt8, (leB a b || leB b a) = true := fun a b => by simp only [leB, Bool.or_eq_true, decide_eq_true_eq]; exact List.le_total a b
  have hs := List.pairwise_mergeSort tr to ss
  have hp := List.mergeSort_perm ss leB
  have hn : (ss.mergeSort leB).Nodup := hp.nodup_iff.2 hnd
  refine ⟨?_, fun x => (hp.mem_iff).trans (hm x)⟩
  refine (hs.and hn).imp fun {a b} ⟨h1, h2⟩ => ?_
  simp only [leB, decide_eq_true_eq] at h1
  rcases Decidable.em (a < b) with h | h
  · exact h
  · exact absurd (List.le_antisymm h1 (List.not_lt.1 h)) h2

theorem und_str : Try.prog.underlying ty.string = some .string := by kernel_rfl
theorem und_u64 : Try.prog.underlying ty.uint64 = some (.int .u64) := by kernel_rfl
abbrev MapS (w : World) (b n : Nat) (g : List UInt8 → Option Int) : Prop := MapU Try.prog ty.string ty.uint64 .u64 w b n g
theorem sortedKeys_ok {w : World} {b n : Nat} {g : List UInt8 → Option Int} (h : MapS w b n g) (hn : n ≤ 4096) {ls : List (List UInt8)} (hg : ∀ x, (g x).isSome = true ↔ x ∈ ls) {k : Value → World → Prop}
    (hk : ∀ a c t w', IsRise ls t → Row w' ty.string 1 a t.length c (t.map encStr) → (∀ k, rowB a = some k → w.heap.size ≤ k) → Below w.heap.size w w' → k (.slice a t.length c) w') :
    Calls Try.prog f.maps_Keys_map_string_uint64_string_uint64 #[.map (some b)] w (fun e w1 => ∃ (fn : FuncId) (fi ca : Array Value), e = .returned (.func (.func fn) fi ca) ∧
      Calls Try.prog f.slices_Sorted_string #[.func (.func fn) fi ca] w1 (fun e w2 => ∃ (a : Option Addr) (l c : Nat), e = .returned (.slice a l c) ∧ k (.slice a l c) w2)) := by
  obtain ⟨D, hD, hsz, hnd, hmem⟩ := h.keys und_str
  refine (callsIn_wide.1 (Try.maps_Keys_20 (some b) w)).mono ?_
  rintro _ w1 ⟨rfl, rfl⟩
  refine ⟨_, _, _, rfl, (callsIn_wide.1 (Try.slices_Sorted_keys_19_20 b n D (plainElem Try.prog ty.uint64) w hD (Nat.le_trans (Nat.le_trans hsz hn) (by decide)) (by omega))).mono ?_⟩
  rintro _ w2 ⟨v, ss, rfl, hperm, hrow, _, hb⟩
  obtain ⟨a, c, rfl, hR, hnew⟩ := row_of_owns hrow
  have hr := rise_sort (ls := ls) (hperm.nodup_iff.2 hnd) (fun x => (hperm.mem_iff).trans ((hmem x).trans (hg x)))
  have hlen : (ss.mergeSort (fun x y => decide (x ≤ y))).length = ss.length := List.length_mergeSort _
  have sz : w.heap.size ≤ (w.alloc (.cells #[.map (some b)] 43)).heap.size := by simp
  refine ⟨_, _, _, rfl, ?_⟩
  have := hk a c _ w2 hr (by rw [hlen]; exact hR) (fun k hk => Nat.le_trans sz (hnew k hk)) (((Below.refl _ w).alloc (Nat.le_refl _) _).trans (hb.mono sz))
  rwa [hlen] at this
end Go.Proofs.Ytmilfgmkcmcicaa
