/-
  More laws: make, a struct laid in one go, local blocks that are far from what changes.
-/
import Derived.Test.YtmilfgmkcmcicaaDnLaws2
namespace Go.Dn
open Go.RowKit (Below)

theorem madeCells_size (z : Array Value) (n : Nat) : (madeCells z n).size = n := by simp [madeCells]
theorem madeCells_one (z : Value) (h : z.cells = #[z]) (n : Nat) : (madeCells z.cells n).toList = List.replicate n z := by
  rw [h]
  apply List.ext_getElem
  · simp [madeCells]
  · intro i h1 h2
    simp [madeCells, Nat.mod_one]

/-- make, its cells known -/
theorem make_new {P : Program} {t e : TypeId} {sz bytes : Nat} {z : Value} (hT : slT P t = some (e, sz, bytes, z)) {w : World} {l c : Int} (h0 : 0 ≤ l) (hlc : l ≤ c) (hb : (bytes : Int) * c ≤ 281474976710656) (hc : c ≤ 9223372036854775807)
    {f : Value → World → Prop} {kl kc : IntKind} (hf : ∀ b w', w.heap.size ≤ b → Below w.heap.size w w' → w'.heap[b]? = some (.cells (madeCells z.cells (c.toNat * sz)) e (0, 0)) → f (.slice (some ⟨b, 0, none⟩) l.toNat c.toNat) w') :
    OPR P (Instr.makeSlice t (.int kl l) (.int kc c)) f w := by
  obtain ⟨hu, i, hi, hiz, rfl, rfl⟩ := slT_out hT
  unfold OPR
  rw [run_make w t e i z hu hi hiz kl kc l c h0 hlc hb hc]
  exact hf _ _ (Nat.le_refl _) ((Below.refl _ w).alloc (Nat.le_refl _) _) (heap_alloc_new w _)
/-- make, a row without elements as yet -/
theorem make_row0 {P : Program} {t e : TypeId} {sz bytes : Nat} {z : Value} (hT : slT P t = some (e, sz, bytes, z)) {w : World} {c : Nat} (hb : bytes * c ≤ 281474976710656) (hc : c ≤ 9223372036854775807)
    {f : Value → World → Prop} {kl kc : IntKind} (hf : ∀ b w', w.heap.size ≤ b → Below w.heap.size w w' → Row w' e sz (some ⟨b, 0, none⟩) 0 c [] → f (.slice (some ⟨b, 0, none⟩) 0 c) w') :
    OPR P (Instr.makeSlice t (.int kl 0) (.int kc (c : Int))) f w := by
  refine make_new hT (l := 0) (c := (c : Int)) (by omega) (by omega) ?_ (by omega) fun b w' h1 h2 h3 => ?_
  · rw [← Int.natCast_mul]
    omega
  · rw [Int.toNat_natCast] at h3 ⊢
    exact hf b w' h1 h2 ⟨by simp, .inr ⟨b, _, rfl, h3, by omega, hc, by rw [madeCells_size], by simp⟩⟩
/-- a store into a block that is known -/
theorem sto_blk {w : World} {b : Nat} {cs : Array Value} {t : TypeId} (hb : w.heap[b]? = some (.cells cs t (0, 0))) {i : Nat} {v : Value} {k : World → Prop} (hi : i < cs.size)
    (hk : ∀ w', Keeps (· = b) w w' → w'.heap[b]? = some (.cells (cs.setIfInBounds i v) t (0, 0)) → k w') : STO ⟨b, i, none⟩ v k w := by
  refine ⟨?_, ?_, hk _ (keeps_setCell w b i v) (heap_setCell_at hb v)⟩
  · simp [World.cell?, hb, hi]
  · simp [World.frozen?, hb]
section
variable {F : Nat → Prop} {w0 w : World} {H : List Ent}
/-- a struct of three cells, laid and set -/
theorem SH.lit3 (S : SH F w0 w H) {z0 z1 z2 v0 v1 v2 : Value} {t : TypeId} {k : Nat → World → Prop} (hk : ∀ b w', w.heap.size ≤ b → Below w.heap.size w w' → SH F w0 w' ((b, #[v0, v1, v2], t) :: H) → k b w') :
    NEWB #[z0, z1, z2] t (fun b w => STO ⟨b, 0, none⟩ v0 (fun w => STO ⟨b, 1, none⟩ v1 (fun w => STO ⟨b, 2, none⟩ v2 (fun w => k b w) w) w) w) w := by
  refine S.newB fun b w1 hb B1 S1 => S1.sto3K 0 rfl fun w2 K2 S2 => hk b w2 hb (B1.trans (K2.below B1.size fun k hk he => by omega)) S2
/-- local blocks from m on; what changes lies below m -/
theorem SH.off (S : SH (fun _ => True) w0 w H) {G : Nat → Prop} {w' : World} (K : Keeps G w w') (m : Nat) (hH : ∀ x ∈ H, m ≤ x.1) (hG : ∀ k, G k → k < m) : SH (fun _ => True) w0 w' H :=
  S.kept K (fun x hx hg => by have := hH x hx; have := hG _ hg; omega) (fun _ _ _ => trivial)
end
end Go.Dn
