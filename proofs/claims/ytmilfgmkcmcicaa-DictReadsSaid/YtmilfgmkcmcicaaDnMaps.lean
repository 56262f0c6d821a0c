/-
  Maps from texts to integers: made, written, read; their keys.
-/
import Derived.Test.YtmilfgmkcmcicaaDnLaws4
import Derived.Maps.Own
import Derived.Maps.Views
import Derived.Sort.KeysCollected
namespace Go.Dn
open Go.RowKit (Below)
open Go.Maps (has Tidy Keyed)

theorem Keeps.of_grownBy {w w' : World} {b : Nat} (h : w.grownBy w' (some b)) : Keeps (· = b) w w' :=
  ⟨h.os, h.tape, h.output, h.size, fun k hk hn => h.block k hk (fun e => hn (Option.some.inj e))⟩

/-- block b is a map from texts to integers: what it holds -/
def MapU (P : Program) (k e : TypeId) (q : IntKind) (w : World) (b n : Nat) (g : List UInt8 → Option Int) : Prop :=
  ∃ D : DataW Unit, w.ownsMap P k (plainElem P e) b n D ∧ Tidy D ∧ ∀ x, has D (.string x) = (g x).isSome ∧ D.atKey (.string x) (.lit (.int q 0)) = .lit (.int q ((g x).getD 0))
section
variable {P : Program} {k e t : TypeId} {q : IntKind} {w : World} {b n : Nat} {g : List UInt8 → Option Int}
theorem MapU.kept (h : MapU P k e q w b n g) {F : Nat → Prop} {w' : World} (K : Keeps F w w') (hn : ¬ F b) : MapU P k e q w' b n g := by
  obtain ⟨D, ⟨es, clock, hb, r⟩, h2⟩ := h
  exact ⟨D, ⟨es, clock, K.at hb hn, r⟩, h2⟩
theorem MapU.lt (h : MapU P k e q w b n g) : b < w.heap.size := by
  obtain ⟨D, h, _⟩ := h
  exact h.lt
theorem MapU.put (h : MapU P k e q w b n g) (hk : P.underlying k = some .string) (he : P.underlying e = some (.int q)) (ht : P.underlying t = some (.map k e)) (hn : n < maxLen) {s : ByteArray} (hs : s.size ≤ maxLen) {v : Int} (hv : (Lit.int q v).wf = true)
    {f : World → Prop} (hf : ∀ w', Keeps (· = b) w w' → MapU P k e q w' b (n + 1) (fun y => if y = bl s then some v else g y) → f w') : OPU P (Instr.mapUpdate t (.map (some b)) (.string s) (.int q v)) f w := by
  obtain ⟨D, hD, hT, hg⟩ := h
  have hkey : keyOf P k (.string s) = some (.string (bl s)) := by simp [keyOf, hk, mapKey, hs, bl]
  obtain ⟨w', hrun, hown, hgrow⟩ := hD.update (Maps.string_keyed hk) ht hn hkey (plainElem_int he hv)
  unfold OPU
  rw [hrun]
  have hkl : WideAt.IsKeyLit (.string (bl s)) := by simp [WideAt.IsKeyLit]
  refine hf w' (.of_grownBy hgrow) ⟨_, hown, hT.put hkl _, fun x => ?_⟩
  by_cases hx : x = bl s
  · subst hx
    simp only [if_true]
    exact ⟨Maps.has_put_same hT.isMap hkl _, Maps.atKey_put_same hT.isMap hkl _ _⟩
  · have hne : Lit.string x ≠ .string (bl s) := fun e => hx (by injection e)
    simp only [hx, if_false]
    exact ⟨(Maps.has_put_other hne _).trans (hg x).1, (Maps.atKey_put_other hne _ _).trans (hg x).2⟩
theorem MapU.get (h : MapU P k e q w b n g) (hk : P.underlying k = some .string) (he : P.underlying e = some (.int q)) (ht : P.underlying t = some (.map k e)) (hz : (zeroValue e).run P w = .ok (.int q 0) w) {s : ByteArray} (hs : s.size ≤ maxLen)
    {f : Value → World → Prop} (hf : f (.int q ((g (bl s)).getD 0)) w) : OPR P (Instr.lookup t (.map (some b)) (.string s) false) f w := by
  obtain ⟨D, hD, hT, hg⟩ := h
  have hkey : keyOf P k (.string s) = some (.string (bl s)) := by simp [keyOf, hk, mapKey, hs, bl]
  obtain ⟨c, hrun, hat, _⟩ := hD.lookup_int (Maps.string_keyed hk) ht he hz hkey
  rw [(hg (bl s)).2] at hat
  have : c = (g (bl s)).getD 0 := by injection hat with h1; injection h1 with _ h2; exact h2.symm
  unfold OPR
  rw [hrun, this]
  exact hf
/-- the keys -/
theorem MapU.keys (h : MapU P k e q w b n g) (hk : P.underlying k = some .string) : ∃ D : DataW Unit, w.ownsMap P k (plainElem P e) b n D ∧ Maps.size D ≤ n ∧ (strKeys D).Nodup ∧ ∀ x, x ∈ strKeys D ↔ (g x).isSome = true := by
  obtain ⟨D, hD, hT, hg⟩ := h
  obtain ⟨es, e1, hpw⟩ := hT
  obtain ⟨es', hD', hko⟩ := hD.keysOf
  obtain rfl : es = es' := by rw [e1] at hD'; simpa using hD'
  have hstr : ∀ p ∈ es, ∃ x, p.1 = .string x := fun p hp => by obtain ⟨v, hv⟩ := hko p hp; obtain ⟨x, _, hx, _⟩ := Maps.keyOf_str hk hv; exact ⟨x, hx⟩
  have hnd : (strKeys D).Nodup := by
    rw [e1]
    show (es.map fun p => strOf p.1).Nodup
    refine List.pairwise_map.2 (hpw.imp_of_mem fun {p r} hp' hq' hne e => hne ?_)
    obtain ⟨a, ha⟩ := hstr p hp'
    obtain ⟨c, hc⟩ := hstr r hq'
    rw [ha, hc] at e ⊢
    exact congrArg _ e
  refine ⟨D, hD, ?_, hnd, fun x => ?_⟩
  · obtain ⟨es2, clock, _, _, hs, e2⟩ := hD
    rw [e2]
    simp only [Maps.size, length_sorted, List.length_map, Array.length_toList]
    exact hs
  · rw [← (hg x).1, e1, Maps.has_eq, List.any_eq_true]
    show x ∈ es.map (fun p => strOf p.1) ↔ _
    rw [List.mem_map]
    constructor
    · rintro ⟨p, hp', rfl⟩
      obtain ⟨a, ha⟩ := hstr p hp'
      exact ⟨p, hp', by rw [ha]; simp [Lit.sameKey, strOf]⟩
    · rintro ⟨p, hp', hs⟩
      obtain ⟨a, ha⟩ := hstr p hp'
      rw [ha] at hs
      exact ⟨p, hp', by rw [ha]; simpa [Lit.sameKey, strOf] using hs⟩
end
end Go.Dn
