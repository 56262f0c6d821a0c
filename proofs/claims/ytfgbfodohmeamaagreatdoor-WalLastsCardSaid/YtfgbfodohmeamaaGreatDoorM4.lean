/-
  Texts of this claim, laid one behind the other by a program of mine (install.py): Dn.MapsP, Dn.MapsQ, Dn.Lit, K.Tys, K.Wl2, K.Wl3, K.Wl4, K.Wl5, K.Wl6, K.Dk1, K.Dk2, Dn.MapsR, K.Dk3, K.Dk4, K.Dk5.
-/
import Derived.Test.YtfgbfodohmeamaaGreatDoorM3
import Derived.Maps.OwnSet
import Derived.Maps.Range
import Derived.LaidEqlPtr
import Derived.WideKeyEntry
import Derived.StringKeys
namespace Go.Dn
set_option maxRecDepth 100000
set_option linter.unusedVariables false
open Go.RowKit (Below)
open Go.Maps (has Tidy Keyed)
def ptrE (v : Value) : Option (DataW Unit × List MemPlace) :=
  match v with
  | .pointer none => some (.lit (.int .i64 0), [])
  | .pointer (some ⟨b, 0, none⟩) => some (.lit (.int .i64 ((b : Int) + 1)), [])
  | _ => none
def ptrN (o : Option Nat) : Int := match o with | none => 0 | some b => (b : Int) + 1
def ptrO (o : Option Nat) : Value := .pointer (o.map fun b => ⟨b, 0, none⟩)
theorem ptrE_mk (o : Option Nat) : ptrE (ptrO o) = some (.lit (.int .i64 (ptrN o)), []) := by cases o <;> rfl
theorem ptrE_inv {v : Value} {z : DataW Unit × List MemPlace} (h : ptrE v = some z) : ∃ o, v = ptrO o ∧ z.1 = .lit (.int .i64 (ptrN o)) := by
  unfold ptrE at h
  split at h
  · cases h; exact ⟨none, rfl, rfl⟩
  · cases h; exact ⟨some _, rfl, rfl⟩
  · cases h
theorem ptrN_inj {a b : Option Nat} (h : ptrN a = ptrN b) : a = b := by
  cases a <;> cases b <;> simp only [ptrN] at h
  · rfl
  · omega
  · omega
  · congr 1; omega
theorem lit_ptr {a b : Option Nat} (h : (DataW.lit (.int .i64 (ptrN a)) : DataW Unit) = .lit (.int .i64 (ptrN b))) : a = b := by
  injection h with h1
  injection h1 with _ h2
  exact ptrN_inj h2
def MapP (P : Program) (k : TypeId) (w : World) (b n : Nat) (g : List UInt8 → Option Nat) : Prop :=
  ∃ D : DataW Unit, w.ownsMap P k ptrE b n D ∧ Tidy D ∧ ∀ x, has D (.string x) = (g x).isSome ∧ D.atKey (.string x) (.lit (.int .i64 0)) = .lit (.int .i64 (ptrN (g x)))
section
variable {P : Program} {k e t : TypeId} {w : World} {b n : Nat} {g : List UInt8 → Option Nat}
theorem MapP.same (h : MapP P k w b n g) {w' : World} (hb' : w'.heap[b]? = w.heap[b]?) : MapP P k w' b n g := by
  obtain ⟨D, ⟨es, clock, hb, r⟩, h2⟩ := h
  exact ⟨D, ⟨es, clock, hb'.trans hb, r⟩, h2⟩
theorem MapP.lt (h : MapP P k w b n g) : b < w.heap.size := by
  obtain ⟨D, h, _⟩ := h
  exact h.lt
theorem MapP.mono (h : MapP P k w b n g) {m : Nat} (hm : n ≤ m) : MapP P k w b m g := by
  obtain ⟨D, h, r⟩ := h
  exact ⟨D, h.mono hm, r⟩
theorem MapP.made (w : World) : MapP P k (w.alloc (.map #[] 0)) w.heap.size 0 (fun _ => none) := ⟨_, World.ownsMap_made _ _ _ _, Maps.tidy_empty, fun x => ⟨rfl, rfl⟩⟩
theorem MapP.put (h : MapP P k w b n g) (hk : P.underlying k = some .string) (ht : P.underlying t = some (.map k e)) (hn : n < maxLen) {s : ByteArray} (hs : s.size ≤ maxLen) {o : Option Nat} (ho : o.isSome = true)
    {f : World → Prop} (hf : ∀ w', Keeps (· = b) w w' → MapP P k w' b (n + 1) (fun y => if y = bl s then o else g y) → f w') : OPU P (Instr.mapUpdate t (.map (some b)) (.string s) (ptrO o)) f w := by
  obtain ⟨D, hD, hT, hg⟩ := h
  have hkey : keyOf P k (.string s) = some (.string (bl s)) := by simp [keyOf, hk, mapKey, hs, bl]
  obtain ⟨w', hrun, hown, hgrow⟩ := hD.update (Maps.string_keyed hk) ht hn hkey (ptrE_mk o)
  unfold OPU
  rw [hrun]
  have hkl : WideAt.IsKeyLit (.string (bl s)) := by simp [WideAt.IsKeyLit]
  refine hf w' (.of_grownBy hgrow) ⟨_, hown, hT.put hkl _, fun x => ?_⟩
  by_cases hx : x = bl s
  · subst hx
    simp only [if_true]
    exact ⟨(Maps.has_put_same hT.isMap hkl _).trans ho.symm, Maps.atKey_put_same hT.isMap hkl _ _⟩
  · have hne : Lit.string x ≠ .string (bl s) := fun e => hx (by injection e)
    simp only [hx, if_false]
    exact ⟨(Maps.has_put_other hne _).trans (hg x).1, (Maps.atKey_put_other hne _ _).trans (hg x).2⟩
theorem MapP.get (h : MapP P k w b n g) (hk : P.underlying k = some .string) (ht : P.underlying t = some (.map k e)) (hz : (zeroValue e).run P w = .ok (.pointer none) w) {s : ByteArray} (hs : s.size ≤ maxLen)
    {f : Value → World → Prop} (hf : f (ptrO (g (bl s))) w) : OPR P (Instr.lookup t (.map (some b)) (.string s) false) f w := by
  obtain ⟨D, hD, hT, hg⟩ := h
  have hkey : keyOf P k (.string s) = some (.string (bl s)) := by simp [keyOf, hk, mapKey, hs, bl]
  obtain ⟨v, ps, hrun, hv⟩ := hD.lookup (Maps.string_keyed hk) ht hz (ptrE_mk none) hkey
  obtain ⟨o, rfl, ho⟩ := ptrE_inv hv
  have hat : D.atKey (.string (bl s)) (.lit (.int .i64 (ptrN none))) = .lit (.int .i64 (ptrN o)) := ho
  have h2 := (hg (bl s)).2
  rw [show (0 : Int) = ptrN none from rfl, hat] at h2
  obtain rfl := lit_ptr h2
  unfold OPR
  rw [hrun]
  exact hf
theorem MapP.del (h : MapP P k w b n g) (hk : P.underlying k = some .string) (ht : P.underlying t = some (.map k e)) {s : ByteArray} (hs : s.size ≤ maxLen) {ty : TypeId}
    {f : Value → World → Prop} (hf : ∀ w', Keeps (· = b) w w' → MapP P k w' b n (fun y => if y = bl s then none else g y) → f (.tuple #[]) w') : OPR P (Builtin.delete_ #[t, k] ty #[.map (some b), .string s]) f w := by
  obtain ⟨D, hD, hT, hg⟩ := h
  have hkey : keyOf P k (.string s) = some (.string (bl s)) := by simp [keyOf, hk, mapKey, hs, bl]
  obtain ⟨w', hrun, hown, hgrow⟩ := hD.drop (Maps.string_keyed hk) ht hkey ty
  unfold OPR
  rw [hrun]
  refine hf w' (.of_grownBy hgrow.grown) ⟨_, hown, hT.del _, fun x => ?_⟩
  by_cases hx : x = bl s
  · subst hx
    simp only [if_true]
    exact ⟨Maps.has_del_same, Maps.atKey_del_same _⟩
  · have hne : Lit.string x ≠ .string (bl s) := fun e => hx (by injection e)
    simp only [hx, if_false]
    exact ⟨(Maps.has_del_other hne).trans (hg x).1, (Maps.atKey_del_other hne _).trans (hg x).2⟩
theorem MapP.keys (h : MapP P k w b n g) (hk : P.underlying k = some .string) : ∃ D : DataW Unit, w.ownsMap P k ptrE b n D ∧ Maps.size D ≤ n ∧ (strKeys D).Nodup ∧ ∀ x, x ∈ strKeys D ↔ (g x).isSome = true := by
  obtain ⟨D, hD, hT, hg⟩ := h
  obtain ⟨es, e1, hpw⟩ := hT
  obtain ⟨es', hD', hko⟩ := hD.keysOf
  obtain rfl : es = es' := by rw [e1] at hD'; simpa using hD'
  have hstr : ∀ p ∈ es, ∃ x, p.1 = .string x := fun p hp => by obtain ⟨v, hv⟩ := hko p hp; obtain ⟨x, _, hx, _⟩ := Maps.keyOf_str hk hv; exact ⟨x, hx⟩
  have hnd : (strKeys D).Nodup := by
    rw [e1]
    show (es.map fun p => strOf p.1).Nodup
    refine List.pairwise_map.2 (hpw.imp_of_mem fun {p r} hp' hq' hne e => hne ?_)
    obtain ⟨a, ha⟩ := hstr p hp'
    obtain ⟨c, hc⟩ := hstr r hq'
    rw [ha, hc] at e ⊢
    exact congrArg _ e
  refine ⟨D, hD, hD.size_le, hnd, fun x => ?_⟩
  rw [← (hg x).1, e1, Maps.has_eq, List.any_eq_true]
  show x ∈ es.map (fun p => strOf p.1) ↔ _
  rw [List.mem_map]
  constructor
  · rintro ⟨p, hp', rfl⟩
    obtain ⟨a, ha⟩ := hstr p hp'
    exact ⟨p, hp', by rw [ha]; simp [Lit.sameKey, strOf]⟩
  · rintro ⟨p, hp', hs⟩
    obtain ⟨a, ha⟩ := hstr p hp'
    rw [ha] at hs
    exact ⟨p, hp', by rw [ha]; simpa [Lit.sameKey, strOf] using hs⟩
def RanP (P : Program) (k : TypeId) (w : World) (b r n : Nat) (g : List UInt8 → Option Nat) (ks : List (List UInt8)) : Prop :=
  ∃ (D : DataW Unit) (left : Lit → Bool) (cnt : Nat), w.ranges P k ptrE b r n D left cnt ∧ Tidy D ∧ (∀ x, has D (.string x) = (g x).isSome ∧ D.atKey (.string x) (.lit (.int .i64 0)) = .lit (.int .i64 (ptrN (g x)))) ∧
    ks.Nodup ∧ (∀ x, x ∈ ks ↔ left (.string x) = true) ∧ ∀ x ∈ ks, (g x).isSome = true ∧ x.length ≤ maxLen
theorem RanP.map {r : Nat} {ks : List (List UInt8)} (h : RanP P k w b r n g ks) : MapP P k w b n g := by
  obtain ⟨D, left, cnt, h1, h2, h3, _⟩ := h
  exact ⟨D, h1.owns, h2, h3⟩
theorem RanP.lt {r : Nat} {ks : List (List UInt8)} (h : RanP P k w b r n g ks) : r < w.heap.size ∧ r ≠ b := by
  obtain ⟨D, left, cnt, h1, _⟩ := h
  exact ⟨h1.lt, h1.ne⟩
theorem RanP.same {r : Nat} {ks : List (List UInt8)} (h : RanP P k w b r n g ks) {w' : World} (h1 : w'.heap[b]? = w.heap[b]?) (h2 : w'.heap[r]? = w.heap[r]?) : RanP P k w' b r n g ks := by
  obtain ⟨D, left, cnt, ⟨es, clock, since, seen, c0, q1, q2, q3, q4, q5, q6⟩, r2⟩ := h
  exact ⟨D, left, cnt, ⟨es, clock, since, seen, c0, h1.trans q1, q2, q3, q4, h2.trans q5, q6⟩, r2⟩
theorem MapP.range (h : MapP P k w b n g) (hk : P.underlying k = some .string) (ht : P.underlying t = some (.map k e)) {f : Value → World → Prop}
    (hf : ∀ r w' ks, w.heap.size ≤ r → Below w.heap.size w w' → RanP P k w' b r n g ks → (∀ x, x ∈ ks ↔ (g x).isSome = true) → ks.length ≤ n → f (.pointer (some ⟨r, 0, none⟩)) w') : OPR P (Instr.range t (.map (some b))) f w := by
  obtain ⟨D0, hD0, hsz, hnd, hmem⟩ := h.keys hk
  have hle := strKeys_le hD0 hk
  obtain ⟨D, hD, hT, hg⟩ := h
  obtain rfl : D0 = D := by
    obtain ⟨es, c, hb, _, _, e1⟩ := hD0
    obtain ⟨es', c', hb', _, _, e2⟩ := hD
    rw [hb] at hb'
    cases hb'
    rw [e1, e2]
  obtain ⟨w', hrun, hR, hgr, hsz'⟩ := hD.range (Maps.string_keyed hk) ht
  unfold OPR
  rw [hrun]
  refine hf _ w' (strKeys D0) (Nat.le_refl _) ⟨hgr.os, hgr.tape, hgr.output, hgr.size, fun i hi => hgr.block i hi (by simp)⟩ ⟨D0, _, _, hR, hT, hg, hnd, fun x => by rw [hmem, (hg x).1], fun x hx => ⟨(hmem x).1 hx, hle x hx⟩⟩ hmem ?_
  have : (strKeys D0).length = Maps.size D0 := by
    obtain ⟨es, rfl, _⟩ := hT
    simp [strKeys, Maps.size]
  omega
theorem MapP.copy (h : MapP P k w b n g) : ∃ es clock, w.heap[b]? = some (.map es clock) ∧ MapP P k (w.alloc (.map es clock)) w.heap.size n g := by
  obtain ⟨D, ⟨es, clock, hb, F, r⟩, h2⟩ := h
  exact ⟨es, clock, hb, D, ⟨es, clock, heap_alloc_new w _, F, r⟩, h2⟩
end
/-! ## Among a function's own things -/
def It.mapP (P : Program) (k : TypeId) (b n : Nat) (g : List UInt8 → Option Nat) : It where
  blk := some b
  ok := fun w => MapP P k w b n g
  st := fun w w' h h0 => h0.same (h b rfl)
  lt := fun w h k hk => by cases hk; exact h.lt
section
variable {P : Program} {k e t : TypeId} {w0 w : World} {H : List It} {b n : Nat} {g : List UInt8 → Option Nat}
theorem ST.newMap (S : ST w0 w H) (t : TypeId) {f : Value → World → Prop} (hf : ∀ b w', ST w0 w' (It.mapP P k b 0 (fun _ => none) :: H) → f (.map (some b)) w') (hrun : (Instr.makeMap t none).run P w = .ok (.map (some w.heap.size)) (w.alloc (.map #[] 0))) : OPR P (Instr.makeMap t none) f w := by
  unfold OPR
  rw [hrun]
  exact hf _ _ (S.add ((Below.refl _ w).alloc (Nat.le_refl _) _) (It.mapP P k w.heap.size 0 _) (MapP.made w) (fun k hk => by cases hk; exact Nat.le_refl _))
theorem ST.mput (S : ST w0 w H) (i : Nat) (hi : H[i]? = some (It.mapP P k b n g)) (hk : P.underlying k = some .string) (ht : P.underlying t = some (.map k e)) (hn : n < maxLen) {s : ByteArray} (hs : s.size ≤ maxLen) {c : Nat}
    {f : World → Prop} (hf : ∀ w', ST w0 w' (H.set i (It.mapP P k b (n + 1) (fun y => if y = bl s then some c else g y))) → f w') : OPU P (Instr.mapUpdate t (.map (some b)) (.string s) (.pointer (some ⟨c, 0, none⟩))) f w :=
  MapP.put (o := some c) (S.get i hi) hk ht hn hs rfl fun w' K h => hf w' (S.chg i hi (K.mono fun k _ h => by subst h; rfl) _ h (fun k hk => .inl hk))
theorem ST.mget (S : ST w0 w H) (i : Nat) (hi : H[i]? = some (It.mapP P k b n g)) (hk : P.underlying k = some .string) (ht : P.underlying t = some (.map k e)) (hz : (zeroValue e).run P w = .ok (.pointer none) w) {s : ByteArray} (hs : s.size ≤ maxLen)
    {f : Value → World → Prop} (hf : f (ptrO (g (bl s))) w) : OPR P (Instr.lookup t (.map (some b)) (.string s) false) f w := MapP.get (S.get i hi) hk ht hz hs hf
theorem ST.mdel (S : ST w0 w H) (i : Nat) (hi : H[i]? = some (It.mapP P k b n g)) (hk : P.underlying k = some .string) (ht : P.underlying t = some (.map k e)) {s : ByteArray} (hs : s.size ≤ maxLen) {ty : TypeId}
    {f : Value → World → Prop} (hf : ∀ w', ST w0 w' (H.set i (It.mapP P k b n (fun y => if y = bl s then none else g y))) → f (.tuple #[]) w') : OPR P (Builtin.delete_ #[t, k] ty #[.map (some b), .string s]) f w :=
  MapP.del (S.get i hi) hk ht hs fun w' K h => hf w' (S.chg i hi (K.mono fun k _ h => by subst h; rfl) _ h (fun k hk => .inl hk))
end
end Go.Dn
namespace Go.Dn
set_option maxRecDepth 100000
open Go.RowKit (Below)
open Go.ChangeMaps Go.MapKept Go.WideShapes
set_option linter.unusedSimpArgs false
abbrev ptrV (a : Nat) : Value := .pointer (some ⟨a, 0, none⟩)
def PtrOk (w : World) (a : Nat) : Prop := ∃ cs t, w.heap[a]? = some (.cells cs t (0, 0))
section
variable {P : Program} {w : World} {tp te : TypeId} {j : TypeInfo}
theorem run_equal_ptr (hp : P.underlying tp = some (.pointer te)) (hte : P.info? te = some j) (hsz : j.size ≠ 0) {a b : Nat} (ha : PtrOk w a) (hb : PtrOk w b) : (Op.equal tp (ptrV a) (ptrV b)).run P w = .ok (decide (a = b)) w := by
  by_cases hab : a = b
  · subst hab
    have h : ∀ d : Nat, (Op.equalIn (d + 1) tp (ptrV a) (ptrV a)).run P w = .ok true w := fun d => by
      simp [Op.equalIn, run_underlying hp, sizeOf, typeInfo, hte, run_sameAddr_same]
    simp [Op.equal, Op.maxDepth, h 9999]
  · obtain ⟨ca, ta, ha⟩ := ha
    obtain ⟨cb, tb, hb⟩ := hb
    have hne : (⟨a, 0, none⟩ : Addr) ≠ ⟨b, 0, none⟩ := fun h => hab (congrArg Addr.block h)
    have h : ∀ d : Nat, (Op.equalIn (d + 1) tp (ptrV a) (ptrV b)).run P w = .ok false w := fun d => by
      simp [Op.equalIn, run_underlying hp, sizeOf, typeInfo, hte, hsz, run_sameAddr_other w hne ha hb]
    simp [Op.equal, Op.maxDepth, h 9999, hab]
theorem run_eql_ptr (hp : P.underlying tp = some (.pointer te)) (hte : P.info? te = some j) (hsz : j.size ≠ 0) {a b : Nat} (ha : PtrOk w a) (hb : PtrOk w b) : (Go.binOp .eql tp (ptrV a) (ptrV b)).run P w = .ok (.bool (decide (a = b))) w := by
  simp only [Go.binOp]
  simp [run_equal_ptr hp hte hsz ha hb]
def PEnts (es : List MapEntry) (l : List (Nat × Nat)) : Prop := es.map (fun e => (e.key, e.val)) = l.map fun p => (ptrV p.1, ptrV p.2)
theorem findAsking_ptr (hp : P.underlying tp = some (.pointer te)) (hte : P.info? te = some j) (hsz : j.size ≠ 0) {a : Nat} (ha : PtrOk w a) : ∀ (es : List MapEntry) (l : List (Nat × Nat)) (i : Nat), PEnts es l → (∀ p ∈ l, PtrOk w p.1) →
    (a ∉ l.map (·.1) → (Instr.findAsking tp (ptrV a) es i).run P w = .ok none w) ∧ (∀ c, (l.find? fun p => p.1 == a) = some (a, c) → ∃ k, (Instr.findAsking tp (ptrV a) es i).run P w = .ok (some (k, ptrV c)) w)
  | [], l, i, he, _ => by
    have : l = [] := by
      cases l with
      | nil => rfl
      | cons p l => simp [PEnts] at he
    subst this
    exact ⟨fun _ => by simp [Instr.findAsking], fun c hc => by simp at hc⟩
  | e :: es, l, i, he, hl => by
    cases l with
    | nil => simp [PEnts] at he
    | cons p l =>
      simp only [PEnts, List.map_cons, List.cons.injEq, Prod.mk.injEq] at he
      obtain ⟨⟨h1, h2⟩, h3⟩ := he
      have hpk := hl p (by simp)
      obtain ⟨ih1, ih2⟩ := findAsking_ptr hp hte hsz ha es l (i + 1) h3 fun q hq => hl q (by simp [hq])
      have hq := run_equal_ptr hp hte hsz ha hpk
      refine ⟨fun hn => ?_, fun c hc => ?_⟩
      · simp only [List.map_cons, List.mem_cons, not_or] at hn
        have : decide (a = p.1) = false := decide_eq_false hn.1
        rw [this] at hq
        simp [Instr.findAsking, h1, hq, ih1 hn.2, Result.andThen]
      · by_cases hap : a = p.1
        · have : decide (a = p.1) = true := decide_eq_true hap
          rw [this] at hq
          rw [List.find?_cons_of_pos (by simp [hap])] at hc
          have hc2 : p = (a, c) := Option.some.inj hc
          subst hc2
          refine ⟨i, ?_⟩
          simp [Instr.findAsking, h1, hq, h2, Result.andThen]
        · have : decide (a = p.1) = false := decide_eq_false hap
          rw [this] at hq
          rw [List.find?_cons_of_neg (by simpa using fun h => hap (Eq.symm h))] at hc
          obtain ⟨k, hk⟩ := ih2 c hc
          exact ⟨k, by simp [Instr.findAsking, h1, hq, hk, Result.andThen]⟩
theorem findKey_ptr (hp : P.underlying tp = some (.pointer te)) (hte : P.info? te = some j) (hsz : j.size ≠ 0) {a : Nat} (ha : PtrOk w a) {es : List MapEntry} {l : List (Nat × Nat)} (he : PEnts es l) (hl : ∀ p ∈ l, PtrOk w p.1) :
    (a ∉ l.map (·.1) → (Instr.findKey tp (ptrV a) es).run P w = .ok none w) ∧ (∀ c, (l.find? fun p => p.1 == a) = some (a, c) → ∃ k, (Instr.findKey tp (ptrV a) es).run P w = .ok (some (k, ptrV c)) w) := by
  obtain ⟨h1, h2⟩ := findAsking_ptr hp hte hsz ha es l 0 he hl
  cases es with
  | nil =>
    refine ⟨fun _ => by simp [Instr.findKey, run_underlying hp, Instr.findNow], fun c hc => ?_⟩
    have : l = [] := by
      cases l with
      | nil => rfl
      | cons p l => simp [PEnts] at he
    subst this
    simp at hc
  | cons e es =>
    have hn : Instr.findNow (.pointer te) (ptrV a) (e :: es) 0 = none := by simp [Instr.findNow, Instr.sameNow]
    refine ⟨fun h => ?_, fun c hc => ?_⟩
    · simp [Instr.findKey, run_underlying hp, hn, h1 h, Result.andThen]
    · obtain ⟨k, hk⟩ := h2 c hc
      exact ⟨k, by simp [Instr.findKey, run_underlying hp, hn, hk, Result.andThen]⟩
theorem checkKey_ptr' (hp : P.underlying tp = some (.pointer te)) (em : Bool) (a n : Nat) : (Instr.checkKey em (n + 1) tp (ptrV a)).run P w = .ok () w := by
  simp [Instr.checkKey, run_underlying hp]
theorem checkKey_ptr (hp : P.underlying tp = some (.pointer te)) (em : Bool) (a : Nat) : (Instr.checkKey em 10000 tp (ptrV a)).run P w = .ok () w := checkKey_ptr' hp em a 9999
end
def It.mapQ (b : Nat) (l : List (Nat × Nat)) : It where
  blk := some b
  ok := fun w => ∃ es clock, w.heap[b]? = some (.map es clock) ∧ PEnts es.toList l
  st := fun w w' h h0 => by obtain ⟨es, clock, h1, h2⟩ := h0; exact ⟨es, clock, (h b rfl).trans h1, h2⟩
  lt := fun w h k hk => by obtain ⟨es, clock, h1, _⟩ := h; cases hk; exact (Array.getElem?_eq_some_iff.1 h1).1
section
variable {P : Program} {w0 w : World} {H : List It} {b : Nat} {l : List (Nat × Nat)} {t tp tv te : TypeId} {j : TypeInfo}
theorem ST.newMapQ (S : ST w0 w H) (t : TypeId) {f : Value → World → Prop} (hf : ∀ b w', ST w0 w' (It.mapQ b [] :: H) → f (.map (some b)) w') (hrun : (Instr.makeMap t none).run P w = .ok (.map (some w.heap.size)) (w.alloc (.map #[] 0))) : OPR P (Instr.makeMap t none) f w := by
  unfold OPR
  rw [hrun]
  exact hf _ _ (S.add ((Below.refl _ w).alloc (Nat.le_refl _) _) (It.mapQ w.heap.size []) ⟨#[], 0, heap_alloc_new w _, rfl⟩ (fun k hk => by cases hk; exact Nat.le_refl _))
theorem ST.qput (S : ST w0 w H) (i : Nat) (hi : H[i]? = some (It.mapQ b l)) (ht : P.underlying t = some (.map tp tv)) (hp : P.underlying tp = some (.pointer te)) (hte : P.info? te = some j) (hsz : j.size ≠ 0) {a c : Nat} (ha : PtrOk w a) (hl : ∀ p ∈ l, PtrOk w p.1) (hn : a ∉ l.map (·.1))
    {f : World → Prop} (hf : ∀ w', ST w0 w' (H.set i (It.mapQ b (l ++ [(a, c)]))) → f w') : OPU P (Instr.mapUpdate t (.map (some b)) (ptrV a) (ptrV c)) f w := by
  obtain ⟨es, clock, hb, he⟩ := S.get i hi
  have hk := (findKey_ptr (P := P) hp hte hsz ha he hl).1 hn
  have hrun : (Instr.mapUpdate t (.map (some b)) (ptrV a) (ptrV c)).run P w = .ok () (setBlock w b (.map (es.push { key := ptrV a, val := ptrV c, born := clock }) (clock + 1))) := by
    simp [Instr.mapUpdate, run_underlying ht, MapKept.run_getObj_map hb, checkKey_ptr hp, hk, MapKept.run_setObj_map _ hb, Result.andThen, setBlock]
  unfold OPU
  rw [hrun]
  have hb' := heap_setBlock_same hb (.map (es.push { key := ptrV a, val := ptrV c, born := clock }) (clock + 1))
  have K : Keeps (fun k => (It.mapQ b l).blk = some k) w (setBlock w b (.map (es.push { key := ptrV a, val := ptrV c, born := clock }) (clock + 1))) :=
    ⟨rfl, rfl, rfl, by simp [setBlock], fun k _ hk => heap_setBlock_other hb _ (fun e => hk (by subst e; rfl))⟩
  refine hf _ (S.chg i hi K (It.mapQ b (l ++ [(a, c)])) ⟨es.push { key := ptrV a, val := ptrV c, born := clock }, clock + 1, hb', ?_⟩ (fun k hk => .inl hk))
  simp only [PEnts, Array.toList_push, List.map_append, List.map_cons, List.map_nil]
  rw [show es.toList.map (fun e => (e.key, e.val)) = l.map fun p => (ptrV p.1, ptrV p.2) from he]
theorem ST.qget (S : ST w0 w H) (i : Nat) (hi : H[i]? = some (It.mapQ b l)) (ht : P.underlying t = some (.map tp tv)) (hp : P.underlying tp = some (.pointer te)) (hte : P.info? te = some j) (hsz : j.size ≠ 0) {a c : Nat} (ha : PtrOk w a) (hl : ∀ p ∈ l, PtrOk w p.1) (hc : (l.find? fun p => p.1 == a) = some (a, c))
    {f : Value → World → Prop} (hf : f (ptrV c) w) : OPR P (Instr.lookup t (.map (some b)) (ptrV a) false) f w := by
  obtain ⟨es, clock, hb, he⟩ := S.get i hi
  obtain ⟨k, hk⟩ := (findKey_ptr (P := P) hp hte hsz ha he hl).2 c hc
  have hrun : (Instr.lookup t (.map (some b)) (ptrV a) false).run P w = .ok (ptrV c) w := by
    simp [Instr.lookup, run_underlying ht, MapKept.run_getObj_map hb, checkKey_ptr hp, hk, Result.andThen]
  unfold OPR
  rw [hrun]
  exact hf
end
end Go.Dn
namespace Go.Dn
set_option maxRecDepth 100000
open Go.RowKit (Below)
section
variable {w0 w : World} {H : List It}
end
end Go.Dn
namespace Go.Proofs.YtfgbfodohmeamaaGreatDoor
set_option maxRecDepth 100000
open Go.Dn
abbrev tyFn : TypeId := 107
end Go.Proofs.YtfgbfodohmeamaaGreatDoor
namespace Go.Proofs.YtfgbfodohmeamaaGreatDoor
set_option maxRecDepth 100000
open Go.Dn Go.Proofs
open Go.RowKit (Below)
set_option linter.unusedVariables false
theorem or32 {x y k : Nat} (hx : x < 2 ^ k) (hxy : x + y * 2 ^ k < 4294967296) : (BitVec.ofInt 32 (x : Int) ||| BitVec.ofInt 32 ((y * 2 ^ k : Nat) : Int)).toNat = x + y * 2 ^ k := by
  rw [BitVec.toNat_or, BitVec.ofInt_natCast, BitVec.ofInt_natCast, BitVec.toNat_ofNat, BitVec.toNat_ofNat, Nat.mod_eq_of_lt (by omega), Nat.mod_eq_of_lt (by omega), Nat.or_comm]
  have := Nat.two_pow_add_eq_or_of_lt (i := k) (b := x) hx y
  rw [Nat.mul_comm y, ← this]
  omega
theorem shl32 {b k : Nat} (hb : b < 256) (hk : k ≤ 24) : IntKind.u32.wrap (IntKind.u32.wrap (b : Int) * 2 ^ (min k 32)) = ((b * 2 ^ k : Nat) : Int) := by
  have hp : (2 : Nat) ^ k ≤ 2 ^ 24 := Nat.pow_le_pow_right (by omega) hk
  have h24 : (2 : Nat) ^ 24 = 16777216 := by decide
  have h1 : b * 2 ^ k ≤ 255 * 16777216 := Nat.mul_le_mul (by omega) (by omega)
  rw [wrap_u32_id (n := (b : Int)) (by omega) (by omega), Nat.min_eq_left (by omega)]
  have e : (b : Int) * 2 ^ k = ((b * 2 ^ k : Nat) : Int) := by push_cast; rfl
  rw [e, wrap_u32_id (by omega) (by omega)]
theorem or32w {x y k : Nat} (hx : x < 2 ^ k) (hxy : x + y * 2 ^ k < 4294967296) : IntKind.u32.wrap (((BitVec.ofInt 32 (x : Int) ||| BitVec.ofInt 32 ((y * 2 ^ k : Nat) : Int)).toNat : Int)) = ((x + y * 2 ^ k : Nat) : Int) := by
  rw [or32 hx hxy, wrap_u32_id (by omega) (by omega)]
theorem num_of {b0 b1 b2 b3 : Nat} (h0 : b0 < 256) (h1 : b1 < 256) (h2 : b2 < 256) (h3 : b3 < 256) :
    IntKind.u32.wrap (((BitVec.ofInt 32 (IntKind.u32.wrap (((BitVec.ofInt 32 (IntKind.u32.wrap (((BitVec.ofInt 32 (IntKind.u32.wrap (b0 : Int)) ||| BitVec.ofInt 32 (IntKind.u32.wrap ((IntKind.u32.wrap (b1 : Int)) * 2 ^ (min 8 32)))).toNat : Int))) ||| BitVec.ofInt 32 (IntKind.u32.wrap ((IntKind.u32.wrap (b2 : Int)) * 2 ^ (min 16 32)))).toNat : Int))) ||| BitVec.ofInt 32 (IntKind.u32.wrap ((IntKind.u32.wrap (b3 : Int)) * 2 ^ (min 24 32)))).toNat : Int)) =
      ((b0 + b1 * 256 + b2 * 65536 + b3 * 16777216 : Nat) : Int) := by
  rw [shl32 h1 (by omega), shl32 h2 (by omega), shl32 h3 (by omega), wrap_u32_id (n := (b0 : Int)) (by omega) (by omega), or32w (by omega) (by omega), or32w (by omega) (by omega), or32w (by omega) (by omega)]
theorem low_sum {n : Nat} (h : n < 4294967296) : (UInt8.ofNat n).toNat + (UInt8.ofNat (n / 256)).toNat * 256 + (UInt8.ofNat (n / 65536)).toNat * 65536 + (UInt8.ofNat (n / 16777216)).toNat * 16777216 = n := by
  simp only [UInt8.toNat_ofNat']
  omega
section
variable {w : World} {a : Option Addr} {c : Nat}
theorem wal_number_ok (n : Nat) (hn : n < 4294967296) {l : List UInt8} (r : List UInt8) (hl : l = lowL n ++ r) (hr : Rd w a (l.map byteV)) : Calls Tryz.prog f.wal_number #[.slice a l.length c] w (Ret fun v w' => v = .int .u32 (n : Int) ∧ Below w.heap.size w w') := by
  subst hl
  apply R.wal_number_calls
  unfold R.wal_number
  refine (ST.start w).draw fun w1 B1 _ => ?_
  have hr := hr.grown B1
  obtain ⟨p, rfl, c0⟩ := hr 0 (byteV (UInt8.ofNat n)) rfl
  obtain ⟨q, hq, c1⟩ := hr 1 (byteV (UInt8.ofNat (n / 256))) rfl
  cases hq
  obtain ⟨q, hq, c2⟩ := hr 2 (byteV (UInt8.ofNat (n / 65536))) rfl
  cases hq
  obtain ⟨q, hq, c3⟩ := hr 3 (byteV (UInt8.ofNat (n / 16777216))) rfl
  cases hq
  rw [addr_add_zero] at c0
  have hlen : (lowL n ++ r).length = r.length + 4 := by rw [List.length_append, lowL_len]; omega
  rw [hlen]
  refine ⟨⟨by omega, by omega⟩, ⟨by omega, by omega⟩, ⟨by omega, by omega⟩, ⟨by omega, by omega⟩, _, c0, _, c1, _, c2, _, c3, ?_, B1⟩
  rw [num_of (UInt8.toNat_lt _) (UInt8.toNat_lt _) (UInt8.toNat_lt _) (UInt8.toNat_lt _), low_sum hn]
theorem wal_payloads_ok {w0 : World} {H : List It} {n : Nat} (S : ST w0 w H) : Calls Tryz.prog f.wal_payloads #[.slice a n c] w (Ret fun v w' => ∃ b, v = .func (.func f.wal_payloads_c1) #[] #[ptrV b] ∧ ST w0 w' (It.cells b #[.slice a n c] ty.L_uint8 :: H)) := by
  apply R.wal_payloads_calls
  unfold R.wal_payloads
  exact S.newB fun b w1 _ _ S1 => ⟨b, rfl, S1⟩
theorem head_cases (ps : List Pay) (t : List UInt8) (hps : ∀ p ∈ ps, p.ok) (ht : Torn t) (k : Nat) (hk : k ≤ ps.length) :
    (∃ h : k < ps.length, flatR (ps.drop k) ++ t = recL ps[k].bytes ++ (flatR (ps.drop (k + 1)) ++ t) ∧ ps[k].bytes.length ≤ 262175 ∧ 1 ≤ ps[k].bytes.length) ∨
      (k = ps.length ∧ flatR (ps.drop k) ++ t = t ∧ (t.length < 8 ∨ ∃ (q r : List UInt8), q.length ≤ 262175 ∧ t = lowL q.length ++ (crcL (lowL q.length) ++ r) ∧ t.length < q.length + 12)) := by
  rcases Nat.lt_or_ge k ps.length with h | h
  · refine .inl ⟨h, ?_, ?_⟩
    · rw [List.drop_eq_getElem_cons h, flatR_cons, List.append_assoc]
      rfl
    · have hok := hps _ (List.getElem_mem h)
      have h1 := Pay.bytes_len hok
      have h2 := Pay.size_le hok
      omega
  · obtain rfl : k = ps.length := by omega
    refine .inr ⟨rfl, by simp [flatR], ?_⟩
    rcases ht with rfl | ⟨p, j, hok, hj, rfl⟩
    · exact .inl (by simp)
    · have h1 := Pay.bytes_len hok
      have h2 := Pay.size_le hok
      have hl := p.rcd_len
      by_cases h8 : j < 8
      · refine .inl ?_
        rw [List.length_take]
        omega
      · refine .inr ⟨p.bytes, (p.bytes ++ crcL p.bytes).take (j - 8), by omega, ?_, ?_⟩
        · show (lowL p.bytes.length ++ (crcL (lowL p.bytes.length) ++ (p.bytes ++ crcL p.bytes))).take j = _
          rw [List.take_append, List.take_of_length_le (by rw [lowL_len]; omega), List.take_append, List.take_of_length_le (by rw [lowL_len, crcL_len]; omega), lowL_len, crcL_len, show j - 4 - 4 = j - 8 by omega]
        · rw [List.length_take]
          omega
theorem payloads_c1_ok {L b1 : Nat} (ps : List Pay) (t : List UInt8) (hps : ∀ p ∈ ps, p.ok) (ht : Torn t) (hX : (flatR ps ++ t).length ≤ 100000000) (hc : (flatR ps ++ t).length ≤ c) (J : Nat → Value → World → Prop)
    (hcell : ∀ k v w, J k v w → w.cell? ⟨b1, 0, none⟩ = some v) (hset : ∀ k v u w (K : World → Prop), J k v w → (∀ w', J k u w' → K w') → STO ⟨b1, 0, none⟩ u K w) (hrd : ∀ k v w, J k v w → Rd w a ((flatR ps ++ t).map byteV))
    (hgrow : ∀ k v w w', J k v w → Below w.heap.size w w' → J k v w')
    (hstep : ∀ k v w a' c' (h : k < ps.length), J k v w → Rd w a' (ps[k].bytes.map byteV) → ps[k].bytes.length ≤ c' → YLD Tryz.prog L #[.slice a' ps[k].bytes.length c'] (fun y w' => y = true ∧ J (k + 1) v w') w)
    (h0 : J 0 (.slice a (flatR ps ++ t).length c) w) :
    Calls Tryz.prog f.wal_payloads_c1 #[.func (.yield L) #[] #[], ptrV b1] w (Ret fun _ w' => ∃ v, J ps.length v w') := by
  apply R.wal_payloads_c1_calls
  unfold R.wal_payloads_c1
  refine ⟨fun s w1 => s = [] ∧ ∃ (k : Nat) (ak : Option Addr) (ck : Nat), k ≤ ps.length ∧ (flatR (ps.drop k) ++ t).length ≤ ck ∧ (∀ w', Rd w' a ((flatR ps ++ t).map byteV) → Rd w' ak ((flatR (ps.drop k) ++ t).map byteV)) ∧ J k (.slice ak (flatR (ps.drop k) ++ t).length ck) w1,
    fun _ w1 => match w1.cell? ⟨b1, 0, none⟩ with
      | some (.slice _ n _) => n
      | _ => 0, ⟨rfl, 0, a, c, Nat.zero_le _, hc, fun _ h => h, h0⟩, ?_⟩
  rintro w1 ⟨_, k, ak, ck, hk, hck, hak, hJ⟩
  have hXk : (flatR (ps.drop k) ++ t).length ≤ 100000000 := by
    have e : flatR ps = flatR (ps.take k) ++ flatR (ps.drop k) := by rw [← flatR_append, List.take_append_drop]
    rw [e] at hX
    simp only [List.length_append] at hX ⊢
    omega
  obtain ⟨X, hXe⟩ : ∃ X, X = flatR (ps.drop k) ++ t := ⟨_, rfl⟩
  have hd := head_cases ps t hps ht k hk
  rw [← hXe] at hd hck hak hJ hXk
  have hc0 := hcell _ _ _ hJ
  have hRd : ∀ {v w'}, J k v w' → Rd w' ak (X.map byteV) := fun h => hak _ (hrd _ _ _ h)
  refine ⟨_, _, _, hcell _ _ _ hJ, IFB_dec (fun h8 => ?_) (fun h8 => ?_)⟩
  rotate_left
  · rcases hd with ⟨h, e, _⟩ | ⟨rfl, _⟩
    · exfalso
      have := congrArg List.length e
      rw [List.length_append, recL_len] at this
      omega
    · exact ⟨_, hJ⟩
  -- a length stands there
  have hq : ∃ (q r : List UInt8), q.length ≤ 262175 ∧ X = lowL q.length ++ (crcL (lowL q.length) ++ r) ∧ ((X.length < q.length + 12 ∧ k = ps.length) ∨ ∃ h : k < ps.length, q = ps[k].bytes ∧ X = recL q ++ (flatR (ps.drop (k + 1)) ++ t) ∧ 1 ≤ q.length) := by
    rcases hd with ⟨h, e, h1, h2⟩ | ⟨h, _, h1 | ⟨q, r, h1, h2, h3⟩⟩
    · refine ⟨ps[k].bytes, ps[k].bytes ++ (crcL ps[k].bytes ++ (flatR (ps.drop (k + 1)) ++ t)), h1, ?_, .inr ⟨h, rfl, e, h2⟩⟩
      rw [e]
      unfold recL
      simp only [List.append_assoc]
    · rename_i e
      rw [e] at h8
      omega
    · rename_i e
      exact ⟨q, r, h1, e.trans h2, .inl ⟨by rw [e]; exact h3, h⟩⟩
  obtain ⟨q, r, hq1, hq2, hq3⟩ := hq
  refine ⟨_, _, _, hcell _ _ _ hJ, (wal_number_ok q.length (by omega) _ hq2 (hRd hJ)).mono ?_⟩
  rintro _ w2 ⟨_, rfl, rfl, B2⟩
  have hJ := hgrow _ _ _ _ hJ B2
  have hwn : IntKind.i64.wrap (q.length : Int) = (q.length : Int) := wrap_i64 (by omega) (by omega)
  refine ⟨_, rfl, ?_⟩
  rw [hwn]
  -- the two sums of the length
  have d4 : X.drop 4 = crcL (lowL q.length) ++ r := by rw [hq2]; rfl
  have t4 : X.take 4 = lowL q.length := by rw [hq2]; rfl
  have hd4 : ∀ {v w'}, J k v w' → Rd w' (SLA ak 4 ck 1) ((X.drop 4).map byteV) := fun h => drop_rd (hRd h) hck
  have hl4 : X.length - 4 = (X.drop 4).length := by rw [List.length_drop]
  have ht4 : ∀ {v w'}, J k v w' → Rd w' (SLA ak 0 ck 1) ((X.take 4).map byteV) := fun h => by
    have h1 := drop_rd (q := 0) (hRd h) hck
    rw [List.drop_zero] at h1
    have := h1.take 4
    rwa [← List.map_take] at this
  have ht4l : (X.take 4).length = 4 := by rw [t4]; rfl
  refine ⟨fun st w' => st = [] ∧ J k (.slice ak X.length ck) w', ?_, ?_⟩
  · refine (ST.start w2).draw fun w3 B3 _ => ?_
    have hJ := hgrow _ _ _ _ hJ B3
    have h8' : (8 : Int) ≤ (X.length : Int) := h8
    refine ⟨_, _, _, hcell _ _ _ hJ, ⟨by omega, by omega, by omega⟩, _, _, _, hcell _ _ _ hJ, ⟨by omega, by omega, by omega⟩, ?_, ?_⟩
    · rw [hl4]
      refine (wal_number_ok (crc (lowL q.length)).toNat (crc_lt _) r d4 (hd4 hJ)).mono ?_
      rintro _ w4 ⟨_, rfl, rfl, B4⟩
      have hJ := hgrow _ _ _ _ hJ B4
      refine ⟨_, rfl, hcell _ _ _ hJ, (ST.start w4).newB fun b w5 _ B5 S5 => ?_⟩
      have hJ := hgrow _ _ _ _ hJ B5
      refine (wire_Sum_ok [(SLA ak 0 ck 1, ck - 0, X.take 4)] (by have := S5.rdc 0 rfl; simpa [partV1, ht4l] using this) (by
        intro z hz
        simp only [List.mem_singleton] at hz
        subst hz
        exact ht4 hJ) (by simp) (by intro z hz; simp only [List.mem_singleton] at hz; subst hz; show (X.take 4).length < _; omega)).mono ?_
      rintro _ _ ⟨_, rfl, rfl, rfl⟩
      have e1 : [(SLA ak 0 ck 1, ck - 0, X.take 4)].flatMap (fun x => x.2.2) = lowL q.length := by rw [← t4]; simp
      rw [e1]
      refine ⟨_, rfl, IFB_ne (fun h => absurd rfl h) (fun _ => IFB_dec (fun h => ?_) (fun _ => ⟨rfl, hJ⟩))⟩
      omega
    · refine (ST.start w3).newB fun b w5 _ B5 S5 => ?_
      have hJ := hgrow _ _ _ _ hJ B5
      refine ⟨hcell _ _ _ hJ, ?_⟩
      rw [hl4]
      refine (wal_number_ok (crc (lowL q.length)).toNat (crc_lt _) r d4 (hd4 hJ)).mono ?_
      rintro _ w4 ⟨_, rfl, rfl, B4⟩
      have hJ := hgrow _ _ _ _ hJ B4
      have S4 := S5.grown B4
      refine ⟨_, rfl, (wire_Sum_ok [(SLA ak 0 ck 1, ck - 0, X.take 4)] (by have := S4.rdc 0 rfl; simpa [partV1, ht4l] using this) (by
        intro z hz
        simp only [List.mem_singleton] at hz
        subst hz
        exact ht4 hJ) (by simp) (by intro z hz; simp only [List.mem_singleton] at hz; subst hz; show (X.take 4).length < _; omega)).mono ?_⟩
      rintro _ _ ⟨_, rfl, rfl, rfl⟩
      have e1 : [(SLA ak 0 ck 1, ck - 0, X.take 4)].flatMap (fun x => x.2.2) = lowL q.length := by rw [← t4]; simp
      rw [e1]
      refine ⟨_, rfl, IFB_ne (fun h => absurd rfl h) (fun _ => IFB_dec (fun h => ?_) (fun _ => ⟨rfl, hJ⟩))⟩
      omega
  · rintro w14 ⟨_, hJ⟩
    have e12 : IntKind.i64.wrap ((q.length : Int) + 12) = ((q.length + 12 : Nat) : Int) := by rw [wrap_i64 (by omega) (by omega)]; omega
    have e8 : IntKind.i64.wrap (8 + (q.length : Int)) = ((q.length + 8 : Nat) : Int) := by rw [wrap_i64 (by omega) (by omega)]; omega
    rw [e12, e8]
    refine ⟨_, _, _, hcell _ _ _ hJ, IFB_dec (fun hlt => ?_) (fun hge => ?_)⟩
    · rcases hq3 with ⟨_, rfl⟩ | ⟨_, _, e, _⟩
      · exact ⟨_, hJ⟩
      · exfalso
        have := congrArg List.length e
        rw [List.length_append, recL_len] at this
        omega
    · rcases hq3 with ⟨h, _⟩ | ⟨hkp, rfl, hXr, hp1⟩
      · omega
      have hlen : X.length = ps[k].bytes.length + 12 + (flatR (ps.drop (k + 1)) ++ t).length := by rw [hXr, List.length_append, recL_len]
      have d8 : X.drop (ps[k].bytes.length + 8) = crcL ps[k].bytes ++ (flatR (ps.drop (k + 1)) ++ t) := by
        have e : X = (lowL ps[k].bytes.length ++ (crcL (lowL ps[k].bytes.length) ++ ps[k].bytes)) ++ (crcL ps[k].bytes ++ (flatR (ps.drop (k + 1)) ++ t)) := by
          rw [hXr]
          unfold recL
          simp only [List.append_assoc]
        have e2 : ps[k].bytes.length + 8 = (lowL ps[k].bytes.length ++ (crcL (lowL ps[k].bytes.length) ++ ps[k].bytes)).length := by
          simp only [List.length_append, lowL_len, crcL_len]
          omega
        rw [e2, e]
        exact List.drop_left
      have p8 : (X.drop 8).take ps[k].bytes.length = ps[k].bytes := by
        have e : X = (lowL ps[k].bytes.length ++ crcL (lowL ps[k].bytes.length)) ++ (ps[k].bytes ++ (crcL ps[k].bytes ++ (flatR (ps.drop (k + 1)) ++ t))) := by
          rw [hXr]
          unfold recL
          simp only [List.append_assoc]
        have e2 : X.drop 8 = ps[k].bytes ++ (crcL ps[k].bytes ++ (flatR (ps.drop (k + 1)) ++ t)) := by
          rw [e]
          exact List.drop_left (l₁ := lowL ps[k].bytes.length ++ crcL (lowL ps[k].bytes.length))
        rw [e2, List.take_left]
      have d12 : X.drop (ps[k].bytes.length + 12) = flatR (ps.drop (k + 1)) ++ t := by
        rw [hXr, show ps[k].bytes.length + 12 = (recL ps[k].bytes).length by rw [recL_len], List.drop_left]
      have hp : ∀ {v w'}, J k v w' → Rd w' (SLA ak 8 (ps[k].bytes.length + 8) 1) (ps[k].bytes.map byteV) := fun h => by
        have h1 := (hRd h).sla 8 (ps[k].bytes.length + 8) (ps[k].bytes.length + 8) 1 (Nat.le_refl _)
        rw [Nat.mul_one, ← List.map_drop, ← List.map_take, show ps[k].bytes.length + 8 - 8 = ps[k].bytes.length by omega, Nat.mul_one, p8] at h1
        exact h1
      have en : ((ps[k].bytes.length + 8 : Nat) : Int).toNat = ps[k].bytes.length + 8 := Int.toNat_natCast _
      have en2 : ((ps[k].bytes.length + 12 : Nat) : Int).toNat = ps[k].bytes.length + 12 := Int.toNat_natCast _
      rw [en, en2]
      refine ⟨_, _, _, hcell _ _ _ hJ, ⟨by omega, by omega, by omega, by omega⟩, _, _, _, hcell _ _ _ hJ, ⟨by omega, by omega, by omega⟩, ?_⟩
      have hl8 : X.length - (ps[k].bytes.length + 8) = (X.drop (ps[k].bytes.length + 8)).length := by rw [List.length_drop]
      rw [hl8]
      refine (wal_number_ok (crc ps[k].bytes).toNat (crc_lt _) _ d8 (drop_rd (hRd hJ) hck)).mono ?_
      rintro _ w15 ⟨_, rfl, rfl, B15⟩
      have hJ := hgrow _ _ _ _ hJ B15
      refine ⟨_, rfl, (ST.start w15).newB fun b w16 _ B16 S16 => ?_⟩
      have hJ := hgrow _ _ _ _ hJ B16
      have hpl : ps[k].bytes.length + 8 - 8 = ps[k].bytes.length := by omega
      rw [hpl] at S16 ⊢
      refine (wire_Sum_ok [(SLA ak 8 (ps[k].bytes.length + 8) 1, ps[k].bytes.length, ps[k].bytes)] (by have := S16.rdc 0 rfl; simpa [partV1] using this) (by
        intro z hz
        simp only [List.mem_singleton] at hz
        subst hz
        exact hp hJ) (by simp) (by intro z hz; simp only [List.mem_singleton] at hz; subst hz; show ps[k].bytes.length < _; omega)).mono ?_
      rintro _ w17 ⟨_, rfl, rfl, rfl⟩
      have e1 : [(SLA ak 8 (ps[k].bytes.length + 8) 1, ps[k].bytes.length, ps[k].bytes)].flatMap (fun x => x.2.2) = ps[k].bytes := by simp
      rw [e1]
      refine ⟨_, rfl, IFB_ne (fun h => absurd rfl h) (fun _ => IFB_eq (fun h => ?_) (fun _ => (hstep k _ w17 _ _ hkp hJ (hp hJ) (Nat.le_refl _)).mono ?_))⟩
      · omega
      rintro y w20 ⟨rfl, hJ⟩
      refine IFB_false ⟨_, _, _, hcell _ _ _ hJ, ⟨by omega, by omega, by omega⟩, hset _ _ _ _ _ hJ fun w21 hJ21 => ?_⟩
      have hl12 : X.length - (ps[k].bytes.length + 12) = (flatR (ps.drop (k + 1)) ++ t).length := by omega
      rw [hl12] at hJ21
      refine ⟨⟨rfl, k + 1, _, _, by omega, by omega, fun w' h => ?_, hJ21⟩, ?_⟩
      · have := drop_rd (q := ps[k].bytes.length + 12) (hak w' h) hck
        rwa [d12] at this
      · have e1 := hcell _ _ _ hJ21
        have hm : ∀ {x y : Option Value} {n1 c1 n2 c2 : Nat} {a1 a2 : Option Addr}, x = some (.slice a1 n1 c1) → y = some (.slice a2 n2 c2) → n1 < n2 → (match x with
          | some (.slice _ n _) => n
          | _ => 0) < (match y with
          | some (.slice _ n _) => n
          | _ => 0) := fun hx hy h => by rw [hx, hy]; exact h
        exact hm e1 hc0 (by omega)
theorem enters_pay : enters Tryz.prog f.wal_payloads_c1 = true := by kernel_rfl
theorem whole_len {ps : List Pay} {k : Nat} (hk : k < ps.length) : (flatR (ps.take (k + 1))).length = (flatR (ps.take k)).length + (ps[k].bytes.length + 12) := by
  rw [List.take_succ_eq_append_getElem hk, flatR_append, List.length_append]
  show _ + (flatR [ps[k]]).length = _
  rw [show flatR [ps[k]] = ps[k].rcd by simp [flatR], Pay.rcd_len]
theorem wal_whole_ok (ps : List Pay) (t : List UInt8) (hps : ∀ p ∈ ps, p.ok) (ht : Torn t) (hX : (flatR ps ++ t).length ≤ 100000000) (hc : (flatR ps ++ t).length ≤ c) (hr : Rd w a ((flatR ps ++ t).map byteV)) :
    Calls Tryz.prog f.wal_whole #[.slice a (flatR ps ++ t).length c] w (Ret fun v w' => v = .int .i64 ((flatR ps).length : Int) ∧ Below w.heap.size w w') := by
  apply R.wal_whole_calls
  unfold R.wal_whole
  refine (ST.start w).newB fun b2 w1 _ _ S1 => S1.sto 0 rfl (cs' := #[.int .i64 0]) (by simp) rfl fun w2 S2 => (wal_payloads_ok S2).mono ?_
  rintro _ w3 ⟨_, rfl, b1, rfl, S3⟩
  refine ⟨_, _, _, rfl, enters_pay, fun rr hst hpe hy => ?_⟩
  have S4 := S3.range rr
  obtain ⟨L, hL⟩ : ∃ L, L = w3.heap.size + 1 := ⟨_, rfl⟩
  obtain ⟨d, hd⟩ : ∃ d, d = w3.heap.size := ⟨_, rfl⟩
  rw [← hL] at S4 hy ⊢
  rw [← hd] at S4 ⊢
  let J : Nat → Value → World → Prop := fun k v wx => k ≤ ps.length ∧ ST w wx [It.obj L (.loop rr), It.obj d (.deferred (some [])), It.cells b1 #[v] ty.L_uint8, It.cells b2 #[.int .i64 ((flatR (ps.take k)).length : Int)] ty.int]
  have hcall := payloads_c1_ok (w := (w3.alloc (.deferred (some []))).alloc (.loop rr)) (L := L) (b1 := b1) ps t hps ht hX hc J (fun k v w' h => h.2.cell 2 rfl rfl) (fun k v u w' K h hK => h.2.sto 2 rfl (cs' := #[u]) (by simp) rfl fun w'' S => hK w'' ⟨h.1, S⟩) (fun k v w' h => hr.grown h.2.bel) (fun k v w' w'' h B => ⟨h.1, h.2.grown B⟩) (by
    rintro k v wx a' c' hk ⟨_, S⟩ _ _
    refine hy _ _ _ _ _ (S.get 0 rfl) (S.begr 0 rfl fun w5 S5 => ⟨_, S5.cell 3 rfl rfl, ?_⟩)
    have h1 := whole_len hk
    have h2 : (flatR (ps.take (k + 1))).length ≤ (flatR ps ++ t).length := by
      have e : flatR ps = flatR (ps.take (k + 1)) ++ flatR (ps.drop (k + 1)) := by rw [← flatR_append, List.take_append_drop]
      rw [e]
      simp only [List.length_append]
      omega
    have e1 : IntKind.i64.wrap ((ps[k].bytes.length : Int) + 12) = ((ps[k].bytes.length + 12 : Nat) : Int) := by rw [wrap_i64 (by omega) (by omega)]; omega
    have e2 : IntKind.i64.wrap (((flatR (ps.take k)).length : Int) + ((ps[k].bytes.length + 12 : Nat) : Int)) = ((flatR (ps.take (k + 1))).length : Int) := by rw [wrap_i64 (by omega) (by omega)]; omega
    rw [e1, e2]
    exact S5.sto 3 rfl (cs' := #[.int .i64 ((flatR (ps.take (k + 1))).length : Int)]) (by simp) rfl fun w6 S6 => S6.endr0 0 hst hpe rfl fun w7 S7 => ⟨rfl, by omega, S7⟩) ⟨Nat.zero_le _, S4⟩
  refine hcall.mono ?_
  rintro _ w18 ⟨_, rfl, v, _, S⟩
  rw [List.take_length] at S
  refine ⟨⟨_, rfl⟩, ?_⟩
  refine S.endl0 0 hst hpe rfl fun w19 S => ?_
  have S' := S.put 1 rfl (.deferred none)
  first
    | exact ⟨rfl, _, S.cell 3 rfl rfl, S.get 1 rfl, rfl, S'.bel⟩
    | exact .inl ⟨rfl, _, S.cell 3 rfl rfl, S.get 1 rfl, rfl, S'.bel⟩
end
section
variable {w : World} {a : Option Addr} {c : Nat}
theorem nums_take {nums : List Int} {i : Nat} (hi : i < nums.length) : ((nums.take (i + 1)).flatMap numL).length = ((nums.take i).flatMap numL).length + (numL nums[i]).length := by
  rw [List.take_succ_eq_append_getElem hi, List.flatMap_append, List.length_append]
  simp
theorem wal_numbers_ok {p : List UInt8} (nums : List Int) (r : List UInt8) (hp : Rd w a (p.map byteV)) (hc : p.length ≤ c) (hl : p.length ≤ 1000000000) (hd : p.drop 1 = nums.flatMap numL ++ r) (hx : ∀ x ∈ nums, okN x) (hn : nums.length ≤ 10) :
    Calls Tryz.prog f.wal_numbers #[.slice a p.length c, .int .i64 (nums.length : Int)] w (Ret fun v w' => ∃ a' c', v = .tuple #[.slice a' nums.length c', .int .i64 ((1 + (nums.flatMap numL).length : Nat) : Int), .bool true] ∧ NewI w w' nums a' c') := by
  apply R.wal_numbers_calls
  unfold R.wal_numbers
  refine ⟨fun st w1 => ∃ (i : Nat) (b : Option Addr) (d : Nat), st = [.slice b (nums.take i).length d, .int .i64 ((1 + ((nums.take i).flatMap numL).length : Nat) : Int), .int .i64 (i : Int)] ∧ i ≤ nums.length ∧ p.drop (1 + ((nums.take i).flatMap numL).length) = (nums.drop i).flatMap numL ++ r ∧ NewI w w1 (nums.take i) b d, fun st _ => match st with
    | [_, _, .int _ i] => nums.length - i.toNat
    | _ => 0, ⟨0, none, 0, rfl, Nat.zero_le _, hd, NewI.nil w⟩, ?_⟩
  rintro b _ d _ _ w1 ⟨i, _, _, hst, hi, hdr, h1⟩
  cases hst
  refine IFB_dec (fun hlt => ?_) (fun hge => ?_)
  · have hil : i < nums.length := by omega
    have hxi := hx _ (List.getElem_mem hil)
    rw [List.drop_eq_getElem_cons hil, List.flatMap_cons, List.append_assoc] at hdr
    have htk := takeN_drop (m := nums[i].toNat) (by have := hxi.2; omega) hdr
    refine (wire_TakeNumber_ok (hp.grown h1.bel) hc (by omega) _).mono ?_
    rintro _ w2 ⟨_, rfl, rfl, rfl⟩
    rw [htk]
    have hz : ¬ ((nums[i].toNat : Nat) : Int) > 9223372036854775807 := by have := hxi.2; omega
    refine ⟨_, _, _, rfl, IFB_ne (fun h => absurd rfl h) (fun _ => IFB_dec (fun h => absurd h hz) (fun _ => ?_))⟩
    have hw : IntKind.i64.wrap ((nums[i].toNat : Nat) : Int) = nums[i] := by rw [wrap_i64 (by omega) (by omega)]; have := hxi.1; omega
    rw [hw]
    refine (SH.start (fun _ => False) w2).newB fun b11 w3 _ B3 S3 => ?_
    refine append_i64 (h1.grown B3) (by rw [List.length_take]; omega) (S3.get 0 rfl) fun a' c' w4 h4 => ⟨_, _, _, rfl, ?_⟩
    rw [← List.take_succ_eq_append_getElem hil] at h4 ⊢
    rw [wrap_succ (by omega)]
    have e := nums_take hil
    refine ⟨⟨i + 1, a', c', ?_, by omega, ?_, h4⟩, by show nums.length - ((i + 1 : Nat) : Int).toNat < nums.length - ((i : Nat) : Int).toNat; simp only [Int.toNat_natCast]; omega⟩
    · have e2 : 1 + ((nums.take i).flatMap numL).length + (digitsL nums[i].toNat).length = 1 + ((nums.take (i + 1)).flatMap numL).length := by rw [e]; unfold numL; omega
      rw [e2]
    · have := drop_more hdr
      rw [← this]
      congr 1
      rw [e]
      omega
  · have : i = nums.length := by omega
    subst this
    rw [List.take_length] at h1 ⊢
    exact ⟨_, _, rfl, h1⟩
theorem wal_entry_ok {p : List UInt8} (kind : UInt8) (x : EntP) (hx : okE x) (he : p = kind :: entB x) (hp : Rd w a (p.map byteV)) (hc : p.length ≤ c) :
    Calls Tryz.prog f.wal_entry #[.slice a p.length c] w (Ret fun v w' => v = .tuple #[.agg #[.int .i64 x.1, .int .i64 x.2.1, .string x.2.2], .bool true] ∧ Below w.heap.size w w') := by
  have hel := entB_len hx
  have hz := hx.2.2
  have hpl : p.length ≤ 300000 := by rw [he, List.length_cons]; omega
  apply R.wal_entry_calls
  unfold R.wal_entry
  refine (ST.start w).newB fun b2 w1 _ B1 S1 => ?_
  have hd : p.drop 1 = [x.1, x.2.1].flatMap numL ++ textL x.2.2 := by rw [he]; simp [entB]
  refine (wal_numbers_ok [x.1, x.2.1] (textL x.2.2) (hp.grown B1) hc (by omega) hd (by
    intro y hy
    simp only [List.mem_cons, List.not_mem_nil, or_false] at hy
    rcases hy with rfl | rfl
    · exact hx.1
    · exact hx.2.1) (by simp)).mono ?_
  rintro _ w2 ⟨_, rfl, a', c', rfl, h2⟩
  have S2 := S1.grown h2.bel
  refine ⟨_, _, _, _, _, rfl, IFB_false ?_⟩
  have hdt : p.drop (1 + ([x.1, x.2.1].flatMap numL).length) = textL x.2.2 ++ [] := by rw [List.append_nil]; exact drop_more hd
  have htk := takeT_drop (most := 262144) hz (by decide) hdt
  refine (wire_TakeText_any ((hp.grown B1).grown h2.bel) hc (by omega) _ 262144).mono ?_
  rintro _ w6 ⟨_, rfl, rfl, rfl⟩
  rw [htk]
  refine ⟨_, _, _, rfl, (S2.draw fun w7 B7 S7 => ?_)⟩
  have hrow := (h2.grown B7).row.rd
  obtain ⟨q, rfl, c0⟩ := hrow 0 (i64V x.1) rfl
  obtain ⟨q', hq', c1⟩ := hrow 1 (i64V x.2.1) rfl
  cases hq'
  rw [addr_add_zero] at c0
  refine ⟨⟨by omega, by show (0 : Int) < 2; omega⟩, ⟨by omega, by show (1 : Int) < 2; omega⟩, ?_⟩
  simp only [PTR]
  refine IFB_eq (fun _ => ?_) (fun h => absurd rfl h)
  refine ⟨_, c0, _, c1, S7.sto 0 rfl (cs' := #[.int .i64 x.1, .int .i64 0, .string ⟨#[]⟩]) (by simp) rfl fun w8 S8 => S8.sto 0 rfl (cs' := #[.int .i64 x.1, .int .i64 x.2.1, .string ⟨#[]⟩]) (by simp) rfl fun w9 S9 => S9.sto 0 rfl (cs' := #[.int .i64 x.1, .int .i64 x.2.1, .string (sof (bl x.2.2))]) (by simp) rfl fun w10 S10 => ⟨_, S10.cell 0 rfl rfl, _, S10.cell 0 rfl rfl, _, S10.cell 0 rfl rfl, ?_, S10.bel⟩⟩
  have hlen : 1 + ([x.1, x.2.1].flatMap numL).length + (textL x.2.2).length = p.length := by
    rw [he]
    simp [entB]
    omega
  rw [sof_bl, hlen]
  simp
end
theorem flatW_get {α : Type} {g : α → List Value} {n : Nat} (hg : ∀ x, (g x).length = n) : ∀ (ls : List α) (i j : Nat) (hi : i < ls.length), j < n → (ls.flatMap g)[i * n + j]? = (g ls[i])[j]?
  | [], i, j, hi, _ => by simp at hi
  | v :: ls, 0, j, _, hj => by
    simp only [List.flatMap_cons, Nat.zero_mul, Nat.zero_add, List.getElem_cons_zero]
    rw [List.getElem?_append_left (by rw [hg]; exact hj)]
  | v :: ls, i + 1, j, hi, hj => by
    simp only [List.flatMap_cons, List.getElem_cons_succ]
    rw [List.getElem?_append_right (by rw [hg, Nat.succ_mul]; omega), hg, show (i + 1) * n + j - n = i * n + j by rw [Nat.succ_mul]; omega]
    exact flatW_get hg ls i j (by simpa using hi) hj
theorem rowW_at {α : Type} {g : α → List Value} {n : Nat} (hg : ∀ x, (g x).length = n) (hn : 0 < n) {w : World} {a : Option Addr} {xs : List α} (h : Rd w a (xs.flatMap g)) {i : Nat} (hi : i < xs.length) : ∃ q, a = some q ∧ ∀ j v, (g xs[i])[j]? = some v → w.cell? ((q.add (i * n)).add j) = some v := by
  have hpos : 0 < (g xs[i]).length := by rw [hg]; exact hn
  obtain ⟨q, hq, _⟩ := h (i * n + 0) ((g xs[i])[0]'hpos) (by rw [flatW_get hg xs i 0 hi hn]; exact List.getElem?_eq_getElem hpos)
  refine ⟨q, hq, fun j v hv => ?_⟩
  have hj : j < n := by rw [← hg xs[i]]; exact (List.getElem?_eq_some_iff.1 hv).1
  obtain ⟨q2, hq2, hc⟩ := h (i * n + j) v (by rw [flatW_get hg xs i j hi hj]; exact hv)
  rw [hq] at hq2
  cases hq2
  rw [addr_add_add]
  exact hc
def entC (x : EntP) : List Value := [.int .i64 x.1, .int .i64 x.2.1, .string x.2.2]
def entV (x : EntP) : Value := .agg #[.int .i64 x.1, .int .i64 x.2.1, .string x.2.2]
theorem entC_len (x : EntP) : (entC x).length = 3 := rfl
structure WalC where
  b : Nat
  la : Option Addr
  lc : Nat
  L : LogP
def WalC.cells (W : WalC) (d : Nat) : Array Value := #[ptrV d, .int .i64 W.L.term, .int .i64 W.L.vote, .int .i64 W.L.sidx, .int .i64 W.L.sterm, .string W.L.sdata, .slice W.la W.L.l.length W.lc]
structure WalR (w : World) (W : WalC) (d : Nat) : Prop where
  blk : w.heap[W.b]? = some (.cells (W.cells d) ty.wal_Wal (0, 0))
  rd : Rd w W.la (W.L.l.flatMap entC)
theorem WalR.grown {w w' : World} {W : WalC} {d : Nat} (h : WalR w W d) (B : Below w.heap.size w w') : WalR w' W d := by
  refine ⟨?_, h.rd.grown B⟩
  rw [B.block _ (Array.getElem?_eq_some_iff.1 h.blk).1]
  exact h.blk
theorem WalR.cell {w : World} {W : WalC} {d : Nat} (h : WalR w W d) {i : Nat} {v : Value} (hv : (W.cells d)[i]? = some v) : w.cell? ⟨W.b, i, none⟩ = some v := by
  simp [World.cell?, h.blk, hv]
structure LogB (L : LogP) : Prop where
  sidx : 0 ≤ L.sidx
  last : L.last ≤ 4611686018427387904
theorem LogB.len {L : LogP} (h : LogB L) : (L.l.length : Int) ≤ 4611686018427387904 := by have := h.last; have := h.sidx; unfold LogP.last at *; omega
def LogP.at (L : LogP) (i : Int) : Option EntP := if L.has i then L.l[(i - L.sidx - 1).toNat]? else none
theorem LogP.has_lt {L : LogP} {i : Int} (h : L.has i) : (i - L.sidx - 1).toNat < L.l.length := by
  obtain ⟨h1, h2⟩ := h
  unfold LogP.last at h2
  omega
def LogP.termAt (L : LogP) (i : Int) : Int × Bool := if i = L.sidx then (L.sterm, true) else match L.at i with
  | some x => (x.2.1, true)
  | none => (0, false)
def atV (o : Option EntP) : Value := match o with
  | some x => .tuple #[entV x, .bool true]
  | none => .tuple #[entV (0, 0, ⟨#[]⟩), .bool false]
section
variable {w : World} {W : WalC} {d : Nat}
theorem wal_Last_ok (h : WalR w W d) (hB : LogB W.L) : Calls Tryz.prog f.wal_Wal_Last #[ptrV W.b] w (Ret fun v w' => v = .int .i64 W.L.last ∧ Below w.heap.size w w') := by
  apply R.wal_Wal_Last_calls
  unfold R.wal_Wal_Last
  refine IFB_false ((ST.start w).draw fun w1 B1 _ => ?_)
  have h := h.grown B1
  refine ⟨_, h.cell rfl, _, _, _, h.cell rfl, ?_, B1⟩
  have := hB.sidx
  have := hB.last
  unfold LogP.last at *
  rw [wrap_i64 (by omega) (by omega)]
theorem wal_has_ok (h : WalR w W d) (hB : LogB W.L) (i : Int) : Calls Tryz.prog f.wal_Wal_has #[ptrV W.b, .int .i64 i] w (Ret fun v w' => v = .bool (decide (W.L.has i)) ∧ Below w.heap.size w w') := by
  apply R.wal_Wal_has_calls
  unfold R.wal_Wal_has
  refine IFB_true ⟨_, h.cell rfl, IFB_dec (fun h1 => (wal_Last_ok h hB).mono ?_) (fun h1 => ⟨?_, .refl _ _⟩)⟩
  · rintro _ w1 ⟨_, rfl, rfl, B⟩
    refine ⟨_, rfl, ?_, B⟩
    have h1 : W.L.sidx < i := h1
    simp [LogP.has, h1]
  · have h1 : ¬ W.L.sidx < i := h1
    simp [LogP.has, h1]
theorem wal_Entry_ok (h : WalR w W d) (hB : LogB W.L) (i : Int) : Calls Tryz.prog f.wal_Wal_Entry #[ptrV W.b, .int .i64 i] w (Ret fun v w' => v = atV (W.L.at i) ∧ Below w.heap.size w w') := by
  apply R.wal_Wal_Entry_calls
  unfold R.wal_Wal_Entry
  refine (ST.start w).newB fun b3 w1 _ B1 S1 => (wal_has_ok (h.grown B1) hB i).mono ?_
  rintro _ w2 ⟨_, rfl, rfl, B2⟩
  have S2 := S1.grown B2
  have h := (h.grown B1).grown B2
  refine ⟨_, rfl, IFB_not (IFB_dec (fun hh => ?_) (fun hh => ?_))⟩
  · refine S2.draw fun w6 B6 S6 => ?_
    have h := h.grown B6
    have hlt := LogP.has_lt hh
    obtain ⟨h1, h2⟩ := hh
    have hs := hB.sidx
    have hl := hB.last
    have hlen := hB.len
    have e : IntKind.i64.wrap (IntKind.i64.wrap (i - W.L.sidx) - 1) = i - W.L.sidx - 1 := by rw [wrap_i64 (n := i - W.L.sidx) (by omega) (by omega), wrap_i64 (by omega) (by omega)]
    obtain ⟨q, hq, hc⟩ := rowW_at entC_len (by omega) h.rd hlt
    refine ⟨_, _, _, h.cell rfl, _, h.cell rfl, ?_⟩
    rw [e, hq]
    refine ⟨⟨by omega, by omega⟩, _, by have := hc 0 _ rfl; rw [addr_add_zero] at this; exact this, _, hc 1 _ rfl, _, hc 2 _ rfl, ?_⟩
    refine S6.sto 0 rfl (cs' := #[.int .i64 W.L.l[(i - W.L.sidx - 1).toNat].1, .int .i64 0, .string ⟨#[]⟩]) (by simp) rfl fun w7 S7 => S7.sto 0 rfl (cs' := #[.int .i64 W.L.l[(i - W.L.sidx - 1).toNat].1, .int .i64 W.L.l[(i - W.L.sidx - 1).toNat].2.1, .string ⟨#[]⟩]) (by simp) rfl fun w8 S8 => S8.sto 0 rfl (cs' := #[.int .i64 W.L.l[(i - W.L.sidx - 1).toNat].1, .int .i64 W.L.l[(i - W.L.sidx - 1).toNat].2.1, .string W.L.l[(i - W.L.sidx - 1).toNat].2.2]) (by simp) rfl fun w9 S9 => ?_
    refine ⟨_, S9.cell 0 rfl rfl, _, S9.cell 0 rfl rfl, _, S9.cell 0 rfl rfl, ?_, S9.bel⟩
    unfold LogP.at
    rw [if_pos ⟨h1, h2⟩, List.getElem?_eq_getElem hlt]
    rfl
  · refine S2.sto 0 rfl (cs' := #[.int .i64 0, .int .i64 0, .string ⟨#[]⟩]) (by simp) rfl fun w7 S7 => S7.sto 0 rfl (cs' := #[.int .i64 0, .int .i64 0, .string ⟨#[]⟩]) (by simp) rfl fun w8 S8 => S8.sto 0 rfl (cs' := #[.int .i64 0, .int .i64 0, .string ⟨#[]⟩]) (by simp) rfl fun w9 S9 => ?_
    refine ⟨_, S9.cell 0 rfl rfl, _, S9.cell 0 rfl rfl, _, S9.cell 0 rfl rfl, ?_, S9.bel⟩
    unfold LogP.at
    rw [if_neg hh]
    rfl
theorem atV_out (o : Option EntP) : ∃ (x : EntP) (b : Bool), atV o = .tuple #[.agg #[.int .i64 x.1, .int .i64 x.2.1, .string x.2.2], .bool b] ∧ ((o = some x ∧ b = true) ∨ (o = none ∧ b = false ∧ x = (0, 0, ⟨#[]⟩))) := by
  cases o with
  | none => exact ⟨_, _, rfl, .inr ⟨rfl, rfl, rfl⟩⟩
  | some x => exact ⟨_, _, rfl, .inl ⟨rfl, rfl⟩⟩
theorem wal_TermAt_ok (h : WalR w W d) (hB : LogB W.L) (i : Int) : Calls Tryz.prog f.wal_Wal_TermAt #[ptrV W.b, .int .i64 i] w (Ret fun v w' => v = .tuple #[.int .i64 (W.L.termAt i).1, .bool (W.L.termAt i).2] ∧ Below w.heap.size w w') := by
  apply R.wal_Wal_TermAt_calls
  unfold R.wal_Wal_TermAt
  refine ⟨fun st w1 => st = [.bool (decide (i = W.L.sidx))] ∧ w1 = w, IFB_true ⟨_, h.cell rfl, by rw [show (i == W.L.sidx) = decide (i = W.L.sidx) from rfl], rfl⟩, ?_⟩
  rintro _ w1 ⟨hst, rfl⟩
  cases hst
  refine IFB_dec (fun hi => ⟨_, h.cell rfl, ?_, .refl _ _⟩) (fun hi => (wal_Entry_ok h hB i).mono ?_)
  · unfold LogP.termAt
    rw [if_pos hi]
  · rintro _ w2 ⟨_, rfl, rfl, B2⟩
    obtain ⟨x, b, hx, ho⟩ := atV_out (W.L.at i)
    refine ⟨_, _, _, _, congrArg Ending.returned hx, ((ST.start w1).grown B2).lit3 fun b14 w3 _ S3 => ⟨_, S3.cell 0 rfl rfl, ?_, S3.bel⟩⟩
    unfold LogP.termAt
    rw [if_neg hi]
    rcases ho with ⟨e, rfl⟩ | ⟨e, rfl, rfl⟩ <;> rw [e]
theorem termAt_last (L : LogP) (hs : 0 ≤ L.sidx) : (L.termAt L.last).1 = L.termL := by
  unfold LogP.termAt LogP.termL termE
  by_cases h0 : L.l.length = 0
  · have : L.l = [] := List.eq_nil_of_length_eq_zero h0
    rw [if_pos (by unfold LogP.last; omega), this]
    rfl
  · have hne : ¬ L.last = L.sidx := by unfold LogP.last; omega
    have hh : L.has L.last := ⟨by unfold LogP.last; omega, Int.le_refl _⟩
    have he : (L.last - L.sidx - 1).toNat = L.l.length - 1 := by unfold LogP.last; omega
    rw [if_neg hne]
    unfold LogP.at
    rw [if_pos hh, he, ← List.getLast?_eq_getElem?]
    cases h : L.l.getLast? with
    | none => simp at h; rw [h] at h0; exact absurd rfl h0
    | some x => rfl
theorem wal_next_ok (h : WalR w W d) (hB : LogB W.L) (x : EntP) : Calls Tryz.prog f.wal_Wal_next #[ptrV W.b, entV x] w (Ret fun v w' => v = .bool (decide (W.L.may x)) ∧ Below w.heap.size w w') := by
  apply R.wal_Wal_next_calls
  unfold R.wal_Wal_next
  refine (ST.start w).newB fun b5 w1 _ B1 S1 => (wal_Last_ok (h.grown B1) hB).mono ?_
  rintro _ w2 ⟨_, rfl, rfl, B2⟩
  have h2 := (h.grown B1).grown B2
  refine ⟨_, rfl, (wal_TermAt_ok h2 hB _).mono ?_⟩
  rintro _ w3 ⟨_, rfl, rfl, B3⟩
  have h3 := h2.grown B3
  rw [termAt_last _ hB.sidx]
  refine ⟨_, _, rfl, ((S1.grown B2).grown B3).draw fun w4 B4 S4 => ⟨_, S4.cell 0 rfl rfl, (wal_Last_ok (h3.grown B4) hB).mono ?_⟩⟩
  rintro _ w5 ⟨_, rfl, rfl, B5⟩
  have S5 := S4.grown B5
  have hl := hB.last
  have hs := hB.sidx
  have e : IntKind.i64.wrap (W.L.last + 1) = W.L.last + 1 := wrap_i64 (by unfold LogP.last at *; omega) (by omega)
  have hmay : W.L.may x ↔ x.1 = W.L.last + 1 ∧ (1 ≤ x.2.1 ∧ W.L.termL ≤ x.2.1) ∧ x.2.2.size ≤ 262144 := Iff.rfl
  refine ⟨_, rfl, S5.cell 0 rfl rfl, ?_⟩
  rw [e]
  refine IFB_eq (fun h1 => ⟨_, S5.cell 0 rfl rfl, ?_⟩) (fun h1 => ⟨by rw [decide_eq_false (fun hm => h1 (hmay.1 hm).1)], S5.bel⟩)
  have hmx : (if W.L.termL > 1 then W.L.termL else 1) ≤ x.2.1 ↔ (1 ≤ x.2.1 ∧ W.L.termL ≤ x.2.1) := by split <;> omega
  refine IFB_dec (fun h2 => ⟨_, S5.cell 0 rfl rfl, ?_, S5.bel⟩) (fun h2 => ⟨?_, S5.bel⟩)
  · have h2 := hmx.1 h2
    congr 1
    refine decide_eq_decide.2 ?_
    rw [hmay]
    exact ⟨fun h3 => ⟨h1, h2, by omega⟩, fun h3 => by have := h3.2.2; omega⟩
  · rw [decide_eq_false (fun hm => h2 (hmx.2 (hmay.1 hm).2.1))]
theorem wal_State_ok (h : WalR w W d) : Calls Tryz.prog f.wal_Wal_State #[ptrV W.b] w (Ret fun v w' => v = .agg #[.int .i64 W.L.term, .int .i64 W.L.vote] ∧ Below w.heap.size w w') := by
  apply R.wal_Wal_State_calls
  unfold R.wal_Wal_State
  refine (ST.start w).newB fun b2 w1 _ B1 S1 => IFB_false ?_
  have h := h.grown B1
  refine ⟨_, h.cell rfl, _, h.cell rfl, S1.sto 0 rfl (cs' := #[.int .i64 W.L.term, .int .i64 0]) (by simp) rfl fun w4 S4 => S4.sto 0 rfl (cs' := #[.int .i64 W.L.term, .int .i64 W.L.vote]) (by simp) rfl fun w5 S5 => ⟨_, S5.cell 0 rfl rfl, _, S5.cell 0 rfl rfl, rfl, S5.bel⟩⟩
theorem wal_Snap_ok (h : WalR w W d) : Calls Tryz.prog f.wal_Wal_Snap #[ptrV W.b] w (Ret fun v w' => v = .agg #[.int .i64 W.L.sidx, .int .i64 W.L.sterm, .string W.L.sdata] ∧ Below w.heap.size w w') := by
  apply R.wal_Wal_Snap_calls
  unfold R.wal_Wal_Snap
  refine (ST.start w).newB fun b2 w1 _ B1 S1 => IFB_false ?_
  have h := h.grown B1
  refine ⟨_, h.cell rfl, _, h.cell rfl, _, h.cell rfl, S1.sto 0 rfl (cs' := #[.int .i64 W.L.sidx, .int .i64 0, .string ⟨#[]⟩]) (by simp) rfl fun w4 S4 => S4.sto 0 rfl (cs' := #[.int .i64 W.L.sidx, .int .i64 W.L.sterm, .string ⟨#[]⟩]) (by simp) rfl fun w5 S5 => S5.sto 0 rfl (cs' := #[.int .i64 W.L.sidx, .int .i64 W.L.sterm, .string W.L.sdata]) (by simp) rfl fun w6 S6 => ⟨_, S6.cell 0 rfl rfl, _, S6.cell 0 rfl rfl, _, S6.cell 0 rfl rfl, rfl, S6.bel⟩⟩
end
theorem ST.stoA {w0 w : World} {H : List It} (S : Go.Dn.ST w0 w H) (n : Nat) {b : Nat} {cs cs' : Array Value} {t : TypeId} (hn : H[n]? = some (It.cells b cs t)) (i : Nat) {p : Addr} (hp : p = ⟨b, i, none⟩) {v : Value} {k : World → Prop} (hi : i < cs.size) (hc : cs.setIfInBounds i v = cs')
    (hk : ∀ w', Go.Dn.ST w0 w' (H.set n (It.cells b cs' t)) → k w') : STO p v k w := by
  subst hp
  exact S.sto n hn hi hc hk
theorem SLA_zero (a : Option Addr) (c s : Nat) : SLA a 0 c s = a := by
  unfold SLA
  split
  · rfl
  · cases a with
    | none => rfl
    | some p => simp [addr_add_zero]
theorem tEnts : slT Tryz.prog ty.L_api_Entry = some (ty.api_Entry, 3, 32, .agg #[.int .i64 0, .int .i64 0, .string ⟨#[]⟩]) := by kernel_rfl
def rowE (a : Option Addr) (c : Nat) (l : List EntP) : It := It.row ty.api_Entry 3 a l.length c (l.flatMap entC)
def walI (W : WalC) (d : Nat) (H : List It) : List It := It.cells W.b (W.cells d) ty.wal_Wal :: rowE W.la W.lc W.L.l :: H
theorem ents_len (l : List EntP) : (l.flatMap entC).length = l.length * 3 := by
  induction l with
  | nil => rfl
  | cons x l ih => rw [List.flatMap_cons, List.length_append, ih, entC_len, List.length_cons]; omega
theorem ents_take : ∀ (l : List EntP) (n : Nat), (l.flatMap entC).take (n * 3) = (l.take n).flatMap entC
  | [], n => by simp
  | x :: l, 0 => by simp
  | x :: l, n + 1 => by
    rw [List.flatMap_cons, List.take_succ_cons, List.flatMap_cons, Nat.add_mul, Nat.one_mul, List.take_append, List.take_of_length_le (by rw [entC_len]; omega), entC_len, show n * 3 + 3 - 3 = n * 3 by omega, ents_take l n]
section
variable {w0 w : World} {H : List It} {W : WalC} {d : Nat} {a : Option Addr} {c : Nat}
theorem walR_of (S : ST w0 w (walI W d H)) : WalR w W d := ⟨S.blk 0 rfl, S.rd 1 rfl⟩
theorem does_snap (S : ST w0 w (walI W d H)) (x : EntP) (hok : okE x) {p : List UInt8} (he : p = (Pay.snap x).bytes) (hp : Rd w a (p.map byteV)) (hc : p.length ≤ c) :
    Calls Tryz.prog f.wal_Wal_does #[ptrV W.b, .slice a p.length c, .bool true] w (Ret fun v w' => v = .bool true ∧ ST w0 w' (walI { W with L := { W.L with sidx := x.1, sterm := x.2.1, sdata := x.2.2 } } d H)) := by
  apply R.wal_Wal_does_calls
  unfold R.wal_Wal_does
  have hl1 : 0 < (p.length : Int) := by rw [he]; simp [Pay.bytes]
  obtain ⟨q, rfl, c0⟩ := hp 0 (byteV 4) (by rw [he]; rfl)
  rw [addr_add_zero] at c0
  refine ⟨⟨by omega, hl1⟩, _, c0, IFB_false ⟨⟨by omega, hl1⟩, _, c0, IFB_eq (fun _ => ?_) (fun h => absurd rfl h)⟩⟩
  refine (wal_entry_ok 4 x hok he hp hc).mono ?_
  rintro _ w1 ⟨_, rfl, rfl, B1⟩
  refine ⟨_, _, _, _, rfl, (S.grown B1).lit3 fun b13 w5 _ S5 => ⟨_, S5.cell 0 rfl rfl, _, S5.cell 0 rfl rfl, _, S5.cell 0 rfl rfl, ?_⟩⟩
  refine ST.stoA S5 1 rfl 3 rfl (cs' := #[ptrV d, .int .i64 W.L.term, .int .i64 W.L.vote, .int .i64 x.1, .int .i64 W.L.sterm, .string W.L.sdata, .slice W.la W.L.l.length W.lc]) (by show 3 < 7; omega) rfl fun w6 S6 => ?_
  refine ST.stoA S6 1 rfl 4 rfl (cs' := #[ptrV d, .int .i64 W.L.term, .int .i64 W.L.vote, .int .i64 x.1, .int .i64 x.2.1, .string W.L.sdata, .slice W.la W.L.l.length W.lc]) (by show 4 < 7; omega) rfl fun w7 S7 => ?_
  refine ST.stoA S7 1 rfl 5 rfl (cs' := #[ptrV d, .int .i64 W.L.term, .int .i64 W.L.vote, .int .i64 x.1, .int .i64 x.2.1, .string x.2.2, .slice W.la W.L.l.length W.lc]) (by show 5 < 7; omega) rfl fun w8 S8 => ?_
  exact ⟨rfl, S8.drop 1⟩
theorem does_state (S : ST w0 w (walI W d H)) (t v : Int) (ht : okN t) (hv : okN v) (h7 : v ≤ 7) (hle : W.L.term ≤ t) {p : List UInt8} (he : p = (Pay.state t v).bytes) (hp : Rd w a (p.map byteV)) (hc : p.length ≤ c) :
    Calls Tryz.prog f.wal_Wal_does #[ptrV W.b, .slice a p.length c, .bool false] w (Ret fun u w' => u = .bool true ∧ ST w0 w' (walI { W with L := { W.L with term := t, vote := v } } d H)) := by
  have hpl := (Pay.bytes_len (p := .state t v) ⟨ht, hv⟩)
  rw [← he] at hpl
  have hz : (Pay.state t v).size = 0 := rfl
  apply R.wal_Wal_does_calls
  unfold R.wal_Wal_does
  have hl1 : 0 < (p.length : Int) := by omega
  obtain ⟨q, rfl, c0⟩ := hp 0 (byteV 1) (by rw [he]; rfl)
  rw [addr_add_zero] at c0
  refine ⟨⟨by omega, hl1⟩, _, c0, IFB_false ⟨⟨by omega, hl1⟩, _, c0, IFB_eq (fun h => absurd h (by decide)) (fun _ => IFB_eq (fun _ => ?_) (fun h => absurd rfl h))⟩⟩
  have hd : p.drop 1 = [t, v].flatMap numL ++ [] := by rw [he]; simp [Pay.bytes]
  refine (wal_numbers_ok [t, v] [] hp hc (by omega) hd (by
    intro y hy
    simp only [List.mem_cons, List.not_mem_nil, or_false] at hy
    rcases hy with rfl | rfl
    · exact ht
    · exact hv) (by simp)).mono ?_
  rintro _ w9 ⟨_, rfl, a9, c9, rfl, h9⟩
  have S9 := S.grown h9.bel
  refine ⟨_, _, _, _, _, rfl, S9.draw fun w10 B10 S10 => IFB_false ?_⟩
  have hlen : 1 + ([t, v].flatMap numL).length = p.length := by rw [he]; simp [Pay.bytes]; omega
  have hrow := (h9.grown B10).row.rd
  obtain ⟨q9, rfl, c90⟩ := hrow 0 (i64V t) rfl
  obtain ⟨q', hq', c91⟩ := hrow 1 (i64V v) rfl
  cases hq'
  rw [addr_add_zero] at c90
  rw [hlen]
  refine IFB_ne (fun h => absurd rfl h) (fun _ => ⟨⟨by omega, by show (1 : Int) < 2; omega⟩, _, c91, IFB_dec (fun h => absurd h (by omega)) (fun _ => ⟨⟨by omega, by show (0 : Int) < 2; omega⟩, _, c90, _, S10.cell 0 rfl rfl, IFB_dec (fun h => absurd h (by show ¬ t < W.L.term; omega)) (fun _ => S10.draw fun w11 B11 S11 => ?_)⟩)⟩)
  have hrow := ((h9.grown B10).grown B11).row.rd
  obtain ⟨q', hq', c90⟩ := hrow 0 (i64V t) rfl
  cases hq'
  obtain ⟨q', hq', c91⟩ := hrow 1 (i64V v) rfl
  cases hq'
  rw [addr_add_zero] at c90
  refine ⟨⟨by omega, by show (0 : Int) < 2; omega⟩, ⟨by omega, by show (1 : Int) < 2; omega⟩, _, c90, _, c91, ?_⟩
  refine ST.stoA S11 0 rfl 1 rfl (cs' := #[ptrV d, .int .i64 t, .int .i64 W.L.vote, .int .i64 W.L.sidx, .int .i64 W.L.sterm, .string W.L.sdata, .slice W.la W.L.l.length W.lc]) (by show 1 < 7; omega) rfl fun w12 S12 => ?_
  refine ST.stoA S12 0 rfl 2 rfl (cs' := #[ptrV d, .int .i64 t, .int .i64 v, .int .i64 W.L.sidx, .int .i64 W.L.sterm, .string W.L.sdata, .slice W.la W.L.l.length W.lc]) (by show 2 < 7; omega) rfl fun w13 S13 => ?_
  exact ⟨rfl, S13⟩
theorem push_ent {cs : Array Value} {t : TypeId} (S : ST w0 w H) (i : Nat) {la : Option Addr} {lc : Nat} {l : List EntP} (hi : H[i]? = some (rowE la lc l)) (hn : l.length ≤ 1000000) (x : EntP) {b : Option Addr} {mc : Nat} (hs : Rd w b (entC x)) {f : Value → World → Prop}
    (hf : ∀ a' c' w', ST w0 w' (H.set i (rowE a' c' (l ++ [x]))) → f (.slice a' (l.length + 1) c') w') : OPR Tryz.prog (Builtin.append_ #[ty.L_api_Entry, ty.L_api_Entry] ty.L_api_Entry #[.slice la l.length lc, .slice b 1 mc]) f w := by
  refine S.app i hi tEnts rfl (by omega) (by omega) hs (mm := 1) rfl (by simp [entC]; exact ⟨rfl, rfl, rfl⟩) (by omega) fun a' c' w' S' => hf a' c' w' ?_
  have e : It.row ty.api_Entry 3 a' (l.length + 1) c' (l.flatMap entC ++ entC x) = rowE a' c' (l ++ [x]) := by unfold rowE; rw [List.length_append, List.flatMap_append]; simp
  rw [← e]
  exact S'
theorem does_ent (S : ST w0 w (walI W d H)) (hB : LogB W.L) (hn : W.L.l.length ≤ 1000000) (x : EntP) (hok : okE x) (hm : W.L.may x) {p : List UInt8} (he : p = (Pay.ent x).bytes) (hp : Rd w a (p.map byteV)) (hc : p.length ≤ c) :
    Calls Tryz.prog f.wal_Wal_does #[ptrV W.b, .slice a p.length c, .bool false] w (Ret fun u w' => u = .bool true ∧ ∃ la lc, ST w0 w' (walI { W with la := la, lc := lc, L := { W.L with l := W.L.l ++ [x] } } d H)) := by
  apply R.wal_Wal_does_calls
  unfold R.wal_Wal_does
  have hl1 : 0 < (p.length : Int) := by rw [he]; simp [Pay.bytes]
  obtain ⟨q, rfl, c0⟩ := hp 0 (byteV 2) (by rw [he]; rfl)
  rw [addr_add_zero] at c0
  refine ⟨⟨by omega, hl1⟩, _, c0, IFB_false ⟨⟨by omega, hl1⟩, _, c0, IFB_eq (fun h => absurd h (by decide)) (fun _ => IFB_eq (fun h => absurd h (by decide)) (fun _ => IFB_eq (fun _ => ?_) (fun h => absurd rfl h)))⟩⟩
  refine (wal_entry_ok 2 x hok he hp hc).mono ?_
  rintro _ w14 ⟨_, rfl, rfl, B14⟩
  refine ⟨_, _, _, _, rfl, (S.grown B14).lit3 fun b38 w18 _ S18 => IFB_false ⟨_, S18.cell 0 rfl rfl, _, S18.cell 0 rfl rfl, _, S18.cell 0 rfl rfl, ?_⟩⟩
  refine (wal_next_ok (walR_of (S18.drop 1)) hB x).mono ?_
  rintro _ w19 ⟨_, rfl, rfl, B19⟩
  rw [decide_eq_true hm]
  refine ⟨_, rfl, IFB_false ((S18.grown B19).draw fun w20 _ S20 => ⟨_, _, _, S20.cell 1 rfl rfl, _, S20.cell 0 rfl rfl, _, S20.cell 0 rfl rfl, _, S20.cell 0 rfl rfl, S20.newB fun b49 w21 _ _ S21 => ⟨S21.cell 2 rfl rfl, ?_⟩⟩)⟩
  refine push_ent (cs := #[]) (t := 0) S21 3 rfl hn x (S21.rdc 0 rfl) fun a' c' w22 S22 => ⟨_, _, _, rfl, ?_⟩
  refine ST.stoA S22 2 rfl 6 rfl (cs' := #[ptrV d, .int .i64 W.L.term, .int .i64 W.L.vote, .int .i64 W.L.sidx, .int .i64 W.L.sterm, .string W.L.sdata, .slice a' (W.L.l.length + 1) c']) (by show 6 < 7; omega) rfl fun w23 S23 => ⟨rfl, a', c', ?_⟩
  have S24 : ST w0 w23 (It.cells W.b #[ptrV d, .int .i64 W.L.term, .int .i64 W.L.vote, .int .i64 W.L.sidx, .int .i64 W.L.sterm, .string W.L.sdata, .slice a' (W.L.l.length + 1) c'] ty.wal_Wal :: rowE a' c' (W.L.l ++ [x]) :: H) := S23.drop 2
  rw [show W.L.l.length + 1 = (W.L.l ++ [x]).length by simp] at S24
  exact S24
theorem does_cut (S : ST w0 w (walI W d H)) (hB : LogB W.L) (i : Int) (hok : okN i) (hm : W.L.has i) {p : List UInt8} (he : p = (Pay.cut i).bytes) (hp : Rd w a (p.map byteV)) (hc : p.length ≤ c) :
    Calls Tryz.prog f.wal_Wal_does #[ptrV W.b, .slice a p.length c, .bool false] w (Ret fun u w' => u = .bool true ∧ ST w0 w' (walI { W with L := W.L.cut i } d H)) := by
  have hpl := (Pay.bytes_len (p := .cut i) hok)
  rw [← he] at hpl
  have hz : (Pay.cut i).size = 0 := rfl
  apply R.wal_Wal_does_calls
  unfold R.wal_Wal_does
  have hl1 : 0 < (p.length : Int) := by omega
  obtain ⟨q, rfl, c0⟩ := hp 0 (byteV 3) (by rw [he]; rfl)
  rw [addr_add_zero] at c0
  refine ⟨⟨by omega, hl1⟩, _, c0, IFB_false ⟨⟨by omega, hl1⟩, _, c0, IFB_eq (fun h => absurd h (by decide)) (fun _ => IFB_eq (fun h => absurd h (by decide)) (fun _ => IFB_eq (fun h => absurd h (by decide)) (fun _ => IFB_eq (fun _ => ?_) (fun h => absurd rfl h))))⟩⟩
  have hd : p.drop 1 = [i].flatMap numL ++ [] := by rw [he]; simp [Pay.bytes]
  refine (wal_numbers_ok [i] [] hp hc (by omega) hd (by
    intro y hy
    simp only [List.mem_cons, List.not_mem_nil, or_false] at hy
    rw [hy]
    exact hok) (by simp)).mono ?_
  rintro _ w24 ⟨_, rfl, a9, c9, rfl, h9⟩
  have S9 := S.grown h9.bel
  have hlen : 1 + ([i].flatMap numL).length = p.length := by rw [he]; simp [Pay.bytes]; omega
  have hrow := h9.row.rd
  obtain ⟨q9, rfl, c90⟩ := hrow 0 (i64V i) rfl
  rw [addr_add_zero] at c90
  refine ⟨_, _, _, _, _, rfl, ?_⟩
  rw [hlen]
  refine IFB_false (IFB_ne (fun h => absurd rfl h) (fun _ => ⟨⟨by omega, by show (0 : Int) < 1; omega⟩, _, c90, ?_⟩))
  refine (wal_has_ok (walR_of S9) hB i).mono ?_
  rintro _ w25 ⟨_, rfl, rfl, B25⟩
  rw [decide_eq_true hm]
  refine ⟨_, rfl, IFB_false ((S9.grown B25).draw fun w26 B26 S26 => ?_)⟩
  have hrow := ((h9.grown B25).grown B26).row.rd
  obtain ⟨q', hq', c90⟩ := hrow 0 (i64V i) rfl
  cases hq'
  rw [addr_add_zero] at c90
  have hlt := LogP.has_lt hm
  have h1 := hm.1
  have hs := hB.sidx
  have hlenB := hB.len
  have hi2 := hok.2
  have e : IntKind.i64.wrap (IntKind.i64.wrap (i - W.L.sidx) - 1) = i - W.L.sidx - 1 := by rw [wrap_i64 (n := i - W.L.sidx) (by omega) (by omega), wrap_i64 (by omega) (by omega)]
  have hcap := (S26.rw 1 rfl).le
  refine ⟨⟨by omega, by show (0 : Int) < 1; omega⟩, _, _, _, S26.cell 0 rfl rfl, _, c90, _, S26.cell 0 rfl rfl, ?_⟩
  rw [e, SLA_zero]
  refine ⟨⟨by omega, by omega, by omega⟩, ?_⟩
  refine ST.stoA S26 0 rfl 6 rfl (cs' := #[ptrV d, .int .i64 W.L.term, .int .i64 W.L.vote, .int .i64 W.L.sidx, .int .i64 W.L.sterm, .string W.L.sdata, .slice W.la ((i - W.L.sidx - 1).toNat - 0) (W.lc - 0)]) (by show 6 < 7; omega) rfl fun w27 S27 => ⟨rfl, ?_⟩
  have hfr := (S27.rw 1 rfl).front (i := (i - W.L.sidx - 1).toNat) (by omega)
  rw [ents_take] at hfr
  have hl2 : (W.L.l.take (i - W.L.sidx - 1).toNat).length = (i - W.L.sidx - 1).toNat := by rw [List.length_take]; omega
  have S28 := S27.chg 1 rfl (.refl _ _) (rowE W.la W.lc (W.L.l.take (i - W.L.sidx - 1).toNat)) (by unfold rowE; rw [hl2]; exact hfr) (fun k hk => .inl hk)
  have S28 : ST w0 w27 (It.cells W.b #[ptrV d, .int .i64 W.L.term, .int .i64 W.L.vote, .int .i64 W.L.sidx, .int .i64 W.L.sterm, .string W.L.sdata, .slice W.la ((i - W.L.sidx - 1).toNat - 0) (W.lc - 0)] ty.wal_Wal :: rowE W.la W.lc (W.L.l.take (i - W.L.sidx - 1).toNat) :: H) := S28
  rw [Nat.sub_zero, Nat.sub_zero, ← hl2] at S28
  rw [hl2] at S28
  show ST w0 w27 (It.cells W.b #[ptrV d, .int .i64 W.L.term, .int .i64 W.L.vote, .int .i64 W.L.sidx, .int .i64 W.L.sterm, .string W.L.sdata, .slice W.la (W.L.l.take (i - W.L.sidx - 1).toNat).length W.lc] ty.wal_Wal :: rowE W.la W.lc (W.L.l.take (i - W.L.sidx - 1).toNat) :: H)
  rw [hl2]
  exact S28
end
def zeroL : LogP := ⟨0, 0, 0, 0, ⟨#[]⟩, []⟩
theorem step_keeps {L B : LogP} {p : Pay} (h : stepP L p = some B) : B.sidx = L.sidx ∧ B.l.length ≤ L.l.length + 1 := by
  cases p with
  | snap x => cases h
  | state t v =>
    simp only [stepP] at h
    split at h
    · cases h; exact ⟨rfl, Nat.le_succ _⟩
    · cases h
  | ent x =>
    simp only [stepP] at h
    split at h
    · cases h; exact ⟨rfl, by simp⟩
    · cases h
  | cut i =>
    simp only [stepP] at h
    split at h
    · cases h; exact ⟨rfl, by show (L.l.take _).length ≤ _; rw [List.length_take]; omega⟩
    · cases h
theorem play_keeps : ∀ {ps : List Pay} {L B : LogP}, playP L ps = some B → B.sidx = L.sidx ∧ B.l.length ≤ L.l.length + ps.length
  | [], L, B, h => by cases h; exact ⟨rfl, by simp⟩
  | p :: ps, L, B, h => by
    simp only [playP] at h
    cases hs : stepP L p with
    | none => rw [hs] at h; cases h
    | some A =>
      rw [hs] at h
      have h1 := step_keeps hs
      have h2 := play_keeps (ps := ps) h
      refine ⟨h2.1.trans h1.1, ?_⟩
      rw [List.length_cons]
      omega
theorem play_at {ps : List Pay} {L L' : LogP} (h : playP L ps = some L') {k : Nat} (hk : k < ps.length) : ∃ A B, playP L (ps.take k) = some A ∧ stepP A ps[k] = some B ∧ playP L (ps.take (k + 1)) = some B := by
  have e : ps = ps.take k ++ ps.drop k := (List.take_append_drop k ps).symm
  rw [e, playP_append] at h
  cases hA : playP L (ps.take k) with
  | none => rw [hA] at h; cases h
  | some A =>
    rw [hA, List.drop_eq_getElem_cons hk] at h
    simp only [Option.bind_some, playP] at h
    cases hB : stepP A ps[k] with
    | none => rw [hB] at h; cases h
    | some B =>
      refine ⟨A, B, rfl, hB, ?_⟩
      rw [List.take_succ_eq_append_getElem hk, playP_append, hA]
      simp only [Option.bind_some, playP, hB]
def AtL (x : EntP) (rest : List Pay) : Nat → LogP → Prop
  | 0, A => A = zeroL
  | k + 1, A => playP (snapL x) (rest.take k) = some A
theorem recs_count : ∀ (ps : List Pay), ps.length * 12 ≤ (flatR ps).length
  | [] => by simp
  | p :: ps => by
    have := recs_count ps
    rw [flatR_cons, List.length_append, List.length_cons, Pay.rcd_len]
    omega
section
variable {w0 w : World} {H : List It} {W : WalC} {d : Nat} {a : Option Addr} {c : Nat}
theorem walI_perm (P : List It) : (P ++ walI W d H).Perm (walI W d (P ++ H)) := by
  unfold walI
  refine (List.perm_middle).trans (List.Perm.cons _ ?_)
  exact List.perm_middle
theorem does_step (S : ST w0 w (walI W d H)) (hB : LogB W.L) (hn : W.L.l.length ≤ 1000000) {p : Pay} (hok : p.ok) {B : LogP} (hs : stepP W.L p = some B) (hp : Rd w a (p.bytes.map byteV)) (hc : p.bytes.length ≤ c) :
    Calls Tryz.prog f.wal_Wal_does #[ptrV W.b, .slice a p.bytes.length c, .bool false] w (Ret fun u w' => u = .bool true ∧ ∃ la lc, ST w0 w' (walI { W with la := la, lc := lc, L := B } d H)) := by
  cases p with
  | snap x => cases hs
  | state t v =>
    simp only [stepP] at hs
    split at hs
    · next h =>
      cases hs
      refine (does_state S t v hok.1 hok.2 h.1 h.2 rfl hp hc).mono ?_
      rintro _ w' ⟨_, rfl, rfl, S'⟩
      exact ⟨_, rfl, rfl, W.la, W.lc, S'⟩
    · cases hs
  | ent x =>
    simp only [stepP] at hs
    split at hs
    · next h =>
      cases hs
      exact does_ent S hB hn x hok h rfl hp hc
    · cases hs
  | cut i =>
    simp only [stepP] at hs
    split at hs
    · next h =>
      cases hs
      refine (does_cut S hB i hok h rfl hp hc).mono ?_
      rintro _ w' ⟨_, rfl, rfl, S'⟩
      exact ⟨_, rfl, rfl, W.la, W.lc, S'⟩
    · cases hs
theorem wal_read_ok (S : ST w0 w (walI W d H)) (hW : W.L = zeroL) (x : EntP) (rest : List Pay) (L : LogP) (t : List UInt8) (hps : ∀ p ∈ (Pay.snap x :: rest), p.ok) (hpl : playP (snapL x) rest = some L) (ht : Torn t) (hX : (flatR (.snap x :: rest) ++ t).length ≤ 10000000) (hx : x.1 ≤ 2305843009213693952)
    (hc : (flatR (.snap x :: rest) ++ t).length ≤ c) (hr : It.rd a ((flatR (.snap x :: rest) ++ t).map byteV) ∈ H) :
    Calls Tryz.prog f.wal_Wal_read #[ptrV W.b, .slice a (flatR (.snap x :: rest) ++ t).length c] w (Ret fun u w' => u = .bool true ∧ ∃ la lc, ST w0 w' (walI { W with la := la, lc := lc, L := L } d H)) := by
  apply R.wal_Wal_read_calls
  unfold R.wal_Wal_read
  refine S.newB fun b3 w1 _ _ S1 => S1.newB fun b4 w2 _ _ S2 => S2.newB fun b5 w3 _ _ S3 => S3.sto 1 rfl (cs' := #[.bool true]) (by simp) rfl fun w4 S4 => S4.sto 0 rfl (cs' := #[.bool true]) (by simp) rfl fun w5 S5 => (wal_payloads_ok S5).mono ?_
  rintro _ w6 ⟨_, rfl, b1, rfl, S6⟩
  refine ⟨_, _, _, rfl, enters_pay, fun rr hst hpe hy => ?_⟩
  have S7 := S6.range rr
  obtain ⟨Lp, hL⟩ : ∃ Lp, Lp = w6.heap.size + 1 := ⟨_, rfl⟩
  obtain ⟨df, hd⟩ : ∃ df, df = w6.heap.size := ⟨_, rfl⟩
  rw [← hL] at S7 hy ⊢
  rw [← hd] at S7 ⊢
  have hcount := recs_count (Pay.snap x :: rest)
  have hlenX : (flatR (Pay.snap x :: rest)).length ≤ 10000000 := by rw [List.length_append] at hX; omega
  rw [List.length_cons] at hcount
  have hx0 : 0 ≤ x.1 := (hps (.snap x) (by simp)).1.1
  -- what is known of the log behind so many records
  have hbd : ∀ k A, k ≤ rest.length + 1 → AtL x rest k A → LogB A ∧ A.l.length ≤ 1000000 := fun k A hk hA => by
    cases k with
    | zero => cases hA; exact ⟨⟨Int.le_refl _, by decide⟩, by decide⟩
    | succ k =>
      obtain ⟨h1, h2⟩ := play_keeps hA
      have h1 : A.sidx = x.1 := h1
      have h2 : A.l.length ≤ 0 + (rest.take k).length := h2
      rw [List.length_take] at h2
      exact ⟨⟨by rw [h1]; exact hx0, by unfold LogP.last; omega⟩, by omega⟩
  let J : Nat → Value → World → Prop := fun k v wx => k ≤ rest.length + 1 ∧ ∃ (la : Option Addr) (lc : Nat) (A : LogP), AtL x rest k A ∧ ST w0 wx ([It.obj Lp (.loop rr), It.obj df (.deferred (some [])), It.cells b1 #[v] ty.L_uint8, It.cells b5 #[.bool true] ty.bool, It.cells b4 #[.bool (decide (k = 0))] ty.bool, It.cells b3 #[ptrV W.b] ty.P_wal_Wal] ++ walI { W with la := la, lc := lc, L := A } d H)
  have hcall := payloads_c1_ok (a := a) (c := c) (w := (w6.alloc (.deferred (some []))).alloc (.loop rr)) (L := Lp) (b1 := b1) (.snap x :: rest) t hps ht (by omega) hc J (fun k v w' h => by obtain ⟨_, la, lc, A, _, S⟩ := h; exact S.cell 2 rfl rfl)
    (fun k v u w' K h hK => by
      obtain ⟨h1, la, lc, A, h2, S⟩ := h
      exact S.sto 2 rfl (cs' := #[u]) (by simp) rfl fun w'' S => hK w'' ⟨h1, la, lc, A, h2, S⟩)
    (fun k v w' h => by obtain ⟨_, la, lc, A, _, S⟩ := h; exact S.ok _ (List.mem_append_right _ (List.mem_cons_of_mem _ (List.mem_cons_of_mem _ hr)))) (fun k v w' w'' h B => by obtain ⟨h1, la, lc, A, h2, S⟩ := h; exact ⟨h1, la, lc, A, h2, S.grown B⟩) (by
    rintro k v wx a' c' hk ⟨hk1, la, lc, A, hA, S⟩ hrd hcap
    have hok := hps _ (List.getElem_mem hk)
    have hpos := (Pay.bytes_len hok).1
    obtain ⟨q, rfl, _⟩ := byte_at hrd (i := 0) (by omega)
    obtain ⟨hBA, hnA⟩ := hbd k A hk1 hA
    refine hy _ _ _ _ _ (S.get 0 rfl) (S.begrK 0 rfl fun w8 hkeep S8 => IFB_false ⟨_, S8.cell 5 rfl rfl, _, S8.cell 4 rfl rfl, ?_⟩)
    have hrd8 := hkeep _ _ hrd
    have S8 : ST w0 w8 ([It.obj Lp (.loop { rr with state := .busy }), It.obj df (.deferred (some [])), It.cells b1 #[v] ty.L_uint8, It.cells b5 #[.bool true] ty.bool, It.cells b4 #[.bool (decide (k = 0))] ty.bool, It.cells b3 #[ptrV W.b] ty.P_wal_Wal] ++ walI { W with la := la, lc := lc, L := A } d H) := S8
    have Sp := S8.perm (walI_perm _)
    have fin : ∀ (B : LogP) (la' : Option Addr) (lc' : Nat) w', AtL x rest (k + 1) B → ST w0 w' (walI { W with la := la', lc := lc', L := B } d ([It.obj Lp (.loop { rr with state := .busy }), It.obj df (.deferred (some [])), It.cells b1 #[v] ty.L_uint8, It.cells b5 #[.bool true] ty.bool, It.cells b4 #[.bool (decide (k = 0))] ty.bool, It.cells b3 #[ptrV W.b] ty.P_wal_Wal] ++ H)) →
        STO ⟨b4, 0, none⟩ (.bool false) (fun w12 => ENDR rr Lp (fun y w' => y = true ∧ J (k + 1) v w') none w12) w' := fun B la' lc' w' hB' S' => by
      have S' := S'.perm (walI_perm _).symm
      refine S'.sto 4 rfl (cs' := #[.bool (decide (k + 1 = 0))]) (by simp) rfl fun w12 S12 => S12.endr0 0 hst hpe rfl fun w13 S13 => ⟨rfl, by simp at hk; omega, la', lc', B, hB', S13⟩
    cases k with
    | zero =>
      cases hA
      refine (does_snap Sp x (hps (.snap x) (by simp)) rfl hrd8 hcap).mono ?_
      rintro _ w10 ⟨_, rfl, rfl, S10⟩
      refine ⟨_, rfl, IFB_false (fin (snapL x) la lc w10 rfl ?_)⟩
      exact S10
    | succ k =>
      have hk' : k < rest.length := by simpa using hk
      obtain ⟨A', B, h1, h2, h3⟩ := play_at hpl hk'
      obtain rfl : A' = A := Option.some.inj (h1.symm.trans hA)
      refine (does_step (W := { W with la := la, lc := lc, L := A' }) Sp hBA hnA (p := rest[k]) hok h2 hrd8 hcap).mono ?_
      rintro _ w10 ⟨_, rfl, rfl, la', lc', S10⟩
      exact ⟨_, rfl, IFB_false (fin B la' lc' w10 h3 S10)⟩) ⟨Nat.zero_le _, W.la, W.lc, zeroL, rfl, by rw [← hW]; exact S7⟩
  refine hcall.mono ?_
  rintro _ w18 ⟨_, rfl, v, _, la, lc, A, hA, S8⟩
  have hA : playP (snapL x) (rest.take rest.length) = some A := hA
  rw [List.take_length] at hA
  obtain rfl : A = L := Option.some.inj (hA.symm.trans hpl)
  refine ⟨⟨_, rfl⟩, ?_⟩
  refine S8.endl0 0 hst hpe rfl fun w19 S => .inl ⟨rfl, _, S.cell 3 rfl rfl, IFB_true ⟨_, S.cell 4 rfl rfl, S.get 1 rfl, ?_⟩⟩
  have S' := S.put 1 rfl (.deferred none)
  exact ⟨rfl, la, lc, S'.drop 6⟩
end
def bytesI (a : Option Addr) (c : Nat) (l : List UInt8) : It := It.row ty.uint8 1 a l.length c (l.map byteV)
structure FileC where
  b : Nat
  num : Nat
  da : Option Addr
  dc : Nat
  data : List UInt8
  lasts : Nat
def FileC.cells (f : FileC) : Array Value := #[.int .i64 (f.num : Int), .slice f.da f.data.length f.dc, .int .i64 (f.lasts : Int)]
def FileC.its (f : FileC) : List It := [It.cells f.b f.cells ty.disk_file, bytesI f.da f.dc f.data]
abbrev DirA := List UInt8 → Option Nat
inductive ChgC where
  | create (b1 b2 : Nat) (s : ByteArray) (f : Nat)
  | rename (b1 b2 b3 : Nat) (o s : ByteArray) (f : Nat)
  | remove (b1 : Nat) (s : ByteArray)
def ChgC.app (g : DirA) : ChgC → DirA
  | .create _ _ s f => fun y => if y = bl s then some f else g y
  | .rename _ _ _ o s f => fun y => if y = bl s then some f else if y = bl o then none else g y
  | .remove _ s => fun y => if y = bl s then none else g y
def ChgC.fn : ChgC → FuncId
  | .create .. => f.disk_Disk_Create_c1
  | .rename .. => f.disk_Disk_Rename_c1
  | .remove .. => f.disk_Disk_Remove_c1
def ChgC.caps : ChgC → List Value
  | .create b1 b2 _ _ => [ptrV b1, ptrV b2]
  | .rename b1 b2 b3 _ _ _ => [ptrV b1, ptrV b2, ptrV b3]
  | .remove b1 _ => [ptrV b1]
def ChgC.val (c : ChgC) : Value := .func (.func c.fn) #[] ⟨c.caps⟩
def ChgC.its : ChgC → List It
  | .create b1 b2 s f => [It.cells b1 #[ptrV f] ty.P_disk_file, It.cells b2 #[.string s] ty.string]
  | .rename b1 b2 b3 o s f => [It.cells b1 #[.string o] ty.string, It.cells b2 #[ptrV f] ty.P_disk_file, It.cells b3 #[.string s] ty.string]
  | .remove b1 s => [It.cells b1 #[.string s] ty.string]
def ChgC.small : ChgC → Prop
  | .create _ _ s _ => s.size ≤ 80
  | .rename _ _ _ o s _ => o.size ≤ 80 ∧ s.size ≤ 80
  | .remove _ s => s.size ≤ 80
def appAll (g : DirA) (l : List ChgC) : DirA := l.foldl (fun g c => c.app g) g
theorem appAll_snoc (g : DirA) (l : List ChgC) (c : ChgC) : appAll g (l ++ [c]) = c.app (appAll g l) := by simp [appAll]
structure DiskC where
  b : Nat
  room : Nat
  made : Nat
  db : Nat
  dn : Nat
  dir : DirA
  lb : Nat
  ln : Nat
  last : DirA
  wa : Option Addr
  wc : Nat
  waits : List ChgC
  off : Bool
  fused : Bool
  fuse : Int
  files : List FileC
def DiskC.cells (D : DiskC) : Array Value := #[.int .i64 (D.room : Int), .int .i64 (D.made : Int), .map (some D.db), .map (some D.lb), .slice D.wa D.waits.length D.wc, .bool D.off, .bool D.fused, .int .i64 D.fuse]
abbrev dirI (b n : Nat) (g : DirA) : It := It.mapP Tryz.prog ty.string b n g
def dkE (D : DiskC) (E : List It) : List It :=
  It.cells D.b D.cells ty.disk_Disk :: dirI D.db D.dn D.dir :: dirI D.lb D.ln D.last :: It.row tyFn 1 D.wa D.waits.length D.wc (D.waits.map ChgC.val) :: (D.waits.flatMap ChgC.its ++ (D.files.flatMap FileC.its ++ E))
def InjD (g : DirA) : Prop := ∀ x y b, g x = some b → g y = some b → x = y
def signsS : ByteArray := ⟨#[97, 98, 99, 100, 101, 102, 103, 104, 105, 106, 107, 108, 109, 110, 111, 112, 113, 114, 115, 116, 117, 118, 119, 120, 121, 122, 48, 49, 50, 51, 52, 53, 54, 55, 56, 57, 46, 95, 45]⟩
theorem signs_ascii : ∀ (j : Nat) b, signsS.data.toList[j]? = some b → b.toNat < 128 := by
  intro j b hj
  have h : signsS.data.toList.all (fun b => decide (b.toNat < 128)) = true := by decide
  exact of_decide_eq_true (List.all_eq_true.1 h b (List.mem_of_getElem? hj))
def nameB (s : ByteArray) : Bool := !decide (s = ⟨#[]⟩) && (decide (s.size ≤ 80) && (bl s).all (bl signsS).contains)
structure DiskOk (D : DiskC) (m : Nat) : Prop where
  room : D.room ≤ 16777216
  made : D.made = D.files.length
  nums : ∀ i (h : i < D.files.length), D.files[i].num = i + 1
  lasts : ∀ f ∈ D.files, f.lasts ≤ f.data.length
  len : ∀ f ∈ D.files, f.data.length ≤ 16777216
  all : appAll D.last D.waits = D.dir
  inj : ∀ n, n ≤ D.waits.length → InjD (appAll D.last (D.waits.take n))
  has : ∀ n, n ≤ D.waits.length → ∀ x b, appAll D.last (D.waits.take n) x = some b → ∃ f ∈ D.files, f.b = b
  small : ∀ c ∈ D.waits, c.small
  dn : D.dn ≤ m
  ln : D.ln ≤ m
  wn : D.waits.length ≤ m
  fn : D.files.length ≤ m
  fuseLo : -(m : Int) ≤ D.fuse
  fuseHi : D.fuse ≤ 9223372036854775807
  nm : ∀ n, n ≤ D.waits.length → ∀ x b, appAll D.last (D.waits.take n) x = some b → nameB (sof x) = true
theorem DiskOk.hasD {D : DiskC} {m : Nat} (h : DiskOk D m) {x : List UInt8} {b : Nat} (hx : D.dir x = some b) : ∃ f ∈ D.files, f.b = b := by
  refine h.has D.waits.length (Nat.le_refl _) x b ?_
  rw [List.take_length, h.all]
  exact hx
theorem DiskOk.nmD {D : DiskC} {m : Nat} (h : DiskOk D m) {x : List UInt8} {b : Nat} (hx : D.dir x = some b) : nameB (sof x) = true := by
  refine h.nm D.waits.length (Nat.le_refl _) x b ?_
  rw [List.take_length, h.all]
  exact hx
theorem DiskOk.injD {D : DiskC} {m : Nat} (h : DiskOk D m) : InjD D.dir := by
  have := h.inj D.waits.length (Nat.le_refl _)
  rwa [List.take_length, h.all] at this
theorem DiskOk.mono {D : DiskC} {m n : Nat} (h : DiskOk D m) (hn : m ≤ n) : DiskOk D n :=
  ⟨h.room, h.made, h.nums, h.lasts, h.len, h.all, h.inj, h.has, h.small, Nat.le_trans h.dn hn, Nat.le_trans h.ln hn, Nat.le_trans h.wn hn, Nat.le_trans h.fn hn, by have := h.fuseLo; omega, h.fuseHi, h.nm⟩
theorem nameB_size {s : ByteArray} (h : nameB s = true) : s.size ≤ 80 := by
  simp only [nameB, Bool.and_eq_true, decide_eq_true_eq] at h
  exact h.2.1
def liveE (off : Bool) (ss : List ByteArray) : Int := if off then 183 else if ss.all nameB then 0 else 182
def strV (s : ByteArray) : Value := .string s
theorem strV_at {w : World} {a : Option Addr} {ss : List ByteArray} (h : Rd w a (ss.map strV)) {i : Nat} (hi : i < ss.length) : ∃ p, a = some p ∧ w.cell? (p.add (i * 1)) = some (.string ss[i]) := by
  obtain ⟨p, hp, hc⟩ := h i (strV ss[i]) (by simp [hi])
  exact ⟨p, hp, by rw [Nat.mul_one]; exact hc⟩
theorem live_ok {w : World} {d : Nat} {off : Bool} (hd : w.cell? ⟨d, 5, none⟩ = some (.bool off)) {a : Option Addr} {c : Nat} (ss : List ByteArray) (hl : Rd w a (ss.map strV)) (hn : ss.length ≤ 1000) (hz : ∀ s ∈ ss, s.size ≤ 9223372036854775807) :
    Calls Tryz.prog f.disk_Disk_live #[ptrV d, .slice a ss.length c] w (Ret fun v w' => v = .int .i64 (liveE off ss) ∧ Below w.heap.size w w') := by
  apply R.disk_Disk_live_calls
  unfold R.disk_Disk_live
  refine IFB_false ⟨_, hd, ?_⟩
  cases off with
  | true => exact IFB_true ⟨rfl, .refl _ _⟩
  | false =>
    refine IFB_false ?_
    have eE : ∀ b : Bool, ss.all nameB = b → liveE false ss = if b then 0 else 182 := fun b h => by unfold liveE; rw [h]; rfl
    refine ⟨fun st w1 => ∃ i : Nat, st = [.int .i64 (i : Int)] ∧ i ≤ ss.length ∧ Below w.heap.size w w1 ∧ (ss.take i).all nameB = true, fun st _ => match st with
      | [.int _ i] => ss.length - i.toNat
      | _ => 0, ⟨0, rfl, by omega, .refl _ _, by simp⟩, ?_⟩
    rintro _ w1 ⟨i, hst, hi, B1, hall⟩
    cases hst
    refine IFB_dec (fun hlt => ⟨⟨by omega, hlt⟩, ?_⟩) (fun hge => ⟨?_, B1⟩)
    · have hil : i < ss.length := by omega
      obtain ⟨p, rfl, hp⟩ := strV_at (hl.grown B1) hil
      have hsz := hz _ (List.getElem_mem hil)
      have no : nameB ss[i] = false → ∀ {wx : World}, Below w.heap.size w wx → Value.int .i64 182 = .int .i64 (liveE false ss) ∧ Below w.heap.size w wx := fun h wx B => by
        rw [eE false (List.all_eq_false.2 ⟨_, List.getElem_mem hil, by simp [h]⟩)]
        exact ⟨rfl, B⟩
      refine ⟨_, by rw [Int.toNat_natCast]; exact hp, ?_⟩
      rw [bytesEq_iff]
      refine IFB_dec (fun h => no (by simp [nameB, h]) B1) (fun h0 => IFB_dec (fun h => no ?_ B1) (fun h1 => (strings_Trim_ok ss[i] signsS hsz (by decide) (by decide) signs_ascii w1).mono ?_))
      · have : ¬ ss[i].size ≤ 80 := by omega
        simp [nameB, this]
      rintro _ w2 ⟨_, rfl, q, rfl, hq, B2⟩
      have B2 := below_trans B1 B2
      refine ⟨_, rfl, ?_⟩
      rw [bytesEq_iff]
      refine IFB_not (IFB_dec (fun h => ?_) (fun h => no ?_ B2))
      · have hq' := hq.1 h
        rw [wrap_succ (by omega)]
        refine ⟨⟨i + 1, rfl, by omega, B2, ?_⟩, by simp only [Int.toNat_natCast]; omega⟩
        rw [List.take_succ_eq_append_getElem hil, List.all_append, hall, Bool.true_and]
        have h1' : ss[i].size ≤ 80 := by omega
        simp [nameB, h0, h1', hq']
      · have : (bl ss[i]).all (bl signsS).contains = false := by
          cases hh : (bl ss[i]).all (bl signsS).contains with
          | false => rfl
          | true => exact absurd (hq.2 hh) h
        simp [nameB, this]
    · rw [List.take_of_length_le (by omega)] at hall
      rw [eE true hall]
      rfl
theorem und_names : Tryz.prog.underlying ty.disk_names = some (.map ty.string ty.P_disk_file) := by kernel_rfl
theorem zeroPtr (w : World) : (zeroValue ty.P_disk_file).run Tryz.prog w = .ok (.pointer none) w := by
  have h : (Tryz.prog.info? ty.P_disk_file).bind (·.zero) = some (.pointer none) := by kernel_rfl
  cases hi : Tryz.prog.info? ty.P_disk_file with
  | none => rw [hi] at h; cases h
  | some i =>
    rw [hi] at h
    have hz : i.zero = some (.pointer none) := h
    simp [zeroValue, typeInfo, hi, hz]
theorem tWaits : slT Tryz.prog ty.L_func_disk_names = some (tyFn, 1, 8, .nilFunc) := by kernel_rfl
theorem max80 {n : Nat} (h : n ≤ 80) : n ≤ maxLen := Nat.le_trans h (by decide)
theorem dkE_perm (D : DiskC) (X E : List It) : (dkE D (X ++ E)).Perm (X ++ dkE D E) := by
  have h : ∀ A : List It, (A ++ (X ++ E)).Perm (X ++ (A ++ E)) := fun A => List.perm_append_comm_assoc A X E
  have e : ∀ E, dkE D E = ([It.cells D.b D.cells ty.disk_Disk, dirI D.db D.dn D.dir, dirI D.lb D.ln D.last, It.row tyFn 1 D.wa D.waits.length D.wc (D.waits.map ChgC.val)] ++ (D.waits.flatMap ChgC.its ++ D.files.flatMap FileC.its)) ++ E := fun E => by simp [dkE]
  rw [e, e]
  exact h _
theorem dkE_sub (D : DiskC) (X E : List It) : (dkE D E).Sublist (dkE D (X ++ E)) := by
  unfold dkE
  refine (((List.Sublist.append_left (List.Sublist.append_left (List.sublist_append_right X E) _) _).cons_cons _).cons_cons _).cons_cons _ |>.cons_cons _
theorem dkE_file (D : DiskC) (f : FileC) (E : List It) : dkE D (f.its ++ E) = dkE { D with files := D.files ++ [f] } E := by
  unfold dkE DiskC.cells
  simp
theorem dkE_wait (D : DiskC) (c : ChgC) (E : List It) {wa : Option Addr} {wc : Nat} : (It.cells D.b { D with waits := D.waits ++ [c], wa := wa, wc := wc }.cells ty.disk_Disk :: dirI D.db D.dn D.dir :: dirI D.lb D.ln D.last :: It.row tyFn 1 wa (D.waits ++ [c]).length wc ((D.waits ++ [c]).map ChgC.val) :: (D.waits.flatMap ChgC.its ++ (D.files.flatMap FileC.its ++ (c.its ++ E)))).Perm (dkE { D with waits := D.waits ++ [c], wa := wa, wc := wc } E) := by
  unfold dkE
  refine (((List.Perm.cons _ (List.Perm.cons _ (List.Perm.cons _ (List.Perm.cons _ ?_)))))) 
  simp only [List.flatMap_append, List.flatMap_cons, List.flatMap_nil, List.append_nil, List.append_assoc]
  exact List.Perm.append_left _ (List.perm_append_comm_assoc _ _ _)
def namedE (D : DiskC) (s : ByteArray) : Option Nat × Int := if liveE D.off [s] ≠ 0 then (none, liveE D.off [s]) else match D.dir (bl s) with
  | none => (none, 180)
  | some b => (some b, 0)
theorem live1 {off : Bool} {s : ByteArray} (h : liveE off [s] = 0) : off = false ∧ nameB s = true := by
  unfold liveE at h
  cases off with
  | true => simp at h
  | false =>
    refine ⟨rfl, ?_⟩
    cases hb : nameB s with
    | true => rfl
    | false => simp [hb] at h
theorem c8 {D : DiskC} {n : Nat} (h : n < 8) : 0 + n < D.cells.size := by rw [Nat.zero_add]; exact h
section
variable {w0 w : World} {D : DiskC} {E H : List It}
theorem named_ok (S : ST w0 w (dkE D E)) (s : ByteArray) (hs : s.size ≤ 9223372036854775807) :
    Calls Tryz.prog f.disk_Disk_named #[ptrV D.b, .string s] w (Ret fun v w' => v = .tuple #[ptrO (namedE D s).1, .int .i64 (namedE D s).2] ∧ ST w0 w' (dkE D E)) := by
  apply R.disk_Disk_named_calls
  unfold R.disk_Disk_named
  refine S.newB fun b3 w1 _ _ S1 => ?_
  have hc5 : w1.cell? ⟨D.b, 5, none⟩ = some (.bool D.off) := S1.cell 1 rfl rfl
  have hr : Rd w1 (some ⟨b3, 0, none⟩) ([s].map strV) := S1.rdc 0 rfl
  refine (live_ok hc5 [s] hr (by simp) (by simpa using hs)).mono ?_
  rintro _ w2 ⟨_, rfl, rfl, B2⟩
  have S2 := S1.grown B2
  have SD : ST w0 w2 (dkE D E) := S2.drop 1
  refine ⟨_, rfl, IFB_ne (fun h => ⟨by simp only [namedE, if_pos h]; rfl, SD⟩) (fun h => ?_)⟩
  have hn := (live1 h).2
  have hE : namedE D s = match D.dir (bl s) with
      | none => (none, 180)
      | some b => (some b, 0) := by simp only [namedE, h, ne_eq, not_true, if_false]
  refine ⟨_, SD.cell 0 rfl rfl, SD.mget 1 rfl und_str und_names (zeroPtr _) (max80 (nameB_size hn)) ⟨_, rfl, ?_⟩⟩
  rw [hE]
  cases hd : D.dir (bl s) with
  | none => exact IFB_true ⟨rfl, SD⟩
  | some b => exact IFB_false ⟨rfl, SD⟩
theorem change_ok (S : ST w0 w (dkE D E)) (h1 : -9223372036854775808 < D.fuse) (h2 : D.fuse ≤ 9223372036854775807) :
    Calls Tryz.prog f.disk_Disk_change #[ptrV D.b] w (Ret fun v w' => (D.fused = true ∧ D.fuse = 0 ∧ v = .int .i64 183 ∧ ST w0 w' (dkE { D with off := true } E)) ∨ (¬ (D.fused = true ∧ D.fuse = 0) ∧ v = .int .i64 0 ∧ ST w0 w' (dkE { D with fuse := D.fuse - 1 } E))) := by
  apply R.disk_Disk_change_calls
  unfold R.disk_Disk_change
  refine ⟨fun st w1 => st = [] ∧ w1 = w ∧ ¬ (D.fused = true ∧ D.fuse = 0), ⟨_, S.cell 0 rfl rfl, IFB_of (fun hf => ⟨_, S.cell 0 rfl rfl, IFB_eq (fun h0 => ?_) (fun h0 => ⟨rfl, rfl, fun h => h0 h.2⟩)⟩) (fun hf => ⟨rfl, rfl, fun h => by rw [h.1] at hf; cases hf⟩)⟩, ?_⟩
  · exact S.sto 0 rfl (cs' := DiskC.cells { D with off := true }) (c8 (by decide)) rfl fun w1 S1 => .inl ⟨hf, h0, rfl, S1⟩
  · rintro w1 ⟨_, rfl, hno⟩
    refine ⟨_, S.cell 0 rfl rfl, ?_⟩
    rw [wrap_i64 (by omega) (by omega)]
    exact S.sto 0 rfl (cs' := DiskC.cells { D with fuse := D.fuse - 1 }) (c8 (by decide)) rfl fun w2 S2 => .inr ⟨hno, rfl, S2⟩
theorem chg_ok (c : ChgC) (S : ST w0 w H) {i m n : Nat} {g : DirA} (hi : H[i]? = some (dirI m n g)) (hb : ∀ x ∈ c.its, ∃ k, k ≠ i ∧ H[k]? = some x) (hn : n + 1 < 1000000) (hz : c.small) :
    Calls Tryz.prog c.fn ⟨[.map (some m)] ++ c.caps⟩ w (Ret fun v w' => v = .tuple #[] ∧ ST w0 w' (H.set i (dirI m (n + 1) (c.app g)))) := by
  have hml : n < maxLen := Nat.lt_of_lt_of_le (by omega : n < 1000000) (by decide)
  have hil := (List.getElem?_eq_some_iff.1 hi).1
  cases c with
  | create b1 b2 s fb =>
    obtain ⟨k1, hk1, h1⟩ := hb (It.cells b1 #[ptrV fb] ty.P_disk_file) (by simp [ChgC.its])
    obtain ⟨k2, hk2, h2⟩ := hb (It.cells b2 #[.string s] ty.string) (by simp [ChgC.its])
    show Calls Tryz.prog f.disk_Disk_Create_c1 #[.map (some m), ptrV b1, ptrV b2] w _
    apply R.disk_Disk_Create_c1_calls
    unfold R.disk_Disk_Create_c1
    exact ⟨_, S.cell k2 h2 rfl, _, S.cell k1 h1 rfl, S.mput i hi und_str und_names hml (max80 hz) fun w' S' => ⟨rfl, S'⟩⟩
  | rename b1 b2 b3 o s fb =>
    obtain ⟨k1, hk1, h1⟩ := hb (It.cells b1 #[.string o] ty.string) (by simp [ChgC.its])
    obtain ⟨k2, hk2, h2⟩ := hb (It.cells b2 #[ptrV fb] ty.P_disk_file) (by simp [ChgC.its])
    obtain ⟨k3, hk3, h3⟩ := hb (It.cells b3 #[.string s] ty.string) (by simp [ChgC.its])
    show Calls Tryz.prog f.disk_Disk_Rename_c1 #[.map (some m), ptrV b1, ptrV b2, ptrV b3] w _
    apply R.disk_Disk_Rename_c1_calls
    unfold R.disk_Disk_Rename_c1
    refine ⟨_, S.cell k1 h1 rfl, S.mdel i hi und_str und_names (max80 hz.1) fun w1 S1 => ⟨rfl, ?_⟩⟩
    have g2 := h2; have g3 := h3
    rw [← List.getElem?_set_ne (Ne.symm hk2) (a := dirI m n (fun y => if y = bl o then none else g y))] at g2
    rw [← List.getElem?_set_ne (Ne.symm hk3) (a := dirI m n (fun y => if y = bl o then none else g y))] at g3
    refine ⟨_, S1.cell k3 g3 rfl, _, S1.cell k2 g2 rfl, S1.mput i (List.getElem?_set_self hil) und_str und_names hml (max80 hz.2) fun w2 S2 => ⟨rfl, ?_⟩⟩
    rw [List.set_set] at S2
    exact S2
  | remove b1 s =>
    obtain ⟨k1, hk1, h1⟩ := hb (It.cells b1 #[.string s] ty.string) (by simp [ChgC.its])
    show Calls Tryz.prog f.disk_Disk_Remove_c1 #[.map (some m), ptrV b1] w _
    apply R.disk_Disk_Remove_c1_calls
    unfold R.disk_Disk_Remove_c1
    refine ⟨_, S.cell k1 h1 rfl, S.mdel i hi und_str und_names (max80 hz) fun w1 S1 => ⟨rfl, rfl, ?_⟩⟩
    have hm : MapP Tryz.prog ty.string w1 m n _ := S1.get i (List.getElem?_set_self hil)
    have S2 := S1.chg i (List.getElem?_set_self hil) (.refl _ _) (dirI m (n + 1) _) (hm.mono (Nat.le_succ n)) (fun k hk => .inl hk)
    rw [List.set_set] at S2
    exact S2
theorem chg_enters (c : ChgC) : enters Tryz.prog c.fn = true := by cases c <;> kernel_rfl
theorem turn_ok (c : ChgC) (S : ST w0 w (dkE D (c.its ++ E))) (h1 : -9223372036854775808 < D.fuse) (h2 : D.fuse ≤ 9223372036854775807) (hn : D.dn + 1 < 1000000) (hw : D.waits.length + 1 < 1000000) (hz : c.small) :
    Calls Tryz.prog f.disk_Disk_turn #[ptrV D.b, c.val] w (Ret fun v w' => (D.fused = true ∧ D.fuse = 0 ∧ v = .int .i64 183 ∧ ST w0 w' (dkE { D with off := true } (c.its ++ E))) ∨
      (¬ (D.fused = true ∧ D.fuse = 0) ∧ v = .int .i64 0 ∧ ∃ wa wc, ST w0 w' (dkE { D with fuse := D.fuse - 1, dir := c.app D.dir, dn := D.dn + 1, waits := D.waits ++ [c], wa := wa, wc := wc } E))) := by
  apply R.disk_Disk_turn_calls
  unfold R.disk_Disk_turn
  refine (change_ok S h1 h2).mono ?_
  rintro _ w1 ⟨_, rfl, ⟨hf, h0, rfl, S1⟩ | ⟨hno, rfl, S1⟩⟩
  · exact ⟨_, rfl, IFB_ne (fun _ => .inl ⟨hf, h0, rfl, S1⟩) (fun h => absurd h (by decide))⟩
  refine ⟨_, rfl, IFB_ne (fun h => absurd rfl h) (fun _ => ⟨_, S1.cell 0 rfl rfl, ?_⟩)⟩
  rw [chg_enters c]
  have hbx : ∀ x ∈ c.its, ∃ k, k ≠ 1 ∧ (dkE { D with fuse := D.fuse - 1 } (c.its ++ E))[k]? = some x := fun x hx => by
    have hm : x ∈ D.waits.flatMap ChgC.its ++ (D.files.flatMap FileC.its ++ (c.its ++ E)) := List.mem_append_right _ (List.mem_append_right _ (List.mem_append_left _ hx))
    obtain ⟨k, hk⟩ := List.mem_iff_getElem?.1 hm
    exact ⟨k + 4, by omega, hk⟩
  refine (chg_ok c S1 (i := 1) rfl hbx hn hz).mono ?_
  rintro _ w2 ⟨_, rfl, rfl, S2⟩
  have S2 : ST w0 w2 (dkE { D with fuse := D.fuse - 1, dir := c.app D.dir, dn := D.dn + 1 } (c.its ++ E)) := S2
  refine ⟨rfl, _, _, _, S2.cell 0 rfl rfl, S2.newB fun b10 w3 _ _ S3 => ?_⟩
  have hs : Rd w3 (some ⟨b10, 0, none⟩) [c.val] := S3.rdc 0 rfl
  refine S3.app 4 rfl tWaits rfl (by omega) (by omega) hs (mm := 1) rfl (by simp [ChgC.val]; rfl) (by show (D.waits.length + 1) * 8 ≤ 140737488355328; omega) fun wa wc w4 S4 => ⟨_, _, _, rfl, ?_⟩
  have S4 : ST w0 w4 (It.cells D.b { D with fuse := D.fuse - 1, dir := c.app D.dir, dn := D.dn + 1 }.cells ty.disk_Disk :: dirI D.db (D.dn + 1) (c.app D.dir) :: dirI D.lb D.ln D.last :: It.row tyFn 1 wa (D.waits.length + 1) wc (D.waits.map ChgC.val ++ [c.val]) :: (D.waits.flatMap ChgC.its ++ (D.files.flatMap FileC.its ++ (c.its ++ E)))) := S4.drop 1
  have el : (D.waits ++ [c]).length = D.waits.length + 1 := by simp
  have em : D.waits.map ChgC.val ++ [c.val] = (D.waits ++ [c]).map ChgC.val := by simp
  rw [em, ← el] at S4
  refine S4.sto 0 rfl (cs' := DiskC.cells { D with fuse := D.fuse - 1, dir := c.app D.dir, dn := D.dn + 1, waits := D.waits ++ [c], wa := wa, wc := wc }) (c8 (by decide)) ?_ fun w5 S5 => .inr ⟨hno, rfl, wa, wc, ?_⟩
  · simp [DiskC.cells]
  · exact S5.perm (dkE_wait { D with fuse := D.fuse - 1, dir := c.app D.dir, dn := D.dn + 1 } c E)
end
end Go.Proofs.YtfgbfodohmeamaaGreatDoor
namespace Go.Dn
set_option maxRecDepth 100000
set_option linter.unusedVariables false
open Go.RowKit (Below)
open Go.Maps (has Tidy Keyed)
open Go.ChangeMaps Go.MapKept Go.WideShapes
section
variable {P : Program} {k e t : TypeId} {w : World} {b n : Nat} {g : List UInt8 → Option Nat}
theorem rangeLeft_same {w w' : World} {b r : Nat} (h1 : w'.heap[b]? = w.heap[b]?) (h2 : w'.heap[r]? = w.heap[r]?) : w'.rangeLeft b r = w.rangeLeft b r := by
  simp only [World.rangeLeft, h1, h2]
theorem RanP.round {r : Nat} {ks : List (List UInt8)} (h : RanP P k w b r n g ks) (hk : P.underlying k = some .string) (ty : TypeId) {f0 : World → Prop} {f1 : Value → Value → World → Prop}
    (h0 : ks = [] → f0 w) (h1 : ∀ x c w', x ∈ ks → g x = some c → x.length ≤ maxLen → Keeps (· = r) w w' → RanP P k w' b r n g (ks.erase x) → w'.rangeLeft b r < w.rangeLeft b r →
      (Instr.entry (.pointer (some ⟨r, 0, none⟩))).run P w' = .ok (.tuple #[.string (sof x), ptrV c]) w' → f1 (.string (sof x)) (ptrV c) w') :
    OPN P (Instr.next (.pointer (some ⟨r, 0, none⟩)) false ty) f0 f1 w := by
  obtain ⟨D, left, cnt, hR, hT, hg, hnd, hmem, hok⟩ := h
  unfold OPN
  rcases hR.next (Maps.string_keyed hk) ty with ⟨_, hl, hrun⟩ | ⟨key, v, kl, y, w', cnt', hkey, hlk, hRv, hat, hrun, hR', hcnt, hgr, hsz, hent⟩
  · rw [hrun]
    refine .inl ⟨rfl, h0 (List.eq_nil_iff_forall_not_mem.2 fun x hx => ?_)⟩
    rw [hmem, hl] at hx
    cases hx
  · obtain ⟨x, hx1, rfl, hx3⟩ := Maps.keyOf_str hk hkey
    obtain ⟨o, rfl, ho⟩ := ptrE_inv hRv
    have hxk : x ∈ ks := (hmem x).2 hlk
    have h2 := (hg x).2
    rw [hat, ho] at h2
    obtain rfl := lit_ptr h2
    have e1 : key = .string (sof x) := hx1
    obtain ⟨hs, hlen⟩ := hok x hxk
    obtain ⟨c, hc⟩ := Option.isSome_iff_exists.1 hs
    have ep : ptrO (g x) = ptrV c := by rw [hc]; rfl
    rw [e1, ep] at hent
    rw [hrun, e1, ep]
    refine .inr ⟨_, _, rfl, h1 x c w' hxk hc hlen (.of_grownBy hgr) ⟨D, _, cnt', hR', hT, hg, hnd.erase x, fun z => ?_, fun z hz => hok z (List.mem_of_mem_erase hz)⟩ (by rw [hR.left_eq, hR'.left_eq]; exact hcnt) hent⟩
    rw [hnd.mem_erase_iff, hmem]
    simp only [Bool.and_eq_true, Bool.not_eq_true', Lit.sameKey, beq_eq_false_iff_ne, ne_eq]
    exact and_comm
end
def It.own (b : Nat) : It where
  blk := some b
  ok := fun w => b < w.heap.size
  st := fun w w' h h0 => by
    obtain ⟨o, ho⟩ : ∃ o, w.heap[b]? = some o := ⟨_, Array.getElem?_eq_getElem h0⟩
    exact (Array.getElem?_eq_some_iff.1 ((h b rfl).trans ho)).1
  lt := fun w h k hk => by cases hk; exact h
section
variable {P : Program} {k e t : TypeId} {w0 w : World} {H : List It} {b n : Nat} {g : List UInt8 → Option Nat}
theorem ST.freeze (S : ST w0 w H) (i : Nat) {x : It} (hi : H[i]? = some x) (hx : x.blk = some b) {o : Obj} (ho : w.heap[b]? = some o) : ST w0 w (H.set i (It.obj b o)) :=
  S.chg i hi (.refl _ _) (It.obj b o) ho (fun k hk => .inl (by cases hk; exact hx))
theorem ST.mrange (S : ST w0 w H) (i : Nat) (hi : H[i]? = some (It.mapP P k b n g)) (hk : P.underlying k = some .string) (ht : P.underlying t = some (.map k e)) {f : Value → World → Prop}
    (hf : ∀ r w' ks, RanP P k w' b r n g ks → (∀ x, x ∈ ks ↔ (g x).isSome = true) → ks.Nodup → ks.length ≤ n → ST w0 w' (It.own r :: H) → f (.pointer (some ⟨r, 0, none⟩)) w') : OPR P (Instr.range t (.map (some b))) f w := by
  refine MapP.range (S.get i hi) hk ht fun r w' ks hr B hR hm hl => hf r w' ks hR hm ?_ hl (S.add B (It.own r) hR.lt.1 (fun k hk => by cases hk; exact hr))
  obtain ⟨_, _, _, _, _, _, h, _⟩ := hR
  exact h
theorem ST.ranged {r : Nat} (S : ST w0 w (It.own r :: H)) {w' : World} (K : Keeps (· = r) w w') (hr : r < w'.heap.size) : ST w0 w' (It.own r :: H) :=
  S.chg 0 rfl (K.mono fun k _ h => by subst h; rfl) (It.own r) hr (fun k hk => .inl hk)
theorem ST.eput (S : ST w0 w H) (i : Nat) (hi : H[i]? = some (It.mapP P k b n g)) (hk : P.underlying k = some .string) (ht : P.underlying t = some (.map k e)) (hz : ∀ u : World, (zeroValue e).run P u = .ok (.pointer none) u) (hn : n < maxLen) {s : ByteArray} (hs : s.size ≤ maxLen) (c : Nat)
    {f : Value → World → Prop}
    (hf : ∀ v0 (st : Nat) w1 o1, ST w0 w1 (H.set i (It.obj b o1)) → (∀ w2 H2 j (f2 : World → Prop), ST w0 w2 H2 → H2[j]? = some (It.obj b o1) → (∀ w3, ST w0 w3 (H2.set j (It.mapP P k b (n + 1) (fun y => if y = bl s then some c else g y))) → f2 w3) →
      OPU P (Instr.entryStore t (.map (some b)) (.int .i64 (st : Int)) (ptrV c)) f2 w2) → f (.tuple #[v0, .int .i64 (st : Int)]) w1) : OPR P (Instr.mapEntry t (.map (some b)) (.string s)) f w := by
  have hM : MapP P k w b n g := S.get i hi
  obtain ⟨D, ⟨es, clock, hb, F, hsz, hD⟩, hT, hg⟩ := hM
  have hkey : keyOf P k (.string s) = some (.string (bl s)) := by simp [keyOf, hk, mapKey, hs, bl]
  obtain ⟨v0, st, es1, clock1, hrun, _, h2⟩ := WideElems.entry_then_store (WideMaps.string_law hk) ht hz hb F hkey
  unfold OPR
  rw [hrun]
  have K : ∀ {u : World} {q : Array MapEntry} {cl : Nat} {o' : Obj}, u.heap[b]? = some (.map q cl) → Keeps (fun k => (some b : Option Nat) = some k) u (setBlock u b o') := fun {u q cl o'} hu =>
    ⟨rfl, rfl, rfl, by simp [setBlock], fun k _ hk => heap_setBlock_other hu _ (fun e => hk (by rw [e]))⟩
  refine hf v0 st _ (.map es1 clock1) (S.chg i hi (K hb) (It.obj b (.map es1 clock1)) (heap_setBlock_same hb _) (fun k hk => .inl hk)) fun w2 H2 j f2 S2 hj hf2 => ?_
  have hb2 : w2.heap[b]? = some (.map es1 clock1) := S2.get j hj
  obtain ⟨es', clock', hst, hup⟩ := h2 w2 (ptrV c) hb2
  have hput : MapP P k (setBlock w b (.map es' clock')) b (n + 1) (fun y => if y = bl s then some c else g y) := by
    have hq := MapP.put (P := P) (o := some c) (f := fun w' => MapP P k w' b (n + 1) (fun y => if y = bl s then some c else g y)) ⟨D, ⟨es, clock, hb, F, hsz, hD⟩, hT, hg⟩ hk ht hn hs rfl (fun w' _ h => h)
    unfold OPU at hq
    rw [show (ptrO (some c)) = ptrV c from rfl, hup] at hq
    exact hq
  have hst : (Instr.entryStore t (.map (some b)) (.int .i64 (st : Int)) (ptrV c)).run P w2 = .ok () (setBlock w2 b (.map es' clock')) := hst
  unfold OPU
  rw [hst]
  refine hf2 _ (S2.chg j hj (K hb2) (It.mapP P k b (n + 1) _) ?_ (fun k hk => .inl hk))
  exact hput.same ((heap_setBlock_same hb2 _).trans (heap_setBlock_same hb _).symm)
end
end Go.Dn
namespace Go.Proofs.YtfgbfodohmeamaaGreatDoor
set_option maxRecDepth 100000
open Go.Dn Go.Proofs
open Go.RowKit (Below)
set_option linter.unusedVariables false
def dkH (D : DiskC) : List It := [It.cells D.b D.cells ty.disk_Disk, dirI D.db D.dn D.dir, dirI D.lb D.ln D.last, It.row tyFn 1 D.wa D.waits.length D.wc (D.waits.map ChgC.val)] ++ D.waits.flatMap ChgC.its
theorem dkE_eq (D : DiskC) (E : List It) : dkE D E = dkH D ++ (D.files.flatMap FileC.its ++ E) := by simp [dkE, dkH]
theorem dkE_pick {D : DiskC} {pre post : List FileC} {f : FileC} (h : D.files = pre ++ f :: post) (E : List It) : (dkE D E).Perm (f.its ++ dkE { D with files := pre ++ post } E) := by
  rw [dkE_eq, dkE_eq, h]
  have e1 : dkH D ++ ((pre ++ f :: post).flatMap FileC.its ++ E) = (dkH D ++ pre.flatMap FileC.its) ++ (f.its ++ (post.flatMap FileC.its ++ E)) := by simp
  have e2 : dkH { D with files := pre ++ post } ++ ((pre ++ post).flatMap FileC.its ++ E) = (dkH D ++ pre.flatMap FileC.its) ++ (post.flatMap FileC.its ++ E) := by
    have : dkH { D with files := pre ++ post } = dkH D := rfl
    rw [this]
    simp
  show (dkH D ++ ((pre ++ f :: post).flatMap FileC.its ++ E)).Perm (f.its ++ (dkH { D with files := pre ++ post } ++ ((pre ++ post).flatMap FileC.its ++ E)))
  rw [e1, e2]
  exact List.perm_append_comm_assoc _ _ _
def disk0 (b room db lb : Nat) : DiskC := ⟨b, room, 0, db, 0, fun _ => none, lb, 0, fun _ => none, none, 0, [], false, false, 0, []⟩
theorem disk0_ok {b room db lb m : Nat} (h : room ≤ 16777216) : DiskOk (disk0 b room db lb) m where
  room := h
  made := rfl
  nums := fun i h => absurd h (by simp [disk0])
  lasts := fun f h => by simp [disk0] at h
  len := fun f h => by simp [disk0] at h
  all := rfl
  inj := fun n _ x y b h => by simp [disk0, appAll] at h
  has := fun n _ x b h => by simp [disk0, appAll] at h
  small := fun c h => by simp [disk0] at h
  dn := Nat.zero_le _
  ln := Nat.zero_le _
  wn := Nat.zero_le _
  fn := Nat.zero_le _
  fuseLo := by simp [disk0]
  fuseHi := by simp [disk0]
  nm := fun n _ x b h => by simp [disk0, appAll] at h
theorem made_run (w : World) : (Instr.makeMap ty.disk_names none).run Tryz.prog w = .ok (.map (some w.heap.size)) (w.alloc (.map #[] 0)) := by
  simp [Instr.makeMap, go_sem, Result.andThen]
section
variable {w0 w : World} {D : DiskC} {E H : List It} {m : Nat}
theorem new_ok (S : ST w0 w H) (room : Int) : Calls Tryz.prog f.disk_New #[.int .i64 room] w (Ret fun v w' => ((room < 0 ∨ room > 16777216) ∧ v = .tuple #[.pointer none, .int .i64 2] ∧ w' = w) ∨
    ((0 ≤ room ∧ room ≤ 16777216) ∧ ∃ b db lb, v = .tuple #[ptrV b, .int .i64 0] ∧ ST w0 w' (dkE (disk0 b room.toNat db lb) H))) := by
  apply R.disk_New_calls
  unfold R.disk_New
  refine IFB_dec (fun h => .inl ⟨.inl h, rfl, rfl⟩) (fun h1 => IFB_dec (fun h => .inl ⟨.inr h, rfl, rfl⟩) (fun h2 => ?_))
  refine S.newMap (k := ty.string) _ (fun db w1 S1 => ⟨_, rfl, ?_⟩) (made_run w)
  refine S1.newMap (k := ty.string) _ (fun lb w2 S2 => ⟨_, rfl, ?_⟩) (made_run w1)
  refine S2.newB fun b w3 _ _ S3 => .inr ⟨⟨by omega, by omega⟩, b, db, lb, rfl, ?_⟩
  have S4 : ST w0 w3 (It.row tyFn 1 none 0 0 [] :: It.cells b #[.int .i64 room, .int .i64 0, .map (some db), .map (some lb), .slice none 0 0, .bool false, .bool false, .int .i64 0] ty.disk_Disk :: dirI lb 0 (fun _ => none) :: dirI db 0 (fun _ => none) :: H) := S3.nil tyFn 1
  have S5 := S4.pull 2 rfl
  have S6 := S5.pull 3 rfl
  have S7 := S6.pull 3 rfl
  have e : ((room.toNat : Nat) : Int) = room := Int.toNat_of_nonneg (by omega)
  have : dkE (disk0 b room.toNat db lb) H = (It.cells b #[.int .i64 room, .int .i64 0, .map (some db), .map (some lb), .slice none 0 0, .bool false, .bool false, .int .i64 0] ty.disk_Disk :: dirI db 0 (fun _ => none) :: dirI lb 0 (fun _ => none) :: It.row tyFn 1 none 0 0 [] :: H) := by
    simp [dkE, disk0, DiskC.cells, e]
  rw [this]
  exact S7
theorem files_nd (S : ST w0 w (dkE D E)) : D.files.Pairwise (fun f g => f.b ≠ g.b) := by
  have h := S.nd
  rw [dkE_eq] at h
  have h := (List.pairwise_append.1 (List.pairwise_append.1 h).2.1).1
  have h := (List.pairwise_flatMap.1 h).2
  refine h.imp fun {f g} hfg e => ?_
  exact hfg (It.cells f.b f.cells ty.disk_file) (by simp [FileC.its]) (It.cells g.b g.cells ty.disk_file) (by simp [FileC.its]) f.b rfl (by rw [e]; rfl)
def blown (D : DiskC) : Prop := D.fused = true ∧ D.fuse = 0
def StepE (D : DiskC) (e : Int) (D' : DiskC) (pre : Int) (ok : DiskC → Prop) : Prop := (pre ≠ 0 ∧ e = pre ∧ D' = D) ∨ (pre = 0 ∧ blown D ∧ e = 183 ∧ D' = { D with off := true }) ∨ (pre = 0 ∧ ¬ blown D ∧ e = 0 ∧ ok D')
def CreateR (D : DiskC) (s : ByteArray) (e : Int) (D' : DiskC) : Prop := StepE D e D' (liveE D.off [s]) fun D' => ∃ b1 b2 b wa wc,
  D' = { D with made := D.made + 1, fuse := D.fuse - 1, dir := (ChgC.create b1 b2 s b).app D.dir, dn := D.dn + 1, waits := D.waits ++ [.create b1 b2 s b], wa := wa, wc := wc, files := D.files ++ [⟨b, D.made + 1, none, 0, [], 0⟩] }
theorem create_ok (S : ST w0 w (dkE D E)) (hD : DiskOk D m) (hm : m + 1 < 1000000) (s : ByteArray) (hs : s.size ≤ 9223372036854775807) :
    Calls Tryz.prog f.disk_Disk_Create #[ptrV D.b, .string s] w (Ret fun v w' => ∃ e D', v = .int .i64 e ∧ ST w0 w' (dkE D' E) ∧ CreateR D s e D') := by
  apply R.disk_Disk_Create_calls
  unfold R.disk_Disk_Create
  refine S.newB fun b3 w1 _ _ S1 => ⟨_, S1.cell 0 rfl rfl, S1.newB fun b5 w2 _ _ S2 => ?_⟩
  have hc5 : w2.cell? ⟨D.b, 5, none⟩ = some (.bool D.off) := S2.cell 2 rfl rfl
  have hr : Rd w2 (some ⟨b5, 0, none⟩) ([s].map strV) := S2.rdc 0 rfl
  refine (live_ok hc5 [s] hr (by simp) (by simpa using hs)).mono ?_
  rintro _ w3 ⟨_, rfl, rfl, B3⟩
  have S3 := (S2.grown B3).drop 1
  refine ⟨_, rfl, IFB_ne (fun h => ⟨_, D, rfl, S3.drop 1, .inl ⟨h, rfl, rfl⟩⟩) (fun h => ?_)⟩
  have hn := (live1 h).2
  have hmade : D.made + 1 < 2000000 := by have := hD.made; have := hD.fn; omega
  have ew : IntKind.i64.wrap ((D.made : Int) + 1) = ((D.made + 1 : Nat) : Int) := wrap_succ (by omega)
  refine ⟨_, S3.cell 1 rfl rfl, ?_⟩
  rw [ew]
  refine S3.newB fun b10 w4 _ _ S4 => S4.newB fun b11 w5 _ _ S5 => S5.sto 0 rfl (cs' := #[ptrV b10]) (by simp) rfl fun w6 S6 => ?_
  have S6 : ST w0 w6 (It.cells b11 #[ptrV b10] ty.P_disk_file :: It.cells b10 (FileC.cells ⟨b10, D.made + 1, none, 0, [], 0⟩) ty.disk_file :: It.cells b3 #[.string s] ty.string :: dkE D E) := S6
  have S7 := S6.nil ty.uint8 1
  have S8 := S7.pull 2 rfl
  have S9 := S8.pull 3 rfl
  have S10 := S9.pull 3 rfl
  have S11 : ST w0 w6 ((ChgC.create b11 b3 s b10).its ++ (FileC.its ⟨b10, D.made + 1, none, 0, [], 0⟩ ++ dkE D E)) := S10
  have S12 : ST w0 w6 (dkE D ((ChgC.create b11 b3 s b10).its ++ (FileC.its ⟨b10, D.made + 1, none, 0, [], 0⟩ ++ E))) := by
    refine S11.perm ?_
    refine (List.Perm.append_left _ (dkE_perm D _ E).symm).trans (dkE_perm D _ _).symm
  refine (turn_ok (.create b11 b3 s b10) S12 (by have := hD.fuseLo; omega) hD.fuseHi (by have := hD.dn; omega) (by have := hD.wn; omega) (nameB_size hn)).mono ?_
  rintro _ w7 ⟨_, rfl, ⟨hf, h0, rfl, S13⟩ | ⟨hno, rfl, wa, wc, S13⟩⟩
  · refine ⟨_, rfl, IFB_eq (fun h => absurd h (by decide)) (fun _ => ⟨_, _, rfl, ?_, .inr (.inl ⟨h, ⟨hf, h0⟩, rfl, rfl⟩)⟩)⟩
    have := S13.sub (dkE_sub _ _ _)
    exact this.sub (dkE_sub _ _ _)
  · refine ⟨_, rfl, IFB_eq (fun _ => ?_) (fun h => absurd rfl h)⟩
    refine ⟨_, S13.cell 0 rfl rfl, ?_⟩
    rw [ew, dkE_file] at *
    refine S13.sto 0 rfl (cs' := DiskC.cells { D with made := D.made + 1, fuse := D.fuse - 1, dir := (ChgC.create b11 b3 s b10).app D.dir, dn := D.dn + 1, waits := D.waits ++ [.create b11 b3 s b10], wa := wa, wc := wc, files := D.files ++ [⟨b10, D.made + 1, none, 0, [], 0⟩] }) (c8 (by decide)) rfl fun w8 S14 => ?_
    have S15 : ST w0 w8 (dkE { D with made := D.made + 1, fuse := D.fuse - 1, dir := (ChgC.create b11 b3 s b10).app D.dir, dn := D.dn + 1, waits := D.waits ++ [.create b11 b3 s b10], wa := wa, wc := wc, files := D.files ++ [⟨b10, D.made + 1, none, 0, [], 0⟩] } E) := S14
    exact ⟨_, _, rfl, S15, .inr (.inr ⟨h, fun hb => hno hb, rfl, b11, b3, b10, wa, wc, rfl⟩)⟩
end
structure Dom (g : DirA) (ks : List (List UInt8)) : Prop where
  nd : ks.Nodup
  mem : ∀ x, x ∈ ks ↔ (g x).isSome = true
theorem Dom.perm {g : DirA} {ks ls : List (List UInt8)} (h : Dom g ks) (h' : Dom g ls) : ks.Perm ls := (List.perm_ext_iff_of_nodup h.nd h'.nd).2 fun x => (h.mem x).trans (h'.mem x).symm
def fileD (D : DiskC) (b : Nat) : Option FileC := D.files.find? fun f => f.b == b
def dataD (D : DiskC) (x : List UInt8) : List UInt8 := match D.dir x with
  | none => []
  | some b => match fileD D b with
    | none => []
    | some f => f.data
def sumD (D : DiskC) (ks : List (List UInt8)) : Nat := (ks.map fun x => (dataD D x).length).sum
theorem sumD_perm (D : DiskC) {ks ls : List (List UInt8)} (h : ks.Perm ls) : sumD D ks = sumD D ls := (h.map _).sum_nat
theorem fileD_of {D : DiskC} {pre post : List FileC} {f : FileC} (nd : D.files.Pairwise (fun f g => f.b ≠ g.b)) (h : D.files = pre ++ f :: post) : fileD D f.b = some f := by
  unfold fileD
  rw [h] at nd ⊢
  have hp := (List.pairwise_append.1 nd).2.2
  rw [List.find?_append]
  have : pre.find? (fun g => g.b == f.b) = none := List.find?_eq_none.2 fun g hg => by
    have := hp g hg f (by simp)
    simpa using this
  simp [this]
theorem fileD_mem {D : DiskC} {b : Nat} {f : FileC} (h : fileD D b = some f) : f ∈ D.files ∧ f.b = b := by
  unfold fileD at h
  exact ⟨List.mem_of_find?_eq_some h, by simpa using List.find?_some h⟩
theorem fileD_some {D : DiskC} {b : Nat} (h : ∃ f ∈ D.files, f.b = b) : ∃ f, fileD D b = some f := by
  obtain ⟨f, hf, rfl⟩ := h
  cases hh : fileD D f.b with
  | some g => exact ⟨g, rfl⟩
  | none =>
    have := List.find?_eq_none.1 hh f hf
    simp at this
theorem dataD_of {D : DiskC} {x : List UInt8} {b : Nat} {f : FileC} (h1 : D.dir x = some b) (h2 : fileD D b = some f) : dataD D x = f.data := by simp only [dataD, h1, h2]
theorem dataD_le {D : DiskC} {m : Nat} (h : DiskOk D m) (x : List UInt8) : (dataD D x).length ≤ 16777216 := by
  unfold dataD
  split
  · simp
  · split
    · simp
    · next f hf => exact h.len f (fileD_mem hf).1
theorem sumD_le {D : DiskC} {m : Nat} (h : DiskOk D m) (ks : List (List UInt8)) : sumD D ks ≤ ks.length * 16777216 := by
  induction ks with
  | nil => simp [sumD]
  | cons x ks ih =>
    have := dataD_le h x
    simp only [sumD, List.map_cons, List.sum_cons, List.length_cons] at *
    omega
theorem sumD_cons (D : DiskC) (x : List UInt8) (ks : List (List UInt8)) : sumD D (x :: ks) = (dataD D x).length + sumD D ks := by simp [sumD]
theorem sumD_mem (D : DiskC) {x : List UInt8} {ks : List (List UInt8)} (h : x ∈ ks) : sumD D ks = (dataD D x).length + sumD D (ks.erase x) := by
  rw [sumD_perm D (List.perm_cons_erase h), sumD_cons]
open Classical in
noncomputable def leftD (D : DiskC) : Int := if h : ∃ ks, Dom D.dir ks then (D.room : Int) - (sumD D h.choose : Int) else 0
theorem leftD_eq {D : DiskC} {ks : List (List UInt8)} (h : Dom D.dir ks) : leftD D = (D.room : Int) - (sumD D ks : Int) := by
  have hx : ∃ ks, Dom D.dir ks := ⟨ks, h⟩
  rw [leftD, dif_pos hx, sumD_perm D (hx.choose_spec.perm h)]
section
variable {w0 w : World} {D : DiskC} {E H : List It} {m : Nat}
theorem pick_ok (S : ST w0 w (dkE D E)) {b : Nat} (hb : ∃ f ∈ D.files, f.b = b) : ∃ pre f post, D.files = pre ++ f :: post ∧ f.b = b ∧ fileD D b = some f ∧ ST w0 w (f.its ++ dkE { D with files := pre ++ post } E) := by
  obtain ⟨f, hf, rfl⟩ := hb
  obtain ⟨pre, post, hfs⟩ := List.append_of_mem hf
  exact ⟨pre, f, post, hfs, rfl, fileD_of (files_nd S) hfs, S.perm (dkE_pick hfs E)⟩
theorem unpick (pre post : List FileC) (f : FileC) (S : ST w0 w (f.its ++ dkE { D with files := pre ++ post } E)) : ST w0 w (dkE { D with files := pre ++ f :: post } E) :=
  S.perm (dkE_pick (D := { D with files := pre ++ f :: post }) rfl E).symm
theorem dkE_cells {i : Nat} {f : FileC} (S : ST w0 w (dkE D E)) (hf : f ∈ D.files) : w.heap[f.b]? = some (.cells f.cells ty.disk_file (0, 0)) := by
  refine S.ok (It.cells f.b f.cells ty.disk_file) ?_
  rw [dkE_eq]
  exact List.mem_append_right _ (List.mem_append_left _ (List.mem_flatMap.2 ⟨f, hf, by simp [FileC.its]⟩))
theorem left_ok (S : ST w0 w (dkE D E)) (hD : DiskOk D m) (hm : m ≤ 1000000) :
    Calls Tryz.prog f.disk_Disk_Left #[ptrV D.b] w (Ret fun v w' => v = .int .i64 (leftD D) ∧ (∃ ks, Dom D.dir ks ∧ ks.length ≤ m) ∧ ST w0 w' (dkE D E)) := by
  apply R.disk_Disk_Left_calls
  unfold R.disk_Disk_Left
  refine IFB_false ⟨_, S.cell 0 rfl rfl, _, S.cell 0 rfl rfl, ?_⟩
  refine S.mrange 1 rfl und_str und_names fun r w1 ks hR hmem hnd hlen S1 => ⟨_, rfl, ?_⟩
  have hlen : ks.length ≤ m := Nat.le_trans hlen hD.dn
  have hdom : Dom D.dir ks := ⟨hnd, hmem⟩
  have hroom := hD.room
  have hsum := sumD_le hD ks
  refine ⟨fun st w2 => ∃ ls, RanP Tryz.prog ty.string w2 D.db r D.dn D.dir ls ∧ sumD D ls ≤ sumD D ks ∧ st = [.int .i64 ((D.room : Int) - (sumD D ks : Int) + (sumD D ls : Int))] ∧ ST w0 w2 (It.own r :: dkE D E), fun _ w2 => w2.rangeLeft D.db r,
    ⟨ks, hR, Nat.le_refl _, by congr 2; omega, S1⟩, ?_⟩
  rintro _ w2 ⟨ls, hR2, hle, hst, S2⟩
  cases hst
  refine hR2.round und_str _ (fun h0 => ?_) fun x c w3 hx hc hxl K hR3 hlt hent => ?_
  · subst h0
    refine ⟨?_, ⟨ks, hdom, hlen⟩, S2.drop 1⟩
    rw [leftD_eq hdom]
    simp [sumD]
  · have S3 := S2.ranged K hR3.lt.1
    unfold OPR
    rw [hent]
    refine ⟨_, _, rfl, ?_⟩
    obtain ⟨f, hf⟩ := fileD_some (hD.hasD hc)
    obtain ⟨hf1, hf2⟩ := fileD_mem hf
    have hcell := dkE_cells (i := 0) (S3.drop 1) hf1
    rw [hf2] at hcell
    have e1 : w3.cell? ⟨c, 1, none⟩ = some (.slice f.da f.data.length f.dc) := by simp [World.cell?, hcell, FileC.cells]
    have hdl := dataD_of hc hf
    have hs := sumD_mem D hx
    rw [hdl] at hs
    have e2 : IntKind.i64.wrap ((D.room : Int) - (sumD D ks : Int) + (sumD D ls : Int) - (f.data.length : Int)) = (D.room : Int) - (sumD D ks : Int) + (sumD D (ls.erase x) : Int) := by
      rw [wrap_i64 (by omega) (by omega)]
      omega
    refine ⟨_, _, _, e1, ⟨ls.erase x, hR3, by omega, ?_, S3⟩, hlt⟩
    rw [e2]
theorem namedE_zero {s : ByteArray} (h : (namedE D s).2 = 0) : nameB s = true ∧ D.off = false ∧ ∃ b, D.dir (bl s) = some b ∧ namedE D s = (some b, 0) := by
  unfold namedE at h ⊢
  split at h
  · next h1 => exact absurd h h1
  · next h1 =>
    have h2 : liveE D.off [s] = 0 := by simpa using h1
    rw [if_neg h1]
    cases hd : D.dir (bl s) with
    | none => simp [hd] at h
    | some b => exact ⟨(live1 h2).2, (live1 h2).1, b, rfl, rfl⟩
def readE (D : DiskC) (s : ByteArray) : ByteArray × Int := if (namedE D s).2 ≠ 0 then (⟨#[]⟩, (namedE D s).2) else (sof (dataD D (bl s)), 0)
theorem read_ok (S : ST w0 w (dkE D E)) (hD : DiskOk D m) (s : ByteArray) (hs : s.size ≤ 9223372036854775807) :
    Calls Tryz.prog f.disk_Disk_Read #[ptrV D.b, .string s] w (Ret fun v w' => v = .tuple #[.string (readE D s).1, .int .i64 (readE D s).2] ∧ ST w0 w' (dkE D E)) := by
  apply R.disk_Disk_Read_calls
  unfold R.disk_Disk_Read
  refine (named_ok S s hs).mono ?_
  rintro _ w1 ⟨_, rfl, rfl, S1⟩
  refine ⟨_, _, rfl, IFB_ne (fun h => ?_) (fun h => ?_)⟩
  · rw [readE, if_pos h]
    exact ⟨rfl, S1⟩
  obtain ⟨_, _, b, hb, hn⟩ := namedE_zero h
  rw [hn]
  obtain ⟨pre, f, post, hfs, rfl, hfd, S2⟩ := pick_ok S1 (hD.hasD hb)
  refine ⟨_, _, _, S2.cell 0 rfl rfl, ?_⟩
  refine string_of_bytes tbytes rfl (S2.rd 1 rfl) ⟨_, rfl, ?_, S1⟩
  rw [readE, if_neg (by simpa using h), dataD_of hb hfd]
end
theorem app_text {t : TypeId} {w0 w : World} {H : List It} (S : ST w0 w H) (n : Nat) {a : Option Addr} {c : Nat} {l : List UInt8} (hn : H[n]? = some (bytesI a c l)) (s : ByteArray) (hl : l.length + s.size ≤ 140737488355328) {f : Value → World → Prop}
    (hf : ∀ a' c' w', ST w0 w' (H.set n (bytesI a' c' (l ++ bl s))) → f (.slice a' (l ++ bl s).length c') w') :
    OPR Tryz.prog (Builtin.append_ #[ty.L_uint8, ty.string] ty.L_uint8 #[.slice a l.length c, .string s]) f w :=
  append_text (S.rw n hn) s hl fun a' c' w' hrow hk hnew => hf a' c' w' (S.chg n hn hk _ hrow hnew)
section
variable {w0 w : World} {D : DiskC} {E H : List It} {m : Nat}
noncomputable def appendPre (D : DiskC) (s data : ByteArray) : Int := if (namedE D s).2 ≠ 0 then (namedE D s).2 else if (data.size : Int) > leftD D then 181 else 0
def AppendR (D : DiskC) (s data : ByteArray) (e : Int) (D' : DiskC) : Prop := StepE D e D' (appendPre D s data) fun D' => ∃ pre f post da dc, D.files = pre ++ f :: post ∧ D.dir (bl s) = some f.b ∧
  D' = { D with fuse := D.fuse - 1, files := pre ++ { f with data := f.data ++ bl data, da := da, dc := dc } :: post }
theorem append_ok (S : ST w0 w (dkE D E)) (hD : DiskOk D m) (hm : m + 1 < 1000000) (s data : ByteArray) (hs : s.size ≤ 9223372036854775807) :
    Calls Tryz.prog f.disk_Disk_Append #[ptrV D.b, .string s, .string data] w (Ret fun v w' => ∃ e D', v = .int .i64 e ∧ ST w0 w' (dkE D' E) ∧ AppendR D s data e D') := by
  apply R.disk_Disk_Append_calls
  unfold R.disk_Disk_Append
  refine (named_ok S s hs).mono ?_
  rintro _ w1 ⟨_, rfl, rfl, S1⟩
  refine ⟨_, _, rfl, IFB_ne (fun h => ⟨_, D, rfl, S1, .inl ⟨?_, ?_, rfl⟩⟩) (fun h => ?_)⟩
  · rw [appendPre, if_pos h]; exact h
  · rw [appendPre, if_pos h]
  obtain ⟨_, _, b, hb, hn⟩ := namedE_zero h
  rw [hn]
  refine (left_ok S1 hD (by omega)).mono ?_
  rintro _ w2 ⟨_, rfl, rfl, ⟨ks, hdom, _⟩, S2⟩
  refine ⟨_, rfl, IFB_dec (fun h2 => ⟨_, D, rfl, S2, .inl ⟨?_, ?_, rfl⟩⟩) (fun h2 => ?_)⟩
  · rw [appendPre, if_neg (by simpa using h), if_pos h2]; decide
  · rw [appendPre, if_neg (by simpa using h), if_pos h2]
  have hpre : appendPre D s data = 0 := by rw [appendPre, if_neg (by simpa using h), if_neg h2]
  refine (change_ok S2 (by have := hD.fuseLo; omega) hD.fuseHi).mono ?_
  rintro _ w3 ⟨_, rfl, ⟨hf, h0, rfl, S3⟩ | ⟨hno, rfl, S3⟩⟩
  · exact ⟨_, rfl, IFB_eq (fun h => absurd h (by decide)) (fun _ => ⟨_, _, rfl, S3, .inr (.inl ⟨hpre, ⟨hf, h0⟩, rfl, rfl⟩)⟩)⟩
  refine ⟨_, rfl, IFB_eq (fun _ => ?_) (fun h => absurd rfl h)⟩
  obtain ⟨pre, f, post, hfs, rfl, hfd, S4⟩ := pick_ok S3 (show ∃ f ∈ D.files, f.b = b from hD.hasD hb)
  have hfs : D.files = pre ++ f :: post := hfs
  have hfl := hD.len f (by rw [hfs]; simp)
  rw [leftD_eq hdom] at h2
  have hroom := hD.room
  refine ⟨_, _, _, S4.cell 0 rfl rfl, app_text (t := ty.L_uint8) S4 1 rfl data (by omega) fun da dc w4 S5 => ⟨_, _, _, rfl, ?_⟩⟩
  refine S5.sto 0 rfl (cs' := FileC.cells { f with data := f.data ++ bl data, da := da, dc := dc }) (by simp [FileC.cells]) rfl fun w5 S6 => ?_
  have S7 := unpick (D := { D with fuse := D.fuse - 1 }) pre post { f with data := f.data ++ bl data, da := da, dc := dc } S6
  exact ⟨_, _, rfl, S7, .inr (.inr ⟨hpre, fun hb => hno hb, rfl, pre, f, post, da, dc, hfs, hb, rfl⟩)⟩
def SyncR (D : DiskC) (s : ByteArray) (e : Int) (D' : DiskC) : Prop := StepE D e D' (namedE D s).2 fun D' => ∃ pre f post, D.files = pre ++ f :: post ∧ D.dir (bl s) = some f.b ∧
  D' = { D with fuse := D.fuse - 1, files := pre ++ { f with lasts := f.data.length } :: post }
theorem sync_ok (S : ST w0 w (dkE D E)) (hD : DiskOk D m) (hm : m + 1 < 1000000) (s : ByteArray) (hs : s.size ≤ 9223372036854775807) :
    Calls Tryz.prog f.disk_Disk_Sync #[ptrV D.b, .string s] w (Ret fun v w' => ∃ e D', v = .int .i64 e ∧ ST w0 w' (dkE D' E) ∧ SyncR D s e D') := by
  apply R.disk_Disk_Sync_calls
  unfold R.disk_Disk_Sync
  refine (named_ok S s hs).mono ?_
  rintro _ w1 ⟨_, rfl, rfl, S1⟩
  refine ⟨_, _, rfl, IFB_ne (fun h => ⟨_, D, rfl, S1, .inl ⟨h, rfl, rfl⟩⟩) (fun h => ?_)⟩
  obtain ⟨_, _, b, hb, hn⟩ := namedE_zero h
  rw [hn]
  refine (change_ok S1 (by have := hD.fuseLo; omega) hD.fuseHi).mono ?_
  rintro _ w3 ⟨_, rfl, ⟨hf, h0, rfl, S3⟩ | ⟨hno, rfl, S3⟩⟩
  · exact ⟨_, rfl, IFB_eq (fun h => absurd h (by decide)) (fun _ => ⟨_, _, rfl, S3, .inr (.inl ⟨h, ⟨hf, h0⟩, rfl, rfl⟩)⟩)⟩
  refine ⟨_, rfl, IFB_eq (fun _ => ?_) (fun h => absurd rfl h)⟩
  obtain ⟨pre, f, post, hfs, rfl, hfd, S4⟩ := pick_ok S3 (show ∃ f ∈ D.files, f.b = b from hD.hasD hb)
  have hfs : D.files = pre ++ f :: post := hfs
  refine ⟨_, _, _, S4.cell 0 rfl rfl, ?_⟩
  refine S4.sto 0 rfl (cs' := FileC.cells { f with lasts := f.data.length }) (by simp [FileC.cells]) rfl fun w5 S6 => ?_
  have S7 := unpick (D := { D with fuse := D.fuse - 1 }) pre post { f with lasts := f.data.length } S6
  exact ⟨_, _, rfl, S7, .inr (.inr ⟨h, fun hb => hno hb, rfl, pre, f, post, hfs, hb, rfl⟩)⟩
def turned (D : DiskC) (c : ChgC) (wa : Option Addr) (wc : Nat) : DiskC := { D with fuse := D.fuse - 1, dir := c.app D.dir, dn := D.dn + 1, waits := D.waits ++ [c], wa := wa, wc := wc }
def RemoveR (D : DiskC) (s : ByteArray) (e : Int) (D' : DiskC) : Prop := StepE D e D' (namedE D s).2 fun D' => ∃ b1 wa wc, D' = turned D (.remove b1 s) wa wc
theorem remove_ok (S : ST w0 w (dkE D E)) (hD : DiskOk D m) (hm : m + 1 < 1000000) (s : ByteArray) (hs : s.size ≤ 9223372036854775807) :
    Calls Tryz.prog f.disk_Disk_Remove #[ptrV D.b, .string s] w (Ret fun v w' => ∃ e D', v = .int .i64 e ∧ ST w0 w' (dkE D' E) ∧ RemoveR D s e D') := by
  apply R.disk_Disk_Remove_calls
  unfold R.disk_Disk_Remove
  refine S.newB fun b3 w1 _ _ S1 => ⟨_, S1.cell 0 rfl rfl, ?_⟩
  have S2 : ST w0 w1 (dkE D ((ChgC.remove b3 s).its ++ E)) := (show ST w0 w1 ((ChgC.remove b3 s).its ++ dkE D E) from S1).perm (dkE_perm D _ E).symm
  refine (named_ok S2 s hs).mono ?_
  rintro _ w2 ⟨_, rfl, rfl, S3⟩
  refine ⟨_, _, rfl, IFB_ne (fun h => ⟨_, D, rfl, S3.sub (dkE_sub _ _ _), .inl ⟨h, rfl, rfl⟩⟩) (fun h => ?_)⟩
  obtain ⟨hnb, _, b, hb, hn⟩ := namedE_zero h
  refine (turn_ok (.remove b3 s) S3 (by have := hD.fuseLo; omega) hD.fuseHi (by have := hD.dn; omega) (by have := hD.wn; omega) (nameB_size hnb)).mono ?_
  rintro _ w7 ⟨_, rfl, ⟨hf, h0, rfl, S13⟩ | ⟨hno, rfl, wa, wc, S13⟩⟩
  · exact ⟨_, rfl, _, _, rfl, S13.sub (dkE_sub _ _ _), .inr (.inl ⟨h, ⟨hf, h0⟩, rfl, rfl⟩)⟩
  · exact ⟨_, rfl, _, _, rfl, S13, .inr (.inr ⟨h, fun hb => hno hb, rfl, b3, wa, wc, rfl⟩)⟩
def renamePre (D : DiskC) (o s : ByteArray) : Int := if liveE D.off [o, s] ≠ 0 then liveE D.off [o, s] else (namedE D o).2
def RenameR (D : DiskC) (o s : ByteArray) (e : Int) (D' : DiskC) : Prop := StepE D e D' (renamePre D o s) fun D' => ∃ b1 b2 b3 f wa wc, D.dir (bl o) = some f ∧ D' = turned D (.rename b1 b2 b3 o s f) wa wc
theorem live2 {off : Bool} {o s : ByteArray} (h : liveE off [o, s] = 0) : off = false ∧ nameB o = true ∧ nameB s = true := by
  unfold liveE at h
  cases off with
  | true => simp at h
  | false =>
    cases h1 : nameB o <;> cases h2 : nameB s <;> simp [h1, h2] at h ⊢
theorem rename_ok (S : ST w0 w (dkE D E)) (hD : DiskOk D m) (hm : m + 1 < 1000000) (o s : ByteArray) (ho : o.size ≤ 9223372036854775807) (hs : s.size ≤ 9223372036854775807) :
    Calls Tryz.prog f.disk_Disk_Rename #[ptrV D.b, .string o, .string s] w (Ret fun v w' => ∃ e D', v = .int .i64 e ∧ ST w0 w' (dkE D' E) ∧ RenameR D o s e D') := by
  apply R.disk_Disk_Rename_calls
  unfold R.disk_Disk_Rename
  refine S.newB fun b4 w1 _ B1 S1 => S1.newB fun b5 w2 _ B2 S2 => ⟨_, S2.cell 1 rfl rfl, _, S2.cell 0 rfl rfl, S2.newB fun b8 w3 _ B3 S3 => ?_⟩
  have hc5 : w3.cell? ⟨D.b, 5, none⟩ = some (.bool D.off) := S3.cell 3 rfl rfl
  have hr : Rd w3 (some ⟨b8, 0, none⟩) ([o, s].map strV) := S3.rdc 0 rfl
  refine (live_ok hc5 [o, s] hr (by simp) (by simp [ho, hs])).mono ?_
  rintro _ w4 ⟨_, rfl, rfl, B4⟩
  have S4 := (S3.grown B4).drop 1
  refine ⟨_, rfl, IFB_ne (fun h => ⟨_, D, rfl, S4.drop 2, .inl ⟨?_, ?_, rfl⟩⟩) (fun h => ?_)⟩
  · rw [renamePre, if_pos h]; exact h
  · rw [renamePre, if_pos h]
  have hpre : renamePre D o s = (namedE D o).2 := by rw [renamePre, if_neg (by simpa using h)]
  obtain ⟨_, n1, n2⟩ := live2 h
  refine ⟨_, S4.cell 1 rfl rfl, ?_⟩
  have S5 : ST w0 w4 (dkE D ([It.cells b5 #[.string s] ty.string, It.cells b4 #[.string o] ty.string] ++ E)) := (show ST w0 w4 ([It.cells b5 #[.string s] ty.string, It.cells b4 #[.string o] ty.string] ++ dkE D E) from S4).perm (dkE_perm D _ E).symm
  refine (named_ok S5 o ho).mono ?_
  rintro _ w5 ⟨_, rfl, rfl, S6⟩
  refine ⟨_, _, rfl, S6.newB fun b15 w6 _ _ S7 => S7.sto 0 rfl (cs' := #[ptrO (namedE D o).1]) (by simp) rfl fun w7 S8 => ?_⟩
  refine IFB_ne (fun h => ⟨_, D, rfl, (S8.drop 1).sub (dkE_sub _ _ _), .inl ⟨hpre ▸ h, hpre.symm, rfl⟩⟩) (fun h => ?_)
  obtain ⟨_, _, b, hb, hn⟩ := namedE_zero h
  rw [hn] at S8
  have S9 : ST w0 w7 (It.cells b15 #[ptrV b] ty.P_disk_file :: dkE D ([It.cells b5 #[.string s] ty.string, It.cells b4 #[.string o] ty.string] ++ E)) := S8
  have S10 : ST w0 w7 (It.cells b15 #[ptrV b] ty.P_disk_file :: It.cells b5 #[.string s] ty.string :: It.cells b4 #[.string o] ty.string :: dkE D E) := S9.perm (List.Perm.cons _ (dkE_perm D _ E))
  have S11 := (S10.pull 1 rfl).pull 1 rfl
  have S12 := S11.pull 2 rfl
  have S12 : ST w0 w7 ((ChgC.rename b4 b15 b5 o s b).its ++ dkE D E) := by
    refine S10.perm ?_
    exact (List.Perm.cons _ (List.Perm.swap _ _ _)).trans (List.Perm.swap _ _ _)
  have S13 : ST w0 w7 (dkE D ((ChgC.rename b4 b15 b5 o s b).its ++ E)) := S12.perm (dkE_perm D _ E).symm
  refine (turn_ok (.rename b4 b15 b5 o s b) S13 (by have := hD.fuseLo; omega) hD.fuseHi (by have := hD.dn; omega) (by have := hD.wn; omega) ⟨nameB_size n1, nameB_size n2⟩).mono ?_
  rintro _ w8 ⟨_, rfl, ⟨hf, h0, rfl, S14⟩ | ⟨hno, rfl, wa, wc, S14⟩⟩
  · exact ⟨_, rfl, _, _, rfl, S14.sub (dkE_sub _ _ _), .inr (.inl ⟨hpre.trans h, ⟨hf, h0⟩, rfl, rfl⟩)⟩
  · exact ⟨_, rfl, _, _, rfl, S14, .inr (.inr ⟨hpre.trans h, fun hb => hno hb, rfl, b4, b15, b5, b, wa, wc, hb, rfl⟩)⟩
def fusePre (D : DiskC) (n : Int) : Int := if D.off then 183 else if n < 0 then 2 else 0
theorem fuse_ok (S : ST w0 w (dkE D E)) (n : Int) : Calls Tryz.prog f.disk_Disk_Fuse #[ptrV D.b, .int .i64 n] w (Ret fun v w' => v = .int .i64 (fusePre D n) ∧ ST w0 w' (dkE (if fusePre D n = 0 then { D with fused := true, fuse := n } else D) E)) := by
  apply R.disk_Disk_Fuse_calls
  unfold R.disk_Disk_Fuse
  have hc5 : w.cell? ⟨D.b, 5, none⟩ = some (.bool D.off) := S.cell 0 rfl rfl
  refine (live_ok (a := none) (c := 0) hc5 [] (Rd.nil w none) (by simp) (by simp)).mono ?_
  rintro _ w1 ⟨_, rfl, rfl, B1⟩
  have S1 := S.grown B1
  have hl : liveE D.off [] = if D.off then 183 else 0 := by unfold liveE; simp
  refine ⟨_, rfl, IFB_ne (fun h => ?_) (fun h => ?_)⟩
  · rw [hl] at h ⊢
    have ho : D.off = true := by cases hh : D.off with | true => rfl | false => simp [hh] at h
    have e : fusePre D n = 183 := by simp [fusePre, ho]
    rw [e, ho]
    exact ⟨rfl, S1⟩
  rw [hl] at h
  have ho : D.off = false := by cases hh : D.off with | false => rfl | true => simp [hh] at h
  refine IFB_dec (fun hn => ?_) (fun hn => ?_)
  · have e : fusePre D n = 2 := by simp [fusePre, ho, hn]
    rw [e]
    exact ⟨rfl, S1⟩
  · have e : fusePre D n = 0 := by simp [fusePre, ho, hn]
    rw [e]
    show STO ⟨D.b, 6, none⟩ (.bool true) (fun w2 => STO ⟨D.b, 7, none⟩ (.int .i64 n) (fun w3 => Value.int .i64 0 = .int .i64 0 ∧ ST w0 w3 (dkE { D with fused := true, fuse := n } E)) w2) w1
    refine S1.sto 0 rfl (i := 6) (v := .bool true) (cs' := DiskC.cells { D with fused := true }) (c8 (D := D) (n := 6) (by decide)) rfl fun w2 S2 => ?_
    exact S2.sto 0 rfl (i := 7) (v := .int .i64 n) (cs' := DiskC.cells { D with fused := true, fuse := n }) (c8 (D := D) (n := 7) (by decide)) rfl fun w3 S3 => ⟨rfl, S3⟩
end
end Go.Proofs.YtfgbfodohmeamaaGreatDoor
