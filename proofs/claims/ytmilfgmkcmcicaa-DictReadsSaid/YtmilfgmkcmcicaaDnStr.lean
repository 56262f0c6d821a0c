/-
  Strings as lists of bytes; conversions between strings and bytes.
-/
import Derived.Test.YtmilfgmkcmcicaaDnLaws
import Derived.Laws.StructEq
import Derived.Laws.Strings2
import Derived.Laws.BytesArg
namespace Go.Dn
open Go.RowKit (Below)

def bl (s : ByteArray) : List UInt8 := s.data.toList
def sof (l : List UInt8) : ByteArray := ⟨l.toArray⟩
def byteV (c : UInt8) : Value := .int .u8 (c.toNat : Int)
theorem bl_sof (l : List UInt8) : bl (sof l) = l := by simp [bl, sof]
theorem sof_bl (s : ByteArray) : sof (bl s) = s := by cases s; simp [bl, sof]
theorem bl_length (s : ByteArray) : (bl s).length = s.size := Array.length_toList
theorem size_sof (l : List UInt8) : (sof l).size = l.length := by simp [sof, ByteArray.size]
theorem bl_inj {s t : ByteArray} (h : bl s = bl t) : s = t := by rw [← sof_bl s, ← sof_bl t, h]
theorem bl_append (s t : ByteArray) : bl (s ++ t) = bl s ++ bl t := by simp [bl]
theorem sof_append (s t : List UInt8) : sof s ++ sof t = sof (s ++ t) := bl_inj (by rw [bl_append, bl_sof, bl_sof, bl_sof])
theorem extract_eq (s : ByteArray) (a b : Nat) : s.extract a b = sof (((bl s).drop a).take (b - a)) := by
  have h := ByteArray.extract_mk (bl s) a b
  have e : (ByteArray.mk (bl s).toArray) = s := sof_bl s
  rw [e] at h
  exact h
theorem bl_extract (s : ByteArray) (a b : Nat) : bl (s.extract a b) = ((bl s).drop a).take (b - a) := by rw [extract_eq, bl_sof]
theorem bytesEq_iff (a b : ByteArray) : bytesEq a b = decide (a = b) := by
  unfold bytesEq
  rw [ByteArray.toList_eq, ByteArray.toList_eq]
  have : (a = b) ↔ a.data.toList = b.data.toList := ⟨fun h => by rw [h], fun h => bl_inj h⟩
  rw [Bool.eq_iff_iff]
  simp [this]
theorem beq_str (a b : ByteArray) : (a == b) = decide (a = b) := by
  rw [beq_toListBytes]
  exact bytesEq_iff a b
theorem sget_eq (s : ByteArray) (i : Nat) : sget s i = (bl s).getD i 0 := rfl
theorem byteV_one (c : UInt8) : (byteV c).oneCell' = true := rfl

/-- types of texts and of their bytes -/
def bytesT (P : Program) (st bt : TypeId) : Bool :=
  match P.underlying st, P.underlying bt with
  | some .string, some (.slice e) => (match P.underlying e with
    | some (.int .u8) => true
    | _ => false)
  | _, _ => false
theorem bytesT_out {P : Program} {st bt : TypeId} (h : bytesT P st bt = true) : P.underlying st = some .string ∧ ∃ e, P.underlying bt = some (.slice e) ∧ P.underlying e = some (.int .u8) := by
  unfold bytesT at h
  split at h
  · rename_i e hs hb
    split at h
    · rename_i he; exact ⟨hs, e, hb, he⟩
    · cases h
  · cases h

theorem freeze_keeps (F : Nat → Prop) (w : World) (p : Addr) (n : Nat) (hp : F p.block) : Keeps F w (w.freeze p n) := by
  unfold World.freeze
  split
  · exact .refl _ _
  · refine ⟨rfl, rfl, rfl, by simp, fun k _ hn => ?_⟩
    simp only [Array.getElem?_modify]
    rw [if_neg (fun h => hn (by rw [← h]; exact hp))]

/-- a text's bytes, in new memory -/
theorem bytes_of_string {P : Program} {st bt : TypeId} (hT : bytesT P st bt = true) (s : ByteArray) (w : World) {f : Value → World → Prop}
    (hf : ∀ (b c : Nat) (cs : Array Value) (e : TypeId) (w' : World), b = w.heap.size → Below w.heap.size w w' → w'.heap[b]? = some (.cells cs e (cs.size, cs.size + 1)) → cs.size = c → s.size ≤ c →
      cs.toList.take s.size = (bl s).map byteV → f (.slice (some ⟨b, 0, none⟩) s.size c) w') : OPR P (convert st bt (.string s)) f w := by
  obtain ⟨hs, e, hb, he⟩ := bytesT_out hT
  let cap := grownCap w s.size 0 e
  let cs : Array Value := (s.data.map fun b => Value.int .u8 b.toNat) ++ Array.replicate (cap - s.size) (.int .u8 0)
  have hge : s.size ≤ cap := grownCap_ge w s.size 0 e
  have hsz : cs.size = cap := by
    have : s.data.size = s.size := rfl
    simp [cs, this]
    omega
  let w1 : World := w.drew.alloc (.cells cs e)
  have hw1 : w1.heap[w.heap.size]? = some (.cells cs e (0, 0)) := heap_alloc_new w.drew _
  have hshape : w1.shape? w.heap.size = some (e, cs.size) := by simp [World.shape?, hw1]
  have hrun : (convert st bt (.string s)).run P w = .ok (.slice (some ⟨w.heap.size, 0, none⟩) s.size cap) (w1.freeze ⟨w.heap.size, cs.size, none⟩ 1) := by
    have hq : (Question.appendCap s.size 0 e).forced = false := rfl
    have hnew : (newRow e cs).run P w.drew = .ok ⟨w.heap.size, 0, none⟩ w1 := rfl
    have hch : (choose (.appendCap s.size 0 e)).run P w = .ok cap w.drew := by
      rw [run_choose]
      simp [hq, cap, grownCap]
    have hmark : (markStringish ⟨w.heap.size, 0, none⟩).run P w1 = .ok () (w1.freeze ⟨w.heap.size, cs.size, none⟩ 1) := by
      simp [markStringish, hshape]
    simp only [convert, Sem.run_bind, run_underlying hs, run_underlying hb, run_underlying he, Result.andThen_ok, Conv.stringToBytes, hch, Sem.run_pure]
    simp only [cs] at hnew
    rw [hnew]
    simp only [Result.andThen_ok, hmark]
  unfold OPR
  rw [hrun]
  have hheap : (w1.freeze ⟨w.heap.size, cs.size, none⟩ 1).heap[w.heap.size]? = some (.cells cs e (cs.size, cs.size + 1)) := by
    unfold World.freeze
    simp [Array.getElem?_modify, hw1]
  refine hf _ _ cs e _ rfl ?_ hheap hsz hge ?_
  · have h1 : Keeps (fun k => k = w.heap.size) w w1 := (Keeps.refl _ w).drew.alloc _
    have h2 := freeze_keeps (fun k => k = w.heap.size) w1 ⟨w.heap.size, cs.size, none⟩ 1 rfl
    exact (h1.trans h2 (fun _ _ h => h)).below (Nat.le_refl _) (fun k hk he => by omega)
  · have hl : s.size = ((s.data.map fun b => Value.int .u8 b.toNat)).toList.length := by rw [Array.length_toList, Array.size_map]; rfl
    simp only [cs, Array.toList_append]
    rw [hl, List.take_left]
    simp [bl, byteV]

theorem push_bytes (l : List UInt8) : (l.map fun c => ((c.toNat : Nat) : Int)).foldl (fun r n => r.push (UInt8.ofNat n.toNat)) ByteArray.empty = sof l := by
  rw [foldl_push_bytes]
  apply bl_inj
  rw [bl_sof]
  show (ByteArray.empty.data ++ _).toList = l
  have h0 : ByteArray.empty.data.toList = [] := rfl
  rw [Array.toList_append, h0, List.nil_append, List.map_map, List.toList_toArray]
  have : ((fun n : Int => UInt8.ofNat n.toNat) ∘ fun c : UInt8 => ((c.toNat : Nat) : Int)) = id := by
    funext c
    simp
  rw [this, List.map_id]

/-- the text of bytes -/
theorem string_of_bytes {P : Program} {st bt : TypeId} (hT : bytesT P st bt = true) {w : World} {a : Option Addr} {l : List UInt8} {n c : Nat} (hn : n = l.length) (hr : Rd w a (l.map byteV)) {f : Value → World → Prop}
    (hf : f (.string (sof l)) w) : OPR P (convert bt st (.slice a n c)) f w := by
  obtain ⟨hs, e, hb, he⟩ := bytesT_out hT
  unfold OPR
  rw [run_convert_bytes_string w bt st e a n c hb he hs]
  cases a with
  | none =>
    have hl : l = [] := by
      cases l with
      | nil => rfl
      | cons x r =>
        obtain ⟨p, hp, _⟩ := hr 0 (byteV x) (by simp)
        cases hp
    subst hl
    have : sof [] = ByteArray.empty := rfl
    rw [this] at hf
    simpa [Conv.bytesToString] using hf
  | some p =>
    have hld : (loadCells p n).run P w = .ok ((l.map fun c => ((c.toNat : Nat) : Int)).map (Value.int .u8)).toArray w := by
      have := run_loadCells_list (P := P) w p (l.map byteV) (fun j v hv => by
        obtain ⟨q, hq, hc⟩ := hr j v hv
        cases hq
        exact hc)
      rw [List.length_map, ← hn] at this
      rw [this]
      congr 1
      simp [byteV, Function.comp_def]
    rw [run_bytesToString w p n c _ hld, push_bytes]
    exact hf
end Go.Dn
