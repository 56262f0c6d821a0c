/-
  What was laid is read as it was: the plain law of Decode.
-/
import Derived.Test.YtmilfgmkcmcicaaTake
import Derived.Test.YtmilfgmkcmcicaaRefEnc3
namespace Go.Proofs.Ytmilfgmkcmcicaa
open Go.Dn Go.Proofs
open Go.RowKit (Below)
set_option linter.unusedVariables false
set_option maxRecDepth 20000

theorem takeN_at {n : Nat} (h : n < 18446744073709551616) (pre b : List UInt8) : takeN (pre ++ (digitsL n ++ b)) (pre.length : Int) = some (n, pre.length + (digitsL n).length) := by
  unfold takeN
  rw [if_neg (by omega), Int.toNat_natCast, List.drop_left]
  rw [readN_digits n 0 0 b (by simpa using h) (by omega) (by intro; rfl)]
  simp
theorem takeT_at {s : ByteArray} (hz : s.size ≤ 1024) (pre b : List UInt8) : takeT (pre ++ (textL s ++ b)) (pre.length : Int) 1024 = some (bl s, pre.length + (textL s).length) := by
  unfold takeT textL
  rw [List.append_assoc, takeN_at (by omega)]
  have hl := bl_length s
  simp only
  rw [if_neg (by simp only [List.length_append]; omega)]
  congr 1
  have e : pre ++ (digitsL s.size ++ (bl s ++ b)) = (pre ++ digitsL s.size) ++ (bl s ++ b) := by simp
  rw [e, ← List.length_append, List.drop_left, ← hl, List.take_left]
  simp only [List.length_append, Nat.add_assoc]
theorem takeMany_at : ∀ {ls : List ByteArray} (hz : ∀ s ∈ ls, s.size ≤ 1024) (pre b : List UInt8), takeMany (pre ++ (laidL ls ++ b)) pre.length ls.length = some (ls.map bl, pre.length + (laidL ls).length)
  | [], _, pre, b => by simp [takeMany, laidL]
  | s :: ls, hz, pre, b => by
    have e : pre ++ (laidL (s :: ls) ++ b) = pre ++ (textL s ++ (laidL ls ++ b)) := by simp [laidL]
    have e2 : pre ++ (textL s ++ (laidL ls ++ b)) = (pre ++ textL s) ++ (laidL ls ++ b) := by simp
    rw [List.length_cons]
    unfold takeMany
    rw [e, takeT_at (hz s (List.mem_cons_self ..))]
    simp only
    rw [e2, ← List.length_append, takeMany_at (fun x hx => hz x (List.mem_cons_of_mem _ hx))]
    simp [laidL, Nat.add_assoc]
theorem unpack_pack {xs : List Nat} {w : Nat} (hx : ∀ x ∈ xs, x < 2 ^ w) : unpackL (packL xs w) xs.length w = xs := by
  apply List.ext_getElem
  · simp [unpackL]
  · intro i h1 h2
    have e : (unpackL (packL xs w) xs.length w)[i] = stU (bitB (packL xs w)) w (xs.length * w) i := by simp [unpackL]
    rw [e]
    have hxi := hx _ (List.getElem_mem h2)
    by_cases hw : 0 < w
    case neg =>
      have : w = 0 := by omega
      subst this
      have h0 : xs[i] = 0 := by simpa using hxi
      simp [stU, h0]
    apply Nat.eq_of_testBit_eq
    intro k
    rw [stU_bit _ hw]
    by_cases hk : k < w
    · have hiw : i * w + k < xs.length * w := by
        have : (i + 1) * w ≤ xs.length * w := Nat.mul_le_mul_right _ h2
        rw [Nat.succ_mul] at this
        omega
      have hd1 : (i * w + k) / w = i := by
        rw [Nat.mul_comm, Nat.mul_add_div (by omega), Nat.div_eq_of_lt hk, Nat.add_zero]
      have hd2 : (i * w + k) % w = k := by
        rw [Nat.mul_comm, Nat.mul_add_mod, Nat.mod_eq_of_lt hk]
      have hj : (i * w + k) / 8 < sizeN xs.length w := by unfold sizeN; omega
      have hb : bitB (packL xs w) (i * w + k) = bitA xs w (i * w + k) := by
        unfold bitB
        have : (packL xs w).getD ((i * w + k) / 8) 0 = UInt8.ofNat (stB (bitA xs w) (xs.length * w) ((i * w + k) / 8)) := by
          simp [List.getD, pack_get hj]
        rw [this, pack_bit (Nat.mod_lt _ (by omega)), show (i * w + k) / 8 * 8 + (i * w + k) % 8 = i * w + k by omega]
        simp [hiw]
      rw [hb]
      unfold bitA
      rw [hd1, hd2]
      simp [hk, hiw, h2]
    · rw [Nat.testBit_lt_two_pow (Nat.lt_of_lt_of_le hxi (Nat.pow_le_pow_right (by omega) (Nat.le_of_not_lt hk)))]
      simp [hk]
def tabB (many : Nat) (ts : List (List UInt8)) (xs : List Nat) : Option (List (List UInt8)) := if ∀ p ∈ xs, p < many then some (xs.map fun p => ts.getD p []) else none
/-- the texts that form 1 says, read loosely -/
def tableL (l : List UInt8) (n : Nat) : Option (List (List UInt8)) :=
  (takeN l 1).bind fun x => if n < x.1 then none else (takeMany l x.2 x.1).bind fun y => if l.length ≤ y.2 then none else
    if unArg (n : Int) ((l.getD y.2 0).toNat : Int) ∧ unOk (l.drop (y.2 + 1)) n (l.getD y.2 0).toNat then tabB x.1 y.1 (unpackL (l.drop (y.2 + 1)) n (l.getD y.2 0).toNat) else none
theorem places_lt {t : List (List UInt8)} {ls : List ByteArray} (ht : IsRise (ls.map bl) t) : ∀ x ∈ placesL t ls, x < t.length := by
  intro x hx
  obtain ⟨s, hs, rfl⟩ := List.mem_map.1 hx
  exact List.idxOf_lt_length_of_mem ((ht.mem _).2 (List.mem_map.2 ⟨s, hs, rfl⟩))
theorem rise_len {t : List (List UInt8)} {ls : List ByteArray} (ht : IsRise (ls.map bl) t) : t.length ≤ ls.length := by
  have := nodup_len (lt_nodup ht.up) (fun x hx => (ht.mem x).1 hx)
  simpa using this
theorem width13 {t : List (List UInt8)} {ls : List ByteArray} {w : Nat} (ht : IsRise (ls.map bl) t) (hn : ls.length ≤ 4096) (hw : IsLen (orL (placesL t ls)) w) : w ≤ 13 :=
  hw.le.2 ((orL_lt _ _).2 fun x hx => by have := places_lt ht x hx; have := rise_len ht; omega)
theorem table_reads {ls : List ByteArray} {b : List UInt8} (hok : encOk 1 ls) (h : EncIs ls 1 b) : tableL b ls.length = some (ls.map bl) := by
  cases h with
  | table t w ht hw =>
  obtain ⟨_, _, hn, hlong⟩ := hok
  have hz := longB_false hlong
  have htl := rise_len ht
  have htz : ∀ s ∈ t.map sof, s.size ≤ 1024 := by
    intro s hs
    obtain ⟨x, hx, rfl⟩ := List.mem_map.1 hs
    obtain ⟨s', hs', rfl⟩ := List.mem_map.1 ((ht.mem x).1 hx)
    rw [sof_bl]
    exact hz s' hs'
  have hw13 := width13 ht hn hw
  have hpl := (orL_lt _ _).1 hw.1
  obtain ⟨xs, hxs⟩ : ∃ xs, xs = placesL t ls := ⟨_, rfl⟩
  have hxl : xs.length = ls.length := by rw [hxs]; simp [placesL]
  rw [← hxs] at hpl ⊢
  have e1 : (1 :: digitsL t.length) ++ (laidL (t.map sof) ++ (UInt8.ofNat w :: packL xs w)) = [1] ++ (digitsL t.length ++ (laidL (t.map sof) ++ (UInt8.ofNat w :: packL xs w))) := by simp
  have e2 : [1] ++ (digitsL t.length ++ (laidL (t.map sof) ++ (UInt8.ofNat w :: packL xs w))) = ([1] ++ digitsL t.length) ++ (laidL (t.map sof) ++ (UInt8.ofNat w :: packL xs w)) := by simp
  obtain ⟨b, hb⟩ : ∃ b, b = (1 :: digitsL t.length) ++ (laidL (t.map sof) ++ (UInt8.ofNat w :: packL xs w)) := ⟨_, rfl⟩
  have h1 : takeN b 1 = some (t.length, 1 + (digitsL t.length).length) := by
    rw [hb, e1]
    exact takeN_at (by omega) [1] _
  have h2 : takeMany b (1 + (digitsL t.length).length) t.length = some (t, 1 + (digitsL t.length).length + (laidL (t.map sof)).length) := by
    have h := takeMany_at htz ([1] ++ digitsL t.length) (UInt8.ofNat w :: packL xs w)
    rw [← e2, ← e1, ← hb] at h
    simp only [List.length_append, List.length_cons, List.length_nil, List.length_map] at h
    rw [show 0 + 1 + (digitsL t.length).length = 1 + (digitsL t.length).length by omega] at h
    rw [h]
    have : (t.map sof).map bl = t := by
      rw [List.map_map]
      have : (bl ∘ sof) = id := by funext x; exact bl_sof x
      rw [this, List.map_id]
    rw [this]
  obtain ⟨q, hq⟩ : ∃ q, q = 1 + (digitsL t.length).length + (laidL (t.map sof)).length := ⟨_, rfl⟩
  have e3 : b = ((1 :: digitsL t.length) ++ laidL (t.map sof)) ++ (UInt8.ofNat w :: packL xs w) := by rw [hb]; simp
  have hq2 : q = ((1 :: digitsL t.length) ++ laidL (t.map sof)).length := by rw [hq]; simp; omega
  have hlen : b.length = q + 1 + (packL xs w).length := by rw [e3, List.length_append, ← hq2, List.length_cons]; omega
  have hg : b.getD q 0 = UInt8.ofNat w := by
    rw [e3, hq2]
    simp [List.getD]
  have hd : b.drop (q + 1) = packL xs w := by
    rw [e3, hq2, ← List.drop_drop, List.drop_left]
    rfl
  have hwN : (UInt8.ofNat w).toNat = w := ofNat_toNat8 (by omega)
  rw [← hq] at h2
  rw [← hb]
  simp only [tableL, h1, h2, Option.bind_some, hg, hd, hwN]
  rw [if_neg (by omega), if_neg (by omega)]
  have hun : unpackL (packL xs w) ls.length w = xs := by rw [← hxl]; exact unpack_pack hpl
  have hcond : unArg (ls.length : Int) (w : Int) ∧ unOk (packL xs w) ls.length w := by
    refine ⟨⟨by omega, by omega, by omega, by omega⟩, ?_, ?_⟩
    · rw [packL_len, hxl]
    · rw [hun]
  rw [if_pos hcond, hun]
  unfold tabB
  rw [if_pos (by rw [hxs]; exact places_lt ht), hxs]
  congr 1
  unfold placesL
  rw [List.map_map]
  apply List.map_congr_left
  intro s hs
  have hm : bl s ∈ t := (ht.mem _).2 (List.mem_map.2 ⟨s, hs, rfl⟩)
  have hi := List.idxOf_lt_length_of_mem hm
  simp only [Function.comp]
  simp [List.getD, hi, List.getElem_idxOf]
theorem plain_reads {ls : List ByteArray} {b : List UInt8} (hok : encOk 0 ls) (h : EncIs ls 0 b) : (takeMany b 1 ls.length).map (·.1) = some (ls.map bl) := by
  cases h with
  | plain =>
  have h := takeMany_at (longB_false hok.2.2.2) [0] []
  simp only [List.append_nil] at h
  have e : [0] ++ laidL ls = 0 :: laidL ls := rfl
  rw [e] at h
  have e1 : ([0] : List UInt8).length = 1 := rfl
  rw [e1] at h
  rw [h]
  rfl
/-- the list that bytes say -/
structure DecIs (l : List UInt8) (n : Nat) (ls : List ByteArray) : Prop where
  len : ls.length = n
  ok : encOk ((l.getD 0 0).toNat : Int) ls
  enc : EncIs ls ((l.getD 0 0).toNat : Int) l
def readL (l : List UInt8) (n : Nat) : Option (List (List UInt8)) := if l.getD 0 0 = 0 then (takeMany l 1 n).map (·.1) else tableL l n
theorem DecIs.reads {l : List UInt8} {n : Nat} {ls : List ByteArray} (h : DecIs l n ls) : readL l n = some (ls.map bl) := by
  obtain ⟨rfl, ok, enc⟩ := h
  unfold readL
  by_cases h0 : l.getD 0 0 = 0
  · rw [if_pos h0]
    rw [h0] at ok enc
    exact plain_reads ok enc
  · rw [if_neg h0]
    have h1 : ((l.getD 0 0).toNat : Int) = 1 := by
      have h2 := ok.1
      have h3 := ok.2.1
      have : (l.getD 0 0).toNat ≠ 0 := fun h => h0 (UInt8.toNat_inj.1 h)
      omega
    rw [h1] at ok enc
    exact table_reads ok enc
theorem DecIs.one {l : List UInt8} {n : Nat} {ls ms : List ByteArray} (h : DecIs l n ls) (h' : DecIs l n ms) : ls = ms := by
  have := Option.some.inj (h.reads.symm.trans h'.reads)
  have := congrArg (List.map sof) this
  rwa [map_sof_bl, map_sof_bl] at this
theorem tableL_len {l : List UInt8} {n : Nat} {ms : List (List UInt8)} (h : tableL l n = some ms) : ms.length = n := by
  unfold tableL at h
  obtain ⟨x, _, h⟩ := Option.bind_eq_some_iff.1 h
  split at h
  · cases h
  · obtain ⟨y, _, h⟩ := Option.bind_eq_some_iff.1 h
    split at h
    · cases h
    · split at h
      · unfold tabB at h
        split at h
        · cases h; simp [unpackL]
        · cases h
      · cases h
theorem readL_len {l : List UInt8} {n : Nat} {ms : List (List UInt8)} (h : readL l n = some ms) : ms.length = n := by
  unfold readL at h
  split at h
  · obtain ⟨r, hr, rfl⟩ := Option.map_eq_some_iff.1 h
    exact takeMany_len hr
  · exact tableL_len h
end Go.Proofs.Ytmilfgmkcmcicaa
