/-
  The laws on sealed texts.
-/
import Derived.Test.YtijjimoooflkaaaNetLaw
namespace Go.Proofs.Ytijjimoooflkaaa
open Go.Dn Go.Proofs
open Go.RowKit (Below)
set_option linter.unusedVariables false

def unE (l : List UInt8) : Int := if (unsealL l).isSome then 0 else 200
theorem unsealV_open (l : List UInt8) : unsealV l = .tuple #[.string (sof ((unsealL l).getD [])), .int .i64 (unE l)] := by
  unfold unsealV unE
  cases unsealL l <;> rfl

theorem cut_bounds (m : Int) (n : Nat) (hm : 0 ≤ m) : (0 : Int) ≤ (0 : Int) ∧ (0 : Int) ≤ (if m < (n : Int) then m else (n : Int)) ∧ (if m < (n : Int) then m else (n : Int)) ≤ (n : Int) := by
  split <;> omega
theorem cut_size (s : ByteArray) (m : Int) (hm : 0 ≤ m) : ((s.extract 0 (((if m < (s.size : Int) then m else (s.size : Int))).toNat)).size : Int) ≤ m := by
  rw [extract_eq, size_sof, List.length_take, List.length_drop, bl_length]
  split <;> omega

theorem NetSeals_ok (w : World) (s : ByteArray) : Calls Try.prog f.law20_NetSeals #[.string s] w (Ret fun v w' => v = .bool true ∧ Below w.heap.size w w') := by
  apply R.law20_NetSeals_calls
  unfold R.law20_NetSeals
  refine (shown_ok w).mono ?_
  rintro _ w1 ⟨_, rfl, rfl, B1⟩
  refine ⟨_, rfl, cut_bounds 100000 s.size (by omega), ?_⟩
  have hsz := cut_size s 100000 (by omega)
  generalize (s.extract 0 (((if 100000 < (s.size : Int) then 100000 else (s.size : Int))).toNat)) = t at hsz ⊢
  have ht : t.size < 4611686018427387904 := by omega
  refine (net_Unseal_ok w1 t ht).mono ?_
  rintro _ w2 ⟨_, rfl, rfl, B2⟩
  refine ⟨_, _, by rw [unsealV_open], (ref20_Unseal_ok w2 t ht).mono ?_⟩
  rintro _ w3 ⟨_, rfl, rfl, B3⟩
  refine ⟨_, _, by rw [unsealV_open], (net_Seal_ok w3 t ht).mono ?_⟩
  rintro _ w4 ⟨_, rfl, rfl, B4⟩
  have hl4 : (sealL (bl t)).length = (bl t).length + 4 := by simp [sealL, sum4]
  have hbl := bl_length t
  refine ⟨_, rfl, (net_Unseal_ok w4 _ (by rw [size_sof]; omega)).mono ?_⟩
  rintro _ w5 ⟨_, rfl, rfl, B5⟩
  refine ⟨_, _, by rw [unsealV_open], IFB_true ((net_Seal_ok w5 t ht).mono ?_)⟩
  rintro _ w6 ⟨_, rfl, rfl, B6⟩
  refine ⟨_, rfl, (ref20_Seal_ok w6 t ht).mono ?_⟩
  rintro _ w7 ⟨_, rfl, rfl, B7⟩
  refine ⟨_, rfl, ?_⟩
  rw [bytesEq_iff, bytesEq_iff, bytesEq_iff]
  have hu := unseal_seal (bl t)
  rw [bl_sof, hu]
  have ht' : sof ((some (bl t)).getD []) = t := sof_bl t
  refine IFB_dec (fun _ => IFB_dec (fun _ => IFB_eq (fun _ => IFB_dec (fun _ => ?_) (fun h => absurd ht' h)) (fun h => absurd rfl h)) (fun h => absurd rfl h)) (fun h => absurd rfl h)
  refine ⟨?_, ?_⟩
  · unfold unE
    rw [hu]
    rfl
  · exact below_trans (below_trans (below_trans (below_trans (below_trans (below_trans B1 B2) B3) B4) B5) B6) B7

theorem NetTurns_ok (w : World) (s : ByteArray) (at_ : Int) (c : UInt8) : Calls Try.prog f.law20_NetTurns #[.string s, .int .i64 at_, .int .u8 (c.toNat : Int)] w (Ret fun v w' => v = .bool true ∧ Below w.heap.size w w') := by
  apply R.law20_NetTurns_calls
  unfold R.law20_NetTurns
  refine (shown_ok w).mono ?_
  rintro _ w1 ⟨_, rfl, rfl, B1⟩
  refine ⟨_, rfl, cut_bounds 10000 s.size (by omega), ?_⟩
  have hsz := cut_size s 10000 (by omega)
  generalize (s.extract 0 (((if 10000 < (s.size : Int) then 10000 else (s.size : Int))).toNat)) = t at hsz ⊢
  have ht : t.size < 4611686018427387904 := by omega
  refine (net_Seal_ok w1 t ht).mono ?_
  rintro _ w2 ⟨_, rfl, rfl, B2⟩
  refine ⟨_, rfl, ?_⟩
  have hl4 : (sealL (bl t)).length = (bl t).length + 4 := by simp [sealL, sum4]
  have hbl := bl_length t
  have hsl : (sof (sealL (bl t))).size = (sealL (bl t)).length := size_sof _
  refine bytes_of_string tbytes (sof (sealL (bl t))) w2 fun b cp cs e w3 hb B3 hh hcs hsc htk => ⟨_, _, _, rfl, ?_⟩
  have done : Below w.heap.size w w3 := below_trans (below_trans B1 B2) B3
  refine IFB_dec (fun _ => ⟨rfl, done⟩) (fun h0 => IFB_dec (fun _ => ⟨rfl, done⟩) (fun h1 => ⟨⟨by omega, by omega⟩, ?_⟩))
  obtain ⟨j, rfl⟩ : ∃ j : Nat, at_ = j := ⟨at_.toNat, by omega⟩
  rw [bl_sof, hsl] at htk
  rw [hsl] at hsc h1
  have hj : j < (sealL (bl t)).length := by omega
  have hrd : Rd w3 (some ⟨b, 0, none⟩) ((sealL (bl t)).map byteV) := by rw [← htk]; exact (Rd.of_block0 hh).take _
  have hcell : w3.cell? ((⟨b, 0, none⟩ : Addr).add ((j : Int).toNat * 1)) = some (byteV (sealL (bl t))[j]) := by
    obtain ⟨p, hp, hc⟩ := hrd j (byteV (sealL (bl t))[j]) (by simp [hj])
    cases hp
    rw [Int.toNat_natCast, Nat.mul_one]
    exact hc
  refine ⟨_, hcell, IFB_eq (fun he => ⟨rfl, done⟩) (fun hne => ⟨⟨by omega, by rw [hsl]; omega⟩, ?_⟩)⟩
  rw [Int.toNat_natCast]
  refine sto_byte hh (by omega) htk hj fun w4 K4 hrd4 => ?_
  refine string_of_bytes tbytes (by rw [hsl]; simp) hrd4 ⟨_, rfl, ?_⟩
  refine (net_Unseal_ok w4 _ (by rw [size_sof]; simp; omega)).mono ?_
  rintro _ w6 ⟨_, rfl, rfl, B6⟩
  refine ⟨_, _, by rw [unsealV_open], IFB_true ⟨?_, ?_⟩⟩
  · have hun : unsealL ((sealL (bl t)).set j c) = none := unseal_turned (bl t) j c _ (List.getElem?_eq_getElem hj) (fun he => hne (by rw [he]))
    unfold unE
    rw [bl_sof, hun]
    rfl
  · have hw2 := (below_trans B1 B2).size
    exact (done.trans (K4.below (B := w.heap.size) (by have := B3.size; omega) (fun k hk he => by omega))).trans (B6.mono (by have := B3.size; have := K4.size; omega))
end Go.Proofs.Ytijjimoooflkaaa
