/-
  The plain law of the hash: kmodel's sponge of bits against keccak's sponge of lanes.
-/
import Derived.Test.YgcsadKsum
namespace Go.Proofs.Ygcsad
open Go.RowKit

theorem or128_bit : ∀ (x : BitVec 8) (b : Fin 8), (x ||| 128#8).getLsbD b.val = (x.getLsbD b.val || decide (b.val = 7)) := by decide +kernel
theorem or1_bit : ∀ (x : BitVec 8) (b : Fin 8), (x ||| 1#8).getLsbD b.val = (x.getLsbD b.val || decide (b.val = 0)) := by decide +kernel

theorem msg1_bit (d : Nat → BitVec 8) (len j b : Nat) (hb : b < 8) : (msg1 d len j).getLsbD b = ((decide (j < len) && (d j).getLsbD b) || decide (j = len ∧ b = 0)) := by
  unfold msg1
  rw [upd_ap]
  by_cases h : j = len
  · subst h
    rw [if_pos rfl, or1_bit _ ⟨b, hb⟩, msg0_at, if_neg (Nat.lt_irrefl j)]
    simp
  · rw [if_neg h, msg0_at]
    by_cases h2 : j < len
    · rw [if_pos h2]; simp [h, h2]
    · rw [if_neg h2]; simp [h, h2]
theorem msg2_bit (d : Nat → BitVec 8) (len j b : Nat) (hb : b < 8) : (msg2 d len j).getLsbD b = ((msg1 d len j).getLsbD b || decide (j = len / 136 * 136 + 135 ∧ b = 7)) := by
  unfold msg2
  rw [upd_ap]
  by_cases h : j = len / 136 * 136 + 135
  · subst h
    rw [if_pos rfl, or128_bit _ ⟨b, hb⟩]
    simp
  · rw [if_neg h]
    simp [h]
theorem kb2_bits (d : Nat → BitVec 8) (len i : Nat) : kb2 d len i = (msg2 d len (i / 8)).getLsbD (i % 8) := by
  rw [msg2_bit d len _ _ (by omega), msg1_bit d len _ _ (by omega)]
  unfold kb2 kb1
  rw [upd_ap, upd_ap]
  by_cases h1 : i = 1088 * (len / 136) + 1087
  · rw [if_pos h1]
    have : i / 8 = len / 136 * 136 + 135 ∧ i % 8 = 7 := by omega
    simp [this]
  · rw [if_neg h1]
    have n1 : ¬ (i / 8 = len / 136 * 136 + 135 ∧ i % 8 = 7) := by omega
    by_cases h2 : i = 8 * len
    · rw [if_pos h2]
      have : i / 8 = len ∧ i % 8 = 0 := by omega
      simp [this]
    · rw [if_neg h2]
      have n2 : ¬ (i / 8 = len ∧ i % 8 = 0) := by omega
      unfold kb bbit
      by_cases h3 : i < 8 * len
      · have h4 : i / 8 < len := by omega
        rw [if_pos h3]
        simp [n1, n2, h4]
      · have h4 : ¬ i / 8 < len := by omega
        rw [if_neg h3]
        simp [n1, n2, h4]

theorem bits_abs (l : Nat → BitVec 64) (p : Nat → BitVec 8) (i : Nat) : (absL l p 17 (i / 64)).getLsbD (i % 64) = ((l (i / 64)).getLsbD (i % 64) != (decide (i < 1088) && (p (i / 8)).getLsbD (i % 8))) := by
  unfold absL
  by_cases h : i / 64 < 17
  · have h1 : i < 1088 := by omega
    rw [if_pos h, BitVec.getLsbD_xor, turned_be, bits_xorTo _ 8 _ (by omega)]
    have e1 : 8 * (i / 64) + i % 64 / 8 = i / 8 := by omega
    have e2 : i % 64 % 8 = i % 8 := by omega
    have e3 : i % 64 < 8 * 8 := by omega
    rw [e1, e2]
    simp only [h1, e3, decide_true, Bool.true_and]
  · have h1 : ¬ i < 1088 := by omega
    rw [if_neg h]
    simp [h1]

theorem take_law (m : Nat → BitVec 8) (M : Nat → Bool) (hM : ∀ i, M i = (m (i / 8)).getLsbD (i % 8)) : ∀ k i, i < 1600 → kTake M k i = ((spL m (k / 1088) (i / 64)).getLsbD (i % 64) != (decide (i < k % 1088) && M (1088 * (k / 1088) + i)))
  | 0, i, _ => by simp [kTake, spL]
  | k + 1, i, hi => by
    have ih := take_law m M hM k
    rw [kTake, kstep]
    have hs : ∀ j, j < 1600 → upd (kTake M k) (k % 1088) (kTake M k (k % 1088) != M k) j = ((spL m (k / 1088) (j / 64)).getLsbD (j % 64) != (decide (j < k % 1088 + 1) && M (1088 * (k / 1088) + j))) := by
      intro j hj
      rw [upd_ap]
      by_cases h : j = k % 1088
      · subst h
        rw [if_pos rfl, ih _ (by omega)]
        have e : 1088 * (k / 1088) + k % 1088 = k := by omega
        rw [e]
        simp
      · rw [if_neg h, ih j hj]
        by_cases h2 : j < k % 1088
        · have h3 : j < k % 1088 + 1 := by omega
          simp [h2, h3]
        · have h3 : ¬ j < k % 1088 + 1 := by omega
          simp [h2, h3]
    by_cases h : k % 1088 = 1087
    · rw [if_pos h]
      have e1 : (k + 1) % 1088 = 0 := by omega
      have e2 : (k + 1) / 1088 = k / 1088 + 1 := by omega
      have hl : ∀ j, j < 1600 → upd (kTake M k) (k % 1088) (kTake M k (k % 1088) != M k) j = (absL (spL m (k / 1088)) (fun j => m (136 * (k / 1088) + j)) 17 (j / 64)).getLsbD (j % 64) := by
        intro j hj
        rw [hs j hj, bits_abs, h, hM]
        have e3 : (1088 * (k / 1088) + j) / 8 = 136 * (k / 1088) + j / 8 := by omega
        have e4 : (1088 * (k / 1088) + j) % 8 = j % 8 := by omega
        rw [e3, e4]
      rw [perm_law hl i hi, e1, e2, spL]
      simp
    · rw [if_neg h, hs i hi]
      have e1 : (k + 1) % 1088 = k % 1088 + 1 := by omega
      have e2 : (k + 1) / 1088 = k / 1088 := by omega
      rw [e1, e2]

theorem out_bits (S : Nat → Bool) (j b : Nat) (hb : b < 8) : ∀ k, (outK S k j).getLsbD b = (decide (8 * j + b < k) && S (8 * j + b))
  | 0 => by simp [outK]
  | k + 1 => by
    have ih := out_bits S j b hb k
    rw [outK]
    by_cases hk : S k = true
    · rw [if_pos hk, upd_ap]
      by_cases h : j = k / 8
      · have hsh : ∀ (c r : Fin 8), (1#8 <<< c.val).getLsbD r.val = decide (r.val = c.val) := by decide +kernel
        rw [if_pos h, BitVec.getLsbD_or, ← h, ih, hsh ⟨k % 8, by omega⟩ ⟨b, hb⟩]
        by_cases h1 : 8 * j + b < k
        · have h2 : 8 * j + b < k + 1 := by omega
          have h3 : ¬ b = k % 8 := by omega
          simp [h1, h2, h3]
        · by_cases h2 : 8 * j + b = k
          · have h3 : b = k % 8 := by omega
            rw [h2]
            simp [h3, hk]
          · have h3 : ¬ 8 * j + b < k + 1 := by omega
            have h4 : ¬ b = k % 8 := by omega
            simp [h1, h3, h4]
      · rw [if_neg h, ih]
        by_cases h1 : 8 * j + b < k
        · have h2 : 8 * j + b < k + 1 := by omega
          simp [h1, h2]
        · have h2 : ¬ 8 * j + b < k + 1 := by omega
          simp [h1, h2]
    · rw [if_neg hk, ih]
      by_cases h1 : 8 * j + b < k
      · have h2 : 8 * j + b < k + 1 := by omega
        simp [h1, h2]
      · by_cases h2 : 8 * j + b = k
        · rw [h2]; simp [hk]
        · have h3 : ¬ 8 * j + b < k + 1 := by omega
          simp [h1, h3]

theorem spongeL_sp (d : Nat → BitVec 8) (len : Nat) : spL (msg2 d len) (len / 136 + 1) = spongeL d len := by
  have h := sponge_law d len
  rw [takeL_at, show (len / 136 * 136 + 136) % 136 = 0 from by omega, pL_zero, show (len / 136 * 136 + 136) / 136 = len / 136 + 1 from by omega] at h
  exact h

/-- THE LAW OF THE HASH. -/
theorem hash_law (d : Nat → BitVec 8) (len j : Nat) (hj : j < 32) : outK (kTake (kb2 d len) (1088 * (len / 136) + 1088)) 256 j = outB (spongeL d len) j := by
  apply BitVec.eq_of_getLsbD_eq
  intro b hb
  rw [out_bits _ _ _ hb, take_law (msg2 d len) _ (kb2_bits d len) _ _ (by omega), out_byte, BitVec.getLsbD_setWidth, BitVec.getLsbD_ushiftRight]
  have e1 : (1088 * (len / 136) + 1088) % 1088 = 0 := by omega
  have e2 : (1088 * (len / 136) + 1088) / 1088 = len / 136 + 1 := by omega
  have e3 : (8 * j + b) / 64 = j / 8 := by omega
  have e4 : (8 * j + b) % 64 = 8 * (j % 8) + b := by omega
  have e5 : 8 * j + b < 256 := by omega
  rw [e1, e2, e3, e4, spongeL_sp]
  simp [e5, hb]

theorem ksum14 (w : World) (a0 : Option Addr) (len cap : Nat) (d : Nat → BitVec 8) (hd : Data w a0 len cap d) (hreach : 8 * len + 2176 ≤ 281474976710656) :
    Calls Sadg.prog 14 #[.slice a0 len cap] w fun e w' => e = .returned (.agg (rowC 32 (byteV (outB (spongeL d len))))) ∧ Only [] w w' := by
  have h := ksum14' w a0 len cap d hd hreach
  rw [rowC_congr (g := byteV (outB (spongeL d len))) (fun j hj => by unfold byteV; rw [hash_law d len j hj])] at h
  exact h
end Go.Proofs.Ygcsad
