/-
  The walk of kmodel.iota0.
-/
import Derived.Test.YgcsadKoff
namespace Go.Proofs.Ygcsad
open Go.RowKit

/-- The bit z of a word. -/
def cbit (c : BitVec 64) (z : Nat) : Bool := c.getLsbD z
/-- The first n bits of lane 0, 0 mixed with a constant. -/
def iotaB (c : BitVec 64) (s : Nat → Bool) (n : Nat) : Nat → Bool := fun j => if j < n then s j != cbit c j else s j

theorem U_bit (c : BitVec 64) (z : Nat) : (bits .and .u64 (U c / 2 ^ z) 1 == 1) = cbit c z := by
  unfold cbit
  rw [U_shr, show (1 : Int) = ((1 : Nat) : Int) from rfl, U_andc _ 1 (by decide)]
  have : BitVec.ofNat 64 1 = 1#64 := rfl
  rw [this]
  have h : ∀ x : BitVec 64, (U (x &&& 1#64) == ((1 : Nat) : Int)) = x.getLsbD 0 := by
    intro x
    unfold U
    rw [BitVec.toNat_and]
    have : (1#64 : BitVec 64).toNat = 1 := rfl
    rw [this, Nat.and_one_is_mod, BitVec.getLsbD, Nat.testBit_zero]
    rcases Nat.mod_two_eq_zero_or_one x.toNat with e | e <;> simp [e]
  rw [h, BitVec.getLsbD_ushiftRight, Nat.add_zero]

set_option maxRecDepth 20000 in
set_option maxHeartbeats 1000000 in
theorem iota26 (w : World) (b T i : Nat) (s : Nat → Bool) (hi : i < 24) (hr : Row w b T 1600 (boolV s)) :
    Calls Sadg.prog 26 #[.pointer (some ⟨b, 0, none⟩), .int .u8 i] w fun e w' => e = .returned (.tuple #[]) ∧ Row w' b T 1600 (boolV (iotaB (constTo i 7) s 64)) ∧ Only [b] w w' := by
  go_enter Sadg.func26, Sadg.ntmps26
  go_wp2_with fail
  refine (const32 _ i hi).mono ?_
  rintro e w1 ⟨rfl, honly1⟩
  have hrow1 := honly1.row hr (by simp)
  generalize hcc : constTo i 7 = c
  have HC := hide' hcc
  clear hcc
  go_wp2
  go_loopw [8] (fun v wr => ∃ z : Nat, z ≤ 64 ∧ v = .int .i64 z ∧ Row wr b T 1600 (boolV (iotaB c s z)) ∧ Only [b] w wr) (fun v _ => 64 - (intOf v).toNat)
  case atStart => exact ⟨0, by omega, rfl, hrow1.congr (fun j _ => by unfold boolV iotaB; rw [if_neg (by omega)]), (Only.refl _ _).step honly1 (by simp)⟩
  case round =>
    obtain ⟨z, hz, rfl, hrow, honly⟩ := hrel
    by_cases hlt : z < 64
    · have hc := hrow.cell (i := z) (by omega)
      have hf := hrow.frozen z
      unfold boolV at hc
      have hu := U_bit c z
      have g1 : (z : Int) < 64 := by omega
      go_wp2_with fail
      go_region
      go_wp2
      go_roundw
      case rel =>
        refine ⟨z + 1, by omega, by go_num, ?_, (honly.setCell (.inl (by simp)) _).drew⟩
        refine (hrow.set z _).drew.congr (fun j _ => ?_)
        unfold boolV iotaB
        rw [upd_ap]
        by_cases h1 : j = z
        · subst h1
          rw [if_pos rfl, if_pos (Nat.lt_succ_self j), if_neg (Nat.lt_irrefl j)]
          rfl
        · rw [if_neg h1]
          by_cases h2 : j < z
          · rw [if_pos h2, if_pos (by omega)]
          · rw [if_neg h2, if_neg (by omega)]
      case measure => simp [intOf]; omega
    · obtain rfl : z = 64 := by omega
      go_wp2
      go_end0
      exact ⟨rfl, by rw [HC.out]; exact hrow, honly⟩
end Go.Proofs.Ygcsad
