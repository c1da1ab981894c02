/-
  The walk of keccak.F: 24 rounds.
-/
import Derived.Test.YgcsadRound
import Derived.Deep.RegionHeld3
import Derived.Deep.DrawnRows
namespace Go.Proofs.Ygcsad
open Go.RowKit

/-- The lanes behind n rounds. -/
def fL (l : Nat → BitVec 64) : Nat → Nat → BitVec 64
  | 0 => l
  | n + 1 => upd (roundL (fL l n)) 0 (roundL (fL l n) 0 ^^^ rcB n)

theorem row_next {w1 : World} {b T k : Nat} {l : Nat → BitVec 64} (h : Row w1 b T 25 (laneV (roundL (fL l k)))) :
    Row (w1.drew.setCell ⟨b, 0, none⟩ (.int .u64 (U (roundL (fL l k) 0 ^^^ rcB k)))) b T 25 (laneV (fL l (k + 1))) := by
  refine (h.drew.set 0 _).congr ?_
  intro i _
  simp only [fL, laneV, upd]
  split <;> rfl

attribute [local go_sem] U_xor

set_option maxHeartbeats 1000000 in
theorem f8 (w : World) (b T : Nat) (l : Nat → BitVec 64) (hr : Row w b T 25 (laneV l)) :
    Calls Sadg.prog 8 #[.pointer (some ⟨b, 0, none⟩)] w fun e w' => e = .returned (.tuple #[]) ∧ Row w' b T 25 (laneV (fL l 24)) ∧ Only [b] w w' := by
  go_enter Sadg.func8, Sadg.ntmps8
  go_wp2
  go_loopw [2] (fun i wr => ∃ k : Nat, k ≤ 24 ∧ i = .int .u8 k ∧ Row wr b T 25 (laneV (fL l k)) ∧ Only [b] w wr) (fun i _ => 24 - (intOf i).toNat)
  case atStart => exact ⟨0, by omega, rfl, hr, Only.refl _ _⟩
  case round =>
    obtain ⟨k, hk, rfl, hrow, honly⟩ := hrel
    by_cases hlt : k < 24
    · go_wp2_with fail
      refine (round15 _ b T _ hrow).mono ?_
      rintro e w1 ⟨rfl, hrow1, honly1⟩
      have hc := hrow1.cell (i := 0) (by omega)
      have hz := hrow1.frozen 0
      unfold laneV at hc
      go_wp2_with fail
      go_region_with (go_at_call 16; refine (rc16 k hlt _).mono ?_; rintro e w' ⟨rfl, rfl⟩)
      all_goals
        go_wp2
        go_roundw
        case rel => exact ⟨k + 1, by omega, by go_num, row_next hrow1, (honly.step honly1 (fun _ h => .inl h)).drew.setCell (.inl (by simp)) _⟩
        case measure => simp [intOf]; omega
    · obtain rfl : k = 24 := by omega
      go_wp2
      go_end0
      exact ⟨rfl, hrow, honly⟩
end Go.Proofs.Ygcsad
