/-
  The walk of keccak.round.
-/
import Derived.Test.YgcsadBe
import Derived.Test.YgcsadLanes
namespace Go.Proofs.Ygcsad
open Go.RowKit

attribute [local go_sem] U_xor U_and U_or U_not'

/-- The lanes as cells. -/
def laneV (l : Nat → BitVec 64) (i : Nat) : Value := .int .u64 (U (l i))

theorem lt25 {p : Nat → Prop} (h0 : p 0) (h1 : p 1) (h2 : p 2) (h3 : p 3) (h4 : p 4) (h5 : p 5) (h6 : p 6) (h7 : p 7) (h8 : p 8) (h9 : p 9) (h10 : p 10) (h11 : p 11) (h12 : p 12) (h13 : p 13) (h14 : p 14) (h15 : p 15) (h16 : p 16) (h17 : p 17) (h18 : p 18) (h19 : p 19) (h20 : p 20) (h21 : p 21) (h22 : p 22) (h23 : p 23) (h24 : p 24) (i : Nat) (hi : i < 25) : p i := by
  match i, hi with
  | 0, _ => exact h0
  | 1, _ => exact h1
  | 2, _ => exact h2
  | 3, _ => exact h3
  | 4, _ => exact h4
  | 5, _ => exact h5
  | 6, _ => exact h6
  | 7, _ => exact h7
  | 8, _ => exact h8
  | 9, _ => exact h9
  | 10, _ => exact h10
  | 11, _ => exact h11
  | 12, _ => exact h12
  | 13, _ => exact h13
  | 14, _ => exact h14
  | 15, _ => exact h15
  | 16, _ => exact h16
  | 17, _ => exact h17
  | 18, _ => exact h18
  | 19, _ => exact h19
  | 20, _ => exact h20
  | 21, _ => exact h21
  | 22, _ => exact h22
  | 23, _ => exact h23
  | 24, _ => exact h24
  | _ + 25, h => exact absurd h (by omega)

set_option maxRecDepth 100000 in
set_option maxHeartbeats 4000000 in
theorem round15 (w : World) (b T : Nat) (l : Nat → BitVec 64) (hr : Row w b T 25 (laneV l)) :
    Calls Sadg.prog 15 #[.pointer (some ⟨b, 0, none⟩)] w fun e w' => e = .returned (.tuple #[]) ∧ Row w' b T 25 (laneV (roundL l)) ∧ Only [b] w w' := by
  have h0 : w.cell? ⟨b, 0, none⟩ = some (.int .u64 (U (l 0))) := hr.cell (i := 0) (by omega)
  have h1 : w.cell? ⟨b, 1, none⟩ = some (.int .u64 (U (l 1))) := hr.cell (i := 1) (by omega)
  have h2 : w.cell? ⟨b, 2, none⟩ = some (.int .u64 (U (l 2))) := hr.cell (i := 2) (by omega)
  have h3 : w.cell? ⟨b, 3, none⟩ = some (.int .u64 (U (l 3))) := hr.cell (i := 3) (by omega)
  have h4 : w.cell? ⟨b, 4, none⟩ = some (.int .u64 (U (l 4))) := hr.cell (i := 4) (by omega)
  have h5 : w.cell? ⟨b, 5, none⟩ = some (.int .u64 (U (l 5))) := hr.cell (i := 5) (by omega)
  have h6 : w.cell? ⟨b, 6, none⟩ = some (.int .u64 (U (l 6))) := hr.cell (i := 6) (by omega)
  have h7 : w.cell? ⟨b, 7, none⟩ = some (.int .u64 (U (l 7))) := hr.cell (i := 7) (by omega)
  have h8 : w.cell? ⟨b, 8, none⟩ = some (.int .u64 (U (l 8))) := hr.cell (i := 8) (by omega)
  have h9 : w.cell? ⟨b, 9, none⟩ = some (.int .u64 (U (l 9))) := hr.cell (i := 9) (by omega)
  have h10 : w.cell? ⟨b, 10, none⟩ = some (.int .u64 (U (l 10))) := hr.cell (i := 10) (by omega)
  have h11 : w.cell? ⟨b, 11, none⟩ = some (.int .u64 (U (l 11))) := hr.cell (i := 11) (by omega)
  have h12 : w.cell? ⟨b, 12, none⟩ = some (.int .u64 (U (l 12))) := hr.cell (i := 12) (by omega)
  have h13 : w.cell? ⟨b, 13, none⟩ = some (.int .u64 (U (l 13))) := hr.cell (i := 13) (by omega)
  have h14 : w.cell? ⟨b, 14, none⟩ = some (.int .u64 (U (l 14))) := hr.cell (i := 14) (by omega)
  have h15 : w.cell? ⟨b, 15, none⟩ = some (.int .u64 (U (l 15))) := hr.cell (i := 15) (by omega)
  have h16 : w.cell? ⟨b, 16, none⟩ = some (.int .u64 (U (l 16))) := hr.cell (i := 16) (by omega)
  have h17 : w.cell? ⟨b, 17, none⟩ = some (.int .u64 (U (l 17))) := hr.cell (i := 17) (by omega)
  have h18 : w.cell? ⟨b, 18, none⟩ = some (.int .u64 (U (l 18))) := hr.cell (i := 18) (by omega)
  have h19 : w.cell? ⟨b, 19, none⟩ = some (.int .u64 (U (l 19))) := hr.cell (i := 19) (by omega)
  have h20 : w.cell? ⟨b, 20, none⟩ = some (.int .u64 (U (l 20))) := hr.cell (i := 20) (by omega)
  have h21 : w.cell? ⟨b, 21, none⟩ = some (.int .u64 (U (l 21))) := hr.cell (i := 21) (by omega)
  have h22 : w.cell? ⟨b, 22, none⟩ = some (.int .u64 (U (l 22))) := hr.cell (i := 22) (by omega)
  have h23 : w.cell? ⟨b, 23, none⟩ = some (.int .u64 (U (l 23))) := hr.cell (i := 23) (by omega)
  have h24 : w.cell? ⟨b, 24, none⟩ = some (.int .u64 (U (l 24))) := hr.cell (i := 24) (by omega)
  have g : ∀ i, w.frozen? ⟨b, i, none⟩ = false := fun i => hr.frozen i
  go_enter Sadg.func15, Sadg.ntmps15
  go_wp2
  go_quiet (fail)
  go_wp2
  go_quiet (fail)
  go_wp2
  go_quiet (fail)
  go_wp2
  go_quiet (fail)
  go_wp2
  go_quiet (fail)
  go_wp2_with (go_at_call 21; refine (rot21 _ _ (by decide) (by decide) _).mono ?_; rintro e w' ⟨rfl, rfl⟩)
  go_end0
  refine ⟨rfl, Row.congr ((((((((((((((((((((((((((hr.drewN _).set 0 _).set 1 _).set 2 _).set 3 _).set 4 _).set 5 _).set 6 _).set 7 _).set 8 _).set 9 _).set 10 _).set 11 _).set 12 _).set 13 _).set 14 _).set 15 _).set 16 _).set 17 _).set 18 _).set 19 _).set 20 _).set 21 _).set 22 _).set 23 _).set 24 _) ?_, ((((((((((((((((((((((((((Only.refl _ _).drewN _).setCell (.inl (by simp)) _).setCell (.inl (by simp)) _).setCell (.inl (by simp)) _).setCell (.inl (by simp)) _).setCell (.inl (by simp)) _).setCell (.inl (by simp)) _).setCell (.inl (by simp)) _).setCell (.inl (by simp)) _).setCell (.inl (by simp)) _).setCell (.inl (by simp)) _).setCell (.inl (by simp)) _).setCell (.inl (by simp)) _).setCell (.inl (by simp)) _).setCell (.inl (by simp)) _).setCell (.inl (by simp)) _).setCell (.inl (by simp)) _).setCell (.inl (by simp)) _).setCell (.inl (by simp)) _).setCell (.inl (by simp)) _).setCell (.inl (by simp)) _).setCell (.inl (by simp)) _).setCell (.inl (by simp)) _).setCell (.inl (by simp)) _).setCell (.inl (by simp)) _).setCell (.inl (by simp)) _⟩
  intro i hi
  exact lt25 (p := fun i => _ = laneV (roundL l) i) (by kernel_rfl) (by kernel_rfl) (by kernel_rfl) (by kernel_rfl) (by kernel_rfl) (by kernel_rfl) (by kernel_rfl) (by kernel_rfl) (by kernel_rfl) (by kernel_rfl) (by kernel_rfl) (by kernel_rfl) (by kernel_rfl) (by kernel_rfl) (by kernel_rfl) (by kernel_rfl) (by kernel_rfl) (by kernel_rfl) (by kernel_rfl) (by kernel_rfl) (by kernel_rfl) (by kernel_rfl) (by kernel_rfl) (by kernel_rfl) (by kernel_rfl) i hi
end Go.Proofs.Ygcsad
