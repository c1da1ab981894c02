/-
  The walk of keccak.absorb.
-/
import Derived.Test.YgcsadF
namespace Go.Proofs.Ygcsad
open Go.RowKit

/-- The first n lanes with a block laid on them. -/
def absL (l : Nat → BitVec 64) (p : Nat → BitVec 8) (n : Nat) : Nat → BitVec 64 := fun i => if i < n then l i ^^^ turnedB (be64 fun j => p (8 * i + j)) else l i

/-- n bytes lie in block b from offset o on. -/
def Bytes (w : World) (b o n : Nat) (p : Nat → BitVec 8) : Prop := ∀ j, j < n → w.cell? ⟨b, o + j, none⟩ = some (.int .u8 (B8 (p j)))
theorem Bytes.only {w w' : World} {b o n : Nat} {p : Nat → BitVec 8} {bs : List Nat} (h : Bytes w b o n p) (k : Only bs w w') (hb : b ∉ bs) : Bytes w' b o n p := by
  intro j hj
  have := h j hj
  rw [k.cell (World.block_lt_of_cell? w _ this) hb]
  exact this

theorem abs_next {w1 : World} {b T k : Nat} {l : Nat → BitVec 64} {p : Nat → BitVec 8} (h : Row w1 b T 25 (laneV (absL l p k))) :
    Row (w1.drew.setCell ⟨b, k, none⟩ (.int .u64 (U (l k ^^^ turnedB (be64 fun j => p (8 * k + j)))))) b T 25 (laneV (absL l p (k + 1))) := by
  refine (h.drew.set k _).congr ?_
  intro i _
  simp only [laneV, upd, absL]
  by_cases h1 : i = k
  · subst h1; simp
  · rw [if_neg h1]
    by_cases h2 : i < k
    · rw [if_pos h2, if_pos (by omega)]
    · rw [if_neg h2, if_neg (by omega)]

attribute [local go_sem] U_xor

set_option maxHeartbeats 1000000 in
theorem absorb18 (w : World) (b T b2 o2 : Nat) (l : Nat → BitVec 64) (p : Nat → BitVec 8) (hr : Row w b T 25 (laneV l)) (hp : Bytes w b2 o2 136 p) (hne : b2 ≠ b) :
    Calls Sadg.prog 18 #[.pointer (some ⟨b, 0, none⟩), .pointer (some ⟨b2, o2, none⟩)] w fun e w' => e = .returned (.tuple #[]) ∧ Row w' b T 25 (laneV (fL (absL l p 17) 24)) ∧ Only [b] w w' := by
  go_enter Sadg.func18, Sadg.ntmps18
  go_wp2
  go_loopw [4] (fun i wr => ∃ k : Nat, k ≤ 17 ∧ i = .int .i64 k ∧ Row wr b T 25 (laneV (absL l p k)) ∧ Only [b] w wr) (fun i _ => 17 - (intOf i).toNat)
  case atStart => exact ⟨0, by omega, rfl, hr.congr (fun i _ => by simp [laneV, absL]), Only.refl _ _⟩
  case round =>
    obtain ⟨k, hk, rfl, hrow, honly⟩ := hrel
    by_cases hlt : k < 17
    · have hby := hp.only honly (by simpa using hne)
      go_wp2_with fail
      rw [show (8 * (k : Int)) = ((8 * k : Nat) : Int) from by omega]
      refine (be27 _ b2 o2 136 136 (8 * k) (fun j => p (8 * k + j)) (by omega) (by omega) (by decide) ?_ ?_ ?_ ?_ ?_ ?_ ?_ ?_).mono ?_
      iterate 8 (first | exact hby _ (by omega) | (rw [Nat.add_assoc]; exact hby _ (by omega)))
      rintro e w1 ⟨rfl, honly1⟩
      have hrow1 := honly1.row hrow (by simp)
      have hc : w1.cell? ⟨b, k, none⟩ = some (.int .u64 (U (l k))) := by
        have := hrow1.cell (i := k) (by omega)
        simpa [laneV, absL] using this
      have hz := hrow1.frozen k
      have h0 : (0 : Int) ≤ (k : Int) := by omega
      have h17 : (k : Int) < 17 := by omega
      have h25 : (k : Int) < 25 := by omega
      go_wp2_with fail
      go_region_with (go_at_call 20; refine (turned20 _ _).mono ?_; rintro e w' ⟨rfl, rfl⟩)
      all_goals
        go_wp2
        go_roundw
        case rel => exact ⟨k + 1, by omega, by go_num, abs_next hrow1, ((honly.step honly1 (by simp)).drew.setCell (.inl (by simp)) _)⟩
        case measure => simp [intOf]; omega
    · obtain rfl : k = 17 := by omega
      go_wp2_with fail
      refine (f8 _ b T _ hrow).mono ?_
      rintro e w1 ⟨rfl, hrow1, honly1⟩
      go_wp2
      go_end0
      exact ⟨rfl, hrow1, honly.step honly1 (fun _ h => .inl h)⟩
end Go.Proofs.Ygcsad
