/-
  The walk of kmodel.chi.
-/
import Derived.Test.YgcsadKtheta
import Derived.Deep.RegionHeld3
namespace Go.Proofs.Ygcsad
open Go.RowKit

theorem zero52 : (Sadg.prog.info? 52).map (·.zero) = some (some (.agg (rowC 1600 fun _ => .bool false))) := by kernel_rfl
theorem size52 : (Sadg.prog.info? 52).map (·.size) = some 1600 := by kernel_rfl

/-- One bit of chi. -/
def chiAt (s : Nat → Bool) (x y z : Nat) : Bool := s (x * 320 + y * 64 + z) != (s ((x + 2) % 5 * 320 + y * 64 + z) && !s ((x + 1) % 5 * 320 + y * 64 + z))
/-- chi. -/
def chiB (s : Nat → Bool) : Nat → Bool := fun j => chiAt s (j / 320) (j % 320 / 64) (j % 64)
/-- chi behind x columns, y lanes and z places. -/
def chiTo (s : Nat → Bool) (x y z : Nat) : Nat → Bool := fun j => if j < x * 320 + y * 64 + z then chiB s j else false

theorem bit_gt (a b : Bool) : decide (b.toNat < a.toNat) = (a && !b) := by cases a <;> cases b <;> rfl

theorem chiTo_next {s : Nat → Bool} {x y z j : Nat} (hy : y < 5) (hz : z < 64) (v : Bool) (hv : v = chiAt s x y z) : upd (chiTo s x y z) (x * 320 + y * 64 + z) v j = chiTo s x y (z + 1) j := by
  subst hv
  rw [upd_ap]
  unfold chiTo
  by_cases h : j = x * 320 + y * 64 + z
  · subst h
    rw [if_pos rfl, if_pos (by omega)]
    unfold chiB
    rw [show (x * 320 + y * 64 + z) / 320 = x from by omega, show (x * 320 + y * 64 + z) % 64 = z from by omega, show (x * 320 + y * 64 + z) % 320 / 64 = y from by omega]
  · rw [if_neg h]
    by_cases h2 : j < x * 320 + y * 64 + z
    · rw [if_pos h2, if_pos (by omega)]
    · rw [if_neg h2, if_neg (by omega)]
theorem chiTo_y (s : Nat → Bool) (x y : Nat) : chiTo s x (y + 1) 0 = chiTo s x y 64 := by
  funext j; unfold chiTo; rw [show x * 320 + (y + 1) * 64 + 0 = x * 320 + y * 64 + 64 from by omega]
theorem chiTo_x (s : Nat → Bool) (x : Nat) : chiTo s (x + 1) 0 0 = chiTo s x 5 0 := by
  funext j; unfold chiTo; rw [show (x + 1) * 320 + 0 * 64 + 0 = x * 320 + 5 * 64 + 0 from by omega]

set_option maxRecDepth 20000 in
set_option maxHeartbeats 2000000 in
theorem chi25 (w : World) (b T : Nat) (s : Nat → Bool) (hr : Row w b T 1600 (boolV s)) :
    Calls Sadg.prog 25 #[.pointer (some ⟨b, 0, none⟩)] w fun e w' => e = .returned (.agg (rowC 1600 (boolV (chiB s)))) ∧ Only [] w w' := by
  go_enter Sadg.func25, Sadg.ntmps25
  go_wp2_with (refine wpl_alloc rfl 52 rfl 1600 _ zero52 ?_; intro w1 rb hc1 hc2 hrow1 honly1; go_simp)
  have hbl := hr.lt
  have hcb : rb ≠ b := by omega
  have hr1 := honly1.row hr (by simp)
  go_loopw [10] (fun v wr => ∃ x : Nat, x ≤ 5 ∧ v = .int .i64 x ∧ Row wr rb 52 1600 (boolV (chiTo s x 0 0)) ∧ Row wr b T 1600 (boolV s) ∧ Only [] w wr) (fun v _ => 5 - (intOf v).toNat)
  case atStart => exact ⟨0, by omega, rfl, hrow1.congr (fun j _ => by simp [boolV, chiTo]), hr1, honly1⟩
  case round =>
    obtain ⟨x, hx, rfl, hrr, hrb, honly⟩ := hrel
    clear hrow1 honly1 hr1
    by_cases hltx : x < 5
    · have dx : decide ((x : Int) < 5) = true := by simp; omega
      go_wp2
      go_loopw [13] (fun v wr => ∃ y : Nat, y ≤ 5 ∧ v = .int .i64 y ∧ Row wr rb 52 1600 (boolV (chiTo s x y 0)) ∧ Row wr b T 1600 (boolV s) ∧ Only [] w wr) (fun v _ => 5 - (intOf v).toNat)
      case atStart => exact ⟨0, by omega, rfl, hrr, hrb, honly⟩
      case round =>
        clear hrr hrb honly
        obtain ⟨y, hy, rfl, hrr, hrb, honly⟩ := hrel
        by_cases hlty : y < 5
        · have dy : decide ((y : Int) < 5) = true := by simp; omega
          go_wp2
          go_loopw [42] (fun v wr => ∃ z : Nat, z ≤ 64 ∧ v = .int .i64 z ∧ Row wr rb 52 1600 (boolV (chiTo s x y z)) ∧ Row wr b T 1600 (boolV s) ∧ Only [] w wr) (fun v _ => 64 - (intOf v).toNat)
          case atStart => exact ⟨0, by omega, rfl, hrr, hrb, honly⟩
          case round =>
            clear hrr hrb honly
            obtain ⟨z, hz, rfl, hrr, hrb, honly⟩ := hrel
            by_cases hltz : z < 64
            · have dz : decide ((z : Int) < 64) = true := by simp; omega
              have k1 := hrb.cell (i := x * 320 + y * 64 + z) (by omega)
              have k2 := hrb.cell (i := (x + 2) % 5 * 320 + y * 64 + z) (by omega)
              have k3 := hrb.cell (i := (x + 1) % 5 * 320 + y * 64 + z) (by omega)
              have k4 := hrr.cell (i := x * 320 + y * 64 + z) (by omega)
              have k5 := hrr.frozen (x * 320 + y * 64 + z)
              unfold boolV at k1 k2 k3 k4
              go_wp2_with fail
              have g0 : (0 : Int) ≤ (z : Int) := by omega
              have g1 : (z : Int) < 64 := by omega
              have hbc : b ≠ rb := hcb.symm
              go_region_held3 (fun w' => w'.cell? ⟨b, x * 320 + y * 64 + z, none⟩ = some (.bool (s (x * 320 + y * 64 + z))) ∧ w'.cell? ⟨b, (x + 2) % 5 * 320 + y * 64 + z, none⟩ = some (.bool (s ((x + 2) % 5 * 320 + y * 64 + z))) ∧ w'.cell? ⟨b, (x + 1) % 5 * 320 + y * 64 + z, none⟩ = some (.bool (s ((x + 1) % 5 * 320 + y * 64 + z)))) (go_keep)
                (first | (go_at_call 31; refine (bit31 _ _).mono ?_; rintro e w' ⟨rfl, rfl⟩))
              go_wp2
              go_roundw
              case rel =>
                refine ⟨z + 1, by omega, by go_num, ?_, (hrb.other (a := ⟨rb, x * 320 + y * 64 + z, none⟩) hbc _).drew, (honly.setCell (p := ⟨rb, x * 320 + y * 64 + z, none⟩) (.inr hc1) _).drew⟩
                refine (hrr.set _ _).drew.congr (fun j _ => ?_)
                rw [boolV_upd]
                refine congrArg Value.bool (chiTo_next hlty hltz _ ?_)
                rw [bit_gt]
                rfl
              case measure => simp [intOf]; omega
            · have hrr64 : Row wr rb 52 1600 (boolV (chiTo s x (y + 1) 0)) := by
                have e : z = 64 := by omega
                rw [chiTo_y, ← e]; exact hrr
              go_wp2
              go_roundw
              case rel => exact ⟨y + 1, by omega, by go_num, hrr64, hrb, honly⟩
              case measure => simp [intOf]; omega
        · have hrr5 : Row wr rb 52 1600 (boolV (chiTo s (x + 1) 0 0)) := by
            have e : y = 5 := by omega
            rw [chiTo_x, ← e]; exact hrr
          go_wp2
          go_roundw
          case rel => exact ⟨x + 1, by omega, by go_num, hrr5, hrb, honly⟩
          case measure => simp [intOf]; omega
    · have dx : decide ((x : Int) < 5) = false := by simp; omega
      have hrr5 : Row wr rb 52 1600 (boolV (chiB s)) := hrr.congr (fun j hj => by unfold boolV chiTo; rw [if_pos (by omega)])
      clear hrr
      go_wp2_with (first
        | (refine wpl_load rfl 52 (.tmp 2) rfl rb 52 1600 (boolV (chiB s)) rfl hrr5 _ Sadg.underlying52 rfl size52 ?_; go_simp)
        | (refine wpl_store rfl 52 (.tmp 2) (.tmp 71) rfl rb 52 1600 _ (boolV (chiB s)) rfl rfl hrr5 size52 (fun _ => rfl) ?_; intro w3 hrow3 honly3; go_simp))
      exact bodyPost_ret (results_row rfl _ _ rb 52 1600 _ _ rfl hrow3 Sadg.underlying52 rfl size52) rfl ⟨rfl, honly.step honly3 (by simpa using hc1)⟩
end Go.Proofs.Ygcsad
