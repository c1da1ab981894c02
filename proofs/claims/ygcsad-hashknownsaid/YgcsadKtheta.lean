/-
  The walk of kmodel.theta.
-/
import Derived.Test.YgcsadKiota
namespace Go.Proofs.Ygcsad
open Go.RowKit

theorem zero50 : (Sadg.prog.info? 50).map (·.zero) = some (some (.agg (rowC 320 fun _ => .bool false))) := by kernel_rfl
theorem zero49 : (Sadg.prog.info? 49).map (·.zero) = some (some (.agg (rowC 64 fun _ => .bool false))) := by kernel_rfl

/-- The sum of the first n bits of column x, z. -/
def parTo (s : Nat → Bool) (x z : Nat) : Nat → Bool
  | 0 => false
  | n + 1 => parTo s x z n != s (x * 320 + n * 64 + z)
/-- The sums as they stand behind x columns, y lanes and z places. -/
def colB (s : Nat → Bool) (x y z : Nat) : Nat → Bool := fun j => parTo s (j / 64) (j % 64) (if j / 64 < x then 5 else if j / 64 = x then (if j % 64 < z then y + 1 else y) else 0)
/-- What is mixed into column x at place z. -/
def mixB (s : Nat → Bool) (x z : Nat) : Bool := parTo s ((x + 4) % 5) z 5 != parTo s ((x + 1) % 5) ((z + 63) % 64) 5
/-- theta. -/
def thetaB (s : Nat → Bool) : Nat → Bool := fun j => s j != mixB s (j / 320) (j % 64)
/-- theta behind x columns, y lanes and z places. -/
def thetaTo (s : Nat → Bool) (x y z : Nat) : Nat → Bool := fun j => if j < x * 320 + y * 64 + z then s j != mixB s (j / 320) (j % 64) else s j

theorem colB_next {s : Nat → Bool} {x y z j : Nat} (hz : z < 64) (v : Bool) (hv : v = (colB s x y z (x * 64 + z) != s (x * 320 + y * 64 + z))) :
    upd (colB s x y z) (x * 64 + z) v j = colB s x y (z + 1) j := by
  subst hv
  rw [upd_ap]
  by_cases h : j = x * 64 + z
  · subst h
    rw [if_pos rfl]
    unfold colB
    rw [show (x * 64 + z) / 64 = x from by omega, show (x * 64 + z) % 64 = z from by omega]
    rw [if_neg (Nat.lt_irrefl x), if_pos rfl, if_neg (Nat.lt_irrefl z), if_neg (Nat.lt_irrefl x), if_pos rfl, if_pos (Nat.lt_succ_self z)]
    rfl
  · rw [if_neg h]
    unfold colB
    by_cases h1 : j / 64 < x
    · rw [if_pos h1, if_pos h1]
    · rw [if_neg h1, if_neg h1]
      by_cases h2 : j / 64 = x
      · rw [if_pos h2, if_pos h2]
        by_cases h3 : j % 64 < z
        · rw [if_pos h3, if_pos (by omega)]
        · rw [if_neg h3, if_neg (by omega)]
      · rw [if_neg h2, if_neg h2]
theorem colB_y (s : Nat → Bool) (x y : Nat) : colB s x y 64 = colB s x (y + 1) 0 := by
  funext j
  unfold colB
  rw [if_pos (by omega : j % 64 < 64), if_neg (by omega : ¬ j % 64 < 0)]
theorem colB_x (s : Nat → Bool) (x : Nat) : colB s x 5 0 = colB s (x + 1) 0 0 := by
  funext j
  unfold colB
  by_cases h1 : j / 64 < x
  · rw [if_pos h1, if_pos (by omega)]
  · rw [if_neg h1]
    by_cases h2 : j / 64 = x
    · rw [if_pos h2, if_neg (by omega), if_pos (by omega)]
    · rw [if_neg h2, if_neg (by omega)]
      by_cases h3 : j / 64 = x + 1
      · rw [if_pos h3, if_neg (by omega)]
      · rw [if_neg h3]

theorem colB_at (s : Nat → Bool) {i z : Nat} (hi : i < 5) (hz : z < 64) : colB s 5 0 0 (i * 64 + z) = parTo s i z 5 := by
  unfold colB
  rw [show (i * 64 + z) / 64 = i from by omega, show (i * 64 + z) % 64 = z from by omega, if_pos hi]

/-- The first z places of what is mixed into column x. -/
def dTo (s : Nat → Bool) (x z : Nat) : Nat → Bool := fun j => if j < z then mixB s x j else false
theorem dTo_next {s : Nat → Bool} {x z j : Nat} (v : Bool) (hv : v = (parTo s ((x + 4) % 5) z 5 != parTo s ((x + 1) % 5) ((z + 63) % 64) 5)) : upd (dTo s x z) z v j = dTo s x (z + 1) j := by
  subst hv
  rw [upd_ap]
  unfold dTo
  by_cases h : j = z
  · subst h; rw [if_pos rfl, if_pos (Nat.lt_succ_self j)]; rfl
  · rw [if_neg h]
    by_cases h2 : j < z
    · rw [if_pos h2, if_pos (by omega)]
    · rw [if_neg h2, if_neg (by omega)]
theorem thetaTo_next {s : Nat → Bool} {x y z j : Nat} (hy : y < 5) (hz : z < 64) (v : Bool) (hv : v = (thetaTo s x y z (x * 320 + y * 64 + z) != dTo s x 64 z)) :
    upd (thetaTo s x y z) (x * 320 + y * 64 + z) v j = thetaTo s x y (z + 1) j := by
  subst hv
  rw [upd_ap]
  unfold thetaTo dTo
  by_cases h : j = x * 320 + y * 64 + z
  · subst h
    rw [if_pos rfl, if_neg (by omega), if_pos hz, if_pos (by omega), show (x * 320 + y * 64 + z) / 320 = x from by omega, show (x * 320 + y * 64 + z) % 64 = z from by omega]
  · rw [if_neg h]
    by_cases h2 : j < x * 320 + y * 64 + z
    · rw [if_pos h2, if_pos (by omega)]
    · rw [if_neg h2, if_neg (by omega)]
theorem thetaTo_y (s : Nat → Bool) (x y : Nat) : thetaTo s x (y + 1) 0 = thetaTo s x y 64 := by
  funext j; unfold thetaTo; rw [show x * 320 + (y + 1) * 64 + 0 = x * 320 + y * 64 + 64 from by omega]
theorem thetaTo_x (s : Nat → Bool) (x : Nat) : thetaTo s (x + 1) 0 0 = thetaTo s x 5 0 := by
  funext j; unfold thetaTo; rw [show (x + 1) * 320 + 0 * 64 + 0 = x * 320 + 5 * 64 + 0 from by omega]

set_option maxRecDepth 20000 in
set_option maxHeartbeats 2000000 in
theorem theta22 (w : World) (b T : Nat) (s : Nat → Bool) (hr : Row w b T 1600 (boolV s)) :
    Calls Sadg.prog 22 #[.pointer (some ⟨b, 0, none⟩)] w fun e w' => e = .returned (.tuple #[]) ∧ Row w' b T 1600 (boolV (thetaB s)) ∧ Only [b] w w' := by
  go_enter Sadg.func22, Sadg.ntmps22
  go_wp2_with (refine wpl_alloc rfl 50 rfl 320 _ zero50 ?_; intro w1 cb hc1 hc2 hrow1 honly1; go_simp)
  have hbl := hr.lt
  have hcb : cb ≠ b := by omega
  have hr1 := honly1.row hr (by simp)
  go_loopw [16] (fun v wr => ∃ x : Nat, x ≤ 5 ∧ v = .int .i64 x ∧ Row wr cb 50 320 (boolV (colB s x 0 0)) ∧ Row wr b T 1600 (boolV s) ∧ Only [b] w wr) (fun v _ => 5 - (intOf v).toNat)
  case atStart => exact ⟨0, by omega, rfl, hrow1.congr (fun j _ => by simp [boolV, colB, parTo]), hr1, (Only.refl _ _).step honly1 (by simp)⟩
  case round =>
    obtain ⟨x, hx, rfl, hrc, hrb, honly⟩ := hrel
    clear hrow1 honly1 hr1
    by_cases hltx : x < 5
    · have dx : decide ((x : Int) < 5) = true := by simp; omega
      go_wp2
      go_loopw [19] (fun v wr => ∃ y : Nat, y ≤ 5 ∧ v = .int .i64 y ∧ Row wr cb 50 320 (boolV (colB s x y 0)) ∧ Row wr b T 1600 (boolV s) ∧ Only [b] w wr) (fun v _ => 5 - (intOf v).toNat)
      case atStart => exact ⟨0, by omega, rfl, hrc, hrb, honly⟩
      case round =>
        obtain ⟨y, hy, rfl, hrc, hrb, honly⟩ := hrel
        by_cases hlty : y < 5
        · have dy : decide ((y : Int) < 5) = true := by simp; omega
          go_wp2
          go_loopw [28] (fun v wr => ∃ z : Nat, z ≤ 64 ∧ v = .int .i64 z ∧ Row wr cb 50 320 (boolV (colB s x y z)) ∧ Row wr b T 1600 (boolV s) ∧ Only [b] w wr) (fun v _ => 64 - (intOf v).toNat)
          case atStart => exact ⟨0, by omega, rfl, hrc, hrb, honly⟩
          case round =>
            obtain ⟨z, hz, rfl, hrc, hrb, honly⟩ := hrel
            by_cases hltz : z < 64
            · have dz : decide ((z : Int) < 64) = true := by simp; omega
              have k1 := hrb.cell (i := x * 320 + y * 64 + z) (by omega)
              have k2 := hrc.cell (i := x * 64 + z) (by omega)
              have k3 := hrc.frozen (x * 64 + z)
              unfold boolV at k1 k2
              go_wp2_with fail
              go_region
              go_wp2
              go_region
              go_wp2
              go_roundw
              case rel =>
                refine ⟨z + 1, by omega, by go_num, ?_, (hrb.other (a := ⟨cb, x * 64 + z, none⟩) hcb.symm _).drew.drew, (honly.setCell (p := ⟨cb, x * 64 + z, none⟩) (.inr hc1) _).drew.drew⟩
                refine (hrc.set _ _).drew.drew.congr (fun j _ => ?_)
                rw [boolV_upd]
                exact congrArg Value.bool (colB_next hltz _ rfl)
              case measure => simp [intOf]; omega
            · obtain rfl : z = 64 := by omega
              go_wp2
              go_roundw
              case rel =>
                rw [colB_y] at hrc
                exact ⟨y + 1, by omega, by go_num, hrc, hrb, honly⟩
              case measure => simp [intOf]; omega
        · obtain rfl : y = 5 := by omega
          go_wp2
          go_roundw
          case rel =>
            rw [colB_x] at hrc
            exact ⟨x + 1, by omega, by go_num, hrc, hrb, honly⟩
          case measure => simp [intOf]; omega
    · have hrc5 : Row wr cb 50 320 (boolV (colB s 5 0 0)) := by
        have e : x = 5 := by omega
        rw [← e]; exact hrc
      have dx : decide ((x : Int) < 5) = false := by simp; omega
      have hgc : ∀ wx, Row wx cb 50 320 (boolV (colB s 5 0 0)) → ∀ i z, i < 5 → z < 64 → wx.cell? ⟨cb, i * 64 + z, none⟩ = some (.bool (parTo s i z 5)) := by
        intro wx hrx i z hi hz
        rw [hrx.cell (by omega)]
        exact congrArg (fun b => some (Value.bool b)) (colB_at s hi hz)
      have HG := hide' hgc
      clear hgc hrc hltx hx
      go_wp2
      go_loopw [48] (fun v wr => ∃ x : Nat, x ≤ 5 ∧ v = .int .i64 x ∧ Row wr b T 1600 (boolV (thetaTo s x 0 0)) ∧ Row wr cb 50 320 (boolV (colB s 5 0 0)) ∧ Only [b] w wr) (fun v _ => 5 - (intOf v).toNat)
      case atStart => exact ⟨0, by omega, rfl, hrb.congr (fun j _ => by simp [boolV, thetaTo]), hrc5, honly⟩
      case round =>
        clear dx hrb hrc5 honly
        obtain ⟨x, hx, rfl, hrb, hrc, honly⟩ := hrel
        by_cases hltx : x < 5
        · have dx : decide ((x : Int) < 5) = true := by simp; omega
          go_wp2_with (refine wpl_alloc rfl 49 rfl 64 _ zero49 ?_; intro w2 db hd1 hd2 hrow2 honly2; go_simp)
          have hdb : db ≠ b := by have := hrb.lt; omega
          have hdc : db ≠ cb := by have := hrc.lt; omega
          have hdw : w.heap.size ≤ db := by have := honly.size; omega
          have hrb2 := honly2.row hrb (by simp)
          have hrc2 := honly2.row hrc (by simp)
          have hon2 := honly.step honly2 (by simp)
          clear hrb hrc honly honly2
          go_loopw [59] (fun v wr => ∃ z : Nat, z ≤ 64 ∧ v = .int .i64 z ∧ Row wr db 49 64 (boolV (dTo s x z)) ∧ Row wr b T 1600 (boolV (thetaTo s x 0 0)) ∧ Row wr cb 50 320 (boolV (colB s 5 0 0)) ∧ Only [b] w wr) (fun v _ => 64 - (intOf v).toNat)
          case atStart => exact ⟨0, by omega, rfl, hrow2.congr (fun j _ => by simp [boolV, dTo]), hrb2, hrc2, hon2⟩
          case round =>
            clear hrow2 hrb2 hrc2 hon2
            obtain ⟨z, hz, rfl, hrd, hrb, hrc, honly⟩ := hrel
            by_cases hltz : z < 64
            · have dz : decide ((z : Int) < 64) = true := by simp; omega
              have k1 := HG.out wr hrc ((x + 4) % 5) z (by omega) hltz
              have k2 := HG.out wr hrc ((x + 1) % 5) ((z + 63) % 64) (by omega) (by omega)
              have k3 := hrd.cell (i := z) hltz
              have k4 := hrd.frozen z
              unfold boolV at k3
              go_wp2_with fail
              go_region
              go_wp2
              go_roundw
              case rel =>
                refine ⟨z + 1, by omega, by go_num, ?_, (hrb.other (a := ⟨db, z, none⟩) hdb.symm _).drew, (hrc.other (a := ⟨db, z, none⟩) hdc.symm _).drew, (honly.setCell (p := ⟨db, z, none⟩) (.inr hdw) _).drew⟩
                refine (hrd.set _ _).drew.congr (fun j _ => ?_)
                rw [boolV_upd]
                exact congrArg Value.bool (dTo_next _ rfl)
              case measure => simp [intOf]; omega
            · have hrd64 : Row wr db 49 64 (boolV (dTo s x 64)) := by
                have e : z = 64 := by omega
                rw [show dTo s x 64 = dTo s x z from by rw [e]]; exact hrd
              have dz : decide ((z : Int) < 64) = false := by simp; omega
              clear hrd hltz hz
              go_wp2
              go_loopw [78] (fun v wr => ∃ y : Nat, y ≤ 5 ∧ v = .int .i64 y ∧ Row wr b T 1600 (boolV (thetaTo s x y 0)) ∧ Row wr db 49 64 (boolV (dTo s x 64)) ∧ Row wr cb 50 320 (boolV (colB s 5 0 0)) ∧ Only [b] w wr) (fun v _ => 5 - (intOf v).toNat)
              case atStart => exact ⟨0, by omega, rfl, hrb, hrd64, hrc, honly⟩
              case round =>
                clear hrb hrd64 hrc honly dz
                obtain ⟨y, hy, rfl, hrb, hrd, hrc, honly⟩ := hrel
                by_cases hlty : y < 5
                · have dy : decide ((y : Int) < 5) = true := by simp; omega
                  go_wp2
                  go_loopw [87] (fun v wr => ∃ z : Nat, z ≤ 64 ∧ v = .int .i64 z ∧ Row wr b T 1600 (boolV (thetaTo s x y z)) ∧ Row wr db 49 64 (boolV (dTo s x 64)) ∧ Row wr cb 50 320 (boolV (colB s 5 0 0)) ∧ Only [b] w wr) (fun v _ => 64 - (intOf v).toNat)
                  case atStart => exact ⟨0, by omega, rfl, hrb, hrd, hrc, honly⟩
                  case round =>
                    clear hrb hrd hrc honly
                    obtain ⟨z, hz, rfl, hrb, hrd, hrc, honly⟩ := hrel
                    by_cases hltz : z < 64
                    · have dz : decide ((z : Int) < 64) = true := by simp; omega
                      have k1 := hrb.cell (i := x * 320 + y * 64 + z) (by omega)
                      have k2 := hrb.frozen (x * 320 + y * 64 + z)
                      have k3 := hrd.cell (i := z) hltz
                      unfold boolV at k1 k3
                      go_wp2_with fail
                      go_region
                      go_wp2
                      go_region
                      go_wp2
                      go_roundw
                      case rel =>
                        refine ⟨z + 1, by omega, by go_num, ?_, (hrd.other (a := ⟨b, x * 320 + y * 64 + z, none⟩) hdb _).drew.drew, (hrc.other (a := ⟨b, x * 320 + y * 64 + z, none⟩) hcb _).drew.drew, (honly.setCell (p := ⟨b, x * 320 + y * 64 + z, none⟩) (.inl (by simp)) _).drew.drew⟩
                        refine (hrb.set _ _).drew.drew.congr (fun j _ => ?_)
                        rw [boolV_upd]
                        exact congrArg Value.bool (thetaTo_next hlty hltz _ rfl)
                      case measure => simp [intOf]; omega
                    · have hrb64 : Row wr b T 1600 (boolV (thetaTo s x (y + 1) 0)) := by
                        have e : z = 64 := by omega
                        rw [thetaTo_y, ← e]; exact hrb
                      go_wp2
                      go_roundw
                      case rel => exact ⟨y + 1, by omega, by go_num, hrb64, hrd, hrc, honly⟩
                      case measure => simp [intOf]; omega
                · have hrb5 : Row wr b T 1600 (boolV (thetaTo s (x + 1) 0 0)) := by
                    have e : y = 5 := by omega
                    rw [thetaTo_x, ← e]; exact hrb
                  go_wp2
                  go_roundw
                  case rel => exact ⟨x + 1, by omega, by go_num, hrb5, hrc, honly⟩
                  case measure => simp [intOf]; omega
        · have dx : decide ((x : Int) < 5) = false := by simp; omega
          go_wp2
          go_end0
          refine ⟨rfl, hrb.congr (fun j hj => ?_), honly⟩
          unfold boolV thetaTo thetaB
          rw [if_pos (by omega)]
end Go.Proofs.Ygcsad
