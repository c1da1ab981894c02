/-
  The walk of kmodel.Offset.
-/
import Derived.Test.YgcsadKsmall
namespace Go.Proofs.Ygcsad
open Go.RowKit

/-- The walk from lane 1, 0. -/
def uvT : Nat → Nat × Nat
  | 0 => (1, 0)
  | t + 1 => ((uvT t).2, (2 * (uvT t).1 + 3 * (uvT t).2) % 5)
theorem uvT_lt (t : Nat) : (uvT t).1 < 5 ∧ (uvT t).2 < 5 := by
  induction t with
  | zero => exact ⟨by decide, by decide⟩
  | succ t ih => exact ⟨ih.2, by show (2 * (uvT t).1 + 3 * (uvT t).2) % 5 < 5; omega⟩

/-- The rotation offsets. -/
def offN (x y : Nat) : Nat := [0, 1, 62, 28, 27, 36, 44, 6, 55, 20, 3, 10, 43, 25, 39, 41, 45, 15, 21, 8, 18, 2, 61, 56, 14].getD (5 * y + x) 0

theorem off_hit' : ∀ (x y : Fin 5) (t : Fin 24), (uvT t.val).1 = x.val → (uvT t.val).2 = y.val → (t.val + 1) * (t.val + 2) / 2 % 64 = offN x.val y.val := by decide +kernel
theorem off_none' : ∀ (x y : Fin 5), (∀ t : Fin 24, ¬ ((uvT t.val).1 = x.val ∧ (uvT t.val).2 = y.val)) → offN x.val y.val = 0 := by decide +kernel
theorem off_lt : ∀ (x y : Fin 5), offN x.val y.val < 64 := by decide +kernel

theorem off_num : ∀ t : Fin 24, ((wrap64 ((wrap64 (((t.val : Int) + 1) * ((t.val : Int) + 2))).tdiv 2)).tmod 64 % 256) = (((t.val + 1) * (t.val + 2) / 2 % 64 : Nat) : Int) := by decide +kernel
theorem off_ret {x y t : Nat} (hx : x < 5) (hy : y < 5) (ht : t < 24) (h1 : (uvT t).1 = x) (h2 : (uvT t).2 = y) :
    Ending.returned (.int .u8 ((wrap64 ((wrap64 (((t : Int) + 1) * ((t : Int) + 2))).tdiv 2)).tmod 64 % 256)) = .returned (.int .u8 (offN x y : Int)) := by
  rw [← off_hit' ⟨x, hx⟩ ⟨y, hy⟩ ⟨t, ht⟩ h1 h2, off_num ⟨t, ht⟩]
theorem off_none {x y : Nat} (hx : x < 5) (hy : y < 5) (h : ∀ s, s < 24 → ¬ ((uvT s).1 = x ∧ (uvT s).2 = y)) : offN x y = 0 :=
  off_none' ⟨x, hx⟩ ⟨y, hy⟩ (fun t => h t.val t.isLt)

theorem off_more {x y t : Nat} (h : ∀ s, s < t → ¬ ((uvT s).1 = x ∧ (uvT s).2 = y)) (h2 : ¬ ((uvT t).1 = x ∧ (uvT t).2 = y)) : ∀ s, s < t + 1 → ¬ ((uvT s).1 = x ∧ (uvT s).2 = y) := by
  intro s hs
  by_cases e : s = t
  · subst e; exact h2
  · exact h s (by omega)

set_option maxRecDepth 20000 in
set_option maxHeartbeats 1000000 in
theorem offset30 (w : World) (x y : Nat) (hx : x < 5) (hy : y < 5) :
    Calls Sadg.prog 30 #[.int .u8 x, .int .u8 y] w fun e w' => e = .returned (.int .u8 (offN x y : Int)) ∧ w' = w := by
  have g1 : decide ((5 : Int) ≤ (x : Int)) = false := by simp; omega
  have g2 : decide ((5 : Int) ≤ (y : Int)) = false := by simp; omega
  go_enter Sadg.func30, Sadg.ntmps30
  go_wp2
  go_loop [5, 6, 7] (fun u v i => ∃ t : Nat, t ≤ 24 ∧ i = .int .i64 t ∧ u = .int .i64 ((uvT t).1 : Nat) ∧ v = .int .i64 ((uvT t).2 : Nat) ∧ ∀ s, s < t → ¬ ((uvT s).1 = x ∧ (uvT s).2 = y)) (fun _ _ i => 24 - (intOf i).toNat)
  case atStart => exact ⟨0, by omega, rfl, rfl, rfl, fun s hs => absurd hs (by omega)⟩
  case round =>
    obtain ⟨t, ht, rfl, rfl, rfl, hno⟩ := hrel
    have hb := uvT_lt t
    have HN := hide' hno
    clear hno
    have HS : Hid (uvT (t + 1) = ((uvT t).2, (2 * (uvT t).1 + 3 * (uvT t).2) % 5)) := rfl
    generalize hu : (uvT t).1 = u at *
    generalize hv : (uvT t).2 = v at *
    have HU := hide' hu
    have HV := hide' hv
    clear hu hv
    by_cases hlt : t < 24
    · by_cases h1 : u = x
      · by_cases h2 : v = y
        · have k1 : ((u : Int) == (x : Int)) = true := by rw [beq_iff_eq]; omega
          have k2 : ((v : Int) == (y : Int)) = true := by rw [beq_iff_eq]; omega
          have H1 := hide' h1
          have H2 := hide' h2
          clear h1 h2
          go_wp2
          go_ret
          exact ⟨off_ret hx hy hlt (HU.out.trans H1.out) (HV.out.trans H2.out), rfl⟩
        · have k1 : ((u : Int) == (x : Int)) = true := by rw [beq_iff_eq]; omega
          have k2 : ((v : Int) == (y : Int)) = false := by rw [beq_eq_false_iff_ne]; omega
          have H1 := hide' h1
          have H2 := hide' h2
          clear h1 h2
          go_wp2
          go_round
          case rel => exact ⟨t + 1, by omega, by go_num, by rw [HS.out], by rw [HS.out]; go_num, off_more HN.out (fun h => H2.out (HV.out.symm.trans h.2))⟩
          case measure => simp [intOf]; omega
      · have k1 : ((u : Int) == (x : Int)) = false := by rw [beq_eq_false_iff_ne]; omega
        have H1 := hide' h1
        clear h1
        go_wp2
        go_round
        case rel => exact ⟨t + 1, by omega, by go_num, by rw [HS.out], by rw [HS.out]; go_num, off_more HN.out (fun h => H1.out (HU.out.symm.trans h.1))⟩
        case measure => simp [intOf]; omega
    · obtain rfl : t = 24 := by omega
      go_wp2
      go_ret
      rw [off_none hx hy HN.out]
      exact ⟨rfl, rfl⟩
end Go.Proofs.Ygcsad
