/-
  The plain law of the permutation: the bits of kmodel against the lanes of keccak.
-/
import Derived.Test.YgcsadKf
import Derived.Test.YgcsadLanes
import Derived.Test.YgcsadF
namespace Go.Proofs.Ygcsad

/-! ### One round on bits speaks of 1600 bits alone -/
section
variable {s t : Nat → Bool}
theorem parTo_congr (h : ∀ j, j < 1600 → s j = t j) {x z : Nat} (hx : x < 5) (hz : z < 64) : ∀ n, n ≤ 5 → parTo s x z n = parTo t x z n
  | 0, _ => rfl
  | n + 1, hn => by rw [parTo, parTo, parTo_congr h hx hz n (by omega), h _ (by omega)]
theorem thetaB_congr (h : ∀ j, j < 1600 → s j = t j) : ∀ j, j < 1600 → thetaB s j = thetaB t j := by
  intro j hj
  unfold thetaB mixB
  rw [h j hj, parTo_congr h (by omega) (by omega) 5 (by omega), parTo_congr h (by omega) (by omega) 5 (by omega)]
theorem rhoB_congr (h : ∀ j, j < 1600 → s j = t j) : ∀ j, j < 1600 → rhoB s j = rhoB t j := by
  intro j hj
  unfold rhoB
  generalize 64 - offN (j / 320) (j % 320 / 64) = k
  exact h _ (by omega)
theorem piB_congr (h : ∀ j, j < 1600 → s j = t j) : ∀ j, j < 1600 → piB s j = piB t j := by
  intro j hj
  unfold piB
  exact h _ (by omega)
theorem chiB_congr (h : ∀ j, j < 1600 → s j = t j) : ∀ j, j < 1600 → chiB s j = chiB t j := by
  intro j hj
  unfold chiB chiAt
  rw [h _ (by omega), h _ (by omega), h _ (by omega)]
theorem kround_congr (n : Nat) (h : ∀ j, j < 1600 → s j = t j) : ∀ j, j < 1600 → kround n s j = kround n t j := by
  intro j hj
  unfold kround iotaB
  rw [chiB_congr (piB_congr (rhoB_congr (thetaB_congr h))) j hj]
end

/-! ### Turning a word -/
theorem bits_rot (v : BitVec 64) {k z : Nat} (hk : k < 64) (hz : z < 64) : (v.rotateLeft k).getLsbD z = v.getLsbD ((z + (64 - k)) % 64) := by
  rw [BitVec.getLsbD_rotateLeft, Nat.mod_eq_of_lt hk]
  by_cases h : z < k
  · have e : (z + (64 - k)) % 64 = 64 - k + z := by omega
    simp [h, e]
  · have e : (z + (64 - k)) % 64 = z - k := by omega
    simp [h, e, hz]

/-! ### The lanes as the bits see them -/
/-- The state that the lanes spell. -/
def stateL (l : Nat → BitVec 64) : Nat → Bool := fun j => (l (5 * (j % 320 / 64) + j / 320)).getLsbD (j % 64)
theorem stateL_at (l : Nat → BitVec 64) {x y z : Nat} (hy : y < 5) (hz : z < 64) : stateL l (x * 320 + y * 64 + z) = (l (5 * y + x)).getLsbD z := by
  unfold stateL
  have e1 : (x * 320 + y * 64 + z) % 320 / 64 = y := by omega
  have e2 : (x * 320 + y * 64 + z) / 320 = x := by omega
  have e3 : (x * 320 + y * 64 + z) % 64 = z := by omega
  rw [e1, e2, e3]

def cW (l : Nat → BitVec 64) (x : Nat) : BitVec 64 := l x ^^^ l (x + 5) ^^^ l (x + 10) ^^^ l (x + 15) ^^^ l (x + 20)
def dW (l : Nat → BitVec 64) (x : Nat) : BitVec 64 := cW l ((x + 4) % 5) ^^^ (cW l ((x + 1) % 5)).rotateLeft 1
def rW (l : Nat → BitVec 64) (x y : Nat) : BitVec 64 := (l (5 * y + x) ^^^ dW l x).rotateLeft (offN x y)
def pW (l : Nat → BitVec 64) (x y : Nat) : BitVec 64 := rW l ((x + 3 * y) % 5) x
def chW (l : Nat → BitVec 64) (x y : Nat) : BitVec 64 := pW l x y ^^^ (~~~ pW l ((x + 1) % 5) y &&& pW l ((x + 2) % 5) y)

theorem par_word (l : Nat → BitVec 64) {x z : Nat} (hz : z < 64) : parTo (stateL l) x z 5 = (cW l x).getLsbD z := by
  unfold cW
  simp only [parTo, stateL_at l (by omega : (0 : Nat) < 5) hz, stateL_at l (by omega : 1 < 5) hz, stateL_at l (by omega : 2 < 5) hz, stateL_at l (by omega : 3 < 5) hz, stateL_at l (by omega : 4 < 5) hz, BitVec.getLsbD_xor]
  rw [show 5 * 0 + x = x from by omega, show 5 * 1 + x = x + 5 from by omega, show 5 * 2 + x = x + 10 from by omega, show 5 * 3 + x = x + 15 from by omega, show 5 * 4 + x = x + 20 from by omega]
  generalize (l x).getLsbD z = a
  generalize (l (x + 5)).getLsbD z = b
  generalize (l (x + 10)).getLsbD z = c
  generalize (l (x + 15)).getLsbD z = d
  generalize (l (x + 20)).getLsbD z = e
  revert a b c d e
  decide
theorem mix_word (l : Nat → BitVec 64) {x z : Nat} (hz : z < 64) : mixB (stateL l) x z = (dW l x).getLsbD z := by
  unfold mixB dW
  rw [par_word l hz, par_word l (by omega), BitVec.getLsbD_xor, bits_rot _ (by omega) hz]
theorem theta_word (l : Nat → BitVec 64) {x y z : Nat} (hy : y < 5) (hz : z < 64) : thetaB (stateL l) (x * 320 + y * 64 + z) = (l (5 * y + x) ^^^ dW l x).getLsbD z := by
  unfold thetaB
  have e2 : (x * 320 + y * 64 + z) / 320 = x := by omega
  have e3 : (x * 320 + y * 64 + z) % 64 = z := by omega
  rw [stateL_at l hy hz, e2, e3, mix_word l hz, BitVec.getLsbD_xor]
theorem rho_word (l : Nat → BitVec 64) {x y z : Nat} (hx : x < 5) (hy : y < 5) (hz : z < 64) : rhoB (thetaB (stateL l)) (x * 320 + y * 64 + z) = (rW l x y).getLsbD z := by
  unfold rhoB rW
  have e1 : (x * 320 + y * 64 + z) % 320 / 64 = y := by omega
  have e2 : (x * 320 + y * 64 + z) / 320 = x := by omega
  have e3 : (x * 320 + y * 64 + z) % 64 = z := by omega
  have e4 : x * 320 + y * 64 + z - z = x * 320 + y * 64 := by omega
  have hk := offLt hx hy
  rw [e1, e2, e3, e4, bits_rot _ hk hz, theta_word l hy (by omega)]
theorem pi_word (l : Nat → BitVec 64) {x y z : Nat} (hx : x < 5) (hy : y < 5) (hz : z < 64) : piB (rhoB (thetaB (stateL l))) (x * 320 + y * 64 + z) = (pW l x y).getLsbD z := by
  unfold piB pW
  have e1 : (x * 320 + y * 64 + z) % 320 / 64 = y := by omega
  have e2 : (x * 320 + y * 64 + z) / 320 = x := by omega
  have e3 : (x * 320 + y * 64 + z) % 64 = z := by omega
  rw [e1, e2, e3, rho_word l (by omega) hx hz]
theorem chi_word (l : Nat → BitVec 64) {x y z : Nat} (hx : x < 5) (hy : y < 5) (hz : z < 64) : chiB (piB (rhoB (thetaB (stateL l)))) (x * 320 + y * 64 + z) = (chW l x y).getLsbD z := by
  unfold chiB chiAt chW
  have e1 : (x * 320 + y * 64 + z) % 320 / 64 = y := by omega
  have e2 : (x * 320 + y * 64 + z) / 320 = x := by omega
  have e3 : (x * 320 + y * 64 + z) % 64 = z := by omega
  rw [e1, e2, e3, pi_word l hx hy hz, pi_word l (by omega) hy hz, pi_word l (by omega) hy hz, BitVec.getLsbD_xor, BitVec.getLsbD_and, BitVec.getLsbD_not]
  simp only [hz, decide_true, Bool.true_and]
  rw [Bool.and_comm]

theorem rot0 (v : BitVec 64) : v.rotateLeft 0 = v := by
  apply BitVec.eq_of_getLsbD_eq
  intro i hi
  rw [bits_rot v (by omega) hi, show (i + (64 - 0)) % 64 = i from by omega]

theorem pW00 (l : Nat → BitVec 64) : pW l 0 0 = l 0 ^^^ dW l 0 := rot0 _

/-- The words that one round gathers, by pi's places. -/
theorem round_word (l : Nat → BitVec 64) : ∀ x, x < 5 → ∀ y, y < 5 → roundL l (5 * y + x) = chW l x y := by
  intro x hx y hy
  match x, hx, y, hy with
  | 0, _, 0, _ => exact (show _ = _ from by unfold chW; rw [show pW l 0 0 = l 0 ^^^ dW l 0 from pW00 l]; rfl)
  | 1, _, 0, _ => rfl
  | 2, _, 0, _ => rfl
  | 3, _, 0, _ => exact (show _ = _ from by unfold chW; rw [show pW l ((3 + 2) % 5) 0 = l 0 ^^^ dW l 0 from pW00 l]; rfl)
  | 4, _, 0, _ => exact (show _ = _ from by unfold chW; rw [show pW l ((4 + 1) % 5) 0 = l 0 ^^^ dW l 0 from pW00 l]; rfl)
  | 0, _, 1, _ => rfl
  | 1, _, 1, _ => rfl
  | 2, _, 1, _ => rfl
  | 3, _, 1, _ => rfl
  | 4, _, 1, _ => rfl
  | 0, _, 2, _ => rfl
  | 1, _, 2, _ => rfl
  | 2, _, 2, _ => rfl
  | 3, _, 2, _ => rfl
  | 4, _, 2, _ => rfl
  | 0, _, 3, _ => rfl
  | 1, _, 3, _ => rfl
  | 2, _, 3, _ => rfl
  | 3, _, 3, _ => rfl
  | 4, _, 3, _ => rfl
  | 0, _, 4, _ => rfl
  | 1, _, 4, _ => rfl
  | 2, _, 4, _ => rfl
  | 3, _, 4, _ => rfl
  | 4, _, 4, _ => rfl
  | _ + 5, h, _, _ => exact absurd h (by omega)
  | _, _, _ + 5, h => exact absurd h (by omega)

theorem const_rc : ∀ i : Fin 24, constTo i.val 7 = rcB i.val := by decide +kernel

theorem xyz {j : Nat} (hj : j < 1600) : ∃ x y z, x < 5 ∧ y < 5 ∧ z < 64 ∧ j = x * 320 + y * 64 + z := ⟨j / 320, j % 320 / 64, j % 64, by omega, by omega, by omega, by omega⟩

theorem kround_lanes (l : Nat → BitVec 64) {n : Nat} (hn : n < 24) : ∀ j, j < 1600 → kround n (stateL l) j = stateL (upd (roundL l) 0 (roundL l 0 ^^^ rcB n)) j := by
  intro j hj
  obtain ⟨x, y, z, hx, hy, hz, rfl⟩ := xyz hj
  rw [stateL_at _ hy hz]
  unfold kround iotaB
  rw [chi_word l hx hy hz, const_rc ⟨n, hn⟩, upd_ap]
  by_cases h : x * 320 + y * 64 + z < 64
  · have hx0 : x = 0 := by omega
    have hy0 : y = 0 := by omega
    subst hx0
    subst hy0
    rw [if_pos h, if_pos rfl, BitVec.getLsbD_xor, show 0 * 320 + 0 * 64 + z = z from by omega, ← round_word l 0 (by omega) 0 (by omega)]
    rfl
  · rw [if_neg h, if_neg (by omega), round_word l x hx y hy]

theorem kf_congr {s t : Nat → Bool} (h : ∀ j, j < 1600 → s j = t j) : ∀ n j, j < 1600 → kf s n j = kf t n j
  | 0, j, hj => h j hj
  | n + 1, j, hj => by rw [kf, kf]; exact kround_congr n (kf_congr h n) j hj
theorem kf_lanes (l : Nat → BitVec 64) : ∀ n, n ≤ 24 → ∀ j, j < 1600 → kf (stateL l) n j = stateL (fL l n) j
  | 0, _, _, _ => rfl
  | n + 1, hn, j, hj => by
    rw [kf, kround_congr n (kf_lanes l n (by omega)) j hj, kround_lanes (fL l n) (by omega) j hj]
    rfl

/-- THE LAW OF THE PERMUTATION: bit i of the 1600 is bit i % 64 of lane i / 64, behind as before. -/
theorem perm_law {s : Nat → Bool} {l : Nat → BitVec 64} (h : ∀ i, i < 1600 → s i = (l (i / 64)).getLsbD (i % 64)) : ∀ i, i < 1600 → kfB s i = (fL l 24 (i / 64)).getLsbD (i % 64) := by
  intro i hi
  unfold kfB
  have h1 : ∀ j, j < 1600 → (fun j => s (tauI j)) j = stateL l j := by
    intro j hj
    show s (tauI j) = _
    rw [h _ (tau_lt hj)]
    unfold stateL tauI
    have e1 : (64 * (5 * (j % 320 / 64) + j / 320) + j % 64) / 64 = 5 * (j % 320 / 64) + j / 320 := by omega
    have e2 : (64 * (5 * (j % 320 / 64) + j / 320) + j % 64) % 64 = j % 64 := by omega
    rw [e1, e2]
  rw [kf_congr h1 24 _ (sig_lt hi), kf_lanes l 24 (Nat.le_refl _) _ (sig_lt hi)]
  obtain ⟨x, y, z, hx, hy, hz, rfl⟩ : ∃ x y z, x < 5 ∧ y < 5 ∧ z < 64 ∧ i = 320 * y + 64 * x + z := ⟨i / 64 % 5, i / 320, i % 64, by omega, by omega, by omega, by omega⟩
  rw [sig_at hx hz, stateL_at _ hy hz]
  have e1 : (320 * y + 64 * x + z) / 64 = 5 * y + x := by omega
  have e2 : (320 * y + 64 * x + z) % 64 = z := by omega
  rw [e1, e2]
end Go.Proofs.Ygcsad
