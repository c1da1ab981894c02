/-
  The plain laws of the sponge: bytes taken in one by one, and by words.
-/
import Derived.Test.YgcsadHolds
namespace Go.Proofs.Ygcsad

/-! ### The bytes of a word -/
theorem bits_byte (c : BitVec 8) (j i : Nat) (hi : i < 64) : (c.setWidth 64 <<< (8 * j)).getLsbD i = (decide (8 * j ≤ i) && c.getLsbD (i - 8 * j)) := by
  simp only [BitVec.getLsbD_shiftLeft, BitVec.getLsbD_setWidth]
  by_cases h : 8 * j ≤ i
  · have h1 : ¬ i < 8 * j := by omega
    have h2 : i - 8 * j < 64 := by omega
    simp [hi, h, h1, h2]
  · have h1 : i < 8 * j := by omega
    simp [h, h1]

/-- The first m bytes, the lowest first. -/
def xorTo (p : Nat → BitVec 8) : Nat → BitVec 64
  | 0 => 0#64
  | m + 1 => xorTo p m ^^^ (p m).setWidth 64 <<< (8 * m)

theorem bits_xorTo (p : Nat → BitVec 8) (m i : Nat) (hi : i < 64) : (xorTo p m).getLsbD i = (decide (i < 8 * m) && (p (i / 8)).getLsbD (i % 8)) := by
  induction m with
  | zero => simp [xorTo]
  | succ m ih =>
    rw [xorTo, BitVec.getLsbD_xor, ih, bits_byte _ _ _ hi]
    by_cases h1 : i < 8 * m
    · have h2 : ¬ 8 * m ≤ i := by omega
      have h3 : i < 8 * (m + 1) := by omega
      simp [h1, h2, h3]
    · have h2 : 8 * m ≤ i := by omega
      by_cases h3 : i < 8 * (m + 1)
      · have h4 : i / 8 = m := by omega
        have h5 : i % 8 = i - 8 * m := by omega
        simp [h1, h2, h3, h4, h5]
      · have h4 : (p m).getLsbD (i - 8 * m) = false := BitVec.getLsbD_of_ge _ _ (by omega)
        simp [h1, h3, h4]

/-- One stage of 'turned'. -/
def stageT (k : Nat) (m x : BitVec 64) : BitVec 64 := (x >>> k &&& m) ||| (x &&& m) <<< k
theorem stageT_or (k : Nat) (m x y : BitVec 64) : stageT k m (x ||| y) = stageT k m x ||| stageT k m y := by
  unfold stageT
  apply BitVec.eq_of_getLsbD_eq
  intro i _
  simp only [BitVec.getLsbD_or, BitVec.getLsbD_and, BitVec.getLsbD_ushiftRight, BitVec.getLsbD_shiftLeft]
  generalize x.getLsbD (k + i) = b1
  generalize y.getLsbD (k + i) = b2
  generalize m.getLsbD i = b3
  generalize x.getLsbD (i - k) = b4
  generalize y.getLsbD (i - k) = b5
  generalize m.getLsbD (i - k) = b6
  generalize decide (i < 64) = b7
  generalize decide (i < k) = b8
  revert b1 b2 b3 b4 b5 b6 b7 b8
  decide
theorem turnedB_stages (x : BitVec 64) : turnedB x = stageT 32 (BitVec.allOnes 64) (stageT 16 281470681808895#64 (stageT 8 71777214294589695#64 x)) := by
  unfold turnedB stageT
  rw [BitVec.and_allOnes, BitVec.and_allOnes]
theorem turnedB_or (x y : BitVec 64) : turnedB (x ||| y) = turnedB x ||| turnedB y := by
  simp only [turnedB_stages, stageT_or]

theorem turned_byte : ∀ (j : Fin 8) (c : BitVec 8), turnedB (c.setWidth 64 <<< (56 - 8 * j.val)) = c.setWidth 64 <<< (8 * j.val) := by decide +kernel

theorem or8 (p : Nat → BitVec 8) : (p 7).setWidth 64 <<< (8 * 7) ||| (p 6).setWidth 64 <<< (8 * 6) ||| (p 5).setWidth 64 <<< (8 * 5) ||| (p 4).setWidth 64 <<< (8 * 4) |||
    (p 3).setWidth 64 <<< (8 * 3) ||| (p 2).setWidth 64 <<< (8 * 2) ||| (p 1).setWidth 64 <<< (8 * 1) ||| (p 0).setWidth 64 <<< (8 * 0) = xorTo p 8 := by
  apply BitVec.eq_of_getLsbD_eq
  intro i hi
  rw [bits_xorTo p 8 i hi]
  simp only [BitVec.getLsbD_or, bits_byte _ _ _ hi]
  have hb : ∀ (c : BitVec 8) n, 8 ≤ n → c.getLsbD n = false := fun c n h => BitVec.getLsbD_of_ge _ _ h
  obtain ⟨q, r, hq, hr, rfl⟩ : ∃ q r, q < 8 ∧ r < 8 ∧ i = 8 * q + r := ⟨i / 8, i % 8, by omega, by omega, by omega⟩
  rw [show (8 * q + r) / 8 = q from by omega, show (8 * q + r) % 8 = r from by omega]
  have hlt : 8 * q + r < 8 * 8 := by omega
  have key : ∀ j, (decide (8 * j ≤ 8 * q + r) && (p j).getLsbD (8 * q + r - 8 * j)) = (decide (j = q) && (p q).getLsbD r) := by
    intro j
    by_cases h1 : j = q
    · subst h1; rw [show 8 * j + r - 8 * j = r from by omega]; simp
    · by_cases h2 : j < q
      · rw [hb _ _ (by omega)]; simp [h1]
      · have : ¬ 8 * j ≤ 8 * q + r := by omega
        simp [h1, this]
  rw [key 0, key 1, key 2, key 3, key 4, key 5, key 6, key 7]
  have : (decide (7 = q) || decide (6 = q) || decide (5 = q) || decide (4 = q) || decide (3 = q) || decide (2 = q) || decide (1 = q) || decide (0 = q)) = true := by
    simp only [Bool.or_eq_true, decide_eq_true_eq]; omega
  simp only [← Bool.and_or_distrib_right, this, hlt, decide_true]

theorem or_rev (a b c d e f g h : BitVec 64) : a ||| b ||| c ||| d ||| e ||| f ||| g ||| h = h ||| g ||| f ||| e ||| d ||| c ||| b ||| a := by ac_rfl
theorem be_xor (p : Nat → BitVec 8) : be64 p = xorTo (fun j => p (7 - j)) 8 := by
  rw [← or8]
  have e0 : (p (7 - 0)).setWidth 64 <<< (8 * 0) = (p 7).setWidth 64 := by simp
  rw [e0]
  unfold be64
  exact or_rev _ _ _ _ _ _ _ _

theorem turned_be (p : Nat → BitVec 8) : turnedB (be64 p) = xorTo p 8 := by
  have h : ∀ j (hj : j < 8), turnedB ((p j).setWidth 64 <<< (56 - 8 * j)) = (p j).setWidth 64 <<< (8 * j) := fun j hj => turned_byte ⟨j, hj⟩ (p j)
  have e : be64 p = (p 7).setWidth 64 <<< (56 - 8 * 7) ||| (p 6).setWidth 64 <<< (56 - 8 * 6) ||| (p 5).setWidth 64 <<< (56 - 8 * 5) ||| (p 4).setWidth 64 <<< (56 - 8 * 4) |||
    (p 3).setWidth 64 <<< (56 - 8 * 3) ||| (p 2).setWidth 64 <<< (56 - 8 * 2) ||| (p 1).setWidth 64 <<< (56 - 8 * 1) ||| (p 0).setWidth 64 <<< (56 - 8 * 0) := by
    unfold be64; simp
  rw [e]
  rw [turnedB_or, turnedB_or, turnedB_or, turnedB_or, turnedB_or, turnedB_or, turnedB_or]
  rw [h 0 (by omega), h 1 (by omega), h 2 (by omega), h 3 (by omega), h 4 (by omega), h 5 (by omega), h 6 (by omega), h 7 (by omega)]
  exact or8 p

theorem bits_turned (x : BitVec 64) (i : Nat) (hi : i < 64) : (turnedB x).getLsbD i = x.getLsbD (56 - 8 * (i / 8) + i % 8) := by
  have hx : x = be64 (fun j => (x >>> (56 - 8 * j)).setWidth 8) := by
    rw [be_xor]
    apply BitVec.eq_of_getLsbD_eq
    intro n hn
    rw [bits_xorTo _ 8 n hn, BitVec.getLsbD_setWidth, BitVec.getLsbD_ushiftRight]
    have h1 : n < 8 * 8 := by omega
    have h2 : n % 8 < 8 := by omega
    rw [show 56 - 8 * (7 - n / 8) + n % 8 = n from by omega]
    simp [h1, h2]
  have h2 : turnedB x = xorTo (fun j => (x >>> (56 - 8 * j)).setWidth 8) 8 := (congrArg turnedB hx).trans (turned_be _)
  rw [h2, bits_xorTo _ 8 i hi, BitVec.getLsbD_setWidth, BitVec.getLsbD_ushiftRight]
  have h1 : i < 8 * 8 := by omega
  have h2 : i % 8 < 8 := by omega
  simp [h1, h2]

/-! ### The bytes of the hash -/
theorem out_byte (l : Nat → BitVec 64) (i : Nat) : outB l i = (l (i / 8) >>> (8 * (i % 8))).setWidth 8 := by
  unfold outB byteBE
  apply BitVec.eq_of_getLsbD_eq
  intro n hn
  rw [BitVec.getLsbD_setWidth, BitVec.getLsbD_setWidth, BitVec.getLsbD_ushiftRight, BitVec.getLsbD_ushiftRight, bits_turned _ _ (by omega)]
  rw [show 56 - 8 * ((56 - 8 * (i % 8) + n) / 8) + (56 - 8 * (i % 8) + n) % 8 = 8 * (i % 8) + n from by omega]

/-! ### Blocks -/
/-- The lanes with the first r bytes of a block laid on them. -/
def pL (l : Nat → BitVec 64) (p : Nat → BitVec 8) (r : Nat) : Nat → BitVec 64 := fun i => l i ^^^ xorTo (fun j => p (8 * i + j)) (min 8 (r - 8 * i))
theorem pL_zero (l : Nat → BitVec 64) (p : Nat → BitVec 8) : pL l p 0 = l := by
  funext i; simp [pL, xorTo]
theorem pL_all (l : Nat → BitVec 64) (p : Nat → BitVec 8) : pL l p 136 = absL l p 17 := by
  funext i
  unfold pL absL
  by_cases h : i < 17
  · rw [if_pos h, turned_be, show min 8 (136 - 8 * i) = 8 from by omega]
  · rw [if_neg h, show min 8 (136 - 8 * i) = 0 from by omega]; simp [xorTo]
theorem pL_next (l : Nat → BitVec 64) (p : Nat → BitVec 8) (r : Nat) : upd (pL l p r) (r / 8) (pL l p r (r / 8) ^^^ (p r).setWidth 64 <<< (8 * (r % 8))) = pL l p (r + 1) := by
  funext i
  unfold upd pL
  by_cases h : i = r / 8
  · subst h
    rw [if_pos rfl, show min 8 (r + 1 - 8 * (r / 8)) = min 8 (r - 8 * (r / 8)) + 1 from by omega, xorTo, show min 8 (r - 8 * (r / 8)) = r % 8 from by omega,
      show 8 * (r / 8) + r % 8 = r from by omega, BitVec.xor_assoc]
  · rw [if_neg h]
    by_cases h2 : i < r / 8
    · rw [show min 8 (r - 8 * i) = 8 from by omega, show min 8 (r + 1 - 8 * i) = 8 from by omega]
    · rw [show min 8 (r - 8 * i) = 0 from by omega, show min 8 (r + 1 - 8 * i) = 0 from by omega]

theorem takeL_at (m : Nat → BitVec 8) (k : Nat) : takeL m k = pL (spL m (k / 136)) (fun j => m (136 * (k / 136) + j)) (k % 136) := by
  induction k with
  | zero => rw [takeL, Nat.zero_mod, pL_zero]; rfl
  | succ k ih =>
    rw [takeL, stepL, ih]
    have e : m k = m (136 * (k / 136) + k % 136) := by rw [show 136 * (k / 136) + k % 136 = k from by omega]
    have hn := pL_next (spL m (k / 136)) (fun j => m (136 * (k / 136) + j)) (k % 136)
    rw [← e] at hn
    simp only [hn]
    by_cases h : k % 136 = 135
    · rw [if_pos h, h, pL_all, show (k + 1) % 136 = 0 from by omega, pL_zero, show (k + 1) / 136 = k / 136 + 1 from by omega]
      rfl
    · rw [if_neg h, show (k + 1) % 136 = k % 136 + 1 from by omega, show (k + 1) / 136 = k / 136 from by omega]

theorem be64_congr {p q : Nat → BitVec 8} (h : ∀ j, j < 8 → p j = q j) : be64 p = be64 q := by
  unfold be64
  rw [h 0 (by omega), h 1 (by omega), h 2 (by omega), h 3 (by omega), h 4 (by omega), h 5 (by omega), h 6 (by omega), h 7 (by omega)]
theorem absL_congr {l : Nat → BitVec 64} {p q : Nat → BitVec 8} (h : ∀ j, j < 136 → p j = q j) : absL l p 17 = absL l q 17 := by
  funext i
  unfold absL
  by_cases hi : i < 17
  · rw [if_pos hi, if_pos hi, be64_congr (fun j hj => h (8 * i + j) (by omega))]
  · rw [if_neg hi, if_neg hi]
theorem spL_congr {d e : Nat → BitVec 8} : ∀ k, (∀ j, j < 136 * k → d j = e j) → spL d k = spL e k
  | 0, _ => rfl
  | k + 1, h => by
    rw [spL, spL, spL_congr k (fun j hj => h j (by omega)), absL_congr (fun j hj => h (136 * k + j) (by omega))]

theorem msg0_at (d : Nat → BitVec 8) (len j : Nat) : msg0 d len j = if j < len then d j else 0#8 := rfl
theorem upd_at {α : Type} (f : Nat → α) (i : Nat) (v : α) (j : Nat) : upd f i v j = if j = i then v else f j := rfl
theorem sponge_law (d : Nat → BitVec 8) (len : Nat) : takeL (msg2 d len) (len / 136 * 136 + 136) = spongeL d len := by
  rw [takeL_at, show (len / 136 * 136 + 136) % 136 = 0 from by omega, pL_zero, show (len / 136 * 136 + 136) / 136 = len / 136 + 1 from by omega, spL]
  unfold spongeL
  have h1 : ∀ j, j < 136 * (len / 136) → msg2 d len j = d j := by
    intro j hj
    unfold msg2 msg1
    rw [upd_at, if_neg (by omega), upd_at, if_neg (by omega), msg0_at, if_pos (by omega)]
  have h2 : ∀ j, j < 136 → msg2 d len (136 * (len / 136) + j) = lastB d len j := by
    intro j hj
    unfold msg2 lastB
    have h3 : ∀ i, i < 136 → msg1 d len (136 * (len / 136) + i) = cB d (len / 136) (len % 136) i := by
      intro i hi
      unfold msg1 cB
      rw [upd_at]
      by_cases a : i = len % 136
      · rw [if_pos (by omega), if_pos a, msg0_at, if_neg (by omega)]; rfl
      · rw [if_neg (by omega), if_neg a, msg0_at]
        by_cases b : i < len % 136
        · rw [if_pos (by omega), if_pos b]
        · rw [if_neg (by omega), if_neg b]
    rw [upd_at]
    by_cases a : j = 135
    · rw [if_pos (by omega), if_pos a, show len / 136 * 136 + 135 = 136 * (len / 136) + 135 from by omega, h3 135 (by omega)]
    · rw [if_neg (by omega), if_neg a, h3 j hj]
  rw [spL_congr (len / 136) h1, absL_congr h2]

end Go.Proofs.Ygcsad
