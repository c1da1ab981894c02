/-
  The walks of law.lanesOf, law.permHolds, law.PermSame.
-/
import Derived.Test.YgcsadKlaw
import Derived.Test.YgcsadPlain
namespace Go.Proofs.Ygcsad
open Go.RowKit

theorem size22 : (Sadg.prog.info? 22).map (·.size) = some 200 := by kernel_rfl
theorem size38 : (Sadg.prog.info? 38).map (·.size) = some 1600 := by kernel_rfl
theorem zero38 : (Sadg.prog.info? 38).map (·.zero) = some (some (.agg (rowC 1600 fun _ => .bool false))) := by kernel_rfl
theorem size23 : (Sadg.prog.info? 23).map (·.size) = some 1 := by kernel_rfl

/-- The lanes with the first k bytes read. -/
def lanesTo (p : Nat → BitVec 8) : Nat → Nat → BitVec 64
  | 0 => fun _ => 0#64
  | k + 1 => upd (lanesTo p k) (k / 8) (lanesTo p k (k / 8) ||| (p k).setWidth 64 <<< (8 * (k % 8)))

theorem lane_row {w : World} {b T i : Nat} {l : Nat → BitVec 64} {c : BitVec 8} (h : Row w b T 25 (laneV l)) :
    Row (w.setCell ⟨b, i / 8, none⟩ (.int .u64 (bits .or .u64 (U (l (i / 8))) (IntKind.u64.wrap (IntKind.u64.wrap (B8 c) * 2 ^ (8 * (i % 8))))))).drew b T 25
      (laneV (upd l (i / 8) (l (i / 8) ||| c.setWidth 64 <<< (8 * (i % 8))))) := by
  rw [B8_wrap, U_shl, U_or, ← laneV_upd]
  exact (h.set _ _).drew

set_option maxRecDepth 20000 in
set_option maxHeartbeats 1000000 in
theorem lanes7 (w : World) (p : Nat → BitVec 8) :
    Calls Sadg.prog 7 #[.agg (rowC 200 (byteV p))] w fun e w' => e = .returned (.agg (rowC 25 (laneV (lanesTo p 200)))) ∧ Only [] w w' := by
  go_enter Sadg.func7, Sadg.ntmps7
  go_wp2_with (first
    | (refine wpl_box rfl 22 (.tmp 0) rfl 200 _ rfl ?_; intro w1 sb hs1 hs2 hrow1 honly1; go_simp)
    | (have _t := hrow1; refine wpl_alloc rfl 24 rfl 25 _ zero24 ?_; intro w2 rb hb1 hb2 hrow2 honly2; have hrow1' := honly2.row hrow1 (by simp); clear hrow1; go_simp)
    | (refine wpl_alloc rfl 24 rfl 25 _ zero24 ?_; intro w3 ab ha1 ha2 hrow3 honly3; have hrow1'' := honly3.row hrow1' (by simp); clear hrow1'; go_simp)
    | (refine wpl_load rfl 22 (.tmp 1) rfl sb 22 200 (byteV p) rfl hrow1'' _ Sadg.underlying22 rfl size22 ?_; go_simp))
  have hra : rb ≠ ab := by omega
  have hz1 := honly1.size
  have hz2 := honly2.size
  have hz3 := honly3.size
  have haw : w.heap.size ≤ ab := by omega
  have hrw : w.heap.size ≤ rb := by omega
  have hrr := honly3.row hrow2 (by simp)
  have hon := (honly1.trans honly2).trans honly3
  clear hrow1'' hrow2 honly1 honly2 honly3
  go_loopw [7] (fun v wr => ∃ k : Nat, k ≤ 200 ∧ v = .int .i64 k ∧ Row wr ab 24 25 (laneV (lanesTo p k)) ∧ Row wr rb 24 25 (fun _ => .int .u64 0) ∧ Only [] w wr) (fun v _ => 200 - (intOf v).toNat)
  case atStart => exact ⟨0, by omega, rfl, hrow3, hrr, hon⟩
  case round =>
    clear hrow3 hrr hon
    obtain ⟨k, hk, rfl, hrow, hrr, honly⟩ := hrel
    by_cases hlt : k < 200
    · have dk : decide ((k : Int) < 200) = true := by simp; omega
      have hidx : ∀ w : World, (Instr.index 22 (.agg (rowC 200 (byteV p))) (.int .i64 k)).run Sadg.prog w = .ok (.int .u8 (B8 (p k))) w := fun w =>
        run_index_arr 22 5 200 _ .i64 k _ w _ Sadg.underlying22 Sadg.underlying5 rfl size5 (by omega) (by omega) (by rw [Int.toNat_natCast, rowC_get, if_pos hlt]; rfl)
      have hc := hrow.cell (i := k / 8) (by omega)
      have hz := hrow.frozen (k / 8)
      unfold laneV at hc
      go_wp2_with fail
      go_region
      go_wp2
      go_roundw
      case rel =>
        exact ⟨k + 1, by omega, by go_num, lane_row hrow, (hrr.other (a := ⟨ab, k / 8, none⟩) hra _).drew, (honly.setCell (p := ⟨ab, k / 8, none⟩) (.inr haw) _).drew⟩
      case measure => simp [intOf]; omega
    · have dk : decide ((k : Int) < 200) = false := by simp; omega
      have hrow' : Row wr ab 24 25 (laneV (lanesTo p 200)) := by
        have e : k = 200 := by omega
        rw [← e]; exact hrow
      clear hrow
      go_wp2_with (first
        | (refine wpl_load rfl 24 (.tmp 3) rfl ab 24 25 (laneV (lanesTo p 200)) rfl hrow' _ Sadg.underlying24 rfl size24 ?_; go_simp)
        | (refine wpl_store rfl 24 (.tmp 2) (.tmp 24) rfl rb 24 25 _ (laneV (lanesTo p 200)) rfl rfl hrr size24 (fun _ => rfl) ?_; intro w5 hrow5 honly5; go_simp))
      exact bodyPost_ret (results_row rfl _ _ rb 24 25 _ _ rfl hrow5 Sadg.underlying24 rfl size24) rfl ⟨rfl, honly.step honly5 (by simpa using hrw)⟩

theorem B8_shr (c : BitVec 8) (k : Nat) : B8 c / (2 : Int) ^ k = B8 (c >>> k) := by
  unfold B8; rw [BitVec.toNat_ushiftRight, Nat.shiftRight_eq_div_pow]; simp
/-- The bit z of a byte. -/
def bbit (c : BitVec 8) (z : Nat) : Bool := c.getLsbD z
theorem B8_bit (c : BitVec 8) (z : Nat) : (bits .and .u8 (B8 c / 2 ^ z) 1 == 1) = bbit c z := by
  unfold bbit
  rw [B8_shr, show (1 : Int) = B8 1#8 from rfl, B8_and]
  have h : ∀ x : BitVec 8, (B8 (x &&& 1#8) == B8 1#8) = x.getLsbD 0 := by decide +kernel
  rw [h, BitVec.getLsbD_ushiftRight, Nat.add_zero]

/-- The bits of 200 bytes. -/
def bitsB (p : Nat → BitVec 8) : Nat → Bool := fun i => bbit (p (i / 8)) (i % 8)
/-- The first k of them. -/
def bitsTo (p : Nat → BitVec 8) (k : Nat) : Nat → Bool := fun i => if i < k then bitsB p i else false
theorem bitsTo_next {p : Nat → BitVec 8} {k j : Nat} : upd (boolV (bitsTo p k)) k (.bool (bbit (p (k / 8)) (k % 8))) j = boolV (bitsTo p (k + 1)) j := by
  rw [boolV_upd]
  unfold boolV
  rw [upd_ap]
  unfold bitsTo
  by_cases h : j = k
  · subst h
    rw [if_pos rfl, if_pos (Nat.lt_succ_self j)]
    rfl
  · rw [if_neg h]
    by_cases h2 : j < k
    · rw [if_pos h2, if_pos (by omega)]
    · rw [if_neg h2, if_neg (by omega)]

set_option maxRecDepth 20000 in
set_option maxHeartbeats 1000000 in
theorem permHolds9 (w : World) (p : Nat → BitVec 8) (l : Nat → BitVec 64) (h : ∀ i, i < 1600 → kfB (bitsB p) i = cbit (l (i / 64)) (i % 64)) :
    Calls Sadg.prog 9 #[.agg (rowC 200 (byteV p)), .agg (rowC 25 (laneV l))] w fun e w' => e = .returned (.bool true) ∧ Only [] w w' := by
  have HH := hide' h
  clear h
  go_enter Sadg.func9, Sadg.ntmps9
  go_wp2_with (first
    | (refine wpl_box rfl 22 (.tmp 0) rfl 200 _ rfl ?_; intro w1 sb hs1 hs2 hrow1 honly1; go_simp)
    | (refine wpl_box rfl 24 (.tmp 1) rfl 25 _ rfl ?_; intro w2 lb hl1 hl2 hrow2 honly2; go_simp)
    | (refine wpl_alloc rfl 38 rfl 1600 _ zero38 ?_; intro w3 bb hb1 hb2 hrow3 honly3; go_simp))
  have hz1 := honly1.size
  have hz2 := honly2.size
  have hz3 := honly3.size
  have hbw : w.heap.size ≤ bb := by omega
  have hsb : sb ≠ bb := by omega
  have hlb : lb ≠ bb := by omega
  have hrs := honly3.row (honly2.row hrow1 (by simp)) (by simp)
  have hrl := honly3.row hrow2 (by simp)
  have hon := (honly1.trans honly2).trans honly3
  clear hrow1 hrow2 honly1 honly2 honly3
  go_loopw [9] (fun v wr => ∃ k : Nat, k ≤ 1600 ∧ v = .int .i64 k ∧ Row wr bb 38 1600 (boolV (bitsTo p k)) ∧ Row wr sb 22 200 (byteV p) ∧ Row wr lb 24 25 (laneV l) ∧ Only [] w wr) (fun v _ => 1600 - (intOf v).toNat)
  case atStart => exact ⟨0, by omega, rfl, hrow3.congr (fun j _ => by simp [boolV, bitsTo]), hrs, hrl, hon⟩
  case round =>
    clear hrow3 hrs hrl hon
    obtain ⟨k, hk, rfl, hrb, hrs, hrl, honly⟩ := hrel
    by_cases hlt : k < 1600
    · have dk : decide ((k : Int) < 1600) = true := by simp; omega
      have hc := hrs.cell (i := k / 8) (by omega)
      unfold byteV at hc
      have hbit := B8_bit (p (k / 8)) (k % 8)
      go_wp2_with (refine wpl_store1 rfl 4 _ _ rfl bb k (.bool (bbit (p (k / 8)) (k % 8))) rfl rfl rfl rfl size4 38 1600 _ hrb (by omega) ?_; intro w4 hrow4 honly4; go_simp)
      go_roundw
      case rel => exact ⟨k + 1, by omega, by go_num, hrow4.congr (fun j _ => bitsTo_next), honly4.row hrs (by simpa using hsb), honly4.row hrl (by simpa using hlb), honly.step honly4 (by simpa using hbw)⟩
      case measure => simp [intOf]; omega
    · have dk : decide ((k : Int) < 1600) = false := by simp; omega
      have hrb' : Row wr bb 38 1600 (boolV (bitsB p)) := hrb.congr (fun j hj => by unfold boolV bitsTo; rw [if_pos (by omega)])
      clear hrb
      go_wp2_with fail
      refine (kf17 _ bb 38 _ hrb').mono ?_
      rintro e w5 ⟨rfl, hrb5, ho5⟩
      have hrl5 := ho5.row hrl (by simpa using hlb)
      have hon5 := honly.step ho5 (by simpa using hbw)
      clear hrb' hrl hrs honly ho5 hk hlt
      generalize hq : kfB (bitsB p) = q at hrb5
      have HQ := hide' hq
      clear hq
      go_wp2_with (refine wpl_load rfl 38 (.tmp 5) rfl bb 38 1600 (boolV q) rfl hrb5 _ Sadg.underlying38 rfl size38 ?_; go_simp)
      go_loop [26] (fun v => ∃ i : Nat, i ≤ 1600 ∧ v = .int .i64 i) (fun v => 1600 - (intOf v).toNat)
      case atStart => exact ⟨0, by omega, rfl⟩
      case round =>
        obtain ⟨i, hi, rfl⟩ := hrel
        by_cases hlti : i < 1600
        · have di : decide ((i : Int) < 1600) = true := by simp; omega
          have hidx : ∀ w : World, (Instr.index 38 (.agg (rowC 1600 (boolV q))) (.int .i64 i)).run Sadg.prog w = .ok (.bool (q i)) w := fun w =>
            run_index_arr 38 4 1600 _ .i64 i _ w _ Sadg.underlying38 Sadg.underlying4 rfl size4 (by omega) (by omega) (by rw [Int.toNat_natCast, rowC_get, if_pos hlti]; rfl)
          have hc := hrl5.cell (i := i / 64) (by omega)
          unfold laneV at hc
          have hbit : (bits .and .u64 (U (l (i / 64)) / 2 ^ (i % 64)) 1 == 1) = q i := by rw [U_bit, ← HH.out i hlti, HQ.out]
          go_wp2
          go_round
          case rel => exact ⟨i + 1, by omega, by go_num⟩
          case measure => simp [intOf]; omega
        · have di : decide ((i : Int) < 1600) = false := by simp; omega
          go_wp2
          go_ret
          exact ⟨rfl, hon5⟩

theorem lanes_bits (p : Nat → BitVec 8) (n b : Nat) (hb : b < 64) : ∀ k, (lanesTo p k n).getLsbD b = (decide (8 * n + b / 8 < k) && (p (8 * n + b / 8)).getLsbD (b % 8))
  | 0 => by simp [lanesTo]
  | k + 1 => by
    rw [lanesTo, upd_ap]
    by_cases h : n = k / 8
    · rw [if_pos h, BitVec.getLsbD_or, ← h, lanes_bits p n b hb k, bits_byte _ _ _ hb]
      by_cases h1 : 8 * n + b / 8 < k
      · have h2 : 8 * n + b / 8 < k + 1 := by omega
        have h3 : (p k).getLsbD (b - 8 * (k % 8)) = false ∨ ¬ 8 * (k % 8) ≤ b := by right; omega
        have h4 : ¬ 8 * (k % 8) ≤ b := by omega
        simp [h1, h2, h4]
      · by_cases h2 : 8 * n + b / 8 = k
        · have h3 : 8 * n + b / 8 < k + 1 := by omega
          have h4 : 8 * (k % 8) ≤ b := by omega
          have h5 : b - 8 * (k % 8) = b % 8 := by omega
          rw [h5, h2]
          simp [h4]
        · have h3 : ¬ 8 * n + b / 8 < k + 1 := by omega
          have h4 : (p k).getLsbD (b - 8 * (k % 8)) = false := BitVec.getLsbD_of_ge _ _ (by omega)
          simp [h1, h3, h4]
    · rw [if_neg h, lanes_bits p n b hb k]
      by_cases h1 : 8 * n + b / 8 < k
      · have h2 : 8 * n + b / 8 < k + 1 := by omega
        simp [h1, h2]
      · have h2 : ¬ 8 * n + b / 8 < k + 1 := by omega
        simp [h1, h2]

theorem perm_same (p : Nat → BitVec 8) : ∀ i, i < 1600 → kfB (bitsB p) i = cbit (fL (lanesTo p 200) 24 (i / 64)) (i % 64) := by
  refine perm_law ?_
  intro i hi
  unfold bitsB bbit
  rw [lanes_bits p _ _ (by omega) 200]
  have e1 : 8 * (i / 64) + i % 64 / 8 = i / 8 := by omega
  have e2 : i % 64 % 8 = i % 8 := by omega
  have e3 : i / 8 < 200 := by omega
  rw [e1, e2]
  simp [e3]

set_option maxRecDepth 20000 in
set_option maxHeartbeats 1000000 in
theorem perm3 (w : World) (p : Nat → BitVec 8) :
    Calls Sadg.prog 3 #[.agg (rowC 200 (byteV p))] w fun e w' => e = .returned (.bool true) ∧ Below w.heap.size w w' := by
  go_enter Sadg.func3, Sadg.ntmps3
  go_wp2_with (first
    | (refine wpl_box rfl 22 (.tmp 0) rfl 200 _ rfl ?_; intro w1 sb hs1 hs2 hrow1 honly1; go_simp)
    | (refine wpl_load rfl 22 (.tmp 1) rfl sb 22 200 (byteV p) rfl hrow1 _ Sadg.underlying22 rfl size22 ?_; go_simp))
  refine (lanes7 _ p).mono ?_
  rintro e w2 ⟨rfl, honly2⟩
  have hrs2 := honly2.row hrow1 (by simp)
  go_wp2_with (first
    | (refine wpl_alloc rfl 24 rfl 25 _ zero24 ?_; intro w3 ab ha1 ha2 hrow3 honly3; go_simp)
    | (refine wpl_store rfl 24 (.tmp 3) (.tmp 5) rfl ab 24 25 _ (laneV (lanesTo p 200)) rfl rfl hrow3 size24 (fun _ => rfl) ?_; intro w4 hrow4 honly4; go_simp))
  have hls := hrs2.lt
  have hz1 := honly1.size
  have hz2 := honly2.size
  have hsa : sb ≠ ab := by omega
  have haw : w.heap.size ≤ ab := by omega
  have hrs4 := honly4.row (honly3.row hrs2 (by simp)) (by simpa using hsa)
  have hon4 := ((honly1.trans honly2).trans honly3).step honly4 (by simpa using haw)
  clear hrow1 hrs2 honly1 honly2 honly3 honly4 hrow3
  refine (f8 _ ab 24 _ hrow4).mono ?_
  rintro e w5 ⟨rfl, hrow5, honly5⟩
  have hrs5 := honly5.row hrs4 (by simpa using hsa)
  have hon5 := hon4.step honly5 (by simpa using haw)
  clear hrow4 hrs4 hon4 honly5
  go_wp2_with (first
    | (refine wpl_load rfl 22 (.tmp 1) rfl sb 22 200 (byteV p) rfl hrs5 _ Sadg.underlying22 rfl size22 ?_; go_simp)
    | (refine wpl_load rfl 24 (.tmp 3) rfl ab 24 25 (laneV (fL (lanesTo p 200) 24)) rfl hrow5 _ Sadg.underlying24 rfl size24 ?_; go_simp))
  refine (permHolds9 _ p _ (perm_same p)).mono ?_
  rintro e w6 ⟨rfl, honly6⟩
  go_wp2
  go_ret
  exact ⟨rfl, (hon5.trans honly6).below (by simp)⟩
end Go.Proofs.Ygcsad
