/-
  The walk of kmodel.F.
-/
import Derived.Test.YgcsadKrho
namespace Go.Proofs.Ygcsad
open Go.RowKit

/-- Where bit i of the 1600 stands in the state. -/
def sigI (i : Nat) : Nat := i / 64 % 5 * 320 + i / 320 * 64 + i % 64
/-- .. and back. -/
def tauI (j : Nat) : Nat := 64 * (5 * (j % 320 / 64) + j / 320) + j % 64
theorem sig_at {x y z : Nat} (hx : x < 5) (hz : z < 64) : sigI (320 * y + 64 * x + z) = x * 320 + y * 64 + z := by
  unfold sigI
  have e1 : (320 * y + 64 * x + z) / 64 = 5 * y + x := by omega
  have e2 : (5 * y + x) % 5 = x := by omega
  have e3 : (320 * y + 64 * x + z) / 320 = y := by omega
  have e4 : (320 * y + 64 * x + z) % 64 = z := by omega
  rw [e1, e2, e3, e4]
theorem tau_at {x y z : Nat} (hy : y < 5) (hz : z < 64) : tauI (x * 320 + y * 64 + z) = 320 * y + 64 * x + z := by
  unfold tauI
  have e1 : (x * 320 + y * 64 + z) % 320 = y * 64 + z := by omega
  have e2 : (y * 64 + z) / 64 = y := by omega
  have e3 : (x * 320 + y * 64 + z) / 320 = x := by omega
  have e4 : (x * 320 + y * 64 + z) % 64 = z := by omega
  rw [e1, e2, e3, e4]
  omega
theorem tau_sig {i : Nat} (hi : i < 1600) : tauI (sigI i) = i := by
  obtain ⟨x, y, z, hx, hy, hz, rfl⟩ : ∃ x y z, x < 5 ∧ y < 5 ∧ z < 64 ∧ i = 320 * y + 64 * x + z := ⟨i / 64 % 5, i / 320, i % 64, by omega, by omega, by omega, by omega⟩
  rw [sig_at hx hz, tau_at hy hz]
theorem sig_tau {j : Nat} (hj : j < 1600) : sigI (tauI j) = j := by
  obtain ⟨x, y, z, hx, hy, hz, rfl⟩ : ∃ x y z, x < 5 ∧ y < 5 ∧ z < 64 ∧ j = x * 320 + y * 64 + z := ⟨j / 320, j % 320 / 64, j % 64, by omega, by omega, by omega, by omega⟩
  rw [tau_at hy hz, sig_at hx hz]
theorem sig_lt {i : Nat} (hi : i < 1600) : sigI i < 1600 := by unfold sigI; omega
theorem tau_lt {j : Nat} (hj : j < 1600) : tauI j < 1600 := by unfold tauI; omega

/-- The first k bits laid into the state. -/
def inTo (s : Nat → Bool) (k : Nat) : Nat → Bool := fun j => if tauI j < k then s (tauI j) else false
theorem inTo_next {s : Nat → Bool} {k j : Nat} (hk : k < 1600) (hj : j < 1600) : upd (boolV (inTo s k)) (sigI k) (.bool (s k)) j = boolV (inTo s (k + 1)) j := by
  rw [boolV_upd]
  unfold boolV
  rw [upd_ap]
  unfold inTo
  by_cases h : j = sigI k
  · subst h
    rw [if_pos rfl, tau_sig hk, if_pos (Nat.lt_succ_self k)]
  · have h1 : tauI j ≠ k := fun e => h (by rw [← e, sig_tau hj])
    rw [if_neg h]
    by_cases h2 : tauI j < k
    · rw [if_pos h2, if_pos (by omega)]
    · rw [if_neg h2, if_neg (by omega)]

/-- One round. -/
def kround (n : Nat) (s : Nat → Bool) : Nat → Bool := iotaB (constTo n 7) (chiB (piB (rhoB (thetaB s)))) 64
/-- The state behind n rounds. -/
def kf (s : Nat → Bool) : Nat → Nat → Bool
  | 0 => s
  | n + 1 => kround n (kf s n)
/-- The permutation on the 1600 bits. -/
def kfB (s : Nat → Bool) : Nat → Bool := fun i => kf (fun j => s (tauI j)) 24 (sigI i)

/-- The first k bits laid back. -/
def outTo (s q : Nat → Bool) (k : Nat) : Nat → Bool := fun i => if i < k then q (sigI i) else s i
theorem outTo_next {s q : Nat → Bool} {k j : Nat} : upd (boolV (outTo s q k)) k (.bool (q (k / 64 % 5 * 320 + k / 320 * 64 + k % 64))) j = boolV (outTo s q (k + 1)) j := by
  rw [boolV_upd]
  unfold boolV
  rw [upd_ap]
  unfold outTo
  by_cases h : j = k
  · subst h
    rw [if_pos rfl, if_pos (Nat.lt_succ_self j)]
    rfl
  · rw [if_neg h]
    by_cases h2 : j < k
    · rw [if_pos h2, if_pos (by omega)]
    · rw [if_neg h2, if_neg (by omega)]

set_option maxRecDepth 20000 in
set_option maxHeartbeats 2000000 in
theorem kf17 (w : World) (sb T : Nat) (s : Nat → Bool) (hr : Row w sb T 1600 (boolV s)) :
    Calls Sadg.prog 17 #[.pointer (some ⟨sb, 0, none⟩)] w fun e w' => e = .returned (.tuple #[]) ∧ Row w' sb T 1600 (boolV (kfB s)) ∧ Only [sb] w w' := by
  go_enter Sadg.func17, Sadg.ntmps17
  go_wp2_with (refine wpl_alloc rfl 52 rfl 1600 _ zero52 ?_; intro w1 ab hc1 hc2 hrow1 honly1; go_simp)
  have hbl := hr.lt
  have hab : ab ≠ sb := by omega
  have hba : sb ≠ ab := hab.symm
  have hr1 := honly1.row hr (by simp)
  go_loopw [12] (fun v wr => ∃ k : Nat, k ≤ 1600 ∧ v = .int .i64 k ∧ Row wr ab 52 1600 (boolV (inTo s k)) ∧ Row wr sb T 1600 (boolV s) ∧ Only [sb] w wr) (fun v _ => 1600 - (intOf v).toNat)
  case atStart => exact ⟨0, by omega, rfl, hrow1.congr (fun j _ => by simp [boolV, inTo]), hr1, (Only.refl _ _).step honly1 (by simp)⟩
  case round =>
    obtain ⟨k, hk, rfl, hra, hrs, honly⟩ := hrel
    clear hrow1 honly1 hr1
    by_cases hlt : k < 1600
    · have dk : decide ((k : Int) < 1600) = true := by simp; omega
      have k1 := hrs.cell (i := k) hlt
      unfold boolV at k1
      go_wp2_with fail
      go_region
      go_wp2_with (refine wpl_store1 rfl 4 _ _ rfl ab (k / 64 % 5 * 320 + k / 320 * 64 + k % 64) (.bool (s k)) rfl rfl rfl rfl size4 52 1600 _ hra.drew (by omega) ?_; intro w3 hrow3 honly3; go_simp)
      go_roundw
      case rel => exact ⟨k + 1, by omega, by go_num, hrow3.congr (fun j hj => inTo_next hlt hj), honly3.row hrs.drew (by simpa using hba), honly.drew.step honly3 (by simp [hc1])⟩
      case measure => simp [intOf]; omega
    · have dk : decide ((k : Int) < 1600) = false := by simp; omega
      have hra' : Row wr ab 52 1600 (boolV (kf (fun j => s (tauI j)) 0)) := hra.congr (fun j hj => by
        unfold boolV inTo kf; rw [if_pos (by have := tau_lt hj; omega)])
      clear hra hk hlt
      go_wp2
      go_loopw [5] (fun v wr => ∃ n : Nat, n ≤ 24 ∧ v = .int .u8 n ∧ Row wr ab 52 1600 (boolV (kf (fun j => s (tauI j)) n)) ∧ Row wr sb T 1600 (boolV s) ∧ Only [sb] w wr) (fun v _ => 24 - (intOf v).toNat)
      case atStart => exact ⟨0, by omega, rfl, hra', hrs, honly⟩
      case round =>
        clear hra' hrs honly dk
        obtain ⟨n, hn, rfl, hra, hrs, honly⟩ := hrel
        by_cases hltn : n < 24
        · have dn : decide ((n : Int) < 24) = true := by simp; omega
          go_wp2_with fail
          refine (theta22 _ ab 52 _ hra).mono ?_
          rintro e w2 ⟨rfl, hra2, ho2⟩
          have hrs2 := ho2.row hrs (by simpa using hba)
          go_wp2_with fail
          refine (rho23 _ ab 52 _ hra2).mono ?_
          rintro e w3 ⟨rfl, ho3⟩
          have hra3 := ho3.row hra2 (by simp)
          have hrs3 := ho3.row hrs2 (by simp)
          go_wp2_with (first
            | (refine wpl_alloc rfl 52 rfl 1600 _ zero52 ?_; intro w4 tb ht1 ht2 hrt4 ho4; go_simp)
            | (refine wpl_store rfl 52 (.tmp 6) (.tmp 35) rfl tb 52 1600 _ (boolV (rhoB (thetaB (kf (fun j => s (tauI j)) n)))) rfl rfl hrt4 size52 (fun _ => rfl) ?_; intro w5 hrt5 ho5; go_simp))
          have hlt3 := hra3.lt
          have hls3 := hrs3.lt
          have hw3 := ho3.size
          have hw2 := ho2.size
          have hww := honly.size
          have hta : tb ≠ ab := by omega
          have hts : tb ≠ sb := by omega
          have htw : w.heap.size ≤ tb := by omega
          have hra5 := ho5.row (ho4.row hra3 (by simp)) (by simpa using hta.symm)
          have hrs5 := ho5.row (ho4.row hrs3 (by simp)) (by simpa using hts.symm)
          have hon5 := ((((honly.step ho2 (by simp [hc1])).step ho3 (by simp)).step ho4 (by simp)).step ho5 (by simp [htw]))
          clear hra hra2 hra3 hrs hrs2 hrs3 ho2 ho3 ho4 ho5 hrt4 honly
          refine (pi24 _ tb 52 _ hrt5).mono ?_
          rintro e w6 ⟨rfl, ho6⟩
          have hra6 := ho6.row hra5 (by simp)
          have hrs6 := ho6.row hrs5 (by simp)
          have hon6 := hon5.step ho6 (by simp)
          clear hra5 hrs5 hon5 hrt5 ho6
          go_wp2_with (first
            | (refine wpl_alloc rfl 52 rfl 1600 _ zero52 ?_; intro w7 mb hm1 hm2 hrm7 ho7; go_simp)
            | (refine wpl_store rfl 52 (.tmp 7) (.tmp 36) rfl mb 52 1600 _ (boolV (piB (rhoB (thetaB (kf (fun j => s (tauI j)) n))))) rfl rfl hrm7 size52 (fun _ => rfl) ?_; intro w8 hrm8 ho8; go_simp))
          have hlt6 := hra6.lt
          have hls6 := hrs6.lt
          have hw6 := hon6.size
          have hma : mb ≠ ab := by omega
          have hms : mb ≠ sb := by omega
          have hmw : w.heap.size ≤ mb := by omega
          have hra8 := ho8.row (ho7.row hra6 (by simp)) (by simpa using hma.symm)
          have hrs8 := ho8.row (ho7.row hrs6 (by simp)) (by simpa using hms.symm)
          have hon8 := (hon6.step ho7 (by simp)).step ho8 (by simp [hmw])
          clear hra6 hrs6 hon6 ho7 ho8 hrm7
          refine (chi25 _ mb 52 _ hrm8).mono ?_
          rintro e w9 ⟨rfl, ho9⟩
          have hra9 := ho9.row hra8 (by simp)
          have hrs9 := ho9.row hrs8 (by simp)
          have hon9 := hon8.step ho9 (by simp)
          clear hra8 hrs8 hon8 hrm8 ho9
          go_wp2_with (refine wpl_store rfl 52 (.tmp 2) (.tmp 37) rfl ab 52 1600 _ (boolV (chiB (piB (rhoB (thetaB (kf (fun j => s (tauI j)) n)))))) rfl rfl hra9 size52 (fun _ => rfl) ?_; intro w10 hra10 ho10; go_simp)
          have hrs10 := ho10.row hrs9 (by simpa using hba)
          have hon10 := hon9.step ho10 (by simp [hc1])
          clear hra9 hrs9 hon9 ho10
          refine (iota26 _ ab 52 n _ hltn hra10).mono ?_
          rintro e w11 ⟨rfl, hra11, ho11⟩
          have hrs11 := ho11.row hrs10 (by simpa using hba)
          have hon11 := hon10.step ho11 (by simp [hc1])
          go_wp2
          go_roundw
          case rel => exact ⟨n + 1, by omega, by go_num, hra11, hrs11, hon11⟩
          case measure => simp [intOf]; omega
        · have dn : decide ((n : Int) < 24) = false := by simp; omega
          have hra' : Row wr ab 52 1600 (boolV (kf (fun j => s (tauI j)) 24)) := by
            have e : n = 24 := by omega
            rw [← e]; exact hra
          clear hra hltn hn
          generalize hkf : kf (fun j => s (tauI j)) 24 = q at hra'
          have HQ := hide' hkf
          clear hkf
          go_wp2
          go_loopw [40] (fun v wr => ∃ k : Nat, k ≤ 1600 ∧ v = .int .i64 k ∧ Row wr sb T 1600 (boolV (outTo s q k)) ∧ Row wr ab 52 1600 (boolV q) ∧ Only [sb] w wr) (fun v _ => 1600 - (intOf v).toNat)
          case atStart => exact ⟨0, by omega, rfl, hrs.congr (fun j _ => by simp [boolV, outTo]), hra', honly⟩
          case round =>
            clear hra' hrs honly dn
            obtain ⟨k, hk, rfl, hrs, hra, honly⟩ := hrel
            by_cases hlt : k < 1600
            · have dk : decide ((k : Int) < 1600) = true := by simp; omega
              have k1 := hra.cell (i := k / 64 % 5 * 320 + k / 320 * 64 + k % 64) (by omega)
              have k2 := hrs.cell (i := k) hlt
              have k3 := hrs.frozen k
              unfold boolV at k1 k2
              have g0 : (0 : Int) ≤ (k : Int) := by omega
              have g1 : (k : Int) < 1600 := by omega
              go_wp2_with fail
              go_region
              go_wp2
              go_roundw
              case rel =>
                refine ⟨k + 1, by omega, by go_num, ?_, (hra.other (a := ⟨sb, k, none⟩) hab _).drew, (honly.setCell (p := ⟨sb, k, none⟩) (.inl (by simp)) _).drew⟩
                refine (hrs.set _ _).drew.congr (fun j _ => ?_)
                exact outTo_next
              case measure => simp [intOf]; omega
            · have dk : decide ((k : Int) < 1600) = false := by simp; omega
              go_wp2
              go_end0
              refine ⟨rfl, hrs.congr (fun j hj => ?_), honly⟩
              unfold boolV outTo kfB
              rw [if_pos (by omega), HQ.out]
end Go.Proofs.Ygcsad
