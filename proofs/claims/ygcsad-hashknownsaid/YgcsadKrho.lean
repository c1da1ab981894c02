/-
  The walk of kmodel.rho.
-/
import Derived.Test.YgcsadKpi
namespace Go.Proofs.Ygcsad
open Go.RowKit

/-- 'wpl_copy' as a step of a region that draws its order. -/
theorem step_copyRow {P : Program} {ops : Array Oper} {o : Oper} {a : Act} {w : World} {K : Act → World → Prop} {Q : Exit → Act → World → Prop} {E : Prop} (hgd : o.guard = none) (d s : Operand) (dT sT : TypeId)
    (ho : o.op = .call { callee := .builtin .copy, args := #[d, s], argTypes := #[dT, sT] }) (elem : TypeId) (hu : P.underlying dT = some (.slice elem)) (hsz : (P.info? elem).map (·.size) = some 1)
    (g T n off dLen dCap : Nat) (dp sp : Option Addr) (sLen sCap m : Nat) (hd : a.eval d = .slice dp dLen dCap) (hs : a.eval s = .slice sp sLen sCap) (hn : m = Nat.min sLen dLen)
    (f v : Nat → Value) (hr : Row w g T n f) (hfit : off + m ≤ n) (h1 : ∀ i, (v i).oneCell' = true)
    (hpos : 0 < m → dp = some ⟨g, off, none⟩ ∧ ∃ b2 o2, sp = some ⟨b2, o2, none⟩ ∧ ∀ j, j < m → w.cell? ⟨b2, o2 + j, none⟩ = some (v j))
    (h : ∀ w', Row w' g T n (lay f v off m) → Only [g] w w' → K (a.put o.dst (goInt m)) w') :
    if Region.wanted o (yielded ops a.tmps) = true then Oper.wp P o a w K Q else E := by
  have hw : Region.wanted o (yielded ops a.tmps) = true := by simp [Region.wanted, hgd]
  rw [if_pos hw]
  obtain ⟨w', hrun, hrow, honly⟩ := run_copy_rows (P := P) (w := w) dT sT o.type elem hu hsz g T n off dLen dCap dp sp sLen sCap m hn f v hr hfit h1 hpos
  unfold Oper.wp
  simp [execOp, ho, resolve, invoke, builtin, hd, hs, hrun, Result.andThen]
  exact h _ hrow honly

theorem run_sliceLo (w : World) (a : Addr) (k : Nat) (I : Int) (hI : I = k) (hk : k ≤ 64) :
    (Instr.sliceAt 49 (.pointer (some a)) (some (.int .u8 I)) none none).run Sadg.prog w = .ok (.slice (some (if 64 = k then a else a.add k)) (64 - k) (64 - k)) w := by
  subst hI
  have hs := size4
  cases hq : Sadg.prog.info? 4 with
  | none => simp [hq] at hs
  | some i0 =>
    have hsz : i0.size = 1 := by simpa [hq] using hs
    simp [Instr.sliceAt, run_underlying Sadg.underlying49, Instr.sureAddr, Instr.sliceBounds, Instr.sliceBound, asIntOf, hk, sizeOf, typeInfo, hq, hsz]
theorem run_sliceHi (w : World) (a : Addr) (k : Nat) (I : Int) (hI : I = k) (hk : k ≤ 64) :
    (Instr.sliceAt 49 (.pointer (some a)) none (some (.int .u8 I)) none).run Sadg.prog w = .ok (.slice (some a) k 64) w := by
  subst hI
  have hs := size4
  cases hq : Sadg.prog.info? 4 with
  | none => simp [hq] at hs
  | some i0 =>
    simp [Instr.sliceAt, run_underlying Sadg.underlying49, Instr.sureAddr, Instr.sliceBounds, Instr.sliceBound, asIntOf, hk, sizeOf, typeInfo, hq, Addr.add]
/-- Where the last k of 64 cells begin. -/
def tailAt (k : Nat) (a : Addr) : Addr := if 64 = 64 - k then a else a.add (64 - k)

/-- rho. -/
def rhoB (s : Nat → Bool) : Nat → Bool := fun j => s (j - j % 64 + (j % 64 + (64 - offN (j / 320) (j % 320 / 64))) % 64)
/-- rho behind x columns and y lanes. -/
def rhoTo (s : Nat → Bool) (x y : Nat) : Nat → Bool := fun j => if j < x * 320 + y * 64 then rhoB s j else false

theorem rhoTo_x (s : Nat → Bool) (x : Nat) : rhoTo s (x + 1) 0 = rhoTo s x 5 := by
  funext j; unfold rhoTo; rw [show (x + 1) * 320 + 0 * 64 = x * 320 + 5 * 64 from by omega]
theorem tail_pos {k b o : Nat} (h : 0 < k) (hk : k < 64) : some (tailAt k ⟨b, o, none⟩) = some ⟨b, o + (64 - k), none⟩ := by
  unfold tailAt
  rw [if_neg (by omega), Addr.add_mid]
theorem range_in {a k j : Nat} (hk : k < 64) (h0 : a ≤ j ∧ j < a + 64) (h1 : ¬ (a ≤ j ∧ j < a + k)) : a + k ≤ j ∧ j < a + k + (64 - k) := by omega
theorem range_out {a k j : Nat} (hk : k < 64) (h0 : ¬ (a ≤ j ∧ j < a + 64)) : ¬ (a + k ≤ j ∧ j < a + k + (64 - k)) := by omega
theorem range_out' {a k j : Nat} (hk : k < 64) (h0 : ¬ (a ≤ j ∧ j < a + 64)) : ¬ (a ≤ j ∧ j < a + k) := by omega
theorem rhoTo_next {s : Nat → Bool} {x y k j : Nat} (hy : y < 5) (hk : k < 64) (ho : offN x y = k) :
    lay (lay (boolV (rhoTo s x y)) (fun j => boolV s (x * 320 + y * 64 + j)) (x * 320 + y * 64 + k) (64 - k)) (fun j => boolV s (x * 320 + y * 64 + (64 - k) + j)) (x * 320 + y * 64) k j = boolV (rhoTo s x (y + 1)) j := by
  unfold lay
  by_cases h0 : x * 320 + y * 64 ≤ j ∧ j < x * 320 + y * 64 + 64
  · have e1 : j / 320 = x := by omega
    have e2 : j % 320 / 64 = y := by omega
    have hR : boolV (rhoTo s x (y + 1)) j = boolV s (j - j % 64 + (j % 64 + (64 - k)) % 64) := by
      unfold boolV rhoTo rhoB
      rw [if_pos (by omega), e1, e2, ho]
    rw [hR]
    by_cases h1 : x * 320 + y * 64 ≤ j ∧ j < x * 320 + y * 64 + k
    · have e3 : j - j % 64 + (j % 64 + (64 - k)) % 64 = x * 320 + y * 64 + (64 - k) + (j - (x * 320 + y * 64)) := by omega
      rw [if_pos h1, e3]
    · have e3 : j - j % 64 + (j % 64 + (64 - k)) % 64 = x * 320 + y * 64 + (j - (x * 320 + y * 64 + k)) := by omega
      have h3 : x * 320 + y * 64 + k ≤ j ∧ j < x * 320 + y * 64 + k + (64 - k) := range_in hk h0 h1
      rw [if_neg h1, if_pos h3, e3]
  · have h3 : ¬ (x * 320 + y * 64 + k ≤ j ∧ j < x * 320 + y * 64 + k + (64 - k)) := range_out hk h0
    have h4 : ¬ (x * 320 + y * 64 ≤ j ∧ j < x * 320 + y * 64 + k) := range_out' hk h0
    rw [if_neg h4, if_neg h3]
    unfold boolV rhoTo
    by_cases h2 : j < x * 320 + y * 64
    · rw [if_pos h2, if_pos (by omega)]
    · rw [if_neg h2, if_neg (by omega)]

theorem offLt {x y : Nat} (hx : x < 5) (hy : y < 5) : offN x y < 64 := off_lt ⟨x, hx⟩ ⟨y, hy⟩

set_option maxRecDepth 20000 in
set_option maxHeartbeats 2000000 in
theorem rho23 (w : World) (b T : Nat) (s : Nat → Bool) (hr : Row w b T 1600 (boolV s)) :
    Calls Sadg.prog 23 #[.pointer (some ⟨b, 0, none⟩)] w fun e w' => e = .returned (.agg (rowC 1600 (boolV (rhoB s)))) ∧ Only [] w w' := by
  go_enter Sadg.func23, Sadg.ntmps23
  go_wp2_with (refine wpl_alloc rfl 52 rfl 1600 _ zero52 ?_; intro w1 rb hc1 hc2 hrow1 honly1; go_simp)
  have hbl := hr.lt
  have hcb : rb ≠ b := by omega
  have hbc : b ≠ rb := hcb.symm
  have hr1 := honly1.row hr (by simp)
  go_loopw [6] (fun v wr => ∃ x : Nat, x ≤ 5 ∧ v = .int .i64 x ∧ Row wr rb 52 1600 (boolV (rhoTo s x 0)) ∧ Row wr b T 1600 (boolV s) ∧ Only [] w wr) (fun v _ => 5 - (intOf v).toNat)
  case atStart => exact ⟨0, by omega, rfl, hrow1.congr (fun j _ => by simp [boolV, rhoTo]), hr1, honly1⟩
  case round =>
    obtain ⟨x, hx, rfl, hrr, hrb, honly⟩ := hrel
    clear hrow1 honly1 hr1
    by_cases hltx : x < 5
    · have dx : decide ((x : Int) < 5) = true := by simp; omega
      go_wp2
      go_loopw [9] (fun v wr => ∃ y : Nat, y ≤ 5 ∧ v = .int .i64 y ∧ Row wr rb 52 1600 (boolV (rhoTo s x y)) ∧ Row wr b T 1600 (boolV s) ∧ Only [] w wr) (fun v _ => 5 - (intOf v).toNat)
      case atStart => exact ⟨0, by omega, rfl, hrr, hrb, honly⟩
      case round =>
        clear hrr hrb honly
        obtain ⟨y, hy, rfl, hrr, hrb, honly⟩ := hrel
        by_cases hlty : y < 5
        · have dy : decide ((y : Int) < 5) = true := by simp; omega
          have g0 : (0 : Int) ≤ (x : Int) := by omega
          have g1 : (x : Int) < 5 := by omega
          have g2 : (0 : Int) ≤ (y : Int) := by omega
          have g3 : (y : Int) < 5 := by omega
          go_wp2_with fail
          refine (offset30 _ x y hltx hlty).mono ?_
          rintro e w' ⟨rfl, rfl⟩
          have hk := offLt hltx hlty
          generalize hko : offN x y = k at hk ⊢
          have HK := hide' hko
          clear hko
          have m1 : (k : Int) % 64 = (k : Int) := by omega
          have m2 : IntKind.u8.wrap (64 - (k : Int)) = 64 - (k : Int) := by rw [IntKind.wrap_u8']; omega
          have m3 : (0 : Int) ≤ (k : Int) := by omega
          have m4 : (k : Int) < 64 := by omega
          have m5 : (0 : Int) ≤ 64 - (k : Int) := by omega
          have m6 : 64 - (k : Int) ≤ 64 := by omega
          have m7 : (64 - (k : Int)).toNat = 64 - k := by omega
          have q1 : ∀ (w : World) (a : Addr), (Instr.sliceAt 49 (.pointer (some a)) (some (.int .u8 (k : Int))) none none).run Sadg.prog w = .ok (.slice (some (a.add k)) (64 - k) (64 - k)) w := fun w a => by
            rw [run_sliceLo w a k _ rfl (by omega), if_neg (by omega)]
          have q2 : ∀ (w : World) (a : Addr), (Instr.sliceAt 49 (.pointer (some a)) none (some (.int .u8 (64 - (k : Int)))) none).run Sadg.prog w = .ok (.slice (some a) (64 - k) 64) w := fun w a => run_sliceHi w a (64 - k) _ (by omega) (by omega)
          have q3 : ∀ (w : World) (a : Addr), (Instr.sliceAt 49 (.pointer (some a)) none (some (.int .u8 (k : Int))) none).run Sadg.prog w = .ok (.slice (some a) k 64) w := fun w a => run_sliceHi w a k _ rfl (by omega)
          have q4 : ∀ (w : World) (a : Addr), (Instr.sliceAt 49 (.pointer (some a)) (some (.int .u8 (64 - (k : Int)))) none none).run Sadg.prog w = .ok (.slice (some (tailAt k a)) k k) w := fun w a => by
            rw [run_sliceLo w a (64 - k) _ (by omega) (by omega)]
            unfold tailAt
            rw [show 64 - (64 - k) = k from by omega]
          go_wp2_with fail
          go_region_held3 (fun w' => True) (trivial) ((refine step_copyRow (by rfl) (.tmp 23) (.tmp 32) 46 46 (by rfl) 4 Sadg.underlying46 size4 rb 52 1600 (x * 320 + y * 64 + k) (64 - k) (64 - k) (some ⟨rb, x * 320 + y * 64 + k, none⟩) (some ⟨b, x * 320 + y * 64, none⟩) (64 - k) 64 (64 - k) (by rfl) (by rfl) (Nat.min_self _).symm (boolV (rhoTo s x y)) (fun j => boolV s (x * 320 + y * 64 + j)) hrr.drew (by omega) (fun _ => rfl) (fun _ => ⟨rfl, b, x * 320 + y * 64, rfl, fun j hj => hrb.drew.cell (by omega)⟩) ?_; intro w2 hrow2 honly2))
          have hrb2 := honly2.row hrb.drew (by simpa using hbc)
          go_wp2_with fail
          go_region_held3 (fun w' => True) (trivial) ((refine step_copyRow (by rfl) (.tmp 39) (.tmp 48) 46 46 (by rfl) 4 Sadg.underlying46 size4 rb 52 1600 (x * 320 + y * 64) k 64 (some ⟨rb, x * 320 + y * 64, none⟩) (some (tailAt k ⟨b, x * 320 + y * 64, none⟩)) k k k (by rfl) (by rfl) (Nat.min_self _).symm _ (fun j => boolV s (x * 320 + y * 64 + (64 - k) + j)) hrow2.drew (by omega) (fun _ => rfl) (fun h => ⟨rfl, b, x * 320 + y * 64 + (64 - k), tail_pos h hk, fun j hj => hrb2.drew.cell (by omega)⟩) ?_; intro w3 hrow3 honly3))
          go_wp2
          go_roundw
          case rel =>
            refine ⟨y + 1, by omega, by go_num, hrow3.congr (fun j _ => ?_), honly3.row hrb2.drew (by simpa using hbc), (honly.drew.step honly2 (by simpa using hc1)).drew.step honly3 (by simpa using hc1)⟩
            exact rhoTo_next hlty hk HK.out
          case measure => simp [intOf]; omega
        · have hrr5 : Row wr rb 52 1600 (boolV (rhoTo s (x + 1) 0)) := by
            have e : y = 5 := by omega
            rw [rhoTo_x, ← e]; exact hrr
          go_wp2
          go_roundw
          case rel => exact ⟨x + 1, by omega, by go_num, hrr5, hrb, honly⟩
          case measure => simp [intOf]; omega
    · have dx : decide ((x : Int) < 5) = false := by simp; omega
      have hrr5 : Row wr rb 52 1600 (boolV (rhoB s)) := hrr.congr (fun j hj => by unfold boolV rhoTo; rw [if_pos (by omega)])
      clear hrr
      go_wp2_with (first
        | (refine wpl_load rfl 52 (.tmp 2) rfl rb 52 1600 (boolV (rhoB s)) rfl hrr5 _ Sadg.underlying52 rfl size52 ?_; go_simp)
        | (refine wpl_store rfl 52 (.tmp 2) (.tmp 52) rfl rb 52 1600 _ (boolV (rhoB s)) rfl rfl hrr5 size52 (fun _ => rfl) ?_; intro w3 hrow3 honly3; go_simp))
      exact bodyPost_ret (results_row rfl _ _ rb 52 1600 _ _ rfl hrow3 Sadg.underlying52 rfl size52) rfl ⟨rfl, honly.step honly3 (by simpa using hc1)⟩
end Go.Proofs.Ygcsad
