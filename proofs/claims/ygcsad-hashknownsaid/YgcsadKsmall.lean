/-
  The walks of kmodel's small functions: turn, Const, Offset, bit.
-/
import Derived.Test.YgcsadMake
import Derived.Test.YgcsadSmall
import Derived.Deep.RegionWith
import Derived.BigRegion
namespace Go.Proofs.Ygcsad
open Go.RowKit

theorem hide' {p : Prop} (h : p) : Hid p := h

/-- Bits as cells. -/
def boolV (s : Nat → Bool) (i : Nat) : Value := .bool (s i)
theorem boolV_upd (s : Nat → Bool) (i : Nat) (x : Bool) : upd (boolV s) i (.bool x) = boolV (upd s i x) := by
  funext j; by_cases h : j = i <;> simp [upd, boolV, h]
theorem upd_ap {α : Type} (f : Nat → α) (i : Nat) (v : α) (j : Nat) : upd f i v j = if j = i then v else f j := rfl

theorem size4 : (Sadg.prog.info? 4).map (·.size) = some 1 := by kernel_rfl

theorem bit31 (b : Bool) (w : World) : Calls Sadg.prog 31 #[.bool b] w fun e w' => e = .returned (.int .u8 b.toNat) ∧ w' = w := by
  cases b <;>
  · go_enter Sadg.func31, Sadg.ntmps31
    go_wp2
    go_ret
    exact ⟨rfl, rfl⟩

/-- The register with its first n places (from the top) shifted. -/
def shiftR (r : Nat → Bool) (n : Nat) : Nat → Bool := fun i => if n < i ∧ i < 8 then r (i - 1) else r i
/-- One turn of the register. -/
def turnR (r : Nat → Bool) : Nat → Bool := fun i => if i = 0 then r 7 else if i = 4 ∨ i = 5 ∨ i = 6 then r (i - 1) != r 7 else if i < 8 then r (i - 1) else r i

set_option maxRecDepth 20000 in
set_option maxHeartbeats 1000000 in
theorem turn33 (w : World) (b T : Nat) (r : Nat → Bool) (hr : Row w b T 8 (boolV r)) :
    Calls Sadg.prog 33 #[.pointer (some ⟨b, 0, none⟩)] w fun e w' => e = .returned (.tuple #[]) ∧ Row w' b T 8 (boolV (turnR r)) ∧ Only [b] w w' := by
  have h7 := hr.cell (i := 7) (by omega)
  unfold boolV at h7
  go_enter Sadg.func33, Sadg.ntmps33
  go_wp2
  go_loopw [3] (fun i wr => ∃ k : Nat, k ≤ 7 ∧ i = .int .i64 k ∧ Row wr b T 8 (boolV (shiftR r k)) ∧ Only [b] w wr) (fun i _ => (intOf i).toNat)
  case atStart => exact ⟨7, by omega, rfl, hr.congr (fun i _ => by unfold boolV shiftR; rw [if_neg (by omega)]), Only.refl _ _⟩
  case round =>
    obtain ⟨k, hk, rfl, hrow, honly⟩ := hrel
    by_cases hlt : 0 < k
    · have hc := hrow.cell (i := k - 1) (by omega)
      have hc2 := hrow.cell (i := k) (by omega)
      have hz := hrow.frozen k
      unfold boolV at hc hc2
      have g1 : (0 : Int) < (k : Int) := by omega
      have g2 : (k : Int) < 8 := by omega
      go_wp2_with fail
      go_region
      go_wp2
      go_roundw
      case rel =>
        refine ⟨k - 1, by omega, by go_num, ?_, (honly.setCell (.inl (by simp)) _).drew⟩
        refine (hrow.set k _).drew.congr (fun i _ => ?_)
        unfold boolV shiftR
        rw [upd_ap]
        by_cases h1 : i = k
        · subst h1
          rw [if_pos rfl, if_neg (by omega), if_pos (by omega)]
        · rw [if_neg h1]
          by_cases h2 : k < i ∧ i < 8
          · rw [if_pos h2, if_pos (by omega)]
          · rw [if_neg h2, if_neg (by omega)]
      case measure => simp [intOf]; omega
    · obtain rfl : k = 0 := by omega
      go_wp2_with (refine wpl_store1 rfl 4 _ _ rfl b 0 (.bool (r 7)) rfl rfl rfl rfl size4 T 8 _ hrow (by omega) ?_; intro w3 hrow3 honly3; go_simp)
      have c4 : w3.cell? ⟨b, 4, none⟩ = some (.bool (r 3)) := hrow3.cell (i := 4) (by omega)
      have c5 : w3.cell? ⟨b, 5, none⟩ = some (.bool (r 4)) := hrow3.cell (i := 5) (by omega)
      have c6 : w3.cell? ⟨b, 6, none⟩ = some (.bool (r 5)) := hrow3.cell (i := 6) (by omega)
      have z : ∀ i, w3.frozen? ⟨b, i, none⟩ = false := fun i => hrow3.frozen i
      go_region
      go_wp2
      go_region
      go_wp2
      go_region
      go_wp2
      go_end0
      refine ⟨rfl, ?_, ?_⟩
      · refine ((((hrow3.set 4 _).set 5 _).set 6 _).drew.drew.drew).congr (fun i hi => ?_)
        match i, hi with
        | 0, _ => rfl
        | 1, _ => rfl
        | 2, _ => rfl
        | 3, _ => rfl
        | 4, _ => rfl
        | 5, _ => rfl
        | 6, _ => rfl
        | 7, _ => rfl
        | _ + 8, h => exact absurd h (by omega)
      · exact (((((honly.step honly3 (by simp)).setCell (.inl (by simp)) _).setCell (.inl (by simp)) _).setCell (.inl (by simp)) _).drew.drew.drew)

/-- The register behind n turns. -/
def regT : Nat → Nat → Bool
  | 0 => fun i => i == 0
  | n + 1 => turnR (regT n)
/-- The constant behind the first j of its bits. -/
def constTo (i : Nat) : Nat → BitVec 64
  | 0 => 0#64
  | j + 1 => if regT (7 * i + j) 0 then constTo i j ||| 1#64 <<< (2 ^ j - 1) else constTo i j

theorem const_shift : ∀ j : Fin 7, IntKind.u64.wrap (2 ^ min (IntKind.u64.wrap (IntKind.u64.wrap (2 ^ j.val) - 1)).toNat 64) = U (1#64 <<< (2 ^ j.val - 1)) := by decide +kernel
theorem const_step (i j : Nat) (hj : j < 7) : Value.int .u64 (bits .or .u64 (U (constTo i j)) (IntKind.u64.wrap (2 ^ min (IntKind.u64.wrap (IntKind.u64.wrap (2 ^ j) - 1)).toNat 64))) = .int .u64 (U (constTo i j ||| 1#64 <<< (2 ^ j - 1))) := by
  rw [const_shift ⟨j, hj⟩, U_or]

theorem build67 : (Sadg.prog.info? 67).map (·.zero) = some (some (.agg (rowC 8 fun _ => .bool false))) := by kernel_rfl
theorem size67 : (Sadg.prog.info? 67).map (·.size) = some 8 := by kernel_rfl

set_option maxRecDepth 20000 in
set_option maxHeartbeats 1000000 in
theorem const32 (w : World) (i : Nat) (hi : i < 24) :
    Calls Sadg.prog 32 #[.int .u8 i] w fun e w' => e = .returned (.int .u64 (U (constTo i 7))) ∧ Only [] w w' := by
  have g1 : (i : Int) < 24 := by omega
  go_enter Sadg.func32, Sadg.ntmps32
  go_wp2_with (first
    | (refine wpl_alloc rfl 67 rfl 8 _ build67 ?_; intro w1 rb h1 h2 hrow1 honly1; go_simp)
    | (refine wpl_store rfl 67 (.tmp 3) (.tmp 9) rfl rb 67 8 _ (boolV (regT 0)) rfl (by rfl) hrow1 size67 (fun _ => rfl) ?_; intro w2 hrow2 honly2; go_simp))
  have hon2 := honly1.step honly2 (by simpa using h1)
  clear honly2 honly1 hrow1
  go_loopw [4] (fun v wr => ∃ t : Nat, t ≤ 7 * i ∧ v = .int .i64 t ∧ Row wr rb 67 8 (boolV (regT t)) ∧ Only [] w wr) (fun v _ => 7 * i - (intOf v).toNat)
  case atStart => exact ⟨0, by omega, rfl, hrow2, hon2⟩
  case round =>
    obtain ⟨t, ht, rfl, hrow, honly⟩ := hrel
    clear hrow2 hon2
    by_cases hlt : t < 7 * i
    · have g2 : (t : Int) < 7 * (i : Int) := by omega
      go_wp2_with (go_at_call 33; refine (turn33 _ rb 67 _ hrow).mono ?_; rintro e w3 ⟨rfl, hrow3, honly3⟩)
      go_roundw
      case rel => exact ⟨t + 1, by omega, by go_num, hrow3, honly.step honly3 (by simpa using h1)⟩
      case measure => simp [intOf]; omega
    · have ht7 : t = 7 * i := by omega
      have hrow' : Row wr rb 67 8 (boolV (regT (7 * i))) := by rw [← ht7]; exact hrow
      have hge : ¬ (t : Int) < 7 * (i : Int) := by omega
      clear ht7 hrow
      go_wp2
      go_loopw [5, 6] (fun c v wr => ∃ j : Nat, j ≤ 7 ∧ v = .int .i64 j ∧ c = .int .u64 (U (constTo i j)) ∧ Row wr rb 67 8 (boolV (regT (7 * i + j))) ∧ Only [] w wr) (fun _ v _ => 7 - (intOf v).toNat)
      case atStart => exact ⟨0, by omega, rfl, rfl, hrow', honly⟩
      case round =>
        obtain ⟨j, hj, rfl, rfl, hrowj, honlyj⟩ := hrel
        clear hrow' honly
        by_cases hlt7 : j < 7
        · have hc := hrowj.cell (i := 0) (by omega)
          unfold boolV at hc
          have HP := hide' (const_step i j hlt7)
          by_cases hb : regT (7 * i + j) 0 = true
          · have HB := hide' hb
            go_wp2_with fail
            refine (turn33 _ rb 67 _ hrowj).mono ?_
            rintro e w3 ⟨rfl, hrow3, honly3⟩
            go_wp2
            go_roundw
            case rel => exact ⟨j + 1, by omega, by go_num, by rw [HP.out, constTo, if_pos HB.out], hrow3, honlyj.step honly3 (by simpa using h1)⟩
            case measure => simp [intOf]; omega
          · have hb' : regT (7 * i + j) 0 = false := by simpa using hb
            have HB := hide' hb
            clear hb
            go_wp2_with fail
            refine (turn33 _ rb 67 _ hrowj).mono ?_
            rintro e w3 ⟨rfl, hrow3, honly3⟩
            go_wp2
            go_roundw
            case rel => exact ⟨j + 1, by omega, by go_num, by rw [constTo, if_neg HB.out], hrow3, honlyj.step honly3 (by simpa using h1)⟩
            case measure => simp [intOf]; omega
        · obtain rfl : j = 7 := by omega
          go_wp2
          go_ret
          exact ⟨rfl, honlyj⟩
end Go.Proofs.Ygcsad
