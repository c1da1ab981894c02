/-
  The walks of num.BE64 and num.PutBE64.
-/
import Derived.Test.YgcsadSmall
namespace Go.Proofs.Ygcsad
open Go.RowKit

def be64 (p : Nat → BitVec 8) : BitVec 64 :=
  (p 7).setWidth 64 ||| (p 6).setWidth 64 <<< 8 ||| (p 5).setWidth 64 <<< 16 ||| (p 4).setWidth 64 <<< 24 |||
    (p 3).setWidth 64 <<< 32 ||| (p 2).setWidth 64 <<< 40 ||| (p 1).setWidth 64 <<< 48 ||| (p 0).setWidth 64 <<< 56

theorem B8_wrap (x : BitVec 8) : IntKind.u64.wrap (B8 x) = U (x.setWidth 64) := by
  have h1 := B8_lt x
  have h2 := B8_nonneg x
  rw [← B8_U, IntKind.wrap_u64]; omega
theorem ret_two {k : IntKind} {a b : Int} {v : Value} (h : a = b) : Ending.returned (.tuple #[.int k a, v]) = .returned (.tuple #[.int k b, v]) := by rw [h]

set_option maxHeartbeats 1000000 in
theorem be27 (w : World) (b o len cap off : Nat) (p : Nat → BitVec 8) (hl : off + 8 ≤ len) (hc : len ≤ cap) (hm : cap ≤ maxLen)
    (h0 : w.cell? ⟨b, o + off, none⟩ = some (.int .u8 (B8 (p 0)))) (h1 : w.cell? ⟨b, o + off + 1, none⟩ = some (.int .u8 (B8 (p 1))))
    (h2 : w.cell? ⟨b, o + off + 2, none⟩ = some (.int .u8 (B8 (p 2)))) (h3 : w.cell? ⟨b, o + off + 3, none⟩ = some (.int .u8 (B8 (p 3))))
    (h4 : w.cell? ⟨b, o + off + 4, none⟩ = some (.int .u8 (B8 (p 4)))) (h5 : w.cell? ⟨b, o + off + 5, none⟩ = some (.int .u8 (B8 (p 5))))
    (h6 : w.cell? ⟨b, o + off + 6, none⟩ = some (.int .u8 (B8 (p 6)))) (h7 : w.cell? ⟨b, o + off + 7, none⟩ = some (.int .u8 (B8 (p 7)))) :
    Calls Sadg.prog 27 #[.slice (some ⟨b, o, none⟩) len cap, .int .i64 off] w fun e w' => e = .returned (.tuple #[.int .u64 (U (be64 p)), .bool true]) ∧ Only [] w w' := by
  have hm' := hm
  unfold maxLen at hm
  have e1 : (0 : Int) ≤ (off : Int) := by omega
  have e2 : (off : Int) + 8 ≤ (len : Int) := by omega
  have e3 : (off : Int) + 8 ≤ (cap : Int) := by omega
  have hat : ∀ (w : World) (a : Option Addr) (c : Nat), (Instr.arrayAt 65 (.slice a 8 c)).run Sadg.prog w = .ok (.pointer a) w := fun w a c => run_arrayAt w 65 5 8 a 8 c Sadg.underlying65 (by decide)
  go_enter Sadg.func27, Sadg.ntmps27
  go_wp2_with (go_at_call 28; refine (inside28 _ _ (by omega) (by unfold maxLen; omega) _).mono ?_; rintro e w' ⟨rfl, rfl⟩)
  go_ret2
  refine ⟨ret_two ?_, (Only.refl _ _).alloc _⟩
  simp only [B8_wrap, U_shl8, U_shl16, U_shl24, U_shl32, U_shl40, U_shl48, U_shl56, U_or]
  rfl

/-- The j-th byte of x, the highest first. -/
def byteBE (x : BitVec 64) (j : Nat) : BitVec 8 := (x >>> (56 - 8 * j)).setWidth 8

theorem U_mod (x : BitVec 64) : U x % (256 : Int) = B8 (x.setWidth 8) := by
  unfold B8 U; rw [BitVec.toNat_setWidth]; omega
theorem put_fn (off : Nat) (f : Nat → Value) (x : BitVec 64) (i : Nat) :
    upd (upd (upd (upd (upd (upd (upd (upd f off (.int .u8 (B8 ((x >>> 56).setWidth 8)))) (off + 1) (.int .u8 (B8 ((x >>> 48).setWidth 8)))) (off + 2) (.int .u8 (B8 ((x >>> 40).setWidth 8))))
      (off + 3) (.int .u8 (B8 ((x >>> 32).setWidth 8)))) (off + 4) (.int .u8 (B8 ((x >>> 24).setWidth 8)))) (off + 5) (.int .u8 (B8 ((x >>> 16).setWidth 8)))) (off + 6) (.int .u8 (B8 ((x >>> 8).setWidth 8))))
      (off + 7) (.int .u8 (B8 (x.setWidth 8))) i = if off ≤ i ∧ i < off + 8 then .int .u8 (B8 (byteBE x (i - off))) else f i := by
  by_cases h : off ≤ i ∧ i < off + 8
  · rw [if_pos h]
    obtain ⟨j, rfl⟩ : ∃ j, i = off + j := ⟨i - off, by omega⟩
    have hj : j < 8 := by omega
    rw [Nat.add_sub_cancel_left]
    match j, hj with
    | 0, _ => simp [upd, byteBE]
    | 1, _ => simp [upd, byteBE]
    | 2, _ => simp [upd, byteBE]
    | 3, _ => simp [upd, byteBE]
    | 4, _ => simp [upd, byteBE]
    | 5, _ => simp [upd, byteBE]
    | 6, _ => simp [upd, byteBE]
    | 7, _ => simp [upd, byteBE]
  · rw [if_neg h]
    unfold upd
    rw [if_neg (by omega), if_neg (by omega), if_neg (by omega), if_neg (by omega), if_neg (by omega), if_neg (by omega), if_neg (by omega), if_neg (by omega)]

set_option maxHeartbeats 1000000 in
theorem put19 (w : World) (b T off : Nat) (f : Nat → Value) (x : BitVec 64) (hl : off + 8 ≤ 32) (hr : Row w b T 32 f) :
    Calls Sadg.prog 19 #[.slice (some ⟨b, 0, none⟩) 32 32, .int .i64 off, .int .u64 (U x)] w fun e w' => e = .returned (.bool true) ∧
      Row w' b T 32 (fun j => if off ≤ j ∧ j < off + 8 then .int .u8 (B8 (byteBE x (j - off))) else f j) ∧ Only [b] w w' := by
  have e1 : (0 : Int) ≤ (off : Int) := by omega
  have e2 : (off : Int) + 8 ≤ 32 := by omega
  have hat : ∀ (w : World) (a : Option Addr) (c : Nat), (Instr.arrayAt 65 (.slice a 8 c)).run Sadg.prog w = .ok (.pointer a) w := fun w a c => run_arrayAt w 65 5 8 a 8 c Sadg.underlying65 (by decide)
  have h0 := hr.cell (i := off) (by omega)
  have h1 := hr.cell (i := off + 1) (by omega)
  have h2 := hr.cell (i := off + 2) (by omega)
  have h3 := hr.cell (i := off + 3) (by omega)
  have h4 := hr.cell (i := off + 4) (by omega)
  have h5 := hr.cell (i := off + 5) (by omega)
  have h6 := hr.cell (i := off + 6) (by omega)
  have h7 := hr.cell (i := off + 7) (by omega)
  have g : ∀ i, w.frozen? ⟨b, i, none⟩ = false := fun i => hr.frozen i
  go_enter Sadg.func19, Sadg.ntmps19
  go_wp2_with (go_at_call 28; refine (inside28 32 _ (by omega) (by unfold maxLen; omega) _).mono ?_; rintro e w' ⟨rfl, rfl⟩)
  go_ret
  refine ⟨rfl, ?_, ?_⟩
  · refine Row.congr ((((((((hr.set _ _).set _ _).set _ _).set _ _).set _ _).set _ _).set _ _).set _ _) ?_
    intro i _
    simp only [U_shr56, U_shr48, U_shr40, U_shr32, U_shr24, U_shr16, U_shr8, U_mod]
    exact put_fn off f x i
  · exact (((((((((Only.refl _ _).setCell (.inl (by simp)) _).setCell (.inl (by simp)) _).setCell (.inl (by simp)) _).setCell (.inl (by simp)) _).setCell (.inl (by simp)) _).setCell (.inl (by simp)) _).setCell (.inl (by simp)) _).setCell (.inl (by simp)) _)
end Go.Proofs.Ygcsad
