/-
  The walks of the small functions: RotateLeft64, turned, RC, inside.
-/
import Derived.Test.YgcsadRows
import Derived.Test.YgcsadWords
import Derived.Test.YgcsadMem
import Derived.Deep.QuietTactic
import Derived.Deep.MidRow
import Derived.BigQuiet
namespace Go.Proofs.Ygcsad
open Go.RowKit

theorem ret_int {k : IntKind} {a b : Int} (h : a = b) : Ending.returned (.int k a) = .returned (.int k b) := by rw [h]
theorem and63 (k : Nat) (h : k < 64) : bits .and .u64 (k : Int) 63 = k := by
  rw [show (63 : Int) = ((63 : Nat) : Int) from rfl, u64_and_nat _ _ (by omega) (by omega)]
  rw [show (63 : Nat) = 2 ^ 6 - 1 from rfl, Nat.and_two_pow_sub_one_eq_mod, Nat.mod_eq_of_lt h]

theorem rot29 (x : BitVec 64) (k : Nat) (h1 : k < 64) (w : World) :
    Calls Sadg.prog 29 #[.int .u64 (U x), .int .i64 k] w fun e w' => e = .returned (.int .u64 (U (x.rotateLeft k))) ∧ w' = w := by
  have hk := and63 k h1
  go_enter Sadg.func29, Sadg.ntmps29
  go_wp2
  go_ret
  exact ⟨ret_int (U_rot x k h1), rfl⟩

theorem rot21 (x : BitVec 64) (k : Int) (h0 : 0 ≤ k) (h1 : k < 64) (w : World) :
    Calls Sadg.prog 21 #[.int .u64 (U x), .int .i64 k] w fun e w' => e = .returned (.int .u64 (U (x.rotateLeft k.toNat))) ∧ w' = w := by
  obtain ⟨n, rfl⟩ := Int.eq_ofNat_of_zero_le h0
  rw [Int.toNat_natCast]
  go_enter Sadg.func21, Sadg.ntmps21
  go_wp2_with (go_at_call 29; refine (rot29 _ _ (by omega) _).mono ?_; rintro e w' ⟨rfl, rfl⟩)
  go_ret
  exact ⟨rfl, rfl⟩

/-- 'turned': the bytes of a word in the other order. -/
def turnedB (x : BitVec 64) : BitVec 64 :=
  let y := (x >>> 8 &&& 71777214294589695#64) ||| (x &&& 71777214294589695#64) <<< 8
  let z := (y >>> 16 &&& 281470681808895#64) ||| (y &&& 281470681808895#64) <<< 16
  (z >>> 32) ||| (z <<< 32)

theorem turned20 (x : BitVec 64) (w : World) :
    Calls Sadg.prog 20 #[.int .u64 (U x)] w fun e w' => e = .returned (.int .u64 (U (turnedB x))) ∧ w' = w := by
  have h1 : ∀ y : BitVec 64, bits .and .u64 (U y) 71777214294589695 = U (y &&& 71777214294589695#64) := fun y => U_andc y 71777214294589695 (by decide)
  have h2 : ∀ y : BitVec 64, bits .and .u64 (U y) 281470681808895 = U (y &&& 281470681808895#64) := fun y => U_andc y 281470681808895 (by decide)
  go_enter Sadg.func20, Sadg.ntmps20
  go_wp2
  go_ret
  refine ⟨ret_int ?_, rfl⟩
  simp only [U_shr8, U_shl8, U_shr16, U_shl16, U_shr32, U_shl32, U_or, h1, h2]
  rfl

/-- The round constants. -/
def rcL : List (BitVec 64) := [1#64, 32898#64, 9223372036854808714#64, 9223372039002292224#64, 32907#64, 2147483649#64, 9223372039002292353#64, 9223372036854808585#64, 138#64, 136#64, 2147516425#64, 2147483658#64, 2147516555#64, 9223372036854775947#64, 9223372036854808713#64, 9223372036854808579#64, 9223372036854808578#64, 9223372036854775936#64, 32778#64, 9223372039002259466#64, 9223372039002292353#64, 9223372036854808704#64, 2147483649#64, 9223372039002292232#64]
def rcB (n : Nat) : BitVec 64 := rcL.getD n 0#64

theorem run_index_arr {P : Program} (T e len : Nat) (cs : Array Value) (k : IntKind) (i : Int) (v : Value) (w : World) (d : TypeDesc) (hT : P.underlying T = some (.array len e)) (he : P.underlying e = some d) (hd : d.isRow = false)
    (hs : (P.info? e).map (·.size) = some 1) (h0 : 0 ≤ i) (h1 : i < len) (hv : cs[i.toNat]? = some v) : (Instr.index T (.agg cs) (.int k i)).run P w = .ok v w := by
  have hagg : (isAgg e).run P w = .ok false w := by
    unfold isAgg
    rw [Sem.run_bind, run_underlying he w]
    cases d <;> simp_all
  cases hq : P.info? e with
  | none => simp [hq] at hs
  | some i0 =>
    have hsz : i0.size = 1 := by simpa [hq] using hs
    simp [Instr.index, asIntOf, run_underlying hT, h0, h1, part, hagg, sizeOf, typeInfo, hq, hsz, hv]

theorem rc16 (n : Nat) (h : n < 24) (w : World) :
    Calls Sadg.prog 16 #[.int .u8 n] w fun e w' => e = .returned (.int .u64 (U (rcB n))) ∧ w' = w := by
  have hL : (rcL.map fun x => Value.int .u64 (U x)).toArray[n]? = some (.int .u64 (U (rcB n))) := by
    have hn : n < rcL.length := h
    rw [List.getElem?_toArray, List.getElem?_map, List.getElem?_eq_getElem hn]
    simp only [Option.map_some, rcB]
    rw [List.getD_eq_getElem?_getD, List.getElem?_eq_getElem hn]
    rfl
  have hc : ∀ w : World, (Instr.index 48 (.agg (rcL.map fun x => Value.int .u64 (U x)).toArray) (.int .u8 n)).run Sadg.prog w = .ok (.int .u64 (U (rcB n))) w := fun w =>
    run_index_arr 48 23 24 _ .u8 n _ w _ Sadg.underlying48 Sadg.underlying23 rfl (by kernel_rfl) (by omega) (by omega) (by simpa using hL)
  rw [show (rcL.map fun x => Value.int .u64 (U x)).toArray = #[.int .u64 1, .int .u64 32898, .int .u64 9223372036854808714, .int .u64 9223372039002292224, .int .u64 32907, .int .u64 2147483649, .int .u64 9223372039002292353, .int .u64 9223372036854808585, .int .u64 138, .int .u64 136, .int .u64 2147516425, .int .u64 2147483658, .int .u64 2147516555, .int .u64 9223372036854775947, .int .u64 9223372036854808713, .int .u64 9223372036854808579, .int .u64 9223372036854808578, .int .u64 9223372036854775936, .int .u64 32778, .int .u64 9223372039002259466, .int .u64 9223372039002292353, .int .u64 9223372036854808704, .int .u64 2147483649, .int .u64 9223372039002292232] from by kernel_rfl] at hc
  clear hL
  go_enter Sadg.func16, Sadg.ntmps16
  go_wp2
  go_ret
  exact ⟨rfl, rfl⟩

theorem inside28 (n o : Nat) (h : o + 8 ≤ n) (hn : n ≤ maxLen) (w : World) :
    Calls Sadg.prog 28 #[.int .i64 n, .int .i64 o] w fun e w' => e = .returned (.bool true) ∧ w' = w := by
  unfold maxLen at hn
  have h1 : (0 : Int) ≤ (o : Int) := by omega
  have h2 : (8 : Int) ≤ (n : Int) := by omega
  have h3 : (o : Int) ≤ (n : Int) - 8 := by omega
  go_enter Sadg.func28, Sadg.ntmps28
  go_wp2
  go_ret
  exact ⟨rfl, rfl⟩

end Go.Proofs.Ygcsad
