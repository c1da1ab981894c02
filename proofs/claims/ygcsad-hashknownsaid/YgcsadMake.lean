/-
  'make' in the words 'Row' and 'Only'.
-/
import Derived.Test.YgcsadLaws
namespace Go.Proofs.Ygcsad
open Go.RowKit
variable {P : Program} {ops : Array Oper} {rest : List Oper} {o : Oper} {a : Act} {w : World} {Q : Exit → Act → World → Prop}

theorem madeCells_row (z : Value) (n : Nat) : madeCells #[z] n = rowC n (fun _ => z) := by
  apply Array.ext_getElem?
  intro i
  rw [rowC_get]
  unfold madeCells
  by_cases h : i < n
  · simp [h, Nat.mod_one]
  · simp [h]

/-- make([]T, l, c), T of one cell. -/
theorem wpl_make (hgd : o.guard = none) (t : TypeId) (l c : Operand) (ho : o.op = .makeSlice t l c) (e : TypeId) (z : Value) (hu : P.underlying t = some (.slice e))
    (bytes : Nat) (hi : (P.info? e).map (fun i => (i.zero, i.size, i.bytes)) = some (some z, 1, bytes)) (hz : z.cells = #[z])
    (ln n : Nat) (L C : Int) (hl : a.eval l = .int .i64 L) (hc : a.eval c = .int .i64 C) (hL : L = ln) (hC : C = n) (hle : ln ≤ n) (hb : bytes * n ≤ 281474976710656) (hm : n ≤ maxLen)
    (h : ∀ w' b, w.heap.size ≤ b → b < w'.heap.size → Row w' b e n (fun _ => z) → Only [] w w' → wpList P ops Q rest (a.put o.dst (.slice (some ⟨b, 0, none⟩) ln n)) w') : wpList P ops Q (o :: rest) a w := by
  subst hL
  subst hC
  refine wpList_plain hgd fun K hK => ?_
  cases hq : P.info? e with
  | none => simp [hq] at hi
  | some i =>
    simp [hq] at hi
    obtain ⟨h1, h2, h3⟩ := hi
    unfold maxLen at hm
    have hb' : (i.bytes : Int) * (n : Int) ≤ 281474976710656 := by rw [h3, ← Int.natCast_mul]; omega
    have hrun := run_make (P := P) w t e i z hu hq h1 .i64 .i64 (ln : Int) (n : Int) (by omega) (by omega) hb' (by omega)
    rw [hz, h2, Nat.mul_one, Int.toNat_natCast, Int.toNat_natCast, madeCells_row] at hrun
    unfold Oper.wp
    simp [execOp, ho, hl, hc, hrun, Result.andThen]
    exact hK _ _ (h _ w.heap.size (Nat.le_refl _) (by simp) (Row.new w e _ rfl) ((Only.refl _ _).alloc _))
end Go.Proofs.Ygcsad
