/-
  Laws for whole rows, in the words 'Row' and 'Only': a variable made, a whole array read, stored, copied; the world behind each is a letter.
-/
import Derived.Test.YgcsadMem
import Derived.Laws.CopyOwn
import Derived.Deep.WholeRow
import Derived.Deep.MidRow
namespace Go.Proofs.Ygcsad
open Go.RowKit
variable {P : Program} {ops : Array Oper} {rest : List Oper} {o : Oper} {a : Act} {w : World} {Q : Exit → Act → World → Prop}

theorem Only.setRow (bs : List Nat) (w : World) (g : Nat) (cs : Array Value) (hg : g ∈ bs) : Only bs w (w.setRow g cs) :=
  ⟨rfl, rfl, rfl, by simp, fun k _ hn => setRow_other w g k cs (fun e => hn (e ▸ hg))⟩

/-- A variable made: 'var x [n]T'. -/
theorem wpl_alloc (hgd : o.guard = none) (T : TypeId) (ho : o.op = .alloc T) (n : Nat) (f : Nat → Value) (hz : (P.info? T).map (·.zero) = some (some (.agg (rowC n f))))
    (h : ∀ w' b, w.heap.size ≤ b → b < w'.heap.size → Row w' b T n f → Only [] w w' → wpList P ops Q rest (a.put o.dst (.pointer (some ⟨b, 0, none⟩))) w') : wpList P ops Q (o :: rest) a w := by
  refine wpList_plain hgd fun K hK => ?_
  cases hq : P.info? T with
  | none => simp [hq] at hz
  | some i =>
    have hz' : i.zero = some (.agg (rowC n f)) := by simpa [hq] using hz
    unfold Oper.wp
    simp [execOp, ho, Instr.alloc, zeroValue, typeInfo, hq, hz', newVar, newRow, newObj, Sem.run, Result.andThen, Value.cells]
    refine hK _ _ (h _ w.heap.size (Nat.le_refl _) (by simp) (Row.new w T _ rfl) ((Only.refl _ _).alloc _))

/-- An array parameter that is boxed. -/
theorem wpl_box (hgd : o.guard = none) (T : TypeId) (x : Operand) (ho : o.op = .box T x) (n : Nat) (f : Nat → Value) (hx : a.eval x = .agg (rowC n f))
    (h : ∀ w' b, w.heap.size ≤ b → b < w'.heap.size → Row w' b T n f → Only [] w w' → wpList P ops Q rest (a.put o.dst (.pointer (some ⟨b, 0, none⟩))) w') : wpList P ops Q (o :: rest) a w := by
  refine wpList_plain hgd fun K hK => ?_
  unfold Oper.wp
  simp [execOp, ho, hx, Instr.box, newVar, newRow, newObj, Sem.run, Result.andThen, Value.cells]
  refine hK _ _ (h _ w.heap.size (Nat.le_refl _) (by simp) (Row.new w T _ rfl) ((Only.refl _ _).alloc _))

/-- A whole array read. -/
theorem wpl_load (hgd : o.guard = none) (ty : TypeId) (x : Operand) (ho : o.op = .load ty x) (b T n : Nat) (f : Nat → Value) (hx : a.eval x = .pointer (some ⟨b, 0, none⟩)) (hr : Row w b T n f)
    (d : TypeDesc) (hu : P.underlying ty = some d) (hd : (match d with | .struct _ | .array _ _ => true | _ => false) = true) (hi : (P.info? ty).map (·.size) = some n)
    (h : wpList P ops Q rest (a.put o.dst (.agg (rowC n f))) w) : wpList P ops Q (o :: rest) a w :=
  wpList_load_row hgd ty x ho b hx T _ (0, 0) d hr hu hd (by rw [hi, rowC_size]) h

/-- A whole array stored over a whole row. -/
theorem wpl_store (hgd : o.guard = none) (ty : TypeId) (x y : Operand) (ho : o.op = .store ty x y) (b T n : Nat) (f g : Nat → Value) (hx : a.eval x = .pointer (some ⟨b, 0, none⟩)) (hy : a.eval y = .agg (rowC n g))
    (hr : Row w b T n f) (hi : (P.info? ty).map (·.size) = some n) (h1 : ∀ i, (g i).oneCell' = true)
    (h : ∀ w', Row w' b T n g → Only [b] w w' → wpList P ops Q rest (a.put o.dst undef) w') : wpList P ops Q (o :: rest) a w :=
  wpList_store_row hgd ty x y ho b _ hx hy T _ hr (by rw [hi, rowC_size]) (by rw [rowC_size, rowC_size]) (rowC_all n g h1)
    (h _ (setRow_heap w b _ _ T _ hr) (Only.setRow _ _ _ _ (by simp)))

/-- f with the first m values of g laid over it from 'off' on. -/
def lay (f g : Nat → Value) (off m : Nat) : Nat → Value := fun i => if off ≤ i ∧ i < off + m then g (i - off) else f i

theorem rowC_splice (n : Nat) (f g : Nat → Value) (off m : Nat) (h : off + m ≤ n) :
    ((rowC n f).toList.take off ++ ((rowC m g).toList ++ (rowC n f).toList.drop (off + (rowC m g).toList.length))).toArray = rowC n (lay f g off m) := by
  apply Array.ext_getElem?
  intro i
  have hl : (rowC m g).toList.length = m := by simp [rowC]
  have hn : (rowC n f).toList.length = n := by simp [rowC]
  have gf : ∀ j, (rowC n f).toList[j]? = if j < n then some (f j) else none := fun j => by rw [← rowC_get]; simp
  have gg : ∀ j, (rowC m g).toList[j]? = if j < m then some (g j) else none := fun j => by rw [← rowC_get]; simp
  rw [rowC_get, List.getElem?_toArray, List.getElem?_append, List.getElem?_append, List.length_take, hl, hn, Nat.min_eq_left (by omega)]
  unfold lay
  by_cases h1 : i < off
  · rw [if_pos h1, List.getElem?_take, if_pos h1, gf, if_neg (c := off ≤ i ∧ i < off + m) (by omega)]
  · rw [if_neg h1]
    by_cases h2 : i - off < m
    · rw [if_pos h2, gg, if_pos h2, if_pos (c := i < n) (by omega), if_pos (by omega)]
    · rw [if_neg h2, List.getElem?_drop, gf, if_neg (c := off ≤ i ∧ i < off + m) (by omega)]
      rw [show off + m + (i - off - m) = i from by omega]

/-- copy(dst, src): as many cells as the shorter has; the source lies at 'sp' where there is anything to copy. -/
theorem run_copy_rows (dT sT ty elem : TypeId) (hu : P.underlying dT = some (.slice elem)) (hsz : (P.info? elem).map (·.size) = some 1) (g T n off dLen dCap : Nat) (dp sp : Option Addr) (sLen sCap m : Nat) (hn : m = Nat.min sLen dLen)
    (f v : Nat → Value) (hr : Row w g T n f) (hfit : off + m ≤ n) (h1 : ∀ i, (v i).oneCell' = true)
    (hpos : 0 < m → dp = some ⟨g, off, none⟩ ∧ ∃ b2 o2, sp = some ⟨b2, o2, none⟩ ∧ ∀ j, j < m → w.cell? ⟨b2, o2 + j, none⟩ = some (v j)) :
    ∃ w', (Builtin.copy_ #[dT, sT] ty #[.slice dp dLen dCap, .slice sp sLen sCap]).run P w = .ok (goInt m) w' ∧ Row w' g T n (lay f v off m) ∧ Only [g] w w' := by
  by_cases h0 : m = 0
  · subst h0
    refine ⟨w, run_copy_none w dT sT ty elem dp sp dLen dCap sLen sCap hu hsz hn.symm, hr.congr (fun i _ => ?_), Only.refl _ _⟩
    unfold lay; rw [if_neg (by omega)]
  · obtain ⟨rfl, b2, o2, rfl, hc⟩ := hpos (by omega)
    have hl : (rowC m v).toList.length = m := by simp [rowC]
    have := run_copy_row (P := P) w dT sT ty elem g off dLen dCap ⟨b2, o2, none⟩ sLen sCap (rowC n f) T (rowC m v).toList hu hsz hr (by rw [hl]; exact hn) (by
      intro j x hx
      rw [Array.getElem?_toList, rowC_get] at hx
      by_cases hj : j < m
      · rw [if_pos hj] at hx; cases hx; rw [Addr.add_mid]; exact hc j hj
      · rw [if_neg hj] at hx; cases hx) (by rw [hl, rowC_size]; exact hfit) (fun x hx => (Array.all_eq_true_iff_forall_mem.1 (rowC_all m v h1)) x (by simpa using hx))
    rw [List.append_assoc, rowC_splice n f v off m hfit, hl] at this
    exact ⟨_, this, setRow_heap w g _ _ T _ hr, Only.setRow _ _ _ _ (by simp)⟩

theorem wpl_copy (hgd : o.guard = none) (d s : Operand) (dT sT : TypeId)
    (ho : o.op = .call { callee := .builtin .copy, args := #[d, s], argTypes := #[dT, sT] }) (elem : TypeId) (hu : P.underlying dT = some (.slice elem)) (hsz : (P.info? elem).map (·.size) = some 1)
    (g T n off dLen dCap : Nat) (dp sp : Option Addr) (sLen sCap m : Nat) (hd : a.eval d = .slice dp dLen dCap) (hs : a.eval s = .slice sp sLen sCap) (hn : m = Nat.min sLen dLen)
    (f v : Nat → Value) (hr : Row w g T n f) (hfit : off + m ≤ n) (h1 : ∀ i, (v i).oneCell' = true)
    (hpos : 0 < m → dp = some ⟨g, off, none⟩ ∧ ∃ b2 o2, sp = some ⟨b2, o2, none⟩ ∧ ∀ j, j < m → w.cell? ⟨b2, o2 + j, none⟩ = some (v j))
    (h : ∀ w', Row w' g T n (lay f v off m) → Only [g] w w' → wpList P ops Q rest (a.put o.dst (goInt m)) w') : wpList P ops Q (o :: rest) a w := by
  refine wpList_plain hgd fun K hK => ?_
  obtain ⟨w', hrun, hrow, honly⟩ := run_copy_rows (P := P) (w := w) dT sT o.type elem hu hsz g T n off dLen dCap dp sp sLen sCap m hn f v hr hfit h1 hpos
  unfold Oper.wp
  simp [execOp, ho, resolve, invoke, builtin, hd, hs, hrun, Result.andThen]
  exact hK _ _ (h _ hrow honly)

/-- A result that lies in a row of its own. -/
theorem results_row {fn : Func} {p : Tmp} {ty : TypeId} (h : fn.results = #[.cell p ty]) (tmps : Array Value) (w : World) (g T n : Nat) (f : Nat → Value) (d : TypeDesc)
    (hp : tmps.getD p undef = .pointer (some ⟨g, 0, none⟩)) (hr : Row w g T n f) (hu : P.underlying ty = some d) (hd : (match d with | .struct _ | .array _ _ => true | _ => false) = true) (hi : (P.info? ty).map (·.size) = some n) :
    (results fn tmps).run P w = .ok (.agg (rowC n f)) w := results_cell_row h tmps w g T _ (0, 0) d hp hr hu hd (by rw [hi, rowC_size])
/-- One cell of a row stored. -/
theorem wpl_store1 (hgd : o.guard = none) (ty : TypeId) (x y : Operand) (ho : o.op = .store ty x y) (b i : Nat) (v : Value) (hx : a.eval x = .pointer (some ⟨b, i, none⟩)) (hy : a.eval y = v)
    (h1 : v.oneCell' = true) (hc : v.cells = #[v]) (hs : (P.info? ty).map (·.size) = some 1) (T n : Nat) (f : Nat → Value) (hr : Row w b T n f) (hi : i < n)
    (h : ∀ w', Row w' b T n (upd f i v) → Only [b] w w' → wpList P ops Q rest (a.put o.dst undef) w') : wpList P ops Q (o :: rest) a w := by
  refine wpList_plain hgd fun K hK => ?_
  cases hq : P.info? ty with
  | none => simp [hq] at hs
  | some i0 =>
    have hsz : i0.size = 1 := by simpa [hq] using hs
    have hst := run_store P w ⟨b, i, none⟩ v .plain h1
    have hadd : (⟨b, i, none⟩ : Addr).add 0 = ⟨b, i, none⟩ := by simp [Addr.add]
    rw [hr.cell hi] at hst
    simp only [hr.frozen] at hst
    unfold Oper.wp execOp
    simp only [ho, hx, hy, Instr.storeAt, Instr.sureAddr, storeVar, hc, sizeOf, typeInfo]
    simp [storeCells, hadd, Sem.run_bind, hq, hsz, hst]
    exact hK _ _ (h _ (hr.set i v) ((Only.refl _ _).setCell (.inl (by simp)) v))
end Go.Proofs.Ygcsad
