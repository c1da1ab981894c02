/-
  Memory as the walks of this seat speak of it: a whole block whose cells are a function ('Row'), and what a call leaves alone ('Only').
-/
import Derived.WalkKit
import Derived.WalkSpells
import Derived.WalkLawsBesides
import Derived.Deep.Draws
namespace Go.Proofs.Ygcsad
open Go.RowKit

/-- n cells, the i-th is f i. -/
def rowC (n : Nat) (f : Nat → Value) : Array Value := ((List.range n).map f).toArray
/-- f, but v at i. -/
def upd {α : Type} (f : Nat → α) (i : Nat) (v : α) : Nat → α := fun j => if j = i then v else f j

theorem rowC_size (n : Nat) (f : Nat → Value) : (rowC n f).size = n := by simp [rowC]
theorem rowC_get (n : Nat) (f : Nat → Value) (i : Nat) : (rowC n f)[i]? = if i < n then some (f i) else none := by
  unfold rowC
  simp only [List.getElem?_toArray, List.getElem?_map]
  by_cases h : i < n
  · rw [List.getElem?_range h]; simp [h]
  · rw [List.getElem?_eq_none (by simp; omega)]; simp [h]
theorem rowC_set (n : Nat) (f : Nat → Value) (i : Nat) (v : Value) : (rowC n f).setIfInBounds i v = rowC n (upd f i v) := by
  apply Array.ext_getElem?
  intro j
  rw [Array.getElem?_setIfInBounds, rowC_get, rowC_get, rowC_size]
  unfold upd
  by_cases h1 : i = j
  · subst h1; by_cases h2 : i < n <;> simp [h2]
  · rw [if_neg h1]
    by_cases h2 : j < n
    · rw [if_pos h2, if_pos h2, if_neg (fun e => h1 e.symm)]
    · rw [if_neg h2, if_neg h2]
theorem rowC_congr {n : Nat} {f g : Nat → Value} (h : ∀ i, i < n → f i = g i) : rowC n f = rowC n g := by
  unfold rowC
  rw [List.map_congr_left (fun i hi => h i (List.mem_range.1 hi))]
theorem rowC_all (n : Nat) (f : Nat → Value) (h : ∀ i, (f i).oneCell' = true) : (rowC n f).all (·.oneCell') = true := by
  rw [Array.all_eq_true_iff_forall_mem]
  intro v hv
  simp [rowC] at hv
  obtain ⟨a, _, rfl⟩ := hv
  exact h a

/-- Block b of w is a row of n cells, not frozen. -/
def Row (w : World) (b : Nat) (T : TypeId) (n : Nat) (f : Nat → Value) : Prop := w.heap[b]? = some (.cells (rowC n f) T (0, 0))

section
variable {w : World} {b : Nat} {T : TypeId} {n : Nat} {f g : Nat → Value}
theorem Row.lt (h : Row w b T n f) : b < w.heap.size := (Array.getElem?_eq_some_iff.1 h).1
theorem Row.cell (h : Row w b T n f) {i : Nat} (hi : i < n) : w.cell? ⟨b, i, none⟩ = some (f i) := by
  unfold World.cell?
  simp only
  rw [h]
  simp [rowC_get, hi]
theorem Row.frozen (h : Row w b T n f) (i : Nat) : w.frozen? ⟨b, i, none⟩ = false := by
  unfold World.frozen?
  simp only
  rw [h]
  simp
theorem Row.set (h : Row w b T n f) (i : Nat) (v : Value) : Row (w.setCell ⟨b, i, none⟩ v) b T n (upd f i v) := by
  unfold Row World.setCell
  simp only [Array.getElem?_modify]
  rw [if_pos trivial, h]
  simp [rowC_set]
theorem Row.other (h : Row w b T n f) {a : Addr} (ha : b ≠ a.block) (v : Value) : Row (w.setCell a v) b T n f := by
  unfold Row
  rw [Below.heap_setCell _ _ _ _ ha]
  exact h
theorem Row.drew (h : Row w b T n f) : Row w.drew b T n f := h
theorem Row.drewN (h : Row w b T n f) (k : Nat) : Row (w.drewN k) b T n f := h
theorem Row.alloc (h : Row w b T n f) (o : Obj) : Row (w.alloc o) b T n f := by
  unfold Row
  rw [Below.heap_alloc _ _ _ h.lt]
  exact h
theorem Row.new (w : World) (T : TypeId) (c : Array Value) (h : c = rowC n f) : Row (w.alloc (.cells c T)) w.heap.size T n f := by
  subst h
  exact heap_alloc_new w _
theorem Row.congr (h : Row w b T n f) (e : ∀ i, i < n → f i = g i) : Row w b T n g := by
  unfold Row
  rw [← rowC_congr e]
  exact h
end

/-- w' is w with new blocks, and with writes to blocks of the list alone. -/
structure Only (bs : List Nat) (w w' : World) : Prop where
  os : w'.os = w.os
  tape : w'.tape = w.tape
  output : w'.output = w.output
  size : w.heap.size ≤ w'.heap.size
  block : ∀ k, k < w.heap.size → k ∉ bs → w'.heap[k]? = w.heap[k]?

section
variable {bs : List Nat} {a w w' : World}
theorem Only.refl (bs : List Nat) (w : World) : Only bs w w := ⟨rfl, rfl, rfl, Nat.le_refl _, fun _ _ _ => rfl⟩
theorem Only.trans (h : Only bs a w) (k : Only bs w w') : Only bs a w' :=
  ⟨k.os.trans h.os, k.tape.trans h.tape, k.output.trans h.output, Nat.le_trans h.size k.size,
    fun i hi hn => (k.block i (Nat.lt_of_lt_of_le hi h.size) hn).trans (h.block i hi hn)⟩
theorem Only.drew (h : Only bs a w) : Only bs a w.drew := ⟨h.os, h.tape, h.output, h.size, h.block⟩
theorem Only.drewN (h : Only bs a w) (n : Nat) : Only bs a (w.drewN n) := ⟨h.os, h.tape, h.output, h.size, h.block⟩
theorem Only.alloc (h : Only bs a w) (o : Obj) : Only bs a (w.alloc o) :=
  h.trans ⟨rfl, rfl, rfl, by simp, fun k hk _ => Below.heap_alloc _ _ _ hk⟩
/-- A store into a block of the list, or into one that is new. -/
theorem Only.setCell (h : Only bs a w) {p : Addr} (hp : p.block ∈ bs ∨ a.heap.size ≤ p.block) (u : Value) : Only bs a (w.setCell p u) := by
  refine ⟨h.os, h.tape, h.output, by simpa [World.setCell] using h.size, fun k hk hn => ?_⟩
  rw [Below.heap_setCell _ _ _ _ (by rintro rfl; rcases hp with hp | hp; exact hn hp; omega)]
  exact h.block k hk hn
/-- A callee's frame, whose blocks are ours or new. -/
theorem Only.step {cs : List Nat} (h : Only bs a w) (k : Only cs w w') (hc : ∀ b, b ∈ cs → b ∈ bs ∨ a.heap.size ≤ b) : Only bs a w' :=
  ⟨k.os.trans h.os, k.tape.trans h.tape, k.output.trans h.output, Nat.le_trans h.size k.size,
    fun i hi hn => (k.block i (Nat.lt_of_lt_of_le hi h.size) (fun e => by rcases hc i e with h1 | h1; exact hn h1; omega)).trans (h.block i hi hn)⟩
theorem Only.row {b : Nat} {T : TypeId} {n : Nat} {f : Nat → Value} (h : Only bs w w') (hr : Row w b T n f) (hb : b ∉ bs) : Row w' b T n f := by
  unfold Row
  rw [h.block b hr.lt hb]
  exact hr
theorem Only.cell (h : Only bs w w') {p : Addr} (hp : p.block < w.heap.size) (hb : p.block ∉ bs) : w'.cell? p = w.cell? p := World.cell?_of_block (w := w) (h.block p.block hp hb)
theorem Only.frozen (h : Only bs w w') {p : Addr} (hp : p.block < w.heap.size) (hb : p.block ∉ bs) : w'.frozen? p = w.frozen? p := World.frozen?_of_block (w := w) (h.block p.block hp hb)
theorem Only.below (h : Only bs w w') (hb : ∀ b, b ∈ bs → w.heap.size ≤ b) : Below w.heap.size w w' :=
  ⟨h.os, h.tape, h.output, h.size, fun k hk => h.block k hk (fun e => by have := hb k e; omega)⟩
end
end Go.Proofs.Ygcsad
