/-
  The walk of kmodel.pi.
-/
import Derived.Test.YgcsadKchi
import Derived.Deep.RegionHeld3
namespace Go.Proofs.Ygcsad
open Go.RowKit

theorem Row.setCells {b : Nat} {T : TypeId} {n : Nat} : ∀ (cs : List Value) (o : Nat) (w : World) (f : Nat → Value), Row w b T n f →
    Row (w.setCells b o cs) b T n (fun i => if o ≤ i ∧ i < o + cs.length then cs.getD (i - o) undef else f i)
  | [], o, w, f, h => h.congr (fun i _ => by rw [if_neg (by simp)])
  | v :: r, o, w, f, h => by
    rw [World.setCells]
    refine (Row.setCells r (o + 1) _ _ (h.set o v)).congr (fun i _ => ?_)
    rw [upd_ap]
    by_cases h1 : i = o
    · subst h1
      rw [if_neg (by omega), if_pos rfl, if_pos (by simp), Nat.sub_self]
      rfl
    · rw [if_neg h1]
      by_cases h2 : o ≤ i ∧ i < o + (v :: r).length
      · rw [if_pos h2, if_pos (by simp at h2; omega), show i - o = (i - (o + 1)) + 1 from by omega]
        rfl
      · rw [if_neg h2, if_neg (by simp at h2 ⊢; omega)]
theorem Row.setCellsOther {b : Nat} {T : TypeId} {n : Nat} {f : Nat → Value} {b' : Nat} (hb : b ≠ b') : ∀ (cs : List Value) (o : Nat) (w : World), Row w b T n f → Row (w.setCells b' o cs) b T n f
  | [], _, _, h => h
  | v :: r, o, w, h => by rw [World.setCells]; exact Row.setCellsOther hb r (o + 1) _ (h.other (a := ⟨b', o, none⟩) hb v)
theorem Only.setCells {bs : List Nat} {a : World} {b : Nat} (hp : b ∈ bs ∨ a.heap.size ≤ b) : ∀ (cs : List Value) (o : Nat) (w : World), Only bs a w → Only bs a (w.setCells b o cs)
  | [], _, _, h => h
  | v :: r, o, w, h => by rw [World.setCells]; exact Only.setCells hp r (o + 1) _ (h.setCell (p := ⟨b, o, none⟩) hp v)

/-- 64 cells of a row. -/
def lane64 (s : Nat → Bool) (o : Nat) : List Value := (List.range 64).map (fun z => Value.bool (s (o + z)))
theorem lane64_length (s : Nat → Bool) (o : Nat) : (lane64 s o).length = 64 := by simp [lane64]
theorem lane64_one (s : Nat → Bool) (o : Nat) : ∀ v ∈ lane64 s o, v.oneCell' = true := by
  intro v hv; simp [lane64] at hv; obtain ⟨a, _, rfl⟩ := hv; rfl
theorem lane64_get (s : Nat → Bool) (o z : Nat) (hz : z < 64) : (lane64 s o).getD z undef = .bool (s (o + z)) := by
  unfold lane64
  rw [List.getD_eq_getElem?_getD, List.getElem?_map, List.getElem?_range hz]; rfl
theorem lane64_range {w : World} {b T : Nat} {s : Nat → Bool} {o : Nat} (h : Row w b T 1600 (boolV s)) (ho : o + 64 ≤ 1600) : w.rangeAt b o (lane64 s o) := by
  intro j v hv
  have hj : j < 64 := by have := (List.getElem?_eq_some_iff.1 hv).1; rwa [lane64_length] at this
  rw [h.cell (by omega)]
  unfold lane64 at hv
  rw [List.getElem?_map, List.getElem?_range hj] at hv
  exact hv
theorem there64 {w : World} {b T : Nat} {f : Nat → Value} {o : Nat} (h : Row w b T 1600 f) (ho : o + 64 ≤ 1600) : w.there b o 64 := by
  intro j hj
  exact ⟨by rw [h.cell (by omega)]; rfl, h.frozen _⟩

theorem size49 : (Sadg.prog.info? 49).map (·.size) = some 64 := by kernel_rfl

/-- pi. -/
def piB (s : Nat → Bool) : Nat → Bool := fun j => s ((j / 320 + 3 * (j % 320 / 64)) % 5 * 320 + j / 320 * 64 + j % 64)
/-- pi behind x columns and y lanes. -/
def piTo (s : Nat → Bool) (x y : Nat) : Nat → Bool := fun j => if j < x * 320 + y * 64 then piB s j else false
theorem piTo_next {s : Nat → Bool} {x y j : Nat} (hy : y < 5) :
    (if x * 320 + y * 64 ≤ j ∧ j < x * 320 + y * 64 + (lane64 s ((x + 3 * y) % 5 * 320 + x * 64)).length then (lane64 s ((x + 3 * y) % 5 * 320 + x * 64)).getD (j - (x * 320 + y * 64)) undef else boolV (piTo s x y) j) = boolV (piTo s x (y + 1)) j := by
  rw [lane64_length]
  unfold boolV piTo
  by_cases h : x * 320 + y * 64 ≤ j ∧ j < x * 320 + y * 64 + 64
  · rw [if_pos h, lane64_get _ _ _ (by omega), if_pos (by omega)]
    unfold piB
    rw [show j / 320 = x from by omega, show j % 320 / 64 = y from by omega, show j % 64 = j - (x * 320 + y * 64) from by omega]
  · rw [if_neg h]
    by_cases h2 : j < x * 320 + y * 64
    · rw [if_pos h2, if_pos (by omega)]
    · rw [if_neg h2, if_neg (by omega)]
theorem piTo_x (s : Nat → Bool) (x : Nat) : piTo s (x + 1) 0 = piTo s x 5 := by
  funext j; unfold piTo; rw [show (x + 1) * 320 + 0 * 64 = x * 320 + 5 * 64 from by omega]

set_option maxRecDepth 20000 in
set_option maxHeartbeats 2000000 in
theorem pi24 (w : World) (b T : Nat) (s : Nat → Bool) (hr : Row w b T 1600 (boolV s)) :
    Calls Sadg.prog 24 #[.pointer (some ⟨b, 0, none⟩)] w fun e w' => e = .returned (.agg (rowC 1600 (boolV (piB s)))) ∧ Only [] w w' := by
  go_enter Sadg.func24, Sadg.ntmps24
  go_wp2_with (refine wpl_alloc rfl 52 rfl 1600 _ zero52 ?_; intro w1 rb hc1 hc2 hrow1 honly1; go_simp)
  have hbl := hr.lt
  have hcb : rb ≠ b := by omega
  have hbc : b ≠ rb := hcb.symm
  have hr1 := honly1.row hr (by simp)
  go_loopw [5] (fun v wr => ∃ x : Nat, x ≤ 5 ∧ v = .int .i64 x ∧ Row wr rb 52 1600 (boolV (piTo s x 0)) ∧ Row wr b T 1600 (boolV s) ∧ Only [] w wr) (fun v _ => 5 - (intOf v).toNat)
  case atStart => exact ⟨0, by omega, rfl, hrow1.congr (fun j _ => by simp [boolV, piTo]), hr1, honly1⟩
  case round =>
    obtain ⟨x, hx, rfl, hrr, hrb, honly⟩ := hrel
    clear hrow1 honly1 hr1
    by_cases hltx : x < 5
    · have dx : decide ((x : Int) < 5) = true := by simp; omega
      go_wp2
      go_loopw [8] (fun v wr => ∃ y : Nat, y ≤ 5 ∧ v = .int .i64 y ∧ Row wr rb 52 1600 (boolV (piTo s x y)) ∧ Row wr b T 1600 (boolV s) ∧ Only [] w wr) (fun v _ => 5 - (intOf v).toNat)
      case atStart => exact ⟨0, by omega, rfl, hrr, hrb, honly⟩
      case round =>
        clear hrr hrb honly
        obtain ⟨y, hy, rfl, hrr, hrb, honly⟩ := hrel
        by_cases hlty : y < 5
        · have dy : decide ((y : Int) < 5) = true := by simp; omega
          have g0 : (0 : Int) ≤ (x : Int) := by omega
          have g1 : (x : Int) < 5 := by omega
          have g2 : (0 : Int) ≤ (y : Int) := by omega
          have g3 : (y : Int) < 5 := by omega
          have k1 := lane64_range hrb (o := (x + 3 * y) % 5 * 320 + x * 64) (by omega)
          have k2 := there64 hrr (o := x * 320 + y * 64) (by omega)
          have hu := Sadg.underlying49
          have hl := lane64_length s ((x + 3 * y) % 5 * 320 + x * 64)
          have hi : (Sadg.prog.info? 49).map (·.size) = some (lane64 s ((x + 3 * y) % 5 * 320 + x * 64)).length := by rw [hl, size49]
          have h1 := lane64_one s ((x + 3 * y) % 5 * 320 + x * 64)
          have hw1 : IntKind.i64.wrap (3 * (y : Int)) = 3 * (y : Int) := by rw [IntKind.wrap_i64]; omega
          have hw2 : IntKind.i64.wrap ((x : Int) + 3 * (y : Int)) = (x : Int) + 3 * (y : Int) := by rw [IntKind.wrap_i64]; omega
          have hw3 : ((x : Int) + 3 * (y : Int)).tmod 5 = ((x : Int) + 3 * (y : Int)) % 5 := by rw [Int.tmod_eq_emod_of_nonneg (by omega)]
          have hw4 : (((x : Int) + 3 * (y : Int)) % 5).toNat = (x + 3 * y) % 5 := by omega
          have g4 : (0 : Int) ≤ ((x : Int) + 3 * (y : Int)) % 5 := by omega
          have g5 : ((x : Int) + 3 * (y : Int)) % 5 < 5 := by omega
          go_wp2_with fail
          generalize hcs : lane64 s ((x + 3 * y) % 5 * 320 + x * 64) = cs at *
          have HC := hide' hcs
          clear hcs
          go_region_held3 (fun w' => w'.rangeAt b ((x + 3 * y) % 5 * 320 + x * 64) cs ∧ w'.there rb (x * 320 + y * 64) 64) (go_keep_ranges) (fail)
          go_wp2
          go_roundw
          case rel =>
            refine ⟨y + 1, by omega, by go_num, ?_, Row.setCellsOther hbc _ _ _ hrb.drew, Only.setCells (.inr hc1) _ _ _ honly.drew⟩
            refine (Row.setCells cs _ _ _ hrr.drew).congr (fun j _ => ?_)
            rw [← HC.out]
            exact piTo_next hlty
          case measure => simp [intOf]; omega
        · have hrr5 : Row wr rb 52 1600 (boolV (piTo s (x + 1) 0)) := by
            have e : y = 5 := by omega
            rw [piTo_x, ← e]; exact hrr
          go_wp2
          go_roundw
          case rel => exact ⟨x + 1, by omega, by go_num, hrr5, hrb, honly⟩
          case measure => simp [intOf]; omega
    · have dx : decide ((x : Int) < 5) = false := by simp; omega
      have hrr5 : Row wr rb 52 1600 (boolV (piB s)) := hrr.congr (fun j hj => by unfold boolV piTo; rw [if_pos (by omega)])
      clear hrr
      go_wp2_with (first
        | (refine wpl_load rfl 52 (.tmp 2) rfl rb 52 1600 (boolV (piB s)) rfl hrr5 _ Sadg.underlying52 rfl size52 ?_; go_simp)
        | (refine wpl_store rfl 52 (.tmp 2) (.tmp 28) rfl rb 52 1600 _ (boolV (piB s)) rfl rfl hrr5 size52 (fun _ => rfl) ?_; intro w3 hrow3 honly3; go_simp))
      exact bodyPost_ret (results_row rfl _ _ rb 52 1600 _ _ rfl hrow3 Sadg.underlying52 rfl size52) rfl ⟨rfl, honly.step honly3 (by simpa using hc1)⟩
end Go.Proofs.Ygcsad
