/-
  The walk of keccak.Sum.
-/
import Derived.Test.YgcsadAbsorb
import Derived.Test.YgcsadLaws
namespace Go.Proofs.Ygcsad
open Go.RowKit

theorem zero24 : (Sadg.prog.info? 24).map (·.zero) = some (some (.agg (rowC 25 fun _ => .int .u64 0))) := by kernel_rfl
theorem zero32 : (Sadg.prog.info? 32).map (·.zero) = some (some (.agg (rowC 32 fun _ => .int .u8 0))) := by kernel_rfl
theorem zero43 : (Sadg.prog.info? 43).map (·.zero) = some (some (.agg (rowC 136 fun _ => .int .u8 0))) := by kernel_rfl
theorem size24 : (Sadg.prog.info? 24).map (·.size) = some 25 := by kernel_rfl
theorem size32 : (Sadg.prog.info? 32).map (·.size) = some 32 := by kernel_rfl
theorem size5 : (Sadg.prog.info? 5).map (·.size) = some 1 := by kernel_rfl

/-- The bytes of a slice that came in. -/
def Data (w : World) (a0 : Option Addr) (len cap : Nat) (d : Nat → BitVec 8) : Prop :=
  len ≤ cap ∧ cap ≤ maxLen ∧ (0 < len → ∃ b o, a0 = some ⟨b, o, none⟩ ∧ Bytes w b o len d)

/-- The lanes behind k whole blocks. -/
def spL (d : Nat → BitVec 8) : Nat → Nat → BitVec 64
  | 0 => fun _ => 0#64
  | k + 1 => fL (absL (spL d k) (fun j => d (136 * k + j)) 17) 24

/-- The last block ahead of its last one. -/
def cB (d : Nat → BitVec 8) (k m : Nat) : Nat → BitVec 8 := fun j => if j = m then 1#8 else if j < m then d (136 * k + j) else 0#8

/-- The last block: what is left, a one, and a one that ends it. -/
def lastB (d : Nat → BitVec 8) (len : Nat) : Nat → BitVec 8 := fun j => if j = 135 then cB d (len / 136) (len % 136) 135 ||| 128#8 else cB d (len / 136) (len % 136) j

/-- The lanes behind the whole sponge. -/
def spongeL (d : Nat → BitVec 8) (len : Nat) : Nat → BitVec 64 := fL (absL (spL d (len / 136)) (lastB d len) 17) 24
/-- The bytes of the hash. -/
def outB (l : Nat → BitVec 64) (i : Nat) : BitVec 8 := byteBE (turnedB (l (i / 8))) (i % 8)

/-- The length of a slice value: a loop's measure. -/
def lenOf : Value → Nat | .slice _ n _ => n | _ => 0

theorem slice_next {A B : Option Addr} {n m n' m' : Nat} (h : A = B) (hn : n = n') (hm : m = m') : Value.slice A n m = Value.slice B n' m' := by rw [h, hn, hm]
theorem hide {p : Prop} (h : p) : Hid p := h

theorem row_c1 {w : World} {b T k m : Nat} {d : Nat → BitVec 8} (h : Row w b T 136 (upd (lay (fun _ => .int .u8 0) (fun j => .int .u8 (B8 (d (136 * k + j)))) 0 m) m (.int .u8 1))) :
    Row w b T 136 (fun j => .int .u8 (B8 (cB d k m j))) := by
  refine h.congr ?_
  intro i _
  unfold upd lay cB
  by_cases h1 : i = m
  · rw [if_pos h1, if_pos h1]; rfl
  · rw [if_neg h1, if_neg h1]
    by_cases h2 : i < m
    · rw [if_pos (by omega), if_pos h2, Nat.sub_zero]
    · rw [if_neg (by omega), if_neg h2]; rfl
theorem B8_or128 (x : BitVec 8) : bits .or .u8 (B8 x) 128 = B8 (x ||| 128#8) := B8_or x 128#8
attribute [local go_sem] B8_or128

/-- The first j words of the hash, as cells. -/
def outV (l : Nat → BitVec 64) (j i : Nat) : Value := if i < 8 * j then .int .u8 (B8 (outB l i)) else .int .u8 0

theorem outV_one (l : Nat → BitVec 64) (j i : Nat) : (outV l j i).oneCell' = true := by unfold outV; split <;> rfl
theorem out_next {w : World} {b T j : Nat} {l : Nat → BitVec 64} (h : Row w b T 32 (fun i => if 8 * j ≤ i ∧ i < 8 * j + 8 then .int .u8 (B8 (byteBE (turnedB (l j)) (i - 8 * j))) else outV l j i)) : Row w b T 32 (outV l (j + 1)) := by
  refine h.congr ?_
  intro i _
  unfold outV outB
  by_cases h1 : 8 * j ≤ i ∧ i < 8 * j + 8
  · rw [if_pos h1, if_pos (by omega), show i / 8 = j from by omega, show i % 8 = i - 8 * j from by omega]
  · rw [if_neg h1]
    by_cases h2 : i < 8 * j
    · rw [if_pos h2, if_pos (by omega)]
    · rw [if_neg h2, if_neg (by omega)]

theorem put19' (w : World) (b T k : Nat) (f : Nat → Value) (x : BitVec 64) (hk : k < 4) (hr : Row w b T 32 f) :
    Calls Sadg.prog 19 #[.slice (some ⟨b, 0, none⟩) 32 32, .int .i64 (8 * (k : Int)), .int .u64 (U x)] w fun e w' => e = .returned (.bool true) ∧
      Row w' b T 32 (fun j => if 8 * k ≤ j ∧ j < 8 * k + 8 then .int .u8 (B8 (byteBE x (j - 8 * k))) else f j) ∧ Only [b] w w' := by
  rw [show (8 * (k : Int)) = ((8 * k : Nat) : Int) from by omega]
  exact put19 w b T (8 * k) f x (by omega) hr

set_option maxRecDepth 20000 in
set_option maxHeartbeats 1000000 in
theorem sum11 (w : World) (a0 : Option Addr) (len cap : Nat) (d : Nat → BitVec 8) (hd : Data w a0 len cap d) :
    Calls Sadg.prog 11 #[.slice a0 len cap] w fun e w' => e = .returned (.agg (rowC 32 fun i => .int .u8 (B8 (outB (spongeL d len) i)))) ∧ Only [] w w' := by
  obtain ⟨hl, hm, hb⟩ := hd
  unfold maxLen at hm
  have hat : ∀ (w : World) (a : Option Addr) (c : Nat), (Instr.arrayAt 43 (.slice a 136 c)).run Sadg.prog w = .ok (.pointer a) w := fun w a c => run_arrayAt w 43 5 136 a 136 c Sadg.underlying43 (by decide)
  go_enter Sadg.func11, Sadg.ntmps11
  go_wp2_with (first
    | (refine wpl_alloc rfl 32 rfl 32 _ zero32 ?_; intro w1 rb hr1 hr2 hrow1 honly1)
    | (refine wpl_alloc rfl 24 rfl 25 _ zero24 ?_; intro w2 ab hr3 hr4 hrow2 honly2))
  go_simp
  have hab : w.heap.size ≤ ab := by have := honly1.size; omega
  have hne : rb ≠ ab := by have := honly1.size; omega
  have hrow1' := honly2.row hrow1 (by simp)
  have honly := honly1.trans honly2
  clear honly1 honly2 hrow1
  go_loopw [0] (fun v wr => ∃ (k : Nat) (A : Option Addr), 136 * k ≤ len ∧ v = .slice A (len - 136 * k) (cap - 136 * k) ∧ (0 < len - 136 * k → ∃ b o, A = some ⟨b, o + 136 * k, none⟩ ∧ Bytes w b o len d) ∧
      Row wr ab 24 25 (laneV (spL d k)) ∧ Row wr rb 32 32 (fun _ => .int .u8 0) ∧ Only [] w wr) (fun v _ => lenOf v)
  case atStart => exact ⟨0, a0, by omega, rfl, by simpa using hb, hrow2, hrow1', honly⟩
  case round =>
    obtain ⟨k, A, hk, rfl, hA, hrow, hrowr, honlyr⟩ := hrel
    by_cases hlt : 136 ≤ len - 136 * k
    · obtain ⟨b, off, rfl, hby⟩ := hA (by omega)
      have hbb : b < w.heap.size := World.block_lt_of_cell? w _ (hby 0 (by omega))
      have e1 : (136 : Int) ≤ ((len - 136 * k : Nat) : Int) := by omega
      have e2 : (136 : Int) ≤ ((cap - 136 * k : Nat) : Int) := by omega
      go_wp2_with fail
      refine (absorb18 _ ab 24 b (off + 136 * k) _ (fun j => d (136 * k + j)) hrow ?_ (by omega)).mono ?_
      · intro j hj
        have := (hby.only honlyr (by simp)) (136 * k + j) (by omega)
        rw [← Nat.add_assoc] at this
        exact this
      rintro e w3 ⟨rfl, hrow3, honly3⟩
      have hrowr3 := honly3.row hrowr (by simpa using hne)
      go_wp2
      go_roundw
      case rel =>
        refine ⟨k + 1, _, by omega, slice_next rfl (by omega) (by omega), fun h => ⟨b, off, ?_, hby⟩, hrow3, hrowr3, honlyr.step honly3 (by simpa using hab)⟩
        rw [if_neg (by omega), Nat.mul_add, ← Nat.add_assoc]
      case measure => simp [lenOf]; omega
    · have hlen : len - 136 * k = len % 136 := by omega
      have hkk : k = len / 136 := by omega
      have e1 : ¬ (136 : Int) ≤ ((len - 136 * k : Nat) : Int) := by omega
      have e2 : ((len - 136 * k : Nat) : Int) < 136 := by omega
      have HL := hide hlen
      have HK := hide hkk
      clear hlen hkk
      go_wp2_with (first
        | (refine wpl_alloc rfl 43 rfl 136 _ zero43 ?_; intro w4 lb hr5 hr6 hrow4 honly4; go_simp)
        | (refine wpl_copy rfl (.tmp 16) (.tmp 17) 30 30 rfl 5 Sadg.underlying30 size5 lb 43 136 0 136 136 _ A (len - 136 * k) (cap - 136 * k) (len - 136 * k) rfl rfl ?hn _ (fun j => .int .u8 (B8 (d (136 * k + j)))) hrow4 ?hfit (fun _ => rfl) ?hpos ?_))
      case hn => exact (Nat.min_eq_left (by omega)).symm
      case hfit => omega
      case hpos =>
        intro h0
        obtain ⟨b, off, rfl, hby⟩ := hA h0
        refine ⟨b, off + 136 * k, rfl, fun j hj => ?_⟩
        have := ((hby.only honlyr (by simp)).only honly4 (by simp)) (136 * k + j) (by omega)
        rw [← Nat.add_assoc] at this
        exact this
      intro w5 hrow5 honly5
      go_simp
      have hrowa := honly5.row (honly4.row hrow (by simp)) (by have := hrow.lt; simp; omega)
      have hrowb := honly5.row (honly4.row hrowr (by simp)) (by have := hrowr.lt; simp; omega)
      have hla : lb ≠ ab := by have := hrow.lt; omega
      have hlb : lb ≠ rb := by have := hrowr.lt; omega
      have hlw : w.heap.size ≤ lb := by have := honlyr.size; omega
      have hon := (honlyr.trans honly4).step honly5 (by simpa using hlw)
      go_wp2_with (first
        | (refine wpl_store1 rfl 5 _ _ rfl lb (len - 136 * k) (.int .u8 1) rfl rfl rfl rfl size5 43 136 _ hrow5 (by omega) ?_; intro w6 hrow6' honly6; have hrow6 := row_c1 hrow6'; clear hrow6'; have hc6 := hrow6.cell (i := 135) (by omega); have hz6 := hrow6.frozen 135; go_simp)
        | (refine wpl_store1 rfl 5 _ _ rfl lb 135 (.int .u8 (B8 (cB d k (len - 136 * k) 135 ||| 128#8))) rfl rfl rfl rfl size5 43 136 _ hrow6 (by omega) ?_; intro w7 hrow7 honly7; clear hc6 hz6; go_simp))
      have hrowa7 := honly7.row (honly6.row hrowa (by simpa using hla.symm)) (by simpa using hla.symm)
      have hrowb7 := honly7.row (honly6.row hrowb (by simpa using hlb.symm)) (by simpa using hlb.symm)
      have hon7 := (hon.step honly6 (by simpa using hlw)).step honly7 (by simpa using hlw)
      refine (absorb18 _ ab 24 lb 0 _ (lastB d len) hrowa7 ?_ hla).mono ?_
      · intro j hj
        have := hrow7.cell hj
        rw [Nat.zero_add, this, HL.out]
        unfold upd lastB
        rw [HK.out]
        split <;> rfl
      rintro e w8 ⟨rfl, hrow8, honly8⟩
      have hrowb8 := honly8.row hrowb7 (by simpa using hne)
      have hon8 := hon7.step honly8 (by simpa using hab)
      have hL : spongeL d len = fL (absL (spL d k) (lastB d len) 17) 24 := by unfold spongeL; rw [HK.out]
      rw [← hL] at hrow8
      have hlt8 := hrow8.lt
      have hlt8b := hrowb8.lt
      have hs8 := hon8.size
      clear hL HL HK hrowb7 hrowa7 hrow7 hrow6 honly6 honly7 honly8 hon7 hon hrowa hrowb hrow5 honly5 honly4 hrow4 hrowr hrow honlyr hA hrow2 hrow1' honly
      go_wp2_with (refine wpl_alloc rfl 32 rfl 32 _ zero32 ?_; intro w9 ob hr9 hr10 hrow9 honly9; go_simp)
      have hoa : ob ≠ ab := by omega
      have hob : ob ≠ rb := by omega
      have how : w.heap.size ≤ ob := by omega
      have hrow8' := honly9.row hrow8 (by simp)
      have hrowb8' := honly9.row hrowb8 (by simp)
      have hon9 := hon8.trans honly9
      clear hrow8 hrowb8 hon8 honly9
      go_loopw [6] (fun i wr => ∃ j : Nat, j ≤ 4 ∧ i = .int .i64 j ∧ Row wr ob 32 32 (outV (spongeL d len) j) ∧ Row wr ab 24 25 (laneV (spongeL d len)) ∧ Row wr rb 32 32 (fun _ => .int .u8 0) ∧ Only [] w wr) (fun i _ => 4 - (intOf i).toNat)
      case atStart => exact ⟨0, by omega, rfl, hrow9.congr (fun i _ => by simp [outV]), hrow8', hrowb8', hon9⟩
      case round =>
        obtain ⟨j, hj, rfl, hrowo, hrowa, hrowb, hon⟩ := hrel
        by_cases hlt4 : j < 4
        · have hc := hrowa.cell (i := j) (by omega)
          have h0 : (0 : Int) ≤ (j : Int) := by omega
          have h25 : (j : Int) < 25 := by omega
          unfold laneV at hc
          have hw8 : IntKind.i64.wrap (8 * (j : Int)) = 8 * (j : Int) := by rw [IntKind.wrap_i64]; omega
          go_wp2_with fail
          go_region_with (first
            | (go_at_call 20; refine (turned20 _ _).mono ?_; rintro e w' ⟨rfl, rfl⟩)
            | (go_at_call 19; refine (put19' _ ob 32 j _ _ hlt4 hrowo.drew).mono ?_; rintro e w' ⟨rfl, hrow', honly'⟩))
          go_wp2
          go_roundw
          case rel =>
            refine ⟨j + 1, by omega, by go_num, out_next hrow', honly'.row hrowa.drew (by simpa using hoa.symm), honly'.row hrowb.drew (by simpa using hob.symm), hon.drew.step honly' (by simpa using how)⟩
          case measure => simp [intOf]; omega
        · obtain rfl : j = 4 := by omega
          go_wp2_with (first
            | (refine wpl_load rfl 32 (.tmp 5) rfl ob 32 32 (outV (spongeL d len) 4) rfl hrowo _ Sadg.underlying32 rfl size32 ?_; go_simp)
            | (refine wpl_store rfl 32 (.tmp 2) (.tmp 39) rfl rb 32 32 _ (outV (spongeL d len) 4) rfl rfl hrowb size32 (outV_one _ _) ?_; intro w10 hrow10 honly10; go_simp))
          refine bodyPost_ret (results_row rfl _ _ rb 32 32 _ _ rfl hrow10 Sadg.underlying32 rfl size32) rfl ⟨?_, hon.step honly10 (by simpa using hr1)⟩
          rw [rowC_congr (g := fun i => .int .u8 (B8 (outB (spongeL d len) i))) (fun i hi => by unfold outV; rw [if_pos (by omega)])]
end Go.Proofs.Ygcsad
