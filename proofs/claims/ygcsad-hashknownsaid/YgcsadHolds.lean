/-
  The walk of law.spongeHolds.
-/
import Derived.Test.YgcsadSum
import Derived.Test.YgcsadMake
namespace Go.Proofs.Ygcsad
open Go.RowKit

/-- Bytes as cells. -/
def byteV (m : Nat → BitVec 8) (i : Nat) : Value := .int .u8 (B8 (m i))
theorem byteV_upd (m : Nat → BitVec 8) (i : Nat) (x : BitVec 8) : upd (byteV m) i (.int .u8 (B8 x)) = byteV (upd m i x) := by
  funext j; by_cases h : j = i <;> simp [upd, byteV, h]
theorem laneV_upd (l : Nat → BitVec 64) (i : Nat) (x : BitVec 64) : upd (laneV l) i (.int .u64 (U x)) = laneV (upd l i x) := by
  funext j; by_cases h : j = i <;> simp [upd, laneV, h]
theorem B8_or1 (x : BitVec 8) : bits .or .u8 (B8 x) 1 = B8 (x ||| 1#8) := B8_or x 1#8

/-- The message, copied. -/
def msg0 (d : Nat → BitVec 8) (len : Nat) : Nat → BitVec 8 := fun j => if j < len then d j else 0#8
/-- .. with the one behind it. -/
def msg1 (d : Nat → BitVec 8) (len : Nat) : Nat → BitVec 8 := upd (msg0 d len) len (msg0 d len len ||| 1#8)
/-- .. and the one that ends it. -/
def msg2 (d : Nat → BitVec 8) (len : Nat) : Nat → BitVec 8 := upd (msg1 d len) (len / 136 * 136 + 135) (msg1 d len (len / 136 * 136 + 135) ||| 128#8)

/-- One byte taken in; F behind the last of a block. -/
def stepL (l : Nat → BitVec 64) (k : Nat) (c : BitVec 8) : Nat → BitVec 64 :=
  let l' := upd l (k % 136 / 8) (l (k % 136 / 8) ^^^ c.setWidth 64 <<< (8 * (k % 136 % 8)))
  if k % 136 = 135 then fL l' 24 else l'
/-- The lanes behind the first k bytes. -/
def takeL (m : Nat → BitVec 8) : Nat → Nat → BitVec 64
  | 0 => fun _ => 0#64
  | k + 1 => stepL (takeL m k) k (m k)

theorem msg0_next (d : Nat → BitVec 8) (k i : Nat) : upd (byteV (msg0 d k)) k (.int .u8 (B8 (d k))) i = byteV (msg0 d (k + 1)) i := by
  unfold upd byteV msg0
  by_cases h1 : i = k
  · subst h1; simp
  · rw [if_neg h1]
    by_cases h2 : i < k
    · rw [if_pos h2, if_pos (by omega)]
    · rw [if_neg h2, if_neg (by omega)]

theorem step_row {w : World} {b T i : Nat} {l : Nat → BitVec 64} {c : BitVec 8} (h : Row w b T 25 (laneV l)) :
    Row (w.setCell ⟨b, i % 136 / 8, none⟩ (.int .u64 (bits .xor .u64 (U (l (i % 136 / 8))) (IntKind.u64.wrap (IntKind.u64.wrap (B8 c) * 2 ^ (8 * (i % 8))))))).drew b T 25
      (laneV (upd l (i % 136 / 8) (l (i % 136 / 8) ^^^ c.setWidth 64 <<< (8 * (i % 136 % 8))))) := by
  rw [B8_wrap, U_shl, U_xor, ← laneV_upd, show i % 136 % 8 = i % 8 from by omega]
  exact (h.set _ _).drew

theorem info5 : (Sadg.prog.info? 5).map (fun i => (i.zero, i.size, i.bytes)) = some (some (.int .u8 0), 1, 1) := by kernel_rfl

attribute [local go_sem] B8_or128 B8_or1 U_xor

set_option maxRecDepth 20000 in
set_option maxHeartbeats 1000000 in
theorem holds12 (w : World) (a0 : Option Addr) (len cap : Nat) (d : Nat → BitVec 8) (hd : Data w a0 len cap d) (hreach : cap ≤ 140737488351232) (s : Nat → BitVec 8)
    (hs : ∀ i, i < 32 → s i = (takeL (msg2 d len) (len / 136 * 136 + 136) (i / 8) >>> (8 * (i % 8))).setWidth 8) :
    Calls Sadg.prog 12 #[.slice a0 len cap, .agg (rowC 32 (byteV s))] w fun e w' => e = .returned (.bool true) ∧ Only [] w w' := by
  obtain ⟨hl, hm, hb⟩ := hd
  have HS := hide hs
  clear hs hm
  go_enter Sadg.func12, Sadg.ntmps12
  go_wp2_with (first
    | (refine wpl_box rfl 32 _ rfl 32 _ rfl ?_; intro w1 sb hs1 hs2 hrow1 honly1; go_simp)
    | (refine wpl_make rfl 30 _ _ rfl 5 (.int .u8 0) Sadg.underlying30 1 info5 rfl (len / 136 * 136 + 136) (len / 136 * 136 + 136) _ _ rfl rfl (by omega) (by omega) (Nat.le_refl _) (by omega) (by unfold maxLen; omega) ?_; intro w2 mb hs3 hs4 hrow2 honly2; go_simp))
  have hsw : w.heap.size ≤ mb := by have := honly1.size; omega
  have hsm : sb ≠ mb := by omega
  have hrow1' := honly2.row hrow1 (by simp)
  have hon := honly1.trans honly2
  clear hrow1 honly1 honly2
  have hN1 : len < len / 136 * 136 + 136 := by omega
  have hN2 : len / 136 * 136 + 136 ≤ 140737488351368 := by omega
  go_loopw [21] (fun i wr => ∃ k : Nat, k ≤ len ∧ i = .int .i64 k ∧ Row wr mb 5 (len / 136 * 136 + 136) (byteV (msg0 d k)) ∧ Row wr sb 32 32 (byteV s) ∧ Only [] w wr) (fun i _ => len - (intOf i).toNat)
  case atStart => exact ⟨0, by omega, rfl, hrow2.congr (fun i _ => by simp [byteV, msg0]; rfl), hrow1', hon⟩
  case round =>
    obtain ⟨k, hk, rfl, hrow, hrows, honly⟩ := hrel
    by_cases hlt : k < len
    · obtain ⟨b, off, rfl, hby⟩ := hb (by omega)
      have hc := (hby.only honly (by simp)) k hlt
      go_wp2_with (refine wpl_store1 rfl 5 _ _ rfl mb k (.int .u8 (B8 (d k))) rfl rfl rfl rfl size5 5 (len / 136 * 136 + 136) _ hrow (by omega) ?_; intro w3 hrow3 honly3; go_simp)
      go_roundw
      case rel => exact ⟨k + 1, by omega, by go_num, hrow3.congr (fun i _ => msg0_next d k i), honly3.row hrows (by simpa using hsm), honly.step honly3 (by simpa using hsw)⟩
      case measure => simp [intOf]; omega
    · obtain rfl : k = len := by omega
      have hc1 := hrow.cell (i := k) (by omega)
      unfold byteV at hc1
      go_wp2_with (first
        | (refine wpl_store1 rfl 5 _ _ rfl mb k (.int .u8 (B8 (msg0 d k k ||| 1#8))) rfl rfl rfl rfl size5 5 (k / 136 * 136 + 136) _ hrow (by omega) ?_; intro w3 hrow3' honly3; rw [byteV_upd] at hrow3'; have hrow3 : Row w3 mb 5 (k / 136 * 136 + 136) (byteV (msg1 d k)) := hrow3'; have hc2 := hrow3.cell (i := k / 136 * 136 + 135) (by omega); unfold byteV at hc2; clear hrow3' hc1; go_simp)
        | (refine wpl_store1 rfl 5 _ _ rfl mb (k / 136 * 136 + 135) (.int .u8 (B8 (msg1 d k (k / 136 * 136 + 135) ||| 128#8))) rfl rfl rfl rfl size5 5 (k / 136 * 136 + 136) _ hrow3 (by omega) ?_; intro w4 hrow4' honly4; rw [byteV_upd] at hrow4'; have hrow4 : Row w4 mb 5 (k / 136 * 136 + 136) (byteV (msg2 d k)) := hrow4'; clear hc2 hrow4'; go_simp)
        | (refine wpl_alloc rfl 24 rfl 25 _ zero24 ?_; intro w5 ab ha1 ha2 hrow5 honly5; go_simp))
      have hlt3 := hrow3.lt
      have hlt1 := hrows.lt
      have hsz3 := honly3.size
      have hsz4 := honly4.size
      have hszr := honly.size
      have hma : mb ≠ ab := by omega
      have hsa : sb ≠ ab := by omega
      have haw : w.heap.size ≤ ab := by omega
      have hrm := honly5.row hrow4 (by simp)
      have hrs := honly5.row (honly4.row (honly3.row hrows (by simpa using hsm)) (by simpa using hsm)) (by simp)
      have hon5 := ((honly.step honly3 (by simpa using hsw)).step honly4 (by simpa using hsw)).trans honly5
      clear honly honly3 honly4 honly5 hrow3 hrow4 hrows hrow hrow2 hrow1' hon
      go_loopw [48] (fun v wr => ∃ i : Nat, i ≤ k / 136 * 136 + 136 ∧ v = .int .i64 i ∧ Row wr ab 24 25 (laneV (takeL (msg2 d k) i)) ∧ Row wr mb 5 (k / 136 * 136 + 136) (byteV (msg2 d k)) ∧ Row wr sb 32 32 (byteV s) ∧ Only [] w wr) (fun v _ => k / 136 * 136 + 136 - (intOf v).toNat)
      case atStart => exact ⟨0, by omega, rfl, hrow5, hrm, hrs, hon5⟩
      case round =>
        obtain ⟨i, hi, rfl, hra, hrm, hrs, honly⟩ := hrel
        clear hrow5 hon5
        by_cases hlti : i < k / 136 * 136 + 136
        · have hc := hrm.cell (i := i) hlti
          have hca := hra.cell (i := i % 136 / 8) (by omega)
          have hza := hra.frozen (i % 136 / 8)
          unfold byteV at hc
          unfold laneV at hca
          go_wp2_with fail
          go_region
          have hr6 := step_row (i := i) (c := msg2 d k i) hra
          have ho6 : Only [ab] wr (wr.setCell ⟨ab, i % 136 / 8, none⟩ (.int .u64 (bits .xor .u64 (U (takeL (msg2 d k) i (i % 136 / 8))) (IntKind.u64.wrap (IntKind.u64.wrap (B8 (msg2 d k i)) * 2 ^ (8 * (i % 8))))))).drew := ((Only.refl _ _).setCell (.inl (by simp)) _).drew
          generalize (wr.setCell ⟨ab, i % 136 / 8, none⟩ (.int .u64 (bits .xor .u64 (U (takeL (msg2 d k) i (i % 136 / 8))) (IntKind.u64.wrap (IntKind.u64.wrap (B8 (msg2 d k i)) * 2 ^ (8 * (i % 8))))))).drew = w6 at hr6 ho6 ⊢
          clear hc hca hza
          by_cases h135 : i % 136 = 135
          · have h1 : ((i : Int) % 136 == 135) = true := by rw [beq_iff_eq]; omega
            have H135 := hide h135
            clear h135
            go_wp2_with fail
            refine (f8 _ ab 24 _ hr6).mono ?_
            rintro e w7 ⟨rfl, hr7, ho7⟩
            go_wp2
            go_roundw
            case rel =>
              refine ⟨i + 1, by omega, by go_num, ?_, ho7.row (ho6.row hrm (by simpa using hma)) (by simpa using hma), ho7.row (ho6.row hrs (by simpa using hsa)) (by simpa using hsa), (honly.step ho6 (by simpa using haw)).step ho7 (by simpa using haw)⟩
              refine hr7.congr (fun j _ => ?_)
              unfold laneV
              rw [takeL, stepL, if_pos H135.out]
            case measure => simp [intOf]; omega
          · have h1 : ((i : Int) % 136 == 135) = false := by rw [beq_eq_false_iff_ne]; omega
            go_wp2
            go_roundw
            case rel =>
              refine ⟨i + 1, by omega, by go_num, ?_, ho6.row hrm (by simpa using hma), ho6.row hrs (by simpa using hsa), honly.step ho6 (by simpa using haw)⟩
              refine hr6.congr (fun j _ => ?_)
              unfold laneV
              rw [takeL, stepL, if_neg h135]
            case measure => simp [intOf]; omega
        · obtain rfl : i = k / 136 * 136 + 136 := by omega
          go_wp2_with (refine wpl_load rfl 32 (.tmp 3) rfl sb 32 32 (byteV s) rfl hrs _ Sadg.underlying32 rfl size32 ?_; go_simp)
          go_loop [73] (fun v => ∃ j : Nat, j ≤ 32 ∧ v = .int .i64 j) (fun v => 32 - (intOf v).toNat)
          case atStart => exact ⟨0, by omega, rfl⟩
          case round =>
            obtain ⟨j, hj, rfl⟩ := hrel
            by_cases hlt32 : j < 32
            · have hidx : ∀ w : World, (Instr.index 32 (.agg (rowC 32 (byteV s))) (.int .i64 j)).run Sadg.prog w = .ok (.int .u8 (B8 (s j))) w := fun w =>
                run_index_arr 32 5 32 _ .i64 j _ w _ Sadg.underlying32 Sadg.underlying5 rfl size5 (by omega) (by omega) (by rw [Int.toNat_natCast, rowC_get, if_pos hlt32]; rfl)
              have hca := hra.cell (i := j / 8) (by omega)
              unfold laneV at hca
              have hv : U (takeL (msg2 d k) (k / 136 * 136 + 136) (j / 8)) / 2 ^ (8 * (j % 8)) % 256 = B8 (s j) := by rw [HS.out j hlt32, U_shr, U_mod]
              go_wp2
              go_round
              case rel => exact ⟨j + 1, by omega, by go_num⟩
              case measure => simp [intOf]; omega
            · obtain rfl : j = 32 := by omega
              go_wp2
              go_ret
              exact ⟨rfl, honly⟩
end Go.Proofs.Ygcsad
