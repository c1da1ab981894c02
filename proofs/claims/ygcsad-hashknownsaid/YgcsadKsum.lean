/-
  The walk of kmodel.Sum.
-/
import Derived.Test.YgcsadPerm
import Derived.Laws.AppendOwn
namespace Go.Proofs.Ygcsad
open Go.RowKit

section
variable {P : Program} {ops : Array Oper} {rest : List Oper} {o : Oper} {a : Act} {w : World} {Q : Exit → Act → World → Prop}
/-- append(s, v) of one cell, where there is room. -/
theorem wpl_append1 (hgd : o.guard = none) (s x : Operand) (t : TypeId) (ho : o.op = .call { callee := .builtin .append, args := #[s, x], argTypes := #[t, t] }) (e : TypeId) (hu : P.underlying t = some (.slice e))
    (hi : (P.info? e).map (·.size) = some 1) (g n cap : Nat) (hs : a.eval s = .slice (some ⟨g, 0, none⟩) n cap) (ad : Addr) (c : Nat) (hx : a.eval x = .slice (some ad) 1 c) (v : Value) (hv : w.cell? ad = some v) (h1 : v.oneCell' = true)
    (f : Nat → Value) (hr : Row w g e cap f) (hn : n < cap)
    (h : ∀ w', Row w' g e cap (upd f n v) → Only [g] w w' → wpList P ops Q rest (a.put o.dst (.slice (some ⟨g, 0, none⟩) (n + 1) cap)) w') : wpList P ops Q (o :: rest) a w := by
  refine wpList_plain hgd fun K hK => ?_
  cases hq : P.info? e with
  | none => simp [hq] at hi
  | some i =>
    have hsz : i.size = 1 := by simpa [hq] using hi
    have hrun := run_append_room (P := P) w t o.type e i hu hq g n cap (rowC cap f) hr ad 1 c [v] (by simp [hsz])
      (by intro j u hj; cases j with
        | zero => simp at hj; subst hj; simpa [Addr.add] using hv
        | succ j => simp at hj)
      (by intro u hu; simp at hu; subst hu; exact h1) (by omega) (by rw [hsz, rowC_size]; simp; omega)
    rw [hsz, Nat.mul_one] at hrun
    have hl : (rowC 1 (fun _ => v)).toList = [v] := rfl
    have hsp := rowC_splice cap f (fun _ => v) n 1 (by omega)
    rw [hl] at hsp
    rw [List.append_assoc, hsp] at hrun
    unfold Oper.wp
    simp [execOp, ho, resolve, invoke, builtin, hs, hx, hrun, Result.andThen]
    refine hK _ _ (h _ (Row.congr (setRow_heap w g _ _ e _ hr) (fun j _ => ?_)) (Only.setRow _ _ _ _ (by simp)))
    rw [upd_ap]
    unfold lay
    by_cases e1 : j = n
    · rw [if_pos (by omega), if_pos e1]
    · rw [if_neg (by omega), if_neg e1]
end

theorem new_cell (w : World) (v : Value) (T : TypeId) : (w.alloc (.cells #[v] T)).cell? ⟨w.heap.size, 0, none⟩ = some v := by
  unfold World.cell?
  simp only
  rw [heap_alloc_new]
  rfl

theorem info4 : (Sadg.prog.info? 4).map (fun i => (i.zero, i.size, i.bytes)) = some (some (.bool false), 1, 1) := by kernel_rfl

/-- The first k bits of the data. -/
def kb (d : Nat → BitVec 8) (k : Nat) : Nat → Bool := fun i => if i < k then bbit (d (i / 8)) (i % 8) else false
theorem kb_next {d : Nat → BitVec 8} {i k j : Nat} (hk : k < 8) : upd (boolV (kb d (8 * i + k))) (8 * i + k) (.bool (bbit (d i) k)) j = boolV (kb d (8 * i + (k + 1))) j := by
  rw [boolV_upd]
  unfold boolV
  rw [upd_ap]
  unfold kb
  by_cases h : j = 8 * i + k
  · subst h
    have e1 : (8 * i + k) / 8 = i := by omega
    have e2 : (8 * i + k) % 8 = k := by omega
    rw [if_pos rfl, if_pos (by omega), e1, e2]
  · rw [if_neg h]
    by_cases h2 : j < 8 * i + k
    · rw [if_pos h2, if_pos (by omega)]
    · rw [if_neg h2, if_neg (by omega)]
/-- .. and the one behind them. -/
def kb1 (d : Nat → BitVec 8) (len : Nat) : Nat → Bool := upd (kb d (8 * len)) (8 * len) true
/-- .. and the one that ends the last block. -/
def kb2 (d : Nat → BitVec 8) (len : Nat) : Nat → Bool := upd (kb1 d len) (1088 * (len / 136) + 1087) true

theorem kb1_false {d : Nat → BitVec 8} {len n j : Nat} (hn : 8 * len < n) : upd (boolV (kb1 d len)) n (.bool false) j = boolV (kb1 d len) j := by
  rw [upd_ap]
  by_cases h : j = n
  · subst h
    rw [if_pos rfl]
    unfold boolV kb1
    rw [upd_ap, if_neg (by omega)]
    unfold kb
    rw [if_neg (by omega)]
  · rw [if_neg h]

/-- One bit taken in; F behind the last of a block. -/
def kstep (s : Nat → Bool) (k : Nat) (b : Bool) : Nat → Bool :=
  if k % 1088 = 1087 then kfB (upd s (k % 1088) (s (k % 1088) != b)) else upd s (k % 1088) (s (k % 1088) != b)
/-- The state behind the first k bits. -/
def kTake (M : Nat → Bool) : Nat → Nat → Bool
  | 0 => fun _ => false
  | k + 1 => kstep (kTake M k) k (M k)
/-- The bytes out of the first k bits. -/
def outK (S : Nat → Bool) : Nat → Nat → BitVec 8
  | 0 => fun _ => 0#8
  | k + 1 => if S k = true then upd (outK S k) (k / 8) (outK S k (k / 8) ||| 1#8 <<< (k % 8)) else outK S k

theorem pow_byte : ∀ k : Fin 8, (2 : Int) ^ k.val % 256 = B8 (1#8 <<< k.val) := by decide +kernel
theorem or_pow (c : BitVec 8) (k : Nat) : bits .or .u8 (B8 c) (2 ^ (k % 8) % 256) = B8 (c ||| 1#8 <<< (k % 8)) := by
  rw [pow_byte ⟨k % 8, by omega⟩, B8_or]

set_option maxRecDepth 20000 in
set_option maxHeartbeats 2000000 in
theorem ksum14' (w : World) (a0 : Option Addr) (len cap : Nat) (d : Nat → BitVec 8) (hd : Data w a0 len cap d) (hreach : 8 * len + 2176 ≤ 281474976710656) :
    Calls Sadg.prog 14 #[.slice a0 len cap] w fun e w' => e = .returned (.agg (rowC 32 (byteV (outK (kTake (kb2 d len) (1088 * (len / 136) + 1088)) 256)))) ∧ Only [] w w' := by
  obtain ⟨hl, hm, hb⟩ := hd
  have HB := hide' hb
  clear hb hm
  go_enter Sadg.func14, Sadg.ntmps14
  go_wp2_with (first
    | (refine wpl_alloc rfl 32 rfl 32 _ zero32 ?_; intro w1 rb hr1 hr2 hrow1 honly1; go_simp)
    | (refine wpl_make rfl 46 _ _ rfl 4 (.bool false) Sadg.underlying46 1 info4 rfl 0 (8 * len + 2176) _ _ rfl rfl (by omega) (by omega) (by omega) (by omega) (by unfold maxLen; omega) ?_; intro w2 mb hm1 hm2 hrow2 honly2; go_simp))
  have hmw : w.heap.size ≤ mb := by have := honly1.size; omega
  have hrm : rb ≠ mb := by omega
  have hrr := honly2.row hrow1 (by simp)
  have hon := honly1.trans honly2
  clear hrow1 honly1 honly2
  go_loopw [3, 19] (fun b v wr => ∃ i : Nat, i ≤ len ∧ v = .int .i64 i ∧ b = .slice (some ⟨mb, 0, none⟩) (8 * i) (8 * len + 2176) ∧ Row wr mb 4 (8 * len + 2176) (boolV (kb d (8 * i))) ∧ Row wr rb 32 32 (fun _ => .int .u8 0) ∧ Only [] w wr) (fun _ v _ => len - (intOf v).toNat)
  case atStart => exact ⟨0, by omega, rfl, rfl, hrow2.congr (fun j _ => by simp [boolV, kb]), hrr, hon⟩
  case round =>
    clear hrow2 hrr hon
    obtain ⟨i, hi, rfl, rfl, hrow, hrr, honly⟩ := hrel
    by_cases hlt : i < len
    · have di : decide ((i : Int) < (len : Int)) = true := by simp; omega
      obtain ⟨b, off, rfl, hby⟩ := HB.out (by omega)
      have hc := (hby.only honly (by simp)) i hlt
      go_wp2
      go_loopw [3, 6] (fun b v wr => ∃ k : Nat, k ≤ 8 ∧ v = .int .i64 k ∧ b = .slice (some ⟨mb, 0, none⟩) (8 * i + k) (8 * len + 2176) ∧ Row wr mb 4 (8 * len + 2176) (boolV (kb d (8 * i + k))) ∧ Row wr rb 32 32 (fun _ => .int .u8 0) ∧ Only [] w wr) (fun _ v _ => 8 - (intOf v).toNat)
      case atStart => exact ⟨0, by omega, rfl, rfl, hrow, hrr, honly⟩
      case round =>
        clear hrow hrr honly hc hby
        obtain ⟨k, hk, rfl, rfl, hrow, hrr, honly⟩ := hrel
        by_cases hltk : k < 8
        · have dk : decide ((k : Int) < 8) = true := by simp; omega
          have hbit := B8_bit (d i) k
          go_wp2_with (refine wpl_append1 rfl (.tmp 27) (.tmp 33) 46 rfl 4 Sadg.underlying46 size4 mb (8 * i + k) (8 * len + 2176) rfl ⟨wr.heap.size, 0, none⟩ 1 rfl (.bool (bbit (d i) k)) (new_cell _ _ _) rfl _ (hrow.alloc _) (by omega) ?_; intro w4 hrow4 honly4; go_simp)
          go_roundw
          case rel => exact ⟨k + 1, by omega, by go_num, rfl, hrow4.congr (fun j _ => kb_next hltk), honly4.row (hrr.alloc _) (by simpa using hrm), (honly.alloc _).step honly4 (by simpa using hmw)⟩
          case measure => simp [intOf]; omega
        · have dk : decide ((k : Int) < 8) = false := by simp; omega
          have e8 : k = 8 := by omega
          have hrow8 : Row wr mb 4 (8 * len + 2176) (boolV (kb d (8 * (i + 1)))) := by rw [show 8 * (i + 1) = 8 * i + k from by omega]; exact hrow
          have HE := hide' e8
          clear hrow hltk e8
          go_wp2
          go_roundw
          case rel => exact ⟨i + 1, by omega, by go_num, by rw [HE.out]; rfl, hrow8, hrr, honly⟩
          case measure => simp [intOf]; omega
    · have di : decide ((i : Int) < (len : Int)) = false := by simp; omega
      obtain rfl : i = len := by omega
      go_wp2_with (refine wpl_append1 rfl (.tmp 36) (.tmp 37) 46 rfl 4 Sadg.underlying46 size4 mb (8 * i) (8 * i + 2176) rfl ⟨wr.heap.size, 0, none⟩ 1 rfl (.bool true) (new_cell _ _ _) rfl _ (hrow.alloc _) (by omega) ?_; intro w4 hrow4' honly4; rw [boolV_upd] at hrow4'; have hrow4 : Row w4 mb 4 (8 * i + 2176) (boolV (kb1 d i)) := hrow4'; clear hrow4'; go_simp)
      have hrr4 := honly4.row (hrr.alloc _) (by simpa using hrm)
      have hon4 := (honly.alloc _).step honly4 (by simpa using hmw)
      clear hrow hrr honly honly4
      go_loopw [3] (fun b wr => ∃ n : Nat, 8 * i + 1 ≤ n ∧ n ≤ 1088 * (i / 136) + 1087 ∧ b = .slice (some ⟨mb, 0, none⟩) n (8 * i + 2176) ∧ Row wr mb 4 (8 * i + 2176) (boolV (kb1 d i)) ∧ Row wr rb 32 32 (fun _ => .int .u8 0) ∧ Only [] w wr) (fun b _ => 1088 * (i / 136) + 1087 - lenOf b)
      case atStart => exact ⟨8 * i + 1, by omega, by omega, rfl, hrow4, hrr4, hon4⟩
      case round =>
        clear hrow4 hrr4 hon4
        obtain ⟨n, hn1, hn2, rfl, hrow, hrr, honly⟩ := hrel
        by_cases hne : n % 1088 = 1087
        · have dn : ((n : Int) % 1088 != 1087) = false := by simp; omega
          have en : n = 1088 * (i / 136) + 1087 := by omega
          clear hne
          subst en
          go_wp2_with (first
            | (refine wpl_append1 rfl (.tmp 46) (.tmp 47) 46 rfl 4 Sadg.underlying46 size4 mb (1088 * (i / 136) + 1087) (8 * i + 2176) rfl ⟨wr.heap.size, 0, none⟩ 1 rfl (.bool true) (new_cell _ _ _) rfl _ (hrow.alloc _) (by omega) ?_; intro w5 hrow5' honly5; rw [boolV_upd] at hrow5'; have hrow5 : Row w5 mb 4 (8 * i + 2176) (boolV (kb2 d i)) := hrow5'; clear hrow5'; have hrr5 := honly5.row (hrr.alloc _) (by simpa using hrm); have hon5 := (honly.alloc _).step honly5 (by simpa using hmw); clear hrow hrr honly honly5; go_simp)
            | (refine wpl_alloc rfl 38 rfl 1600 _ zero38 ?_; intro w6 sb hs1 hs2 hrow6 honly6; go_simp))
          have hz5 := hon5.size
          have hlm := hrow5.lt
          have hlr := hrr5.lt
          have hsw : w.heap.size ≤ sb := by omega
          have hsm : mb ≠ sb := by omega
          have hsr : rb ≠ sb := by omega
          have hrm6 := honly6.row hrow5 (by simp)
          have hrr6 := honly6.row hrr5 (by simp)
          have hon6 := hon5.trans honly6
          clear hrow5 hrr5 hon5 honly6
          clear dn hn1 hn2
          generalize hM : kb2 d i = M at hrm6
          have HM := hide' hM
          clear hM
          go_loopw [51] (fun v wr => ∃ k : Nat, k ≤ 1088 * (i / 136) + 1088 ∧ v = .int .i64 k ∧ Row wr sb 38 1600 (boolV (kTake M k)) ∧ Row wr mb 4 (8 * i + 2176) (boolV M) ∧ Row wr rb 32 32 (fun _ => .int .u8 0) ∧ Only [] w wr) (fun v _ => 1088 * (i / 136) + 1088 - (intOf v).toNat)
          case atStart => exact ⟨0, by omega, rfl, hrow6, hrm6, hrr6, hon6⟩
          case round =>
            clear hrow6 hrm6 hrr6 hon6
            obtain ⟨k, hk, rfl, hrs, hrw, hrr, honly⟩ := hrel
            by_cases hltk : k < 1088 * (i / 136) + 1088
            · have dk : decide ((k : Int) < 1088 * ((i : Int) / 136) + 1087 + 1) = true := by simp; omega
              have k1 := hrw.cell (i := k) (by omega)
              have k2 := hrs.cell (i := k % 1088) (by omega)
              unfold boolV at k1 k2
              by_cases h87 : k % 1088 = 1087
              · have d87 : ((k : Int) % 1088 == 1087) = true := by rw [beq_iff_eq]; omega
                have H87 := hide' h87
                clear h87
                go_wp2_with (first
                  | (go_at_call 17; refine (kf17 _ sb 38 _ hrow7).mono ?_; rintro e w8 ⟨rfl, hrow8, honly8⟩)
                  | (refine wpl_store1 rfl 4 _ _ rfl sb (k % 1088) (.bool (kTake M k (k % 1088) != M k)) rfl rfl rfl rfl size4 38 1600 _ hrs (by omega) ?_; intro w7 hrow7' honly7; rw [boolV_upd] at hrow7'; have hrow7 := hrow7'; clear hrow7'; go_simp))
                go_roundw
                case rel =>
                  refine ⟨k + 1, by omega, by go_num, ?_, honly8.row (honly7.row hrw (by simpa using hsm)) (by simpa using hsm), honly8.row (honly7.row hrr (by simpa using hsr)) (by simpa using hsr), (honly.step honly7 (by simpa using hsw)).step honly8 (by simpa using hsw)⟩
                  refine hrow8.congr (fun j _ => ?_)
                  unfold boolV
                  rw [kTake, kstep, if_pos H87.out]
                case measure => simp [intOf]; omega
              · have d87 : ((k : Int) % 1088 == 1087) = false := by rw [beq_eq_false_iff_ne]; omega
                go_wp2_with (refine wpl_store1 rfl 4 _ _ rfl sb (k % 1088) (.bool (kTake M k (k % 1088) != M k)) rfl rfl rfl rfl size4 38 1600 _ hrs (by omega) ?_; intro w7 hrow7 honly7; rw [boolV_upd] at hrow7; go_simp)
                go_roundw
                case rel =>
                  refine ⟨k + 1, by omega, by go_num, ?_, honly7.row hrw (by simpa using hsm), honly7.row hrr (by simpa using hsr), honly.step honly7 (by simpa using hsw)⟩
                  refine hrow7.congr (fun j _ => ?_)
                  unfold boolV
                  rw [kTake, kstep, if_neg h87]
                case measure => simp [intOf]; omega
            · have dk : decide ((k : Int) < 1088 * ((i : Int) / 136) + 1087 + 1) = false := by simp; omega
              have hrs' : Row wr sb 38 1600 (boolV (kTake M (1088 * (i / 136) + 1088))) := by
                have e : k = 1088 * (i / 136) + 1088 := by omega
                rw [← e]; exact hrs
              clear hrs hltk hk hrw
              generalize hS : kTake M (1088 * (i / 136) + 1088) = S at hrs'
              have HS := hide' hS
              clear hS
              go_wp2_with (refine wpl_alloc rfl 32 rfl 32 _ zero32 ?_; intro w9 ob ho1 ho2 hrow9 honly9; go_simp)
              have hz9 := honly.size
              have hls := hrs'.lt
              have hlr := hrr.lt
              have how : w.heap.size ≤ ob := by omega
              have hso : sb ≠ ob := by omega
              have hro : rb ≠ ob := by omega
              have hrs9 := honly9.row hrs' (by simp)
              have hrr9 := honly9.row hrr (by simp)
              have hon9 := honly.trans honly9
              clear hrs' hrr honly honly9
              go_loopw [11] (fun v wr => ∃ k : Nat, k ≤ 256 ∧ v = .int .i64 k ∧ Row wr ob 32 32 (byteV (outK S k)) ∧ Row wr sb 38 1600 (boolV S) ∧ Row wr rb 32 32 (fun _ => .int .u8 0) ∧ Only [] w wr) (fun v _ => 256 - (intOf v).toNat)
              case atStart => exact ⟨0, by omega, rfl, hrow9, hrs9, hrr9, hon9⟩
              case round =>
                clear hrow9 hrs9 hrr9 hon9 dk
                obtain ⟨k, hk, rfl, hro', hrs, hrr, honly⟩ := hrel
                by_cases hltk : k < 256
                · have dk : decide ((k : Int) < 256) = true := by simp; omega
                  have k1 := hrs.cell (i := k) (by omega)
                  have k2 := hro'.cell (i := k / 8) (by omega)
                  have k3 := hro'.frozen (k / 8)
                  unfold boolV at k1
                  unfold byteV at k2
                  by_cases hb : S k = true
                  · go_wp2_with fail
                    go_region
                    go_wp2
                    go_roundw
                    case rel =>
                      refine ⟨k + 1, by omega, by go_num, ?_, (hrs.other (a := ⟨ob, k / 8, none⟩) hso _).drew, (hrr.other (a := ⟨ob, k / 8, none⟩) hro _).drew, (honly.setCell (p := ⟨ob, k / 8, none⟩) (.inr how) _).drew⟩
                      rw [or_pow]
                      have h5 := (hro'.set (k / 8) (.int .u8 (B8 (outK S k (k / 8) ||| 1#8 <<< (k % 8))))).drew
                      rw [byteV_upd] at h5
                      exact h5.congr (fun j _ => by unfold byteV; rw [outK, if_pos hb])
                    case measure => simp [intOf]; omega
                  · have hb' : S k = false := by simpa using hb
                    have HBb := hide' hb
                    clear hb
                    go_wp2
                    go_roundw
                    case rel => exact ⟨k + 1, by omega, by go_num, hro'.congr (fun j _ => by unfold byteV; rw [outK, if_neg HBb.out]), hrs, hrr, honly⟩
                    case measure => simp [intOf]; omega
                · have dk : decide ((k : Int) < 256) = false := by simp; omega
                  have hro2 : Row wr ob 32 32 (byteV (outK S 256)) := by
                    have e : k = 256 := by omega
                    rw [← e]; exact hro'
                  clear hro'
                  go_wp2_with (first
                    | (refine wpl_load rfl 32 (.tmp 10) rfl ob 32 32 (byteV (outK S 256)) rfl hro2 _ Sadg.underlying32 rfl size32 ?_; go_simp)
                    | (refine wpl_store rfl 32 (.tmp 2) (.tmp 86) rfl rb 32 32 _ (byteV (outK S 256)) rfl rfl hrr size32 (fun _ => rfl) ?_; intro w10 hrow10 honly10; go_simp))
                  refine bodyPost_ret (results_row rfl _ _ rb 32 32 _ _ rfl hrow10 Sadg.underlying32 rfl size32) rfl ⟨?_, honly.step honly10 (by simpa using hr1)⟩
                  rw [← HS.out, ← HM.out]
        · have dn : ((n : Int) % 1088 != 1087) = true := by rw [bne_iff_ne]; omega
          go_wp2_with (refine wpl_append1 rfl (.tmp 43) (.tmp 44) 46 rfl 4 Sadg.underlying46 size4 mb n (8 * i + 2176) rfl ⟨wr.heap.size, 0, none⟩ 1 rfl (.bool false) (new_cell _ _ _) rfl _ (hrow.alloc _) (by omega) ?_; intro w5 hrow5 honly5; go_simp)
          go_roundw
          case rel => exact ⟨n + 1, by omega, by omega, rfl, hrow5.congr (fun j _ => kb1_false (by omega)), honly5.row (hrr.alloc _) (by simpa using hrm), (honly.alloc _).step honly5 (by simpa using hmw)⟩
          case measure => simp [lenOf]; omega
end Go.Proofs.Ygcsad
