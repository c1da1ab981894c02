/-
  The proof of 'Rows.PermSameSaid': law.PermSame returns true for every array of 200 bytes.
-/
import Derived.Test.YgcsadPerm
import Derived.ProofKit
import Derived.OpenShut
import Derived.ShutString
import Derived.ChangeOld
import Derived.Below
namespace Go.Proofs.Ygcsad.permSame
open Go.ChangeShapes Go.WideShapes Go.ChangeAt Go.RowKit
set_option linter.unusedVariables false

theorem own : ownKnob Sadg.prog.godebug = none := by kernel_rfl
theorem laidOut : laidOutB Sadg.prog = true := by kernel_rfl
theorem cells22 : Sadg.prog.cellsOf 22 = 200 := by kernel_rfl
theorem cells5 : Sadg.prog.cellsOf 5 = 1 := by kernel_rfl

theorem B8_ofInt {n : Int} (h : (Lit.int .u8 n).wf = true) : B8 (BitVec.ofInt 8 n) = n := by
  have h1 := bounds_u8 h
  unfold B8
  rw [BitVec.toNat_ofInt]
  omega

/-- The number in a cell, as a byte. -/
def byteOf : Option Value → BitVec 8
  | some (.int _ n) => BitVec.ofInt 8 n
  | _ => 0#8

theorem open_bytes {H : Type} {enc : TypeId × Value → H} {W : World} {r : Reach} {base b0 : Nat} {spare : Nat → Bool} {held : Bool} {v : Value} {d : DataW H} {p : List MemPlace}
    (hv : Value.okWide Sadg.prog W r b0 22 v) (h : DataW.Trod enc Sadg.prog W base spare held 22 v d p) : ∃ q, v = .agg (rowC 200 (byteV q)) := by
  simp only [Value.okWide, Sadg.underlying22] at hv
  obtain ⟨cs, rfl, hsz, _⟩ := hv
  rw [cells22] at hsz
  obtain ⟨fuel, hf⟩ := h
  obtain ⟨xs, m, _, _, _, hlen, hat⟩ := DataW.trod_array Sadg.underlying22 hf
  refine ⟨fun i => byteOf cs[i]?, ?_⟩
  congr 1
  apply Array.ext_getElem?
  intro i
  rw [rowC_get]
  by_cases hi : i < 200
  · rw [if_pos hi]
    have h1 := hat i hi
    rw [cells5, Nat.mul_one, List.getElem?_eq_getElem (by omega)] at h1
    obtain ⟨n, hn, _, hw⟩ := DataW.trod_int Sadg.underlying5 h1
    have hc : cs[i]? = some (.int .u8 n) := by
      have h2 : ((Value.agg cs).cells.toList.drop i).take 1 = [.int .u8 n] := hn
      have h3 : (((Value.agg cs).cells.toList.drop i).take 1)[0]? = some (.int .u8 n) := by rw [h2]; rfl
      rw [List.getElem?_take, if_pos (by omega), List.getElem?_drop, Nat.add_zero] at h3
      simpa [Value.cells] using h3
    have hb : byteV (fun i => byteOf cs[i]?) i = .int .u8 n := by
      show Value.int .u8 (B8 (byteOf cs[i]?)) = _
      rw [hc]
      show Value.int .u8 (B8 (BitVec.ofInt 8 n)) = _
      rw [B8_ofInt hw]
    rw [hc, hb]
  · rw [if_neg hi]
    simp
    omega

set_option maxRecDepth 100000 in
theorem lifted (os : Os) (started : os.Started) (H : Type) (enc : TypeId × Value → H) :
    ReturnsInHanded {} Sadg.checked os 3 .any (Rows.permSameSpec.pre6 enc Sadg.prog Sadg.f3 Rows.permSameRow.domain false) (Rows.permSameSpec.post enc Sadg.prog Sadg.f3 false true false false) := by
  refine returnsInHanded_of_change (C := Sadg.checked) own started (by kernel_rfl) Sadg.func3
    (ChangeSpec.witness6 (enc := enc) (C := Sadg.checked) false ⟨#[], #[.agg (rowC 200 (byteV fun _ => 0#8))], []⟩ 8 (by kernel_rfl) (by kernel_rfl) (by kernel_rfl) (by kernel_rfl)) ?_
  intro W base args ds gs before hval0 hW hcnd _
  have hval : ∀ (j : Nat) t v, Sadg.f3.params[j]? = some t → args[j]? = some v → Value.okWide Sadg.prog W .any base t v := hval0
  have hW' := hW
  obtain ⟨p, q, hA0, hV, rfl, hfz, hnd⟩ := hW
  have hA : DataW.TrodAll enc Sadg.prog W 0 (fun _ => true) true Sadg.f3.params.toList args.toList ds p := hA0
  rw [Sadg.params3] at hA hval
  obtain ⟨v0, vs0, d0, ds0, p0, q0, hargs, rfl, rfl, h0, r0⟩ := trodAll_cons hA
  obtain ⟨rfl, rfl, rfl⟩ := trodAll_nil r0
  obtain rfl : args = #[v0] := by cases args; simp_all
  obtain ⟨rfl, rfl⟩ := trodVars_none hV
  obtain ⟨pp, hpp⟩ := open_bytes (hval 0 22 v0 rfl rfl) h0
  have k0 := h0
  have lt0 : ∀ x ∈ p0, x.block < W.heap.size := by obtain ⟨m, hm⟩ := k0; exact DataW.trod_lt m _ _ _ hm
  clear hA0 hval0
  have hwalk := perm3 W pp
  rw [← hpp] at hwalk
  refine hwalk.mono fun e W' ⟨he, bel⟩ => ?_
  subst he
  exact ⟨_, rfl, _, _, _, [], _, [], hW', trodAll_mk1 (shut_bool Sadg.underlying4 _), (trodAll_cons_mk (Below.trod laidOut (by kernel_rfl) (of_decide_eq_true (by kernel_rfl)) k0 bel lt0) trodAll_mk0), rfl, bel.frame _, fun h => by cases h⟩

theorem over : Rows.permSameRow.holds Sadg.pinned (OpenSpec.ofChange Rows.permSameSpec) :=
  OpenClaim.holds_of_wide 3 Sadg.f3 rfl rfl rfl rfl rfl rfl rfl ⟨rfl, rfl, rfl, rfl, rfl⟩ rfl rfl rfl rfl rfl (by kernel_rfl) Sadg.func3 (by kernel_rfl)
    (of_decide_eq_true (by kernel_rfl)) (by unfold Func.isWrapper; first | (rw [if_pos (by decide +kernel)]; kernel_rfl) | (rw [if_neg (by decide +kernel)]; exact ⟨rfl, rfl⟩))
    (fun os started H enc _ => lifted os started H enc)

end Go.Proofs.Ygcsad.permSame
namespace Go.Proofs.Ygcsad
/-- THE STATEMENT. -/
theorem permSame_proved : Rows.PermSameSaid := permSame.over
end Go.Proofs.Ygcsad
