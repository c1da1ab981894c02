/-
  The proof of 'Rows.SpongeSaid': law.Sponge returns true for every slice of bytes.
-/
import Derived.Test.YgcsadPlain
import Derived.ProofKit
import Derived.OpenShut
import Derived.ShutString
import Derived.ChangeOld
import Derived.Below
import Derived.SizedLaws
namespace Go.Proofs.Ygcsad.sponge
open Go.ChangeShapes Go.WideShapes Go.ChangeAt Go.RowKit
open Go.ChangeMaps (open_string shut_string)
set_option linter.unusedVariables false

theorem own : ownKnob Sadg.prog.godebug = none := by kernel_rfl
theorem laidOut : laidOutB Sadg.prog = true := by kernel_rfl
theorem bytes5 : Sadg.prog.bytesOf 5 = 1 := by kernel_rfl

theorem walk (w : World) (a0 : Option Addr) (len cap : Nat) (d : Nat → BitVec 8) (hd : Data w a0 len cap d) (hreach : cap ≤ 140737488351232) :
    Calls Sadg.prog 5 #[.slice a0 len cap] w fun e w' => e = .returned (.bool true) ∧ Below w.heap.size w w' := by
  go_enter Sadg.func5, Sadg.ntmps5
  go_wp2_with fail
  refine (sum11 _ a0 len cap d hd).mono ?_
  rintro e w1 ⟨rfl, honly1⟩
  go_wp2_with fail
  refine (holds12 _ a0 len cap d ⟨hd.1, hd.2.1, fun h => ?_⟩ hreach (outB (spongeL d len)) ?_).mono ?_
  · obtain ⟨b, o, h1, h2⟩ := hd.2.2 h
    exact ⟨b, o, h1, h2.only honly1 (by simp)⟩
  · intro i _
    rw [out_byte, sponge_law]
  rintro e w2 ⟨rfl, honly2⟩
  go_wp2
  go_ret
  exact ⟨rfl, (honly1.trans honly2).below (by simp)⟩

theorem B8_ofInt {n : Int} (h : (Lit.int .u8 n).wf = true) : B8 (BitVec.ofInt 8 n) = n := by
  have h1 := bounds_u8 h
  unfold B8
  rw [BitVec.toNat_ofInt]
  omega

set_option maxRecDepth 100000 in
theorem lifted (os : Os) (started : os.Started) (H : Type) (enc : TypeId × Value → H) :
    ReturnsInHanded {} Sadg.checked os 5 .any (Rows.spongeSpec.pre6 enc Sadg.prog Sadg.f5 Rows.spongeRow.domain false) (Rows.spongeSpec.post enc Sadg.prog Sadg.f5 false true false false) := by
  refine returnsInHanded_of_change_sized (C := Sadg.checked) own started (by kernel_rfl) Sadg.func5
    (ChangeSpec.witness6 (enc := enc) (C := Sadg.checked) false ⟨#[], #[.slice none 0 0], []⟩ 8 (by kernel_rfl) (by kernel_rfl) (by kernel_rfl) (by kernel_rfl)) ?_
  intro W base args ds gs before hval0 hW hcnd hsz0 _
  have hsz : (DataW.weightsEach Sadg.prog (Sadg.f5.params.toList ++ Rows.spongeSpec.plain.varTypes Sadg.prog) (ds ++ gs)).all (· ≤ reachBytes) = true := hsz0
  clear hsz0
  have hval : ∀ (j : Nat) t v, Sadg.f5.params[j]? = some t → args[j]? = some v → Value.okWide Sadg.prog W .any base t v := hval0
  have hW' := hW
  obtain ⟨p, q, hA0, hV, rfl, hfz, hnd⟩ := hW
  have hA : DataW.TrodAll enc Sadg.prog W 0 (fun _ => true) true Sadg.f5.params.toList args.toList ds p := hA0
  rw [Sadg.params5] at hA hval hsz
  obtain ⟨v0, vs0, d0, ds0, p0, q0, hargs, rfl, rfl, h0, r0⟩ := trodAll_cons hA
  obtain ⟨rfl, rfl, rfl⟩ := trodAll_nil r0
  obtain rfl : args = #[v0] := by cases args; simp_all
  obtain ⟨rfl, rfl⟩ := trodVars_none hV
  obtain ⟨a0, len0, cap0, rfl⟩ := okWide_slice Sadg.underlying30 (hval 0 30 v0 rfl rfl)
  have k0 := h0
  have lt0 : ∀ x ∈ p0, x.block < W.heap.size := by obtain ⟨m, hm⟩ := k0; exact DataW.trod_lt m _ _ _ hm
  obtain ⟨dd, hdd, hrr⟩ : ∃ dd, Data W a0 len0 cap0 dd ∧ cap0 ≤ 140737488351232 := by
    obtain ⟨fuel, hf⟩ := h0
    rcases open_ints Sadg.underlying30 Sadg.underlying5 (by kernel_rfl) hf with ⟨hcs, _⟩ | ⟨x, l, c, zs, hcs, _, hl, hm, hz, hx, hcell, hwz⟩
    · simp [Value.cells] at hcs
      obtain ⟨rfl, rfl, rfl⟩ := hcs
      exact ⟨fun _ => 0#8, ⟨Nat.le_refl _, by unfold maxLen; omega, fun h => absurd h (by omega)⟩, by omega⟩
    · simp [Value.cells] at hcs
      obtain ⟨rfl, rfl, rfl⟩ := hcs
      simp only [Prod.mk.injEq] at hx
      have hz' : zs.length = cap0 := by simpa using hz
      have hsl := sized_slice hsz (j := 0) (t := 30) (e := 5) rfl (by rw [hx.1]; rfl) Sadg.underlying30
      rw [bytes5] at hsl
      simp only [lits, List.length_map, List.length_take, List.length_drop, reachBytes] at hsl
      refine ⟨fun i => BitVec.ofInt 8 (zs.getD i 0), ⟨hl, hm, fun hpos => ?_⟩, by omega⟩
      have h00 := hcell 0 (by omega)
      obtain ⟨b, off, spot⟩ := x
      have hsp : spot = none := by
        cases spot with
        | none => rfl
        | some n => simp [Addr.add, World.cell?] at h00; split at h00 <;> simp at h00
      subst hsp
      refine ⟨b, off, rfl, fun j hj => ?_⟩
      have := hcell j (by omega)
      rw [Addr.add_mid] at this
      rw [this, B8_ofInt (hwz _ ?_)]
      rw [List.getD_eq_getElem?_getD, List.getElem?_eq_getElem (by omega)]
      exact List.getElem_mem _
  clear hA0 hval0
  refine (walk W a0 len0 cap0 dd hdd hrr).mono fun e W' ⟨he, bel⟩ => ?_
  subst he
  exact ⟨_, rfl, _, _, _, [], _, [], hW', trodAll_mk1 (shut_bool Sadg.underlying4 _), (trodAll_cons_mk (Below.trod laidOut (by kernel_rfl) (of_decide_eq_true (by kernel_rfl)) k0 bel lt0) trodAll_mk0), rfl, bel.frame _, fun h => by cases h⟩

theorem over : Rows.spongeRow.holds Sadg.pinned (OpenSpec.ofChange Rows.spongeSpec) :=
  OpenClaim.holds_of_wide 5 Sadg.f5 rfl rfl rfl rfl rfl rfl rfl ⟨rfl, rfl, rfl, rfl, rfl⟩ rfl rfl rfl rfl rfl (by kernel_rfl) Sadg.func5 (by kernel_rfl)
    (of_decide_eq_true (by kernel_rfl)) (by unfold Func.isWrapper; first | (rw [if_pos (by decide +kernel)]; kernel_rfl) | (rw [if_neg (by decide +kernel)]; exact ⟨rfl, rfl⟩))
    (fun os started H enc _ => lifted os started H enc)

end Go.Proofs.Ygcsad.sponge
namespace Go.Proofs.Ygcsad
/-- THE STATEMENT. -/
theorem sponge_proved : Rows.SpongeSaid := sponge.over
end Go.Proofs.Ygcsad
