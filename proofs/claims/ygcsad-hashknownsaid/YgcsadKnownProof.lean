/-
  The proof of 'Rows.HashKnownSaid': kmodel.Sum at two known hashes.
-/
import Derived.Test.YgcsadReckon
import Derived.Lib.SlBytesConst
import Derived.ProofKit
import Derived.OpenShut
import Derived.ShutString
namespace Go.Proofs.Ygcsad.hashKnown
open Go.ChangeShapes Go.WideShapes Go.ChangeAt Go.RowKit
set_option linter.unusedVariables false

theorem own : ownKnob Sadg.prog.godebug = none := by kernel_rfl

/-- An array literal. -/
theorem wpl_build {P : Program} {ops : Array Oper} {rest : List Oper} {o : Oper} {a : Act} {w : World} {Q : Exit → Act → World → Prop} (hgd : o.guard = none) (t : TypeId) (parts : Array (Nat × Operand)) (ho : o.op = .build t parts)
    (cells : Array Value) (hb : P.built t (parts.map fun (i, x) => (i, a.eval x)).toList = some cells) (h : wpList P ops Q rest (a.put o.dst (.agg cells)) w) : wpList P ops Q (o :: rest) a w :=
  wpList_build hgd t parts ho (by rw [hb]; rfl) (by rw [hb]; exact h)

/-- A whole array read under a guard that says yes. -/
theorem wpl_loadG {P : Program} {ops : Array Oper} {rest : List Oper} {o : Oper} {a : Act} {w : World} {Q : Exit → Act → World → Prop} (hw : Region.wanted o (yielded ops a.tmps) = true) (ty : TypeId) (x : Operand) (ho : o.op = .load ty x)
    (b T n : Nat) (f : Nat → Value) (hx : a.eval x = .pointer (some ⟨b, 0, none⟩)) (hr : Row w b T n f) (d : TypeDesc) (hu : P.underlying ty = some d) (hd : (match d with | .struct _ | .array _ _ => true | _ => false) = true)
    (hi : (P.info? ty).map (·.size) = some n) (h : wpList P ops Q rest (a.put o.dst (.agg (rowC n f))) w) : wpList P ops Q (o :: rest) a w :=
  BigFrame.wpList_want hw fun _ hK => wp_load_row ty x ho b hx T _ (0, 0) d hr hu hd (by rw [hi, rowC_size]) (hK _ _ h)

theorem eqE (w : World) : (binOp .eql 32 (.agg #[.int .u8 197, .int .u8 210, .int .u8 70, .int .u8 1, .int .u8 134, .int .u8 247, .int .u8 35, .int .u8 60, .int .u8 146, .int .u8 126, .int .u8 125, .int .u8 178, .int .u8 220, .int .u8 199, .int .u8 3, .int .u8 192, .int .u8 229, .int .u8 0, .int .u8 182, .int .u8 83, .int .u8 202, .int .u8 130, .int .u8 39, .int .u8 59, .int .u8 123, .int .u8 250, .int .u8 216, .int .u8 4, .int .u8 93, .int .u8 133, .int .u8 164, .int .u8 112]) (.agg #[.int .u8 197, .int .u8 210, .int .u8 70, .int .u8 1, .int .u8 134, .int .u8 247, .int .u8 35, .int .u8 60, .int .u8 146, .int .u8 126, .int .u8 125, .int .u8 178, .int .u8 220, .int .u8 199, .int .u8 3, .int .u8 192, .int .u8 229, .int .u8 0, .int .u8 182, .int .u8 83, .int .u8 202, .int .u8 130, .int .u8 39, .int .u8 59, .int .u8 123, .int .u8 250, .int .u8 216, .int .u8 4, .int .u8 93, .int .u8 133, .int .u8 164, .int .u8 112])).run Sadg.prog w = .ok (.bool true) w := by kernel_rfl
theorem eqA (w : World) : (binOp .eql 32 (.agg #[.int .u8 78, .int .u8 3, .int .u8 101, .int .u8 122, .int .u8 234, .int .u8 69, .int .u8 169, .int .u8 79, .int .u8 199, .int .u8 212, .int .u8 123, .int .u8 168, .int .u8 38, .int .u8 200, .int .u8 214, .int .u8 103, .int .u8 192, .int .u8 209, .int .u8 230, .int .u8 227, .int .u8 58, .int .u8 100, .int .u8 160, .int .u8 54, .int .u8 236, .int .u8 68, .int .u8 245, .int .u8 143, .int .u8 161, .int .u8 45, .int .u8 108, .int .u8 69]) (.agg #[.int .u8 78, .int .u8 3, .int .u8 101, .int .u8 122, .int .u8 234, .int .u8 69, .int .u8 169, .int .u8 79, .int .u8 199, .int .u8 212, .int .u8 123, .int .u8 168, .int .u8 38, .int .u8 200, .int .u8 214, .int .u8 103, .int .u8 192, .int .u8 209, .int .u8 230, .int .u8 227, .int .u8 58, .int .u8 100, .int .u8 160, .int .u8 54, .int .u8 236, .int .u8 68, .int .u8 245, .int .u8 143, .int .u8 161, .int .u8 45, .int .u8 108, .int .u8 69])).run Sadg.prog w = .ok (.bool true) w := by kernel_rfl

set_option maxRecDepth 20000 in
theorem holds13 (w : World) (fe fa : Nat → Value) (he : rowC 32 fe = #[.int .u8 197, .int .u8 210, .int .u8 70, .int .u8 1, .int .u8 134, .int .u8 247, .int .u8 35, .int .u8 60, .int .u8 146, .int .u8 126, .int .u8 125, .int .u8 178, .int .u8 220, .int .u8 199, .int .u8 3, .int .u8 192, .int .u8 229, .int .u8 0, .int .u8 182, .int .u8 83, .int .u8 202, .int .u8 130, .int .u8 39, .int .u8 59, .int .u8 123, .int .u8 250, .int .u8 216, .int .u8 4, .int .u8 93, .int .u8 133, .int .u8 164, .int .u8 112]) (ha : rowC 32 fa = #[.int .u8 78, .int .u8 3, .int .u8 101, .int .u8 122, .int .u8 234, .int .u8 69, .int .u8 169, .int .u8 79, .int .u8 199, .int .u8 212, .int .u8 123, .int .u8 168, .int .u8 38, .int .u8 200, .int .u8 214, .int .u8 103, .int .u8 192, .int .u8 209, .int .u8 230, .int .u8 227, .int .u8 58, .int .u8 100, .int .u8 160, .int .u8 54, .int .u8 236, .int .u8 68, .int .u8 245, .int .u8 143, .int .u8 161, .int .u8 45, .int .u8 108, .int .u8 69]) (oe : ∀ i, (fe i).oneCell' = true) (oa : ∀ i, (fa i).oneCell' = true) :
    Calls Sadg.prog 13 #[.agg (rowC 32 fe), .agg (rowC 32 fa)] w fun e w' => e = .returned (.bool true) ∧ Only [] w w' := by
  have q1 : ∀ w : World, (binOp .eql 32 (.agg (rowC 32 fe)) (.agg (rowC 32 fe))).run Sadg.prog w = .ok (.bool true) w := fun w => by rw [he]; exact eqE w
  have q2 : ∀ w : World, (binOp .eql 32 (.agg (rowC 32 fa)) (.agg (rowC 32 fa))).run Sadg.prog w = .ok (.bool true) w := fun w => by rw [ha]; exact eqA w
  have HE := hide' he
  have HA := hide' ha
  clear he ha
  have tok1 : True := trivial
  have tok2 : True := trivial
  go_enter Sadg.func13, Sadg.ntmps13
  go_wp2_with (first
    | (refine wpl_box rfl 32 (.tmp 0) rfl 32 _ rfl ?_; intro w1 b1 hb1 hc1 hrow1 honly1; go_simp)
    | (refine wpl_box rfl 32 (.tmp 1) rfl 32 _ rfl ?_; intro w2 b2 hb2 hc2 hrow2 honly2; go_simp)
    | (have _t := tok1; refine wpl_build rfl 32 _ rfl (rowC 32 fe) (by rw [HE.out]; kernel_rfl) ?_; clear tok1; go_simp)
    | (refine wpl_build rfl 32 _ rfl (rowC 32 fa) (by rw [HA.out]; kernel_rfl) ?_; go_simp)
    | (have _t := tok2; refine wpl_alloc rfl 32 rfl 32 _ zero32 ?_; intro w3 b3 hb3 hc3 hrow3 honly3; clear tok2; go_simp)
    | (refine wpl_store rfl 32 (.tmp 5) (.tmp 7) rfl b3 32 32 _ fe rfl rfl hrow3 size32 oe ?_; intro w4 hrow4 honly4; go_simp)
    | (refine wpl_alloc rfl 32 rfl 32 _ zero32 ?_; intro w5 b5 hb5 hc5 hrow5 honly5; go_simp)
    | (refine wpl_store rfl 32 (.tmp 6) (.tmp 8) rfl b5 32 32 _ fa rfl rfl hrow5 size32 oa ?_; intro w6 hrow6 honly6; have h1' : Row w6 b1 32 32 fe := honly6.row (honly5.row (honly4.row (honly3.row (honly2.row hrow1 (by simp)) (by simp)) (by simp; omega)) (by simp)) (by have := honly3.size; have := honly4.size; simp; omega); have h2' : Row w6 b2 32 32 fa := honly6.row (honly5.row (honly4.row (honly3.row hrow2 (by simp)) (by simp; omega)) (by simp)) (by have := honly3.size; have := honly4.size; simp; omega); have h3' : Row w6 b3 32 32 fe := honly6.row (honly5.row hrow4 (by simp)) (by have := honly4.size; simp; omega); go_simp)
    | (refine wpl_load rfl 32 (.tmp 2) rfl b1 32 32 fe rfl h1' _ Sadg.underlying32 rfl size32 ?_; go_simp)
    | (refine wpl_load rfl 32 (.tmp 5) rfl b3 32 32 fe rfl h3' _ Sadg.underlying32 rfl size32 ?_; go_simp)
    | (refine wpl_loadG (by rfl) 32 (.tmp 3) rfl b2 32 32 fa rfl h2' _ Sadg.underlying32 rfl size32 ?_; go_simp)
    | (refine wpl_loadG (by rfl) 32 (.tmp 6) rfl b5 32 32 fa rfl hrow6 _ Sadg.underlying32 rfl size32 ?_; go_simp))
  go_ret
  have z1 := honly1.size
  have z2 := honly2.size
  have z3 := honly3.size
  have z4 := honly4.size
  refine ⟨rfl, ((((honly1.trans honly2).trans honly3).step honly4 ?_).trans honly5).step honly6 ?_⟩
  · intro b hb
    simp at hb
    right; omega
  · intro b hb
    simp at hb
    right; omega

set_option maxRecDepth 20000 in
theorem walk (w : World) :
    Calls Sadg.prog 6 #[] w fun e w' => e = .returned (.bool true) ∧ Below w.heap.size w w' := by
  have kc := fun (w : World) (C : Array Value) (n c : Nat) => Lib.run_convert_bytes_const (P := Sadg.prog) w 30 5 C n c Sadg.underlying30 Sadg.underlying5
  go_enter Sadg.func6, Sadg.ntmps6
  go_wp2_with fail
  refine (ksum14 _ none 0 0 de ⟨Nat.le_refl _, by unfold maxLen; omega, fun h => absurd h (by omega)⟩ (by omega)).mono ?_
  rintro e w1 ⟨rfl, honly1⟩
  generalize hfe : byteV (outB (spongeL de 0)) = fe
  have HE : Hid (fe = byteV (outB (spongeL de 0))) := hfe.symm
  clear hfe
  go_wp2_with fail
  refine (ksum14 _ (some ⟨w1.heap.size, 0, none⟩) 3 3 da ⟨Nat.le_refl _, by unfold maxLen; omega, fun _ => ⟨w1.heap.size, 0, rfl, ?_⟩⟩ (by omega)).mono ?_
  · intro j hj
    unfold World.cell?
    simp only
    rw [heap_alloc_new]
    match j, hj with
    | 0, _ => rfl
    | 1, _ => rfl
    | 2, _ => rfl
    | _ + 3, h => exact absurd h (by omega)
  rintro e w2 ⟨rfl, honly2⟩
  generalize hfa : byteV (outB (spongeL da 3)) = fa
  have HA : Hid (fa = byteV (outB (spongeL da 3))) := hfa.symm
  clear hfa
  have hon2 := (honly1.alloc _).trans honly2
  clear honly1 honly2 kc
  go_wp2_with fail
  refine (holds13 _ fe fa ?_ ?_ ?_ ?_).mono ?_
  · rw [HE.out]; exact knowne
  · rw [HA.out]; exact knowna
  · intro i; rw [HE.out]; rfl
  · intro i; rw [HA.out]; rfl
  rintro e w3 ⟨rfl, honly3⟩
  go_wp2
  go_ret
  exact ⟨rfl, (hon2.trans honly3).below (by simp)⟩

set_option maxRecDepth 100000 in
theorem lifted (os : Os) (started : os.Started) (H : Type) (enc : TypeId × Value → H) :
    ReturnsInHanded {} Sadg.checked os 6 .any (Rows.hashKnownSpec.pre6 enc Sadg.prog Sadg.f6 Rows.hashKnownRow.domain false) (Rows.hashKnownSpec.post enc Sadg.prog Sadg.f6 false true false false) := by
  refine returnsInHanded_of_change (C := Sadg.checked) own started (by kernel_rfl) Sadg.func6
    (ChangeSpec.witness6 (enc := enc) (C := Sadg.checked) false ⟨#[], #[], []⟩ 8 (by kernel_rfl) (by kernel_rfl) (by kernel_rfl) (by kernel_rfl)) ?_
  intro W base args ds gs before hval0 hW hcnd _
  have hval : ∀ (j : Nat) t v, Sadg.f6.params[j]? = some t → args[j]? = some v → Value.okWide Sadg.prog W .any base t v := hval0
  have hW' := hW
  obtain ⟨p, q, hA0, hV, rfl, hfz, hnd⟩ := hW
  have hA : DataW.TrodAll enc Sadg.prog W 0 (fun _ => true) true Sadg.f6.params.toList args.toList ds p := hA0
  rw [Sadg.params6] at hA hval
  obtain ⟨rfl, rfl, rfl⟩ := trodAll_none hA
  obtain ⟨rfl, rfl⟩ := trodVars_none hV
  clear hA0 hval0
  simp only [List.append_nil] at hW'
  refine (walk W).mono fun e W' ⟨he, bel⟩ => ?_
  subst he
  exact ⟨_, rfl, _, _, _, [], [], [], hW', trodAll_mk1 (shut_bool Sadg.underlying4 _), trodAll_mk0, rfl, bel.frame _, fun h => by cases h⟩

theorem over : Rows.hashKnownRow.holds Sadg.pinned (OpenSpec.ofChange Rows.hashKnownSpec) :=
  OpenClaim.holds_of_wide 6 Sadg.f6 rfl rfl rfl rfl rfl rfl rfl ⟨rfl, rfl, rfl, rfl, rfl⟩ rfl rfl rfl rfl rfl (by kernel_rfl) Sadg.func6 (by kernel_rfl)
    (of_decide_eq_true (by kernel_rfl)) (by unfold Func.isWrapper; first | (rw [if_pos (by decide +kernel)]; kernel_rfl) | (rw [if_neg (by decide +kernel)]; exact ⟨rfl, rfl⟩))
    (fun os started H enc _ => lifted os started H enc)

end Go.Proofs.Ygcsad.hashKnown
namespace Go.Proofs.Ygcsad
/-- THE STATEMENT. -/
theorem hashKnown_proved : Rows.HashKnownSaid := hashKnown.over
end Go.Proofs.Ygcsad
