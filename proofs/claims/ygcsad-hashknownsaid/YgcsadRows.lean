/-
  No cell of these rows narrows 'for every input' (looked for: loops, veiled, ifaces, maps, wideKeys, modest, calm, conditions, laid).
  DERIVED. THE GIVEN ROWS OF THIS SEAT. 4 by the template 'for every input the law returns true; each argument reads behind the call as it read before'; 0 by the template 'total and deterministic' (their statements: YgcsadTotals.lean).
  GIVEN WITH THE SEED: the statements are not yours to turn. If you find one false, say at which input.
  Laid BY PROGRAM, IN A SANDBOX (cutbox-rows.mjs): the forced cells as the released guide's own fill.sh prints them over the translation 51874cacdd845dcc… (all of the seat's roots in one cut). By AI agents, Wed Nov 11 2026. No macro, syntax, notation, axiom, sorry.
-/
import Derived.Test.YgcsadChecked
import GoSem.Claim
import GoSem.ClaimJoined
import GoSem.ClaimMapViews
import Derived.JoinedTies
import Derived.KernelRfl
namespace Go.Proofs.Ygcsad
/- THE CELL 'sum', in the pinned program and in every row, IS THE sha256 OF THE DUMP (.gsa) THAT YgcsadProg.lean LOADS. Nothing in Lean hashes anything: it is a label: what it is worth is what the hold of that sum in a sandbox is worth. -/
noncomputable def Sadg.pinned : Pinned := { name := "ygcsad", sum := "51874cacdd845dccfa5f8a214aee6c65b2320e751a7780ab9d1cefd5f513366d", checked := Sadg.checked }
namespace Rows
def none {H : Type} : Left H := { results := [], args := [] }

/-- 'law.PermSame': WHATEVER THE INPUT: true; the input reads as it did. -/
def permSameSpec : ChangeSpec := { name := "permSame", fn := fun _ => fun
  | [d] => { results := [.lit (.bool true)], args := [d] }
  | _ => none }
def permSameRow : OpenClaim := { program := "ygcsad", sum := "51874cacdd845dccfa5f8a214aee6c65b2320e751a7780ab9d1cefd5f513366d", func := "yellow/law.PermSame", spec := "permSame", apart := false }
def PermSameSaid : Prop := permSameRow.holds Sadg.pinned (OpenSpec.ofChange permSameSpec)

/-- ITS FALSE NEIGHBOUR: 'it returns false'. Refute it at one input. -/
def permSameWrong : ChangeSpec := { name := "permSame", fn := fun _ => fun
  | [d] => { results := [.lit (.bool false)], args := [d] }
  | _ => none }
def PermSameWrongFalsely : Prop := permSameRow.holds Sadg.pinned (OpenSpec.ofChange permSameWrong)

/-- 'law.HashSame': WHATEVER THE INPUT: true; the input reads as it did. -/
def hashSameSpec : ChangeSpec := { name := "hashSame", fn := fun _ => fun
  | [d] => { results := [.lit (.bool true)], args := [d] }
  | _ => none }
def hashSameRow : OpenClaim := { program := "ygcsad", sum := "51874cacdd845dccfa5f8a214aee6c65b2320e751a7780ab9d1cefd5f513366d", func := "yellow/law.HashSame", spec := "hashSame", apart := false }
def HashSameSaid : Prop := hashSameRow.holds Sadg.pinned (OpenSpec.ofChange hashSameSpec)

/-- ITS FALSE NEIGHBOUR: 'it returns false'. Refute it at one input. -/
def hashSameWrong : ChangeSpec := { name := "hashSame", fn := fun _ => fun
  | [d] => { results := [.lit (.bool false)], args := [d] }
  | _ => none }
def HashSameWrongFalsely : Prop := hashSameRow.holds Sadg.pinned (OpenSpec.ofChange hashSameWrong)

/-- 'law.Sponge': WHATEVER THE INPUT: true; the input reads as it did. -/
def spongeSpec : ChangeSpec := { name := "sponge", fn := fun _ => fun
  | [d] => { results := [.lit (.bool true)], args := [d] }
  | _ => none }
def spongeRow : OpenClaim := { program := "ygcsad", sum := "51874cacdd845dccfa5f8a214aee6c65b2320e751a7780ab9d1cefd5f513366d", func := "yellow/law.Sponge", spec := "sponge", apart := false }
def SpongeSaid : Prop := spongeRow.holds Sadg.pinned (OpenSpec.ofChange spongeSpec)

/-- ITS FALSE NEIGHBOUR: 'it returns false'. Refute it at one input. -/
def spongeWrong : ChangeSpec := { name := "sponge", fn := fun _ => fun
  | [d] => { results := [.lit (.bool false)], args := [d] }
  | _ => none }
def SpongeWrongFalsely : Prop := spongeRow.holds Sadg.pinned (OpenSpec.ofChange spongeWrong)

/-- 'law.HashKnown': WHATEVER THE INPUT: true; the input reads as it did. -/
def hashKnownSpec : ChangeSpec := { name := "hashKnown", fn := fun _ => fun
  | [] => { results := [.lit (.bool true)], args := [] }
  | _ => none }
def hashKnownRow : OpenClaim := { program := "ygcsad", sum := "51874cacdd845dccfa5f8a214aee6c65b2320e751a7780ab9d1cefd5f513366d", func := "yellow/law.HashKnown", spec := "hashKnown", apart := false }
def HashKnownSaid : Prop := hashKnownRow.holds Sadg.pinned (OpenSpec.ofChange hashKnownSpec)

/-- ITS FALSE NEIGHBOUR: 'it returns false'. Refute it at one input. -/
def hashKnownWrong : ChangeSpec := { name := "hashKnown", fn := fun _ => fun
  | [] => { results := [.lit (.bool false)], args := [] }
  | _ => none }
def HashKnownWrongFalsely : Prop := hashKnownRow.holds Sadg.pinned (OpenSpec.ofChange hashKnownWrong)

end Rows
end Go.Proofs.Ygcsad
