/-
  No cell of these rows narrows 'for every input' (looked for: loops, veiled, ifaces, maps, wideKeys, modest, calm, conditions, laid).
  DERIVED. THE GIVEN ROWS OF THIS SEAT. 13 by the template 'for every input the law returns true; each argument reads behind the call as it read before'; 0 by the template 'total and deterministic' (their statements: YtinmllbkdjceaaaTotals.lean).
  GIVEN WITH THE SEED: the statements are not yours to turn. If you find one false, say at which input.
  Laid BY PROGRAM, IN A SANDBOX (cutbox-rows.mjs): the forced cells as the released guide's own fill.sh prints them over the translation 4a4a74b535a19b00… (all of the seat's roots in one cut). By AI agents, Wed Nov 11 2026. No macro, syntax, notation, axiom, sorry.
-/
import Derived.Test.YtinmllbkdjceaaaChecked
import GoSem.Claim
import GoSem.ClaimJoined
import GoSem.ClaimMapViews
import Derived.JoinedTies
import Derived.KernelRfl
namespace Go.Proofs.Ytinmllbkdjceaaa
/- THE CELL 'sum', in the pinned program and in every row, IS THE sha256 OF THE DUMP (.gsa) THAT YtinmllbkdjceaaaProg.lean LOADS. Nothing in Lean hashes anything: it is a label: what it is worth is what the hold of that sum in a sandbox is worth. -/
noncomputable def Try.pinned : Pinned := { name := "ytinmllbkdjceaaa", sum := "4a4a74b535a19b00e1f9da51af527f8f769bb39f17e20dde24f3ca13590b79ff", checked := Try.checked }
namespace Rows
def none {H : Type} : Left H := { results := [], args := [] }

/-- 'sandglasslaw09.ChachaBlocks': WHATEVER THE INPUT: true; the input reads as it did. -/
def chachaBlocksSpec : ChangeSpec := { name := "chachaBlocks", fn := fun _ => fun
  | [d1, d2, d3] => { results := [.lit (.bool true)], args := [d1, d2, d3] }
  | _ => none }
def chachaBlocksRow : OpenClaim := { program := "ytinmllbkdjceaaa", sum := "4a4a74b535a19b00e1f9da51af527f8f769bb39f17e20dde24f3ca13590b79ff", func := "sandglass/sandglasslaw09.ChachaBlocks", spec := "chachaBlocks", apart := false }
def ChachaBlocksSaid : Prop := chachaBlocksRow.holds Try.pinned (OpenSpec.ofChange chachaBlocksSpec)

/-- ITS FALSE NEIGHBOUR: 'it returns false'. Refute it at one input. -/
def chachaBlocksWrong : ChangeSpec := { name := "chachaBlocks", fn := fun _ => fun
  | [d1, d2, d3] => { results := [.lit (.bool false)], args := [d1, d2, d3] }
  | _ => none }
def ChachaBlocksWrongFalsely : Prop := chachaBlocksRow.holds Try.pinned (OpenSpec.ofChange chachaBlocksWrong)

/-- 'sandglasslaw09.ChachaXors': WHATEVER THE INPUT: true; the input reads as it did. -/
def chachaXorsSpec : ChangeSpec := { name := "chachaXors", fn := fun _ => fun
  | [d1, d2] => { results := [.lit (.bool true)], args := [d1, d2] }
  | _ => none }
def chachaXorsRow : OpenClaim := { program := "ytinmllbkdjceaaa", sum := "4a4a74b535a19b00e1f9da51af527f8f769bb39f17e20dde24f3ca13590b79ff", func := "sandglass/sandglasslaw09.ChachaXors", spec := "chachaXors", apart := false }
def ChachaXorsSaid : Prop := chachaXorsRow.holds Try.pinned (OpenSpec.ofChange chachaXorsSpec)

/-- ITS FALSE NEIGHBOUR: 'it returns false'. Refute it at one input. -/
def chachaXorsWrong : ChangeSpec := { name := "chachaXors", fn := fun _ => fun
  | [d1, d2] => { results := [.lit (.bool false)], args := [d1, d2] }
  | _ => none }
def ChachaXorsWrongFalsely : Prop := chachaXorsRow.holds Try.pinned (OpenSpec.ofChange chachaXorsWrong)

/-- 'sandglasslaw09.ChachaTwice': WHATEVER THE INPUT: true; the input reads as it did. -/
def chachaTwiceSpec : ChangeSpec := { name := "chachaTwice", fn := fun _ => fun
  | [d1, d2] => { results := [.lit (.bool true)], args := [d1, d2] }
  | _ => none }
def chachaTwiceRow : OpenClaim := { program := "ytinmllbkdjceaaa", sum := "4a4a74b535a19b00e1f9da51af527f8f769bb39f17e20dde24f3ca13590b79ff", func := "sandglass/sandglasslaw09.ChachaTwice", spec := "chachaTwice", apart := false }
def ChachaTwiceSaid : Prop := chachaTwiceRow.holds Try.pinned (OpenSpec.ofChange chachaTwiceSpec)

/-- ITS FALSE NEIGHBOUR: 'it returns false'. Refute it at one input. -/
def chachaTwiceWrong : ChangeSpec := { name := "chachaTwice", fn := fun _ => fun
  | [d1, d2] => { results := [.lit (.bool false)], args := [d1, d2] }
  | _ => none }
def ChachaTwiceWrongFalsely : Prop := chachaTwiceRow.holds Try.pinned (OpenSpec.ofChange chachaTwiceWrong)

/-- 'sandglasslaw09.ChachaParts': WHATEVER THE INPUT: true; the input reads as it did. -/
def chachaPartsSpec : ChangeSpec := { name := "chachaParts", fn := fun _ => fun
  | [d1, d2] => { results := [.lit (.bool true)], args := [d1, d2] }
  | _ => none }
def chachaPartsRow : OpenClaim := { program := "ytinmllbkdjceaaa", sum := "4a4a74b535a19b00e1f9da51af527f8f769bb39f17e20dde24f3ca13590b79ff", func := "sandglass/sandglasslaw09.ChachaParts", spec := "chachaParts", apart := false }
def ChachaPartsSaid : Prop := chachaPartsRow.holds Try.pinned (OpenSpec.ofChange chachaPartsSpec)

/-- ITS FALSE NEIGHBOUR: 'it returns false'. Refute it at one input. -/
def chachaPartsWrong : ChangeSpec := { name := "chachaParts", fn := fun _ => fun
  | [d1, d2] => { results := [.lit (.bool false)], args := [d1, d2] }
  | _ => none }
def ChachaPartsWrongFalsely : Prop := chachaPartsRow.holds Try.pinned (OpenSpec.ofChange chachaPartsWrong)

/-- 'sandglasslaw10.PolyMacs': WHATEVER THE INPUT: true; the input reads as it did. -/
def polyMacsSpec : ChangeSpec := { name := "polyMacs", fn := fun _ => fun
  | [d1, d2] => { results := [.lit (.bool true)], args := [d1, d2] }
  | _ => none }
def polyMacsRow : OpenClaim := { program := "ytinmllbkdjceaaa", sum := "4a4a74b535a19b00e1f9da51af527f8f769bb39f17e20dde24f3ca13590b79ff", func := "sandglass/sandglasslaw10.PolyMacs", spec := "polyMacs", inPlace := ["math/bits.Add64", "math/bits.Sub64"], apart := false }
def PolyMacsSaid : Prop := polyMacsRow.holds Try.pinned (OpenSpec.ofChange polyMacsSpec)

/-- ITS FALSE NEIGHBOUR: 'it returns false'. Refute it at one input. -/
def polyMacsWrong : ChangeSpec := { name := "polyMacs", fn := fun _ => fun
  | [d1, d2] => { results := [.lit (.bool false)], args := [d1, d2] }
  | _ => none }
def PolyMacsWrongFalsely : Prop := polyMacsRow.holds Try.pinned (OpenSpec.ofChange polyMacsWrong)

/-- 'sandglasslaw10.PolyClamps': WHATEVER THE INPUT: true; the input reads as it did. -/
def polyClampsSpec : ChangeSpec := { name := "polyClamps", fn := fun _ => fun
  | [d] => { results := [.lit (.bool true)], args := [d] }
  | _ => none }
def polyClampsRow : OpenClaim := { program := "ytinmllbkdjceaaa", sum := "4a4a74b535a19b00e1f9da51af527f8f769bb39f17e20dde24f3ca13590b79ff", func := "sandglass/sandglasslaw10.PolyClamps", spec := "polyClamps", inPlace := ["math/bits.Add64", "math/bits.Sub64"], apart := false }
def PolyClampsSaid : Prop := polyClampsRow.holds Try.pinned (OpenSpec.ofChange polyClampsSpec)

/-- ITS FALSE NEIGHBOUR: 'it returns false'. Refute it at one input. -/
def polyClampsWrong : ChangeSpec := { name := "polyClamps", fn := fun _ => fun
  | [d] => { results := [.lit (.bool false)], args := [d] }
  | _ => none }
def PolyClampsWrongFalsely : Prop := polyClampsRow.holds Try.pinned (OpenSpec.ofChange polyClampsWrong)

/-- 'sandglasslaw10.PolyClamped': WHATEVER THE INPUT: true; the input reads as it did. -/
def polyClampedSpec : ChangeSpec := { name := "polyClamped", fn := fun _ => fun
  | [d1, d2] => { results := [.lit (.bool true)], args := [d1, d2] }
  | _ => none }
def polyClampedRow : OpenClaim := { program := "ytinmllbkdjceaaa", sum := "4a4a74b535a19b00e1f9da51af527f8f769bb39f17e20dde24f3ca13590b79ff", func := "sandglass/sandglasslaw10.PolyClamped", spec := "polyClamped", inPlace := ["math/bits.Add64", "math/bits.Sub64"], apart := false }
def PolyClampedSaid : Prop := polyClampedRow.holds Try.pinned (OpenSpec.ofChange polyClampedSpec)

/-- ITS FALSE NEIGHBOUR: 'it returns false'. Refute it at one input. -/
def polyClampedWrong : ChangeSpec := { name := "polyClamped", fn := fun _ => fun
  | [d1, d2] => { results := [.lit (.bool false)], args := [d1, d2] }
  | _ => none }
def PolyClampedWrongFalsely : Prop := polyClampedRow.holds Try.pinned (OpenSpec.ofChange polyClampedWrong)

/-- 'sandglasslaw10.PolyAdds': WHATEVER THE INPUT: true; the input reads as it did. -/
def polyAddsSpec : ChangeSpec := { name := "polyAdds", fn := fun _ => fun
  | [d1, d2, d3] => { results := [.lit (.bool true)], args := [d1, d2, d3] }
  | _ => none }
def polyAddsRow : OpenClaim := { program := "ytinmllbkdjceaaa", sum := "4a4a74b535a19b00e1f9da51af527f8f769bb39f17e20dde24f3ca13590b79ff", func := "sandglass/sandglasslaw10.PolyAdds", spec := "polyAdds", inPlace := ["math/bits.Add64", "math/bits.Sub64"], apart := false }
def PolyAddsSaid : Prop := polyAddsRow.holds Try.pinned (OpenSpec.ofChange polyAddsSpec)

/-- ITS FALSE NEIGHBOUR: 'it returns false'. Refute it at one input. -/
def polyAddsWrong : ChangeSpec := { name := "polyAdds", fn := fun _ => fun
  | [d1, d2, d3] => { results := [.lit (.bool false)], args := [d1, d2, d3] }
  | _ => none }
def PolyAddsWrongFalsely : Prop := polyAddsRow.holds Try.pinned (OpenSpec.ofChange polyAddsWrong)

/-- 'sandglasslaw11.AeadSeals': WHATEVER THE INPUT: true; the input reads as it did. -/
def aeadSealsSpec : ChangeSpec := { name := "aeadSeals", fn := fun _ => fun
  | [d1, d2] => { results := [.lit (.bool true)], args := [d1, d2] }
  | _ => none }
def aeadSealsRow : OpenClaim := { program := "ytinmllbkdjceaaa", sum := "4a4a74b535a19b00e1f9da51af527f8f769bb39f17e20dde24f3ca13590b79ff", func := "sandglass/sandglasslaw11.AeadSeals", spec := "aeadSeals", inPlace := ["math/bits.Add64", "math/bits.Sub64"], unfollowed := true, recurses := true, apart := false }
def AeadSealsSaid : Prop := aeadSealsRow.holds Try.pinned (OpenSpec.ofChange aeadSealsSpec)

/-- ITS FALSE NEIGHBOUR: 'it returns false'. Refute it at one input. -/
def aeadSealsWrong : ChangeSpec := { name := "aeadSeals", fn := fun _ => fun
  | [d1, d2] => { results := [.lit (.bool false)], args := [d1, d2] }
  | _ => none }
def AeadSealsWrongFalsely : Prop := aeadSealsRow.holds Try.pinned (OpenSpec.ofChange aeadSealsWrong)

/-- 'sandglasslaw11.AeadOpens': WHATEVER THE INPUT: true; the input reads as it did. -/
def aeadOpensSpec : ChangeSpec := { name := "aeadOpens", fn := fun _ => fun
  | [d1, d2] => { results := [.lit (.bool true)], args := [d1, d2] }
  | _ => none }
def aeadOpensRow : OpenClaim := { program := "ytinmllbkdjceaaa", sum := "4a4a74b535a19b00e1f9da51af527f8f769bb39f17e20dde24f3ca13590b79ff", func := "sandglass/sandglasslaw11.AeadOpens", spec := "aeadOpens", inPlace := ["math/bits.Add64", "math/bits.Sub64"], unfollowed := true, recurses := true, apart := false }
def AeadOpensSaid : Prop := aeadOpensRow.holds Try.pinned (OpenSpec.ofChange aeadOpensSpec)

/-- ITS FALSE NEIGHBOUR: 'it returns false'. Refute it at one input. -/
def aeadOpensWrong : ChangeSpec := { name := "aeadOpens", fn := fun _ => fun
  | [d1, d2] => { results := [.lit (.bool false)], args := [d1, d2] }
  | _ => none }
def AeadOpensWrongFalsely : Prop := aeadOpensRow.holds Try.pinned (OpenSpec.ofChange aeadOpensWrong)

/-- 'sandglasslaw11.AeadBack': WHATEVER THE INPUT: true; the input reads as it did. -/
def aeadBackSpec : ChangeSpec := { name := "aeadBack", fn := fun _ => fun
  | [d1, d2] => { results := [.lit (.bool true)], args := [d1, d2] }
  | _ => none }
def aeadBackRow : OpenClaim := { program := "ytinmllbkdjceaaa", sum := "4a4a74b535a19b00e1f9da51af527f8f769bb39f17e20dde24f3ca13590b79ff", func := "sandglass/sandglasslaw11.AeadBack", spec := "aeadBack", inPlace := ["math/bits.Add64", "math/bits.Sub64"], unfollowed := true, recurses := true, apart := false }
def AeadBackSaid : Prop := aeadBackRow.holds Try.pinned (OpenSpec.ofChange aeadBackSpec)

/-- ITS FALSE NEIGHBOUR: 'it returns false'. Refute it at one input. -/
def aeadBackWrong : ChangeSpec := { name := "aeadBack", fn := fun _ => fun
  | [d1, d2] => { results := [.lit (.bool false)], args := [d1, d2] }
  | _ => none }
def AeadBackWrongFalsely : Prop := aeadBackRow.holds Try.pinned (OpenSpec.ofChange aeadBackWrong)

/-- 'sandglasslaw11.AeadTag': WHATEVER THE INPUT: true; the input reads as it did. -/
def aeadTagSpec : ChangeSpec := { name := "aeadTag", fn := fun _ => fun
  | [d1, d2, d3] => { results := [.lit (.bool true)], args := [d1, d2, d3] }
  | _ => none }
def aeadTagRow : OpenClaim := { program := "ytinmllbkdjceaaa", sum := "4a4a74b535a19b00e1f9da51af527f8f769bb39f17e20dde24f3ca13590b79ff", func := "sandglass/sandglasslaw11.AeadTag", spec := "aeadTag", inPlace := ["math/bits.Add64", "math/bits.Sub64"], unfollowed := true, recurses := true, apart := false }
def AeadTagSaid : Prop := aeadTagRow.holds Try.pinned (OpenSpec.ofChange aeadTagSpec)

/-- ITS FALSE NEIGHBOUR: 'it returns false'. Refute it at one input. -/
def aeadTagWrong : ChangeSpec := { name := "aeadTag", fn := fun _ => fun
  | [d1, d2, d3] => { results := [.lit (.bool false)], args := [d1, d2, d3] }
  | _ => none }
def AeadTagWrongFalsely : Prop := aeadTagRow.holds Try.pinned (OpenSpec.ofChange aeadTagWrong)

/-- 'sandglasslaw11.AeadStream': WHATEVER THE INPUT: true; the input reads as it did. -/
def aeadStreamSpec : ChangeSpec := { name := "aeadStream", fn := fun _ => fun
  | [d1, d2, d3] => { results := [.lit (.bool true)], args := [d1, d2, d3] }
  | _ => none }
def aeadStreamRow : OpenClaim := { program := "ytinmllbkdjceaaa", sum := "4a4a74b535a19b00e1f9da51af527f8f769bb39f17e20dde24f3ca13590b79ff", func := "sandglass/sandglasslaw11.AeadStream", spec := "aeadStream", inPlace := ["math/bits.Add64", "math/bits.Sub64"], unfollowed := true, recurses := true, apart := false }
def AeadStreamSaid : Prop := aeadStreamRow.holds Try.pinned (OpenSpec.ofChange aeadStreamSpec)

/-- ITS FALSE NEIGHBOUR: 'it returns false'. Refute it at one input. -/
def aeadStreamWrong : ChangeSpec := { name := "aeadStream", fn := fun _ => fun
  | [d1, d2, d3] => { results := [.lit (.bool false)], args := [d1, d2, d3] }
  | _ => none }
def AeadStreamWrongFalsely : Prop := aeadStreamRow.holds Try.pinned (OpenSpec.ofChange aeadStreamWrong)

/- THE SECOND FORM. 'bulk': how many values and letters a reading holds, each counted each time it is reached (what is shared counts as often as it is met; a slice's spare places count too). A statement '..UptoSaid' is the law's where the arguments, and the package variables that the reading takes, are together of bulk at most 1048576: NARROWER than '..Said'. Prove '..Said' where nothing that the law and all that it calls make is longer than what came in: it says more and counts as full. Else prove '..UptoSaid'. A law counts once. -/
mutual
def uptoBulk {H : Type} : DataW H → Nat
  | .lit (.string bytes) => bytes.length + 1
  | .lit _ => 1
  | .nil => 1
  | .ptr d => uptoBulk d + 1
  | .slice elems spare => uptoBulkAll elems + uptoBulkAll spare + 1
  | .agg parts => uptoBulkAll parts + 1
  | .iface _ d => uptoBulk d + 1
  | .map entries => uptoBulkEntries entries + 1
  | .held _ => 1
def uptoBulkAll {H : Type} : List (DataW H) → Nat
  | [] => 0
  | d :: r => uptoBulk d + uptoBulkAll r
def uptoBulkEntries {H : Type} : List (Lit × DataW H) → Nat
  | [] => 0
  | x :: r => uptoBulkEntry x + uptoBulkEntries r
def uptoBulkEntry {H : Type} : Lit × DataW H → Nat
  | (.string bytes, d) => bytes.length + uptoBulk d + 1
  | (_, d) => uptoBulk d + 1
 end
def uptoSmall : (H : Type) → List (DataW H) → Bool := fun _ ds => decide (uptoBulkAll ds ≤ 1048576)
def OpenSpec.upto (s : _root_.Go.ChangeSpec) : _root_.Go.OpenSpec := { _root_.Go.OpenSpec.ofChange s with cond := some uptoSmall }

/-- 'sandglasslaw09.ChachaBlocks', WHERE WHAT IT READS IS OF BULK AT MOST 1048576: true; the input reads as it did. -/
def chachaBlocksUptoRow : OpenClaim := { program := "ytinmllbkdjceaaa", sum := "4a4a74b535a19b00e1f9da51af527f8f769bb39f17e20dde24f3ca13590b79ff", func := "sandglass/sandglasslaw09.ChachaBlocks", spec := "chachaBlocks", apart := false, narrowed := true }
def ChachaBlocksUptoSaid : Prop := chachaBlocksUptoRow.holds Try.pinned (OpenSpec.upto chachaBlocksSpec)

/-- 'sandglasslaw09.ChachaXors', WHERE WHAT IT READS IS OF BULK AT MOST 1048576: true; the input reads as it did. -/
def chachaXorsUptoRow : OpenClaim := { program := "ytinmllbkdjceaaa", sum := "4a4a74b535a19b00e1f9da51af527f8f769bb39f17e20dde24f3ca13590b79ff", func := "sandglass/sandglasslaw09.ChachaXors", spec := "chachaXors", apart := false, narrowed := true }
def ChachaXorsUptoSaid : Prop := chachaXorsUptoRow.holds Try.pinned (OpenSpec.upto chachaXorsSpec)

/-- 'sandglasslaw09.ChachaTwice', WHERE WHAT IT READS IS OF BULK AT MOST 1048576: true; the input reads as it did. -/
def chachaTwiceUptoRow : OpenClaim := { program := "ytinmllbkdjceaaa", sum := "4a4a74b535a19b00e1f9da51af527f8f769bb39f17e20dde24f3ca13590b79ff", func := "sandglass/sandglasslaw09.ChachaTwice", spec := "chachaTwice", apart := false, narrowed := true }
def ChachaTwiceUptoSaid : Prop := chachaTwiceUptoRow.holds Try.pinned (OpenSpec.upto chachaTwiceSpec)

/-- 'sandglasslaw09.ChachaParts', WHERE WHAT IT READS IS OF BULK AT MOST 1048576: true; the input reads as it did. -/
def chachaPartsUptoRow : OpenClaim := { program := "ytinmllbkdjceaaa", sum := "4a4a74b535a19b00e1f9da51af527f8f769bb39f17e20dde24f3ca13590b79ff", func := "sandglass/sandglasslaw09.ChachaParts", spec := "chachaParts", apart := false, narrowed := true }
def ChachaPartsUptoSaid : Prop := chachaPartsUptoRow.holds Try.pinned (OpenSpec.upto chachaPartsSpec)

/-- 'sandglasslaw10.PolyMacs', WHERE WHAT IT READS IS OF BULK AT MOST 1048576: true; the input reads as it did. -/
def polyMacsUptoRow : OpenClaim := { program := "ytinmllbkdjceaaa", sum := "4a4a74b535a19b00e1f9da51af527f8f769bb39f17e20dde24f3ca13590b79ff", func := "sandglass/sandglasslaw10.PolyMacs", spec := "polyMacs", inPlace := ["math/bits.Add64", "math/bits.Sub64"], apart := false, narrowed := true }
def PolyMacsUptoSaid : Prop := polyMacsUptoRow.holds Try.pinned (OpenSpec.upto polyMacsSpec)

/-- 'sandglasslaw10.PolyClamps', WHERE WHAT IT READS IS OF BULK AT MOST 1048576: true; the input reads as it did. -/
def polyClampsUptoRow : OpenClaim := { program := "ytinmllbkdjceaaa", sum := "4a4a74b535a19b00e1f9da51af527f8f769bb39f17e20dde24f3ca13590b79ff", func := "sandglass/sandglasslaw10.PolyClamps", spec := "polyClamps", inPlace := ["math/bits.Add64", "math/bits.Sub64"], apart := false, narrowed := true }
def PolyClampsUptoSaid : Prop := polyClampsUptoRow.holds Try.pinned (OpenSpec.upto polyClampsSpec)

/-- 'sandglasslaw10.PolyClamped', WHERE WHAT IT READS IS OF BULK AT MOST 1048576: true; the input reads as it did. -/
def polyClampedUptoRow : OpenClaim := { program := "ytinmllbkdjceaaa", sum := "4a4a74b535a19b00e1f9da51af527f8f769bb39f17e20dde24f3ca13590b79ff", func := "sandglass/sandglasslaw10.PolyClamped", spec := "polyClamped", inPlace := ["math/bits.Add64", "math/bits.Sub64"], apart := false, narrowed := true }
def PolyClampedUptoSaid : Prop := polyClampedUptoRow.holds Try.pinned (OpenSpec.upto polyClampedSpec)

/-- 'sandglasslaw10.PolyAdds', WHERE WHAT IT READS IS OF BULK AT MOST 1048576: true; the input reads as it did. -/
def polyAddsUptoRow : OpenClaim := { program := "ytinmllbkdjceaaa", sum := "4a4a74b535a19b00e1f9da51af527f8f769bb39f17e20dde24f3ca13590b79ff", func := "sandglass/sandglasslaw10.PolyAdds", spec := "polyAdds", inPlace := ["math/bits.Add64", "math/bits.Sub64"], apart := false, narrowed := true }
def PolyAddsUptoSaid : Prop := polyAddsUptoRow.holds Try.pinned (OpenSpec.upto polyAddsSpec)

/-- 'sandglasslaw11.AeadSeals', WHERE WHAT IT READS IS OF BULK AT MOST 1048576: true; the input reads as it did. -/
def aeadSealsUptoRow : OpenClaim := { program := "ytinmllbkdjceaaa", sum := "4a4a74b535a19b00e1f9da51af527f8f769bb39f17e20dde24f3ca13590b79ff", func := "sandglass/sandglasslaw11.AeadSeals", spec := "aeadSeals", inPlace := ["math/bits.Add64", "math/bits.Sub64"], unfollowed := true, recurses := true, apart := false, narrowed := true }
def AeadSealsUptoSaid : Prop := aeadSealsUptoRow.holds Try.pinned (OpenSpec.upto aeadSealsSpec)

/-- 'sandglasslaw11.AeadOpens', WHERE WHAT IT READS IS OF BULK AT MOST 1048576: true; the input reads as it did. -/
def aeadOpensUptoRow : OpenClaim := { program := "ytinmllbkdjceaaa", sum := "4a4a74b535a19b00e1f9da51af527f8f769bb39f17e20dde24f3ca13590b79ff", func := "sandglass/sandglasslaw11.AeadOpens", spec := "aeadOpens", inPlace := ["math/bits.Add64", "math/bits.Sub64"], unfollowed := true, recurses := true, apart := false, narrowed := true }
def AeadOpensUptoSaid : Prop := aeadOpensUptoRow.holds Try.pinned (OpenSpec.upto aeadOpensSpec)

/-- 'sandglasslaw11.AeadBack', WHERE WHAT IT READS IS OF BULK AT MOST 1048576: true; the input reads as it did. -/
def aeadBackUptoRow : OpenClaim := { program := "ytinmllbkdjceaaa", sum := "4a4a74b535a19b00e1f9da51af527f8f769bb39f17e20dde24f3ca13590b79ff", func := "sandglass/sandglasslaw11.AeadBack", spec := "aeadBack", inPlace := ["math/bits.Add64", "math/bits.Sub64"], unfollowed := true, recurses := true, apart := false, narrowed := true }
def AeadBackUptoSaid : Prop := aeadBackUptoRow.holds Try.pinned (OpenSpec.upto aeadBackSpec)

/-- 'sandglasslaw11.AeadTag', WHERE WHAT IT READS IS OF BULK AT MOST 1048576: true; the input reads as it did. -/
def aeadTagUptoRow : OpenClaim := { program := "ytinmllbkdjceaaa", sum := "4a4a74b535a19b00e1f9da51af527f8f769bb39f17e20dde24f3ca13590b79ff", func := "sandglass/sandglasslaw11.AeadTag", spec := "aeadTag", inPlace := ["math/bits.Add64", "math/bits.Sub64"], unfollowed := true, recurses := true, apart := false, narrowed := true }
def AeadTagUptoSaid : Prop := aeadTagUptoRow.holds Try.pinned (OpenSpec.upto aeadTagSpec)

/-- 'sandglasslaw11.AeadStream', WHERE WHAT IT READS IS OF BULK AT MOST 1048576: true; the input reads as it did. -/
def aeadStreamUptoRow : OpenClaim := { program := "ytinmllbkdjceaaa", sum := "4a4a74b535a19b00e1f9da51af527f8f769bb39f17e20dde24f3ca13590b79ff", func := "sandglass/sandglasslaw11.AeadStream", spec := "aeadStream", inPlace := ["math/bits.Add64", "math/bits.Sub64"], unfollowed := true, recurses := true, apart := false, narrowed := true }
def AeadStreamUptoSaid : Prop := aeadStreamUptoRow.holds Try.pinned (OpenSpec.upto aeadStreamSpec)

end Rows
end Go.Proofs.Ytinmllbkdjceaaa
