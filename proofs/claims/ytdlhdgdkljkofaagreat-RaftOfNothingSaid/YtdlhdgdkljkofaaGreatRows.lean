/-
  No cell of these rows narrows 'for every input' (looked for: loops, veiled, ifaces, maps, wideKeys, modest, calm, conditions, laid).
  DERIVED. THE GIVEN ROWS OF THIS SEAT. 6 by the template 'for every input the law returns true; each argument reads behind the call as it read before'; 0 by the template 'total and deterministic' (their statements: YtdlhdgdkljkofaaGreatTotals.lean).
  GIVEN WITH THE SEED: the statements are not yours to turn. If you find one false, say at which input.
  Laid BY PROGRAM, IN A SANDBOX (cutbox-rows.mjs): the forced cells as the released guide's own fill.sh prints them over the translation 770b2068dbfa4370… (all of the seat's roots in one cut). By AI agents, Wed Nov 11 2026. No macro, syntax, notation, axiom, sorry.
-/
import Derived.Test.YtdlhdgdkljkofaaGreatChecked
import GoSem.Claim
import GoSem.ClaimJoined
import GoSem.ClaimMapViews
import Derived.JoinedTies
import Derived.KernelRfl
namespace Go.Proofs.YtdlhdgdkljkofaaGreat
/- THE CELL 'sum', in the pinned program and in every row, IS THE sha256 OF THE DUMP (.gsa) THAT YtdlhdgdkljkofaaGreatProg.lean LOADS. Nothing in Lean hashes anything: it is a label: what it is worth is what the hold of that sum in a sandbox is worth. -/
noncomputable def Tryz.pinned : Pinned := { name := "ytdlhdgdkljkofaagreat", sum := "770b2068dbfa4370e72f733b31363e9f5c064d2690b403f12131b3c76fb3e380", checked := Tryz.checked }
namespace Rows
def none {H : Type} : Left H := { results := [], args := [] }

/-- 'satrapylaw6.RaftAlone': WHATEVER THE INPUT: true; the input reads as it did. -/
def raftAloneSpec : ChangeSpec := { name := "raftAlone", fn := fun _ => fun
  | [d1, d2] => { results := [.lit (.bool true)], args := [d1, d2] }
  | _ => none }
def raftAloneRow : OpenClaim := { program := "ytdlhdgdkljkofaagreat", sum := "770b2068dbfa4370e72f733b31363e9f5c064d2690b403f12131b3c76fb3e380", func := "satrapy/satrapylaw6.RaftAlone", spec := "raftAlone", inPlace := ["internal/bytealg.MakeNoZero"], unfollowed := true, recurses := true, apart := false }
def RaftAloneSaid : Prop := raftAloneRow.holds Tryz.pinned (OpenSpec.ofChange raftAloneSpec)

/-- ITS FALSE NEIGHBOUR: 'it returns false'. Refute it at one input. -/
def raftAloneWrong : ChangeSpec := { name := "raftAlone", fn := fun _ => fun
  | [d1, d2] => { results := [.lit (.bool false)], args := [d1, d2] }
  | _ => none }
def RaftAloneWrongFalsely : Prop := raftAloneRow.holds Tryz.pinned (OpenSpec.ofChange raftAloneWrong)

/-- 'satrapylaw6.RaftAnyBytes': WHATEVER THE INPUT: true; the input reads as it did. -/
def raftAnyBytesSpec : ChangeSpec := { name := "raftAnyBytes", fn := fun _ => fun
  | [d1, d2, d3] => { results := [.lit (.bool true)], args := [d1, d2, d3] }
  | _ => none }
def raftAnyBytesRow : OpenClaim := { program := "ytdlhdgdkljkofaagreat", sum := "770b2068dbfa4370e72f733b31363e9f5c064d2690b403f12131b3c76fb3e380", func := "satrapy/satrapylaw6.RaftAnyBytes", spec := "raftAnyBytes", inPlace := ["internal/bytealg.MakeNoZero"], unfollowed := true, recurses := true, apart := false }
def RaftAnyBytesSaid : Prop := raftAnyBytesRow.holds Tryz.pinned (OpenSpec.ofChange raftAnyBytesSpec)

/-- ITS FALSE NEIGHBOUR: 'it returns false'. Refute it at one input. -/
def raftAnyBytesWrong : ChangeSpec := { name := "raftAnyBytes", fn := fun _ => fun
  | [d1, d2, d3] => { results := [.lit (.bool false)], args := [d1, d2, d3] }
  | _ => none }
def RaftAnyBytesWrongFalsely : Prop := raftAnyBytesRow.holds Tryz.pinned (OpenSpec.ofChange raftAnyBytesWrong)

/-- 'satrapylaw6.RaftThree': WHATEVER THE INPUT: true; the input reads as it did. -/
def raftThreeSpec : ChangeSpec := { name := "raftThree", fn := fun _ => fun
  | [d] => { results := [.lit (.bool true)], args := [d] }
  | _ => none }
def raftThreeRow : OpenClaim := { program := "ytdlhdgdkljkofaagreat", sum := "770b2068dbfa4370e72f733b31363e9f5c064d2690b403f12131b3c76fb3e380", func := "satrapy/satrapylaw6.RaftThree", spec := "raftThree", inPlace := ["internal/bytealg.MakeNoZero"], unfollowed := true, recurses := true, apart := false }
def RaftThreeSaid : Prop := raftThreeRow.holds Tryz.pinned (OpenSpec.ofChange raftThreeSpec)

/-- ITS FALSE NEIGHBOUR: 'it returns false'. Refute it at one input. -/
def raftThreeWrong : ChangeSpec := { name := "raftThree", fn := fun _ => fun
  | [d] => { results := [.lit (.bool false)], args := [d] }
  | _ => none }
def RaftThreeWrongFalsely : Prop := raftThreeRow.holds Tryz.pinned (OpenSpec.ofChange raftThreeWrong)

/-- 'satrapylaw6.RaftBehind': WHATEVER THE INPUT: true; the input reads as it did. -/
def raftBehindSpec : ChangeSpec := { name := "raftBehind", fn := fun _ => fun
  | [d1, d2, d3] => { results := [.lit (.bool true)], args := [d1, d2, d3] }
  | _ => none }
def raftBehindRow : OpenClaim := { program := "ytdlhdgdkljkofaagreat", sum := "770b2068dbfa4370e72f733b31363e9f5c064d2690b403f12131b3c76fb3e380", func := "satrapy/satrapylaw6.RaftBehind", spec := "raftBehind", inPlace := ["internal/bytealg.MakeNoZero"], unfollowed := true, recurses := true, apart := false }
def RaftBehindSaid : Prop := raftBehindRow.holds Tryz.pinned (OpenSpec.ofChange raftBehindSpec)

/-- ITS FALSE NEIGHBOUR: 'it returns false'. Refute it at one input. -/
def raftBehindWrong : ChangeSpec := { name := "raftBehind", fn := fun _ => fun
  | [d1, d2, d3] => { results := [.lit (.bool false)], args := [d1, d2, d3] }
  | _ => none }
def RaftBehindWrongFalsely : Prop := raftBehindRow.holds Tryz.pinned (OpenSpec.ofChange raftBehindWrong)

/-- 'satrapylaw6.RaftOfNothing': WHATEVER THE INPUT: true; the input reads as it did. -/
def raftOfNothingSpec : ChangeSpec := { name := "raftOfNothing", fn := fun _ => fun
  | [d1, d2, d3] => { results := [.lit (.bool true)], args := [d1, d2, d3] }
  | _ => none }
def raftOfNothingRow : OpenClaim := { program := "ytdlhdgdkljkofaagreat", sum := "770b2068dbfa4370e72f733b31363e9f5c064d2690b403f12131b3c76fb3e380", func := "satrapy/satrapylaw6.RaftOfNothing", spec := "raftOfNothing", inPlace := ["internal/bytealg.MakeNoZero"], unfollowed := true, recurses := true, apart := false }
def RaftOfNothingSaid : Prop := raftOfNothingRow.holds Tryz.pinned (OpenSpec.ofChange raftOfNothingSpec)

/-- ITS FALSE NEIGHBOUR: 'it returns false'. Refute it at one input. -/
def raftOfNothingWrong : ChangeSpec := { name := "raftOfNothing", fn := fun _ => fun
  | [d1, d2, d3] => { results := [.lit (.bool false)], args := [d1, d2, d3] }
  | _ => none }
def RaftOfNothingWrongFalsely : Prop := raftOfNothingRow.holds Tryz.pinned (OpenSpec.ofChange raftOfNothingWrong)

/-- 'satrapylaw6.RaftPlays': WHATEVER THE INPUT: true; the input reads as it did. -/
def raftPlaysSpec : ChangeSpec := { name := "raftPlays", fn := fun _ => fun
  | [d1, d2] => { results := [.lit (.bool true)], args := [d1, d2] }
  | _ => none }
def raftPlaysRow : OpenClaim := { program := "ytdlhdgdkljkofaagreat", sum := "770b2068dbfa4370e72f733b31363e9f5c064d2690b403f12131b3c76fb3e380", func := "satrapy/satrapylaw6.RaftPlays", spec := "raftPlays", inPlace := ["internal/bytealg.MakeNoZero"], unfollowed := true, recurses := true, apart := false }
def RaftPlaysSaid : Prop := raftPlaysRow.holds Tryz.pinned (OpenSpec.ofChange raftPlaysSpec)

/-- ITS FALSE NEIGHBOUR: 'it returns false'. Refute it at one input. -/
def raftPlaysWrong : ChangeSpec := { name := "raftPlays", fn := fun _ => fun
  | [d1, d2] => { results := [.lit (.bool false)], args := [d1, d2] }
  | _ => none }
def RaftPlaysWrongFalsely : Prop := raftPlaysRow.holds Tryz.pinned (OpenSpec.ofChange raftPlaysWrong)

/- THE SECOND FORM. 'bulk': how many values and letters a reading holds, each counted each time it is reached (what is shared counts as often as it is met; a slice's spare places count too). A statement '..UptoSaid' is the law's where the arguments, and the package variables that the reading takes, are together of bulk at most 1048576: NARROWER than '..Said'. Prove '..Said' where nothing that the law and all that it calls make is longer than what came in: it says more and counts as full. Else prove '..UptoSaid'. A law counts once. -/
mutual
def uptoBulk {H : Type} : DataW H → Nat
  | .lit (.string bytes) => bytes.length + 1
  | .lit _ => 1
  | .nil => 1
  | .ptr d => uptoBulk d + 1
  | .slice elems spare => uptoBulkAll elems + uptoBulkAll spare + 1
  | .agg parts => uptoBulkAll parts + 1
  | .iface _ d => uptoBulk d + 1
  | .map entries => uptoBulkEntries entries + 1
  | .held _ => 1
def uptoBulkAll {H : Type} : List (DataW H) → Nat
  | [] => 0
  | d :: r => uptoBulk d + uptoBulkAll r
def uptoBulkEntries {H : Type} : List (Lit × DataW H) → Nat
  | [] => 0
  | x :: r => uptoBulkEntry x + uptoBulkEntries r
def uptoBulkEntry {H : Type} : Lit × DataW H → Nat
  | (.string bytes, d) => bytes.length + uptoBulk d + 1
  | (_, d) => uptoBulk d + 1
 end
def uptoSmall : (H : Type) → List (DataW H) → Bool := fun _ ds => decide (uptoBulkAll ds ≤ 1048576)
def OpenSpec.upto (s : _root_.Go.ChangeSpec) : _root_.Go.OpenSpec := { _root_.Go.OpenSpec.ofChange s with cond := some uptoSmall }

/-- 'satrapylaw6.RaftAlone', WHERE WHAT IT READS IS OF BULK AT MOST 1048576: true; the input reads as it did. -/
def raftAloneUptoRow : OpenClaim := { program := "ytdlhdgdkljkofaagreat", sum := "770b2068dbfa4370e72f733b31363e9f5c064d2690b403f12131b3c76fb3e380", func := "satrapy/satrapylaw6.RaftAlone", spec := "raftAlone", inPlace := ["internal/bytealg.MakeNoZero"], unfollowed := true, recurses := true, apart := false, narrowed := true }
def RaftAloneUptoSaid : Prop := raftAloneUptoRow.holds Tryz.pinned (OpenSpec.upto raftAloneSpec)

/-- 'satrapylaw6.RaftAnyBytes', WHERE WHAT IT READS IS OF BULK AT MOST 1048576: true; the input reads as it did. -/
def raftAnyBytesUptoRow : OpenClaim := { program := "ytdlhdgdkljkofaagreat", sum := "770b2068dbfa4370e72f733b31363e9f5c064d2690b403f12131b3c76fb3e380", func := "satrapy/satrapylaw6.RaftAnyBytes", spec := "raftAnyBytes", inPlace := ["internal/bytealg.MakeNoZero"], unfollowed := true, recurses := true, apart := false, narrowed := true }
def RaftAnyBytesUptoSaid : Prop := raftAnyBytesUptoRow.holds Tryz.pinned (OpenSpec.upto raftAnyBytesSpec)

/-- 'satrapylaw6.RaftThree', WHERE WHAT IT READS IS OF BULK AT MOST 1048576: true; the input reads as it did. -/
def raftThreeUptoRow : OpenClaim := { program := "ytdlhdgdkljkofaagreat", sum := "770b2068dbfa4370e72f733b31363e9f5c064d2690b403f12131b3c76fb3e380", func := "satrapy/satrapylaw6.RaftThree", spec := "raftThree", inPlace := ["internal/bytealg.MakeNoZero"], unfollowed := true, recurses := true, apart := false, narrowed := true }
def RaftThreeUptoSaid : Prop := raftThreeUptoRow.holds Tryz.pinned (OpenSpec.upto raftThreeSpec)

/-- 'satrapylaw6.RaftBehind', WHERE WHAT IT READS IS OF BULK AT MOST 1048576: true; the input reads as it did. -/
def raftBehindUptoRow : OpenClaim := { program := "ytdlhdgdkljkofaagreat", sum := "770b2068dbfa4370e72f733b31363e9f5c064d2690b403f12131b3c76fb3e380", func := "satrapy/satrapylaw6.RaftBehind", spec := "raftBehind", inPlace := ["internal/bytealg.MakeNoZero"], unfollowed := true, recurses := true, apart := false, narrowed := true }
def RaftBehindUptoSaid : Prop := raftBehindUptoRow.holds Tryz.pinned (OpenSpec.upto raftBehindSpec)

/-- 'satrapylaw6.RaftOfNothing', WHERE WHAT IT READS IS OF BULK AT MOST 1048576: true; the input reads as it did. -/
def raftOfNothingUptoRow : OpenClaim := { program := "ytdlhdgdkljkofaagreat", sum := "770b2068dbfa4370e72f733b31363e9f5c064d2690b403f12131b3c76fb3e380", func := "satrapy/satrapylaw6.RaftOfNothing", spec := "raftOfNothing", inPlace := ["internal/bytealg.MakeNoZero"], unfollowed := true, recurses := true, apart := false, narrowed := true }
def RaftOfNothingUptoSaid : Prop := raftOfNothingUptoRow.holds Tryz.pinned (OpenSpec.upto raftOfNothingSpec)

/-- 'satrapylaw6.RaftPlays', WHERE WHAT IT READS IS OF BULK AT MOST 1048576: true; the input reads as it did. -/
def raftPlaysUptoRow : OpenClaim := { program := "ytdlhdgdkljkofaagreat", sum := "770b2068dbfa4370e72f733b31363e9f5c064d2690b403f12131b3c76fb3e380", func := "satrapy/satrapylaw6.RaftPlays", spec := "raftPlays", inPlace := ["internal/bytealg.MakeNoZero"], unfollowed := true, recurses := true, apart := false, narrowed := true }
def RaftPlaysUptoSaid : Prop := raftPlaysUptoRow.holds Tryz.pinned (OpenSpec.upto raftPlaysSpec)

end Rows
end Go.Proofs.YtdlhdgdkljkofaaGreat
