/-
  NARROWER THAN 'FOR EVERY INPUT', by the rows' own cells (each row's printed sentence says how): SineCounts: loops · SineChooses: loops · SineMore: loops · SineTurned: loops · SineSpeaks: loops.
  DERIVED. THE GIVEN ROWS OF THIS SEAT. 5 by the template 'for every input the law returns true; each argument reads behind the call as it read before'; 0 by the template 'total and deterministic' (their statements: YtikgjappablbhaaTotals.lean).
  GIVEN WITH THE SEED: the statements are not yours to turn. If you find one false, say at which input.
  Laid BY PROGRAM, IN A SANDBOX (cutbox-rows.mjs): the forced cells as the released guide's own fill.sh prints them over the translation 09d5f6f954f6a79b… (all of the seat's roots in one cut). By AI agents, Wed Nov 11 2026. No macro, syntax, notation, axiom, sorry.
-/
import Derived.Test.YtikgjappablbhaaChecked
import GoSem.Claim
import GoSem.ClaimJoined
import GoSem.ClaimMapViews
import Derived.JoinedTies
import Derived.KernelRfl
namespace Go.Proofs.Ytikgjappablbhaa
/- THE CELL 'sum', in the pinned program and in every row, IS THE sha256 OF THE DUMP (.gsa) THAT YtikgjappablbhaaProg.lean LOADS. Nothing in Lean hashes anything: it is a label: what it is worth is what the hold of that sum in a sandbox is worth. -/
noncomputable def Try.pinned : Pinned := { name := "ytikgjappablbhaa", sum := "09d5f6f954f6a79b1bc821bda58a675f4666fb5b62975ddafeefbb2b5f7b212c", checked := Try.checked }
namespace Rows
def none {H : Type} : Left H := { results := [], args := [] }

/-- 'syllogismlaw17.SineCounts': WHATEVER THE INPUT: true; the input reads as it did. -/
def sineCountsSpec : ChangeSpec := { name := "sineCounts", fn := fun _ => fun
  | [d] => { results := [.lit (.bool true)], args := [d] }
  | _ => none }
def sineCountsRow : OpenClaim := { program := "ytikgjappablbhaa", sum := "09d5f6f954f6a79b1bc821bda58a675f4666fb5b62975ddafeefbb2b5f7b212c", func := "syllogism/syllogismlaw17.SineCounts", spec := "sineCounts", unfollowed := true, recurses := true, loops := true, plainKeys := false, apart := false }
def SineCountsSaid : Prop := sineCountsRow.holds Try.pinned (OpenSpec.ofChange sineCountsSpec)

/-- ITS FALSE NEIGHBOUR: 'it returns false'. Refute it at one input. -/
def sineCountsWrong : ChangeSpec := { name := "sineCounts", fn := fun _ => fun
  | [d] => { results := [.lit (.bool false)], args := [d] }
  | _ => none }
def SineCountsWrongFalsely : Prop := sineCountsRow.holds Try.pinned (OpenSpec.ofChange sineCountsWrong)

/-- 'syllogismlaw17.SineChooses': WHATEVER THE INPUT: true; the input reads as it did. -/
def sineChoosesSpec : ChangeSpec := { name := "sineChooses", fn := fun _ => fun
  | [d1, d2, d3] => { results := [.lit (.bool true)], args := [d1, d2, d3] }
  | _ => none }
def sineChoosesRow : OpenClaim := { program := "ytikgjappablbhaa", sum := "09d5f6f954f6a79b1bc821bda58a675f4666fb5b62975ddafeefbb2b5f7b212c", func := "syllogism/syllogismlaw17.SineChooses", spec := "sineChooses", unfollowed := true, recurses := true, loops := true, plainKeys := false, apart := false }
def SineChoosesSaid : Prop := sineChoosesRow.holds Try.pinned (OpenSpec.ofChange sineChoosesSpec)

/-- ITS FALSE NEIGHBOUR: 'it returns false'. Refute it at one input. -/
def sineChoosesWrong : ChangeSpec := { name := "sineChooses", fn := fun _ => fun
  | [d1, d2, d3] => { results := [.lit (.bool false)], args := [d1, d2, d3] }
  | _ => none }
def SineChoosesWrongFalsely : Prop := sineChoosesRow.holds Try.pinned (OpenSpec.ofChange sineChoosesWrong)

/-- 'syllogismlaw17.SineMore': WHATEVER THE INPUT: true; the input reads as it did. -/
def sineMoreSpec : ChangeSpec := { name := "sineMore", fn := fun _ => fun
  | [d1, d2, d3, d4, d5] => { results := [.lit (.bool true)], args := [d1, d2, d3, d4, d5] }
  | _ => none }
def sineMoreRow : OpenClaim := { program := "ytikgjappablbhaa", sum := "09d5f6f954f6a79b1bc821bda58a675f4666fb5b62975ddafeefbb2b5f7b212c", func := "syllogism/syllogismlaw17.SineMore", spec := "sineMore", unfollowed := true, recurses := true, loops := true, plainKeys := false, apart := false }
def SineMoreSaid : Prop := sineMoreRow.holds Try.pinned (OpenSpec.ofChange sineMoreSpec)

/-- ITS FALSE NEIGHBOUR: 'it returns false'. Refute it at one input. -/
def sineMoreWrong : ChangeSpec := { name := "sineMore", fn := fun _ => fun
  | [d1, d2, d3, d4, d5] => { results := [.lit (.bool false)], args := [d1, d2, d3, d4, d5] }
  | _ => none }
def SineMoreWrongFalsely : Prop := sineMoreRow.holds Try.pinned (OpenSpec.ofChange sineMoreWrong)

/-- 'syllogismlaw17.SineTurned': WHATEVER THE INPUT: true; the input reads as it did. -/
def sineTurnedSpec : ChangeSpec := { name := "sineTurned", fn := fun _ => fun
  | [d1, d2, d3, d4] => { results := [.lit (.bool true)], args := [d1, d2, d3, d4] }
  | _ => none }
def sineTurnedRow : OpenClaim := { program := "ytikgjappablbhaa", sum := "09d5f6f954f6a79b1bc821bda58a675f4666fb5b62975ddafeefbb2b5f7b212c", func := "syllogism/syllogismlaw17.SineTurned", spec := "sineTurned", unfollowed := true, recurses := true, loops := true, plainKeys := false, apart := false }
def SineTurnedSaid : Prop := sineTurnedRow.holds Try.pinned (OpenSpec.ofChange sineTurnedSpec)

/-- ITS FALSE NEIGHBOUR: 'it returns false'. Refute it at one input. -/
def sineTurnedWrong : ChangeSpec := { name := "sineTurned", fn := fun _ => fun
  | [d1, d2, d3, d4] => { results := [.lit (.bool false)], args := [d1, d2, d3, d4] }
  | _ => none }
def SineTurnedWrongFalsely : Prop := sineTurnedRow.holds Try.pinned (OpenSpec.ofChange sineTurnedWrong)

/-- 'syllogismlaw17.SineSpeaks': WHATEVER THE INPUT: true; the input reads as it did. -/
def sineSpeaksSpec : ChangeSpec := { name := "sineSpeaks", fn := fun _ => fun
  | [d1, d2, d3] => { results := [.lit (.bool true)], args := [d1, d2, d3] }
  | _ => none }
def sineSpeaksRow : OpenClaim := { program := "ytikgjappablbhaa", sum := "09d5f6f954f6a79b1bc821bda58a675f4666fb5b62975ddafeefbb2b5f7b212c", func := "syllogism/syllogismlaw17.SineSpeaks", spec := "sineSpeaks", unfollowed := true, recurses := true, loops := true, plainKeys := false, apart := false }
def SineSpeaksSaid : Prop := sineSpeaksRow.holds Try.pinned (OpenSpec.ofChange sineSpeaksSpec)

/-- ITS FALSE NEIGHBOUR: 'it returns false'. Refute it at one input. -/
def sineSpeaksWrong : ChangeSpec := { name := "sineSpeaks", fn := fun _ => fun
  | [d1, d2, d3] => { results := [.lit (.bool false)], args := [d1, d2, d3] }
  | _ => none }
def SineSpeaksWrongFalsely : Prop := sineSpeaksRow.holds Try.pinned (OpenSpec.ofChange sineSpeaksWrong)

/- THE SECOND FORM. 'bulk': how many values and letters a reading holds, each counted each time it is reached (what is shared counts as often as it is met; a slice's spare places count too). A statement '..UptoSaid' is the law's where the arguments, and the package variables that the reading takes, are together of bulk at most 1048576: NARROWER than '..Said'. Prove '..Said' where nothing that the law and all that it calls make is longer than what came in: it says more and counts as full. Else prove '..UptoSaid'. A law counts once. -/
mutual
def uptoBulk {H : Type} : DataW H → Nat
  | .lit (.string bytes) => bytes.length + 1
  | .lit _ => 1
  | .nil => 1
  | .ptr d => uptoBulk d + 1
  | .slice elems spare => uptoBulkAll elems + uptoBulkAll spare + 1
  | .agg parts => uptoBulkAll parts + 1
  | .iface _ d => uptoBulk d + 1
  | .map entries => uptoBulkEntries entries + 1
  | .held _ => 1
def uptoBulkAll {H : Type} : List (DataW H) → Nat
  | [] => 0
  | d :: r => uptoBulk d + uptoBulkAll r
def uptoBulkEntries {H : Type} : List (Lit × DataW H) → Nat
  | [] => 0
  | x :: r => uptoBulkEntry x + uptoBulkEntries r
def uptoBulkEntry {H : Type} : Lit × DataW H → Nat
  | (.string bytes, d) => bytes.length + uptoBulk d + 1
  | (_, d) => uptoBulk d + 1
 end
def uptoSmall : (H : Type) → List (DataW H) → Bool := fun _ ds => decide (uptoBulkAll ds ≤ 1048576)
def OpenSpec.upto (s : _root_.Go.ChangeSpec) : _root_.Go.OpenSpec := { _root_.Go.OpenSpec.ofChange s with cond := some uptoSmall }

/-- 'syllogismlaw17.SineCounts', WHERE WHAT IT READS IS OF BULK AT MOST 1048576: true; the input reads as it did. -/
def sineCountsUptoRow : OpenClaim := { program := "ytikgjappablbhaa", sum := "09d5f6f954f6a79b1bc821bda58a675f4666fb5b62975ddafeefbb2b5f7b212c", func := "syllogism/syllogismlaw17.SineCounts", spec := "sineCounts", unfollowed := true, recurses := true, loops := true, plainKeys := false, apart := false, narrowed := true }
def SineCountsUptoSaid : Prop := sineCountsUptoRow.holds Try.pinned (OpenSpec.upto sineCountsSpec)

/-- 'syllogismlaw17.SineChooses', WHERE WHAT IT READS IS OF BULK AT MOST 1048576: true; the input reads as it did. -/
def sineChoosesUptoRow : OpenClaim := { program := "ytikgjappablbhaa", sum := "09d5f6f954f6a79b1bc821bda58a675f4666fb5b62975ddafeefbb2b5f7b212c", func := "syllogism/syllogismlaw17.SineChooses", spec := "sineChooses", unfollowed := true, recurses := true, loops := true, plainKeys := false, apart := false, narrowed := true }
def SineChoosesUptoSaid : Prop := sineChoosesUptoRow.holds Try.pinned (OpenSpec.upto sineChoosesSpec)

/-- 'syllogismlaw17.SineMore', WHERE WHAT IT READS IS OF BULK AT MOST 1048576: true; the input reads as it did. -/
def sineMoreUptoRow : OpenClaim := { program := "ytikgjappablbhaa", sum := "09d5f6f954f6a79b1bc821bda58a675f4666fb5b62975ddafeefbb2b5f7b212c", func := "syllogism/syllogismlaw17.SineMore", spec := "sineMore", unfollowed := true, recurses := true, loops := true, plainKeys := false, apart := false, narrowed := true }
def SineMoreUptoSaid : Prop := sineMoreUptoRow.holds Try.pinned (OpenSpec.upto sineMoreSpec)

/-- 'syllogismlaw17.SineTurned', WHERE WHAT IT READS IS OF BULK AT MOST 1048576: true; the input reads as it did. -/
def sineTurnedUptoRow : OpenClaim := { program := "ytikgjappablbhaa", sum := "09d5f6f954f6a79b1bc821bda58a675f4666fb5b62975ddafeefbb2b5f7b212c", func := "syllogism/syllogismlaw17.SineTurned", spec := "sineTurned", unfollowed := true, recurses := true, loops := true, plainKeys := false, apart := false, narrowed := true }
def SineTurnedUptoSaid : Prop := sineTurnedUptoRow.holds Try.pinned (OpenSpec.upto sineTurnedSpec)

/-- 'syllogismlaw17.SineSpeaks', WHERE WHAT IT READS IS OF BULK AT MOST 1048576: true; the input reads as it did. -/
def sineSpeaksUptoRow : OpenClaim := { program := "ytikgjappablbhaa", sum := "09d5f6f954f6a79b1bc821bda58a675f4666fb5b62975ddafeefbb2b5f7b212c", func := "syllogism/syllogismlaw17.SineSpeaks", spec := "sineSpeaks", unfollowed := true, recurses := true, loops := true, plainKeys := false, apart := false, narrowed := true }
def SineSpeaksUptoSaid : Prop := sineSpeaksUptoRow.holds Try.pinned (OpenSpec.upto sineSpeaksSpec)

end Rows
end Go.Proofs.Ytikgjappablbhaa
