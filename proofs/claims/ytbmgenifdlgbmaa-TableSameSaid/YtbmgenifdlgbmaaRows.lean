/-
  NARROWER THAN 'FOR EVERY INPUT', by the rows' own cells (each row's printed sentence says how): TypingNulls: loops · TableChecks: loops · TablePlaces: loops · TableRight: loops · TableFits: loops · TableSame: loops · EvalFills: loops · EvalFilled: loops · EvalSound: loops · EvalLoose: loops.
  DERIVED. THE GIVEN ROWS OF THIS SEAT. 10 by the template 'for every input the law returns true; each argument reads behind the call as it read before'; 0 by the template 'total and deterministic' (their statements: YtbmgenifdlgbmaaTotals.lean).
  GIVEN WITH THE SEED: the statements are not yours to turn. If you find one false, say at which input.
  Laid BY PROGRAM, IN A SANDBOX (cutbox-rows.mjs): the forced cells as the released guide's own fill.sh prints them over the translation abd109cf1a4a52d2… (all of the seat's roots in one cut). By AI agents, Wed Nov 11 2026. No macro, syntax, notation, axiom, sorry.
-/
import Derived.Test.YtbmgenifdlgbmaaChecked
import GoSem.Claim
import GoSem.ClaimJoined
import GoSem.ClaimMapViews
import Derived.JoinedTies
import Derived.KernelRfl
namespace Go.Proofs.Ytbmgenifdlgbmaa
/- THE CELL 'sum', in the pinned program and in every row, IS THE sha256 OF THE DUMP (.gsa) THAT YtbmgenifdlgbmaaProg.lean LOADS. Nothing in Lean hashes anything: it is a label: what it is worth is what the hold of that sum in a sandbox is worth. -/
noncomputable def Try.pinned : Pinned := { name := "ytbmgenifdlgbmaa", sum := "abd109cf1a4a52d22c0ae0aa6bdb530ffdec062939b9c0d82c8c332b993d713c", checked := Try.checked }
namespace Rows
def none {H : Type} : Left H := { results := [], args := [] }

/-- 'registrarlaw15.TypingNulls': WHATEVER THE INPUT: true; the input reads as it did. -/
def typingNullsSpec : ChangeSpec := { name := "typingNulls", fn := fun _ => fun
  | [d1, d2, d3] => { results := [.lit (.bool true)], args := [d1, d2, d3] }
  | _ => none }
def typingNullsRow : OpenClaim := { program := "ytbmgenifdlgbmaa", sum := "abd109cf1a4a52d22c0ae0aa6bdb530ffdec062939b9c0d82c8c332b993d713c", func := "registrar/registrarlaw15.TypingNulls", spec := "typingNulls", unfollowed := true, recurses := true, loops := true, apart := false }
def TypingNullsSaid : Prop := typingNullsRow.holds Try.pinned (OpenSpec.ofChange typingNullsSpec)

/-- ITS FALSE NEIGHBOUR: 'it returns false'. Refute it at one input. -/
def typingNullsWrong : ChangeSpec := { name := "typingNulls", fn := fun _ => fun
  | [d1, d2, d3] => { results := [.lit (.bool false)], args := [d1, d2, d3] }
  | _ => none }
def TypingNullsWrongFalsely : Prop := typingNullsRow.holds Try.pinned (OpenSpec.ofChange typingNullsWrong)

/-- 'registrarlaw14.TableChecks': WHATEVER THE INPUT: true; the input reads as it did. -/
def tableChecksSpec : ChangeSpec := { name := "tableChecks", fn := fun _ => fun
  | [d] => { results := [.lit (.bool true)], args := [d] }
  | _ => none }
def tableChecksRow : OpenClaim := { program := "ytbmgenifdlgbmaa", sum := "abd109cf1a4a52d22c0ae0aa6bdb530ffdec062939b9c0d82c8c332b993d713c", func := "registrar/registrarlaw14.TableChecks", spec := "tableChecks", unfollowed := true, recurses := true, loops := true, apart := false }
def TableChecksSaid : Prop := tableChecksRow.holds Try.pinned (OpenSpec.ofChange tableChecksSpec)

/-- ITS FALSE NEIGHBOUR: 'it returns false'. Refute it at one input. -/
def tableChecksWrong : ChangeSpec := { name := "tableChecks", fn := fun _ => fun
  | [d] => { results := [.lit (.bool false)], args := [d] }
  | _ => none }
def TableChecksWrongFalsely : Prop := tableChecksRow.holds Try.pinned (OpenSpec.ofChange tableChecksWrong)

/-- 'registrarlaw14.TablePlaces': WHATEVER THE INPUT: true; the input reads as it did. -/
def tablePlacesSpec : ChangeSpec := { name := "tablePlaces", fn := fun _ => fun
  | [d1, d2] => { results := [.lit (.bool true)], args := [d1, d2] }
  | _ => none }
def tablePlacesRow : OpenClaim := { program := "ytbmgenifdlgbmaa", sum := "abd109cf1a4a52d22c0ae0aa6bdb530ffdec062939b9c0d82c8c332b993d713c", func := "registrar/registrarlaw14.TablePlaces", spec := "tablePlaces", unfollowed := true, recurses := true, loops := true, apart := false }
def TablePlacesSaid : Prop := tablePlacesRow.holds Try.pinned (OpenSpec.ofChange tablePlacesSpec)

/-- ITS FALSE NEIGHBOUR: 'it returns false'. Refute it at one input. -/
def tablePlacesWrong : ChangeSpec := { name := "tablePlaces", fn := fun _ => fun
  | [d1, d2] => { results := [.lit (.bool false)], args := [d1, d2] }
  | _ => none }
def TablePlacesWrongFalsely : Prop := tablePlacesRow.holds Try.pinned (OpenSpec.ofChange tablePlacesWrong)

/-- 'registrarlaw14.TableRight': WHATEVER THE INPUT: true; the input reads as it did. -/
def tableRightSpec : ChangeSpec := { name := "tableRight", fn := fun _ => fun
  | [d1, d2] => { results := [.lit (.bool true)], args := [d1, d2] }
  | _ => none }
def tableRightRow : OpenClaim := { program := "ytbmgenifdlgbmaa", sum := "abd109cf1a4a52d22c0ae0aa6bdb530ffdec062939b9c0d82c8c332b993d713c", func := "registrar/registrarlaw14.TableRight", spec := "tableRight", unfollowed := true, recurses := true, loops := true, apart := false }
def TableRightSaid : Prop := tableRightRow.holds Try.pinned (OpenSpec.ofChange tableRightSpec)

/-- ITS FALSE NEIGHBOUR: 'it returns false'. Refute it at one input. -/
def tableRightWrong : ChangeSpec := { name := "tableRight", fn := fun _ => fun
  | [d1, d2] => { results := [.lit (.bool false)], args := [d1, d2] }
  | _ => none }
def TableRightWrongFalsely : Prop := tableRightRow.holds Try.pinned (OpenSpec.ofChange tableRightWrong)

/-- 'registrarlaw14.TableFits': WHATEVER THE INPUT: true; the input reads as it did. -/
def tableFitsSpec : ChangeSpec := { name := "tableFits", fn := fun _ => fun
  | [d1, d2, d3] => { results := [.lit (.bool true)], args := [d1, d2, d3] }
  | _ => none }
def tableFitsRow : OpenClaim := { program := "ytbmgenifdlgbmaa", sum := "abd109cf1a4a52d22c0ae0aa6bdb530ffdec062939b9c0d82c8c332b993d713c", func := "registrar/registrarlaw14.TableFits", spec := "tableFits", unfollowed := true, recurses := true, loops := true, apart := false }
def TableFitsSaid : Prop := tableFitsRow.holds Try.pinned (OpenSpec.ofChange tableFitsSpec)

/-- ITS FALSE NEIGHBOUR: 'it returns false'. Refute it at one input. -/
def tableFitsWrong : ChangeSpec := { name := "tableFits", fn := fun _ => fun
  | [d1, d2, d3] => { results := [.lit (.bool false)], args := [d1, d2, d3] }
  | _ => none }
def TableFitsWrongFalsely : Prop := tableFitsRow.holds Try.pinned (OpenSpec.ofChange tableFitsWrong)

/-- 'registrarlaw14.TableSame': WHATEVER THE INPUT: true; the input reads as it did. -/
def tableSameSpec : ChangeSpec := { name := "tableSame", fn := fun _ => fun
  | [d1, d2] => { results := [.lit (.bool true)], args := [d1, d2] }
  | _ => none }
def tableSameRow : OpenClaim := { program := "ytbmgenifdlgbmaa", sum := "abd109cf1a4a52d22c0ae0aa6bdb530ffdec062939b9c0d82c8c332b993d713c", func := "registrar/registrarlaw14.TableSame", spec := "tableSame", unfollowed := true, recurses := true, loops := true, apart := false }
def TableSameSaid : Prop := tableSameRow.holds Try.pinned (OpenSpec.ofChange tableSameSpec)

/-- ITS FALSE NEIGHBOUR: 'it returns false'. Refute it at one input. -/
def tableSameWrong : ChangeSpec := { name := "tableSame", fn := fun _ => fun
  | [d1, d2] => { results := [.lit (.bool false)], args := [d1, d2] }
  | _ => none }
def TableSameWrongFalsely : Prop := tableSameRow.holds Try.pinned (OpenSpec.ofChange tableSameWrong)

/-- 'registrarlaw16.EvalFills': WHATEVER THE INPUT: true; the input reads as it did. -/
def evalFillsSpec : ChangeSpec := { name := "evalFills", fn := fun _ => fun
  | [d1, d2] => { results := [.lit (.bool true)], args := [d1, d2] }
  | _ => none }
def evalFillsRow : OpenClaim := { program := "ytbmgenifdlgbmaa", sum := "abd109cf1a4a52d22c0ae0aa6bdb530ffdec062939b9c0d82c8c332b993d713c", func := "registrar/registrarlaw16.EvalFills", spec := "evalFills", unfollowed := true, recurses := true, loops := true, apart := false }
def EvalFillsSaid : Prop := evalFillsRow.holds Try.pinned (OpenSpec.ofChange evalFillsSpec)

/-- ITS FALSE NEIGHBOUR: 'it returns false'. Refute it at one input. -/
def evalFillsWrong : ChangeSpec := { name := "evalFills", fn := fun _ => fun
  | [d1, d2] => { results := [.lit (.bool false)], args := [d1, d2] }
  | _ => none }
def EvalFillsWrongFalsely : Prop := evalFillsRow.holds Try.pinned (OpenSpec.ofChange evalFillsWrong)

/-- 'registrarlaw16.EvalFilled': WHATEVER THE INPUT: true; the input reads as it did. -/
def evalFilledSpec : ChangeSpec := { name := "evalFilled", fn := fun _ => fun
  | [d1, d2, d3] => { results := [.lit (.bool true)], args := [d1, d2, d3] }
  | _ => none }
def evalFilledRow : OpenClaim := { program := "ytbmgenifdlgbmaa", sum := "abd109cf1a4a52d22c0ae0aa6bdb530ffdec062939b9c0d82c8c332b993d713c", func := "registrar/registrarlaw16.EvalFilled", spec := "evalFilled", unfollowed := true, recurses := true, loops := true, apart := false }
def EvalFilledSaid : Prop := evalFilledRow.holds Try.pinned (OpenSpec.ofChange evalFilledSpec)

/-- ITS FALSE NEIGHBOUR: 'it returns false'. Refute it at one input. -/
def evalFilledWrong : ChangeSpec := { name := "evalFilled", fn := fun _ => fun
  | [d1, d2, d3] => { results := [.lit (.bool false)], args := [d1, d2, d3] }
  | _ => none }
def EvalFilledWrongFalsely : Prop := evalFilledRow.holds Try.pinned (OpenSpec.ofChange evalFilledWrong)

/-- 'registrarlaw16.EvalSound': WHATEVER THE INPUT: true; the input reads as it did. -/
def evalSoundSpec : ChangeSpec := { name := "evalSound", fn := fun _ => fun
  | [d1, d2, d3] => { results := [.lit (.bool true)], args := [d1, d2, d3] }
  | _ => none }
def evalSoundRow : OpenClaim := { program := "ytbmgenifdlgbmaa", sum := "abd109cf1a4a52d22c0ae0aa6bdb530ffdec062939b9c0d82c8c332b993d713c", func := "registrar/registrarlaw16.EvalSound", spec := "evalSound", unfollowed := true, recurses := true, loops := true, apart := false }
def EvalSoundSaid : Prop := evalSoundRow.holds Try.pinned (OpenSpec.ofChange evalSoundSpec)

/-- ITS FALSE NEIGHBOUR: 'it returns false'. Refute it at one input. -/
def evalSoundWrong : ChangeSpec := { name := "evalSound", fn := fun _ => fun
  | [d1, d2, d3] => { results := [.lit (.bool false)], args := [d1, d2, d3] }
  | _ => none }
def EvalSoundWrongFalsely : Prop := evalSoundRow.holds Try.pinned (OpenSpec.ofChange evalSoundWrong)

/-- 'registrarlaw16.EvalLoose': WHATEVER THE INPUT: true; the input reads as it did. -/
def evalLooseSpec : ChangeSpec := { name := "evalLoose", fn := fun _ => fun
  | [d1, d2, d3] => { results := [.lit (.bool true)], args := [d1, d2, d3] }
  | _ => none }
def evalLooseRow : OpenClaim := { program := "ytbmgenifdlgbmaa", sum := "abd109cf1a4a52d22c0ae0aa6bdb530ffdec062939b9c0d82c8c332b993d713c", func := "registrar/registrarlaw16.EvalLoose", spec := "evalLoose", unfollowed := true, recurses := true, loops := true, apart := false }
def EvalLooseSaid : Prop := evalLooseRow.holds Try.pinned (OpenSpec.ofChange evalLooseSpec)

/-- ITS FALSE NEIGHBOUR: 'it returns false'. Refute it at one input. -/
def evalLooseWrong : ChangeSpec := { name := "evalLoose", fn := fun _ => fun
  | [d1, d2, d3] => { results := [.lit (.bool false)], args := [d1, d2, d3] }
  | _ => none }
def EvalLooseWrongFalsely : Prop := evalLooseRow.holds Try.pinned (OpenSpec.ofChange evalLooseWrong)

/- THE SECOND FORM. 'bulk': how many values and letters a reading holds, each counted each time it is reached (what is shared counts as often as it is met; a slice's spare places count too). A statement '..UptoSaid' is the law's where the arguments, and the package variables that the reading takes, are together of bulk at most 1048576: NARROWER than '..Said'. Prove '..Said' where nothing that the law and all that it calls make is longer than what came in: it says more and counts as full. Else prove '..UptoSaid'. A law counts once. -/
mutual
def uptoBulk {H : Type} : DataW H → Nat
  | .lit (.string bytes) => bytes.length + 1
  | .lit _ => 1
  | .nil => 1
  | .ptr d => uptoBulk d + 1
  | .slice elems spare => uptoBulkAll elems + uptoBulkAll spare + 1
  | .agg parts => uptoBulkAll parts + 1
  | .iface _ d => uptoBulk d + 1
  | .map entries => uptoBulkEntries entries + 1
  | .held _ => 1
def uptoBulkAll {H : Type} : List (DataW H) → Nat
  | [] => 0
  | d :: r => uptoBulk d + uptoBulkAll r
def uptoBulkEntries {H : Type} : List (Lit × DataW H) → Nat
  | [] => 0
  | x :: r => uptoBulkEntry x + uptoBulkEntries r
def uptoBulkEntry {H : Type} : Lit × DataW H → Nat
  | (.string bytes, d) => bytes.length + uptoBulk d + 1
  | (_, d) => uptoBulk d + 1
 end
def uptoSmall : (H : Type) → List (DataW H) → Bool := fun _ ds => decide (uptoBulkAll ds ≤ 1048576)
def OpenSpec.upto (s : _root_.Go.ChangeSpec) : _root_.Go.OpenSpec := { _root_.Go.OpenSpec.ofChange s with cond := some uptoSmall }

/-- 'registrarlaw15.TypingNulls', WHERE WHAT IT READS IS OF BULK AT MOST 1048576: true; the input reads as it did. -/
def typingNullsUptoRow : OpenClaim := { program := "ytbmgenifdlgbmaa", sum := "abd109cf1a4a52d22c0ae0aa6bdb530ffdec062939b9c0d82c8c332b993d713c", func := "registrar/registrarlaw15.TypingNulls", spec := "typingNulls", unfollowed := true, recurses := true, loops := true, apart := false, narrowed := true }
def TypingNullsUptoSaid : Prop := typingNullsUptoRow.holds Try.pinned (OpenSpec.upto typingNullsSpec)

/-- 'registrarlaw14.TableChecks', WHERE WHAT IT READS IS OF BULK AT MOST 1048576: true; the input reads as it did. -/
def tableChecksUptoRow : OpenClaim := { program := "ytbmgenifdlgbmaa", sum := "abd109cf1a4a52d22c0ae0aa6bdb530ffdec062939b9c0d82c8c332b993d713c", func := "registrar/registrarlaw14.TableChecks", spec := "tableChecks", unfollowed := true, recurses := true, loops := true, apart := false, narrowed := true }
def TableChecksUptoSaid : Prop := tableChecksUptoRow.holds Try.pinned (OpenSpec.upto tableChecksSpec)

/-- 'registrarlaw14.TablePlaces', WHERE WHAT IT READS IS OF BULK AT MOST 1048576: true; the input reads as it did. -/
def tablePlacesUptoRow : OpenClaim := { program := "ytbmgenifdlgbmaa", sum := "abd109cf1a4a52d22c0ae0aa6bdb530ffdec062939b9c0d82c8c332b993d713c", func := "registrar/registrarlaw14.TablePlaces", spec := "tablePlaces", unfollowed := true, recurses := true, loops := true, apart := false, narrowed := true }
def TablePlacesUptoSaid : Prop := tablePlacesUptoRow.holds Try.pinned (OpenSpec.upto tablePlacesSpec)

/-- 'registrarlaw14.TableRight', WHERE WHAT IT READS IS OF BULK AT MOST 1048576: true; the input reads as it did. -/
def tableRightUptoRow : OpenClaim := { program := "ytbmgenifdlgbmaa", sum := "abd109cf1a4a52d22c0ae0aa6bdb530ffdec062939b9c0d82c8c332b993d713c", func := "registrar/registrarlaw14.TableRight", spec := "tableRight", unfollowed := true, recurses := true, loops := true, apart := false, narrowed := true }
def TableRightUptoSaid : Prop := tableRightUptoRow.holds Try.pinned (OpenSpec.upto tableRightSpec)

/-- 'registrarlaw14.TableFits', WHERE WHAT IT READS IS OF BULK AT MOST 1048576: true; the input reads as it did. -/
def tableFitsUptoRow : OpenClaim := { program := "ytbmgenifdlgbmaa", sum := "abd109cf1a4a52d22c0ae0aa6bdb530ffdec062939b9c0d82c8c332b993d713c", func := "registrar/registrarlaw14.TableFits", spec := "tableFits", unfollowed := true, recurses := true, loops := true, apart := false, narrowed := true }
def TableFitsUptoSaid : Prop := tableFitsUptoRow.holds Try.pinned (OpenSpec.upto tableFitsSpec)

/-- 'registrarlaw14.TableSame', WHERE WHAT IT READS IS OF BULK AT MOST 1048576: true; the input reads as it did. -/
def tableSameUptoRow : OpenClaim := { program := "ytbmgenifdlgbmaa", sum := "abd109cf1a4a52d22c0ae0aa6bdb530ffdec062939b9c0d82c8c332b993d713c", func := "registrar/registrarlaw14.TableSame", spec := "tableSame", unfollowed := true, recurses := true, loops := true, apart := false, narrowed := true }
def TableSameUptoSaid : Prop := tableSameUptoRow.holds Try.pinned (OpenSpec.upto tableSameSpec)

/-- 'registrarlaw16.EvalFills', WHERE WHAT IT READS IS OF BULK AT MOST 1048576: true; the input reads as it did. -/
def evalFillsUptoRow : OpenClaim := { program := "ytbmgenifdlgbmaa", sum := "abd109cf1a4a52d22c0ae0aa6bdb530ffdec062939b9c0d82c8c332b993d713c", func := "registrar/registrarlaw16.EvalFills", spec := "evalFills", unfollowed := true, recurses := true, loops := true, apart := false, narrowed := true }
def EvalFillsUptoSaid : Prop := evalFillsUptoRow.holds Try.pinned (OpenSpec.upto evalFillsSpec)

/-- 'registrarlaw16.EvalFilled', WHERE WHAT IT READS IS OF BULK AT MOST 1048576: true; the input reads as it did. -/
def evalFilledUptoRow : OpenClaim := { program := "ytbmgenifdlgbmaa", sum := "abd109cf1a4a52d22c0ae0aa6bdb530ffdec062939b9c0d82c8c332b993d713c", func := "registrar/registrarlaw16.EvalFilled", spec := "evalFilled", unfollowed := true, recurses := true, loops := true, apart := false, narrowed := true }
def EvalFilledUptoSaid : Prop := evalFilledUptoRow.holds Try.pinned (OpenSpec.upto evalFilledSpec)

/-- 'registrarlaw16.EvalSound', WHERE WHAT IT READS IS OF BULK AT MOST 1048576: true; the input reads as it did. -/
def evalSoundUptoRow : OpenClaim := { program := "ytbmgenifdlgbmaa", sum := "abd109cf1a4a52d22c0ae0aa6bdb530ffdec062939b9c0d82c8c332b993d713c", func := "registrar/registrarlaw16.EvalSound", spec := "evalSound", unfollowed := true, recurses := true, loops := true, apart := false, narrowed := true }
def EvalSoundUptoSaid : Prop := evalSoundUptoRow.holds Try.pinned (OpenSpec.upto evalSoundSpec)

/-- 'registrarlaw16.EvalLoose', WHERE WHAT IT READS IS OF BULK AT MOST 1048576: true; the input reads as it did. -/
def evalLooseUptoRow : OpenClaim := { program := "ytbmgenifdlgbmaa", sum := "abd109cf1a4a52d22c0ae0aa6bdb530ffdec062939b9c0d82c8c332b993d713c", func := "registrar/registrarlaw16.EvalLoose", spec := "evalLoose", unfollowed := true, recurses := true, loops := true, apart := false, narrowed := true }
def EvalLooseUptoSaid : Prop := evalLooseUptoRow.holds Try.pinned (OpenSpec.upto evalLooseSpec)

end Rows
end Go.Proofs.Ytbmgenifdlgbmaa
