/-
  No cell of these rows narrows 'for every input' (looked for: loops, veiled, ifaces, maps, wideKeys, modest, calm, conditions, laid).
  DERIVED. THE GIVEN ROWS OF THIS SEAT. 10 by the template 'for every input the law returns true; each argument reads behind the call as it read before'; 0 by the template 'total and deterministic' (their statements: YtckdcaidhpjjaaaTotals.lean).
  GIVEN WITH THE SEED: the statements are not yours to turn. If you find one false, say at which input.
  Laid BY PROGRAM, IN A SANDBOX (cutbox-rows.mjs): the forced cells as the released guide's own fill.sh prints them over the translation 59ff6aa95925892a… (all of the seat's roots in one cut). By AI agents, Wed Nov 11 2026. No macro, syntax, notation, axiom, sorry.
-/
import Derived.Test.YtckdcaidhpjjaaaChecked
import GoSem.Claim
import GoSem.ClaimJoined
import GoSem.ClaimMapViews
import Derived.JoinedTies
import Derived.KernelRfl
namespace Go.Proofs.Ytckdcaidhpjjaaa
/- THE CELL 'sum', in the pinned program and in every row, IS THE sha256 OF THE DUMP (.gsa) THAT YtckdcaidhpjjaaaProg.lean LOADS. Nothing in Lean hashes anything: it is a label: what it is worth is what the hold of that sum in a sandbox is worth. -/
noncomputable def Try.pinned : Pinned := { name := "ytckdcaidhpjjaaa", sum := "59ff6aa95925892a1af4212e814fcb20be38c63a4bd6603d0394398334f78ba2", checked := Try.checked }
namespace Rows
def none {H : Type} : Left H := { results := [], args := [] }

/-- 'registrarlaw02.TruthLists': WHATEVER THE INPUT: true; the input reads as it did. -/
def truthListsSpec : ChangeSpec := { name := "truthLists", fn := fun _ => fun
  | [d] => { results := [.lit (.bool true)], args := [d] }
  | _ => none }
def truthListsRow : OpenClaim := { program := "ytckdcaidhpjjaaa", sum := "59ff6aa95925892a1af4212e814fcb20be38c63a4bd6603d0394398334f78ba2", func := "registrar/registrarlaw02.TruthLists", spec := "truthLists", apart := false }
def TruthListsSaid : Prop := truthListsRow.holds Try.pinned (OpenSpec.ofChange truthListsSpec)

/-- ITS FALSE NEIGHBOUR: 'it returns false'. Refute it at one input. -/
def truthListsWrong : ChangeSpec := { name := "truthLists", fn := fun _ => fun
  | [d] => { results := [.lit (.bool false)], args := [d] }
  | _ => none }
def TruthListsWrongFalsely : Prop := truthListsRow.holds Try.pinned (OpenSpec.ofChange truthListsWrong)

/-- 'registrarlaw02.TruthParts': WHATEVER THE INPUT: true; the input reads as it did. -/
def truthPartsSpec : ChangeSpec := { name := "truthParts", fn := fun _ => fun
  | [d1, d2] => { results := [.lit (.bool true)], args := [d1, d2] }
  | _ => none }
def truthPartsRow : OpenClaim := { program := "ytckdcaidhpjjaaa", sum := "59ff6aa95925892a1af4212e814fcb20be38c63a4bd6603d0394398334f78ba2", func := "registrar/registrarlaw02.TruthParts", spec := "truthParts", apart := false }
def TruthPartsSaid : Prop := truthPartsRow.holds Try.pinned (OpenSpec.ofChange truthPartsSpec)

/-- ITS FALSE NEIGHBOUR: 'it returns false'. Refute it at one input. -/
def truthPartsWrong : ChangeSpec := { name := "truthParts", fn := fun _ => fun
  | [d1, d2] => { results := [.lit (.bool false)], args := [d1, d2] }
  | _ => none }
def TruthPartsWrongFalsely : Prop := truthPartsRow.holds Try.pinned (OpenSpec.ofChange truthPartsWrong)

/-- 'registrarlaw02.TruthValues': WHATEVER THE INPUT: true; the input reads as it did. -/
def truthValuesSpec : ChangeSpec := { name := "truthValues", fn := fun _ => fun
  | [d1, d2] => { results := [.lit (.bool true)], args := [d1, d2] }
  | _ => none }
def truthValuesRow : OpenClaim := { program := "ytckdcaidhpjjaaa", sum := "59ff6aa95925892a1af4212e814fcb20be38c63a4bd6603d0394398334f78ba2", func := "registrar/registrarlaw02.TruthValues", spec := "truthValues", apart := false }
def TruthValuesSaid : Prop := truthValuesRow.holds Try.pinned (OpenSpec.ofChange truthValuesSpec)

/-- ITS FALSE NEIGHBOUR: 'it returns false'. Refute it at one input. -/
def truthValuesWrong : ChangeSpec := { name := "truthValues", fn := fun _ => fun
  | [d1, d2] => { results := [.lit (.bool false)], args := [d1, d2] }
  | _ => none }
def TruthValuesWrongFalsely : Prop := truthValuesRow.holds Try.pinned (OpenSpec.ofChange truthValuesWrong)

/-- 'registrarlaw02.TruthTurns': WHATEVER THE INPUT: true; the input reads as it did. -/
def truthTurnsSpec : ChangeSpec := { name := "truthTurns", fn := fun _ => fun
  | [d1, d2] => { results := [.lit (.bool true)], args := [d1, d2] }
  | _ => none }
def truthTurnsRow : OpenClaim := { program := "ytckdcaidhpjjaaa", sum := "59ff6aa95925892a1af4212e814fcb20be38c63a4bd6603d0394398334f78ba2", func := "registrar/registrarlaw02.TruthTurns", spec := "truthTurns", apart := false }
def TruthTurnsSaid : Prop := truthTurnsRow.holds Try.pinned (OpenSpec.ofChange truthTurnsSpec)

/-- ITS FALSE NEIGHBOUR: 'it returns false'. Refute it at one input. -/
def truthTurnsWrong : ChangeSpec := { name := "truthTurns", fn := fun _ => fun
  | [d1, d2] => { results := [.lit (.bool false)], args := [d1, d2] }
  | _ => none }
def TruthTurnsWrongFalsely : Prop := truthTurnsRow.holds Try.pinned (OpenSpec.ofChange truthTurnsWrong)

/-- 'registrarlaw01.NumSums': WHATEVER THE INPUT: true; the input reads as it did. -/
def numSumsSpec : ChangeSpec := { name := "numSums", fn := fun _ => fun
  | [d1, d2] => { results := [.lit (.bool true)], args := [d1, d2] }
  | _ => none }
def numSumsRow : OpenClaim := { program := "ytckdcaidhpjjaaa", sum := "59ff6aa95925892a1af4212e814fcb20be38c63a4bd6603d0394398334f78ba2", func := "registrar/registrarlaw01.NumSums", spec := "numSums", apart := false }
def NumSumsSaid : Prop := numSumsRow.holds Try.pinned (OpenSpec.ofChange numSumsSpec)

/-- ITS FALSE NEIGHBOUR: 'it returns false'. Refute it at one input. -/
def numSumsWrong : ChangeSpec := { name := "numSums", fn := fun _ => fun
  | [d1, d2] => { results := [.lit (.bool false)], args := [d1, d2] }
  | _ => none }
def NumSumsWrongFalsely : Prop := numSumsRow.holds Try.pinned (OpenSpec.ofChange numSumsWrong)

/-- 'registrarlaw01.NumDigits': WHATEVER THE INPUT: true; the input reads as it did. -/
def numDigitsSpec : ChangeSpec := { name := "numDigits", fn := fun _ => fun
  | [d1, d2] => { results := [.lit (.bool true)], args := [d1, d2] }
  | _ => none }
def numDigitsRow : OpenClaim := { program := "ytckdcaidhpjjaaa", sum := "59ff6aa95925892a1af4212e814fcb20be38c63a4bd6603d0394398334f78ba2", func := "registrar/registrarlaw01.NumDigits", spec := "numDigits", recurses := true, apart := false }
def NumDigitsSaid : Prop := numDigitsRow.holds Try.pinned (OpenSpec.ofChange numDigitsSpec)

/-- ITS FALSE NEIGHBOUR: 'it returns false'. Refute it at one input. -/
def numDigitsWrong : ChangeSpec := { name := "numDigits", fn := fun _ => fun
  | [d1, d2] => { results := [.lit (.bool false)], args := [d1, d2] }
  | _ => none }
def NumDigitsWrongFalsely : Prop := numDigitsRow.holds Try.pinned (OpenSpec.ofChange numDigitsWrong)

/-- 'registrarlaw01.NumProducts': WHATEVER THE INPUT: true; the input reads as it did. -/
def numProductsSpec : ChangeSpec := { name := "numProducts", fn := fun _ => fun
  | [d1, d2] => { results := [.lit (.bool true)], args := [d1, d2] }
  | _ => none }
def numProductsRow : OpenClaim := { program := "ytckdcaidhpjjaaa", sum := "59ff6aa95925892a1af4212e814fcb20be38c63a4bd6603d0394398334f78ba2", func := "registrar/registrarlaw01.NumProducts", spec := "numProducts", apart := false }
def NumProductsSaid : Prop := numProductsRow.holds Try.pinned (OpenSpec.ofChange numProductsSpec)

/-- ITS FALSE NEIGHBOUR: 'it returns false'. Refute it at one input. -/
def numProductsWrong : ChangeSpec := { name := "numProducts", fn := fun _ => fun
  | [d1, d2] => { results := [.lit (.bool false)], args := [d1, d2] }
  | _ => none }
def NumProductsWrongFalsely : Prop := numProductsRow.holds Try.pinned (OpenSpec.ofChange numProductsWrong)

/-- 'registrarlaw01.NumBack': WHATEVER THE INPUT: true; the input reads as it did. -/
def numBackSpec : ChangeSpec := { name := "numBack", fn := fun _ => fun
  | [d1, d2, d3] => { results := [.lit (.bool true)], args := [d1, d2, d3] }
  | _ => none }
def numBackRow : OpenClaim := { program := "ytckdcaidhpjjaaa", sum := "59ff6aa95925892a1af4212e814fcb20be38c63a4bd6603d0394398334f78ba2", func := "registrar/registrarlaw01.NumBack", spec := "numBack", apart := false }
def NumBackSaid : Prop := numBackRow.holds Try.pinned (OpenSpec.ofChange numBackSpec)

/-- ITS FALSE NEIGHBOUR: 'it returns false'. Refute it at one input. -/
def numBackWrong : ChangeSpec := { name := "numBack", fn := fun _ => fun
  | [d1, d2, d3] => { results := [.lit (.bool false)], args := [d1, d2, d3] }
  | _ => none }
def NumBackWrongFalsely : Prop := numBackRow.holds Try.pinned (OpenSpec.ofChange numBackWrong)

/-- 'registrarlaw09.LexBlanks': WHATEVER THE INPUT: true; the input reads as it did. -/
def lexBlanksSpec : ChangeSpec := { name := "lexBlanks", fn := fun _ => fun
  | [d1, d2] => { results := [.lit (.bool true)], args := [d1, d2] }
  | _ => none }
def lexBlanksRow : OpenClaim := { program := "ytckdcaidhpjjaaa", sum := "59ff6aa95925892a1af4212e814fcb20be38c63a4bd6603d0394398334f78ba2", func := "registrar/registrarlaw09.LexBlanks", spec := "lexBlanks", unfollowed := true, recurses := true, apart := false }
def LexBlanksSaid : Prop := lexBlanksRow.holds Try.pinned (OpenSpec.ofChange lexBlanksSpec)

/-- ITS FALSE NEIGHBOUR: 'it returns false'. Refute it at one input. -/
def lexBlanksWrong : ChangeSpec := { name := "lexBlanks", fn := fun _ => fun
  | [d1, d2] => { results := [.lit (.bool false)], args := [d1, d2] }
  | _ => none }
def LexBlanksWrongFalsely : Prop := lexBlanksRow.holds Try.pinned (OpenSpec.ofChange lexBlanksWrong)

/-- 'registrarlaw09.LexBack': WHATEVER THE INPUT: true; the input reads as it did. -/
def lexBackSpec : ChangeSpec := { name := "lexBack", fn := fun _ => fun
  | [d] => { results := [.lit (.bool true)], args := [d] }
  | _ => none }
def lexBackRow : OpenClaim := { program := "ytckdcaidhpjjaaa", sum := "59ff6aa95925892a1af4212e814fcb20be38c63a4bd6603d0394398334f78ba2", func := "registrar/registrarlaw09.LexBack", spec := "lexBack", unfollowed := true, recurses := true, apart := false }
def LexBackSaid : Prop := lexBackRow.holds Try.pinned (OpenSpec.ofChange lexBackSpec)

/-- ITS FALSE NEIGHBOUR: 'it returns false'. Refute it at one input. -/
def lexBackWrong : ChangeSpec := { name := "lexBack", fn := fun _ => fun
  | [d] => { results := [.lit (.bool false)], args := [d] }
  | _ => none }
def LexBackWrongFalsely : Prop := lexBackRow.holds Try.pinned (OpenSpec.ofChange lexBackWrong)

/- THE SECOND FORM. 'bulk': how many values and letters a reading holds, each counted each time it is reached (what is shared counts as often as it is met; a slice's spare places count too). A statement '..UptoSaid' is the law's where the arguments, and the package variables that the reading takes, are together of bulk at most 1048576: NARROWER than '..Said'. Prove '..Said' where nothing that the law and all that it calls make is longer than what came in: it says more and counts as full. Else prove '..UptoSaid'. A law counts once. -/
mutual
def uptoBulk {H : Type} : DataW H → Nat
  | .lit (.string bytes) => bytes.length + 1
  | .lit _ => 1
  | .nil => 1
  | .ptr d => uptoBulk d + 1
  | .slice elems spare => uptoBulkAll elems + uptoBulkAll spare + 1
  | .agg parts => uptoBulkAll parts + 1
  | .iface _ d => uptoBulk d + 1
  | .map entries => uptoBulkEntries entries + 1
  | .held _ => 1
def uptoBulkAll {H : Type} : List (DataW H) → Nat
  | [] => 0
  | d :: r => uptoBulk d + uptoBulkAll r
def uptoBulkEntries {H : Type} : List (Lit × DataW H) → Nat
  | [] => 0
  | x :: r => uptoBulkEntry x + uptoBulkEntries r
def uptoBulkEntry {H : Type} : Lit × DataW H → Nat
  | (.string bytes, d) => bytes.length + uptoBulk d + 1
  | (_, d) => uptoBulk d + 1
 end
def uptoSmall : (H : Type) → List (DataW H) → Bool := fun _ ds => decide (uptoBulkAll ds ≤ 1048576)
def OpenSpec.upto (s : _root_.Go.ChangeSpec) : _root_.Go.OpenSpec := { _root_.Go.OpenSpec.ofChange s with cond := some uptoSmall }

/-- 'registrarlaw02.TruthLists', WHERE WHAT IT READS IS OF BULK AT MOST 1048576: true; the input reads as it did. -/
def truthListsUptoRow : OpenClaim := { program := "ytckdcaidhpjjaaa", sum := "59ff6aa95925892a1af4212e814fcb20be38c63a4bd6603d0394398334f78ba2", func := "registrar/registrarlaw02.TruthLists", spec := "truthLists", apart := false, narrowed := true }
def TruthListsUptoSaid : Prop := truthListsUptoRow.holds Try.pinned (OpenSpec.upto truthListsSpec)

/-- 'registrarlaw02.TruthParts', WHERE WHAT IT READS IS OF BULK AT MOST 1048576: true; the input reads as it did. -/
def truthPartsUptoRow : OpenClaim := { program := "ytckdcaidhpjjaaa", sum := "59ff6aa95925892a1af4212e814fcb20be38c63a4bd6603d0394398334f78ba2", func := "registrar/registrarlaw02.TruthParts", spec := "truthParts", apart := false, narrowed := true }
def TruthPartsUptoSaid : Prop := truthPartsUptoRow.holds Try.pinned (OpenSpec.upto truthPartsSpec)

/-- 'registrarlaw02.TruthValues', WHERE WHAT IT READS IS OF BULK AT MOST 1048576: true; the input reads as it did. -/
def truthValuesUptoRow : OpenClaim := { program := "ytckdcaidhpjjaaa", sum := "59ff6aa95925892a1af4212e814fcb20be38c63a4bd6603d0394398334f78ba2", func := "registrar/registrarlaw02.TruthValues", spec := "truthValues", apart := false, narrowed := true }
def TruthValuesUptoSaid : Prop := truthValuesUptoRow.holds Try.pinned (OpenSpec.upto truthValuesSpec)

/-- 'registrarlaw02.TruthTurns', WHERE WHAT IT READS IS OF BULK AT MOST 1048576: true; the input reads as it did. -/
def truthTurnsUptoRow : OpenClaim := { program := "ytckdcaidhpjjaaa", sum := "59ff6aa95925892a1af4212e814fcb20be38c63a4bd6603d0394398334f78ba2", func := "registrar/registrarlaw02.TruthTurns", spec := "truthTurns", apart := false, narrowed := true }
def TruthTurnsUptoSaid : Prop := truthTurnsUptoRow.holds Try.pinned (OpenSpec.upto truthTurnsSpec)

/-- 'registrarlaw01.NumSums', WHERE WHAT IT READS IS OF BULK AT MOST 1048576: true; the input reads as it did. -/
def numSumsUptoRow : OpenClaim := { program := "ytckdcaidhpjjaaa", sum := "59ff6aa95925892a1af4212e814fcb20be38c63a4bd6603d0394398334f78ba2", func := "registrar/registrarlaw01.NumSums", spec := "numSums", apart := false, narrowed := true }
def NumSumsUptoSaid : Prop := numSumsUptoRow.holds Try.pinned (OpenSpec.upto numSumsSpec)

/-- 'registrarlaw01.NumDigits', WHERE WHAT IT READS IS OF BULK AT MOST 1048576: true; the input reads as it did. -/
def numDigitsUptoRow : OpenClaim := { program := "ytckdcaidhpjjaaa", sum := "59ff6aa95925892a1af4212e814fcb20be38c63a4bd6603d0394398334f78ba2", func := "registrar/registrarlaw01.NumDigits", spec := "numDigits", recurses := true, apart := false, narrowed := true }
def NumDigitsUptoSaid : Prop := numDigitsUptoRow.holds Try.pinned (OpenSpec.upto numDigitsSpec)

/-- 'registrarlaw01.NumProducts', WHERE WHAT IT READS IS OF BULK AT MOST 1048576: true; the input reads as it did. -/
def numProductsUptoRow : OpenClaim := { program := "ytckdcaidhpjjaaa", sum := "59ff6aa95925892a1af4212e814fcb20be38c63a4bd6603d0394398334f78ba2", func := "registrar/registrarlaw01.NumProducts", spec := "numProducts", apart := false, narrowed := true }
def NumProductsUptoSaid : Prop := numProductsUptoRow.holds Try.pinned (OpenSpec.upto numProductsSpec)

/-- 'registrarlaw01.NumBack', WHERE WHAT IT READS IS OF BULK AT MOST 1048576: true; the input reads as it did. -/
def numBackUptoRow : OpenClaim := { program := "ytckdcaidhpjjaaa", sum := "59ff6aa95925892a1af4212e814fcb20be38c63a4bd6603d0394398334f78ba2", func := "registrar/registrarlaw01.NumBack", spec := "numBack", apart := false, narrowed := true }
def NumBackUptoSaid : Prop := numBackUptoRow.holds Try.pinned (OpenSpec.upto numBackSpec)

/-- 'registrarlaw09.LexBlanks', WHERE WHAT IT READS IS OF BULK AT MOST 1048576: true; the input reads as it did. -/
def lexBlanksUptoRow : OpenClaim := { program := "ytckdcaidhpjjaaa", sum := "59ff6aa95925892a1af4212e814fcb20be38c63a4bd6603d0394398334f78ba2", func := "registrar/registrarlaw09.LexBlanks", spec := "lexBlanks", unfollowed := true, recurses := true, apart := false, narrowed := true }
def LexBlanksUptoSaid : Prop := lexBlanksUptoRow.holds Try.pinned (OpenSpec.upto lexBlanksSpec)

/-- 'registrarlaw09.LexBack', WHERE WHAT IT READS IS OF BULK AT MOST 1048576: true; the input reads as it did. -/
def lexBackUptoRow : OpenClaim := { program := "ytckdcaidhpjjaaa", sum := "59ff6aa95925892a1af4212e814fcb20be38c63a4bd6603d0394398334f78ba2", func := "registrar/registrarlaw09.LexBack", spec := "lexBack", unfollowed := true, recurses := true, apart := false, narrowed := true }
def LexBackUptoSaid : Prop := lexBackUptoRow.holds Try.pinned (OpenSpec.upto lexBackSpec)

end Rows
end Go.Proofs.Ytckdcaidhpjjaaa
