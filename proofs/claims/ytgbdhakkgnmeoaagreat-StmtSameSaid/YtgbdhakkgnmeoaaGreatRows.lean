/-
  NARROWER THAN 'FOR EVERY INPUT', by the rows' own cells (each row's printed sentence says how): StmtSame: loops · StmtApart: loops.
  DERIVED. THE GIVEN ROWS OF THIS SEAT. 2 by the template 'for every input the law returns true; each argument reads behind the call as it read before'; 0 by the template 'total and deterministic' (their statements: YtgbdhakkgnmeoaaGreatTotals.lean).
  GIVEN WITH THE SEED: the statements are not yours to turn. If you find one false, say at which input.
  Laid BY PROGRAM, IN A SANDBOX (cutbox-rows.mjs): the forced cells as the released guide's own fill.sh prints them over the translation 99e594c4ea2f2ce0… (all of the seat's roots in one cut). By AI agents, Wed Nov 11 2026. No macro, syntax, notation, axiom, sorry.
-/
import Derived.Test.YtgbdhakkgnmeoaaGreatChecked
import GoSem.Claim
import GoSem.ClaimJoined
import GoSem.ClaimMapViews
import Derived.JoinedTies
import Derived.KernelRfl
namespace Go.Proofs.YtgbdhakkgnmeoaaGreat
/- THE CELL 'sum', in the pinned program and in every row, IS THE sha256 OF THE DUMP (.gsa) THAT YtgbdhakkgnmeoaaGreatProg.lean LOADS. Nothing in Lean hashes anything: it is a label: what it is worth is what the hold of that sum in a sandbox is worth. -/
noncomputable def Tryz.pinned : Pinned := { name := "ytgbdhakkgnmeoaagreat", sum := "99e594c4ea2f2ce00819d177c08850b26eb771503951366156dbf3e8d66ae938", checked := Tryz.checked }
namespace Rows
def none {H : Type} : Left H := { results := [], args := [] }

/-- 'registrarlaw12.StmtSame': WHATEVER THE INPUT: true; the input reads as it did. -/
def stmtSameSpec : ChangeSpec := { name := "stmtSame", fn := fun _ => fun
  | [d1, d2] => { results := [.lit (.bool true)], args := [d1, d2] }
  | _ => none }
def stmtSameRow : OpenClaim := { program := "ytgbdhakkgnmeoaagreat", sum := "99e594c4ea2f2ce00819d177c08850b26eb771503951366156dbf3e8d66ae938", func := "registrar/registrarlaw12.StmtSame", spec := "stmtSame", inPlace := ["internal/abi.NoEscape", "internal/bytealg.CountString", "internal/bytealg.IndexByteString", "internal/bytealg.IndexString", "internal/bytealg.MakeNoZero"], unfollowed := true, recurses := true, named := ["internal/bytealg.MaxLen"], loops := true, apart := false }
def StmtSameSaid : Prop := stmtSameRow.holds Tryz.pinned (OpenSpec.ofChange stmtSameSpec)

/-- ITS FALSE NEIGHBOUR: 'it returns false'. Refute it at one input. -/
def stmtSameWrong : ChangeSpec := { name := "stmtSame", fn := fun _ => fun
  | [d1, d2] => { results := [.lit (.bool false)], args := [d1, d2] }
  | _ => none }
def StmtSameWrongFalsely : Prop := stmtSameRow.holds Tryz.pinned (OpenSpec.ofChange stmtSameWrong)

/-- 'registrarlaw12.StmtApart': WHATEVER THE INPUT: true; the input reads as it did. -/
def stmtApartSpec : ChangeSpec := { name := "stmtApart", fn := fun _ => fun
  | [d1, d2, d3] => { results := [.lit (.bool true)], args := [d1, d2, d3] }
  | _ => none }
def stmtApartRow : OpenClaim := { program := "ytgbdhakkgnmeoaagreat", sum := "99e594c4ea2f2ce00819d177c08850b26eb771503951366156dbf3e8d66ae938", func := "registrar/registrarlaw12.StmtApart", spec := "stmtApart", inPlace := ["internal/abi.NoEscape", "internal/bytealg.CountString", "internal/bytealg.IndexByteString", "internal/bytealg.IndexString", "internal/bytealg.MakeNoZero"], unfollowed := true, recurses := true, named := ["internal/bytealg.MaxLen"], loops := true, apart := false }
def StmtApartSaid : Prop := stmtApartRow.holds Tryz.pinned (OpenSpec.ofChange stmtApartSpec)

/-- ITS FALSE NEIGHBOUR: 'it returns false'. Refute it at one input. -/
def stmtApartWrong : ChangeSpec := { name := "stmtApart", fn := fun _ => fun
  | [d1, d2, d3] => { results := [.lit (.bool false)], args := [d1, d2, d3] }
  | _ => none }
def StmtApartWrongFalsely : Prop := stmtApartRow.holds Tryz.pinned (OpenSpec.ofChange stmtApartWrong)

/- THE SECOND FORM. 'bulk': how many values and letters a reading holds, each counted each time it is reached (what is shared counts as often as it is met; a slice's spare places count too). A statement '..UptoSaid' is the law's where the arguments, and the package variables that the reading takes, are together of bulk at most 1048576: NARROWER than '..Said'. Prove '..Said' where nothing that the law and all that it calls make is longer than what came in: it says more and counts as full. Else prove '..UptoSaid'. A law counts once. -/
mutual
def uptoBulk {H : Type} : DataW H → Nat
  | .lit (.string bytes) => bytes.length + 1
  | .lit _ => 1
  | .nil => 1
  | .ptr d => uptoBulk d + 1
  | .slice elems spare => uptoBulkAll elems + uptoBulkAll spare + 1
  | .agg parts => uptoBulkAll parts + 1
  | .iface _ d => uptoBulk d + 1
  | .map entries => uptoBulkEntries entries + 1
  | .held _ => 1
def uptoBulkAll {H : Type} : List (DataW H) → Nat
  | [] => 0
  | d :: r => uptoBulk d + uptoBulkAll r
def uptoBulkEntries {H : Type} : List (Lit × DataW H) → Nat
  | [] => 0
  | x :: r => uptoBulkEntry x + uptoBulkEntries r
def uptoBulkEntry {H : Type} : Lit × DataW H → Nat
  | (.string bytes, d) => bytes.length + uptoBulk d + 1
  | (_, d) => uptoBulk d + 1
 end
def uptoSmall : (H : Type) → List (DataW H) → Bool := fun _ ds => decide (uptoBulkAll ds ≤ 1048576)
def OpenSpec.upto (s : _root_.Go.ChangeSpec) : _root_.Go.OpenSpec := { _root_.Go.OpenSpec.ofChange s with cond := some uptoSmall }

/-- 'registrarlaw12.StmtSame', WHERE WHAT IT READS IS OF BULK AT MOST 1048576: true; the input reads as it did. -/
def stmtSameUptoRow : OpenClaim := { program := "ytgbdhakkgnmeoaagreat", sum := "99e594c4ea2f2ce00819d177c08850b26eb771503951366156dbf3e8d66ae938", func := "registrar/registrarlaw12.StmtSame", spec := "stmtSame", inPlace := ["internal/abi.NoEscape", "internal/bytealg.CountString", "internal/bytealg.IndexByteString", "internal/bytealg.IndexString", "internal/bytealg.MakeNoZero"], unfollowed := true, recurses := true, named := ["internal/bytealg.MaxLen"], loops := true, apart := false, narrowed := true }
def StmtSameUptoSaid : Prop := stmtSameUptoRow.holds Tryz.pinned (OpenSpec.upto stmtSameSpec)

/-- 'registrarlaw12.StmtApart', WHERE WHAT IT READS IS OF BULK AT MOST 1048576: true; the input reads as it did. -/
def stmtApartUptoRow : OpenClaim := { program := "ytgbdhakkgnmeoaagreat", sum := "99e594c4ea2f2ce00819d177c08850b26eb771503951366156dbf3e8d66ae938", func := "registrar/registrarlaw12.StmtApart", spec := "stmtApart", inPlace := ["internal/abi.NoEscape", "internal/bytealg.CountString", "internal/bytealg.IndexByteString", "internal/bytealg.IndexString", "internal/bytealg.MakeNoZero"], unfollowed := true, recurses := true, named := ["internal/bytealg.MaxLen"], loops := true, apart := false, narrowed := true }
def StmtApartUptoSaid : Prop := stmtApartUptoRow.holds Tryz.pinned (OpenSpec.upto stmtApartSpec)

end Rows
end Go.Proofs.YtgbdhakkgnmeoaaGreat
