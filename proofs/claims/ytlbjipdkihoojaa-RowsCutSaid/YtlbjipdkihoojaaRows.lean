/-
  No cell of these rows narrows 'for every input' (looked for: loops, veiled, ifaces, maps, wideKeys, modest, calm, conditions, laid).
  DERIVED. THE GIVEN ROWS OF THIS SEAT. 7 by the template 'for every input the law returns true; each argument reads behind the call as it read before'; 0 by the template 'total and deterministic' (their statements: YtlbjipdkihoojaaTotals.lean).
  GIVEN WITH THE SEED: the statements are not yours to turn. If you find one false, say at which input.
  Laid BY PROGRAM, IN A SANDBOX (cutbox-rows.mjs): the forced cells as the released guide's own fill.sh prints them over the translation 33b48ccb4725eb4f… (all of the seat's roots in one cut). By AI agents, Wed Nov 11 2026. No macro, syntax, notation, axiom, sorry.
-/
import Derived.Test.YtlbjipdkihoojaaChecked
import GoSem.Claim
import GoSem.ClaimJoined
import GoSem.ClaimMapViews
import Derived.JoinedTies
import Derived.KernelRfl
namespace Go.Proofs.Ytlbjipdkihoojaa
/- THE CELL 'sum', in the pinned program and in every row, IS THE sha256 OF THE DUMP (.gsa) THAT YtlbjipdkihoojaaProg.lean LOADS. Nothing in Lean hashes anything: it is a label: what it is worth is what the hold of that sum in a sandbox is worth. -/
noncomputable def Try.pinned : Pinned := { name := "ytlbjipdkihoojaa", sum := "33b48ccb4725eb4f52b5b093d03318c0b91dd386e541201360bbd25413bd1538", checked := Try.checked }
namespace Rows
def none {H : Type} : Left H := { results := [], args := [] }

/-- 'registrarlaw05.RowsPuts': WHATEVER THE INPUT: true; the input reads as it did. -/
def rowsPutsSpec : ChangeSpec := { name := "rowsPuts", fn := fun _ => fun
  | [d] => { results := [.lit (.bool true)], args := [d] }
  | _ => none }
def rowsPutsRow : OpenClaim := { program := "ytlbjipdkihoojaa", sum := "33b48ccb4725eb4f52b5b093d03318c0b91dd386e541201360bbd25413bd1538", func := "registrar/registrarlaw05.RowsPuts", spec := "rowsPuts", unfollowed := true, recurses := true, apart := false }
def RowsPutsSaid : Prop := rowsPutsRow.holds Try.pinned (OpenSpec.ofChange rowsPutsSpec)

/-- ITS FALSE NEIGHBOUR: 'it returns false'. Refute it at one input. -/
def rowsPutsWrong : ChangeSpec := { name := "rowsPuts", fn := fun _ => fun
  | [d] => { results := [.lit (.bool false)], args := [d] }
  | _ => none }
def RowsPutsWrongFalsely : Prop := rowsPutsRow.holds Try.pinned (OpenSpec.ofChange rowsPutsWrong)

/-- 'registrarlaw05.RowsSame': WHATEVER THE INPUT: true; the input reads as it did. -/
def rowsSameSpec : ChangeSpec := { name := "rowsSame", fn := fun _ => fun
  | [d1, d2] => { results := [.lit (.bool true)], args := [d1, d2] }
  | _ => none }
def rowsSameRow : OpenClaim := { program := "ytlbjipdkihoojaa", sum := "33b48ccb4725eb4f52b5b093d03318c0b91dd386e541201360bbd25413bd1538", func := "registrar/registrarlaw05.RowsSame", spec := "rowsSame", unfollowed := true, recurses := true, apart := false }
def RowsSameSaid : Prop := rowsSameRow.holds Try.pinned (OpenSpec.ofChange rowsSameSpec)

/-- ITS FALSE NEIGHBOUR: 'it returns false'. Refute it at one input. -/
def rowsSameWrong : ChangeSpec := { name := "rowsSame", fn := fun _ => fun
  | [d1, d2] => { results := [.lit (.bool false)], args := [d1, d2] }
  | _ => none }
def RowsSameWrongFalsely : Prop := rowsSameRow.holds Try.pinned (OpenSpec.ofChange rowsSameWrong)

/-- 'registrarlaw04.KeysPuts': WHATEVER THE INPUT: true; the input reads as it did. -/
def keysPutsSpec : ChangeSpec := { name := "keysPuts", fn := fun _ => fun
  | [d] => { results := [.lit (.bool true)], args := [d] }
  | _ => none }
def keysPutsRow : OpenClaim := { program := "ytlbjipdkihoojaa", sum := "33b48ccb4725eb4f52b5b093d03318c0b91dd386e541201360bbd25413bd1538", func := "registrar/registrarlaw04.KeysPuts", spec := "keysPuts", apart := false }
def KeysPutsSaid : Prop := keysPutsRow.holds Try.pinned (OpenSpec.ofChange keysPutsSpec)

/-- ITS FALSE NEIGHBOUR: 'it returns false'. Refute it at one input. -/
def keysPutsWrong : ChangeSpec := { name := "keysPuts", fn := fun _ => fun
  | [d] => { results := [.lit (.bool false)], args := [d] }
  | _ => none }
def KeysPutsWrongFalsely : Prop := keysPutsRow.holds Try.pinned (OpenSpec.ofChange keysPutsWrong)

/-- 'registrarlaw04.KeysBack': WHATEVER THE INPUT: true; the input reads as it did. -/
def keysBackSpec : ChangeSpec := { name := "keysBack", fn := fun _ => fun
  | [d1, d2] => { results := [.lit (.bool true)], args := [d1, d2] }
  | _ => none }
def keysBackRow : OpenClaim := { program := "ytlbjipdkihoojaa", sum := "33b48ccb4725eb4f52b5b093d03318c0b91dd386e541201360bbd25413bd1538", func := "registrar/registrarlaw04.KeysBack", spec := "keysBack", apart := false }
def KeysBackSaid : Prop := keysBackRow.holds Try.pinned (OpenSpec.ofChange keysBackSpec)

/-- ITS FALSE NEIGHBOUR: 'it returns false'. Refute it at one input. -/
def keysBackWrong : ChangeSpec := { name := "keysBack", fn := fun _ => fun
  | [d1, d2] => { results := [.lit (.bool false)], args := [d1, d2] }
  | _ => none }
def KeysBackWrongFalsely : Prop := keysBackRow.holds Try.pinned (OpenSpec.ofChange keysBackWrong)

/-- 'registrarlaw04.KeysStand': WHATEVER THE INPUT: true; the input reads as it did. -/
def keysStandSpec : ChangeSpec := { name := "keysStand", fn := fun _ => fun
  | [d1, d2] => { results := [.lit (.bool true)], args := [d1, d2] }
  | _ => none }
def keysStandRow : OpenClaim := { program := "ytlbjipdkihoojaa", sum := "33b48ccb4725eb4f52b5b093d03318c0b91dd386e541201360bbd25413bd1538", func := "registrar/registrarlaw04.KeysStand", spec := "keysStand", apart := false }
def KeysStandSaid : Prop := keysStandRow.holds Try.pinned (OpenSpec.ofChange keysStandSpec)

/-- ITS FALSE NEIGHBOUR: 'it returns false'. Refute it at one input. -/
def keysStandWrong : ChangeSpec := { name := "keysStand", fn := fun _ => fun
  | [d1, d2] => { results := [.lit (.bool false)], args := [d1, d2] }
  | _ => none }
def KeysStandWrongFalsely : Prop := keysStandRow.holds Try.pinned (OpenSpec.ofChange keysStandWrong)

/-- 'registrarlaw05.RowsCut': WHATEVER THE INPUT: true; the input reads as it did. -/
def rowsCutSpec : ChangeSpec := { name := "rowsCut", fn := fun _ => fun
  | [d1, d2, d3] => { results := [.lit (.bool true)], args := [d1, d2, d3] }
  | _ => none }
def rowsCutRow : OpenClaim := { program := "ytlbjipdkihoojaa", sum := "33b48ccb4725eb4f52b5b093d03318c0b91dd386e541201360bbd25413bd1538", func := "registrar/registrarlaw05.RowsCut", spec := "rowsCut", unfollowed := true, recurses := true, apart := false }
def RowsCutSaid : Prop := rowsCutRow.holds Try.pinned (OpenSpec.ofChange rowsCutSpec)

/-- ITS FALSE NEIGHBOUR: 'it returns false'. Refute it at one input. -/
def rowsCutWrong : ChangeSpec := { name := "rowsCut", fn := fun _ => fun
  | [d1, d2, d3] => { results := [.lit (.bool false)], args := [d1, d2, d3] }
  | _ => none }
def RowsCutWrongFalsely : Prop := rowsCutRow.holds Try.pinned (OpenSpec.ofChange rowsCutWrong)

/-- 'registrarlaw05.RowsBack': WHATEVER THE INPUT: true; the input reads as it did. -/
def rowsBackSpec : ChangeSpec := { name := "rowsBack", fn := fun _ => fun
  | [d1, d2] => { results := [.lit (.bool true)], args := [d1, d2] }
  | _ => none }
def rowsBackRow : OpenClaim := { program := "ytlbjipdkihoojaa", sum := "33b48ccb4725eb4f52b5b093d03318c0b91dd386e541201360bbd25413bd1538", func := "registrar/registrarlaw05.RowsBack", spec := "rowsBack", unfollowed := true, recurses := true, apart := false }
def RowsBackSaid : Prop := rowsBackRow.holds Try.pinned (OpenSpec.ofChange rowsBackSpec)

/-- ITS FALSE NEIGHBOUR: 'it returns false'. Refute it at one input. -/
def rowsBackWrong : ChangeSpec := { name := "rowsBack", fn := fun _ => fun
  | [d1, d2] => { results := [.lit (.bool false)], args := [d1, d2] }
  | _ => none }
def RowsBackWrongFalsely : Prop := rowsBackRow.holds Try.pinned (OpenSpec.ofChange rowsBackWrong)

/- THE SECOND FORM. 'bulk': how many values and letters a reading holds, each counted each time it is reached (what is shared counts as often as it is met; a slice's spare places count too). A statement '..UptoSaid' is the law's where the arguments, and the package variables that the reading takes, are together of bulk at most 1048576: NARROWER than '..Said'. Prove '..Said' where nothing that the law and all that it calls make is longer than what came in: it says more and counts as full. Else prove '..UptoSaid'. A law counts once. -/
mutual
def uptoBulk {H : Type} : DataW H → Nat
  | .lit (.string bytes) => bytes.length + 1
  | .lit _ => 1
  | .nil => 1
  | .ptr d => uptoBulk d + 1
  | .slice elems spare => uptoBulkAll elems + uptoBulkAll spare + 1
  | .agg parts => uptoBulkAll parts + 1
  | .iface _ d => uptoBulk d + 1
  | .map entries => uptoBulkEntries entries + 1
  | .held _ => 1
def uptoBulkAll {H : Type} : List (DataW H) → Nat
  | [] => 0
  | d :: r => uptoBulk d + uptoBulkAll r
def uptoBulkEntries {H : Type} : List (Lit × DataW H) → Nat
  | [] => 0
  | x :: r => uptoBulkEntry x + uptoBulkEntries r
def uptoBulkEntry {H : Type} : Lit × DataW H → Nat
  | (.string bytes, d) => bytes.length + uptoBulk d + 1
  | (_, d) => uptoBulk d + 1
 end
def uptoSmall : (H : Type) → List (DataW H) → Bool := fun _ ds => decide (uptoBulkAll ds ≤ 1048576)
def OpenSpec.upto (s : _root_.Go.ChangeSpec) : _root_.Go.OpenSpec := { _root_.Go.OpenSpec.ofChange s with cond := some uptoSmall }

/-- 'registrarlaw05.RowsPuts', WHERE WHAT IT READS IS OF BULK AT MOST 1048576: true; the input reads as it did. -/
def rowsPutsUptoRow : OpenClaim := { program := "ytlbjipdkihoojaa", sum := "33b48ccb4725eb4f52b5b093d03318c0b91dd386e541201360bbd25413bd1538", func := "registrar/registrarlaw05.RowsPuts", spec := "rowsPuts", unfollowed := true, recurses := true, apart := false, narrowed := true }
def RowsPutsUptoSaid : Prop := rowsPutsUptoRow.holds Try.pinned (OpenSpec.upto rowsPutsSpec)

/-- 'registrarlaw05.RowsSame', WHERE WHAT IT READS IS OF BULK AT MOST 1048576: true; the input reads as it did. -/
def rowsSameUptoRow : OpenClaim := { program := "ytlbjipdkihoojaa", sum := "33b48ccb4725eb4f52b5b093d03318c0b91dd386e541201360bbd25413bd1538", func := "registrar/registrarlaw05.RowsSame", spec := "rowsSame", unfollowed := true, recurses := true, apart := false, narrowed := true }
def RowsSameUptoSaid : Prop := rowsSameUptoRow.holds Try.pinned (OpenSpec.upto rowsSameSpec)

/-- 'registrarlaw04.KeysPuts', WHERE WHAT IT READS IS OF BULK AT MOST 1048576: true; the input reads as it did. -/
def keysPutsUptoRow : OpenClaim := { program := "ytlbjipdkihoojaa", sum := "33b48ccb4725eb4f52b5b093d03318c0b91dd386e541201360bbd25413bd1538", func := "registrar/registrarlaw04.KeysPuts", spec := "keysPuts", apart := false, narrowed := true }
def KeysPutsUptoSaid : Prop := keysPutsUptoRow.holds Try.pinned (OpenSpec.upto keysPutsSpec)

/-- 'registrarlaw04.KeysBack', WHERE WHAT IT READS IS OF BULK AT MOST 1048576: true; the input reads as it did. -/
def keysBackUptoRow : OpenClaim := { program := "ytlbjipdkihoojaa", sum := "33b48ccb4725eb4f52b5b093d03318c0b91dd386e541201360bbd25413bd1538", func := "registrar/registrarlaw04.KeysBack", spec := "keysBack", apart := false, narrowed := true }
def KeysBackUptoSaid : Prop := keysBackUptoRow.holds Try.pinned (OpenSpec.upto keysBackSpec)

/-- 'registrarlaw04.KeysStand', WHERE WHAT IT READS IS OF BULK AT MOST 1048576: true; the input reads as it did. -/
def keysStandUptoRow : OpenClaim := { program := "ytlbjipdkihoojaa", sum := "33b48ccb4725eb4f52b5b093d03318c0b91dd386e541201360bbd25413bd1538", func := "registrar/registrarlaw04.KeysStand", spec := "keysStand", apart := false, narrowed := true }
def KeysStandUptoSaid : Prop := keysStandUptoRow.holds Try.pinned (OpenSpec.upto keysStandSpec)

/-- 'registrarlaw05.RowsCut', WHERE WHAT IT READS IS OF BULK AT MOST 1048576: true; the input reads as it did. -/
def rowsCutUptoRow : OpenClaim := { program := "ytlbjipdkihoojaa", sum := "33b48ccb4725eb4f52b5b093d03318c0b91dd386e541201360bbd25413bd1538", func := "registrar/registrarlaw05.RowsCut", spec := "rowsCut", unfollowed := true, recurses := true, apart := false, narrowed := true }
def RowsCutUptoSaid : Prop := rowsCutUptoRow.holds Try.pinned (OpenSpec.upto rowsCutSpec)

/-- 'registrarlaw05.RowsBack', WHERE WHAT IT READS IS OF BULK AT MOST 1048576: true; the input reads as it did. -/
def rowsBackUptoRow : OpenClaim := { program := "ytlbjipdkihoojaa", sum := "33b48ccb4725eb4f52b5b093d03318c0b91dd386e541201360bbd25413bd1538", func := "registrar/registrarlaw05.RowsBack", spec := "rowsBack", unfollowed := true, recurses := true, apart := false, narrowed := true }
def RowsBackUptoSaid : Prop := rowsBackUptoRow.holds Try.pinned (OpenSpec.upto rowsBackSpec)

end Rows
end Go.Proofs.Ytlbjipdkihoojaa
