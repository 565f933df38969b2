/-
  No cell of these rows narrows 'for every input' (looked for: loops, veiled, ifaces, maps, wideKeys, modest, calm, conditions, laid).
  DERIVED. THE GIVEN ROWS OF THIS SEAT. 4 by the template 'for every input the law returns true; each argument reads behind the call as it read before'; 0 by the template 'total and deterministic' (their statements: YtkghogfcfocmpaaTotals.lean).
  GIVEN WITH THE SEED: the statements are not yours to turn. If you find one false, say at which input.
  Laid BY PROGRAM, IN A SANDBOX (cutbox-rows.mjs): the forced cells as the released guide's own fill.sh prints them over the translation 9376f9bba3ddfec8… (all of the seat's roots in one cut). By AI agents, Wed Nov 11 2026. No macro, syntax, notation, axiom, sorry.
-/
import Derived.Test.YtkghogfcfocmpaaChecked
import GoSem.Claim
import GoSem.ClaimJoined
import GoSem.ClaimMapViews
import Derived.JoinedTies
import Derived.KernelRfl
namespace Go.Proofs.Ytkghogfcfocmpaa
/- THE CELL 'sum', in the pinned program and in every row, IS THE sha256 OF THE DUMP (.gsa) THAT YtkghogfcfocmpaaProg.lean LOADS. Nothing in Lean hashes anything: it is a label: what it is worth is what the hold of that sum in a sandbox is worth. -/
noncomputable def Try.pinned : Pinned := { name := "ytkghogfcfocmpaa", sum := "9376f9bba3ddfec81ee6540c1b21950a40768b480399bcd8f2b19cd0e9a03589", checked := Try.checked }
namespace Rows
def none {H : Type} : Left H := { results := [], args := [] }

/-- 'wardmotelaw19.LearnFirm': WHATEVER THE INPUT: true; the input reads as it did. -/
def learnFirmSpec : ChangeSpec := { name := "learnFirm", fn := fun _ => fun
  | [d1, d2] => { results := [.lit (.bool true)], args := [d1, d2] }
  | _ => none }
def learnFirmRow : OpenClaim := { program := "ytkghogfcfocmpaa", sum := "9376f9bba3ddfec81ee6540c1b21950a40768b480399bcd8f2b19cd0e9a03589", func := "wardmote/wardmotelaw19.LearnFirm", spec := "learnFirm", unfollowed := true, recurses := true, apart := false }
def LearnFirmSaid : Prop := learnFirmRow.holds Try.pinned (OpenSpec.ofChange learnFirmSpec)

/-- ITS FALSE NEIGHBOUR: 'it returns false'. Refute it at one input. -/
def learnFirmWrong : ChangeSpec := { name := "learnFirm", fn := fun _ => fun
  | [d1, d2] => { results := [.lit (.bool false)], args := [d1, d2] }
  | _ => none }
def LearnFirmWrongFalsely : Prop := learnFirmRow.holds Try.pinned (OpenSpec.ofChange learnFirmWrong)

/-- 'wardmotelaw19.LearnNumbers': WHATEVER THE INPUT: true; the input reads as it did. -/
def learnNumbersSpec : ChangeSpec := { name := "learnNumbers", fn := fun _ => fun
  | [] => { results := [.lit (.bool true)], args := [] }
  | _ => none }
def learnNumbersRow : OpenClaim := { program := "ytkghogfcfocmpaa", sum := "9376f9bba3ddfec81ee6540c1b21950a40768b480399bcd8f2b19cd0e9a03589", func := "wardmote/wardmotelaw19.LearnNumbers", spec := "learnNumbers", unfollowed := true, recurses := true, apart := false }
def LearnNumbersSaid : Prop := learnNumbersRow.holds Try.pinned (OpenSpec.ofChange learnNumbersSpec)

/-- ITS FALSE NEIGHBOUR: 'it returns false'. Refute it at one input. -/
def learnNumbersWrong : ChangeSpec := { name := "learnNumbers", fn := fun _ => fun
  | [] => { results := [.lit (.bool false)], args := [] }
  | _ => none }
def LearnNumbersWrongFalsely : Prop := learnNumbersRow.holds Try.pinned (OpenSpec.ofChange learnNumbersWrong)

/-- 'wardmotelaw19.LearnPlays': WHATEVER THE INPUT: true; the input reads as it did. -/
def learnPlaysSpec : ChangeSpec := { name := "learnPlays", fn := fun _ => fun
  | [d1, d2] => { results := [.lit (.bool true)], args := [d1, d2] }
  | _ => none }
def learnPlaysRow : OpenClaim := { program := "ytkghogfcfocmpaa", sum := "9376f9bba3ddfec81ee6540c1b21950a40768b480399bcd8f2b19cd0e9a03589", func := "wardmote/wardmotelaw19.LearnPlays", spec := "learnPlays", unfollowed := true, recurses := true, apart := false }
def LearnPlaysSaid : Prop := learnPlaysRow.holds Try.pinned (OpenSpec.ofChange learnPlaysSpec)

/-- ITS FALSE NEIGHBOUR: 'it returns false'. Refute it at one input. -/
def learnPlaysWrong : ChangeSpec := { name := "learnPlays", fn := fun _ => fun
  | [d1, d2] => { results := [.lit (.bool false)], args := [d1, d2] }
  | _ => none }
def LearnPlaysWrongFalsely : Prop := learnPlaysRow.holds Try.pinned (OpenSpec.ofChange learnPlaysWrong)

/-- 'wardmotelaw19.LearnQuorum': WHATEVER THE INPUT: true; the input reads as it did. -/
def learnQuorumSpec : ChangeSpec := { name := "learnQuorum", fn := fun _ => fun
  | [d1, d2, d3, d4, d5] => { results := [.lit (.bool true)], args := [d1, d2, d3, d4, d5] }
  | _ => none }
def learnQuorumRow : OpenClaim := { program := "ytkghogfcfocmpaa", sum := "9376f9bba3ddfec81ee6540c1b21950a40768b480399bcd8f2b19cd0e9a03589", func := "wardmote/wardmotelaw19.LearnQuorum", spec := "learnQuorum", unfollowed := true, recurses := true, apart := false }
def LearnQuorumSaid : Prop := learnQuorumRow.holds Try.pinned (OpenSpec.ofChange learnQuorumSpec)

/-- ITS FALSE NEIGHBOUR: 'it returns false'. Refute it at one input. -/
def learnQuorumWrong : ChangeSpec := { name := "learnQuorum", fn := fun _ => fun
  | [d1, d2, d3, d4, d5] => { results := [.lit (.bool false)], args := [d1, d2, d3, d4, d5] }
  | _ => none }
def LearnQuorumWrongFalsely : Prop := learnQuorumRow.holds Try.pinned (OpenSpec.ofChange learnQuorumWrong)

/- THE SECOND FORM. 'bulk': how many values and letters a reading holds, each counted each time it is reached (what is shared counts as often as it is met; a slice's spare places count too). A statement '..UptoSaid' is the law's where the arguments, and the package variables that the reading takes, are together of bulk at most 1048576: NARROWER than '..Said'. Prove '..Said' where nothing that the law and all that it calls make is longer than what came in: it says more and counts as full. Else prove '..UptoSaid'. A law counts once. -/
mutual
def uptoBulk {H : Type} : DataW H → Nat
  | .lit (.string bytes) => bytes.length + 1
  | .lit _ => 1
  | .nil => 1
  | .ptr d => uptoBulk d + 1
  | .slice elems spare => uptoBulkAll elems + uptoBulkAll spare + 1
  | .agg parts => uptoBulkAll parts + 1
  | .iface _ d => uptoBulk d + 1
  | .map entries => uptoBulkEntries entries + 1
  | .held _ => 1
def uptoBulkAll {H : Type} : List (DataW H) → Nat
  | [] => 0
  | d :: r => uptoBulk d + uptoBulkAll r
def uptoBulkEntries {H : Type} : List (Lit × DataW H) → Nat
  | [] => 0
  | x :: r => uptoBulkEntry x + uptoBulkEntries r
def uptoBulkEntry {H : Type} : Lit × DataW H → Nat
  | (.string bytes, d) => bytes.length + uptoBulk d + 1
  | (_, d) => uptoBulk d + 1
 end
def uptoSmall : (H : Type) → List (DataW H) → Bool := fun _ ds => decide (uptoBulkAll ds ≤ 1048576)
def OpenSpec.upto (s : _root_.Go.ChangeSpec) : _root_.Go.OpenSpec := { _root_.Go.OpenSpec.ofChange s with cond := some uptoSmall }

/-- 'wardmotelaw19.LearnFirm', WHERE WHAT IT READS IS OF BULK AT MOST 1048576: true; the input reads as it did. -/
def learnFirmUptoRow : OpenClaim := { program := "ytkghogfcfocmpaa", sum := "9376f9bba3ddfec81ee6540c1b21950a40768b480399bcd8f2b19cd0e9a03589", func := "wardmote/wardmotelaw19.LearnFirm", spec := "learnFirm", unfollowed := true, recurses := true, apart := false, narrowed := true }
def LearnFirmUptoSaid : Prop := learnFirmUptoRow.holds Try.pinned (OpenSpec.upto learnFirmSpec)

/-- 'wardmotelaw19.LearnNumbers', WHERE WHAT IT READS IS OF BULK AT MOST 1048576: true; the input reads as it did. -/
def learnNumbersUptoRow : OpenClaim := { program := "ytkghogfcfocmpaa", sum := "9376f9bba3ddfec81ee6540c1b21950a40768b480399bcd8f2b19cd0e9a03589", func := "wardmote/wardmotelaw19.LearnNumbers", spec := "learnNumbers", unfollowed := true, recurses := true, apart := false, narrowed := true }
def LearnNumbersUptoSaid : Prop := learnNumbersUptoRow.holds Try.pinned (OpenSpec.upto learnNumbersSpec)

/-- 'wardmotelaw19.LearnPlays', WHERE WHAT IT READS IS OF BULK AT MOST 1048576: true; the input reads as it did. -/
def learnPlaysUptoRow : OpenClaim := { program := "ytkghogfcfocmpaa", sum := "9376f9bba3ddfec81ee6540c1b21950a40768b480399bcd8f2b19cd0e9a03589", func := "wardmote/wardmotelaw19.LearnPlays", spec := "learnPlays", unfollowed := true, recurses := true, apart := false, narrowed := true }
def LearnPlaysUptoSaid : Prop := learnPlaysUptoRow.holds Try.pinned (OpenSpec.upto learnPlaysSpec)

/-- 'wardmotelaw19.LearnQuorum', WHERE WHAT IT READS IS OF BULK AT MOST 1048576: true; the input reads as it did. -/
def learnQuorumUptoRow : OpenClaim := { program := "ytkghogfcfocmpaa", sum := "9376f9bba3ddfec81ee6540c1b21950a40768b480399bcd8f2b19cd0e9a03589", func := "wardmote/wardmotelaw19.LearnQuorum", spec := "learnQuorum", unfollowed := true, recurses := true, apart := false, narrowed := true }
def LearnQuorumUptoSaid : Prop := learnQuorumUptoRow.holds Try.pinned (OpenSpec.upto learnQuorumSpec)

end Rows
end Go.Proofs.Ytkghogfcfocmpaa
