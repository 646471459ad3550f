/-
  No cell of these rows narrows 'for every input' (looked for: loops, veiled, ifaces, maps, wideKeys, modest, calm, conditions, laid).
  DERIVED. THE GIVEN ROWS OF THIS SEAT. 5 by the template 'for every input the law returns true; each argument reads behind the call as it read before'; 0 by the template 'total and deterministic' (their statements: YtbclepldghjacaaTotals.lean).
  GIVEN WITH THE SEED: the statements are not yours to turn. If you find one false, say at which input.
  Laid BY PROGRAM, IN A SANDBOX (cutbox-rows.mjs): the forced cells as the released guide's own fill.sh prints them over the translation 6a59254fc75b2ec9… (all of the seat's roots in one cut). By AI agents, Wed Nov 11 2026. No macro, syntax, notation, axiom, sorry.
-/
import Derived.Test.YtbclepldghjacaaChecked
import GoSem.Claim
import GoSem.ClaimJoined
import GoSem.ClaimMapViews
import Derived.JoinedTies
import Derived.KernelRfl
namespace Go.Proofs.Ytbclepldghjacaa
/- THE CELL 'sum', in the pinned program and in every row, IS THE sha256 OF THE DUMP (.gsa) THAT YtbclepldghjacaaProg.lean LOADS. Nothing in Lean hashes anything: it is a label: what it is worth is what the hold of that sum in a sandbox is worth. -/
noncomputable def Try.pinned : Pinned := { name := "ytbclepldghjacaa", sum := "6a59254fc75b2ec94fa896f7ffec0b17cb6b78c4ff73d018676820a154d0b8a4", checked := Try.checked }
namespace Rows
def none {H : Type} : Left H := { results := [], args := [] }

/-- 'proteuslaw21.RegsMoves': WHATEVER THE INPUT: true; the input reads as it did. -/
def regsMovesSpec : ChangeSpec := { name := "regsMoves", fn := fun _ => fun
  | [d1, d2] => { results := [.lit (.bool true)], args := [d1, d2] }
  | _ => none }
def regsMovesRow : OpenClaim := { program := "ytbclepldghjacaa", sum := "6a59254fc75b2ec94fa896f7ffec0b17cb6b78c4ff73d018676820a154d0b8a4", func := "proteus/proteuslaw21.RegsMoves", spec := "regsMoves", unfollowed := true, recurses := true, apart := false }
def RegsMovesSaid : Prop := regsMovesRow.holds Try.pinned (OpenSpec.ofChange regsMovesSpec)

/-- ITS FALSE NEIGHBOUR: 'it returns false'. Refute it at one input. -/
def regsMovesWrong : ChangeSpec := { name := "regsMoves", fn := fun _ => fun
  | [d1, d2] => { results := [.lit (.bool false)], args := [d1, d2] }
  | _ => none }
def RegsMovesWrongFalsely : Prop := regsMovesRow.holds Try.pinned (OpenSpec.ofChange regsMovesWrong)

/-- 'proteuslaw21.RegsRight': WHATEVER THE INPUT: true; the input reads as it did. -/
def regsRightSpec : ChangeSpec := { name := "regsRight", fn := fun _ => fun
  | [d1, d2, d3] => { results := [.lit (.bool true)], args := [d1, d2, d3] }
  | _ => none }
def regsRightRow : OpenClaim := { program := "ytbclepldghjacaa", sum := "6a59254fc75b2ec94fa896f7ffec0b17cb6b78c4ff73d018676820a154d0b8a4", func := "proteus/proteuslaw21.RegsRight", spec := "regsRight", unfollowed := true, recurses := true, apart := false }
def RegsRightSaid : Prop := regsRightRow.holds Try.pinned (OpenSpec.ofChange regsRightSpec)

/-- ITS FALSE NEIGHBOUR: 'it returns false'. Refute it at one input. -/
def regsRightWrong : ChangeSpec := { name := "regsRight", fn := fun _ => fun
  | [d1, d2, d3] => { results := [.lit (.bool false)], args := [d1, d2, d3] }
  | _ => none }
def RegsRightWrongFalsely : Prop := regsRightRow.holds Try.pinned (OpenSpec.ofChange regsRightWrong)

/-- 'proteuslaw21.RegsSame': WHATEVER THE INPUT: true; the input reads as it did. -/
def regsSameSpec : ChangeSpec := { name := "regsSame", fn := fun _ => fun
  | [d1, d2, d3] => { results := [.lit (.bool true)], args := [d1, d2, d3] }
  | _ => none }
def regsSameRow : OpenClaim := { program := "ytbclepldghjacaa", sum := "6a59254fc75b2ec94fa896f7ffec0b17cb6b78c4ff73d018676820a154d0b8a4", func := "proteus/proteuslaw21.RegsSame", spec := "regsSame", unfollowed := true, recurses := true, apart := false }
def RegsSameSaid : Prop := regsSameRow.holds Try.pinned (OpenSpec.ofChange regsSameSpec)

/-- ITS FALSE NEIGHBOUR: 'it returns false'. Refute it at one input. -/
def regsSameWrong : ChangeSpec := { name := "regsSame", fn := fun _ => fun
  | [d1, d2, d3] => { results := [.lit (.bool false)], args := [d1, d2, d3] }
  | _ => none }
def RegsSameWrongFalsely : Prop := regsSameRow.holds Try.pinned (OpenSpec.ofChange regsSameWrong)

/-- 'proteuslaw21.RegsAtOnce': WHATEVER THE INPUT: true; the input reads as it did. -/
def regsAtOnceSpec : ChangeSpec := { name := "regsAtOnce", fn := fun _ => fun
  | [d1, d2] => { results := [.lit (.bool true)], args := [d1, d2] }
  | _ => none }
def regsAtOnceRow : OpenClaim := { program := "ytbclepldghjacaa", sum := "6a59254fc75b2ec94fa896f7ffec0b17cb6b78c4ff73d018676820a154d0b8a4", func := "proteus/proteuslaw21.RegsAtOnce", spec := "regsAtOnce", unfollowed := true, recurses := true, apart := false }
def RegsAtOnceSaid : Prop := regsAtOnceRow.holds Try.pinned (OpenSpec.ofChange regsAtOnceSpec)

/-- ITS FALSE NEIGHBOUR: 'it returns false'. Refute it at one input. -/
def regsAtOnceWrong : ChangeSpec := { name := "regsAtOnce", fn := fun _ => fun
  | [d1, d2] => { results := [.lit (.bool false)], args := [d1, d2] }
  | _ => none }
def RegsAtOnceWrongFalsely : Prop := regsAtOnceRow.holds Try.pinned (OpenSpec.ofChange regsAtOnceWrong)

/-- 'proteuslaw21.RegsDead': WHATEVER THE INPUT: true; the input reads as it did. -/
def regsDeadSpec : ChangeSpec := { name := "regsDead", fn := fun _ => fun
  | [d1, d2, d3, d4] => { results := [.lit (.bool true)], args := [d1, d2, d3, d4] }
  | _ => none }
def regsDeadRow : OpenClaim := { program := "ytbclepldghjacaa", sum := "6a59254fc75b2ec94fa896f7ffec0b17cb6b78c4ff73d018676820a154d0b8a4", func := "proteus/proteuslaw21.RegsDead", spec := "regsDead", unfollowed := true, recurses := true, apart := false }
def RegsDeadSaid : Prop := regsDeadRow.holds Try.pinned (OpenSpec.ofChange regsDeadSpec)

/-- ITS FALSE NEIGHBOUR: 'it returns false'. Refute it at one input. -/
def regsDeadWrong : ChangeSpec := { name := "regsDead", fn := fun _ => fun
  | [d1, d2, d3, d4] => { results := [.lit (.bool false)], args := [d1, d2, d3, d4] }
  | _ => none }
def RegsDeadWrongFalsely : Prop := regsDeadRow.holds Try.pinned (OpenSpec.ofChange regsDeadWrong)

/- THE SECOND FORM. 'bulk': how many values and letters a reading holds, each counted each time it is reached (what is shared counts as often as it is met; a slice's spare places count too). A statement '..UptoSaid' is the law's where the arguments, and the package variables that the reading takes, are together of bulk at most 1048576: NARROWER than '..Said'. Prove '..Said' where nothing that the law and all that it calls make is longer than what came in: it says more and counts as full. Else prove '..UptoSaid'. A law counts once. -/
mutual
def uptoBulk {H : Type} : DataW H → Nat
  | .lit (.string bytes) => bytes.length + 1
  | .lit _ => 1
  | .nil => 1
  | .ptr d => uptoBulk d + 1
  | .slice elems spare => uptoBulkAll elems + uptoBulkAll spare + 1
  | .agg parts => uptoBulkAll parts + 1
  | .iface _ d => uptoBulk d + 1
  | .map entries => uptoBulkEntries entries + 1
  | .held _ => 1
def uptoBulkAll {H : Type} : List (DataW H) → Nat
  | [] => 0
  | d :: r => uptoBulk d + uptoBulkAll r
def uptoBulkEntries {H : Type} : List (Lit × DataW H) → Nat
  | [] => 0
  | x :: r => uptoBulkEntry x + uptoBulkEntries r
def uptoBulkEntry {H : Type} : Lit × DataW H → Nat
  | (.string bytes, d) => bytes.length + uptoBulk d + 1
  | (_, d) => uptoBulk d + 1
 end
def uptoSmall : (H : Type) → List (DataW H) → Bool := fun _ ds => decide (uptoBulkAll ds ≤ 1048576)
def OpenSpec.upto (s : _root_.Go.ChangeSpec) : _root_.Go.OpenSpec := { _root_.Go.OpenSpec.ofChange s with cond := some uptoSmall }

/-- 'proteuslaw21.RegsMoves', WHERE WHAT IT READS IS OF BULK AT MOST 1048576: true; the input reads as it did. -/
def regsMovesUptoRow : OpenClaim := { program := "ytbclepldghjacaa", sum := "6a59254fc75b2ec94fa896f7ffec0b17cb6b78c4ff73d018676820a154d0b8a4", func := "proteus/proteuslaw21.RegsMoves", spec := "regsMoves", unfollowed := true, recurses := true, apart := false, narrowed := true }
def RegsMovesUptoSaid : Prop := regsMovesUptoRow.holds Try.pinned (OpenSpec.upto regsMovesSpec)

/-- 'proteuslaw21.RegsRight', WHERE WHAT IT READS IS OF BULK AT MOST 1048576: true; the input reads as it did. -/
def regsRightUptoRow : OpenClaim := { program := "ytbclepldghjacaa", sum := "6a59254fc75b2ec94fa896f7ffec0b17cb6b78c4ff73d018676820a154d0b8a4", func := "proteus/proteuslaw21.RegsRight", spec := "regsRight", unfollowed := true, recurses := true, apart := false, narrowed := true }
def RegsRightUptoSaid : Prop := regsRightUptoRow.holds Try.pinned (OpenSpec.upto regsRightSpec)

/-- 'proteuslaw21.RegsSame', WHERE WHAT IT READS IS OF BULK AT MOST 1048576: true; the input reads as it did. -/
def regsSameUptoRow : OpenClaim := { program := "ytbclepldghjacaa", sum := "6a59254fc75b2ec94fa896f7ffec0b17cb6b78c4ff73d018676820a154d0b8a4", func := "proteus/proteuslaw21.RegsSame", spec := "regsSame", unfollowed := true, recurses := true, apart := false, narrowed := true }
def RegsSameUptoSaid : Prop := regsSameUptoRow.holds Try.pinned (OpenSpec.upto regsSameSpec)

/-- 'proteuslaw21.RegsAtOnce', WHERE WHAT IT READS IS OF BULK AT MOST 1048576: true; the input reads as it did. -/
def regsAtOnceUptoRow : OpenClaim := { program := "ytbclepldghjacaa", sum := "6a59254fc75b2ec94fa896f7ffec0b17cb6b78c4ff73d018676820a154d0b8a4", func := "proteus/proteuslaw21.RegsAtOnce", spec := "regsAtOnce", unfollowed := true, recurses := true, apart := false, narrowed := true }
def RegsAtOnceUptoSaid : Prop := regsAtOnceUptoRow.holds Try.pinned (OpenSpec.upto regsAtOnceSpec)

/-- 'proteuslaw21.RegsDead', WHERE WHAT IT READS IS OF BULK AT MOST 1048576: true; the input reads as it did. -/
def regsDeadUptoRow : OpenClaim := { program := "ytbclepldghjacaa", sum := "6a59254fc75b2ec94fa896f7ffec0b17cb6b78c4ff73d018676820a154d0b8a4", func := "proteus/proteuslaw21.RegsDead", spec := "regsDead", unfollowed := true, recurses := true, apart := false, narrowed := true }
def RegsDeadUptoSaid : Prop := regsDeadUptoRow.holds Try.pinned (OpenSpec.upto regsDeadSpec)

end Rows
end Go.Proofs.Ytbclepldghjacaa
