/-
  No cell of these rows narrows 'for every input' (looked for: loops, veiled, ifaces, maps, wideKeys, modest, calm, conditions, laid).
  DERIVED. THE GIVEN ROWS OF THIS SEAT. 3 by the template 'for every input the law returns true; each argument reads behind the call as it read before'; 0 by the template 'total and deterministic' (their statements: YtbclepldghjacaaGreatTotals.lean).
  GIVEN WITH THE SEED: the statements are not yours to turn. If you find one false, say at which input.
  Laid BY PROGRAM, IN A SANDBOX (cutbox-rows.mjs): the forced cells as the released guide's own fill.sh prints them over the translation 1542aa2be0da688a… (all of the seat's roots in one cut). By AI agents, Wed Nov 11 2026. No macro, syntax, notation, axiom, sorry.
-/
import Derived.Test.YtbclepldghjacaaGreatChecked
import GoSem.Claim
import GoSem.ClaimJoined
import GoSem.ClaimMapViews
import Derived.JoinedTies
import Derived.KernelRfl
namespace Go.Proofs.YtbclepldghjacaaGreat
/- THE CELL 'sum', in the pinned program and in every row, IS THE sha256 OF THE DUMP (.gsa) THAT YtbclepldghjacaaGreatProg.lean LOADS. Nothing in Lean hashes anything: it is a label: what it is worth is what the hold of that sum in a sandbox is worth. -/
noncomputable def Tryz.pinned : Pinned := { name := "ytbclepldghjacaagreat", sum := "1542aa2be0da688a613b7bd6d7a3dca90a61a0b9241e58ee08f2122d53b877ec", checked := Tryz.checked }
namespace Rows
def none {H : Type} : Left H := { results := [], args := [] }

/-- 'proteuslaw21.RegsLive': WHATEVER THE INPUT: true; the input reads as it did. -/
def regsLiveSpec : ChangeSpec := { name := "regsLive", fn := fun _ => fun
  | [d1, d2] => { results := [.lit (.bool true)], args := [d1, d2] }
  | _ => none }
def regsLiveRow : OpenClaim := { program := "ytbclepldghjacaagreat", sum := "1542aa2be0da688a613b7bd6d7a3dca90a61a0b9241e58ee08f2122d53b877ec", func := "proteus/proteuslaw21.RegsLive", spec := "regsLive", unfollowed := true, recurses := true, apart := false }
def RegsLiveSaid : Prop := regsLiveRow.holds Tryz.pinned (OpenSpec.ofChange regsLiveSpec)

/-- ITS FALSE NEIGHBOUR: 'it returns false'. Refute it at one input. -/
def regsLiveWrong : ChangeSpec := { name := "regsLive", fn := fun _ => fun
  | [d1, d2] => { results := [.lit (.bool false)], args := [d1, d2] }
  | _ => none }
def RegsLiveWrongFalsely : Prop := regsLiveRow.holds Tryz.pinned (OpenSpec.ofChange regsLiveWrong)

/-- 'proteuslaw21.RegsPlaces': WHATEVER THE INPUT: true; the input reads as it did. -/
def regsPlacesSpec : ChangeSpec := { name := "regsPlaces", fn := fun _ => fun
  | [d1, d2, d3] => { results := [.lit (.bool true)], args := [d1, d2, d3] }
  | _ => none }
def regsPlacesRow : OpenClaim := { program := "ytbclepldghjacaagreat", sum := "1542aa2be0da688a613b7bd6d7a3dca90a61a0b9241e58ee08f2122d53b877ec", func := "proteus/proteuslaw21.RegsPlaces", spec := "regsPlaces", unfollowed := true, recurses := true, apart := false }
def RegsPlacesSaid : Prop := regsPlacesRow.holds Tryz.pinned (OpenSpec.ofChange regsPlacesSpec)

/-- ITS FALSE NEIGHBOUR: 'it returns false'. Refute it at one input. -/
def regsPlacesWrong : ChangeSpec := { name := "regsPlaces", fn := fun _ => fun
  | [d1, d2, d3] => { results := [.lit (.bool false)], args := [d1, d2, d3] }
  | _ => none }
def RegsPlacesWrongFalsely : Prop := regsPlacesRow.holds Tryz.pinned (OpenSpec.ofChange regsPlacesWrong)

/-- 'proteuslaw21.RegsRenamed': WHATEVER THE INPUT: true; the input reads as it did. -/
def regsRenamedSpec : ChangeSpec := { name := "regsRenamed", fn := fun _ => fun
  | [d1, d2, d3] => { results := [.lit (.bool true)], args := [d1, d2, d3] }
  | _ => none }
def regsRenamedRow : OpenClaim := { program := "ytbclepldghjacaagreat", sum := "1542aa2be0da688a613b7bd6d7a3dca90a61a0b9241e58ee08f2122d53b877ec", func := "proteus/proteuslaw21.RegsRenamed", spec := "regsRenamed", unfollowed := true, recurses := true, apart := false }
def RegsRenamedSaid : Prop := regsRenamedRow.holds Tryz.pinned (OpenSpec.ofChange regsRenamedSpec)

/-- ITS FALSE NEIGHBOUR: 'it returns false'. Refute it at one input. -/
def regsRenamedWrong : ChangeSpec := { name := "regsRenamed", fn := fun _ => fun
  | [d1, d2, d3] => { results := [.lit (.bool false)], args := [d1, d2, d3] }
  | _ => none }
def RegsRenamedWrongFalsely : Prop := regsRenamedRow.holds Tryz.pinned (OpenSpec.ofChange regsRenamedWrong)

/- THE SECOND FORM. 'bulk': how many values and letters a reading holds, each counted each time it is reached (what is shared counts as often as it is met; a slice's spare places count too). A statement '..UptoSaid' is the law's where the arguments, and the package variables that the reading takes, are together of bulk at most 1048576: NARROWER than '..Said'. Prove '..Said' where nothing that the law and all that it calls make is longer than what came in: it says more and counts as full. Else prove '..UptoSaid'. A law counts once. -/
mutual
def uptoBulk {H : Type} : DataW H → Nat
  | .lit (.string bytes) => bytes.length + 1
  | .lit _ => 1
  | .nil => 1
  | .ptr d => uptoBulk d + 1
  | .slice elems spare => uptoBulkAll elems + uptoBulkAll spare + 1
  | .agg parts => uptoBulkAll parts + 1
  | .iface _ d => uptoBulk d + 1
  | .map entries => uptoBulkEntries entries + 1
  | .held _ => 1
def uptoBulkAll {H : Type} : List (DataW H) → Nat
  | [] => 0
  | d :: r => uptoBulk d + uptoBulkAll r
def uptoBulkEntries {H : Type} : List (Lit × DataW H) → Nat
  | [] => 0
  | x :: r => uptoBulkEntry x + uptoBulkEntries r
def uptoBulkEntry {H : Type} : Lit × DataW H → Nat
  | (.string bytes, d) => bytes.length + uptoBulk d + 1
  | (_, d) => uptoBulk d + 1
 end
def uptoSmall : (H : Type) → List (DataW H) → Bool := fun _ ds => decide (uptoBulkAll ds ≤ 1048576)
def OpenSpec.upto (s : _root_.Go.ChangeSpec) : _root_.Go.OpenSpec := { _root_.Go.OpenSpec.ofChange s with cond := some uptoSmall }

/-- 'proteuslaw21.RegsLive', WHERE WHAT IT READS IS OF BULK AT MOST 1048576: true; the input reads as it did. -/
def regsLiveUptoRow : OpenClaim := { program := "ytbclepldghjacaagreat", sum := "1542aa2be0da688a613b7bd6d7a3dca90a61a0b9241e58ee08f2122d53b877ec", func := "proteus/proteuslaw21.RegsLive", spec := "regsLive", unfollowed := true, recurses := true, apart := false, narrowed := true }
def RegsLiveUptoSaid : Prop := regsLiveUptoRow.holds Tryz.pinned (OpenSpec.upto regsLiveSpec)

/-- 'proteuslaw21.RegsPlaces', WHERE WHAT IT READS IS OF BULK AT MOST 1048576: true; the input reads as it did. -/
def regsPlacesUptoRow : OpenClaim := { program := "ytbclepldghjacaagreat", sum := "1542aa2be0da688a613b7bd6d7a3dca90a61a0b9241e58ee08f2122d53b877ec", func := "proteus/proteuslaw21.RegsPlaces", spec := "regsPlaces", unfollowed := true, recurses := true, apart := false, narrowed := true }
def RegsPlacesUptoSaid : Prop := regsPlacesUptoRow.holds Tryz.pinned (OpenSpec.upto regsPlacesSpec)

/-- 'proteuslaw21.RegsRenamed', WHERE WHAT IT READS IS OF BULK AT MOST 1048576: true; the input reads as it did. -/
def regsRenamedUptoRow : OpenClaim := { program := "ytbclepldghjacaagreat", sum := "1542aa2be0da688a613b7bd6d7a3dca90a61a0b9241e58ee08f2122d53b877ec", func := "proteus/proteuslaw21.RegsRenamed", spec := "regsRenamed", unfollowed := true, recurses := true, apart := false, narrowed := true }
def RegsRenamedUptoSaid : Prop := regsRenamedUptoRow.holds Tryz.pinned (OpenSpec.upto regsRenamedSpec)

end Rows
end Go.Proofs.YtbclepldghjacaaGreat
