/-
  No cell of these rows narrows 'for every input' (looked for: loops, veiled, ifaces, maps, wideKeys, modest, calm, conditions, laid).
  DERIVED. THE GIVEN ROWS OF THIS SEAT. 3 by the template 'for every input the law returns true; each argument reads behind the call as it read before'; 0 by the template 'total and deterministic' (their statements: YtncpeogkccjmcaaTotals.lean).
  GIVEN WITH THE SEED: the statements are not yours to turn. If you find one false, say at which input.
  Laid BY PROGRAM, IN A SANDBOX (cutbox-rows.mjs): the forced cells as the released guide's own fill.sh prints them over the translation a2ddddb0df8d0930… (all of the seat's roots in one cut). By AI agents, Wed Nov 11 2026. No macro, syntax, notation, axiom, sorry.
-/
import Derived.Test.YtncpeogkccjmcaaChecked
import GoSem.Claim
import GoSem.ClaimJoined
import GoSem.ClaimMapViews
import Derived.JoinedTies
import Derived.KernelRfl
namespace Go.Proofs.Ytncpeogkccjmcaa
/- THE CELL 'sum', in the pinned program and in every row, IS THE sha256 OF THE DUMP (.gsa) THAT YtncpeogkccjmcaaProg.lean LOADS. Nothing in Lean hashes anything: it is a label: what it is worth is what the hold of that sum in a sandbox is worth. -/
noncomputable def Try.pinned : Pinned := { name := "ytncpeogkccjmcaa", sum := "a2ddddb0df8d093002edc68313f9979e056b00ed37000267217cbf3d87227ae6", checked := Try.checked }
namespace Rows
def none {H : Type} : Left H := { results := [], args := [] }

/-- 'galleylaw29.TempsNames': WHATEVER THE INPUT: true; the input reads as it did. -/
def tempsNamesSpec : ChangeSpec := { name := "tempsNames", fn := fun _ => fun
  | [d] => { results := [.lit (.bool true)], args := [d] }
  | _ => none }
def tempsNamesRow : OpenClaim := { program := "ytncpeogkccjmcaa", sum := "a2ddddb0df8d093002edc68313f9979e056b00ed37000267217cbf3d87227ae6", func := "galley/galleylaw29.TempsNames", spec := "tempsNames", inPlace := ["internal/bytealg.IndexByteString", "internal/bytealg.IndexString"], unfollowed := true, recurses := true, named := ["internal/bytealg.MaxLen"], apart := false }
def TempsNamesSaid : Prop := tempsNamesRow.holds Try.pinned (OpenSpec.ofChange tempsNamesSpec)

/-- ITS FALSE NEIGHBOUR: 'it returns false'. Refute it at one input. -/
def tempsNamesWrong : ChangeSpec := { name := "tempsNames", fn := fun _ => fun
  | [d] => { results := [.lit (.bool false)], args := [d] }
  | _ => none }
def TempsNamesWrongFalsely : Prop := tempsNamesRow.holds Try.pinned (OpenSpec.ofChange tempsNamesWrong)

/-- 'galleylaw29.TempsUnlike': WHATEVER THE INPUT: true; the input reads as it did. -/
def tempsUnlikeSpec : ChangeSpec := { name := "tempsUnlike", fn := fun _ => fun
  | [d1, d2] => { results := [.lit (.bool true)], args := [d1, d2] }
  | _ => none }
def tempsUnlikeRow : OpenClaim := { program := "ytncpeogkccjmcaa", sum := "a2ddddb0df8d093002edc68313f9979e056b00ed37000267217cbf3d87227ae6", func := "galley/galleylaw29.TempsUnlike", spec := "tempsUnlike", inPlace := ["internal/bytealg.IndexByteString", "internal/bytealg.IndexString"], unfollowed := true, recurses := true, named := ["internal/bytealg.MaxLen"], apart := false }
def TempsUnlikeSaid : Prop := tempsUnlikeRow.holds Try.pinned (OpenSpec.ofChange tempsUnlikeSpec)

/-- ITS FALSE NEIGHBOUR: 'it returns false'. Refute it at one input. -/
def tempsUnlikeWrong : ChangeSpec := { name := "tempsUnlike", fn := fun _ => fun
  | [d1, d2] => { results := [.lit (.bool false)], args := [d1, d2] }
  | _ => none }
def TempsUnlikeWrongFalsely : Prop := tempsUnlikeRow.holds Try.pinned (OpenSpec.ofChange tempsUnlikeWrong)

/-- 'galleylaw29.TempsRecovers': WHATEVER THE INPUT: true; the input reads as it did. -/
def tempsRecoversSpec : ChangeSpec := { name := "tempsRecovers", fn := fun _ => fun
  | [d] => { results := [.lit (.bool true)], args := [d] }
  | _ => none }
def tempsRecoversRow : OpenClaim := { program := "ytncpeogkccjmcaa", sum := "a2ddddb0df8d093002edc68313f9979e056b00ed37000267217cbf3d87227ae6", func := "galley/galleylaw29.TempsRecovers", spec := "tempsRecovers", inPlace := ["internal/bytealg.IndexByteString", "internal/bytealg.IndexString"], unfollowed := true, recurses := true, named := ["internal/bytealg.MaxLen"], apart := false }
def TempsRecoversSaid : Prop := tempsRecoversRow.holds Try.pinned (OpenSpec.ofChange tempsRecoversSpec)

/-- ITS FALSE NEIGHBOUR: 'it returns false'. Refute it at one input. -/
def tempsRecoversWrong : ChangeSpec := { name := "tempsRecovers", fn := fun _ => fun
  | [d] => { results := [.lit (.bool false)], args := [d] }
  | _ => none }
def TempsRecoversWrongFalsely : Prop := tempsRecoversRow.holds Try.pinned (OpenSpec.ofChange tempsRecoversWrong)

/- THE SECOND FORM. 'bulk': how many values and letters a reading holds, each counted each time it is reached (what is shared counts as often as it is met; a slice's spare places count too). A statement '..UptoSaid' is the law's where the arguments, and the package variables that the reading takes, are together of bulk at most 1048576: NARROWER than '..Said'. Prove '..Said' where nothing that the law and all that it calls make is longer than what came in: it says more and counts as full. Else prove '..UptoSaid'. A law counts once. -/
mutual
def uptoBulk {H : Type} : DataW H → Nat
  | .lit (.string bytes) => bytes.length + 1
  | .lit _ => 1
  | .nil => 1
  | .ptr d => uptoBulk d + 1
  | .slice elems spare => uptoBulkAll elems + uptoBulkAll spare + 1
  | .agg parts => uptoBulkAll parts + 1
  | .iface _ d => uptoBulk d + 1
  | .map entries => uptoBulkEntries entries + 1
  | .held _ => 1
def uptoBulkAll {H : Type} : List (DataW H) → Nat
  | [] => 0
  | d :: r => uptoBulk d + uptoBulkAll r
def uptoBulkEntries {H : Type} : List (Lit × DataW H) → Nat
  | [] => 0
  | x :: r => uptoBulkEntry x + uptoBulkEntries r
def uptoBulkEntry {H : Type} : Lit × DataW H → Nat
  | (.string bytes, d) => bytes.length + uptoBulk d + 1
  | (_, d) => uptoBulk d + 1
 end
def uptoSmall : (H : Type) → List (DataW H) → Bool := fun _ ds => decide (uptoBulkAll ds ≤ 1048576)
def OpenSpec.upto (s : _root_.Go.ChangeSpec) : _root_.Go.OpenSpec := { _root_.Go.OpenSpec.ofChange s with cond := some uptoSmall }

/-- 'galleylaw29.TempsNames', WHERE WHAT IT READS IS OF BULK AT MOST 1048576: true; the input reads as it did. -/
def tempsNamesUptoRow : OpenClaim := { program := "ytncpeogkccjmcaa", sum := "a2ddddb0df8d093002edc68313f9979e056b00ed37000267217cbf3d87227ae6", func := "galley/galleylaw29.TempsNames", spec := "tempsNames", inPlace := ["internal/bytealg.IndexByteString", "internal/bytealg.IndexString"], unfollowed := true, recurses := true, named := ["internal/bytealg.MaxLen"], apart := false, narrowed := true }
def TempsNamesUptoSaid : Prop := tempsNamesUptoRow.holds Try.pinned (OpenSpec.upto tempsNamesSpec)

/-- 'galleylaw29.TempsUnlike', WHERE WHAT IT READS IS OF BULK AT MOST 1048576: true; the input reads as it did. -/
def tempsUnlikeUptoRow : OpenClaim := { program := "ytncpeogkccjmcaa", sum := "a2ddddb0df8d093002edc68313f9979e056b00ed37000267217cbf3d87227ae6", func := "galley/galleylaw29.TempsUnlike", spec := "tempsUnlike", inPlace := ["internal/bytealg.IndexByteString", "internal/bytealg.IndexString"], unfollowed := true, recurses := true, named := ["internal/bytealg.MaxLen"], apart := false, narrowed := true }
def TempsUnlikeUptoSaid : Prop := tempsUnlikeUptoRow.holds Try.pinned (OpenSpec.upto tempsUnlikeSpec)

/-- 'galleylaw29.TempsRecovers', WHERE WHAT IT READS IS OF BULK AT MOST 1048576: true; the input reads as it did. -/
def tempsRecoversUptoRow : OpenClaim := { program := "ytncpeogkccjmcaa", sum := "a2ddddb0df8d093002edc68313f9979e056b00ed37000267217cbf3d87227ae6", func := "galley/galleylaw29.TempsRecovers", spec := "tempsRecovers", inPlace := ["internal/bytealg.IndexByteString", "internal/bytealg.IndexString"], unfollowed := true, recurses := true, named := ["internal/bytealg.MaxLen"], apart := false, narrowed := true }
def TempsRecoversUptoSaid : Prop := tempsRecoversUptoRow.holds Try.pinned (OpenSpec.upto tempsRecoversSpec)

end Rows
end Go.Proofs.Ytncpeogkccjmcaa
