/-
  No cell of these rows narrows 'for every input' (looked for: loops, veiled, ifaces, maps, wideKeys, modest, calm, conditions, laid).
  DERIVED. THE GIVEN ROWS OF THIS SEAT. 1 by the template 'for every input the law returns true; each argument reads behind the call as it read before'; 0 by the template 'total and deterministic' (their statements: YtfmcbemddhaakaaGreatTotals.lean).
  GIVEN WITH THE SEED: the statements are not yours to turn. If you find one false, say at which input.
  Laid BY PROGRAM, IN A SANDBOX (cutbox-rows.mjs): the forced cells as the released guide's own fill.sh prints them over the translation 76d1af74633cd653… (all of the seat's roots in one cut). By AI agents, Wed Nov 11 2026. No macro, syntax, notation, axiom, sorry.
-/
import Derived.Test.YtfmcbemddhaakaaGreatChecked
import GoSem.Claim
import GoSem.ClaimJoined
import GoSem.ClaimMapViews
import Derived.JoinedTies
import Derived.KernelRfl
namespace Go.Proofs.YtfmcbemddhaakaaGreat
/- THE CELL 'sum', in the pinned program and in every row, IS THE sha256 OF THE DUMP (.gsa) THAT YtfmcbemddhaakaaGreatProg.lean LOADS. Nothing in Lean hashes anything: it is a label: what it is worth is what the hold of that sum in a sandbox is worth. -/
noncomputable def Tryz.pinned : Pinned := { name := "ytfmcbemddhaakaagreat", sum := "76d1af74633cd6534a9e52769d212cd6fb6b0ff0a4d1d038167a3484e0b07de8", checked := Tryz.checked }
namespace Rows
def none {H : Type} : Left H := { results := [], args := [] }

/-- 'downhaullaw29.HostMay': WHATEVER THE INPUT: true; the input reads as it did. -/
def hostMaySpec : ChangeSpec := { name := "hostMay", fn := fun _ => fun
  | [d1, d2] => { results := [.lit (.bool true)], args := [d1, d2] }
  | _ => none }
def hostMayRow : OpenClaim := { program := "ytfmcbemddhaakaagreat", sum := "76d1af74633cd6534a9e52769d212cd6fb6b0ff0a4d1d038167a3484e0b07de8", func := "downhaul/downhaullaw29.HostMay", spec := "hostMay", inPlace := ["internal/bytealg.Compare", "slices.overlaps[downhaul/api.Block]", "slices.overlaps[downhaul/api.Packet]", "slices.overlaps[downhaul/sack.run]"], unfollowed := true, recurses := true, plainKeys := false, apart := false }
def HostMaySaid : Prop := hostMayRow.holds Tryz.pinned (OpenSpec.ofChange hostMaySpec)

/-- ITS FALSE NEIGHBOUR: 'it returns false'. Refute it at one input. -/
def hostMayWrong : ChangeSpec := { name := "hostMay", fn := fun _ => fun
  | [d1, d2] => { results := [.lit (.bool false)], args := [d1, d2] }
  | _ => none }
def HostMayWrongFalsely : Prop := hostMayRow.holds Tryz.pinned (OpenSpec.ofChange hostMayWrong)

/- THE SECOND FORM. 'bulk': how many values and letters a reading holds, each counted each time it is reached (what is shared counts as often as it is met; a slice's spare places count too). A statement '..UptoSaid' is the law's where the arguments, and the package variables that the reading takes, are together of bulk at most 1048576: NARROWER than '..Said'. Prove '..Said' where nothing that the law and all that it calls make is longer than what came in: it says more and counts as full. Else prove '..UptoSaid'. A law counts once. -/
mutual
def uptoBulk {H : Type} : DataW H → Nat
  | .lit (.string bytes) => bytes.length + 1
  | .lit _ => 1
  | .nil => 1
  | .ptr d => uptoBulk d + 1
  | .slice elems spare => uptoBulkAll elems + uptoBulkAll spare + 1
  | .agg parts => uptoBulkAll parts + 1
  | .iface _ d => uptoBulk d + 1
  | .map entries => uptoBulkEntries entries + 1
  | .held _ => 1
def uptoBulkAll {H : Type} : List (DataW H) → Nat
  | [] => 0
  | d :: r => uptoBulk d + uptoBulkAll r
def uptoBulkEntries {H : Type} : List (Lit × DataW H) → Nat
  | [] => 0
  | x :: r => uptoBulkEntry x + uptoBulkEntries r
def uptoBulkEntry {H : Type} : Lit × DataW H → Nat
  | (.string bytes, d) => bytes.length + uptoBulk d + 1
  | (_, d) => uptoBulk d + 1
 end
def uptoSmall : (H : Type) → List (DataW H) → Bool := fun _ ds => decide (uptoBulkAll ds ≤ 1048576)
def OpenSpec.upto (s : _root_.Go.ChangeSpec) : _root_.Go.OpenSpec := { _root_.Go.OpenSpec.ofChange s with cond := some uptoSmall }

/-- 'downhaullaw29.HostMay', WHERE WHAT IT READS IS OF BULK AT MOST 1048576: true; the input reads as it did. -/
def hostMayUptoRow : OpenClaim := { program := "ytfmcbemddhaakaagreat", sum := "76d1af74633cd6534a9e52769d212cd6fb6b0ff0a4d1d038167a3484e0b07de8", func := "downhaul/downhaullaw29.HostMay", spec := "hostMay", inPlace := ["internal/bytealg.Compare", "slices.overlaps[downhaul/api.Block]", "slices.overlaps[downhaul/api.Packet]", "slices.overlaps[downhaul/sack.run]"], unfollowed := true, recurses := true, plainKeys := false, apart := false, narrowed := true }
def HostMayUptoSaid : Prop := hostMayUptoRow.holds Tryz.pinned (OpenSpec.upto hostMaySpec)

end Rows
end Go.Proofs.YtfmcbemddhaakaaGreat
