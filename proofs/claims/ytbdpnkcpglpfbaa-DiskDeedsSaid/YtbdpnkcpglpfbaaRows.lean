/-
  No cell of these rows narrows 'for every input' (looked for: loops, veiled, ifaces, maps, wideKeys, modest, calm, conditions, laid).
  DERIVED. THE GIVEN ROWS OF THIS SEAT. 4 by the template 'for every input the law returns true; each argument reads behind the call as it read before'; 0 by the template 'total and deterministic' (their statements: YtbdpnkcpglpfbaaTotals.lean).
  GIVEN WITH THE SEED: the statements are not yours to turn. If you find one false, say at which input.
  Laid BY PROGRAM, IN A SANDBOX (cutbox-rows.mjs): the forced cells as the released guide's own fill.sh prints them over the translation 987c3dca81800d14… (all of the seat's roots in one cut). By AI agents, Wed Nov 11 2026. No macro, syntax, notation, axiom, sorry.
-/
import Derived.Test.YtbdpnkcpglpfbaaChecked
import GoSem.Claim
import GoSem.ClaimJoined
import GoSem.ClaimMapViews
import Derived.JoinedTies
import Derived.KernelRfl
namespace Go.Proofs.Ytbdpnkcpglpfbaa
/- THE CELL 'sum', in the pinned program and in every row, IS THE sha256 OF THE DUMP (.gsa) THAT YtbdpnkcpglpfbaaProg.lean LOADS. Nothing in Lean hashes anything: it is a label: what it is worth is what the hold of that sum in a sandbox is worth. -/
noncomputable def Try.pinned : Pinned := { name := "ytbdpnkcpglpfbaa", sum := "987c3dca81800d14f3eeb818a7974106f7c53dc114516c17e85dff2bffd717c2", checked := Try.checked }
namespace Rows
def none {H : Type} : Left H := { results := [], args := [] }

/-- 'graftagelaw52.DiskRights': WHATEVER THE INPUT: true; the input reads as it did. -/
def diskRightsSpec : ChangeSpec := { name := "diskRights", fn := fun _ => fun
  | [d1, d2, d3] => { results := [.lit (.bool true)], args := [d1, d2, d3] }
  | _ => none }
def diskRightsRow : OpenClaim := { program := "ytbdpnkcpglpfbaa", sum := "987c3dca81800d14f3eeb818a7974106f7c53dc114516c17e85dff2bffd717c2", func := "graftage/graftagelaw52.DiskRights", spec := "diskRights", inPlace := ["slices.overlaps[graftage/api.DiskFile]"], unfollowed := true, recurses := true, apart := false }
def DiskRightsSaid : Prop := diskRightsRow.holds Try.pinned (OpenSpec.ofChange diskRightsSpec)

/-- ITS FALSE NEIGHBOUR: 'it returns false'. Refute it at one input. -/
def diskRightsWrong : ChangeSpec := { name := "diskRights", fn := fun _ => fun
  | [d1, d2, d3] => { results := [.lit (.bool false)], args := [d1, d2, d3] }
  | _ => none }
def DiskRightsWrongFalsely : Prop := diskRightsRow.holds Try.pinned (OpenSpec.ofChange diskRightsWrong)

/-- 'graftagelaw52.DiskDeeds': WHATEVER THE INPUT: true; the input reads as it did. -/
def diskDeedsSpec : ChangeSpec := { name := "diskDeeds", fn := fun _ => fun
  | [d1, d2] => { results := [.lit (.bool true)], args := [d1, d2] }
  | _ => none }
def diskDeedsRow : OpenClaim := { program := "ytbdpnkcpglpfbaa", sum := "987c3dca81800d14f3eeb818a7974106f7c53dc114516c17e85dff2bffd717c2", func := "graftage/graftagelaw52.DiskDeeds", spec := "diskDeeds", inPlace := ["slices.overlaps[graftage/api.DiskFile]"], unfollowed := true, recurses := true, apart := false }
def DiskDeedsSaid : Prop := diskDeedsRow.holds Try.pinned (OpenSpec.ofChange diskDeedsSpec)

/-- ITS FALSE NEIGHBOUR: 'it returns false'. Refute it at one input. -/
def diskDeedsWrong : ChangeSpec := { name := "diskDeeds", fn := fun _ => fun
  | [d1, d2] => { results := [.lit (.bool false)], args := [d1, d2] }
  | _ => none }
def DiskDeedsWrongFalsely : Prop := diskDeedsRow.holds Try.pinned (OpenSpec.ofChange diskDeedsWrong)

/-- 'graftagelaw52.DiskSure': WHATEVER THE INPUT: true; the input reads as it did. -/
def diskSureSpec : ChangeSpec := { name := "diskSure", fn := fun _ => fun
  | [d1, d2] => { results := [.lit (.bool true)], args := [d1, d2] }
  | _ => none }
def diskSureRow : OpenClaim := { program := "ytbdpnkcpglpfbaa", sum := "987c3dca81800d14f3eeb818a7974106f7c53dc114516c17e85dff2bffd717c2", func := "graftage/graftagelaw52.DiskSure", spec := "diskSure", inPlace := ["slices.overlaps[graftage/api.DiskFile]"], unfollowed := true, recurses := true, apart := false }
def DiskSureSaid : Prop := diskSureRow.holds Try.pinned (OpenSpec.ofChange diskSureSpec)

/-- ITS FALSE NEIGHBOUR: 'it returns false'. Refute it at one input. -/
def diskSureWrong : ChangeSpec := { name := "diskSure", fn := fun _ => fun
  | [d1, d2] => { results := [.lit (.bool false)], args := [d1, d2] }
  | _ => none }
def DiskSureWrongFalsely : Prop := diskSureRow.holds Try.pinned (OpenSpec.ofChange diskSureWrong)

/-- 'graftagelaw52.DiskFull': WHATEVER THE INPUT: true; the input reads as it did. -/
def diskFullSpec : ChangeSpec := { name := "diskFull", fn := fun _ => fun
  | [d1, d2] => { results := [.lit (.bool true)], args := [d1, d2] }
  | _ => none }
def diskFullRow : OpenClaim := { program := "ytbdpnkcpglpfbaa", sum := "987c3dca81800d14f3eeb818a7974106f7c53dc114516c17e85dff2bffd717c2", func := "graftage/graftagelaw52.DiskFull", spec := "diskFull", inPlace := ["slices.overlaps[graftage/api.DiskFile]"], unfollowed := true, recurses := true, apart := false }
def DiskFullSaid : Prop := diskFullRow.holds Try.pinned (OpenSpec.ofChange diskFullSpec)

/-- ITS FALSE NEIGHBOUR: 'it returns false'. Refute it at one input. -/
def diskFullWrong : ChangeSpec := { name := "diskFull", fn := fun _ => fun
  | [d1, d2] => { results := [.lit (.bool false)], args := [d1, d2] }
  | _ => none }
def DiskFullWrongFalsely : Prop := diskFullRow.holds Try.pinned (OpenSpec.ofChange diskFullWrong)

/- THE SECOND FORM. 'bulk': how many values and letters a reading holds, each counted each time it is reached (what is shared counts as often as it is met; a slice's spare places count too). A statement '..UptoSaid' is the law's where the arguments, and the package variables that the reading takes, are together of bulk at most 1048576: NARROWER than '..Said'. Prove '..Said' where nothing that the law and all that it calls make is longer than what came in: it says more and counts as full. Else prove '..UptoSaid'. A law counts once. -/
mutual
def uptoBulk {H : Type} : DataW H → Nat
  | .lit (.string bytes) => bytes.length + 1
  | .lit _ => 1
  | .nil => 1
  | .ptr d => uptoBulk d + 1
  | .slice elems spare => uptoBulkAll elems + uptoBulkAll spare + 1
  | .agg parts => uptoBulkAll parts + 1
  | .iface _ d => uptoBulk d + 1
  | .map entries => uptoBulkEntries entries + 1
  | .held _ => 1
def uptoBulkAll {H : Type} : List (DataW H) → Nat
  | [] => 0
  | d :: r => uptoBulk d + uptoBulkAll r
def uptoBulkEntries {H : Type} : List (Lit × DataW H) → Nat
  | [] => 0
  | x :: r => uptoBulkEntry x + uptoBulkEntries r
def uptoBulkEntry {H : Type} : Lit × DataW H → Nat
  | (.string bytes, d) => bytes.length + uptoBulk d + 1
  | (_, d) => uptoBulk d + 1
 end
def uptoSmall : (H : Type) → List (DataW H) → Bool := fun _ ds => decide (uptoBulkAll ds ≤ 1048576)
def OpenSpec.upto (s : _root_.Go.ChangeSpec) : _root_.Go.OpenSpec := { _root_.Go.OpenSpec.ofChange s with cond := some uptoSmall }

/-- 'graftagelaw52.DiskRights', WHERE WHAT IT READS IS OF BULK AT MOST 1048576: true; the input reads as it did. -/
def diskRightsUptoRow : OpenClaim := { program := "ytbdpnkcpglpfbaa", sum := "987c3dca81800d14f3eeb818a7974106f7c53dc114516c17e85dff2bffd717c2", func := "graftage/graftagelaw52.DiskRights", spec := "diskRights", inPlace := ["slices.overlaps[graftage/api.DiskFile]"], unfollowed := true, recurses := true, apart := false, narrowed := true }
def DiskRightsUptoSaid : Prop := diskRightsUptoRow.holds Try.pinned (OpenSpec.upto diskRightsSpec)

/-- 'graftagelaw52.DiskDeeds', WHERE WHAT IT READS IS OF BULK AT MOST 1048576: true; the input reads as it did. -/
def diskDeedsUptoRow : OpenClaim := { program := "ytbdpnkcpglpfbaa", sum := "987c3dca81800d14f3eeb818a7974106f7c53dc114516c17e85dff2bffd717c2", func := "graftage/graftagelaw52.DiskDeeds", spec := "diskDeeds", inPlace := ["slices.overlaps[graftage/api.DiskFile]"], unfollowed := true, recurses := true, apart := false, narrowed := true }
def DiskDeedsUptoSaid : Prop := diskDeedsUptoRow.holds Try.pinned (OpenSpec.upto diskDeedsSpec)

/-- 'graftagelaw52.DiskSure', WHERE WHAT IT READS IS OF BULK AT MOST 1048576: true; the input reads as it did. -/
def diskSureUptoRow : OpenClaim := { program := "ytbdpnkcpglpfbaa", sum := "987c3dca81800d14f3eeb818a7974106f7c53dc114516c17e85dff2bffd717c2", func := "graftage/graftagelaw52.DiskSure", spec := "diskSure", inPlace := ["slices.overlaps[graftage/api.DiskFile]"], unfollowed := true, recurses := true, apart := false, narrowed := true }
def DiskSureUptoSaid : Prop := diskSureUptoRow.holds Try.pinned (OpenSpec.upto diskSureSpec)

/-- 'graftagelaw52.DiskFull', WHERE WHAT IT READS IS OF BULK AT MOST 1048576: true; the input reads as it did. -/
def diskFullUptoRow : OpenClaim := { program := "ytbdpnkcpglpfbaa", sum := "987c3dca81800d14f3eeb818a7974106f7c53dc114516c17e85dff2bffd717c2", func := "graftage/graftagelaw52.DiskFull", spec := "diskFull", inPlace := ["slices.overlaps[graftage/api.DiskFile]"], unfollowed := true, recurses := true, apart := false, narrowed := true }
def DiskFullUptoSaid : Prop := diskFullUptoRow.holds Try.pinned (OpenSpec.upto diskFullSpec)

end Rows
end Go.Proofs.Ytbdpnkcpglpfbaa
