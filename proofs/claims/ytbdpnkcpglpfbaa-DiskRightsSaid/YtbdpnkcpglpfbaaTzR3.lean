/- The law DiskRights holds for every input: it returns true and leaves its arguments as they were. No conditions. -/
import Derived.Test.YtbdpnkcpglpfbaaTzP
namespace Go.Proofs.Ytbdpnkcpglpfbaa
open Go Go.Sym Go.Proofs.Try Go.ChangeShapes Go.WideShapes Go.ChangeAt Go.RowKit

theorem opensDiskRights : OpensL Try.prog [24, 25, 3] (fun (x : Disk × (Bool × List Int) × Int × Unit) => [x.1.pv, .sl x.2.1.1 1 (x.2.1.2.map iV), iV x.2.2.1]) (fun x => GoodDisk x.1 ∧ True ∧ (IntKind.i64.min ≤ x.2.2.1 ∧ x.2.2.1 ≤ IntKind.i64.max) ∧ True) := OpensL.cons openDiskA (OpensL.cons openIntsA (OpensL.cons openIntA OpensL.nil))
theorem ctrDiskRights : ∀ x, ((fun x => GoodDisk x.1 ∧ True ∧ (IntKind.i64.min ≤ x.2.2.1 ∧ x.2.2.1 ≤ IntKind.i64.max) ∧ True)) x → Ctr Try.prog 3 (((fun (x : Disk × (Bool × List Int) × Int × Unit) => [x.1.pv, .sl x.2.1.1 1 (x.2.1.2.map iV), iV x.2.2.1])) x) [] (bV true) [] [] := fun x h => cDiskRights x.1.nl x.1.fs x.1.left x.1.off x.2.1.1 x.2.1.2 x.2.2.1 h.1.size h.1.data
theorem isDiskRights : IsLaw Rows.diskRightsSpec 3 := ⟨rfl, fun H ds h => by
    match ds, h with
    | [d1, d2, d3], _ => rfl⟩

set_option maxRecDepth 100000 in
theorem liftedDiskRights (os : Os) (started : os.Started) (H : Type) (enc : TypeId × Value → H) :
    ReturnsInHanded {} Try.checked os 3 .any (Rows.diskRightsSpec.pre6 enc Try.prog Try.f3 Rows.diskRightsRow.domain false) (Rows.diskRightsSpec.post enc Try.prog Try.f3 false true false false) := by
  refine returnsInHanded_of_change_sized (C := Try.checked) own started (by kernel_rfl) Try.func3
    (ChangeSpec.witness6 (enc := enc) (C := Try.checked) false ⟨#[], #[.agg #[.slice none 0 0, .int .i64 0, .bool false], .slice none 0 0, .int .i64 0], []⟩ 8 (by kernel_rfl) (by kernel_rfl) (by kernel_rfl) (by kernel_rfl)) ?_
  intro W base args ds gs before hval hW _ hz _
  exact law_calls (P := Try.prog) (params := [24, 25, 3]) Try.params3 (by kernel_rfl) Try.underlying4 isDiskRights laidOut (by kernel_rfl) opensDiskRights ctrDiskRights W base args ds gs before hval hW hz

theorem diskRights_holds : Rows.DiskRightsSaid :=
  OpenClaim.holds_of_wide 3 Try.f3 rfl rfl rfl rfl rfl rfl rfl ⟨rfl, rfl, rfl, rfl, rfl⟩ rfl rfl rfl rfl rfl (by kernel_rfl) Try.func3 (by kernel_rfl)
    (of_decide_eq_true (by kernel_rfl)) (by unfold Func.isWrapper; first | (rw [if_pos (by decide +kernel)]; kernel_rfl) | (rw [if_neg (by decide +kernel)]; exact ⟨rfl, rfl⟩))
    (fun os started H enc _ => liftedDiskRights os started H enc)
end Go.Proofs.Ytbdpnkcpglpfbaa
