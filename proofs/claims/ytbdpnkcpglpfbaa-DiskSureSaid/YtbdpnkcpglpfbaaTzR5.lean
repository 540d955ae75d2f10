/- The law DiskSure holds for every input: it returns true and leaves its arguments as they were. No conditions. -/
import Derived.Test.YtbdpnkcpglpfbaaTzP
namespace Go.Proofs.Ytbdpnkcpglpfbaa
open Go Go.Sym Go.Proofs.Try Go.ChangeShapes Go.WideShapes Go.ChangeAt Go.RowKit

theorem opensDiskSure : OpensL Try.prog [24, 25] (fun (x : Disk × (Bool × List Int) × Unit) => [x.1.pv, .sl x.2.1.1 1 (x.2.1.2.map iV)]) (fun x => GoodDisk x.1 ∧ True ∧ True) := OpensL.cons openDiskA (OpensL.cons openIntsA OpensL.nil)
theorem ctrDiskSure : ∀ x, ((fun x => GoodDisk x.1 ∧ True ∧ True)) x → Ctr Try.prog 5 (((fun (x : Disk × (Bool × List Int) × Unit) => [x.1.pv, .sl x.2.1.1 1 (x.2.1.2.map iV)])) x) [] (bV true) [] [] := fun x h => cDiskSure x.1.nl x.1.fs x.1.left x.1.off x.2.1.1 x.2.1.2 h.1.size h.1.data
theorem isDiskSure : IsLaw Rows.diskSureSpec 2 := ⟨rfl, fun H ds h => by
    match ds, h with
    | [d1, d2], _ => rfl⟩

set_option maxRecDepth 100000 in
theorem liftedDiskSure (os : Os) (started : os.Started) (H : Type) (enc : TypeId × Value → H) :
    ReturnsInHanded {} Try.checked os 5 .any (Rows.diskSureSpec.pre6 enc Try.prog Try.f5 Rows.diskSureRow.domain false) (Rows.diskSureSpec.post enc Try.prog Try.f5 false true false false) := by
  refine returnsInHanded_of_change_sized (C := Try.checked) own started (by kernel_rfl) Try.func5
    (ChangeSpec.witness6 (enc := enc) (C := Try.checked) false ⟨#[], #[.agg #[.slice none 0 0, .int .i64 0, .bool false], .slice none 0 0], []⟩ 8 (by kernel_rfl) (by kernel_rfl) (by kernel_rfl) (by kernel_rfl)) ?_
  intro W base args ds gs before hval hW _ hz _
  exact law_calls (P := Try.prog) (params := [24, 25]) Try.params5 (by kernel_rfl) Try.underlying4 isDiskSure laidOut (by kernel_rfl) opensDiskSure ctrDiskSure W base args ds gs before hval hW hz

theorem diskSure_holds : Rows.DiskSureSaid :=
  OpenClaim.holds_of_wide 5 Try.f5 rfl rfl rfl rfl rfl rfl rfl ⟨rfl, rfl, rfl, rfl, rfl⟩ rfl rfl rfl rfl rfl (by kernel_rfl) Try.func5 (by kernel_rfl)
    (of_decide_eq_true (by kernel_rfl)) (by unfold Func.isWrapper; first | (rw [if_pos (by decide +kernel)]; kernel_rfl) | (rw [if_neg (by decide +kernel)]; exact ⟨rfl, rfl⟩))
    (fun os started H enc _ => liftedDiskSure os started H enc)
end Go.Proofs.Ytbdpnkcpglpfbaa
