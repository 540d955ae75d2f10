/- The law DiskFull holds for every input: it returns true and leaves its arguments as they were. No conditions. -/
import Derived.Test.YtbdpnkcpglpfbaaTzP
namespace Go.Proofs.Ytbdpnkcpglpfbaa
open Go Go.Sym Go.Proofs.Try Go.ChangeShapes Go.WideShapes Go.ChangeAt Go.RowKit

theorem opensDiskFull : OpensL Try.prog [5, 5] (fun (x : Int × Int × Unit) => [.v (.int .u8 x.1), .v (.int .u8 x.2.1)]) (fun x => (IntKind.u8.min ≤ x.1 ∧ x.1 ≤ IntKind.u8.max) ∧ (IntKind.u8.min ≤ x.2.1 ∧ x.2.1 ≤ IntKind.u8.max) ∧ True) := OpensL.cons openByteA (OpensL.cons openByteA OpensL.nil)
theorem ctrDiskFull : ∀ x, ((fun x => (IntKind.u8.min ≤ x.1 ∧ x.1 ≤ IntKind.u8.max) ∧ (IntKind.u8.min ≤ x.2.1 ∧ x.2.1 ≤ IntKind.u8.max) ∧ True)) x → Ctr Try.prog 6 (((fun (x : Int × Int × Unit) => [.v (.int .u8 x.1), .v (.int .u8 x.2.1)])) x) [] (bV true) [] [] := fun x h => cDiskFull x.1 x.2.1 h.1 h.2.1
theorem isDiskFull : IsLaw Rows.diskFullSpec 2 := ⟨rfl, fun H ds h => by
    match ds, h with
    | [d1, d2], _ => rfl⟩

set_option maxRecDepth 100000 in
theorem liftedDiskFull (os : Os) (started : os.Started) (H : Type) (enc : TypeId × Value → H) :
    ReturnsInHanded {} Try.checked os 6 .any (Rows.diskFullSpec.pre6 enc Try.prog Try.f6 Rows.diskFullRow.domain false) (Rows.diskFullSpec.post enc Try.prog Try.f6 false true false false) := by
  refine returnsInHanded_of_change_sized (C := Try.checked) own started (by kernel_rfl) Try.func6
    (ChangeSpec.witness6 (enc := enc) (C := Try.checked) false ⟨#[], #[.int .u8 0, .int .u8 0], []⟩ 8 (by kernel_rfl) (by kernel_rfl) (by kernel_rfl) (by kernel_rfl)) ?_
  intro W base args ds gs before hval hW _ hz _
  exact law_calls (P := Try.prog) (params := [5, 5]) Try.params6 (by kernel_rfl) Try.underlying4 isDiskFull laidOut (by kernel_rfl) opensDiskFull ctrDiskFull W base args ds gs before hval hW hz

theorem diskFull_holds : Rows.DiskFullSaid :=
  OpenClaim.holds_of_wide 6 Try.f6 rfl rfl rfl rfl rfl rfl rfl ⟨rfl, rfl, rfl, rfl, rfl⟩ rfl rfl rfl rfl rfl (by kernel_rfl) Try.func6 (by kernel_rfl)
    (of_decide_eq_true (by kernel_rfl)) (by unfold Func.isWrapper; first | (rw [if_pos (by decide +kernel)]; kernel_rfl) | (rw [if_neg (by decide +kernel)]; exact ⟨rfl, rfl⟩))
    (fun os started H enc _ => liftedDiskFull os started H enc)
end Go.Proofs.Ytbdpnkcpglpfbaa
