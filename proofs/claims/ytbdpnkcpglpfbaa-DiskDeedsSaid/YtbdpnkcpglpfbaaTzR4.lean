/- The law DiskDeeds holds for every input: it returns true and leaves its arguments as they were. No conditions. -/
import Derived.Test.YtbdpnkcpglpfbaaTzP
namespace Go.Proofs.Ytbdpnkcpglpfbaa
open Go Go.Sym Go.Proofs.Try Go.ChangeShapes Go.WideShapes Go.ChangeAt Go.RowKit

theorem opensDiskDeeds : OpensL Try.prog [24, 32] (fun (x : Disk × (Bool × List Deed) × Unit) => [x.1.pv, .sl x.2.1.1 6 (x.2.1.2.map Deed.pv)]) (fun x => GoodDisk x.1 ∧ (x.2.1.2.length ≤ 140737488351232 ∧ ∀ y ∈ x.2.1.2, GoodDeed y) ∧ True) := OpensL.cons openDiskA (OpensL.cons openDeedsA OpensL.nil)
theorem ctrDiskDeeds : ∀ x, ((fun x => GoodDisk x.1 ∧ (x.2.1.2.length ≤ 140737488351232 ∧ ∀ y ∈ x.2.1.2, GoodDeed y) ∧ True)) x → Ctr Try.prog 4 (((fun (x : Disk × (Bool × List Deed) × Unit) => [x.1.pv, .sl x.2.1.1 6 (x.2.1.2.map Deed.pv)])) x) [] (bV true) [] [] := fun x h => cDiskDeeds x.1.nl x.1.fs x.1.left x.1.off x.2.1.1 x.2.1.2 h.1.size h.1.data h.1.nl h.1.left (fun y hy => (h.2.1.2 y hy).left) h.2.1.1
theorem isDiskDeeds : IsLaw Rows.diskDeedsSpec 2 := ⟨rfl, fun H ds h => by
    match ds, h with
    | [d1, d2], _ => rfl⟩

set_option maxRecDepth 100000 in
theorem liftedDiskDeeds (os : Os) (started : os.Started) (H : Type) (enc : TypeId × Value → H) :
    ReturnsInHanded {} Try.checked os 4 .any (Rows.diskDeedsSpec.pre6 enc Try.prog Try.f4 Rows.diskDeedsRow.domain false) (Rows.diskDeedsSpec.post enc Try.prog Try.f4 false true false false) := by
  refine returnsInHanded_of_change_sized (C := Try.checked) own started (by kernel_rfl) Try.func4
    (ChangeSpec.witness6 (enc := enc) (C := Try.checked) false ⟨#[], #[.agg #[.slice none 0 0, .int .i64 0, .bool false], .slice none 0 0], []⟩ 8 (by kernel_rfl) (by kernel_rfl) (by kernel_rfl) (by kernel_rfl)) ?_
  intro W base args ds gs before hval hW _ hz _
  exact law_calls (P := Try.prog) (params := [24, 32]) Try.params4 (by kernel_rfl) Try.underlying4 isDiskDeeds laidOut (by kernel_rfl) opensDiskDeeds ctrDiskDeeds W base args ds gs before hval hW hz

theorem diskDeeds_holds : Rows.DiskDeedsSaid :=
  OpenClaim.holds_of_wide 4 Try.f4 rfl rfl rfl rfl rfl rfl rfl ⟨rfl, rfl, rfl, rfl, rfl⟩ rfl rfl rfl rfl rfl (by kernel_rfl) Try.func4 (by kernel_rfl)
    (of_decide_eq_true (by kernel_rfl)) (by unfold Func.isWrapper; first | (rw [if_pos (by decide +kernel)]; kernel_rfl) | (rw [if_neg (by decide +kernel)]; exact ⟨rfl, rfl⟩))
    (fun os started H enc _ => liftedDiskDeeds os started H enc)
end Go.Proofs.Ytbdpnkcpglpfbaa
