/- What a disk, a list of deeds, bytes are as arguments; common parts of the four rows. -/
import Derived.Test.YtbdpnkcpglpfbaaRows
import Derived.Test.YtbdpnkcpglpfbaaTzC
import Derived.Test.YtbdpnkcpglpfbaaSymY
namespace Go.Proofs.Ytbdpnkcpglpfbaa
open Go Go.Sym Go.Proofs.Try Go.ChangeShapes Go.WideShapes Go.ChangeAt Go.RowKit

theorem own : ownKnob Try.prog.godebug = none := by kernel_rfl
theorem laidOut : laidOutB Try.prog = true := by kernel_rfl
theorem cells3 : Try.prog.cellsOf 3 = 1 := by kernel_rfl
theorem cells4 : Try.prog.cellsOf 4 = 1 := by kernel_rfl
theorem cells9 : Try.prog.cellsOf 9 = 1 := by kernel_rfl
theorem cells22 : Try.prog.cellsOf 22 = 1 := by kernel_rfl
theorem cells24 : Try.prog.cellsOf 24 = 3 := by kernel_rfl
theorem cells25 : Try.prog.cellsOf 25 = 1 := by kernel_rfl
theorem cells34 : Try.prog.cellsOf 34 = 6 := by kernel_rfl
theorem cells45 : Try.prog.cellsOf 45 = 3 := by kernel_rfl
theorem bytes45 : Try.prog.bytesOf 45 = 40 := by kernel_rfl
theorem bytes3 : Try.prog.bytesOf 3 = 8 := by kernel_rfl
theorem bytes34 : Try.prog.bytesOf 34 = 88 := by kernel_rfl

structure GoodFile (f : File) : Prop where
  data : f.data.length ≤ reachBytes
theorem openFile : Opens Try.prog 45 (fun f : File => [sV f.name, sV f.data, iV f.synced]) GoodFile := by
  refine Opens.iso (Opens.struct Try.underlying45 (OpensF.cons rfl cells9 (Opens.str Try.underlying9) (OpensF.cons rfl cells9 (Opens.str Try.underlying9) (OpensF.cons rfl cells3 (Opens.int Try.underlying3) (OpensF.nil (by rw [cells45]; decide)))))) (fun x => ⟨x.1, x.2.1, x.2.2.1⟩) ?_
  rintro ⟨a, b, c, _⟩ ⟨_, h2, _, _⟩
  exact ⟨⟨h2⟩, rfl⟩

structure GoodDisk (d : Disk) : Prop where
  nl : d.nl = true → d.fs = []
  size : d.fs.length ≤ 140737488351232
  data : ∀ f ∈ d.fs, f.data.length ≤ 140737488351232
  left : d.left ≤ 9223372036854775807
theorem openDisk : Opens Try.prog 24 (fun d : Disk => diskCells d.nl d.fs d.left d.off) GoodDisk := by
  refine Opens.iso (Opens.struct Try.underlying24 (OpensF.cons rfl cells22 (Opens.slice Try.underlying22 cells45 (by decide) openFile File.pv (fun _ => rfl)) (OpensF.cons rfl cells3 (Opens.int Try.underlying3) (OpensF.cons rfl cells4 (Opens.bool Try.underlying4) (OpensF.nil (by rw [cells24]; decide)))))) (fun x => ⟨x.1.1, x.1.2, x.2.1, x.2.2.1⟩) ?_
  rintro ⟨⟨nl, fs⟩, left, off, _⟩ ⟨⟨h1, h2, h3⟩, h4, _, _⟩
  dsimp only at h1 h2 h3 h4
  rw [bytes45] at h2
  refine ⟨⟨h1, ?_, fun f hf => (h3 f hf).data, ?_⟩, rfl⟩
  · simp only [reachBytes] at h2; dsimp only; omega
  · exact h4.2
theorem openDiskA : OpensA Try.prog 24 Disk.pv GoodDisk := OpensA.struct Try.underlying24 openDisk
theorem openIntA : OpensA Try.prog 3 (fun n : Int => iV n) (fun n => IntKind.i64.min ≤ n ∧ n ≤ IntKind.i64.max) := OpensA.one Try.underlying3 rfl (Opens.int Try.underlying3)
theorem openInts : Opens Try.prog 25 (fun x : Bool × List Int => [.sl x.1 1 (x.2.map iV)]) (fun _ => True) := by
  refine Opens.iso (Opens.slice Try.underlying25 cells3 (by decide) (Opens.int Try.underlying3) iV (fun _ => rfl)) id ?_
  intro a _
  exact ⟨trivial, rfl⟩
theorem openIntsA : OpensA Try.prog 25 (fun x : Bool × List Int => .sl x.1 1 (x.2.map iV)) (fun _ => True) := OpensA.one Try.underlying25 rfl openInts

structure GoodDeed (x : Deed) : Prop where
  left : x.left ≤ 9223372036854775807
theorem openDeed : Opens Try.prog 34 (fun x : Deed => [iV x.kind, iV x.left, sV x.name, sV x.data, sV x.into, .sl x.kn 1 (x.keep.map iV)]) GoodDeed := by
  refine Opens.iso (Opens.struct Try.underlying34 (OpensF.cons rfl cells3 (Opens.int Try.underlying3) (OpensF.cons rfl cells3 (Opens.int Try.underlying3) (OpensF.cons rfl cells9 (Opens.str Try.underlying9) (OpensF.cons rfl cells9 (Opens.str Try.underlying9) (OpensF.cons rfl cells9 (Opens.str Try.underlying9) (OpensF.cons rfl cells25 openInts (OpensF.nil (by rw [cells34]; decide)))))))))
    (fun x => ⟨x.1, x.2.1, x.2.2.1, x.2.2.2.1, x.2.2.2.2.1, x.2.2.2.2.2.1.1, x.2.2.2.2.2.1.2⟩) ?_
  rintro ⟨a, b, c, d, e, ⟨f, g⟩, _⟩ ⟨_, h2, _⟩
  exact ⟨⟨h2.2⟩, rfl⟩
theorem openDeeds : Opens Try.prog 32 (fun x : Bool × List Deed => [.sl x.1 6 (x.2.map Deed.pv)]) (fun x => x.2.length ≤ 140737488351232 ∧ ∀ y ∈ x.2, GoodDeed y) := by
  refine Opens.iso (Opens.slice Try.underlying32 cells34 (by decide) openDeed Deed.pv (fun _ => rfl)) id ?_
  rintro ⟨nl, l⟩ ⟨_, h2, h3⟩
  dsimp only at h2 h3
  rw [bytes34] at h2
  refine ⟨⟨?_, h3⟩, rfl⟩
  simp only [reachBytes] at h2
  show l.length ≤ _
  omega
theorem openDeedsA : OpensA Try.prog 32 (fun x : Bool × List Deed => .sl x.1 6 (x.2.map Deed.pv)) (fun x => x.2.length ≤ 140737488351232 ∧ ∀ y ∈ x.2, GoodDeed y) := OpensA.one Try.underlying32 rfl openDeeds
theorem openByteA : OpensA Try.prog 5 (fun n : Int => .v (.int .u8 n)) (fun n => IntKind.u8.min ≤ n ∧ n ≤ IntKind.u8.max) := OpensA.one Try.underlying5 rfl (Opens.int Try.underlying5)
end Go.Proofs.Ytbdpnkcpglpfbaa
