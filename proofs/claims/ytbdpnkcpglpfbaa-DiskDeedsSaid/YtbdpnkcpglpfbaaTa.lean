/- A part of the proof: Ta. -/
import Derived.Test.YtbdpnkcpglpfbaaTable
namespace Go.Proofs.Try
open Go Go.Sym

structure File where
  name : List UInt8
  data : List UInt8
  synced : Int
  deriving Inhabited
def File.pv (f : File) : PV := .agg [sV f.name, sV f.data, iV f.synced]
def diskCells (nl : Bool) (fs : List File) (left : Int) (off : Bool) : List PV := [.sl nl 3 (fs.map File.pv), iV left, bV off]

theorem idx_map {α : Type} [Inhabited α] (f : α → PV) (l : List α) (i : Nat) (h : Side (i < l.length)) : (l.map f)[i]? = some (f l[i]!) := by
  rw [List.getElem?_map, List.getElem?_eq_getElem h]
  simp [getElem!_pos l i h]

set_option maxHeartbeats 400000 in
theorem place1 (nl : Bool) (fs : List File) (left : Int) (off : Bool) (name : List UInt8) (i : Int) (h0 : 0 ≤ i) (h1 : i < fs.length) :
    Ctr prog 48 [iV i, .rp (diskCells nl fs left off), .rp [sV name]] [] (bV (!Op.bytesLess (fs[i.toNat]!).name name)) [] [] := by
  refine Ctr.enter tblOk func48 rfl (by decide) rfl (nt := 13) rfl rfl rfl rfl ?_
  refine Trip.seq ?_
  apply Trip.reg tblOk
  · repeat' (first | exact rfl | constructor)
  · exact rfl
  refine Trip.seq ?_
  apply Trip.drw tblOk mixed
  · repeat' (first | exact rfl | exact idx_map _ _ _ (by simp only [Side]; omega) | constructor)
    all_goals ((try simp only [Side, List.length_map]); omega)
  · exact rfl
  · kernel_rfl
  refine Trip.ret ?_
  refine ⟨_, _, [], [], [], [], .cons rfl .nil, .one, .nil, .nil, rfl, rfl, rfl, .nil, .nil, ?_⟩
  repeat' (first | exact rfl | constructor)
end Go.Proofs.Try
