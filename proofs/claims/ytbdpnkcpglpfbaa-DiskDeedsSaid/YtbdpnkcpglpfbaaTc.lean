/- slices.Clone, slices.Insert, slices.Delete at []DiskFile. -/
import Derived.Test.YtbdpnkcpglpfbaaTa
namespace Go.Proofs.Try
open Go Go.Sym

theorem okE {es : List PV} (hc : cellsOkL (cellsOf es) = true) (n : Nat) : Side (cellsOkL (cellsOf (es.take n)) = true) := by
  show cellsOkL _ = true
  simp only [cellsOkL, List.all_eq_true, cellsOf, List.mem_flatMap] at hc ⊢
  rintro p ⟨e, he, hp⟩
  exact hc p ⟨e, List.mem_of_mem_take he, hp⟩

set_option maxHeartbeats 400000 in
theorem clone (nl : Bool) (es : List PV) (hnl : nl = true → es = []) (hp : plainL es = true) (hc : cellsOkL (cellsOf es) = true) (hb : es.length ≤ 1000000000000) :
    Ctr prog 43 [.sl nl 3 es] [] (.osl FN 0 es.length es.length) [] [.arr 3 nl es] := by
  refine Ctr.enter tblOk func43 rfl (by decide) rfl (nt := 8) rfl rfl rfl rfl ?_
  refine Trip.seq ?_
  apply Trip.reg tblOk
  · repeat' (first | exact rfl | constructor)
  · exact rfl
  refine Trip.seq ?_
  refine Trip.seq ?_
  apply Trip.reg tblOk
  · repeat' (first | exact rfl | constructor)
  · exact rfl
  apply Trip.cond (.tmp rfl)
  · intro hn
    have := hnl hn
    subst this
    subst hn
    refine Trip.seq ?_
    apply Trip.reg tblOk
    · repeat' (first | exact rfl | constructor)
    · exact rfl
    apply Trip.weak (Weak.adopt (t' := [(2, .osl 900 0 0 0)]) (o' := []) 900 3 rfl rfl (by repeat' (first | exact rfl | constructor)) (by repeat' (first | exact rfl | constructor)))
    refine Trip.ret ?_
    refine ⟨_, _, [900], [], [], [.arr 3 true []], .cons rfl .nil, .one, .nil, .cons rfl .nil, rfl, rfl, rfl, .nil, ?_, ?_⟩
    all_goals repeat' (first | exact rfl | constructor)
  · intro hn
    have hn : nl = false := hn
    subst hn
    refine Trip.skip ?_
    apply Trip.regk ⟨[(2, .osl 5 0 es.length es.length)], [(5, .arr 3 false es)]⟩ tblOk
    · repeat' (first | exact rfl | exact hc | exact Nat.le_trans (by simp; omega) (Nat.le_refl _) | constructor)
    · exact rfl
    · apply Weak.keep
      · exact rfl
      · repeat' (first | exact rfl | constructor)
      · repeat' (first | exact rfl | constructor)
      · exact rfl
      · repeat' (first | exact rfl | exact hp | constructor)
    refine Trip.ret ?_
    refine ⟨_, _, [5], [], [], [.arr 3 false es], .cons rfl .nil, .one, .nil, .cons rfl .nil, rfl, rfl, rfl, .nil, ?_, ?_⟩
    all_goals repeat' (first | exact rfl | exact hp | constructor)
end Go.Proofs.Try
