/- laid of disk. -/
import Derived.Test.YtbdpnkcpglpfbaaTi
namespace Go.Proofs.Try
open Go Go.Sym

theorem plainFs (fs : List File) : plainL (fs.map File.pv) = true := plainL_map _ (fun _ => rfl) _
theorem okFs (fs : List File) : cellsOkL (cellsOf (fs.map File.pv)) = true := cellsOk_map _ (fun _ => rfl) _

/-- A file in the place of what is there at k, or new. -/
def put (fs : List File) (k : Nat) (b : Bool) (f : File) : List File := if b then fs.set k f else fs.take k ++ (f :: fs.drop k)

theorem roFs : ∀ fs : List File, roFreeL (cellsOf (fs.map File.pv)) = true
  | [] => rfl
  | f :: r => by
    have := roFs r
    simp only [cellsOf, List.map_cons, List.flatMap_cons] at this ⊢
    simp only [File.pv, PV.cells, List.cons_append, List.nil_append, roFreeL, roFree, Bool.true_and]
    exact this

set_option maxRecDepth 4000 in
theorem cLaid (nl : Bool) (fs : List File) (left : Int) (off : Bool) (k : Nat) (b : Bool) (f : File) (hnl : nl = true → fs = []) (hk : k ≤ fs.length) (hkb : b = true → k < fs.length) (hb : fs.length ≤ 1000000000) :
    Ctr prog 41 [D nl fs left off, iV k, bV b, f.pv] [] (.sl false 3 ((put fs k b f).map File.pv)) [] [] := by
  have hcl := clone nl (fs.map File.pv) (fun h => by rw [hnl h]; rfl) (plainFs fs) (okFs fs) (by rw [List.length_map]; omega)
  refine Ctr.enter tblOk func41 rfl (by decide) rfl (nt := 24) rfl rfl rfl rfl ?_
  refine Trip.seq ?_
  apply Trip.reg tblOk
  · repeat' (first | exact rfl | ((first | with_reducible refine bok ?_ | with_reducible refine bokL ?_ | with_reducible refine bokR ?_ | with_reducible refine Side.mk ?_); first | omega | exact .inl rfl | exact .inr ⟨rfl, rfl, rfl⟩ | exact fun h => h | exact fun _ h => h | exact fun _ h => congrArg Bool.not h | (intro _ h; simp [gpick, h]; done) | (dsimp only; omega)) | ((fail_if_success (with_reducible refine Side.mk ?_)); constructor))
  · exact rfl
  apply Trip.regk ⟨[(1, iV k), (2, bV b), (7, .ref 7 0), (9, .osl 12 0 (fs.map File.pv).length (fs.map File.pv).length)], [(7, .box f.pv.cells), (12, .arr 3 nl (fs.map File.pv))]⟩ tblOk
  · repeat' (first | exact rfl | (apply Rule.sem; intro hγ; with_reducible apply F_call (σ := []) (B := []) (news := [12]) hγ (hspec := hcl)) | ((first | with_reducible refine bok ?_ | with_reducible refine bokL ?_ | with_reducible refine bokR ?_ | with_reducible refine Side.mk ?_); first | omega | exact .inl rfl | exact .inr ⟨rfl, rfl, rfl⟩ | exact fun h => h | exact fun _ h => h | exact fun _ h => congrArg Bool.not h | (intro _ h; simp [gpick, h]; done) | (dsimp only; omega) | exact plainFs fs) | ((fail_if_success (with_reducible refine Side.mk ?_)); constructor))
  · exact rfl
  · apply Weak.keep
    · exact rfl
    · repeat' (first | exact rfl | exact plainFs fs | constructor)
    · repeat' (first | exact rfl | exact plainFs fs | constructor)
    · exact rfl
    · repeat' (first | exact rfl | exact plainFs fs | constructor)
  refine Trip.seq ?_
  refine Trip.seq ?_
  apply Trip.reg tblOk
  · repeat' (first | exact rfl | ((first | with_reducible refine bok ?_ | with_reducible refine bokL ?_ | with_reducible refine bokR ?_ | with_reducible refine Side.mk ?_); first | omega | exact .inl rfl | exact .inr ⟨rfl, rfl, rfl⟩ | exact fun h => h | exact fun _ h => h | exact fun _ h => congrArg Bool.not h | (intro _ h; simp [gpick, h]; done) | (dsimp only; omega)) | ((fail_if_success (with_reducible refine Side.mk ?_)); constructor))
  · exact rfl
  apply Trip.cond (.tmp rfl)
  · intro hbt
    subst hbt
    have hk2 := hkb rfl
    have hnf : nl = false := by
      cases nl with
      | false => rfl
      | true => have := hnl rfl; subst this; simp at hk2
    subst hnf
    have e1 : SObj.arr 3 false ((fs.map File.pv).set (0 + (k : Int).toNat) f.pv) = .arr 3 false ((fs.set k f).map File.pv) := by
      rw [List.map_set]; congr 2; omega
    apply Trip.regk ⟨[(9, .osl 12 0 (fs.map File.pv).length (fs.map File.pv).length)], [(12, .arr 3 false ((fs.set k f).map File.pv))]⟩ tblOk
    · repeat' (first | exact rfl | exact idx_map _ _ _ (by show _ < _; omega) | ((first | with_reducible refine bok ?_ | with_reducible refine bokL ?_ | with_reducible refine bokR ?_ | with_reducible refine Side.mk ?_); first | omega | exact .inl rfl | exact .inr ⟨rfl, rfl, rfl⟩ | exact fun h => h | exact fun _ h => h | exact fun _ h => congrArg Bool.not h | (intro _ h; simp [gpick, h]; done) | (dsimp only; omega) | (simp; omega)) | ((fail_if_success (with_reducible refine Side.mk ?_)); constructor))
    · exact rfl
    · apply Weak.keep
      · exact rfl
      · repeat' (first | exact rfl | exact e1 | exact plainFs _ | constructor)
      · repeat' (first | exact rfl | exact e1 | exact plainFs _ | constructor)
      · exact rfl
      · repeat' (first | exact rfl | exact e1 | exact plainFs _ | constructor)
    refine Trip.seq ?_
    apply Trip.reg tblOk
    · repeat' (first | exact rfl | ((first | with_reducible refine bok ?_ | with_reducible refine bokL ?_ | with_reducible refine bokR ?_ | with_reducible refine Side.mk ?_); first | omega | exact .inl rfl | exact .inr ⟨rfl, rfl, rfl⟩ | exact fun h => h | exact fun _ h => h | exact fun _ h => congrArg Bool.not h | (intro _ h; simp [gpick, h]; done) | (dsimp only; omega)) | ((fail_if_success (with_reducible refine Side.mk ?_)); constructor))
    · exact rfl
    refine Trip.ret ?_
    apply Ret1 [12]
    · repeat' (first | exact rfl | constructor)
    · exact rfl
    · repeat' (first | exact rfl | exact plainFs _ | (refine Side.mk ?_; simp [put]; done) | constructor)
  · intro hbf
    subst hbf
    refine Trip.skip ?_
    have hin : Ctr prog 50 [.osl PN 0 (fs.map File.pv).length (fs.map File.pv).length, iV k, .sl false 3 [f.pv]] [.arr 3 nl (fs.map File.pv)] (.osl PN 0 ((fs.map File.pv).length + 1) ((fs.map File.pv).length + 1)) [.arr 3 false ((put fs k false f).map File.pv)] [] := by
      have := insert nl (fs.map File.pv) [f.pv] k (by rw [List.length_map]; exact hk) (by simp) (plainFs fs) rfl (okFs fs) rfl (by rw [List.length_map]; simp; omega)
      have e : (fs.map File.pv).take k ++ ([f.pv] ++ (fs.map File.pv).drop k) = (put fs k false f).map File.pv := by
        simp [put, List.map_take, List.map_drop]
      rw [e] at this
      exact this
    have hro : [SObj.arr 3 false ((put fs k false f).map File.pv)].all SObj.roFree = true := by
      simp only [List.all_cons, List.all_nil, Bool.and_true, SObj.roFree]
      exact roFs _
    refine Trip.seq ?_
    apply Trip.reg tblOk
    · repeat' (first | exact rfl | (apply Rule.sem; intro hγ; with_reducible apply F_call (σ := [12]) (B := [22]) (news := []) hγ (hspec := hin)) | ((first | with_reducible refine bok ?_ | with_reducible refine bokL ?_ | with_reducible refine bokR ?_ | with_reducible refine Side.mk ?_); first | omega | exact .inl rfl | exact .inr ⟨rfl, rfl, rfl⟩ | exact fun h => h | exact fun _ h => h | exact fun _ h => congrArg Bool.not h | (intro _ h; simp [gpick, h]; done) | (dsimp only; omega) | exact plainFs _ | exact .inr ⟨rfl, hro, rfl⟩) | ((fail_if_success (with_reducible refine Side.mk ?_)); constructor))
    · exact rfl
    refine Trip.ret ?_
    apply Ret1 [12]
    · repeat' (first | exact rfl | constructor)
    · exact rfl
    · repeat' (first | exact rfl | exact plainFs _ | (refine Side.mk ?_; simp [put]; omega) | constructor)
end Go.Proofs.Try
