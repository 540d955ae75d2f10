/- Drop of disk. -/
import Derived.Test.YtbdpnkcpglpfbaaTm
namespace Go.Proofs.Try
open Go Go.Sym

/-- A file goes. -/
def drop (d : Disk) (name : List UInt8) : Disk × Int :=
  if d.off then (d, 9) else if !isAt d.fs (pos d.fs name) name then (d, 5) else
    (d.done false (d.fs.take (pos d.fs name) ++ d.fs.drop (pos d.fs name + 1)), 0)

theorem deleteF (nl : Bool) (fs : List File) (k : Nat) (hk : k < fs.length) (hb : fs.length ≤ 1000000000) :
    Ctr prog 42 [.osl PN 0 (fs.map File.pv).length (fs.map File.pv).length, iV k, iV ((k : Int) + 1)] [.arr 3 nl (fs.map File.pv)] (.osl PN 0 (k + ((fs.map File.pv).length - (k + 1))) (fs.map File.pv).length) [.arr 3 nl ((fs.take k ++ fs.drop (k + 1)).map File.pv ++ [deadE 3])] [] := by
  have h := delete nl (fs.map File.pv) k (k + 1) (by omega) (by rw [List.length_map]; omega) (plainFs fs) (okFs fs) (by rw [List.length_map]; omega)
  have e1 : (fs.map File.pv).take k ++ ((fs.map File.pv).drop (k + 1) ++ List.replicate (k + 1 - k) (deadE 3)) = (fs.take k ++ fs.drop (k + 1)).map File.pv ++ [deadE 3] := by
    rw [show k + 1 - k = 1 by omega]
    simp [List.map_take, List.map_drop]
  rw [e1] at h
  exact h

set_option maxRecDepth 4000 in
theorem cDrop (d : Disk) (name : List UInt8) (hd : d.Ok) :
    Ctr prog 29 [d.pv, sV name] [] (.tup [(drop d name).1.pv, iV (drop d name).2]) [] [] := by
  have hb := hd.size
  have hpl := cPlace d.nl d.fs d.left d.off name (by omega)
  have hg : drop d name = if d.off then (d, 9) else if !isAt d.fs (pos d.fs name) name then (d, 5) else
    (d.done false (d.fs.take (pos d.fs name) ++ d.fs.drop (pos d.fs name + 1)), 0) := rfl
  have hlt := fun h => @isAt_lt d.fs (pos d.fs name) name h
  have hle := pos_le d.fs name
  generalize pos d.fs name = k at *
  generalize isAt d.fs k name = is at *
  have c1 := clone d.nl (d.fs.map File.pv) (fun h => by rw [hd.nl h]; rfl) (plainFs d.fs) (okFs d.fs) (by rw [List.length_map]; omega)
  have c2 := cDone d.nl false d.fs (d.fs.take k ++ d.fs.drop (k + 1)) d.left d.off hd.left
  have hnl := hd.nl
  obtain ⟨nl, fs, left, off⟩ := d
  dsimp only at *
  refine Ctr.enter tblOk func29 rfl (by decide) rfl (nt := 29) rfl rfl rfl rfl ?_
  refine Trip.seq ?_
  apply Trip.reg tblOk
  · repeat' (first | exact rfl | ((first | with_reducible refine bok ?_ | with_reducible refine bokL ?_ | with_reducible refine bokR ?_ | with_reducible refine Side.mk ?_); first | omega | exact .inl rfl | exact .inr ⟨rfl, rfl, rfl⟩ | exact fun h => h | exact fun _ h => h | exact fun _ h => congrArg Bool.not h | (intro _ h; simp [gpick, h]; done) | (dsimp only; omega)) | ((fail_if_success (with_reducible refine Side.mk ?_)); constructor))
  · exact rfl
  refine Trip.seq ?_
  refine Trip.seq ?_
  apply Trip.reg tblOk
  · repeat' (first | exact rfl | ((first | with_reducible refine bok ?_ | with_reducible refine bokL ?_ | with_reducible refine bokR ?_ | with_reducible refine Side.mk ?_); first | omega | exact .inl rfl | exact .inr ⟨rfl, rfl, rfl⟩ | exact fun h => h | exact fun _ h => h | exact fun _ h => congrArg Bool.not h | (intro _ h; simp [gpick, h]; done) | (dsimp only; omega)) | ((fail_if_success (with_reducible refine Side.mk ?_)); constructor))
  · exact rfl
  apply Trip.cond (.tmp rfl)
  · intro ho
    have ho : off = true := ho
    rw [hg, if_pos ho]
    refine Trip.seq ?_
    apply Trip.reg tblOk
    · repeat' (first | exact rfl | ((first | with_reducible refine bok ?_ | with_reducible refine bokL ?_ | with_reducible refine bokR ?_ | with_reducible refine Side.mk ?_); first | omega | exact .inl rfl | exact .inr ⟨rfl, rfl, rfl⟩ | exact fun h => h | exact fun _ h => h | exact fun _ h => congrArg Bool.not h | (intro _ h; simp [gpick, h]; done) | (dsimp only; omega)) | ((fail_if_success (with_reducible refine Side.mk ?_)); constructor))
    · exact rfl
    refine Trip.ret ?_
    apply Ret2 []
    · repeat' (first | exact rfl | constructor)
    · exact rfl
    · repeat' (first | exact rfl | constructor)
    · repeat' (first | exact rfl | constructor)
  intro ho
  have ho : off = false := ho
  subst ho
  refine Trip.skip ?_
  apply Trip.regk ⟨[(2, .ref 2 0), (4, .ref 4 0), (6, iV k), (7, bV is)], [(2, .box (diskCells nl fs left false)), (4, .box [nilS, iV 0, bV false])]⟩ tblOk
  · repeat' (first | exact rfl | (apply Rule.sem; intro hγ; with_reducible apply F_call (x := .func 35) (σ := []) (B := []) (news := []) hγ (hspec := hpl)) | ((first | with_reducible refine bok ?_ | with_reducible refine bokL ?_ | with_reducible refine bokR ?_ | with_reducible refine Side.mk ?_); first | omega | exact .inl rfl | exact .inr ⟨rfl, rfl, rfl⟩ | exact fun h => h | exact fun _ h => h | exact fun _ h => congrArg Bool.not h | (intro _ h; simp [gpick, h]; done) | (dsimp only; omega)) | ((fail_if_success (with_reducible refine Side.mk ?_)); constructor))
  · exact rfl
  · apply Weak.keep
    · exact rfl
    · repeat' (first | exact rfl | constructor)
    · repeat' (first | exact rfl | constructor)
    · exact rfl
    · repeat' (first | exact rfl | constructor)
  refine Trip.seq ?_
  refine Trip.seq ?_
  apply Trip.reg tblOk
  · repeat' (first | exact rfl | ((first | with_reducible refine bok ?_ | with_reducible refine bokL ?_ | with_reducible refine bokR ?_ | with_reducible refine Side.mk ?_); first | omega | exact .inl rfl | exact .inr ⟨rfl, rfl, rfl⟩ | exact fun h => h | exact fun _ h => h | exact fun _ h => congrArg Bool.not h | (intro _ h; simp [gpick, h]; done) | (dsimp only; omega)) | ((fail_if_success (with_reducible refine Side.mk ?_)); constructor))
  · exact rfl
  apply Trip.cond (.tmp rfl)
  · intro h
    have h : is = false := by simpa using h
    subst h
    have e : drop ⟨nl, fs, left, false⟩ name = (⟨nl, fs, left, false⟩, 5) := hg
    rw [e]
    refine Trip.seq ?_
    apply Trip.reg tblOk
    · repeat' (first | exact rfl | ((first | with_reducible refine bok ?_ | with_reducible refine bokL ?_ | with_reducible refine bokR ?_ | with_reducible refine Side.mk ?_); first | omega | exact .inl rfl | exact .inr ⟨rfl, rfl, rfl⟩ | exact fun h => h | exact fun _ h => h | exact fun _ h => congrArg Bool.not h | (intro _ h; simp [gpick, h]; done) | (dsimp only; omega)) | ((fail_if_success (with_reducible refine Side.mk ?_)); constructor))
    · exact rfl
    refine Trip.ret ?_
    apply Ret2 []
    · repeat' (first | exact rfl | constructor)
    · exact rfl
    · repeat' (first | exact rfl | constructor)
    · repeat' (first | exact rfl | constructor)
  · intro h
    have h : is = true := by simpa using h
    subst h
    have h2 := hlt rfl
    have hnf : nl = false := by
      cases nl with
      | false => rfl
      | true => have := hnl rfl; subst this; simp at h2
    subst hnf
    have e : drop ⟨false, fs, left, false⟩ name = (Disk.done ⟨false, fs, left, false⟩ false (fs.take k ++ fs.drop (k + 1)), 0) := hg
    rw [e]
    have c3 := deleteF false fs k h2 hb
    have v5 : (((fs.take k ++ fs.drop (k + 1)).map File.pv ++ [deadE 3]).drop 0).take (k + ((fs.map File.pv).length - (k + 1))) = (fs.take k ++ fs.drop (k + 1)).map File.pv := by
      rw [List.drop_zero]
      exact List.take_left' (by simp; omega)
    have hpl2 : plainL ((fs.take k ++ fs.drop (k + 1)).map File.pv ++ [deadE 3]) = true := plain_app (plainFs _) rfl
    refine Trip.skip ?_
    refine Trip.seq ?_
    apply Trip.drw tblOk mixed
    · repeat' (first | exact rfl | (apply Rule.sem; intro hγ; with_reducible apply F_call (x := .func 43) (σ := []) (B := []) (news := [23]) hγ (hspec := c1)) | (apply Rule.sem; intro hγ; with_reducible apply F_call (x := .func 42) (σ := [23]) (B := []) (news := []) hγ (hspec := c3)) | (apply Rule.sem; intro hγ; with_reducible apply F_callG (x := .func 40) (σ := []) (G := [23]) (news := []) hγ (hspec := c2)) | (with_reducible apply cvView (B := [23])) | ((first | with_reducible refine bok ?_ | with_reducible refine bokL ?_ | with_reducible refine bokR ?_ | with_reducible refine Side.mk ?_); first | omega | exact .inl rfl | exact .inr ⟨rfl, rfl, rfl⟩ | exact fun h => h | exact fun _ h => h | exact fun _ h => congrArg Bool.not h | (intro _ h; simp [gpick, h]; done) | (dsimp only; omega) | exact plainFs _ | exact hpl2 | exact v5 | (simp; omega)) | ((fail_if_success (with_reducible refine Side.mk ?_)); constructor))
    · exact rfl
    · kernel_rfl
    refine Trip.ret ?_
    apply Ret2 []
    · repeat' (first | exact rfl | constructor)
    · exact rfl
    · repeat' (first | exact rfl | constructor)
    · repeat' (first | exact rfl | constructor)
end Go.Proofs.Try
