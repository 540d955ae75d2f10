/- Put, Append, Get, Sync of disk. -/
import Derived.Test.YtbdpnkcpglpfbaaTk
namespace Go.Proofs.Try
open Go Go.Sym

set_option maxRecDepth 4000 in
theorem cPut (d : Disk) (name data : List UInt8) (hd : d.Ok) (hs : ∀ f ∈ d.fs, f.data.length + data.length ≤ 9223372036854775807) :
    Ctr prog 23 [d.pv, sV name, sV data] [] (.tup [(wr d name data false).1.pv, iV (wr d name data false).2]) [] [] := by
  have c := cWrite d name data false hd hs
  generalize wr d name data false = r at c
  obtain ⟨⟨nl2, fs2, left2, off2⟩, e2⟩ := r
  obtain ⟨nl, fs, left, off⟩ := d
  refine Ctr.enter tblOk func23 rfl (by decide) rfl (nt := 14) rfl rfl rfl rfl ?_
  refine Trip.seq ?_
  apply Trip.reg tblOk
  · repeat' (first | exact rfl | ((first | with_reducible refine bok ?_ | with_reducible refine bokL ?_ | with_reducible refine bokR ?_ | with_reducible refine Side.mk ?_); first | omega | exact .inl rfl | exact .inr ⟨rfl, rfl, rfl⟩ | exact fun h => h | exact fun _ h => h | exact fun _ h => congrArg Bool.not h | (intro _ h; simp [gpick, h]; done) | (dsimp only; omega)) | ((fail_if_success (with_reducible refine Side.mk ?_)); constructor))
  · exact rfl
  refine Trip.seq ?_
  apply Trip.reg tblOk
  · repeat' (first | exact rfl | (apply Rule.sem; intro hγ; with_reducible apply F_call (x := .func 38) (σ := []) (B := []) (news := []) hγ (hspec := c)) | ((first | with_reducible refine bok ?_ | with_reducible refine bokL ?_ | with_reducible refine bokR ?_ | with_reducible refine Side.mk ?_); first | omega | exact .inl rfl | exact .inr ⟨rfl, rfl, rfl⟩ | exact fun h => h | exact fun _ h => h | exact fun _ h => congrArg Bool.not h | (intro _ h; simp [gpick, h]; done) | (dsimp only; omega)) | ((fail_if_success (with_reducible refine Side.mk ?_)); constructor))
  · exact rfl
  refine Trip.ret ?_
  apply Ret2 []
  · repeat' (first | exact rfl | constructor)
  · exact rfl
  · repeat' (first | exact rfl | constructor)
  · repeat' (first | exact rfl | constructor)

set_option maxRecDepth 4000 in
theorem cAppend (d : Disk) (name data : List UInt8) (hd : d.Ok) (hs : ∀ f ∈ d.fs, f.data.length + data.length ≤ 9223372036854775807) :
    Ctr prog 25 [d.pv, sV name, sV data] [] (.tup [(wr d name data true).1.pv, iV (wr d name data true).2]) [] [] := by
  have c := cWrite d name data true hd hs
  generalize wr d name data true = r at c
  obtain ⟨⟨nl2, fs2, left2, off2⟩, e2⟩ := r
  obtain ⟨nl, fs, left, off⟩ := d
  refine Ctr.enter tblOk func25 rfl (by decide) rfl (nt := 14) rfl rfl rfl rfl ?_
  refine Trip.seq ?_
  apply Trip.reg tblOk
  · repeat' (first | exact rfl | ((first | with_reducible refine bok ?_ | with_reducible refine bokL ?_ | with_reducible refine bokR ?_ | with_reducible refine Side.mk ?_); first | omega | exact .inl rfl | exact .inr ⟨rfl, rfl, rfl⟩ | exact fun h => h | exact fun _ h => h | exact fun _ h => congrArg Bool.not h | (intro _ h; simp [gpick, h]; done) | (dsimp only; omega)) | ((fail_if_success (with_reducible refine Side.mk ?_)); constructor))
  · exact rfl
  refine Trip.seq ?_
  apply Trip.reg tblOk
  · repeat' (first | exact rfl | (apply Rule.sem; intro hγ; with_reducible apply F_call (x := .func 38) (σ := []) (B := []) (news := []) hγ (hspec := c)) | ((first | with_reducible refine bok ?_ | with_reducible refine bokL ?_ | with_reducible refine bokR ?_ | with_reducible refine Side.mk ?_); first | omega | exact .inl rfl | exact .inr ⟨rfl, rfl, rfl⟩ | exact fun h => h | exact fun _ h => h | exact fun _ h => congrArg Bool.not h | (intro _ h; simp [gpick, h]; done) | (dsimp only; omega)) | ((fail_if_success (with_reducible refine Side.mk ?_)); constructor))
  · exact rfl
  refine Trip.ret ?_
  apply Ret2 []
  · repeat' (first | exact rfl | constructor)
  · exact rfl
  · repeat' (first | exact rfl | constructor)
  · repeat' (first | exact rfl | constructor)

/-- The bytes of a file. -/
def gets (d : Disk) (name : List UInt8) : List UInt8 × Int := if isAt d.fs (pos d.fs name) name then ((d.fs[pos d.fs name]!).data, 0) else ([], 5)
theorem isAt_lt {fs : List File} {k : Nat} {name : List UInt8} (h : isAt fs k name = true) : k < fs.length := by simp [isAt] at h; omega

set_option maxRecDepth 4000 in
theorem cGet (d : Disk) (name : List UInt8) (hb : d.fs.length ≤ 1000000000) :
    Ctr prog 18 [d.pv, sV name] [] (.tup [sV (gets d name).1, iV (gets d name).2]) [] [] := by
  obtain ⟨nl, fs, left, off⟩ := d
  dsimp only at hb
  have hpl := cPlace nl fs left off name (by omega)
  have hg : gets ⟨nl, fs, left, off⟩ name = if isAt fs (pos fs name) name then ((fs[pos fs name]!).data, 0) else ([], 5) := rfl
  have hlt := fun h => @isAt_lt fs (pos fs name) name h
  generalize pos fs name = k at *
  generalize isAt fs k name = is at *
  refine Ctr.enter tblOk func18 rfl (by decide) rfl (nt := 22) rfl rfl rfl rfl ?_
  refine Trip.seq ?_
  apply Trip.reg tblOk
  · repeat' (first | exact rfl | ((first | with_reducible refine bok ?_ | with_reducible refine bokL ?_ | with_reducible refine bokR ?_ | with_reducible refine Side.mk ?_); first | omega | exact .inl rfl | exact .inr ⟨rfl, rfl, rfl⟩ | exact fun h => h | exact fun _ h => h | exact fun _ h => congrArg Bool.not h | (intro _ h; simp [gpick, h]; done) | (dsimp only; omega)) | ((fail_if_success (with_reducible refine Side.mk ?_)); constructor))
  · exact rfl
  apply Trip.regk ⟨[(2, .ref 2 0), (6, iV k), (7, bV is)], [(2, .box (diskCells nl fs left off))]⟩ tblOk
  · repeat' (first | exact rfl | (apply Rule.sem; intro hγ; with_reducible apply F_call (x := .func 35) (σ := []) (B := []) (news := []) hγ (hspec := hpl)) | ((first | with_reducible refine bok ?_ | with_reducible refine bokL ?_ | with_reducible refine bokR ?_ | with_reducible refine Side.mk ?_); first | omega | exact .inl rfl | exact .inr ⟨rfl, rfl, rfl⟩ | exact fun h => h | exact fun _ h => h | exact fun _ h => congrArg Bool.not h | (intro _ h; simp [gpick, h]; done) | (dsimp only; omega)) | ((fail_if_success (with_reducible refine Side.mk ?_)); constructor))
  · exact rfl
  · apply Weak.keep
    · exact rfl
    · repeat' (first | exact rfl | constructor)
    · repeat' (first | exact rfl | constructor)
    · exact rfl
    · repeat' (first | exact rfl | constructor)
  refine Trip.seq ?_
  refine Trip.seq ?_
  apply Trip.reg tblOk
  · repeat' (first | exact rfl | ((first | with_reducible refine bok ?_ | with_reducible refine bokL ?_ | with_reducible refine bokR ?_ | with_reducible refine Side.mk ?_); first | omega | exact .inl rfl | exact .inr ⟨rfl, rfl, rfl⟩ | exact fun h => h | exact fun _ h => h | exact fun _ h => congrArg Bool.not h | (intro _ h; simp [gpick, h]; done) | (dsimp only; omega)) | ((fail_if_success (with_reducible refine Side.mk ?_)); constructor))
  · exact rfl
  apply Trip.cond (.tmp rfl)
  · intro h
    have h : is = false := by simpa using h
    rw [hg, h]
    refine Trip.seq ?_
    apply Trip.reg tblOk
    · repeat' (first | exact rfl | ((first | with_reducible refine bok ?_ | with_reducible refine bokL ?_ | with_reducible refine bokR ?_ | with_reducible refine Side.mk ?_); first | omega | exact .inl rfl | exact .inr ⟨rfl, rfl, rfl⟩ | exact fun h => h | exact fun _ h => h | exact fun _ h => congrArg Bool.not h | (intro _ h; simp [gpick, h]; done) | (dsimp only; omega)) | ((fail_if_success (with_reducible refine Side.mk ?_)); constructor))
    · exact rfl
    refine Trip.ret ?_
    apply Ret2 []
    · repeat' (first | exact rfl | constructor)
    · exact rfl
    · repeat' (first | exact rfl | constructor)
    · repeat' (first | exact rfl | constructor)
  · intro h
    have h : is = true := by simpa using h
    have h2 := hlt h
    rw [hg, if_pos h]
    refine Trip.skip ?_
    refine Trip.seq ?_
    apply Trip.reg tblOk
    · repeat' (first | exact rfl | exact idx_map _ _ _ (by show _ < _; omega) | ((first | with_reducible refine bok ?_ | with_reducible refine bokL ?_ | with_reducible refine bokR ?_ | with_reducible refine Side.mk ?_); first | omega | exact .inl rfl | exact .inr ⟨rfl, rfl, rfl⟩ | exact fun h => h | exact fun _ h => h | exact fun _ h => congrArg Bool.not h | (intro _ h; simp [gpick, h]; done) | (dsimp only; omega) | (simp; omega)) | ((fail_if_success (with_reducible refine Side.mk ?_)); constructor))
    · exact rfl
    refine Trip.ret ?_
    apply Ret2 []
    · repeat' (first | exact rfl | constructor)
    · exact rfl
    · repeat' (first | exact rfl | constructor)
    · repeat' (first | exact rfl | constructor)
end Go.Proofs.Try
