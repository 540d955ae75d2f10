/- Sync of disk. -/
import Derived.Test.YtbdpnkcpglpfbaaTl
namespace Go.Proofs.Try
open Go Go.Sym

/-- All bytes of a file are sure. -/
def sync (d : Disk) (name : List UInt8) : Disk × Int :=
  if d.off then (d, 9) else if !isAt d.fs (pos d.fs name) name then (d, 5) else
    let f := d.fs[pos d.fs name]!
    (d.done false (put d.fs (pos d.fs name) true ⟨f.name, f.data, f.data.length⟩), 0)

set_option maxRecDepth 4000 in
theorem cSync (d : Disk) (name : List UInt8) (hd : d.Ok) :
    Ctr prog 27 [d.pv, sV name] [] (.tup [(sync d name).1.pv, iV (sync d name).2]) [] [] := by
  have hb := hd.size
  have hpl := cPlace d.nl d.fs d.left d.off name (by omega)
  have hg : sync d name = if d.off then (d, 9) else if !isAt d.fs (pos d.fs name) name then (d, 5) else
    (d.done false (put d.fs (pos d.fs name) true ⟨(d.fs[pos d.fs name]!).name, (d.fs[pos d.fs name]!).data, (d.fs[pos d.fs name]!).data.length⟩), 0) := rfl
  have hlt := fun h => @isAt_lt d.fs (pos d.fs name) name h
  have hle := pos_le d.fs name
  generalize pos d.fs name = k at *
  generalize isAt d.fs k name = is at *
  have c1 := cLaid d.nl d.fs d.left d.off k true ⟨(d.fs[k]!).name, (d.fs[k]!).data, (d.fs[k]!).data.length⟩ hd.nl hle
  have c2 := cDone d.nl false d.fs (put d.fs k true ⟨(d.fs[k]!).name, (d.fs[k]!).data, (d.fs[k]!).data.length⟩) d.left d.off hd.left
  obtain ⟨nl, fs, left, off⟩ := d
  dsimp only at *
  refine Ctr.enter tblOk func27 rfl (by decide) rfl (nt := 36) rfl rfl rfl rfl ?_
  refine Trip.seq ?_
  apply Trip.reg tblOk
  · repeat' (first | exact rfl | ((first | with_reducible refine bok ?_ | with_reducible refine bokL ?_ | with_reducible refine bokR ?_ | with_reducible refine Side.mk ?_); first | omega | exact .inl rfl | exact .inr ⟨rfl, rfl, rfl⟩ | exact fun h => h | exact fun _ h => h | exact fun _ h => congrArg Bool.not h | (intro _ h; simp [gpick, h]; done) | (dsimp only; omega)) | ((fail_if_success (with_reducible refine Side.mk ?_)); constructor))
  · exact rfl
  refine Trip.seq ?_
  refine Trip.seq ?_
  apply Trip.reg tblOk
  · repeat' (first | exact rfl | ((first | with_reducible refine bok ?_ | with_reducible refine bokL ?_ | with_reducible refine bokR ?_ | with_reducible refine Side.mk ?_); first | omega | exact .inl rfl | exact .inr ⟨rfl, rfl, rfl⟩ | exact fun h => h | exact fun _ h => h | exact fun _ h => congrArg Bool.not h | (intro _ h; simp [gpick, h]; done) | (dsimp only; omega)) | ((fail_if_success (with_reducible refine Side.mk ?_)); constructor))
  · exact rfl
  apply Trip.cond (.tmp rfl)
  · intro ho
    have ho : off = true := ho
    rw [hg, if_pos ho]
    refine Trip.seq ?_
    apply Trip.reg tblOk
    · repeat' (first | exact rfl | ((first | with_reducible refine bok ?_ | with_reducible refine bokL ?_ | with_reducible refine bokR ?_ | with_reducible refine Side.mk ?_); first | omega | exact .inl rfl | exact .inr ⟨rfl, rfl, rfl⟩ | exact fun h => h | exact fun _ h => h | exact fun _ h => congrArg Bool.not h | (intro _ h; simp [gpick, h]; done) | (dsimp only; omega)) | ((fail_if_success (with_reducible refine Side.mk ?_)); constructor))
    · exact rfl
    refine Trip.ret ?_
    apply Ret2 []
    · repeat' (first | exact rfl | constructor)
    · exact rfl
    · repeat' (first | exact rfl | constructor)
    · repeat' (first | exact rfl | constructor)
  intro ho
  have ho : off = false := ho
  subst ho
  refine Trip.skip ?_
  apply Trip.regk ⟨[(2, .ref 2 0), (4, .ref 4 0), (6, iV k), (7, bV is)], [(2, .box (diskCells nl fs left false)), (4, .box [nilS, iV 0, bV false])]⟩ tblOk
  · repeat' (first | exact rfl | (apply Rule.sem; intro hγ; with_reducible apply F_call (x := .func 35) (σ := []) (B := []) (news := []) hγ (hspec := hpl)) | ((first | with_reducible refine bok ?_ | with_reducible refine bokL ?_ | with_reducible refine bokR ?_ | with_reducible refine Side.mk ?_); first | omega | exact .inl rfl | exact .inr ⟨rfl, rfl, rfl⟩ | exact fun h => h | exact fun _ h => h | exact fun _ h => congrArg Bool.not h | (intro _ h; simp [gpick, h]; done) | (dsimp only; omega)) | ((fail_if_success (with_reducible refine Side.mk ?_)); constructor))
  · exact rfl
  · apply Weak.keep
    · exact rfl
    · repeat' (first | exact rfl | constructor)
    · repeat' (first | exact rfl | constructor)
    · exact rfl
    · repeat' (first | exact rfl | constructor)
  refine Trip.seq ?_
  refine Trip.seq ?_
  apply Trip.reg tblOk
  · repeat' (first | exact rfl | ((first | with_reducible refine bok ?_ | with_reducible refine bokL ?_ | with_reducible refine bokR ?_ | with_reducible refine Side.mk ?_); first | omega | exact .inl rfl | exact .inr ⟨rfl, rfl, rfl⟩ | exact fun h => h | exact fun _ h => h | exact fun _ h => congrArg Bool.not h | (intro _ h; simp [gpick, h]; done) | (dsimp only; omega)) | ((fail_if_success (with_reducible refine Side.mk ?_)); constructor))
  · exact rfl
  apply Trip.cond (.tmp rfl)
  · intro h
    have h : is = false := by simpa using h
    subst h
    have e : sync ⟨nl, fs, left, false⟩ name = (⟨nl, fs, left, false⟩, 5) := hg
    rw [e]
    refine Trip.seq ?_
    apply Trip.reg tblOk
    · repeat' (first | exact rfl | ((first | with_reducible refine bok ?_ | with_reducible refine bokL ?_ | with_reducible refine bokR ?_ | with_reducible refine Side.mk ?_); first | omega | exact .inl rfl | exact .inr ⟨rfl, rfl, rfl⟩ | exact fun h => h | exact fun _ h => h | exact fun _ h => congrArg Bool.not h | (intro _ h; simp [gpick, h]; done) | (dsimp only; omega)) | ((fail_if_success (with_reducible refine Side.mk ?_)); constructor))
    · exact rfl
    refine Trip.ret ?_
    apply Ret2 []
    · repeat' (first | exact rfl | constructor)
    · exact rfl
    · repeat' (first | exact rfl | constructor)
    · repeat' (first | exact rfl | constructor)
  · intro h
    have h : is = true := by simpa using h
    subst h
    have h2 := hlt rfl
    have e : sync ⟨nl, fs, left, false⟩ name = (Disk.done ⟨nl, fs, left, false⟩ false (put fs k true ⟨(fs[k]!).name, (fs[k]!).data, (fs[k]!).data.length⟩), 0) := hg
    rw [e]
    refine Trip.skip ?_
    refine Trip.seq ?_
    apply Trip.reg tblOk
    · repeat' (first | exact rfl | exact idx_map _ _ _ (by show _ < _; omega) | ((first | with_reducible refine bok ?_ | with_reducible refine bokL ?_ | with_reducible refine bokR ?_ | with_reducible refine Side.mk ?_); first | omega | exact .inl rfl | exact .inr ⟨rfl, rfl, rfl⟩ | exact fun h => h | exact fun _ h => h | exact fun _ h => congrArg Bool.not h | (intro _ h; simp [gpick, h]; done) | (dsimp only; omega) | (simp; omega)) | ((fail_if_success (with_reducible refine Side.mk ?_)); constructor))
    · exact rfl
    refine Trip.seq ?_
    apply Trip.reg tblOk
    · repeat' (first | exact rfl | ((first | with_reducible refine bok ?_ | with_reducible refine bokL ?_ | with_reducible refine bokR ?_ | with_reducible refine Side.mk ?_); first | omega | exact .inl rfl | exact .inr ⟨rfl, rfl, rfl⟩ | exact fun h => h | exact fun _ h => h | exact fun _ h => congrArg Bool.not h | (intro _ h; simp [gpick, h]; done) | (dsimp only; omega)) | ((fail_if_success (with_reducible refine Side.mk ?_)); constructor))
    · exact rfl
    refine Trip.seq ?_
    apply Trip.drw tblOk mixed
    · repeat' (first | exact rfl | (apply Rule.sem; intro hγ; with_reducible apply F_call (x := .func 41) (σ := []) (B := []) (news := []) hγ (hspec := c1 (fun _ => h2) hb)) | (apply Rule.sem; intro hγ; with_reducible apply F_call (x := .func 40) (σ := []) (B := []) (news := []) hγ (hspec := c2)) | ((first | with_reducible refine bok ?_ | with_reducible refine bokL ?_ | with_reducible refine bokR ?_ | with_reducible refine Side.mk ?_); first | omega | exact .inl rfl | exact .inr ⟨rfl, rfl, rfl⟩ | exact fun h => h | exact fun _ h => h | exact fun _ h => congrArg Bool.not h | (intro _ h; simp [gpick, h]; done) | (dsimp only; omega)) | ((fail_if_success (with_reducible refine Side.mk ?_)); constructor))
    · exact rfl
    · kernel_rfl
    refine Trip.ret ?_
    apply Ret2 []
    · repeat' (first | exact rfl | constructor)
    · exact rfl
    · repeat' (first | exact rfl | constructor)
    · repeat' (first | exact rfl | constructor)
end Go.Proofs.Try
