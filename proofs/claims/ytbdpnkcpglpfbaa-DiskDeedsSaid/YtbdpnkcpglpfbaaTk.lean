/- write of disk. -/
import Derived.Test.YtbdpnkcpglpfbaaTj
namespace Go.Proofs.Try
open Go Go.Sym

structure Disk where
  nl : Bool
  fs : List File
  left : Int
  off : Bool
def Disk.pv (d : Disk) : PV := D d.nl d.fs d.left d.off
def named (name : List UInt8) : Bool := decide (1 ≤ (name.length : Int)) && decide ((name.length : Int) ≤ 255)
/-- A deed more is done. -/
def Disk.done (d : Disk) (nl : Bool) (fs : List File) : Disk := ⟨nl, fs, dec d.left, decide (0 < d.left) && decide (d.left - 1 = 0)⟩
def newFile (d : Disk) (name data : List UInt8) (add : Bool) : File :=
  if isAt d.fs (pos d.fs name) name && add then ⟨name, (d.fs[pos d.fs name]!).data ++ data, (d.fs[pos d.fs name]!).synced⟩ else ⟨name, data, 0⟩
def tooFull (d : Disk) (name data : List UInt8) (add : Bool) : Bool :=
  (!isAt d.fs (pos d.fs name) name && decide (65536 ≤ (d.fs.length : Int))) || decide (4194304 < ((newFile d name data add).data.length : Int))
def wr (d : Disk) (name data : List UInt8) (add : Bool) : Disk × Int :=
  if d.off then (d, 9) else if !named name then (d, 1) else if tooFull d name data add then (d, 520) else
    (d.done false (put d.fs (pos d.fs name) (isAt d.fs (pos d.fs name) name) (newFile d name data add)), 0)
structure Disk.Ok (d : Disk) : Prop where
  nl : d.nl = true → d.fs = []
  size : d.fs.length ≤ 1000000000
  left : -9223372036854775808 ≤ d.left ∧ d.left ≤ 9223372036854775807

set_option maxRecDepth 4000 in
theorem cWrite (d : Disk) (name data : List UInt8) (add : Bool) (hd : d.Ok) (hs : ∀ f ∈ d.fs, f.data.length + data.length ≤ 9223372036854775807) :
    Ctr prog 38 [d.pv, sV name, sV data, bV add] [] (.tup [(wr d name data add).1.pv, iV (wr d name data add).2]) [] [] := by
  obtain ⟨nl, fs, left, off⟩ := d
  refine Ctr.enter tblOk func38 rfl (by decide) rfl (nt := 71) rfl rfl rfl rfl ?_
  refine Trip.seq ?_
  apply Trip.reg tblOk
  · repeat' (first | exact rfl | ((first | with_reducible refine bok ?_ | with_reducible refine bokL ?_ | with_reducible refine bokR ?_ | with_reducible refine Side.mk ?_); first | omega | exact .inl rfl | exact .inr ⟨rfl, rfl, rfl⟩ | exact fun h => h | exact fun _ h => h | exact fun _ h => congrArg Bool.not h | (intro _ h; simp [gpick, h]; done) | (dsimp only; omega)) | ((fail_if_success (with_reducible refine Side.mk ?_)); constructor))
  · exact rfl
  refine Trip.seq ?_
  refine Trip.seq ?_
  apply Trip.reg tblOk
  · repeat' (first | exact rfl | ((first | with_reducible refine bok ?_ | with_reducible refine bokL ?_ | with_reducible refine bokR ?_ | with_reducible refine Side.mk ?_); first | omega | exact .inl rfl | exact .inr ⟨rfl, rfl, rfl⟩ | exact fun h => h | exact fun _ h => h | exact fun _ h => congrArg Bool.not h | (intro _ h; simp [gpick, h]; done) | (dsimp only; omega)) | ((fail_if_success (with_reducible refine Side.mk ?_)); constructor))
  · exact rfl
  apply Trip.cond (.tmp rfl)
  · intro ho
    have ho : off = true := ho
    subst ho
    refine Trip.seq ?_
    apply Trip.reg tblOk
    · repeat' (first | exact rfl | ((first | with_reducible refine bok ?_ | with_reducible refine bokL ?_ | with_reducible refine bokR ?_ | with_reducible refine Side.mk ?_); first | omega | exact .inl rfl | exact .inr ⟨rfl, rfl, rfl⟩ | exact fun h => h | exact fun _ h => h | exact fun _ h => congrArg Bool.not h | (intro _ h; simp [gpick, h]; done) | (dsimp only; omega)) | ((fail_if_success (with_reducible refine Side.mk ?_)); constructor))
    · exact rfl
    refine Trip.ret ?_
    apply Ret2 []
    · repeat' (first | exact rfl | constructor)
    · exact rfl
    · repeat' (first | exact rfl | constructor)
    · repeat' (first | exact rfl | constructor)
  intro ho
  have ho : off = false := ho
  subst ho
  refine Trip.skip ?_
  refine Trip.seq ?_
  refine Trip.seq ?_
  apply Trip.reg tblOk
  · repeat' (first | exact rfl | (apply Rule.sem; intro hγ; with_reducible apply F_call (σ := []) (B := []) (news := []) hγ (hspec := cNamed name)) | ((first | with_reducible refine bok ?_ | with_reducible refine bokL ?_ | with_reducible refine bokR ?_ | with_reducible refine Side.mk ?_); first | omega | exact .inl rfl | exact .inr ⟨rfl, rfl, rfl⟩ | exact fun h => h | exact fun _ h => h | exact fun _ h => congrArg Bool.not h | (intro _ h; simp [gpick, h]; done) | (dsimp only; omega)) | ((fail_if_success (with_reducible refine Side.mk ?_)); constructor))
  · exact rfl
  apply Trip.cond (.tmp rfl)
  · intro hn
    have e : wr ⟨nl, fs, left, false⟩ name data add = (⟨nl, fs, left, false⟩, 1) := by
      simp only [wr, named, hn, Bool.false_eq_true, if_false, if_true]
    rw [e]
    refine Trip.seq ?_
    apply Trip.reg tblOk
    · repeat' (first | exact rfl | ((first | with_reducible refine bok ?_ | with_reducible refine bokL ?_ | with_reducible refine bokR ?_ | with_reducible refine Side.mk ?_); first | omega | exact .inl rfl | exact .inr ⟨rfl, rfl, rfl⟩ | exact fun h => h | exact fun _ h => h | exact fun _ h => congrArg Bool.not h | (intro _ h; simp [gpick, h]; done) | (dsimp only; omega)) | ((fail_if_success (with_reducible refine Side.mk ?_)); constructor))
    · exact rfl
    refine Trip.ret ?_
    apply Ret2 []
    · repeat' (first | exact rfl | constructor)
    · exact rfl
    · repeat' (first | exact rfl | constructor)
    · repeat' (first | exact rfl | constructor)
  intro hn
  refine Trip.skip ?_
  have hle := pos_le fs name
  have hb := hd.size
  dsimp only at hb
  have hn' : named name = true := by simpa [named] using hn
  generalize hk : pos fs name = k at hle
  generalize his : isAt fs k name = is
  have hpl := cPlace nl fs left false name (by omega)
  rw [hk, his] at hpl
  have hisk : is = true → k < fs.length := fun h => by
    rw [← his] at h
    simp [isAt] at h
    omega
  apply Trip.regk ⟨[(2, sV data), (3, bV add), (4, .ref 4 0), (8, .ref 8 0), (1, sV name), (10, iV k), (11, bV is), (9, iV 0)], [(4, .box (diskCells nl fs left false)), (8, .box [nilS, iV 0, bV false])]⟩ tblOk
  · repeat' (first | exact rfl | (apply Rule.sem; intro hγ; with_reducible apply F_call (σ := []) (B := []) (news := []) hγ (hspec := hpl)) | ((first | with_reducible refine bok ?_ | with_reducible refine bokL ?_ | with_reducible refine bokR ?_ | with_reducible refine Side.mk ?_); first | omega | exact .inl rfl | exact .inr ⟨rfl, rfl, rfl⟩ | exact fun h => h | exact fun _ h => h | exact fun _ h => congrArg Bool.not h | (intro _ h; simp [gpick, h]; done) | (dsimp only; omega)) | ((fail_if_success (with_reducible refine Side.mk ?_)); constructor))
  · exact rfl
  · apply Weak.keep
    · exact rfl
    · repeat' (first | exact rfl | constructor)
    · repeat' (first | exact rfl | constructor)
    · exact rfl
    · repeat' (first | exact rfl | constructor)
  apply Trip.regk ⟨[(2, sV data), (3, bV add), (4, .ref 4 0), (8, .ref 8 0), (10, iV k), (11, bV is), (9, iV 0), (12, .ref 12 0)], [(4, .box (diskCells nl fs left false)), (8, .box [nilS, iV 0, bV false]), (12, .box [sV name, sV data, iV 0])]⟩ tblOk
  · repeat' (first | exact rfl | ((first | with_reducible refine bok ?_ | with_reducible refine bokL ?_ | with_reducible refine bokR ?_ | with_reducible refine Side.mk ?_); first | omega | exact .inl rfl | exact .inr ⟨rfl, rfl, rfl⟩ | exact fun h => h | exact fun _ h => h | exact fun _ h => congrArg Bool.not h | (intro _ h; simp [gpick, h]; done) | (dsimp only; omega)) | ((fail_if_success (with_reducible refine Side.mk ?_)); constructor))
  · exact rfl
  · apply Weak.keep
    · exact rfl
    · repeat' (first | exact rfl | constructor)
    · repeat' (first | exact rfl | constructor)
    · exact rfl
    · repeat' (first | exact rfl | constructor)
  have hf : newFile ⟨nl, fs, left, false⟩ name data add = if is && add then ⟨name, (fs[k]!).data ++ data, (fs[k]!).synced⟩ else ⟨name, data, 0⟩ := by
    simp only [newFile, hk, his]
  refine Trip.seqk ⟨[(3, bV add), (4, .ref 4 0), (8, .ref 8 0), (10, iV k), (11, bV is), (9, iV 0), (12, .ref 12 0)], [(4, .box (diskCells nl fs left false)), (8, .box [nilS, iV 0, bV false]), (12, .box (newFile ⟨nl, fs, left, false⟩ name data add).pv.cells)]⟩ ?_ ?_
  · refine Trip.seq ?_
    apply Trip.reg tblOk
    · repeat' (first | exact rfl | ((first | with_reducible refine bok ?_ | with_reducible refine bokL ?_ | with_reducible refine bokR ?_ | with_reducible refine Side.mk ?_); first | omega | exact .inl rfl | exact .inr ⟨rfl, rfl, rfl⟩ | exact fun h => h | exact fun _ h => h | exact fun _ h => congrArg Bool.not h | (intro _ h; simp [gpick, h]; done) | (dsimp only; omega)) | ((fail_if_success (with_reducible refine Side.mk ?_)); constructor))
    · exact rfl
    apply Trip.cond (.tmp rfl)
    · intro h
      have h1 : (is && add) = true := h
      have h2 : k < fs.length := hisk (by simp at h1; exact h1.1)
      rw [hf, if_pos h1]
      have h3 := hs (fs[k]!) (by rw [getElem!_pos fs k h2]; exact List.getElem_mem _)
      refine Trip.seq ?_
      apply Trip.reg tblOk
      · repeat' (first | exact rfl | exact idx_map _ _ _ (by show _ < _; omega) | ((first | with_reducible refine bok ?_ | with_reducible refine bokL ?_ | with_reducible refine bokR ?_ | with_reducible refine Side.mk ?_); first | omega | exact .inl rfl | exact .inr ⟨rfl, rfl, rfl⟩ | exact fun h => h | exact fun _ h => h | exact fun _ h => congrArg Bool.not h | (intro _ h; simp [gpick, h]; done) | (dsimp only; omega) | exact h3 | (simp; omega)) | ((fail_if_success (with_reducible refine Side.mk ?_)); constructor))
      · exact rfl
      apply Trip.reg tblOk
      · repeat' (first | exact rfl | exact idx_map _ _ _ (by show _ < _; omega) | ((first | with_reducible refine bok ?_ | with_reducible refine bokL ?_ | with_reducible refine bokR ?_ | with_reducible refine Side.mk ?_); first | omega | exact .inl rfl | exact .inr ⟨rfl, rfl, rfl⟩ | exact fun h => h | exact fun _ h => h | exact fun _ h => congrArg Bool.not h | (intro _ h; simp [gpick, h]; done) | (dsimp only; omega) | exact h3 | (simp; omega)) | ((fail_if_success (with_reducible refine Side.mk ?_)); constructor))
      · exact rfl
      apply Weak.keep
      · exact rfl
      · repeat' (first | exact rfl | constructor)
      · repeat' (first | exact rfl | constructor)
      · exact rfl
      · repeat' (first | exact rfl | constructor)
    · intro h
      have h1 : (is && add) = false := h
      rw [hf, h1]
      refine Trip.skip ?_
      apply Weak.keep
      · exact rfl
      · repeat' (first | exact rfl | constructor)
      · repeat' (first | exact rfl | constructor)
      · exact rfl
      · repeat' (first | exact rfl | constructor)
  refine Trip.seq ?_
  refine Trip.seq ?_
  apply Trip.reg tblOk
  · repeat' (first | exact rfl | ((first | with_reducible refine bok ?_ | with_reducible refine bokL ?_ | with_reducible refine bokR ?_ | with_reducible refine Side.mk ?_); first | omega | exact .inl rfl | exact .inr ⟨rfl, rfl, rfl⟩ | exact fun h => h | exact fun _ h => h | exact fun _ h => congrArg Bool.not h | (intro _ h; simp [gpick, h]; done) | (dsimp only; omega)) | ((fail_if_success (with_reducible refine Side.mk ?_)); constructor))
  · exact rfl
  apply Trip.cond (.tmp rfl)
  · intro h
    have h1 : tooFull ⟨nl, fs, left, false⟩ name data add = true := by
      rw [List.length_map] at h
      simpa only [tooFull, hk, his] using h
    have e : wr ⟨nl, fs, left, false⟩ name data add = (⟨nl, fs, left, false⟩, 520) := by
      simp only [wr, hn', h1, Bool.false_eq_true, Bool.not_true, if_false, if_true]
    rw [e]
    refine Trip.seq ?_
    apply Trip.reg tblOk
    · repeat' (first | exact rfl | ((first | with_reducible refine bok ?_ | with_reducible refine bokL ?_ | with_reducible refine bokR ?_ | with_reducible refine Side.mk ?_); first | omega | exact .inl rfl | exact .inr ⟨rfl, rfl, rfl⟩ | exact fun h => h | exact fun _ h => h | exact fun _ h => congrArg Bool.not h | (intro _ h; simp [gpick, h]; done) | (dsimp only; omega)) | ((fail_if_success (with_reducible refine Side.mk ?_)); constructor))
    · exact rfl
    refine Trip.ret ?_
    apply Ret2 []
    · repeat' (first | exact rfl | constructor)
    · exact rfl
    · repeat' (first | exact rfl | constructor)
    · repeat' (first | exact rfl | constructor)
  intro h
  refine Trip.skip ?_
  have h1 : tooFull ⟨nl, fs, left, false⟩ name data add = false := by
    rw [List.length_map] at h
    simpa only [tooFull, hk, his] using h
  have e : wr ⟨nl, fs, left, false⟩ name data add = (Disk.done ⟨nl, fs, left, false⟩ false (put fs k is (newFile ⟨nl, fs, left, false⟩ name data add)), 0) := by
    simp only [wr, hn', h1, hk, his, Bool.false_eq_true, Bool.not_true, if_false]
  rw [e]
  have c1 := cLaid nl fs left false k is (newFile ⟨nl, fs, left, false⟩ name data add) hd.nl hle hisk hb
  have c2 := cDone nl false fs (put fs k is (newFile ⟨nl, fs, left, false⟩ name data add)) left false hd.left
  refine Trip.seq ?_
  apply Trip.drw tblOk mixed
  · repeat' (first | exact rfl | (apply Rule.sem; intro hγ; with_reducible apply F_call (x := .func 41) (σ := []) (B := []) (news := []) hγ (hspec := c1)) | (apply Rule.sem; intro hγ; with_reducible apply F_call (x := .func 40) (σ := []) (B := []) (news := []) hγ (hspec := c2)) | ((first | with_reducible refine bok ?_ | with_reducible refine bokL ?_ | with_reducible refine bokR ?_ | with_reducible refine Side.mk ?_); first | omega | exact .inl rfl | exact .inr ⟨rfl, rfl, rfl⟩ | exact fun h => h | exact fun _ h => h | exact fun _ h => congrArg Bool.not h | (intro _ h; simp [gpick, h]; done) | (dsimp only; omega)) | ((fail_if_success (with_reducible refine Side.mk ?_)); constructor))
  · exact rfl
  · kernel_rfl
  refine Trip.ret ?_
  apply Ret2 []
  · repeat' (first | exact rfl | constructor)
  · exact rfl
  · repeat' (first | exact rfl | constructor)
  · repeat' (first | exact rfl | constructor)
end Go.Proofs.Try
