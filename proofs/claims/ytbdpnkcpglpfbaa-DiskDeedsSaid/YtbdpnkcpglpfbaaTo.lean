/- Move of disk. -/
import Derived.Test.YtbdpnkcpglpfbaaTn
namespace Go.Proofs.Try
open Go Go.Sym

def without (fs : List File) (k : Nat) : List File := fs.take k ++ fs.drop (k + 1)
/-- A file is called otherwise. -/
def move (d : Disk) (old name : List UInt8) : Disk × Int :=
  if d.off then (d, 9) else if !isAt d.fs (pos d.fs old) old then (d, 5) else if !named name then (d, 1) else
    let f := d.fs[pos d.fs old]!
    let rest := without d.fs (pos d.fs old)
    (d.done false (put rest (pos rest name) (isAt rest (pos rest name) name) ⟨name, f.data, f.synced⟩), 0)

theorem without_length (fs : List File) (k : Nat) (hk : k < fs.length) : (without fs k).length = fs.length - 1 := by
  simp [without]; omega

set_option maxRecDepth 4000 in
set_option maxHeartbeats 400000 in
theorem cMove (d : Disk) (old name : List UInt8) (hd : d.Ok) :
    Ctr prog 28 [d.pv, sV old, sV name] [] (.tup [(move d old name).1.pv, iV (move d old name).2]) [] [] := by
  have hb := hd.size
  have hpl := cPlace d.nl d.fs d.left d.off old (by omega)
  have hg : move d old name = if d.off then (d, 9) else if !isAt d.fs (pos d.fs old) old then (d, 5) else if !named name then (d, 1) else
    (d.done false (put (without d.fs (pos d.fs old)) (pos (without d.fs (pos d.fs old)) name) (isAt (without d.fs (pos d.fs old)) (pos (without d.fs (pos d.fs old)) name) name) ⟨name, (d.fs[pos d.fs old]!).data, (d.fs[pos d.fs old]!).synced⟩), 0) := rfl
  have hlt := fun h => @isAt_lt d.fs (pos d.fs old) old h
  have hle := pos_le d.fs old
  generalize pos d.fs old = k at *
  generalize isAt d.fs k old = is at *
  have c1 := clone d.nl (d.fs.map File.pv) (fun h => by rw [hd.nl h]; rfl) (plainFs d.fs) (okFs d.fs) (by rw [List.length_map]; omega)
  have hnl := hd.nl
  have hleft := hd.left
  obtain ⟨nl, fs, left, off⟩ := d
  dsimp only at *
  refine Ctr.enter tblOk func28 rfl (by decide) rfl (nt := 60) rfl rfl rfl rfl ?_
  refine Trip.seq ?_
  apply Trip.reg tblOk
  · repeat' (first | exact rfl | ((first | with_reducible refine bok ?_ | with_reducible refine bokL ?_ | with_reducible refine bokR ?_ | with_reducible refine Side.mk ?_); first | omega | exact .inl rfl | exact .inr ⟨rfl, rfl, rfl⟩ | exact fun h => h | exact fun _ h => h | exact fun _ h => congrArg Bool.not h | (intro _ h; simp [gpick, h]; done) | (dsimp only; omega)) | ((fail_if_success (with_reducible refine Side.mk ?_)); constructor))
  · exact rfl
  refine Trip.seq ?_
  refine Trip.seq ?_
  apply Trip.reg tblOk
  · repeat' (first | exact rfl | ((first | with_reducible refine bok ?_ | with_reducible refine bokL ?_ | with_reducible refine bokR ?_ | with_reducible refine Side.mk ?_); first | omega | exact .inl rfl | exact .inr ⟨rfl, rfl, rfl⟩ | exact fun h => h | exact fun _ h => h | exact fun _ h => congrArg Bool.not h | (intro _ h; simp [gpick, h]; done) | (dsimp only; omega)) | ((fail_if_success (with_reducible refine Side.mk ?_)); constructor))
  · exact rfl
  apply Trip.cond (.tmp rfl)
  · intro ho
    have ho : off = true := ho
    rw [hg, if_pos ho]
    refine Trip.seq ?_
    apply Trip.reg tblOk
    · repeat' (first | exact rfl | ((first | with_reducible refine bok ?_ | with_reducible refine bokL ?_ | with_reducible refine bokR ?_ | with_reducible refine Side.mk ?_); first | omega | exact .inl rfl | exact .inr ⟨rfl, rfl, rfl⟩ | exact fun h => h | exact fun _ h => h | exact fun _ h => congrArg Bool.not h | (intro _ h; simp [gpick, h]; done) | (dsimp only; omega)) | ((fail_if_success (with_reducible refine Side.mk ?_)); constructor))
    · exact rfl
    refine Trip.ret ?_
    apply Ret2 []
    · repeat' (first | exact rfl | constructor)
    · exact rfl
    · repeat' (first | exact rfl | constructor)
    · repeat' (first | exact rfl | constructor)
  intro ho
  have ho : off = false := ho
  subst ho
  refine Trip.skip ?_
  apply Trip.regk ⟨[(2, sV name), (3, .ref 3 0), (6, .ref 6 0), (8, iV k), (9, bV is)], [(3, .box (diskCells nl fs left false)), (6, .box [nilS, iV 0, bV false])]⟩ tblOk
  · repeat' (first | exact rfl | (apply Rule.sem; intro hγ; with_reducible apply F_call (x := .func 35) (σ := []) (B := []) (news := []) hγ (hspec := hpl)) | ((first | with_reducible refine bok ?_ | with_reducible refine bokL ?_ | with_reducible refine bokR ?_ | with_reducible refine Side.mk ?_); first | omega | exact .inl rfl | exact .inr ⟨rfl, rfl, rfl⟩ | exact fun h => h | exact fun _ h => h | exact fun _ h => congrArg Bool.not h | (intro _ h; simp [gpick, h]; done) | (dsimp only; omega)) | ((fail_if_success (with_reducible refine Side.mk ?_)); constructor))
  · exact rfl
  · apply Weak.keep
    · exact rfl
    · repeat' (first | exact rfl | constructor)
    · repeat' (first | exact rfl | constructor)
    · exact rfl
    · repeat' (first | exact rfl | constructor)
  refine Trip.seq ?_
  refine Trip.seq ?_
  apply Trip.reg tblOk
  · repeat' (first | exact rfl | ((first | with_reducible refine bok ?_ | with_reducible refine bokL ?_ | with_reducible refine bokR ?_ | with_reducible refine Side.mk ?_); first | omega | exact .inl rfl | exact .inr ⟨rfl, rfl, rfl⟩ | exact fun h => h | exact fun _ h => h | exact fun _ h => congrArg Bool.not h | (intro _ h; simp [gpick, h]; done) | (dsimp only; omega)) | ((fail_if_success (with_reducible refine Side.mk ?_)); constructor))
  · exact rfl
  apply Trip.cond (.tmp rfl)
  · intro h
    have h : is = false := by simpa using h
    subst h
    have e : move ⟨nl, fs, left, false⟩ old name = (⟨nl, fs, left, false⟩, 5) := hg
    rw [e]
    refine Trip.seq ?_
    apply Trip.reg tblOk
    · repeat' (first | exact rfl | ((first | with_reducible refine bok ?_ | with_reducible refine bokL ?_ | with_reducible refine bokR ?_ | with_reducible refine Side.mk ?_); first | omega | exact .inl rfl | exact .inr ⟨rfl, rfl, rfl⟩ | exact fun h => h | exact fun _ h => h | exact fun _ h => congrArg Bool.not h | (intro _ h; simp [gpick, h]; done) | (dsimp only; omega)) | ((fail_if_success (with_reducible refine Side.mk ?_)); constructor))
    · exact rfl
    refine Trip.ret ?_
    apply Ret2 []
    · repeat' (first | exact rfl | constructor)
    · exact rfl
    · repeat' (first | exact rfl | constructor)
    · repeat' (first | exact rfl | constructor)
  intro h
  have h : is = true := by simpa using h
  subst h
  have h2 := hlt rfl
  have hnf : nl = false := by
    cases nl with
    | false => rfl
    | true => have := hnl rfl; subst this; simp at h2
  subst hnf
  refine Trip.skip ?_
  refine Trip.seq ?_
  refine Trip.seq ?_
  apply Trip.reg tblOk
  · repeat' (first | exact rfl | (apply Rule.sem; intro hγ; with_reducible apply F_call (x := .func 30) (σ := []) (B := []) (news := []) hγ (hspec := cNamed name)) | ((first | with_reducible refine bok ?_ | with_reducible refine bokL ?_ | with_reducible refine bokR ?_ | with_reducible refine Side.mk ?_); first | omega | exact .inl rfl | exact .inr ⟨rfl, rfl, rfl⟩ | exact fun h => h | exact fun _ h => h | exact fun _ h => congrArg Bool.not h | (intro _ h; simp [gpick, h]; done) | (dsimp only; omega)) | ((fail_if_success (with_reducible refine Side.mk ?_)); constructor))
  · exact rfl
  apply Trip.cond (.tmp rfl)
  · intro hn
    have e : move ⟨false, fs, left, false⟩ old name = (⟨false, fs, left, false⟩, 1) := by
      rw [hg, if_neg (by simp), if_neg (by simp), if_pos (by simpa [named] using hn)]
    rw [e]
    refine Trip.seq ?_
    apply Trip.reg tblOk
    · repeat' (first | exact rfl | ((first | with_reducible refine bok ?_ | with_reducible refine bokL ?_ | with_reducible refine bokR ?_ | with_reducible refine Side.mk ?_); first | omega | exact .inl rfl | exact .inr ⟨rfl, rfl, rfl⟩ | exact fun h => h | exact fun _ h => h | exact fun _ h => congrArg Bool.not h | (intro _ h; simp [gpick, h]; done) | (dsimp only; omega)) | ((fail_if_success (with_reducible refine Side.mk ?_)); constructor))
    · exact rfl
    refine Trip.ret ?_
    apply Ret2 []
    · repeat' (first | exact rfl | constructor)
    · exact rfl
    · repeat' (first | exact rfl | constructor)
    · repeat' (first | exact rfl | constructor)
  intro hn
  have hn' : named name = true := by simpa [named] using hn
  have e : move ⟨false, fs, left, false⟩ old name = (Disk.done ⟨false, fs, left, false⟩ false (put (without fs k) (pos (without fs k) name) (isAt (without fs k) (pos (without fs k) name) name) ⟨name, (fs[k]!).data, (fs[k]!).synced⟩), 0) := by
    rw [hg, if_neg (by simp), if_neg (by simp), if_neg (by simp [hn'])]
  rw [e]
  refine Trip.skip ?_
  refine Trip.seq ?_
  apply Trip.reg tblOk
  · repeat' (first | exact rfl | exact idx_map _ _ _ (by show _ < _; omega) | ((first | with_reducible refine bok ?_ | with_reducible refine bokL ?_ | with_reducible refine bokR ?_ | with_reducible refine Side.mk ?_); first | omega | exact .inl rfl | exact .inr ⟨rfl, rfl, rfl⟩ | exact fun h => h | exact fun _ h => h | exact fun _ h => congrArg Bool.not h | (intro _ h; simp [gpick, h]; done) | (dsimp only; omega) | (simp; omega)) | ((fail_if_success (with_reducible refine Side.mk ?_)); constructor))
  · exact rfl
  apply Trip.regk ⟨[(2, sV name), (3, .ref 3 0), (6, .ref 6 0), (8, iV k), (10, .ref 10 0)], [(3, .box (diskCells false fs left false)), (6, .box [nilS, iV 0, bV false]), (10, .box (File.pv ⟨name, (fs[k]!).data, (fs[k]!).synced⟩).cells)]⟩ tblOk
  · repeat' (first | exact rfl | ((first | with_reducible refine bok ?_ | with_reducible refine bokL ?_ | with_reducible refine bokR ?_ | with_reducible refine Side.mk ?_); first | omega | exact .inl rfl | exact .inr ⟨rfl, rfl, rfl⟩ | exact fun h => h | exact fun _ h => h | exact fun _ h => congrArg Bool.not h | (intro _ h; simp [gpick, h]; done) | (dsimp only; omega)) | ((fail_if_success (with_reducible refine Side.mk ?_)); constructor))
  · exact rfl
  · apply Weak.keep
    · exact rfl
    · repeat' (first | exact rfl | constructor)
    · repeat' (first | exact rfl | constructor)
    · exact rfl
    · repeat' (first | exact rfl | constructor)
  have c3 := deleteF false fs k h2 hb
  have v5 : (((fs.take k ++ fs.drop (k + 1)).map File.pv ++ [deadE 3]).drop 0).take (k + ((fs.map File.pv).length - (k + 1))) = (without fs k).map File.pv := by
    rw [List.drop_zero]
    exact List.take_left' (by simp; omega)
  have hpl2 : plainL ((fs.take k ++ fs.drop (k + 1)).map File.pv ++ [deadE 3]) = true := plain_app (plainFs _) rfl
  have hwl := without_length fs k h2
  have hwp := pos_le (without fs k) name
  have c4 := cPlace false (without fs k) left false name (by omega)
  have hw2 := fun h => @isAt_lt (without fs k) (pos (without fs k) name) name h
  generalize hws : without fs k = ws at *
  generalize pos ws name = k2 at *
  generalize isAt ws k2 name = is2 at *
  have c5 := cLaid false ws left false k2 is2 ⟨name, (fs[k]!).data, (fs[k]!).synced⟩ (by simp) hwp hw2 (by omega)
  have c6 := cDone false false fs (put ws k2 is2 ⟨name, (fs[k]!).data, (fs[k]!).synced⟩) left false hleft
  refine Trip.seq ?_
  apply Trip.drw tblOk mixed
  · repeat' (first | exact rfl | (apply Rule.sem; intro hγ; with_reducible apply F_call (x := .func 43) (σ := []) (B := []) (news := [39]) hγ (hspec := c1)) | (apply Rule.sem; intro hγ; with_reducible apply F_call (x := .func 42) (σ := [39]) (B := []) (news := []) hγ (hspec := c3)) | ((first | with_reducible refine bok ?_ | with_reducible refine bokL ?_ | with_reducible refine bokR ?_ | with_reducible refine Side.mk ?_); first | omega | exact .inl rfl | exact .inr ⟨rfl, rfl, rfl⟩ | exact fun h => h | exact fun _ h => h | exact fun _ h => congrArg Bool.not h | (intro _ h; simp [gpick, h]; done) | (dsimp only; omega) | exact plainFs _ | exact hpl2 | (simp; omega)) | ((fail_if_success (with_reducible refine Side.mk ?_)); constructor))
  · exact rfl
  · kernel_rfl
  apply Trip.weak (Weak.turn (S' := ⟨[(2, sV name), (3, .ref 3 0), (6, .ref 6 0), (10, .ref 10 0), (11, .ref 11 0)], [(3, .box (diskCells false fs left false)), (6, .box [nilS, iV 0, bV false]), (10, .box (File.pv ⟨name, (fs[k]!).data, (fs[k]!).synced⟩).cells), (11, .box (diskCells false ws left false))]⟩) [39] rfl rfl ?_ ?_)
  · apply Trip.regk ⟨[(3, .ref 3 0), (6, .ref 6 0), (10, .ref 10 0), (11, .ref 11 0), (12, iV k2), (13, bV is2)], [(3, .box (diskCells false fs left false)), (6, .box [nilS, iV 0, bV false]), (10, .box (File.pv ⟨name, (fs[k]!).data, (fs[k]!).synced⟩).cells), (11, .box (diskCells false ws left false))]⟩ tblOk
    · repeat' (first | exact rfl | (apply Rule.sem; intro hγ; with_reducible apply F_call (x := .func 35) (σ := []) (B := []) (news := []) hγ (hspec := c4)) | ((first | with_reducible refine bok ?_ | with_reducible refine bokL ?_ | with_reducible refine bokR ?_ | with_reducible refine Side.mk ?_); first | omega | exact .inl rfl | exact .inr ⟨rfl, rfl, rfl⟩ | exact fun h => h | exact fun _ h => h | exact fun _ h => congrArg Bool.not h | (intro _ h; simp [gpick, h]; done) | (dsimp only; omega)) | ((fail_if_success (with_reducible refine Side.mk ?_)); constructor))
    · exact rfl
    · apply Weak.keep
      · exact rfl
      · repeat' (first | exact rfl | constructor)
      · repeat' (first | exact rfl | constructor)
      · exact rfl
      · repeat' (first | exact rfl | constructor)
    refine Trip.seq ?_
    apply Trip.drw tblOk mixed
    · repeat' (first | exact rfl | (apply Rule.sem; intro hγ; with_reducible apply F_call (x := .func 41) (σ := []) (B := []) (news := []) hγ (hspec := c5)) | (apply Rule.sem; intro hγ; with_reducible apply F_call (x := .func 40) (σ := []) (B := []) (news := []) hγ (hspec := c6)) | ((first | with_reducible refine bok ?_ | with_reducible refine bokL ?_ | with_reducible refine bokR ?_ | with_reducible refine Side.mk ?_); first | omega | exact .inl rfl | exact .inr ⟨rfl, rfl, rfl⟩ | exact fun h => h | exact fun _ h => h | exact fun _ h => congrArg Bool.not h | (intro _ h; simp [gpick, h]; done) | (dsimp only; omega)) | ((fail_if_success (with_reducible refine Side.mk ?_)); constructor))
    · exact rfl
    · kernel_rfl
    refine Trip.ret ?_
    apply Ret2 []
    · repeat' (first | exact rfl | constructor)
    · exact rfl
    · repeat' (first | exact rfl | constructor)
    · repeat' (first | exact rfl | constructor)
  · repeat' (first | exact rfl | constructor)
  · repeat' (first | exact rfl | (with_reducible apply cvView (B := [39])) | exact Side.mk v5 | exact Side.mk hpl2 | exact Side.mk (by simp; omega) | constructor)
end Go.Proofs.Try
