/- Done, With, Without, lay of the reference. -/
import Derived.Test.YtbdpnkcpglpfbaaTr
namespace Go.Proofs.Try
open Go Go.Sym

def Disk.done2 (d : Disk) : Disk := ⟨d.nl, d.fs, dec d.left, decide (dec d.left = 0)⟩
def with2 (d : Disk) (f : File) : Disk := ⟨false, put d.fs (pos d.fs f.name) (isAt d.fs (pos d.fs f.name) f.name) f, d.left, d.off⟩
def without2 (d : Disk) (name : List UInt8) : Disk := if isAt d.fs (pos d.fs name) name then ⟨false, without d.fs (pos d.fs name), d.left, d.off⟩ else d

theorem cDone2 (d : Disk) (hl : -9223372036854775808 ≤ d.left ∧ d.left ≤ 9223372036854775807) : Ctr prog 44 [d.pv] [] d.done2.pv [] [] := by
  obtain ⟨nl, fs, left, off⟩ := d
  dsimp only at hl
  refine Ctr.enter tblOk func44 rfl (by decide) rfl (nt := 15) rfl rfl rfl rfl ?_
  refine Trip.seq ?_
  apply Trip.reg tblOk
  · repeat' (first | exact rfl | exact idx_map _ _ _ (by show _ < _; first | omega | (simp only [List.length_map] at *; omega)) | ((first | with_reducible refine bok ?_ | with_reducible refine bokL ?_ | with_reducible refine bokR ?_ | with_reducible refine Side.mk ?_); first | omega | exact .inl rfl | exact .inr ⟨rfl, rfl, rfl⟩ | exact fun h => h | exact fun _ h => h | exact fun _ h => congrArg Bool.not h | (intro _ h; simp [gpick, h]; done) | (dsimp only; omega) | (simp only [List.length_map]; done) | (simp only [List.length_map, List.length_append, List.length_cons, List.length_nil, Int.toNat_natCast]; omega) | (intro h1 h2; rw [h1, h2]; rfl)) | ((fail_if_success (with_reducible refine Side.mk ?_)); constructor))
  · exact rfl
  refine Trip.seqk ⟨[(1, .ref 1 0), (2, .ref 2 0)], [(1, .box (diskCells nl fs (dec left) off)), (2, .box [nilS, iV 0, bV false])]⟩ ?_ ?_
  · refine Trip.seq ?_
    apply Trip.reg tblOk
    · repeat' (first | exact rfl | exact idx_map _ _ _ (by show _ < _; first | omega | (simp only [List.length_map] at *; omega)) | ((first | with_reducible refine bok ?_ | with_reducible refine bokL ?_ | with_reducible refine bokR ?_ | with_reducible refine Side.mk ?_); first | omega | exact .inl rfl | exact .inr ⟨rfl, rfl, rfl⟩ | exact fun h => h | exact fun _ h => h | exact fun _ h => congrArg Bool.not h | (intro _ h; simp [gpick, h]; done) | (dsimp only; omega) | (simp only [List.length_map]; done) | (simp only [List.length_map, List.length_append, List.length_cons, List.length_nil, Int.toNat_natCast]; omega) | (intro h1 h2; rw [h1, h2]; rfl)) | ((fail_if_success (with_reducible refine Side.mk ?_)); constructor))
    · exact rfl
    apply Trip.cond (.tmp rfl)
    · intro h
      have h : 0 < left := by simpa using h
      have e : dec left = left - 1 := by simp only [dec, if_pos h]
      rw [e]
      apply Trip.reg tblOk
      · repeat' (first | exact rfl | exact idx_map _ _ _ (by show _ < _; first | omega | (simp only [List.length_map] at *; omega)) | ((first | with_reducible refine bok ?_ | with_reducible refine bokL ?_ | with_reducible refine bokR ?_ | with_reducible refine Side.mk ?_); first | omega | exact .inl rfl | exact .inr ⟨rfl, rfl, rfl⟩ | exact fun h => h | exact fun _ h => h | exact fun _ h => congrArg Bool.not h | (intro _ h; simp [gpick, h]; done) | (dsimp only; omega) | (simp only [List.length_map]; done) | (simp only [List.length_map, List.length_append, List.length_cons, List.length_nil, Int.toNat_natCast]; omega) | (intro h1 h2; rw [h1, h2]; rfl)) | ((fail_if_success (with_reducible refine Side.mk ?_)); constructor))
      · exact rfl
      apply Weak.keep
      · exact rfl
      · repeat' (first | exact rfl | (refine vI ?_; first | omega | (simp; done) | (simp; omega) | (simp only [List.length_map] at *; omega)) | constructor)
      · repeat' (first | exact rfl | (refine vI ?_; first | omega | (simp; done) | (simp; omega) | (simp only [List.length_map] at *; omega)) | constructor)
      · exact rfl
      · repeat' (first | exact rfl | constructor)
    · intro h
      have h : ¬ 0 < left := by simpa using h
      have e : dec left = left := by simp only [dec, if_neg h]
      rw [e]
      refine Trip.skip ?_
      apply Weak.keep
      · exact rfl
      · repeat' (first | exact rfl | (refine vI ?_; first | omega | (simp; done) | (simp; omega) | (simp only [List.length_map] at *; omega)) | constructor)
      · repeat' (first | exact rfl | (refine vI ?_; first | omega | (simp; done) | (simp; omega) | (simp only [List.length_map] at *; omega)) | constructor)
      · exact rfl
      · repeat' (first | exact rfl | constructor)
  refine Trip.seq ?_
  apply Trip.reg tblOk
  · repeat' (first | exact rfl | exact idx_map _ _ _ (by show _ < _; first | omega | (simp only [List.length_map] at *; omega)) | ((first | with_reducible refine bok ?_ | with_reducible refine bokL ?_ | with_reducible refine bokR ?_ | with_reducible refine Side.mk ?_); first | omega | exact .inl rfl | exact .inr ⟨rfl, rfl, rfl⟩ | exact fun h => h | exact fun _ h => h | exact fun _ h => congrArg Bool.not h | (intro _ h; simp [gpick, h]; done) | (dsimp only; omega) | (simp only [List.length_map]; done) | (simp only [List.length_map, List.length_append, List.length_cons, List.length_nil, Int.toNat_natCast]; omega) | (intro h1 h2; rw [h1, h2]; rfl)) | ((fail_if_success (with_reducible refine Side.mk ?_)); constructor))
  · exact rfl
  refine Trip.seq ?_
  apply Trip.reg tblOk
  · repeat' (first | exact rfl | exact idx_map _ _ _ (by show _ < _; first | omega | (simp only [List.length_map] at *; omega)) | ((first | with_reducible refine bok ?_ | with_reducible refine bokL ?_ | with_reducible refine bokR ?_ | with_reducible refine Side.mk ?_); first | omega | exact .inl rfl | exact .inr ⟨rfl, rfl, rfl⟩ | exact fun h => h | exact fun _ h => h | exact fun _ h => congrArg Bool.not h | (intro _ h; simp [gpick, h]; done) | (dsimp only; omega) | (simp only [List.length_map]; done) | (simp only [List.length_map, List.length_append, List.length_cons, List.length_nil, Int.toNat_natCast]; omega) | (intro h1 h2; rw [h1, h2]; rfl)) | ((fail_if_success (with_reducible refine Side.mk ?_)); constructor))
  · exact rfl
  refine Trip.ret ?_
  apply Ret1 []
  · repeat' (first | exact rfl | constructor)
  · exact rfl
  · repeat' (first | exact rfl | constructor)

theorem put_true (fs : List File) (k : Nat) (f : File) (h : k < fs.length) : put fs k true f = fs.take k ++ (f :: fs.drop (k + 1)) := by
  simp only [put, if_true]
  exact List.set_eq_take_append_cons_drop.trans (if_pos h)
theorem put_any (fs : List File) (k : Nat) (b : Bool) (f : File) (h : b = true → k < fs.length) : put fs k b f = fs.take k ++ [f] ++ fs.drop (if b then k + 1 else k) := by
  cases b with
  | true => rw [put_true fs k f (h rfl)]; simp
  | false => simp [put]

theorem mapTake (fs : List File) (k : Nat) (h : k ≤ fs.length) : SObj.arr 3 (false && ((((fs.map File.pv).take (hiOf (fs.map File.pv).length (some (k : Int)))).drop (loOf none)).isEmpty)) ([] ++ ((fs.map File.pv).take (hiOf (fs.map File.pv).length (some (k : Int)))).drop (loOf none)) = .arr 3 false ((fs.take k).map File.pv) := by
  simp only [hiOf, loOf, Bool.false_and, List.nil_append, List.drop_zero, List.map_take, Int.toNat_natCast]
theorem lenTake (fs : List File) (k : Nat) (h : k ≤ fs.length) : ([] ++ ((fs.map File.pv).take (hiOf (fs.map File.pv).length (some (k : Int)))).drop (loOf none)).length = k := by
  simp only [hiOf, loOf, List.nil_append, List.drop_zero, Int.toNat_natCast, List.length_take, List.length_map]; omega
theorem okTake (fs : List File) (k : Nat) : cellsOkL (cellsOf (((fs.map File.pv).take (hiOf (fs.map File.pv).length (some (k : Int)))).drop (loOf none))) = true := by
  simp only [hiOf, loOf, List.drop_zero, Int.toNat_natCast, ← List.map_take]
  exact okFs _
theorem okDrop (fs : List File) (k : Int) : cellsOkL (cellsOf (((fs.map File.pv).take (hiOf (fs.map File.pv).length none)).drop (loOf (some k)))) = true := by
  simp only [hiOf, loOf, ← List.map_take, ← List.map_drop]
  exact okFs _
theorem oslEq {o n m : Nat} (h : n = m) : PV.osl o 0 n n = .osl o 0 m m := by rw [h]

set_option maxRecDepth 4000 in
theorem cWith (d : Disk) (f : File) (hb : d.fs.length ≤ 1000000000) : Ctr prog 45 [d.pv, f.pv] [] (with2 d f).pv [] [] := by
  have hpl := cPlace2 d.nl d.fs d.left d.off f.name (by omega)
  have hlt := fun h => @isAt_lt d.fs (pos d.fs f.name) f.name h
  have hle := pos_le d.fs f.name
  have hw : with2 d f = ⟨false, put d.fs (pos d.fs f.name) (isAt d.fs (pos d.fs f.name) f.name) f, d.left, d.off⟩ := rfl
  rw [put_any _ _ _ _ hlt] at hw
  generalize pos d.fs f.name = k at *
  generalize isAt d.fs k f.name = is at *
  obtain ⟨nl, fs, left, off⟩ := d
  dsimp only at *
  refine Ctr.enter tblOk func45 rfl (by decide) rfl (nt := 37) rfl rfl rfl rfl ?_
  refine Trip.seq ?_
  apply Trip.reg tblOk
  · repeat' (first | exact rfl | exact idx_map _ _ _ (by show _ < _; first | omega | (simp only [List.length_map] at *; omega)) | ((first | with_reducible refine bok ?_ | with_reducible refine bokL ?_ | with_reducible refine bokR ?_ | with_reducible refine Side.mk ?_); first | omega | exact .inl rfl | exact .inr ⟨rfl, rfl, rfl⟩ | exact fun h => h | exact fun _ h => h | exact fun _ h => congrArg Bool.not h | (intro _ h; simp [gpick, h]; done) | (dsimp only; omega) | (simp only [List.length_map]; done) | (simp only [List.length_map, List.length_append, List.length_cons, List.length_nil, Int.toNat_natCast]; omega) | (intro h1 h2; rw [h1, h2]; rfl)) | ((fail_if_success (with_reducible refine Side.mk ?_)); constructor))
  · exact rfl
  refine Trip.seq ?_
  apply Trip.reg tblOk
  · repeat' (first | exact rfl | (apply Rule.sem; intro hγ; with_reducible apply F_call (x := .func 36) (σ := []) (B := []) (news := []) hγ (hspec := hpl)) | exact idx_map _ _ _ (by show _ < _; first | omega | (simp only [List.length_map] at *; omega)) | ((first | with_reducible refine bok ?_ | with_reducible refine bokL ?_ | with_reducible refine bokR ?_ | with_reducible refine Side.mk ?_); first | omega | exact .inl rfl | exact .inr ⟨rfl, rfl, rfl⟩ | exact fun h => h | exact fun _ h => h | exact fun _ h => congrArg Bool.not h | (intro _ h; simp [gpick, h]; done) | (dsimp only; omega) | (simp only [List.length_map]; done) | (simp only [List.length_map, List.length_append, List.length_cons, List.length_nil, Int.toNat_natCast]; omega) | (intro h1 h2; rw [h1, h2]; rfl)) | ((fail_if_success (with_reducible refine Side.mk ?_)); constructor))
  · exact rfl
  apply Trip.regk ⟨[(2, .ref 2 0), (3, .ref 3 0), (4, .ref 4 0), (5, iV k), (6, bV is), (7, .osl 15 0 k k)], [(2, .box (diskCells nl fs left off)), (3, .box f.pv.cells), (4, .box [nilS, iV 0, bV false]), (15, .arr 3 false ((fs.take k).map File.pv))]⟩ tblOk
  · repeat' (first | exact rfl | exact idx_map _ _ _ (by show _ < _; first | omega | (simp only [List.length_map] at *; omega)) | ((first | with_reducible refine bok ?_ | with_reducible refine bokL ?_ | with_reducible refine bokR ?_ | with_reducible refine Side.mk ?_); first | omega | exact .inl rfl | exact .inr ⟨rfl, rfl, rfl⟩ | exact fun h => h | exact fun _ h => h | exact fun _ h => congrArg Bool.not h | (intro _ h; simp [gpick, h]; done) | (dsimp only; omega) | (simp only [List.length_map]; done) | (simp only [List.length_map, List.length_append, List.length_cons, List.length_nil, Int.toNat_natCast]; omega) | (intro h1 h2; rw [h1, h2]; rfl) | exact okTake fs k | (simp only [hiOf, loOf, List.drop_zero, Int.toNat_natCast, List.length_take, List.length_map, List.length_nil]; omega)) | ((fail_if_success (with_reducible refine Side.mk ?_)); constructor))
  · exact rfl
  · apply Weak.keep
    · exact rfl
    · repeat' (first | exact rfl | exact mapTake fs k hle | exact oslEq (lenTake fs k hle) | exact plainFs _ | (refine vI ?_; first | omega | (simp; done) | (simp; omega) | (simp only [List.length_map] at *; omega)) | constructor)
    · repeat' (first | exact rfl | exact mapTake fs k hle | exact oslEq (lenTake fs k hle) | exact plainFs _ | (refine vI ?_; first | omega | (simp; done) | (simp; omega) | (simp only [List.length_map] at *; omega)) | constructor)
    · exact rfl
    · repeat' (first | exact rfl | exact mapTake fs k hle | exact oslEq (lenTake fs k hle) | exact plainFs _ | constructor)
  have e1 : SObj.arr 3 (false && [f.pv].isEmpty) ((fs.take k).map File.pv ++ [f.pv]) = .arr 3 false ((fs.take k ++ [f]).map File.pv) := by simp
  have hlk : ((fs.take k).map File.pv).length = k := by simp only [List.length_map, List.length_take]; omega
  have e2 : PV.osl 15 0 ((fs.take k).map File.pv ++ [f.pv]).length ((fs.take k).map File.pv ++ [f.pv]).length = .osl 15 0 (k + 1) (k + 1) := oslEq (by rw [List.length_append, hlk]; rfl)
  apply Trip.regk ⟨[(2, .ref 2 0), (3, .ref 3 0), (4, .ref 4 0), (5, iV k), (6, bV is), (7, .osl 15 0 (k + 1) (k + 1))], [(2, .box (diskCells nl fs left off)), (3, .box f.pv.cells), (4, .box [nilS, iV 0, bV false]), (15, .arr 3 false ((fs.take k ++ [f]).map File.pv))]⟩ tblOk
  · repeat' (first | exact rfl | exact idx_map _ _ _ (by show _ < _; first | omega | (simp only [List.length_map] at *; omega)) | ((first | with_reducible refine bok ?_ | with_reducible refine bokL ?_ | with_reducible refine bokR ?_ | with_reducible refine Side.mk ?_); first | omega | exact .inl rfl | exact .inr ⟨rfl, rfl, rfl⟩ | exact fun h => h | exact fun _ h => h | exact fun _ h => congrArg Bool.not h | (intro _ h; simp [gpick, h]; done) | (dsimp only; omega) | (simp only [List.length_map]; done) | (simp only [List.length_map, List.length_append, List.length_cons, List.length_nil, Int.toNat_natCast]; omega) | (intro h1 h2; rw [h1, h2]; rfl) | exact hlk.symm | (rw [hlk]; simp only [List.length_cons, List.length_nil]; omega) | exact okFs [f]) | ((fail_if_success (with_reducible refine Side.mk ?_)); constructor))
  · exact rfl
  · apply Weak.keep
    · exact rfl
    · repeat' (first | exact rfl | exact e1 | exact e2 | exact plainFs _ | (refine vI ?_; first | omega | (simp; done) | (simp; omega) | (simp only [List.length_map] at *; omega)) | constructor)
    · repeat' (first | exact rfl | exact e1 | exact e2 | exact plainFs _ | (refine vI ?_; first | omega | (simp; done) | (simp; omega) | (simp only [List.length_map] at *; omega)) | constructor)
    · exact rfl
    · repeat' (first | exact rfl | exact e1 | exact e2 | exact plainFs _ | constructor)
  refine Trip.seqk ⟨[(2, .ref 2 0), (3, .ref 3 0), (4, .ref 4 0), (5, iV ((if is then k + 1 else k : Nat) : Int)), (7, .osl 15 0 (k + 1) (k + 1))], [(2, .box (diskCells nl fs left off)), (3, .box f.pv.cells), (4, .box [nilS, iV 0, bV false]), (15, .arr 3 false ((fs.take k ++ [f]).map File.pv))]⟩ ?_ ?_
  · refine Trip.seq ?_
    apply Trip.reg tblOk
    · repeat' (first | exact rfl | exact idx_map _ _ _ (by show _ < _; first | omega | (simp only [List.length_map] at *; omega)) | ((first | with_reducible refine bok ?_ | with_reducible refine bokL ?_ | with_reducible refine bokR ?_ | with_reducible refine Side.mk ?_); first | omega | exact .inl rfl | exact .inr ⟨rfl, rfl, rfl⟩ | exact fun h => h | exact fun _ h => h | exact fun _ h => congrArg Bool.not h | (intro _ h; simp [gpick, h]; done) | (dsimp only; omega) | (simp only [List.length_map]; done) | (simp only [List.length_map, List.length_append, List.length_cons, List.length_nil, Int.toNat_natCast]; omega) | (intro h1 h2; rw [h1, h2]; rfl)) | ((fail_if_success (with_reducible refine Side.mk ?_)); constructor))
    · exact rfl
    apply Trip.cond (.tmp rfl)
    · intro h
      subst h
      have := hlt rfl
      apply Trip.reg tblOk
      · repeat' (first | exact rfl | exact idx_map _ _ _ (by show _ < _; first | omega | (simp only [List.length_map] at *; omega)) | ((first | with_reducible refine bok ?_ | with_reducible refine bokL ?_ | with_reducible refine bokR ?_ | with_reducible refine Side.mk ?_); first | omega | exact .inl rfl | exact .inr ⟨rfl, rfl, rfl⟩ | exact fun h => h | exact fun _ h => h | exact fun _ h => congrArg Bool.not h | (intro _ h; simp [gpick, h]; done) | (dsimp only; omega) | (simp only [List.length_map]; done) | (simp only [List.length_map, List.length_append, List.length_cons, List.length_nil, Int.toNat_natCast]; omega) | (intro h1 h2; rw [h1, h2]; rfl)) | ((fail_if_success (with_reducible refine Side.mk ?_)); constructor))
      · exact rfl
      apply Weak.keep
      · exact rfl
      · repeat' (first | exact rfl | exact plainFs _ | (refine vI ?_; first | omega | (simp; done) | (simp; omega) | (simp only [List.length_map] at *; omega)) | constructor)
      · repeat' (first | exact rfl | exact plainFs _ | (refine vI ?_; first | omega | (simp; done) | (simp; omega) | (simp only [List.length_map] at *; omega)) | constructor)
      · exact rfl
      · repeat' (first | exact rfl | exact plainFs _ | constructor)
    · intro h
      subst h
      refine Trip.skip ?_
      apply Weak.keep
      · exact rfl
      · repeat' (first | exact rfl | exact plainFs _ | (refine vI ?_; first | omega | (simp; done) | (simp; omega) | (simp only [List.length_map] at *; omega)) | constructor)
      · repeat' (first | exact rfl | exact plainFs _ | (refine vI ?_; first | omega | (simp; done) | (simp; omega) | (simp only [List.length_map] at *; omega)) | constructor)
      · exact rfl
      · repeat' (first | exact rfl | exact plainFs _ | constructor)
  have hj : (if is then k + 1 else k) ≤ fs.length := by
    cases is with
    | true => exact hlt rfl
    | false => exact hle
  generalize (if is then k + 1 else k) = j at *
  rw [hw]
  have e3 : (fs.take k ++ [f]).map File.pv ++ ((fs.map File.pv).take (hiOf (fs.map File.pv).length none)).drop (loOf (some (j : Int))) = (fs.take k ++ [f] ++ fs.drop j).map File.pv := by
    simp only [hiOf, loOf, List.take_length, Int.toNat_natCast, List.map_append, List.map_drop]
  have hl1 : ((fs.take k ++ [f]).map File.pv).length = k + 1 := by simp only [List.length_map, List.length_append, List.length_take, List.length_cons, List.length_nil]; omega
  apply Trip.regk ⟨[(2, .ref 2 0), (4, .ref 4 0), (7, .osl 15 0 ((fs.take k ++ [f] ++ fs.drop j).map File.pv).length ((fs.take k ++ [f] ++ fs.drop j).map File.pv).length)], [(2, .box (diskCells nl fs left off)), (4, .box [nilS, iV 0, bV false]), (15, .arr 3 false ((fs.take k ++ [f] ++ fs.drop j).map File.pv))]⟩ tblOk
  · repeat' (first | exact rfl | exact idx_map _ _ _ (by show _ < _; first | omega | (simp only [List.length_map] at *; omega)) | ((first | with_reducible refine bok ?_ | with_reducible refine bokL ?_ | with_reducible refine bokR ?_ | with_reducible refine Side.mk ?_); first | omega | exact .inl rfl | exact .inr ⟨rfl, rfl, rfl⟩ | exact fun h => h | exact fun _ h => h | exact fun _ h => congrArg Bool.not h | (intro _ h; simp [gpick, h]; done) | (dsimp only; omega) | (simp only [List.length_map]; done) | (simp only [List.length_map, List.length_append, List.length_cons, List.length_nil, Int.toNat_natCast]; omega) | (intro h1 h2; rw [h1, h2]; rfl) | exact hl1.symm | exact okDrop fs _ | (rw [hl1]; simp only [hiOf, loOf, List.length_take, List.length_drop, List.length_map]; omega)) | ((fail_if_success (with_reducible refine Side.mk ?_)); constructor))
  · exact rfl
  · apply Weak.keep
    · exact rfl
    · repeat' (first | exact rfl | exact congrArg (SObj.arr 3 false) e3 | exact oslEq (congrArg List.length e3) | exact plainFs _ | (refine vI ?_; first | omega | (simp; done) | (simp; omega) | (simp only [List.length_map] at *; omega)) | constructor)
    · repeat' (first | exact rfl | exact congrArg (SObj.arr 3 false) e3 | exact oslEq (congrArg List.length e3) | exact plainFs _ | (refine vI ?_; first | omega | (simp; done) | (simp; omega) | (simp only [List.length_map] at *; omega)) | constructor)
    · exact rfl
    · repeat' (first | exact rfl | exact congrArg (SObj.arr 3 false) e3 | exact oslEq (congrArg List.length e3) | exact plainFs _ | constructor)
  refine Trip.seq ?_
  apply Trip.reg tblOk
  · repeat' (first | exact rfl | exact idx_map _ _ _ (by show _ < _; first | omega | (simp only [List.length_map] at *; omega)) | ((first | with_reducible refine bok ?_ | with_reducible refine bokL ?_ | with_reducible refine bokR ?_ | with_reducible refine Side.mk ?_); first | omega | exact .inl rfl | exact .inr ⟨rfl, rfl, rfl⟩ | exact fun h => h | exact fun _ h => h | exact fun _ h => congrArg Bool.not h | (intro _ h; simp [gpick, h]; done) | (dsimp only; omega) | (simp only [List.length_map]; done) | (simp only [List.length_map, List.length_append, List.length_cons, List.length_nil, Int.toNat_natCast]; omega) | (intro h1 h2; rw [h1, h2]; rfl)) | ((fail_if_success (with_reducible refine Side.mk ?_)); constructor))
  · exact rfl
  refine Trip.seq ?_
  apply Trip.reg tblOk
  · repeat' (first | exact rfl | exact idx_map _ _ _ (by show _ < _; first | omega | (simp only [List.length_map] at *; omega)) | ((first | with_reducible refine bok ?_ | with_reducible refine bokL ?_ | with_reducible refine bokR ?_ | with_reducible refine Side.mk ?_); first | omega | exact .inl rfl | exact .inr ⟨rfl, rfl, rfl⟩ | exact fun h => h | exact fun _ h => h | exact fun _ h => congrArg Bool.not h | (intro _ h; simp [gpick, h]; done) | (dsimp only; omega) | (simp only [List.length_map]; done) | (simp only [List.length_map, List.length_append, List.length_cons, List.length_nil, Int.toNat_natCast]; omega) | (intro h1 h2; rw [h1, h2]; rfl)) | ((fail_if_success (with_reducible refine Side.mk ?_)); constructor))
  · exact rfl
  refine Trip.ret ?_
  apply Ret1 [15]
  · repeat' (first | exact rfl | (with_reducible apply LoadR.refA) | constructor)
  · exact rfl
  · repeat' (first | exact rfl | exact plainFs _ | (refine Side.mk ?_; simp; done) | constructor)
end Go.Proofs.Try
