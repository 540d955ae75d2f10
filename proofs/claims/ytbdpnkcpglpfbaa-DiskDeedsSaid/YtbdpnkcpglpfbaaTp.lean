/- HasPrefix; Names of disk, of both texts. -/
import Derived.Test.YtbdpnkcpglpfbaaTo
namespace Go.Proofs.Try
open Go Go.Sym

def hasP (s p : List UInt8) : Bool := decide ((p.length : Int) ≤ s.length) && decide (s.take p.length = p)

set_option maxRecDepth 4000 in
theorem cHas0 (s p : List UInt8) : Ctr prog 49 [sV s, sV p] [] (bV (hasP s p)) [] [] := by
  refine Ctr.enter tblOk func49 rfl (by decide) rfl (nt := 18) rfl rfl rfl rfl ?_
  refine Trip.seq ?_
  apply Trip.reg tblOk
  · repeat' (first | exact rfl | exact idx_map _ _ _ (by show _ < _; first | omega | (simp only [List.length_map] at *; omega)) | ((first | with_reducible refine bok ?_ | with_reducible refine bokL ?_ | with_reducible refine bokR ?_ | with_reducible refine Side.mk ?_); first | omega | exact .inl rfl | exact .inr ⟨rfl, rfl, rfl⟩ | exact fun h => h | exact fun _ h => h | exact fun _ h => congrArg Bool.not h | (intro _ h; simp [gpick, h]; done) | (dsimp only; omega) | (simp only [List.length_map]; done) | (simp only [List.length_map, List.length_append, List.length_cons, List.length_nil]; omega)) | ((fail_if_success (with_reducible refine Side.mk ?_)); constructor))
  · exact rfl
  refine Trip.seq ?_
  apply Trip.reg tblOk
  · repeat' (first | exact rfl | (apply Rule.under tblOk; intro hγ; with_reducible apply Rule.slice) | exact idx_map _ _ _ (by show _ < _; first | omega | (simp only [List.length_map] at *; omega)) | ((first | with_reducible refine bok ?_ | with_reducible refine bokL ?_ | with_reducible refine bokR ?_ | with_reducible refine Side.mk ?_); first | omega | exact .inl rfl | exact .inr ⟨rfl, rfl, rfl⟩ | exact fun h => h | exact fun _ h => h | exact fun _ h => congrArg Bool.not h | (intro _ h; simp [gpick, h]; done) | (dsimp only; omega) | (simp only [List.length_map]; done) | (simp only [List.length_map, List.length_append, List.length_cons, List.length_nil]; omega) | exact fun _ => hγ | (have h2 := hγ; simp [gpick] at h2; omega)) | ((fail_if_success (with_reducible refine Side.mk ?_)); constructor))
  · exact rfl
  refine Trip.ret ?_
  apply Ret1 []
  · repeat' (first | exact rfl | constructor)
  · exact rfl
  · repeat' (first | exact rfl | constructor)

theorem cHas (s p : List UInt8) : Ctr prog 37 [sV s, sV p] [] (bV (hasP s p)) [] [] := by
  refine Ctr.enter tblOk func37 rfl (by decide) rfl (nt := 8) rfl rfl rfl rfl ?_
  refine Trip.seq ?_
  apply Trip.reg tblOk
  · repeat' (first | exact rfl | exact idx_map _ _ _ (by show _ < _; first | omega | (simp only [List.length_map] at *; omega)) | ((first | with_reducible refine bok ?_ | with_reducible refine bokL ?_ | with_reducible refine bokR ?_ | with_reducible refine Side.mk ?_); first | omega | exact .inl rfl | exact .inr ⟨rfl, rfl, rfl⟩ | exact fun h => h | exact fun _ h => h | exact fun _ h => congrArg Bool.not h | (intro _ h; simp [gpick, h]; done) | (dsimp only; omega) | (simp only [List.length_map]; done) | (simp only [List.length_map, List.length_append, List.length_cons, List.length_nil]; omega)) | ((fail_if_success (with_reducible refine Side.mk ?_)); constructor))
  · exact rfl
  refine Trip.seq ?_
  apply Trip.reg tblOk
  · repeat' (first | exact rfl | (apply Rule.sem; intro hγ; with_reducible apply F_call (x := .func 49) (σ := []) (B := []) (news := []) hγ (hspec := cHas0 s p)) | exact idx_map _ _ _ (by show _ < _; first | omega | (simp only [List.length_map] at *; omega)) | ((first | with_reducible refine bok ?_ | with_reducible refine bokL ?_ | with_reducible refine bokR ?_ | with_reducible refine Side.mk ?_); first | omega | exact .inl rfl | exact .inr ⟨rfl, rfl, rfl⟩ | exact fun h => h | exact fun _ h => h | exact fun _ h => congrArg Bool.not h | (intro _ h; simp [gpick, h]; done) | (dsimp only; omega) | (simp only [List.length_map]; done) | (simp only [List.length_map, List.length_append, List.length_cons, List.length_nil]; omega)) | ((fail_if_success (with_reducible refine Side.mk ?_)); constructor))
  · exact rfl
  refine Trip.ret ?_
  apply Ret1 []
  · repeat' (first | exact rfl | constructor)
  · exact rfl
  · repeat' (first | exact rfl | constructor)

/-- The names that begin so. -/
def namesOf (fs : List File) (head : List UInt8) : List (List UInt8) := (fs.filter fun f => hasP f.name head).map File.name
theorem take_snoc (fs : List File) (i : Nat) (h : i < fs.length) : fs.take (i + 1) = fs.take i ++ [fs[i]!] := by
  rw [List.take_add_one, List.getElem?_eq_getElem h, getElem!_pos fs i h]; rfl
theorem namesOf_succ (fs : List File) (head : List UInt8) (i : Nat) (h : i < fs.length) : namesOf (fs.take (i + 1)) head = if hasP (fs[i]!).name head then namesOf (fs.take i) head ++ [(fs[i]!).name] else namesOf (fs.take i) head := by
  rw [take_snoc fs i h]
  generalize fs[i]! = f
  simp only [namesOf, List.filter_append, List.map_append]
  by_cases hp : hasP f.name head = true
  · rw [if_pos hp, List.filter_cons_of_pos (by exact hp)]; rfl
  · rw [if_neg hp, List.filter_cons_of_neg (by exact hp)]; simp
theorem namesOf_length (fs : List File) (head : List UInt8) (i : Nat) : (namesOf (fs.take i) head).length ≤ i := by
  simp only [namesOf, List.length_map]
  exact Nat.le_trans (List.length_filter_le _ _) (by rw [List.length_take]; omega)
theorem plainSV (l : List (List UInt8)) : plainL (l.map sV) = true := plainL_map _ (fun _ => rfl) _
theorem okSV (l : List (List UInt8)) : cellsOkL (cellsOf (l.map sV)) = true := cellsOk_map _ (fun _ => rfl) _
theorem snocNil {α : Type} (b : Bool) (l : List α) (x : α) : (b && [x].isEmpty) = (l ++ [x]).isEmpty := by cases l <;> simp

set_option maxRecDepth 4000 in
set_option maxHeartbeats 400000 in
theorem cNames (nl : Bool) (fs : List File) (left : Int) (off : Bool) (head : List UInt8) (hb : fs.length ≤ 1000000000) :
    Ctr prog 21 [D nl fs left off, sV head] [] (.sl (namesOf fs head).isEmpty 1 ((namesOf fs head).map sV)) [] [] := by
  refine Ctr.enter tblOk func21 rfl (by decide) rfl (nt := 26) rfl rfl rfl rfl ?_
  refine Trip.seq ?_
  apply Trip.reg tblOk
  · repeat' (first | exact rfl | exact idx_map _ _ _ (by show _ < _; first | omega | (simp only [List.length_map] at *; omega)) | ((first | with_reducible refine bok ?_ | with_reducible refine bokL ?_ | with_reducible refine bokR ?_ | with_reducible refine Side.mk ?_); first | omega | exact .inl rfl | exact .inr ⟨rfl, rfl, rfl⟩ | exact fun h => h | exact fun _ h => h | exact fun _ h => congrArg Bool.not h | (intro _ h; simp [gpick, h]; done) | (dsimp only; omega) | (simp only [List.length_map]; done) | (simp only [List.length_map, List.length_append, List.length_cons, List.length_nil]; omega)) | ((fail_if_success (with_reducible refine Side.mk ?_)); constructor))
  · exact rfl
  refine Trip.seq ?_
  apply Trip.reg tblOk
  · repeat' (first | exact rfl | exact idx_map _ _ _ (by show _ < _; first | omega | (simp only [List.length_map] at *; omega)) | ((first | with_reducible refine bok ?_ | with_reducible refine bokL ?_ | with_reducible refine bokR ?_ | with_reducible refine Side.mk ?_); first | omega | exact .inl rfl | exact .inr ⟨rfl, rfl, rfl⟩ | exact fun h => h | exact fun _ h => h | exact fun _ h => congrArg Bool.not h | (intro _ h; simp [gpick, h]; done) | (dsimp only; omega) | (simp only [List.length_map]; done) | (simp only [List.length_map, List.length_append, List.length_cons, List.length_nil]; omega)) | ((fail_if_success (with_reducible refine Side.mk ?_)); constructor))
  · exact rfl
  refine Trip.seq ?_
  refine Trip.seq ?_
  apply Trip.reg tblOk
  · repeat' (first | exact rfl | exact idx_map _ _ _ (by show _ < _; first | omega | (simp only [List.length_map] at *; omega)) | ((first | with_reducible refine bok ?_ | with_reducible refine bokL ?_ | with_reducible refine bokR ?_ | with_reducible refine Side.mk ?_); first | omega | exact .inl rfl | exact .inr ⟨rfl, rfl, rfl⟩ | exact fun h => h | exact fun _ h => h | exact fun _ h => congrArg Bool.not h | (intro _ h; simp [gpick, h]; done) | (dsimp only; omega) | (simp only [List.length_map]; done) | (simp only [List.length_map, List.length_append, List.length_cons, List.length_nil]; omega)) | ((fail_if_success (with_reducible refine Side.mk ?_)); constructor))
  · exact rfl
  refine Trip.block ?_
  apply Trip.loop (fun i => ⟨[(1, sV head), (5, .osl 900 0 (namesOf (fs.take i) head).length (namesOf (fs.take i) head).length), (9, .sl nl 3 (fs.map File.pv)), (10, iV fs.length), (11, iV i)], [(900, .arr 1 (namesOf (fs.take i) head).isEmpty ((namesOf (fs.take i) head).map sV))]⟩) (fun i => i ≤ fs.length) (fun i => fs.length - i) (0)
  · first | omega | (simp; done)
  · refine Weak.trans (S2 := ⟨[(1, sV head), (5, nilS), (9, .sl nl 3 (fs.map File.pv)), (10, iV fs.length), (11, iV 0)], []⟩) ?_ ?_
    · apply Weak.keep
      · exact rfl
      · repeat' (first | exact rfl | (refine vI ?_; first | omega | (simp; done) | (simp; omega) | (simp only [List.length_map] at *; omega)) | constructor)
      · repeat' (first | exact rfl | (refine vI ?_; first | omega | (simp; done) | (simp; omega) | (simp only [List.length_map] at *; omega)) | constructor)
      · exact rfl
      · repeat' (first | exact rfl | constructor)
    · exact Weak.adopt 900 1 rfl rfl (by repeat' (first | exact rfl | constructor)) (by repeat' (first | exact rfl | constructor))
  intro i hi
  have hil := namesOf_length fs head i
  refine Trip.seq ?_
  apply Trip.reg tblOk
  · repeat' (first | exact rfl | exact idx_map _ _ _ (by show _ < _; first | omega | (simp only [List.length_map] at *; omega)) | ((first | with_reducible refine bok ?_ | with_reducible refine bokL ?_ | with_reducible refine bokR ?_ | with_reducible refine Side.mk ?_); first | omega | exact .inl rfl | exact .inr ⟨rfl, rfl, rfl⟩ | exact fun h => h | exact fun _ h => h | exact fun _ h => congrArg Bool.not h | (intro _ h; simp [gpick, h]; done) | (dsimp only; omega) | (simp only [List.length_map]; done) | (simp only [List.length_map, List.length_append, List.length_cons, List.length_nil]; omega)) | ((fail_if_success (with_reducible refine Side.mk ?_)); constructor))
  · exact rfl
  refine Trip.seq ?_
  apply Trip.cond (.tmp rfl)
  · intro h
    have h : i < fs.length := by simpa using h
    have hsu := namesOf_succ fs head i h
    have hil2 := namesOf_length fs head (i + 1)
    refine Trip.skip ?_
    refine Trip.seq ?_
    refine Trip.block ?_
    refine Trip.seq ?_
    apply Trip.reg tblOk
    · repeat' (first | exact rfl | exact idx_map _ _ _ (by show _ < _; first | omega | (simp only [List.length_map] at *; omega)) | ((first | with_reducible refine bok ?_ | with_reducible refine bokL ?_ | with_reducible refine bokR ?_ | with_reducible refine Side.mk ?_); first | omega | exact .inl rfl | exact .inr ⟨rfl, rfl, rfl⟩ | exact fun h => h | exact fun _ h => h | exact fun _ h => congrArg Bool.not h | (intro _ h; simp [gpick, h]; done) | (dsimp only; omega) | (simp only [List.length_map]; done) | (simp only [List.length_map, List.length_append, List.length_cons, List.length_nil]; omega)) | ((fail_if_success (with_reducible refine Side.mk ?_)); constructor))
    · exact rfl
    refine Trip.seq ?_
    apply Trip.reg tblOk
    · repeat' (first | exact rfl | (apply Rule.sem; intro hγ; with_reducible apply F_call (x := .func 37) (σ := []) (B := []) (news := []) hγ (hspec := cHas (fs[i]!).name head)) | exact idx_map _ _ _ (by show _ < _; first | omega | (simp only [List.length_map] at *; omega)) | ((first | with_reducible refine bok ?_ | with_reducible refine bokL ?_ | with_reducible refine bokR ?_ | with_reducible refine Side.mk ?_); first | omega | exact .inl rfl | exact .inr ⟨rfl, rfl, rfl⟩ | exact fun h => h | exact fun _ h => h | exact fun _ h => congrArg Bool.not h | (intro _ h; simp [gpick, h]; done) | (dsimp only; omega) | (simp only [List.length_map]; done) | (simp only [List.length_map, List.length_append, List.length_cons, List.length_nil]; omega)) | ((fail_if_success (with_reducible refine Side.mk ?_)); constructor))
    · exact rfl
    apply Trip.cond (.tmp rfl)
    · intro h2
      rw [if_pos h2] at hsu
      apply Trip.reg tblOk
      · repeat' (first | exact rfl | exact idx_map _ _ _ (by show _ < _; first | omega | (simp only [List.length_map] at *; omega)) | ((first | with_reducible refine bok ?_ | with_reducible refine bokL ?_ | with_reducible refine bokR ?_ | with_reducible refine Side.mk ?_); first | omega | exact .inl rfl | exact .inr ⟨rfl, rfl, rfl⟩ | exact fun h => h | exact fun _ h => h | exact fun _ h => congrArg Bool.not h | (intro _ h; simp [gpick, h]; done) | (dsimp only; omega) | (simp only [List.length_map]; done) | (simp only [List.length_map, List.length_append, List.length_cons, List.length_nil]; omega) | exact okSV _ | exact plainSV _) | ((fail_if_success (with_reducible refine Side.mk ?_)); constructor))
      · exact rfl
      apply Trip.reg tblOk
      · repeat' (first | exact rfl | exact idx_map _ _ _ (by show _ < _; first | omega | (simp only [List.length_map] at *; omega)) | ((first | with_reducible refine bok ?_ | with_reducible refine bokL ?_ | with_reducible refine bokR ?_ | with_reducible refine Side.mk ?_); first | omega | exact .inl rfl | exact .inr ⟨rfl, rfl, rfl⟩ | exact fun h => h | exact fun _ h => h | exact fun _ h => congrArg Bool.not h | (intro _ h; simp [gpick, h]; done) | (dsimp only; omega) | (simp only [List.length_map]; done) | (simp only [List.length_map, List.length_append, List.length_cons, List.length_nil]; omega)) | ((fail_if_success (with_reducible refine Side.mk ?_)); constructor))
      · exact rfl
      have e1 : (namesOf (fs.take i) head).length + 1 = (namesOf (fs.take (i + 1)) head).length := by rw [hsu]; simp
      have e2 : SObj.arr 1 ((namesOf (fs.take i) head).isEmpty && [sV (fs[i]!).name].isEmpty) ((namesOf (fs.take i) head).map sV ++ [sV (fs[i]!).name]) = .arr 1 (namesOf (fs.take (i + 1)) head).isEmpty ((namesOf (fs.take (i + 1)) head).map sV) := by
        rw [hsu, List.map_append, ← snocNil (namesOf (fs.take i) head).isEmpty]; rfl
      have e3 : PV.osl 900 0 ((namesOf (fs.take i) head).map sV ++ [sV (fs[i]!).name]).length ((namesOf (fs.take i) head).map sV ++ [sV (fs[i]!).name]).length = .osl 900 0 (namesOf (fs.take (i + 1)) head).length (namesOf (fs.take (i + 1)) head).length := by
        rw [← e1]; simp
      refine ⟨i + 1, ?_, ?_, ?_⟩
      · first | omega | (dsimp only at *; omega)
      · first | omega | (dsimp only at *; omega)
      · apply Weak.keep
        · exact rfl
        · repeat' (first | exact rfl | exact e2 | exact e3 | exact plainSV _ | (refine vI ?_; first | omega | (simp; done) | (simp; omega) | (simp only [List.length_map] at *; omega)) | constructor)
        · repeat' (first | exact rfl | exact e2 | exact e3 | exact plainSV _ | (refine vI ?_; first | omega | (simp; done) | (simp; omega) | (simp only [List.length_map] at *; omega)) | constructor)
        · exact rfl
        · repeat' (first | exact rfl | exact e2 | exact e3 | exact plainSV _ | constructor)
    · intro h2
      rw [if_neg (ne_true_of_eq_false h2)] at hsu
      refine Trip.skip ?_
      apply Trip.reg tblOk
      · repeat' (first | exact rfl | exact idx_map _ _ _ (by show _ < _; first | omega | (simp only [List.length_map] at *; omega)) | ((first | with_reducible refine bok ?_ | with_reducible refine bokL ?_ | with_reducible refine bokR ?_ | with_reducible refine Side.mk ?_); first | omega | exact .inl rfl | exact .inr ⟨rfl, rfl, rfl⟩ | exact fun h => h | exact fun _ h => h | exact fun _ h => congrArg Bool.not h | (intro _ h; simp [gpick, h]; done) | (dsimp only; omega) | (simp only [List.length_map]; done) | (simp only [List.length_map, List.length_append, List.length_cons, List.length_nil]; omega)) | ((fail_if_success (with_reducible refine Side.mk ?_)); constructor))
      · exact rfl
      refine ⟨i + 1, ?_, ?_, ?_⟩
      · first | omega | (dsimp only at *; omega)
      · first | omega | (dsimp only at *; omega)
      · apply Weak.keep
        · exact rfl
        · repeat' (first | exact rfl | (rw [hsu]; exact rfl) | exact plainSV _ | (refine vI ?_; first | omega | (simp; done) | (simp; omega) | (simp only [List.length_map] at *; omega)) | constructor)
        · repeat' (first | exact rfl | (rw [hsu]; exact rfl) | exact plainSV _ | (refine vI ?_; first | omega | (simp; done) | (simp; omega) | (simp only [List.length_map] at *; omega)) | constructor)
        · exact rfl
        · repeat' (first | exact rfl | (rw [hsu]; exact rfl) | exact plainSV _ | constructor)
  · intro h
    have h : i = fs.length := by simp at h; omega
    subst h
    refine Trip.exit ?_
    refine Trip.seq ?_
    apply Trip.reg tblOk
    · repeat' (first | exact rfl | exact idx_map _ _ _ (by show _ < _; first | omega | (simp only [List.length_map] at *; omega)) | ((first | with_reducible refine bok ?_ | with_reducible refine bokL ?_ | with_reducible refine bokR ?_ | with_reducible refine Side.mk ?_); first | omega | exact .inl rfl | exact .inr ⟨rfl, rfl, rfl⟩ | exact fun h => h | exact fun _ h => h | exact fun _ h => congrArg Bool.not h | (intro _ h; simp [gpick, h]; done) | (dsimp only; omega) | (simp only [List.length_map]; done) | (simp only [List.length_map, List.length_append, List.length_cons, List.length_nil]; omega)) | ((fail_if_success (with_reducible refine Side.mk ?_)); constructor))
    · exact rfl
    rw [List.take_length]
    refine Trip.ret ?_
    apply Ret1 [900]
    · repeat' (first | exact rfl | constructor)
    · exact rfl
    · repeat' (first | exact rfl | exact plainSV _ | (refine Side.mk ?_; simp; done) | constructor)
end Go.Proofs.Try
