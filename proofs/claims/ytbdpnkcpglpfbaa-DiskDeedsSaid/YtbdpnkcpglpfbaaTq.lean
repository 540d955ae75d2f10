/- Names, Place, Same, Right, Large of the reference; SameTexts; Valid of disk. -/
import Derived.Test.YtbdpnkcpglpfbaaTp
namespace Go.Proofs.Try
open Go Go.Sym

set_option maxRecDepth 4000 in
set_option maxHeartbeats 400000 in
theorem cNames2 (nl : Bool) (fs : List File) (left : Int) (off : Bool) (head : List UInt8) (hb : fs.length ≤ 1000000000) :
    Ctr prog 22 [D nl fs left off, sV head] [] (.sl (namesOf fs head).isEmpty 1 ((namesOf fs head).map sV)) [] [] := by
  refine Ctr.enter tblOk func22 rfl (by decide) rfl (nt := 39) rfl rfl rfl rfl ?_
  refine Trip.seq ?_
  apply Trip.reg tblOk
  · repeat' (first | exact rfl | exact idx_map _ _ _ (by show _ < _; first | omega | (simp only [List.length_map] at *; omega)) | ((first | with_reducible refine bok ?_ | with_reducible refine bokL ?_ | with_reducible refine bokR ?_ | with_reducible refine Side.mk ?_); first | omega | exact .inl rfl | exact .inr ⟨rfl, rfl, rfl⟩ | exact fun h => h | exact fun _ h => h | exact fun _ h => congrArg Bool.not h | (intro _ h; simp [gpick, h]; done) | (dsimp only; omega) | (simp only [List.length_map]; done) | (simp only [List.length_map, List.length_append, List.length_cons, List.length_nil]; omega)) | ((fail_if_success (with_reducible refine Side.mk ?_)); constructor))
  · exact rfl
  refine Trip.seq ?_
  apply Trip.reg tblOk
  · repeat' (first | exact rfl | exact idx_map _ _ _ (by show _ < _; first | omega | (simp only [List.length_map] at *; omega)) | ((first | with_reducible refine bok ?_ | with_reducible refine bokL ?_ | with_reducible refine bokR ?_ | with_reducible refine Side.mk ?_); first | omega | exact .inl rfl | exact .inr ⟨rfl, rfl, rfl⟩ | exact fun h => h | exact fun _ h => h | exact fun _ h => congrArg Bool.not h | (intro _ h; simp [gpick, h]; done) | (dsimp only; omega) | (simp only [List.length_map]; done) | (simp only [List.length_map, List.length_append, List.length_cons, List.length_nil]; omega)) | ((fail_if_success (with_reducible refine Side.mk ?_)); constructor))
  · exact rfl
  refine Trip.seq ?_
  refine Trip.seq ?_
  apply Trip.reg tblOk
  · repeat' (first | exact rfl | exact idx_map _ _ _ (by show _ < _; first | omega | (simp only [List.length_map] at *; omega)) | ((first | with_reducible refine bok ?_ | with_reducible refine bokL ?_ | with_reducible refine bokR ?_ | with_reducible refine Side.mk ?_); first | omega | exact .inl rfl | exact .inr ⟨rfl, rfl, rfl⟩ | exact fun h => h | exact fun _ h => h | exact fun _ h => congrArg Bool.not h | (intro _ h; simp [gpick, h]; done) | (dsimp only; omega) | (simp only [List.length_map]; done) | (simp only [List.length_map, List.length_append, List.length_cons, List.length_nil]; omega)) | ((fail_if_success (with_reducible refine Side.mk ?_)); constructor))
  · exact rfl
  refine Trip.block ?_
  apply Trip.loop (fun (i : Nat) => ⟨[(1, sV head), (2, .ref 2 0), (5, .osl 900 0 (namesOf (fs.take i) head).length (namesOf (fs.take i) head).length), (6, iV i)], [(900, .arr 1 (namesOf (fs.take i) head).isEmpty ((namesOf (fs.take i) head).map sV)), (2, .box (diskCells nl fs left off))]⟩) (fun (i : Nat) => i ≤ fs.length) (fun (i : Nat) => fs.length - i) (0)
  · first | omega | (simp; done)
  · refine Weak.trans (S2 := ⟨[(1, sV head), (2, .ref 2 0), (5, nilS), (6, iV 0)], [(2, .box (diskCells nl fs left off))]⟩) ?_ ?_
    · apply Weak.keep
      · exact rfl
      · repeat' (first | exact rfl | (refine vI ?_; first | omega | (simp; done) | (simp; omega) | (simp only [List.length_map] at *; omega)) | constructor)
      · repeat' (first | exact rfl | (refine vI ?_; first | omega | (simp; done) | (simp; omega) | (simp only [List.length_map] at *; omega)) | constructor)
      · exact rfl
      · repeat' (first | exact rfl | constructor)
    · exact Weak.adopt 900 1 rfl rfl (by repeat' (first | exact rfl | constructor)) (by repeat' (first | exact rfl | constructor))
  intro i hi
  have hil := namesOf_length fs head i
  refine Trip.seq ?_
  refine Trip.seq ?_
  apply Trip.reg tblOk
  · repeat' (first | exact rfl | exact idx_map _ _ _ (by show _ < _; first | omega | (simp only [List.length_map] at *; omega)) | ((first | with_reducible refine bok ?_ | with_reducible refine bokL ?_ | with_reducible refine bokR ?_ | with_reducible refine Side.mk ?_); first | omega | exact .inl rfl | exact .inr ⟨rfl, rfl, rfl⟩ | exact fun h => h | exact fun _ h => h | exact fun _ h => congrArg Bool.not h | (intro _ h; simp [gpick, h]; done) | (dsimp only; omega) | (simp only [List.length_map]; done) | (simp only [List.length_map, List.length_append, List.length_cons, List.length_nil]; omega)) | ((fail_if_success (with_reducible refine Side.mk ?_)); constructor))
  · exact rfl
  apply Trip.cond (.tmp rfl)
  · intro h
    have h : i < fs.length := by simpa using h
    have hsu := namesOf_succ fs head i h
    have hil2 := namesOf_length fs head (i + 1)
    refine Trip.skip ?_
    refine Trip.seq ?_
    refine Trip.block ?_
    refine Trip.seq ?_
    apply Trip.reg tblOk
    · repeat' (first | exact rfl | exact idx_map _ _ _ (by show _ < _; first | omega | (simp only [List.length_map] at *; omega)) | ((first | with_reducible refine bok ?_ | with_reducible refine bokL ?_ | with_reducible refine bokR ?_ | with_reducible refine Side.mk ?_); first | omega | exact .inl rfl | exact .inr ⟨rfl, rfl, rfl⟩ | exact fun h => h | exact fun _ h => h | exact fun _ h => congrArg Bool.not h | (intro _ h; simp [gpick, h]; done) | (dsimp only; omega) | (simp only [List.length_map]; done) | (simp only [List.length_map, List.length_append, List.length_cons, List.length_nil]; omega)) | ((fail_if_success (with_reducible refine Side.mk ?_)); constructor))
    · exact rfl
    refine Trip.seq ?_
    apply Trip.reg tblOk
    · repeat' (first | exact rfl | (apply Rule.under tblOk; intro hγ; with_reducible apply Rule.slice) | exact idx_map _ _ _ (by show _ < _; first | omega | (simp only [List.length_map] at *; omega)) | ((first | with_reducible refine bok ?_ | with_reducible refine bokL ?_ | with_reducible refine bokR ?_ | with_reducible refine Side.mk ?_); first | omega | exact .inl rfl | exact .inr ⟨rfl, rfl, rfl⟩ | exact fun h => h | exact fun _ h => h | exact fun _ h => congrArg Bool.not h | (intro _ h; simp [gpick, h]; done) | (dsimp only; omega) | (simp only [List.length_map]; done) | (simp only [List.length_map, List.length_append, List.length_cons, List.length_nil]; omega) | exact fun _ => hγ | (have h2 := hγ; simp only [gpick, cond_true, cond_false, decide_eq_true_eq, Bool.and_eq_true, Bool.or_eq_true, Bool.not_eq_true', Bool.not_eq_false', decide_eq_false_iff_not, List.length_map] at h2; (try simp only [List.length_map]); omega)) | ((fail_if_success (with_reducible refine Side.mk ?_)); constructor))
    · exact rfl
    apply Trip.cond (.tmp rfl)
    · intro h2
      have h2 : hasP (fs[i]!).name head = true := h2
      rw [if_pos h2] at hsu
      apply Trip.reg tblOk
      · repeat' (first | exact rfl | exact idx_map _ _ _ (by show _ < _; first | omega | (simp only [List.length_map] at *; omega)) | ((first | with_reducible refine bok ?_ | with_reducible refine bokL ?_ | with_reducible refine bokR ?_ | with_reducible refine Side.mk ?_); first | omega | exact .inl rfl | exact .inr ⟨rfl, rfl, rfl⟩ | exact fun h => h | exact fun _ h => h | exact fun _ h => congrArg Bool.not h | (intro _ h; simp [gpick, h]; done) | (dsimp only; omega) | (simp only [List.length_map]; done) | (simp only [List.length_map, List.length_append, List.length_cons, List.length_nil]; omega) | exact okSV _ | exact plainSV _) | ((fail_if_success (with_reducible refine Side.mk ?_)); constructor))
      · exact rfl
      apply Trip.reg tblOk
      · repeat' (first | exact rfl | exact idx_map _ _ _ (by show _ < _; first | omega | (simp only [List.length_map] at *; omega)) | ((first | with_reducible refine bok ?_ | with_reducible refine bokL ?_ | with_reducible refine bokR ?_ | with_reducible refine Side.mk ?_); first | omega | exact .inl rfl | exact .inr ⟨rfl, rfl, rfl⟩ | exact fun h => h | exact fun _ h => h | exact fun _ h => congrArg Bool.not h | (intro _ h; simp [gpick, h]; done) | (dsimp only; omega) | (simp only [List.length_map]; done) | (simp only [List.length_map, List.length_append, List.length_cons, List.length_nil]; omega)) | ((fail_if_success (with_reducible refine Side.mk ?_)); constructor))
      · exact rfl
      have e1 : (namesOf (fs.take i) head).length + 1 = (namesOf (fs.take (i + 1)) head).length := by rw [hsu]; simp
      have e2 : SObj.arr 1 ((namesOf (fs.take i) head).isEmpty && [sV (fs[i]!).name].isEmpty) ((namesOf (fs.take i) head).map sV ++ [sV (fs[i]!).name]) = .arr 1 (namesOf (fs.take (i + 1)) head).isEmpty ((namesOf (fs.take (i + 1)) head).map sV) := by
        rw [hsu, List.map_append, ← snocNil (namesOf (fs.take i) head).isEmpty]; rfl
      have e3 : PV.osl 900 0 ((namesOf (fs.take i) head).map sV ++ [sV (fs[i]!).name]).length ((namesOf (fs.take i) head).map sV ++ [sV (fs[i]!).name]).length = .osl 900 0 (namesOf (fs.take (i + 1)) head).length (namesOf (fs.take (i + 1)) head).length := by
        rw [← e1]; simp
      refine ⟨i + 1, ?_, ?_, ?_⟩
      · first | omega | (dsimp only at *; omega)
      · first | omega | (dsimp only at *; omega)
      · apply Weak.keep
        · exact rfl
        · repeat' (first | exact rfl | exact e2 | exact e3 | exact plainSV _ | (refine vI ?_; first | omega | (simp; done) | (simp; omega) | (simp only [List.length_map] at *; omega)) | constructor)
        · repeat' (first | exact rfl | exact e2 | exact e3 | exact plainSV _ | (refine vI ?_; first | omega | (simp; done) | (simp; omega) | (simp only [List.length_map] at *; omega)) | constructor)
        · exact rfl
        · repeat' (first | exact rfl | exact e2 | exact e3 | exact plainSV _ | constructor)
    · intro h2
      have h2 : hasP (fs[i]!).name head = false := h2
      rw [if_neg (ne_true_of_eq_false h2)] at hsu
      refine Trip.skip ?_
      apply Trip.reg tblOk
      · repeat' (first | exact rfl | exact idx_map _ _ _ (by show _ < _; first | omega | (simp only [List.length_map] at *; omega)) | ((first | with_reducible refine bok ?_ | with_reducible refine bokL ?_ | with_reducible refine bokR ?_ | with_reducible refine Side.mk ?_); first | omega | exact .inl rfl | exact .inr ⟨rfl, rfl, rfl⟩ | exact fun h => h | exact fun _ h => h | exact fun _ h => congrArg Bool.not h | (intro _ h; simp [gpick, h]; done) | (dsimp only; omega) | (simp only [List.length_map]; done) | (simp only [List.length_map, List.length_append, List.length_cons, List.length_nil]; omega)) | ((fail_if_success (with_reducible refine Side.mk ?_)); constructor))
      · exact rfl
      refine ⟨i + 1, ?_, ?_, ?_⟩
      · first | omega | (dsimp only at *; omega)
      · first | omega | (dsimp only at *; omega)
      · apply Weak.keep
        · exact rfl
        · repeat' (first | exact rfl | (rw [hsu]; exact rfl) | exact plainSV _ | (refine vI ?_; first | omega | (simp; done) | (simp; omega) | (simp only [List.length_map] at *; omega)) | constructor)
        · repeat' (first | exact rfl | (rw [hsu]; exact rfl) | exact plainSV _ | (refine vI ?_; first | omega | (simp; done) | (simp; omega) | (simp only [List.length_map] at *; omega)) | constructor)
        · exact rfl
        · repeat' (first | exact rfl | (rw [hsu]; exact rfl) | exact plainSV _ | constructor)
  · intro h
    have h : i = fs.length := by simp at h; omega
    subst h
    refine Trip.exit ?_
    refine Trip.seq ?_
    apply Trip.reg tblOk
    · repeat' (first | exact rfl | exact idx_map _ _ _ (by show _ < _; first | omega | (simp only [List.length_map] at *; omega)) | ((first | with_reducible refine bok ?_ | with_reducible refine bokL ?_ | with_reducible refine bokR ?_ | with_reducible refine Side.mk ?_); first | omega | exact .inl rfl | exact .inr ⟨rfl, rfl, rfl⟩ | exact fun h => h | exact fun _ h => h | exact fun _ h => congrArg Bool.not h | (intro _ h; simp [gpick, h]; done) | (dsimp only; omega) | (simp only [List.length_map]; done) | (simp only [List.length_map, List.length_append, List.length_cons, List.length_nil]; omega)) | ((fail_if_success (with_reducible refine Side.mk ?_)); constructor))
    · exact rfl
    rw [List.take_length]
    refine Trip.ret ?_
    apply Ret1 [900]
    · repeat' (first | exact rfl | constructor)
    · exact rfl
    · repeat' (first | exact rfl | exact plainSV _ | (refine Side.mk ?_; simp; done) | constructor)

def allUpto (p : Nat → Bool) : Nat → Bool
  | 0 => true
  | n + 1 => allUpto p n && p n
theorem allUpto_iff (p : Nat → Bool) : ∀ n, allUpto p n = true ↔ ∀ i, i < n → p i = true
  | 0 => by simp [allUpto]
  | n + 1 => by
    simp only [allUpto, Bool.and_eq_true, allUpto_iff p n]
    exact ⟨fun ⟨h, k⟩ i hi => by rcases Nat.lt_or_ge i n with h' | h'; exact h i h'; exact (by omega : i = n) ▸ k, fun h => ⟨fun i hi => h i (by omega), h n (by omega)⟩⟩
theorem allUpto_no {p : Nat → Bool} {n i : Nat} (h : i < n) (hp : p i = false) : allUpto p n = false := by
  cases h2 : allUpto p n with
  | false => rfl
  | true => have := (allUpto_iff p n).1 h2 i h; rw [hp] at this; exact this.symm

/-- Two lists of texts are the same. -/
theorem listEq_iff {α : Type} [Inhabited α] (a b : List α) (h : a.length = b.length) : (∀ i, i < a.length → a[i]! = b[i]!) ↔ a = b := by
  constructor
  · intro k
    refine List.ext_getElem h fun i h1 h2 => ?_
    have := k i h1
    rwa [getElem!_pos a i h1, getElem!_pos b i h2] at this
  · rintro rfl i _; rfl

def sameT (a b : List (List UInt8)) : Bool := decide ((a.length : Int) = b.length) && allUpto (fun i => decide (a[i]! = b[i]!)) a.length
theorem sameT_eq (a b : List (List UInt8)) : sameT a b = decide (a = b) := by
  rw [Bool.eq_iff_iff]
  simp only [sameT, Bool.and_eq_true, decide_eq_true_eq, allUpto_iff]
  constructor
  · rintro ⟨h1, h2⟩; exact (listEq_iff a b (by omega)).1 h2
  · rintro rfl; exact ⟨rfl, fun _ _ => rfl⟩

theorem cSameTexts (n1 n2 : Bool) (a b : List (List UInt8)) (hb : a.length ≤ 1000000000) :
    Ctr prog 20 [.sl n1 1 (a.map sV), .sl n2 1 (b.map sV)] [] (bV (sameT a b)) [] [] := by
  refine Ctr.enter tblOk func20 rfl (by decide) rfl (nt := 26) rfl rfl rfl rfl ?_
  refine Trip.seq ?_
  apply Trip.reg tblOk
  · repeat' (first | exact rfl | exact idx_map _ _ _ (by show _ < _; first | omega | (simp only [List.length_map] at *; omega)) | ((first | with_reducible refine bok ?_ | with_reducible refine bokL ?_ | with_reducible refine bokR ?_ | with_reducible refine Side.mk ?_); first | omega | exact .inl rfl | exact .inr ⟨rfl, rfl, rfl⟩ | exact fun h => h | exact fun _ h => h | exact fun _ h => congrArg Bool.not h | (intro _ h; simp [gpick, h]; done) | (dsimp only; omega) | (simp only [List.length_map]; done) | (simp only [List.length_map, List.length_append, List.length_cons, List.length_nil]; omega)) | ((fail_if_success (with_reducible refine Side.mk ?_)); constructor))
  · exact rfl
  refine Trip.seq ?_
  refine Trip.seq ?_
  apply Trip.reg tblOk
  · repeat' (first | exact rfl | exact idx_map _ _ _ (by show _ < _; first | omega | (simp only [List.length_map] at *; omega)) | ((first | with_reducible refine bok ?_ | with_reducible refine bokL ?_ | with_reducible refine bokR ?_ | with_reducible refine Side.mk ?_); first | omega | exact .inl rfl | exact .inr ⟨rfl, rfl, rfl⟩ | exact fun h => h | exact fun _ h => h | exact fun _ h => congrArg Bool.not h | (intro _ h; simp [gpick, h]; done) | (dsimp only; omega) | (simp only [List.length_map]; done) | (simp only [List.length_map, List.length_append, List.length_cons, List.length_nil]; omega)) | ((fail_if_success (with_reducible refine Side.mk ?_)); constructor))
  · exact rfl
  apply Trip.cond (.tmp rfl)
  · intro h
    have e : sameT a b = false := by
      have h : a.length ≠ b.length := by simp at h; omega
      simp only [sameT, Bool.and_eq_false_imp, decide_eq_true_eq]
      omega
    rw [e]
    refine Trip.seq ?_
    apply Trip.reg tblOk
    · repeat' (first | exact rfl | exact idx_map _ _ _ (by show _ < _; first | omega | (simp only [List.length_map] at *; omega)) | ((first | with_reducible refine bok ?_ | with_reducible refine bokL ?_ | with_reducible refine bokR ?_ | with_reducible refine Side.mk ?_); first | omega | exact .inl rfl | exact .inr ⟨rfl, rfl, rfl⟩ | exact fun h => h | exact fun _ h => h | exact fun _ h => congrArg Bool.not h | (intro _ h; simp [gpick, h]; done) | (dsimp only; omega) | (simp only [List.length_map]; done) | (simp only [List.length_map, List.length_append, List.length_cons, List.length_nil]; omega)) | ((fail_if_success (with_reducible refine Side.mk ?_)); constructor))
    · exact rfl
    refine Trip.ret ?_
    apply Ret1 []
    · repeat' (first | exact rfl | constructor)
    · exact rfl
    · repeat' (first | exact rfl | constructor)
  intro h
  have h : a.length = b.length := by simp at h; omega
  refine Trip.skip ?_
  refine Trip.seq ?_
  refine Trip.seq ?_
  apply Trip.reg tblOk
  · repeat' (first | exact rfl | exact idx_map _ _ _ (by show _ < _; first | omega | (simp only [List.length_map] at *; omega)) | ((first | with_reducible refine bok ?_ | with_reducible refine bokL ?_ | with_reducible refine bokR ?_ | with_reducible refine Side.mk ?_); first | omega | exact .inl rfl | exact .inr ⟨rfl, rfl, rfl⟩ | exact fun h => h | exact fun _ h => h | exact fun _ h => congrArg Bool.not h | (intro _ h; simp [gpick, h]; done) | (dsimp only; omega) | (simp only [List.length_map]; done) | (simp only [List.length_map, List.length_append, List.length_cons, List.length_nil]; omega)) | ((fail_if_success (with_reducible refine Side.mk ?_)); constructor))
  · exact rfl
  refine Trip.block ?_
  apply Trip.loop (fun (i : Nat) => ⟨[(0, .sl n1 1 (a.map sV)), (1, .sl n2 1 (b.map sV)), (5, iV i)], []⟩) (fun (i : Nat) => i ≤ a.length ∧ allUpto (fun i => decide (a[i]! = b[i]!)) i = true) (fun (i : Nat) => a.length - i) (0)
  · exact ⟨Nat.zero_le _, rfl⟩
  · apply Weak.keep
    · exact rfl
    · repeat' (first | exact rfl | (refine vI ?_; first | omega | (simp; done) | (simp; omega) | (simp only [List.length_map] at *; omega)) | constructor)
    · repeat' (first | exact rfl | (refine vI ?_; first | omega | (simp; done) | (simp; omega) | (simp only [List.length_map] at *; omega)) | constructor)
    · exact rfl
    · repeat' (first | exact rfl | constructor)
  intro i ⟨hi, hall⟩
  refine Trip.seq ?_
  refine Trip.seq ?_
  apply Trip.reg tblOk
  · repeat' (first | exact rfl | exact idx_map _ _ _ (by show _ < _; first | omega | (simp only [List.length_map] at *; omega)) | ((first | with_reducible refine bok ?_ | with_reducible refine bokL ?_ | with_reducible refine bokR ?_ | with_reducible refine Side.mk ?_); first | omega | exact .inl rfl | exact .inr ⟨rfl, rfl, rfl⟩ | exact fun h => h | exact fun _ h => h | exact fun _ h => congrArg Bool.not h | (intro _ h; simp [gpick, h]; done) | (dsimp only; omega) | (simp only [List.length_map]; done) | (simp only [List.length_map, List.length_append, List.length_cons, List.length_nil]; omega)) | ((fail_if_success (with_reducible refine Side.mk ?_)); constructor))
  · exact rfl
  apply Trip.cond (.tmp rfl)
  · intro hlt
    have hlt : i < a.length := by simpa using hlt
    refine Trip.skip ?_
    refine Trip.seq ?_
    refine Trip.block ?_
    refine Trip.seq ?_
    apply Trip.drw tblOk mixed
    · repeat' (first | exact rfl | exact idx_map _ _ _ (by show _ < _; first | omega | (simp only [List.length_map] at *; omega)) | ((first | with_reducible refine bok ?_ | with_reducible refine bokL ?_ | with_reducible refine bokR ?_ | with_reducible refine Side.mk ?_); first | omega | exact .inl rfl | exact .inr ⟨rfl, rfl, rfl⟩ | exact fun h => h | exact fun _ h => h | exact fun _ h => congrArg Bool.not h | (intro _ h; simp [gpick, h]; done) | (dsimp only; omega) | (simp only [List.length_map]; done) | (simp only [List.length_map, List.length_append, List.length_cons, List.length_nil]; omega)) | ((fail_if_success (with_reducible refine Side.mk ?_)); constructor))
    · exact rfl
    · kernel_rfl
    apply Trip.cond (.tmp rfl)
    · intro h2
      have e : sameT a b = false := by
        have h2 : ¬ a[i]! = b[i]! := by simpa only [Bool.not_eq_true', decide_eq_false_iff_not, Int.toNat_natCast] using h2
        simp only [sameT]
        rw [allUpto_no hlt (by simp only [decide_eq_false_iff_not]; exact h2), Bool.and_false]
      rw [e]
      refine Trip.seq ?_
      apply Trip.reg tblOk
      · repeat' (first | exact rfl | exact idx_map _ _ _ (by show _ < _; first | omega | (simp only [List.length_map] at *; omega)) | ((first | with_reducible refine bok ?_ | with_reducible refine bokL ?_ | with_reducible refine bokR ?_ | with_reducible refine Side.mk ?_); first | omega | exact .inl rfl | exact .inr ⟨rfl, rfl, rfl⟩ | exact fun h => h | exact fun _ h => h | exact fun _ h => congrArg Bool.not h | (intro _ h; simp [gpick, h]; done) | (dsimp only; omega) | (simp only [List.length_map]; done) | (simp only [List.length_map, List.length_append, List.length_cons, List.length_nil]; omega)) | ((fail_if_success (with_reducible refine Side.mk ?_)); constructor))
      · exact rfl
      refine Trip.ret ?_
      apply Ret1 []
      · repeat' (first | exact rfl | constructor)
      · exact rfl
      · repeat' (first | exact rfl | constructor)
    intro h2
    have h2 : a[i]! = b[i]! := by simpa only [Bool.not_eq_false', decide_eq_true_eq, Int.toNat_natCast] using h2
    refine Trip.skip ?_
    apply Trip.reg tblOk
    · repeat' (first | exact rfl | exact idx_map _ _ _ (by show _ < _; first | omega | (simp only [List.length_map] at *; omega)) | ((first | with_reducible refine bok ?_ | with_reducible refine bokL ?_ | with_reducible refine bokR ?_ | with_reducible refine Side.mk ?_); first | omega | exact .inl rfl | exact .inr ⟨rfl, rfl, rfl⟩ | exact fun h => h | exact fun _ h => h | exact fun _ h => congrArg Bool.not h | (intro _ h; simp [gpick, h]; done) | (dsimp only; omega) | (simp only [List.length_map]; done) | (simp only [List.length_map, List.length_append, List.length_cons, List.length_nil]; omega)) | ((fail_if_success (with_reducible refine Side.mk ?_)); constructor))
    · exact rfl
    refine ⟨i + 1, ?_, ?_, ?_⟩
    · exact ⟨by omega, by simp only [allUpto, hall, h2, decide_true, Bool.and_self]⟩
    · first | omega | (dsimp only at *; omega)
    · apply Weak.keep
      · exact rfl
      · repeat' (first | exact rfl | (refine vI ?_; first | omega | (simp; done) | (simp; omega) | (simp only [List.length_map] at *; omega)) | constructor)
      · repeat' (first | exact rfl | (refine vI ?_; first | omega | (simp; done) | (simp; omega) | (simp only [List.length_map] at *; omega)) | constructor)
      · exact rfl
      · repeat' (first | exact rfl | constructor)
  · intro hge
    have hge : i = a.length := by simp at hge; omega
    subst hge
    refine Trip.exit ?_
    have e : sameT a b = true := by simp only [sameT, hall, Bool.and_true]; exact decide_eq_true (by omega)
    rw [e]
    refine Trip.seq ?_
    apply Trip.reg tblOk
    · repeat' (first | exact rfl | exact idx_map _ _ _ (by show _ < _; first | omega | (simp only [List.length_map] at *; omega)) | ((first | with_reducible refine bok ?_ | with_reducible refine bokL ?_ | with_reducible refine bokR ?_ | with_reducible refine Side.mk ?_); first | omega | exact .inl rfl | exact .inr ⟨rfl, rfl, rfl⟩ | exact fun h => h | exact fun _ h => h | exact fun _ h => congrArg Bool.not h | (intro _ h; simp [gpick, h]; done) | (dsimp only; omega) | (simp only [List.length_map]; done) | (simp only [List.length_map, List.length_append, List.length_cons, List.length_nil]; omega)) | ((fail_if_success (with_reducible refine Side.mk ?_)); constructor))
    · exact rfl
    refine Trip.ret ?_
    apply Ret1 []
    · repeat' (first | exact rfl | constructor)
    · exact rfl
    · repeat' (first | exact rfl | constructor)

theorem cPlace2 (nl : Bool) (fs : List File) (left : Int) (off : Bool) (name : List UInt8) (hb : fs.length ≤ 1000000000000) :
    Ctr prog 36 [D nl fs left off, sV name] [] (.tup [iV (pos fs name), bV (isAt fs (pos fs name) name)]) [] [] := by
  refine Ctr.enter tblOk func36 rfl (by decide) rfl (nt := 46) rfl rfl rfl rfl ?_
  refine Trip.seq ?_
  apply Trip.reg tblOk
  · repeat' (first | exact rfl | exact idx_map _ _ _ (by show _ < _; first | omega | (simp only [List.length_map] at *; omega)) | ((first | with_reducible refine bok ?_ | with_reducible refine bokL ?_ | with_reducible refine bokR ?_ | with_reducible refine Side.mk ?_); first | omega | exact .inl rfl | exact .inr ⟨rfl, rfl, rfl⟩ | exact fun h => h | exact fun _ h => h | exact fun _ h => congrArg Bool.not h | (intro _ h; simp [gpick, h]; done) | (dsimp only; omega) | (simp only [List.length_map]; done) | (simp only [List.length_map, List.length_append, List.length_cons, List.length_nil]; omega)) | ((fail_if_success (with_reducible refine Side.mk ?_)); constructor))
  · exact rfl
  refine Trip.seq ?_
  apply Trip.drw tblOk mixed
  · repeat' (first | exact rfl | exact idx_map _ _ _ (by show _ < _; first | omega | (simp only [List.length_map] at *; omega)) | ((first | with_reducible refine bok ?_ | with_reducible refine bokL ?_ | with_reducible refine bokR ?_ | with_reducible refine Side.mk ?_); first | omega | exact .inl rfl | exact .inr ⟨rfl, rfl, rfl⟩ | exact fun h => h | exact fun _ h => h | exact fun _ h => congrArg Bool.not h | (intro _ h; simp [gpick, h]; done) | (dsimp only; omega) | (simp only [List.length_map]; done) | (simp only [List.length_map, List.length_append, List.length_cons, List.length_nil]; omega)) | ((fail_if_success (with_reducible refine Side.mk ?_)); constructor))
  · exact rfl
  · kernel_rfl
  refine Trip.seq ?_
  refine Trip.block ?_
  apply Trip.loop (fun (x : Nat × Nat) => ⟨[(1, sV name), (2, .ref 2 0), (6, iV x.1), (7, iV x.2)], [(2, .box (diskCells nl fs left off))]⟩) (fun x => x.1 ≤ x.2 ∧ x.2 ≤ fs.length ∧ bs (fun i => !Op.bytesLess (fs[i]!).name name) x.1 x.2 = pos fs name) (fun x => x.2 - x.1) ((0, fs.length))
  · exact ⟨by simp, by simp, rfl⟩
  · apply Weak.keep
    · exact rfl
    · repeat' (first | exact rfl | (refine vI ?_; first | omega | (simp; done) | (simp; omega) | (simp only [List.length_map] at *; omega)) | constructor)
    · repeat' (first | exact rfl | (refine vI ?_; first | omega | (simp; done) | (simp; omega) | (simp only [List.length_map] at *; omega)) | constructor)
    · exact rfl
    · repeat' (first | exact rfl | constructor)
  intro ⟨lo, hi⟩ ⟨h1, h2, h3⟩
  dsimp only at h1 h2 h3 ⊢
  refine Trip.seq ?_
  refine Trip.seq ?_
  apply Trip.reg tblOk
  · repeat' (first | exact rfl | exact idx_map _ _ _ (by show _ < _; first | omega | (simp only [List.length_map] at *; omega)) | ((first | with_reducible refine bok ?_ | with_reducible refine bokL ?_ | with_reducible refine bokR ?_ | with_reducible refine Side.mk ?_); first | omega | exact .inl rfl | exact .inr ⟨rfl, rfl, rfl⟩ | exact fun h => h | exact fun _ h => h | exact fun _ h => congrArg Bool.not h | (intro _ h; simp [gpick, h]; done) | (dsimp only; omega) | (simp only [List.length_map]; done) | (simp only [List.length_map, List.length_append, List.length_cons, List.length_nil]; omega)) | ((fail_if_success (with_reducible refine Side.mk ?_)); constructor))
  · exact rfl
  apply Trip.cond (.tmp rfl)
  · intro h
    have h : lo < hi := by simpa using h
    have hm : ((lo : Int) + hi) / 2 = ((lo + hi) / 2 : Nat) := by omega
    rw [bs.eq_def, dif_pos h] at h3
    refine Trip.skip ?_
    refine Trip.block ?_
    apply Trip.regk ⟨[(1, sV name), (2, .ref 2 0), (6, iV lo), (7, iV hi), (8, iV ((lo + hi) / 2 : Nat))], [(2, .box (diskCells nl fs left off))]⟩ tblOk
    · repeat' (first | exact rfl | exact idx_map _ _ _ (by show _ < _; first | omega | (simp only [List.length_map] at *; omega)) | ((first | with_reducible refine bok ?_ | with_reducible refine bokL ?_ | with_reducible refine bokR ?_ | with_reducible refine Side.mk ?_); first | omega | exact .inl rfl | exact .inr ⟨rfl, rfl, rfl⟩ | exact fun h => h | exact fun _ h => h | exact fun _ h => congrArg Bool.not h | (intro _ h; simp [gpick, h]; done) | (dsimp only; omega) | (simp only [List.length_map]; done) | (simp only [List.length_map, List.length_append, List.length_cons, List.length_nil]; omega)) | ((fail_if_success (with_reducible refine Side.mk ?_)); constructor))
    · exact rfl
    · apply Weak.keep
      · exact rfl
      · repeat' (first | exact rfl | (refine vI ?_; first | omega | (simp; done) | (simp; omega) | (simp only [List.length_map] at *; omega)) | constructor)
      · repeat' (first | exact rfl | (refine vI ?_; first | omega | (simp; done) | (simp; omega) | (simp only [List.length_map] at *; omega)) | constructor)
      · exact rfl
      · repeat' (first | exact rfl | constructor)
    refine Trip.seq ?_
    apply Trip.reg tblOk
    · repeat' (first | exact rfl | exact idx_map _ _ _ (by show _ < _; first | omega | (simp only [List.length_map] at *; omega)) | ((first | with_reducible refine bok ?_ | with_reducible refine bokL ?_ | with_reducible refine bokR ?_ | with_reducible refine Side.mk ?_); first | omega | exact .inl rfl | exact .inr ⟨rfl, rfl, rfl⟩ | exact fun h => h | exact fun _ h => h | exact fun _ h => congrArg Bool.not h | (intro _ h; simp [gpick, h]; done) | (dsimp only; omega) | (simp only [List.length_map]; done) | (simp only [List.length_map, List.length_append, List.length_cons, List.length_nil]; omega)) | ((fail_if_success (with_reducible refine Side.mk ?_)); constructor))
    · exact rfl
    apply Trip.cond (.tmp rfl)
    · intro h4
      have h4 : Op.bytesLess (fs[(lo + hi) / 2]!).name name = true := h4
      rw [if_neg (by rw [h4]; simp)] at h3
      apply Trip.reg tblOk
      · repeat' (first | exact rfl | exact idx_map _ _ _ (by show _ < _; first | omega | (simp only [List.length_map] at *; omega)) | ((first | with_reducible refine bok ?_ | with_reducible refine bokL ?_ | with_reducible refine bokR ?_ | with_reducible refine Side.mk ?_); first | omega | exact .inl rfl | exact .inr ⟨rfl, rfl, rfl⟩ | exact fun h => h | exact fun _ h => h | exact fun _ h => congrArg Bool.not h | (intro _ h; simp [gpick, h]; done) | (dsimp only; omega) | (simp only [List.length_map]; done) | (simp only [List.length_map, List.length_append, List.length_cons, List.length_nil]; omega)) | ((fail_if_success (with_reducible refine Side.mk ?_)); constructor))
      · exact rfl
      refine ⟨((lo + hi) / 2 + 1, hi), ?_, ?_, ?_⟩
      · exact ⟨by dsimp only; omega, by dsimp only; omega, h3⟩
      · first | omega | (dsimp only at *; omega)
      · apply Weak.keep
        · exact rfl
        · repeat' (first | exact rfl | (refine vI ?_; first | omega | (simp; done) | (simp; omega) | (simp only [List.length_map] at *; omega)) | constructor)
        · repeat' (first | exact rfl | (refine vI ?_; first | omega | (simp; done) | (simp; omega) | (simp only [List.length_map] at *; omega)) | constructor)
        · exact rfl
        · repeat' (first | exact rfl | constructor)
    · intro h4
      have h4 : Op.bytesLess (fs[(lo + hi) / 2]!).name name = false := h4
      rw [if_pos (by rw [h4]; simp)] at h3
      apply Trip.reg tblOk
      · repeat' (first | exact rfl | exact idx_map _ _ _ (by show _ < _; first | omega | (simp only [List.length_map] at *; omega)) | ((first | with_reducible refine bok ?_ | with_reducible refine bokL ?_ | with_reducible refine bokR ?_ | with_reducible refine Side.mk ?_); first | omega | exact .inl rfl | exact .inr ⟨rfl, rfl, rfl⟩ | exact fun h => h | exact fun _ h => h | exact fun _ h => congrArg Bool.not h | (intro _ h; simp [gpick, h]; done) | (dsimp only; omega) | (simp only [List.length_map]; done) | (simp only [List.length_map, List.length_append, List.length_cons, List.length_nil]; omega)) | ((fail_if_success (with_reducible refine Side.mk ?_)); constructor))
      · exact rfl
      refine ⟨(lo, (lo + hi) / 2), ?_, ?_, ?_⟩
      · exact ⟨by dsimp only; omega, by dsimp only; omega, h3⟩
      · first | omega | (dsimp only at *; omega)
      · apply Weak.keep
        · exact rfl
        · repeat' (first | exact rfl | (refine vI ?_; first | omega | (simp; done) | (simp; omega) | (simp only [List.length_map] at *; omega)) | constructor)
        · repeat' (first | exact rfl | (refine vI ?_; first | omega | (simp; done) | (simp; omega) | (simp only [List.length_map] at *; omega)) | constructor)
        · exact rfl
        · repeat' (first | exact rfl | constructor)
  · intro h
    have h : lo = hi := by simp at h; omega
    subst h
    rw [bs.eq_def, dif_neg (by omega)] at h3
    subst h3
    refine Trip.exit ?_
    refine Trip.seq ?_
    apply Trip.drw tblOk mixed
    · repeat' (first | exact rfl | (apply Rule.under tblOk; intro hγ; with_reducible apply Rule.indexAddr) | exact idx_map _ _ _ (by have h2 := hγ; simp only [gpick, cond_true, cond_false, decide_eq_true_eq, Bool.and_eq_true, Bool.or_eq_true, Bool.not_eq_true', Bool.not_eq_false', decide_eq_false_iff_not, List.length_map] at h2; show _ < _; omega) | exact idx_map _ _ _ (by show _ < _; first | omega | (simp only [List.length_map] at *; omega)) | ((first | with_reducible refine bok ?_ | with_reducible refine bokL ?_ | with_reducible refine bokR ?_ | with_reducible refine Side.mk ?_); first | omega | exact .inl rfl | exact .inr ⟨rfl, rfl, rfl⟩ | exact fun h => h | exact fun _ h => h | exact fun _ h => congrArg Bool.not h | (intro _ h; simp [gpick, h]; done) | (dsimp only; omega) | (simp only [List.length_map]; done) | (simp only [List.length_map, List.length_append, List.length_cons, List.length_nil]; omega) | exact fun _ => hγ | (have h2 := hγ; simp only [gpick, cond_true, cond_false, decide_eq_true_eq, Bool.and_eq_true, Bool.or_eq_true, Bool.not_eq_true', Bool.not_eq_false', decide_eq_false_iff_not, List.length_map] at h2; (try simp only [List.length_map]); omega)) | ((fail_if_success (with_reducible refine Side.mk ?_)); constructor))
    · exact rfl
    · kernel_rfl
    refine Trip.ret ?_
    apply Ret2 []
    · repeat' (first | exact rfl | constructor)
    · exact rfl
    · repeat' (first | exact rfl | (refine cvB ?_; simp [isAt]; done) | constructor)
    · repeat' (first | exact rfl | (refine cvB ?_; simp [isAt]; done) | constructor)

def fileEq (f g : File) : Bool := decide (f.name = g.name) && (decide (f.data = g.data) && (decide (f.synced = g.synced) && true))
theorem fileEq_iff (f g : File) : fileEq f g = true ↔ f = g := by
  obtain ⟨a, b, c⟩ := f
  obtain ⟨a', b', c'⟩ := g
  simp [fileEq]
def same (l1 : Int) (o1 : Bool) (a : List File) (l2 : Int) (o2 : Bool) (b : List File) : Bool :=
  decide (l1 = l2) && decide (o1 = o2) && decide ((a.length : Int) = b.length) && allUpto (fun i => fileEq a[i]! b[i]!) a.length
theorem same_eq (l1 : Int) (o1 : Bool) (a : List File) (l2 : Int) (o2 : Bool) (b : List File) : same l1 o1 a l2 o2 b = true ↔ l1 = l2 ∧ o1 = o2 ∧ a = b := by
  simp only [same, Bool.and_eq_true, decide_eq_true_eq, allUpto_iff, fileEq_iff]
  constructor
  · rintro ⟨⟨⟨h0, h1⟩, h2⟩, h3⟩; exact ⟨h0, h1, (listEq_iff a b (by omega)).1 h3⟩
  · rintro ⟨rfl, rfl, rfl⟩; exact ⟨⟨⟨rfl, rfl⟩, rfl⟩, fun _ _ => rfl⟩

set_option maxRecDepth 4000 in
theorem cSame (n1 n2 : Bool) (a b : List File) (l1 l2 : Int) (o1 o2 : Bool) (hb : a.length ≤ 1000000000) :
    Ctr prog 12 [D n1 a l1 o1, D n2 b l2 o2] [] (bV (same l1 o1 a l2 o2 b)) [] [] := by
  refine Ctr.enter tblOk func12 rfl (by decide) rfl (nt := 45) rfl rfl rfl rfl ?_
  refine Trip.seq ?_
  apply Trip.reg tblOk
  · repeat' (first | exact rfl | exact idx_map _ _ _ (by show _ < _; first | omega | (simp only [List.length_map] at *; omega)) | ((first | with_reducible refine bok ?_ | with_reducible refine bokL ?_ | with_reducible refine bokR ?_ | with_reducible refine Side.mk ?_); first | omega | exact .inl rfl | exact .inr ⟨rfl, rfl, rfl⟩ | exact fun h => h | exact fun _ h => h | exact fun _ h => congrArg Bool.not h | (intro _ h; simp [gpick, h]; done) | (dsimp only; omega) | (simp only [List.length_map]; done) | (simp only [List.length_map, List.length_append, List.length_cons, List.length_nil]; omega)) | ((fail_if_success (with_reducible refine Side.mk ?_)); constructor))
  · exact rfl
  refine Trip.seq ?_
  refine Trip.seq ?_
  apply Trip.reg tblOk
  · repeat' (first | exact rfl | exact idx_map _ _ _ (by show _ < _; first | omega | (simp only [List.length_map] at *; omega)) | ((first | with_reducible refine bok ?_ | with_reducible refine bokL ?_ | with_reducible refine bokR ?_ | with_reducible refine Side.mk ?_); first | omega | exact .inl rfl | exact .inr ⟨rfl, rfl, rfl⟩ | exact fun h => h | exact fun _ h => h | exact fun _ h => congrArg Bool.not h | (intro _ h; simp [gpick, h]; done) | (dsimp only; omega) | (simp only [List.length_map]; done) | (simp only [List.length_map, List.length_append, List.length_cons, List.length_nil]; omega)) | ((fail_if_success (with_reducible refine Side.mk ?_)); constructor))
  · exact rfl
  apply Trip.cond (.tmp rfl)
  · intro h
    have e : same l1 o1 a l2 o2 b = false := by
      simp only [List.length_map] at h
      simp only [same]
      generalize decide (l1 = l2) = x1 at *
      generalize decide (o1 = o2) = x2 at *
      generalize decide ((a.length : Int) = b.length) = x3 at *
      revert h
      cases x1 <;> cases x2 <;> cases x3 <;> simp
    rw [e]
    refine Trip.seq ?_
    apply Trip.reg tblOk
    · repeat' (first | exact rfl | exact idx_map _ _ _ (by show _ < _; first | omega | (simp only [List.length_map] at *; omega)) | ((first | with_reducible refine bok ?_ | with_reducible refine bokL ?_ | with_reducible refine bokR ?_ | with_reducible refine Side.mk ?_); first | omega | exact .inl rfl | exact .inr ⟨rfl, rfl, rfl⟩ | exact fun h => h | exact fun _ h => h | exact fun _ h => congrArg Bool.not h | (intro _ h; simp [gpick, h]; done) | (dsimp only; omega) | (simp only [List.length_map]; done) | (simp only [List.length_map, List.length_append, List.length_cons, List.length_nil]; omega)) | ((fail_if_success (with_reducible refine Side.mk ?_)); constructor))
    · exact rfl
    refine Trip.ret ?_
    apply Ret1 []
    · repeat' (first | exact rfl | constructor)
    · exact rfl
    · repeat' (first | exact rfl | constructor)
  intro h
  simp only [List.length_map, Bool.or_eq_false_iff, Bool.not_eq_false', decide_eq_true_eq] at h
  obtain ⟨⟨g1, g2⟩, g3⟩ := h
  refine Trip.skip ?_
  refine Trip.seq ?_
  refine Trip.seq ?_
  apply Trip.reg tblOk
  · repeat' (first | exact rfl | exact idx_map _ _ _ (by show _ < _; first | omega | (simp only [List.length_map] at *; omega)) | ((first | with_reducible refine bok ?_ | with_reducible refine bokL ?_ | with_reducible refine bokR ?_ | with_reducible refine Side.mk ?_); first | omega | exact .inl rfl | exact .inr ⟨rfl, rfl, rfl⟩ | exact fun h => h | exact fun _ h => h | exact fun _ h => congrArg Bool.not h | (intro _ h; simp [gpick, h]; done) | (dsimp only; omega) | (simp only [List.length_map]; done) | (simp only [List.length_map, List.length_append, List.length_cons, List.length_nil]; omega)) | ((fail_if_success (with_reducible refine Side.mk ?_)); constructor))
  · exact rfl
  refine Trip.block ?_
  apply Trip.loop (fun (i : Nat) => ⟨[(2, .ref 2 0), (3, .ref 3 0), (5, iV i)], [(2, .box (diskCells n1 a l1 o1)), (3, .box (diskCells n2 b l2 o2))]⟩) (fun (i : Nat) => i ≤ a.length ∧ allUpto (fun i => fileEq a[i]! b[i]!) i = true) (fun (i : Nat) => a.length - i) (0)
  · exact ⟨Nat.zero_le _, rfl⟩
  · apply Weak.keep
    · exact rfl
    · repeat' (first | exact rfl | (refine vI ?_; first | omega | (simp; done) | (simp; omega) | (simp only [List.length_map] at *; omega)) | constructor)
    · repeat' (first | exact rfl | (refine vI ?_; first | omega | (simp; done) | (simp; omega) | (simp only [List.length_map] at *; omega)) | constructor)
    · exact rfl
    · repeat' (first | exact rfl | constructor)
  intro i ⟨hi, hall⟩
  refine Trip.seq ?_
  refine Trip.seq ?_
  apply Trip.reg tblOk
  · repeat' (first | exact rfl | exact idx_map _ _ _ (by show _ < _; first | omega | (simp only [List.length_map] at *; omega)) | ((first | with_reducible refine bok ?_ | with_reducible refine bokL ?_ | with_reducible refine bokR ?_ | with_reducible refine Side.mk ?_); first | omega | exact .inl rfl | exact .inr ⟨rfl, rfl, rfl⟩ | exact fun h => h | exact fun _ h => h | exact fun _ h => congrArg Bool.not h | (intro _ h; simp [gpick, h]; done) | (dsimp only; omega) | (simp only [List.length_map]; done) | (simp only [List.length_map, List.length_append, List.length_cons, List.length_nil]; omega)) | ((fail_if_success (with_reducible refine Side.mk ?_)); constructor))
  · exact rfl
  apply Trip.cond (.tmp rfl)
  · intro hlt
    have hlt : i < a.length := by simpa using hlt
    refine Trip.skip ?_
    refine Trip.seq ?_
    refine Trip.block ?_
    refine Trip.seq ?_
    apply Trip.drw tblOk mixed
    · repeat' (first | exact rfl | exact idx_map _ _ _ (by show _ < _; first | omega | (simp only [List.length_map] at *; omega)) | ((first | with_reducible refine bok ?_ | with_reducible refine bokL ?_ | with_reducible refine bokR ?_ | with_reducible refine Side.mk ?_); first | omega | exact .inl rfl | exact .inr ⟨rfl, rfl, rfl⟩ | exact fun h => h | exact fun _ h => h | exact fun _ h => congrArg Bool.not h | (intro _ h; simp [gpick, h]; done) | (dsimp only; omega) | (simp only [List.length_map]; done) | (simp only [List.length_map, List.length_append, List.length_cons, List.length_nil]; omega)) | ((fail_if_success (with_reducible refine Side.mk ?_)); constructor))
    · exact rfl
    · kernel_rfl
    apply Trip.cond (.tmp rfl)
    · intro h2
      have h2 : (!fileEq a[i]! b[i]!) = true := h2
      have e : same l1 o1 a l2 o2 b = false := by
        simp only [same]
        rw [allUpto_no hlt (by simpa only [Bool.not_eq_true'] using h2), Bool.and_false]
      rw [e]
      refine Trip.seq ?_
      apply Trip.reg tblOk
      · repeat' (first | exact rfl | exact idx_map _ _ _ (by show _ < _; first | omega | (simp only [List.length_map] at *; omega)) | ((first | with_reducible refine bok ?_ | with_reducible refine bokL ?_ | with_reducible refine bokR ?_ | with_reducible refine Side.mk ?_); first | omega | exact .inl rfl | exact .inr ⟨rfl, rfl, rfl⟩ | exact fun h => h | exact fun _ h => h | exact fun _ h => congrArg Bool.not h | (intro _ h; simp [gpick, h]; done) | (dsimp only; omega) | (simp only [List.length_map]; done) | (simp only [List.length_map, List.length_append, List.length_cons, List.length_nil]; omega)) | ((fail_if_success (with_reducible refine Side.mk ?_)); constructor))
      · exact rfl
      refine Trip.ret ?_
      apply Ret1 []
      · repeat' (first | exact rfl | constructor)
      · exact rfl
      · repeat' (first | exact rfl | constructor)
    intro h2
    have h2 : (!fileEq a[i]! b[i]!) = false := h2
    refine Trip.skip ?_
    apply Trip.reg tblOk
    · repeat' (first | exact rfl | exact idx_map _ _ _ (by show _ < _; first | omega | (simp only [List.length_map] at *; omega)) | ((first | with_reducible refine bok ?_ | with_reducible refine bokL ?_ | with_reducible refine bokR ?_ | with_reducible refine Side.mk ?_); first | omega | exact .inl rfl | exact .inr ⟨rfl, rfl, rfl⟩ | exact fun h => h | exact fun _ h => h | exact fun _ h => congrArg Bool.not h | (intro _ h; simp [gpick, h]; done) | (dsimp only; omega) | (simp only [List.length_map]; done) | (simp only [List.length_map, List.length_append, List.length_cons, List.length_nil]; omega)) | ((fail_if_success (with_reducible refine Side.mk ?_)); constructor))
    · exact rfl
    refine ⟨i + 1, ?_, ?_, ?_⟩
    · exact ⟨by omega, by simp only [allUpto, hall, Bool.true_and]; simpa only [Bool.not_eq_false'] using h2⟩
    · first | omega | (dsimp only at *; omega)
    · apply Weak.keep
      · exact rfl
      · repeat' (first | exact rfl | (refine vI ?_; first | omega | (simp; done) | (simp; omega) | (simp only [List.length_map] at *; omega)) | constructor)
      · repeat' (first | exact rfl | (refine vI ?_; first | omega | (simp; done) | (simp; omega) | (simp only [List.length_map] at *; omega)) | constructor)
      · exact rfl
      · repeat' (first | exact rfl | constructor)
  · intro hge
    have hge : i = a.length := by simp at hge; omega
    subst hge
    refine Trip.exit ?_
    have e : same l1 o1 a l2 o2 b = true := by simp only [same, hall, g1, g2, g3, decide_true, Bool.and_self]
    rw [e]
    refine Trip.seq ?_
    apply Trip.reg tblOk
    · repeat' (first | exact rfl | exact idx_map _ _ _ (by show _ < _; first | omega | (simp only [List.length_map] at *; omega)) | ((first | with_reducible refine bok ?_ | with_reducible refine bokL ?_ | with_reducible refine bokR ?_ | with_reducible refine Side.mk ?_); first | omega | exact .inl rfl | exact .inr ⟨rfl, rfl, rfl⟩ | exact fun h => h | exact fun _ h => h | exact fun _ h => congrArg Bool.not h | (intro _ h; simp [gpick, h]; done) | (dsimp only; omega) | (simp only [List.length_map]; done) | (simp only [List.length_map, List.length_append, List.length_cons, List.length_nil]; omega)) | ((fail_if_success (with_reducible refine Side.mk ?_)); constructor))
    · exact rfl
    refine Trip.ret ?_
    apply Ret1 []
    · repeat' (first | exact rfl | constructor)
    · exact rfl
    · repeat' (first | exact rfl | constructor)
end Go.Proofs.Try
