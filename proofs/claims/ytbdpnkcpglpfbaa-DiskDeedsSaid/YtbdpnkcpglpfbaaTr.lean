/- Valid of disk; Right, Large of the reference. -/
import Derived.Test.YtbdpnkcpglpfbaaTq
namespace Go.Proofs.Try
open Go Go.Sym

def nameB (fs : List File) (i : Nat) : Bool := decide (0 < (i : Int)) && !Op.bytesLess (fs[((i : Int) - 1).toNat]!).name (fs[i]!).name
def nameAt (fs : List File) (i : Nat) : Bool := !named (fs[i]!).name || nameB fs i
def okAt (fs : List File) (i : Nat) : Bool :=
  !nameAt fs i && !decide ((fs[i]!).synced < 0) && !decide (((fs[i]!).data.length : Int) < (fs[i]!).synced) && !decide (4194304 < ((fs[i]!).data.length : Int))
def right (fs : List File) (left : Int) (off : Bool) : Bool :=
  decide ((fs.length : Int) ≤ 65536) && decide (-1 ≤ left) && decide (off = decide (left = 0)) && allUpto (okAt fs) fs.length
theorem badV (fs : List File) (i : Nat) : (((nameAt fs i || decide ((fs[i]!).synced < 0)) || decide (((fs[i]!).data.length : Int) < (fs[i]!).synced)) || decide (4194304 < ((fs[i]!).data.length : Int))) = !okAt fs i := by
  simp only [okAt]
  generalize nameAt fs i = a
  generalize decide ((fs[i]!).synced < 0) = b
  generalize decide (((fs[i]!).data.length : Int) < (fs[i]!).synced) = c
  generalize decide (4194304 < ((fs[i]!).data.length : Int)) = d
  revert a b c d; decide
theorem badR (fs : List File) (i : Nat) : (((nameAt fs i || decide (4194304 < ((fs[i]!).data.length : Int))) || decide ((fs[i]!).synced < 0)) || decide (((fs[i]!).data.length : Int) < (fs[i]!).synced)) = !okAt fs i := by
  simp only [okAt]
  generalize nameAt fs i = a
  generalize decide ((fs[i]!).synced < 0) = b
  generalize decide (((fs[i]!).data.length : Int) < (fs[i]!).synced) = c
  generalize decide (4194304 < ((fs[i]!).data.length : Int)) = d
  revert a b c d; decide

set_option maxRecDepth 4000 in
set_option maxHeartbeats 400000 in
theorem cValid (nl : Bool) (fs : List File) (left : Int) (off : Bool) (hb : fs.length ≤ 1000000000) :
    Ctr prog 10 [D nl fs left off] [] (bV (right fs left off)) [] [] := by
  refine Ctr.enter tblOk func10 rfl (by decide) rfl (nt := 70) rfl rfl rfl rfl ?_
  refine Trip.seq ?_
  apply Trip.reg tblOk
  · repeat' (first | exact rfl | exact idx_map _ _ _ (by show _ < _; first | omega | (simp only [List.length_map] at *; omega)) | ((first | with_reducible refine bok ?_ | with_reducible refine bokL ?_ | with_reducible refine bokR ?_ | with_reducible refine Side.mk ?_); first | omega | exact .inl rfl | exact .inr ⟨rfl, rfl, rfl⟩ | exact fun h => h | exact fun _ h => h | exact fun _ h => congrArg Bool.not h | (intro _ h; simp [gpick, h]; done) | (dsimp only; omega) | (simp only [List.length_map]; done) | (simp only [List.length_map, List.length_append, List.length_cons, List.length_nil, Int.toNat_natCast]; omega) | (intro h1 h2; rw [h1, h2]; rfl)) | ((fail_if_success (with_reducible refine Side.mk ?_)); constructor))
  · exact rfl
  refine Trip.seq ?_
  refine Trip.seq ?_
  apply Trip.reg tblOk
  · repeat' (first | exact rfl | exact idx_map _ _ _ (by show _ < _; first | omega | (simp only [List.length_map] at *; omega)) | ((first | with_reducible refine bok ?_ | with_reducible refine bokL ?_ | with_reducible refine bokR ?_ | with_reducible refine Side.mk ?_); first | omega | exact .inl rfl | exact .inr ⟨rfl, rfl, rfl⟩ | exact fun h => h | exact fun _ h => h | exact fun _ h => congrArg Bool.not h | (intro _ h; simp [gpick, h]; done) | (dsimp only; omega) | (simp only [List.length_map]; done) | (simp only [List.length_map, List.length_append, List.length_cons, List.length_nil, Int.toNat_natCast]; omega) | (intro h1 h2; rw [h1, h2]; rfl)) | ((fail_if_success (with_reducible refine Side.mk ?_)); constructor))
  · exact rfl
  refine Trip.block ?_
  apply Trip.loop (fun (i : Nat) => ⟨[(1, .ref 1 0), (6, .sl nl 3 (fs.map File.pv)), (7, iV fs.length), (8, iV i)], [(1, .box (diskCells nl fs left off))]⟩) (fun (i : Nat) => i ≤ fs.length ∧ allUpto (okAt fs) i = true) (fun i => fs.length - i) (0)
  · exact ⟨Nat.zero_le _, rfl⟩
  · apply Weak.keep
    · exact rfl
    · repeat' (first | exact rfl | (refine vI ?_; first | omega | (simp; done) | (simp; omega) | (simp only [List.length_map] at *; omega)) | constructor)
    · repeat' (first | exact rfl | (refine vI ?_; first | omega | (simp; done) | (simp; omega) | (simp only [List.length_map] at *; omega)) | constructor)
    · exact rfl
    · repeat' (first | exact rfl | constructor)
  intro i ⟨hi, hall⟩
  refine Trip.seq ?_
  apply Trip.reg tblOk
  · repeat' (first | exact rfl | exact idx_map _ _ _ (by show _ < _; first | omega | (simp only [List.length_map] at *; omega)) | ((first | with_reducible refine bok ?_ | with_reducible refine bokL ?_ | with_reducible refine bokR ?_ | with_reducible refine Side.mk ?_); first | omega | exact .inl rfl | exact .inr ⟨rfl, rfl, rfl⟩ | exact fun h => h | exact fun _ h => h | exact fun _ h => congrArg Bool.not h | (intro _ h; simp [gpick, h]; done) | (dsimp only; omega) | (simp only [List.length_map]; done) | (simp only [List.length_map, List.length_append, List.length_cons, List.length_nil, Int.toNat_natCast]; omega) | (intro h1 h2; rw [h1, h2]; rfl)) | ((fail_if_success (with_reducible refine Side.mk ?_)); constructor))
  · exact rfl
  refine Trip.seq ?_
  apply Trip.cond (.tmp rfl)
  · intro h
    have h : i < fs.length := by simpa using h
    refine Trip.skip ?_
    refine Trip.seq ?_
    refine Trip.block ?_
    refine Trip.seq ?_
    apply Trip.reg tblOk
    · repeat' (first | exact rfl | exact idx_map _ _ _ (by show _ < _; first | omega | (simp only [List.length_map] at *; omega)) | ((first | with_reducible refine bok ?_ | with_reducible refine bokL ?_ | with_reducible refine bokR ?_ | with_reducible refine Side.mk ?_); first | omega | exact .inl rfl | exact .inr ⟨rfl, rfl, rfl⟩ | exact fun h => h | exact fun _ h => h | exact fun _ h => congrArg Bool.not h | (intro _ h; simp [gpick, h]; done) | (dsimp only; omega) | (simp only [List.length_map]; done) | (simp only [List.length_map, List.length_append, List.length_cons, List.length_nil, Int.toNat_natCast]; omega) | (intro h1 h2; rw [h1, h2]; rfl)) | ((fail_if_success (with_reducible refine Side.mk ?_)); constructor))
    · exact rfl
    refine Trip.seq ?_
    apply Trip.drw tblOk mixed
    · repeat' (first | exact rfl | (apply Rule.sem; intro hγ; with_reducible apply F_call (x := .func 30) (σ := []) (B := []) (news := []) hγ (hspec := cNamed (fs[i]!).name)) | (apply Rule.under tblOk; intro hγ; with_reducible apply Rule.indexAddr) | exact idx_map _ _ _ (by have h2 := hγ; simp only [gpick, cond_true, cond_false, decide_eq_true_eq, Bool.and_eq_true, Bool.or_eq_true, Bool.not_eq_true', Bool.not_eq_false', decide_eq_false_iff_not, List.length_map] at h2; show _ < _; omega) | exact idx_map _ _ _ (by show _ < _; first | omega | (simp only [List.length_map] at *; omega)) | ((first | with_reducible refine bok ?_ | with_reducible refine bokL ?_ | with_reducible refine bokR ?_ | with_reducible refine Side.mk ?_); first | omega | exact .inl rfl | exact .inr ⟨rfl, rfl, rfl⟩ | exact fun h => h | exact fun _ h => h | exact fun _ h => congrArg Bool.not h | (intro _ h; simp [gpick, h]; done) | (dsimp only; omega) | (simp only [List.length_map]; done) | (simp only [List.length_map, List.length_append, List.length_cons, List.length_nil, Int.toNat_natCast]; omega) | (intro h1 h2; rw [h1, h2]; rfl) | exact fun _ => hγ | (have h2 := hγ; simp only [gpick, cond_true, cond_false, decide_eq_true_eq, Bool.and_eq_true, Bool.or_eq_true, Bool.not_eq_true', Bool.not_eq_false', decide_eq_false_iff_not, List.length_map] at h2; (try simp only [List.length_map]); omega)) | ((fail_if_success (with_reducible refine Side.mk ?_)); constructor))
    · exact rfl
    · kernel_rfl
    apply Trip.cond (.tmp rfl)
    · intro h2
      have h2 : (((nameAt fs i || decide ((fs[i]!).synced < 0)) || decide (((fs[i]!).data.length : Int) < (fs[i]!).synced)) || decide (4194304 < ((fs[i]!).data.length : Int))) = true := h2
      rw [badV] at h2
      have e : right fs left off = false := by
        simp only [right]
        rw [allUpto_no h (by simpa only [Bool.not_eq_true'] using h2), Bool.and_false]
      rw [e]
      refine Trip.seq ?_
      apply Trip.reg tblOk
      · repeat' (first | exact rfl | exact idx_map _ _ _ (by show _ < _; first | omega | (simp only [List.length_map] at *; omega)) | ((first | with_reducible refine bok ?_ | with_reducible refine bokL ?_ | with_reducible refine bokR ?_ | with_reducible refine Side.mk ?_); first | omega | exact .inl rfl | exact .inr ⟨rfl, rfl, rfl⟩ | exact fun h => h | exact fun _ h => h | exact fun _ h => congrArg Bool.not h | (intro _ h; simp [gpick, h]; done) | (dsimp only; omega) | (simp only [List.length_map]; done) | (simp only [List.length_map, List.length_append, List.length_cons, List.length_nil, Int.toNat_natCast]; omega) | (intro h1 h2; rw [h1, h2]; rfl)) | ((fail_if_success (with_reducible refine Side.mk ?_)); constructor))
      · exact rfl
      refine Trip.ret ?_
      apply Ret1 []
      · repeat' (first | exact rfl | constructor)
      · exact rfl
      · repeat' (first | exact rfl | constructor)
    intro h2
    have h2 : (((nameAt fs i || decide ((fs[i]!).synced < 0)) || decide (((fs[i]!).data.length : Int) < (fs[i]!).synced)) || decide (4194304 < ((fs[i]!).data.length : Int))) = false := h2
    rw [badV] at h2
    have h3 : okAt fs i = true := by simpa only [Bool.not_eq_false'] using h2
    refine Trip.skip ?_
    apply Trip.reg tblOk
    · repeat' (first | exact rfl | exact idx_map _ _ _ (by show _ < _; first | omega | (simp only [List.length_map] at *; omega)) | ((first | with_reducible refine bok ?_ | with_reducible refine bokL ?_ | with_reducible refine bokR ?_ | with_reducible refine Side.mk ?_); first | omega | exact .inl rfl | exact .inr ⟨rfl, rfl, rfl⟩ | exact fun h => h | exact fun _ h => h | exact fun _ h => congrArg Bool.not h | (intro _ h; simp [gpick, h]; done) | (dsimp only; omega) | (simp only [List.length_map]; done) | (simp only [List.length_map, List.length_append, List.length_cons, List.length_nil, Int.toNat_natCast]; omega) | (intro h1 h2; rw [h1, h2]; rfl)) | ((fail_if_success (with_reducible refine Side.mk ?_)); constructor))
    · exact rfl
    refine ⟨i + 1, ?_, ?_, ?_⟩
    · exact ⟨by omega, by simp only [allUpto, hall, h3, Bool.and_self]⟩
    · first | omega | (dsimp only at *; omega)
    · apply Weak.keep
      · exact rfl
      · repeat' (first | exact rfl | (refine vI ?_; first | omega | (simp; done) | (simp; omega) | (simp only [List.length_map] at *; omega)) | constructor)
      · repeat' (first | exact rfl | (refine vI ?_; first | omega | (simp; done) | (simp; omega) | (simp only [List.length_map] at *; omega)) | constructor)
      · exact rfl
      · repeat' (first | exact rfl | constructor)
  · intro h
    have h : i = fs.length := by simp at h; omega
    subst h
    refine Trip.exit ?_
    refine Trip.seq ?_
    apply Trip.reg tblOk
    · repeat' (first | exact rfl | exact idx_map _ _ _ (by show _ < _; first | omega | (simp only [List.length_map] at *; omega)) | ((first | with_reducible refine bok ?_ | with_reducible refine bokL ?_ | with_reducible refine bokR ?_ | with_reducible refine Side.mk ?_); first | omega | exact .inl rfl | exact .inr ⟨rfl, rfl, rfl⟩ | exact fun h => h | exact fun _ h => h | exact fun _ h => congrArg Bool.not h | (intro _ h; simp [gpick, h]; done) | (dsimp only; omega) | (simp only [List.length_map]; done) | (simp only [List.length_map, List.length_append, List.length_cons, List.length_nil, Int.toNat_natCast]; omega) | (intro h1 h2; rw [h1, h2]; rfl)) | ((fail_if_success (with_reducible refine Side.mk ?_)); constructor))
    · exact rfl
    refine Trip.ret ?_
    apply Ret1 []
    · repeat' (first | exact rfl | constructor)
    · exact rfl
    · repeat' (first | exact rfl | (refine cvB ?_; simp only [right, hall, Bool.and_true, List.length_map]; done) | constructor)

set_option maxRecDepth 4000 in
set_option maxHeartbeats 400000 in
theorem cRight (nl : Bool) (fs : List File) (left : Int) (off : Bool) :
    Ctr prog 11 [D nl fs left off] [] (bV (right fs left off)) [] [] := by
  refine Ctr.enter tblOk func11 rfl (by decide) rfl (nt := 73) rfl rfl rfl rfl ?_
  refine Trip.seq ?_
  apply Trip.reg tblOk
  · repeat' (first | exact rfl | exact idx_map _ _ _ (by show _ < _; first | omega | (simp only [List.length_map] at *; omega)) | ((first | with_reducible refine bok ?_ | with_reducible refine bokL ?_ | with_reducible refine bokR ?_ | with_reducible refine Side.mk ?_); first | omega | exact .inl rfl | exact .inr ⟨rfl, rfl, rfl⟩ | exact fun h => h | exact fun _ h => h | exact fun _ h => congrArg Bool.not h | (intro _ h; simp [gpick, h]; done) | (dsimp only; omega) | (simp only [List.length_map]; done) | (simp only [List.length_map, List.length_append, List.length_cons, List.length_nil, Int.toNat_natCast]; omega) | (intro h1 h2; rw [h1, h2]; rfl)) | ((fail_if_success (with_reducible refine Side.mk ?_)); constructor))
  · exact rfl
  refine Trip.seq ?_
  refine Trip.seq ?_
  apply Trip.reg tblOk
  · repeat' (first | exact rfl | exact idx_map _ _ _ (by show _ < _; first | omega | (simp only [List.length_map] at *; omega)) | ((first | with_reducible refine bok ?_ | with_reducible refine bokL ?_ | with_reducible refine bokR ?_ | with_reducible refine Side.mk ?_); first | omega | exact .inl rfl | exact .inr ⟨rfl, rfl, rfl⟩ | exact fun h => h | exact fun _ h => h | exact fun _ h => congrArg Bool.not h | (intro _ h; simp [gpick, h]; done) | (dsimp only; omega) | (simp only [List.length_map]; done) | (simp only [List.length_map, List.length_append, List.length_cons, List.length_nil, Int.toNat_natCast]; omega) | (intro h1 h2; rw [h1, h2]; rfl)) | ((fail_if_success (with_reducible refine Side.mk ?_)); constructor))
  · exact rfl
  apply Trip.cond (.tmp rfl)
  · intro h
    have e : right fs left off = false := by
      simp only [List.length_map] at h
      simp only [right]
      rw [show decide ((fs.length : Int) ≤ 65536) = !decide (65536 < (fs.length : Int)) by rw [← decide_not]; exact decide_eq_decide.2 (by omega), show decide (-1 ≤ left) = !decide (left < -1) by rw [← decide_not]; exact decide_eq_decide.2 (by omega)]
      generalize decide (65536 < (fs.length : Int)) = a at *
      generalize decide (left < -1) = b at *
      generalize decide (off = decide (left = 0)) = c at *
      revert h
      cases a <;> cases b <;> cases c <;> simp
    rw [e]
    refine Trip.seq ?_
    apply Trip.reg tblOk
    · repeat' (first | exact rfl | exact idx_map _ _ _ (by show _ < _; first | omega | (simp only [List.length_map] at *; omega)) | ((first | with_reducible refine bok ?_ | with_reducible refine bokL ?_ | with_reducible refine bokR ?_ | with_reducible refine Side.mk ?_); first | omega | exact .inl rfl | exact .inr ⟨rfl, rfl, rfl⟩ | exact fun h => h | exact fun _ h => h | exact fun _ h => congrArg Bool.not h | (intro _ h; simp [gpick, h]; done) | (dsimp only; omega) | (simp only [List.length_map]; done) | (simp only [List.length_map, List.length_append, List.length_cons, List.length_nil, Int.toNat_natCast]; omega) | (intro h1 h2; rw [h1, h2]; rfl)) | ((fail_if_success (with_reducible refine Side.mk ?_)); constructor))
    · exact rfl
    refine Trip.ret ?_
    apply Ret1 []
    · repeat' (first | exact rfl | constructor)
    · exact rfl
    · repeat' (first | exact rfl | constructor)
  intro h
  simp only [List.length_map, Bool.or_eq_false_iff, Bool.not_eq_false', decide_eq_true_eq, decide_eq_false_iff_not] at h
  obtain ⟨⟨g1, g2⟩, g3⟩ := h
  refine Trip.skip ?_
  refine Trip.seq ?_
  refine Trip.seq ?_
  apply Trip.reg tblOk
  · repeat' (first | exact rfl | exact idx_map _ _ _ (by show _ < _; first | omega | (simp only [List.length_map] at *; omega)) | ((first | with_reducible refine bok ?_ | with_reducible refine bokL ?_ | with_reducible refine bokR ?_ | with_reducible refine Side.mk ?_); first | omega | exact .inl rfl | exact .inr ⟨rfl, rfl, rfl⟩ | exact fun h => h | exact fun _ h => h | exact fun _ h => congrArg Bool.not h | (intro _ h; simp [gpick, h]; done) | (dsimp only; omega) | (simp only [List.length_map]; done) | (simp only [List.length_map, List.length_append, List.length_cons, List.length_nil, Int.toNat_natCast]; omega) | (intro h1 h2; rw [h1, h2]; rfl)) | ((fail_if_success (with_reducible refine Side.mk ?_)); constructor))
  · exact rfl
  refine Trip.block ?_
  apply Trip.loop (fun (i : Nat) => ⟨[(1, .ref 1 0), (3, iV i)], [(1, .box (diskCells nl fs left off))]⟩) (fun (i : Nat) => i ≤ fs.length ∧ allUpto (okAt fs) i = true) (fun i => fs.length - i) (0)
  · exact ⟨Nat.zero_le _, rfl⟩
  · apply Weak.keep
    · exact rfl
    · repeat' (first | exact rfl | (refine vI ?_; first | omega | (simp; done) | (simp; omega) | (simp only [List.length_map] at *; omega)) | constructor)
    · repeat' (first | exact rfl | (refine vI ?_; first | omega | (simp; done) | (simp; omega) | (simp only [List.length_map] at *; omega)) | constructor)
    · exact rfl
    · repeat' (first | exact rfl | constructor)
  intro i ⟨hi, hall⟩
  refine Trip.seq ?_
  refine Trip.seq ?_
  apply Trip.reg tblOk
  · repeat' (first | exact rfl | exact idx_map _ _ _ (by show _ < _; first | omega | (simp only [List.length_map] at *; omega)) | ((first | with_reducible refine bok ?_ | with_reducible refine bokL ?_ | with_reducible refine bokR ?_ | with_reducible refine Side.mk ?_); first | omega | exact .inl rfl | exact .inr ⟨rfl, rfl, rfl⟩ | exact fun h => h | exact fun _ h => h | exact fun _ h => congrArg Bool.not h | (intro _ h; simp [gpick, h]; done) | (dsimp only; omega) | (simp only [List.length_map]; done) | (simp only [List.length_map, List.length_append, List.length_cons, List.length_nil, Int.toNat_natCast]; omega) | (intro h1 h2; rw [h1, h2]; rfl)) | ((fail_if_success (with_reducible refine Side.mk ?_)); constructor))
  · exact rfl
  apply Trip.cond (.tmp rfl)
  · intro h
    have h : i < fs.length := by simpa using h
    refine Trip.skip ?_
    refine Trip.seq ?_
    refine Trip.block ?_
    refine Trip.seq ?_
    apply Trip.reg tblOk
    · repeat' (first | exact rfl | exact idx_map _ _ _ (by show _ < _; first | omega | (simp only [List.length_map] at *; omega)) | ((first | with_reducible refine bok ?_ | with_reducible refine bokL ?_ | with_reducible refine bokR ?_ | with_reducible refine Side.mk ?_); first | omega | exact .inl rfl | exact .inr ⟨rfl, rfl, rfl⟩ | exact fun h => h | exact fun _ h => h | exact fun _ h => congrArg Bool.not h | (intro _ h; simp [gpick, h]; done) | (dsimp only; omega) | (simp only [List.length_map]; done) | (simp only [List.length_map, List.length_append, List.length_cons, List.length_nil, Int.toNat_natCast]; omega) | (intro h1 h2; rw [h1, h2]; rfl)) | ((fail_if_success (with_reducible refine Side.mk ?_)); constructor))
    · exact rfl
    refine Trip.seq ?_
    apply Trip.drw tblOk mixed
    · repeat' (first | exact rfl | (apply Rule.sem; intro hγ; with_reducible apply F_call (x := .func 31) (σ := []) (B := []) (news := []) hγ (hspec := cNamed2 (fs[i]!).name)) | (apply Rule.under tblOk; intro hγ; with_reducible apply Rule.indexAddr) | exact idx_map _ _ _ (by have h2 := hγ; simp only [gpick, cond_true, cond_false, decide_eq_true_eq, Bool.and_eq_true, Bool.or_eq_true, Bool.not_eq_true', Bool.not_eq_false', decide_eq_false_iff_not, List.length_map] at h2; show _ < _; omega) | exact idx_map _ _ _ (by show _ < _; first | omega | (simp only [List.length_map] at *; omega)) | ((first | with_reducible refine bok ?_ | with_reducible refine bokL ?_ | with_reducible refine bokR ?_ | with_reducible refine Side.mk ?_); first | omega | exact .inl rfl | exact .inr ⟨rfl, rfl, rfl⟩ | exact fun h => h | exact fun _ h => h | exact fun _ h => congrArg Bool.not h | (intro _ h; simp [gpick, h]; done) | (dsimp only; omega) | (simp only [List.length_map]; done) | (simp only [List.length_map, List.length_append, List.length_cons, List.length_nil, Int.toNat_natCast]; omega) | (intro h1 h2; rw [h1, h2]; rfl) | exact fun _ => hγ | (have h2 := hγ; simp only [gpick, cond_true, cond_false, decide_eq_true_eq, Bool.and_eq_true, Bool.or_eq_true, Bool.not_eq_true', Bool.not_eq_false', decide_eq_false_iff_not, List.length_map] at h2; (try simp only [List.length_map]); omega)) | ((fail_if_success (with_reducible refine Side.mk ?_)); constructor))
    · exact rfl
    · kernel_rfl
    apply Trip.cond (.tmp rfl)
    · intro h2
      have h2 : (((nameAt fs i || decide (4194304 < ((fs[i]!).data.length : Int))) || decide ((fs[i]!).synced < 0)) || decide (((fs[i]!).data.length : Int) < (fs[i]!).synced)) = true := h2
      rw [badR] at h2
      have e : right fs left off = false := by
        simp only [right]
        rw [allUpto_no h (by simpa only [Bool.not_eq_true'] using h2), Bool.and_false]
      rw [e]
      refine Trip.seq ?_
      apply Trip.reg tblOk
      · repeat' (first | exact rfl | exact idx_map _ _ _ (by show _ < _; first | omega | (simp only [List.length_map] at *; omega)) | ((first | with_reducible refine bok ?_ | with_reducible refine bokL ?_ | with_reducible refine bokR ?_ | with_reducible refine Side.mk ?_); first | omega | exact .inl rfl | exact .inr ⟨rfl, rfl, rfl⟩ | exact fun h => h | exact fun _ h => h | exact fun _ h => congrArg Bool.not h | (intro _ h; simp [gpick, h]; done) | (dsimp only; omega) | (simp only [List.length_map]; done) | (simp only [List.length_map, List.length_append, List.length_cons, List.length_nil, Int.toNat_natCast]; omega) | (intro h1 h2; rw [h1, h2]; rfl)) | ((fail_if_success (with_reducible refine Side.mk ?_)); constructor))
      · exact rfl
      refine Trip.ret ?_
      apply Ret1 []
      · repeat' (first | exact rfl | constructor)
      · exact rfl
      · repeat' (first | exact rfl | constructor)
    intro h2
    have h2 : (((nameAt fs i || decide (4194304 < ((fs[i]!).data.length : Int))) || decide ((fs[i]!).synced < 0)) || decide (((fs[i]!).data.length : Int) < (fs[i]!).synced)) = false := h2
    rw [badR] at h2
    have h3 : okAt fs i = true := by simpa only [Bool.not_eq_false'] using h2
    refine Trip.skip ?_
    apply Trip.reg tblOk
    · repeat' (first | exact rfl | exact idx_map _ _ _ (by show _ < _; first | omega | (simp only [List.length_map] at *; omega)) | ((first | with_reducible refine bok ?_ | with_reducible refine bokL ?_ | with_reducible refine bokR ?_ | with_reducible refine Side.mk ?_); first | omega | exact .inl rfl | exact .inr ⟨rfl, rfl, rfl⟩ | exact fun h => h | exact fun _ h => h | exact fun _ h => congrArg Bool.not h | (intro _ h; simp [gpick, h]; done) | (dsimp only; omega) | (simp only [List.length_map]; done) | (simp only [List.length_map, List.length_append, List.length_cons, List.length_nil, Int.toNat_natCast]; omega) | (intro h1 h2; rw [h1, h2]; rfl)) | ((fail_if_success (with_reducible refine Side.mk ?_)); constructor))
    · exact rfl
    refine ⟨i + 1, ?_, ?_, ?_⟩
    · exact ⟨by omega, by simp only [allUpto, hall, h3, Bool.and_self]⟩
    · first | omega | (dsimp only at *; omega)
    · apply Weak.keep
      · exact rfl
      · repeat' (first | exact rfl | (refine vI ?_; first | omega | (simp; done) | (simp; omega) | (simp only [List.length_map] at *; omega)) | constructor)
      · repeat' (first | exact rfl | (refine vI ?_; first | omega | (simp; done) | (simp; omega) | (simp only [List.length_map] at *; omega)) | constructor)
      · exact rfl
      · repeat' (first | exact rfl | constructor)
  · intro h
    have h : i = fs.length := by simp at h; omega
    subst h
    refine Trip.exit ?_
    have e : right fs left off = true := by
      simp only [right, hall, Bool.and_true, Bool.and_eq_true, decide_eq_true_eq]
      exact ⟨⟨by omega, by omega⟩, g3⟩
    rw [e]
    refine Trip.seq ?_
    apply Trip.reg tblOk
    · repeat' (first | exact rfl | exact idx_map _ _ _ (by show _ < _; first | omega | (simp only [List.length_map] at *; omega)) | ((first | with_reducible refine bok ?_ | with_reducible refine bokL ?_ | with_reducible refine bokR ?_ | with_reducible refine Side.mk ?_); first | omega | exact .inl rfl | exact .inr ⟨rfl, rfl, rfl⟩ | exact fun h => h | exact fun _ h => h | exact fun _ h => congrArg Bool.not h | (intro _ h; simp [gpick, h]; done) | (dsimp only; omega) | (simp only [List.length_map]; done) | (simp only [List.length_map, List.length_append, List.length_cons, List.length_nil, Int.toNat_natCast]; omega) | (intro h1 h2; rw [h1, h2]; rfl)) | ((fail_if_success (with_reducible refine Side.mk ?_)); constructor))
    · exact rfl
    refine Trip.ret ?_
    apply Ret1 []
    · repeat' (first | exact rfl | constructor)
    · exact rfl
    · repeat' (first | exact rfl | constructor)

def lg (fs : List File) : Nat → Int
  | 0 => fs.length
  | i + 1 => lg fs i + ((fs[i]!).data.length : Int) / 100
def large (fs : List File) : Bool := decide (400 < lg fs (min fs.length 200))
theorem lg_bd (fs : List File) (hs : ∀ f ∈ fs, f.data.length ≤ 140737488351232) : ∀ i, i ≤ fs.length → (fs.length : Int) ≤ lg fs i ∧ lg fs i ≤ fs.length + i * 1407374883513
  | 0, _ => by simp only [lg]; omega
  | i + 1, h => by
    have := lg_bd fs hs i (by omega)
    have h1 := hs (fs[i]!) (by rw [getElem!_pos fs i (by omega)]; exact List.getElem_mem _)
    simp only [lg]
    omega

theorem cLarge (nl : Bool) (fs : List File) (left : Int) (off : Bool) (hb : fs.length ≤ 140737488351232) (hs : ∀ f ∈ fs, f.data.length ≤ 140737488351232) :
    Ctr prog 7 [D nl fs left off] [] (bV (large fs)) [] [] := by
  refine Ctr.enter tblOk func7 rfl (by decide) rfl (nt := 31) rfl rfl rfl rfl ?_
  refine Trip.seq ?_
  apply Trip.reg tblOk
  · repeat' (first | exact rfl | exact idx_map _ _ _ (by show _ < _; first | omega | (simp only [List.length_map] at *; omega)) | ((first | with_reducible refine bok ?_ | with_reducible refine bokL ?_ | with_reducible refine bokR ?_ | with_reducible refine Side.mk ?_); first | omega | exact .inl rfl | exact .inr ⟨rfl, rfl, rfl⟩ | exact fun h => h | exact fun _ h => h | exact fun _ h => congrArg Bool.not h | (intro _ h; simp [gpick, h]; done) | (dsimp only; omega) | (simp only [List.length_map]; done) | (simp only [List.length_map, List.length_append, List.length_cons, List.length_nil, Int.toNat_natCast]; omega) | (intro h1 h2; rw [h1, h2]; rfl)) | ((fail_if_success (with_reducible refine Side.mk ?_)); constructor))
  · exact rfl
  refine Trip.seq ?_
  apply Trip.reg tblOk
  · repeat' (first | exact rfl | exact idx_map _ _ _ (by show _ < _; first | omega | (simp only [List.length_map] at *; omega)) | ((first | with_reducible refine bok ?_ | with_reducible refine bokL ?_ | with_reducible refine bokR ?_ | with_reducible refine Side.mk ?_); first | omega | exact .inl rfl | exact .inr ⟨rfl, rfl, rfl⟩ | exact fun h => h | exact fun _ h => h | exact fun _ h => congrArg Bool.not h | (intro _ h; simp [gpick, h]; done) | (dsimp only; omega) | (simp only [List.length_map]; done) | (simp only [List.length_map, List.length_append, List.length_cons, List.length_nil, Int.toNat_natCast]; omega) | (intro h1 h2; rw [h1, h2]; rfl)) | ((fail_if_success (with_reducible refine Side.mk ?_)); constructor))
  · exact rfl
  refine Trip.seq ?_
  refine Trip.seq ?_
  apply Trip.reg tblOk
  · repeat' (first | exact rfl | exact idx_map _ _ _ (by show _ < _; first | omega | (simp only [List.length_map] at *; omega)) | ((first | with_reducible refine bok ?_ | with_reducible refine bokL ?_ | with_reducible refine bokR ?_ | with_reducible refine Side.mk ?_); first | omega | exact .inl rfl | exact .inr ⟨rfl, rfl, rfl⟩ | exact fun h => h | exact fun _ h => h | exact fun _ h => congrArg Bool.not h | (intro _ h; simp [gpick, h]; done) | (dsimp only; omega) | (simp only [List.length_map]; done) | (simp only [List.length_map, List.length_append, List.length_cons, List.length_nil, Int.toNat_natCast]; omega) | (intro h1 h2; rw [h1, h2]; rfl)) | ((fail_if_success (with_reducible refine Side.mk ?_)); constructor))
  · exact rfl
  refine Trip.block ?_
  apply Trip.loop (fun (i : Nat) => ⟨[(1, .ref 1 0), (3, iV (lg fs i)), (4, iV i)], [(1, .box (diskCells nl fs left off))]⟩) (fun (i : Nat) => i ≤ fs.length ∧ i ≤ 200) (fun i => fs.length - i) (0)
  · omega
  · apply Weak.keep
    · exact rfl
    · repeat' (first | exact rfl | (refine vI ?_; simp [lg]; done) | (refine vI ?_; first | omega | (simp; done) | (simp; omega) | (simp only [List.length_map] at *; omega)) | constructor)
    · repeat' (first | exact rfl | (refine vI ?_; simp [lg]; done) | (refine vI ?_; first | omega | (simp; done) | (simp; omega) | (simp only [List.length_map] at *; omega)) | constructor)
    · exact rfl
    · repeat' (first | exact rfl | (refine vI ?_; simp [lg]; done) | constructor)
  intro i ⟨hi, hi2⟩
  have hl := lg_bd fs hs i hi
  refine Trip.seq ?_
  refine Trip.seq ?_
  apply Trip.reg tblOk
  · repeat' (first | exact rfl | exact idx_map _ _ _ (by show _ < _; first | omega | (simp only [List.length_map] at *; omega)) | ((first | with_reducible refine bok ?_ | with_reducible refine bokL ?_ | with_reducible refine bokR ?_ | with_reducible refine Side.mk ?_); first | omega | exact .inl rfl | exact .inr ⟨rfl, rfl, rfl⟩ | exact fun h => h | exact fun _ h => h | exact fun _ h => congrArg Bool.not h | (intro _ h; simp [gpick, h]; done) | (dsimp only; omega) | (simp only [List.length_map]; done) | (simp only [List.length_map, List.length_append, List.length_cons, List.length_nil, Int.toNat_natCast]; omega) | (intro h1 h2; rw [h1, h2]; rfl)) | ((fail_if_success (with_reducible refine Side.mk ?_)); constructor))
  · exact rfl
  apply Trip.cond (.tmp rfl)
  · intro h
    simp only [List.length_map, Bool.and_eq_true, decide_eq_true_eq] at h
    have h1 := hs (fs[i]!) (by rw [getElem!_pos fs i (by omega)]; exact List.getElem_mem _)
    refine Trip.skip ?_
    refine Trip.seq ?_
    refine Trip.block ?_
    apply Trip.reg tblOk
    · repeat' (first | exact rfl | exact idx_map _ _ _ (by show _ < _; first | omega | (simp only [List.length_map] at *; omega)) | ((first | with_reducible refine bok ?_ | with_reducible refine bokL ?_ | with_reducible refine bokR ?_ | with_reducible refine Side.mk ?_); first | omega | exact .inl rfl | exact .inr ⟨rfl, rfl, rfl⟩ | exact fun h => h | exact fun _ h => h | exact fun _ h => congrArg Bool.not h | (intro _ h; simp [gpick, h]; done) | (dsimp only; omega) | (simp only [List.length_map]; done) | (simp only [List.length_map, List.length_append, List.length_cons, List.length_nil, Int.toNat_natCast]; omega) | (intro h1 h2; rw [h1, h2]; rfl)) | ((fail_if_success (with_reducible refine Side.mk ?_)); constructor))
    · exact rfl
    apply Trip.reg tblOk
    · repeat' (first | exact rfl | exact idx_map _ _ _ (by show _ < _; first | omega | (simp only [List.length_map] at *; omega)) | ((first | with_reducible refine bok ?_ | with_reducible refine bokL ?_ | with_reducible refine bokR ?_ | with_reducible refine Side.mk ?_); first | omega | exact .inl rfl | exact .inr ⟨rfl, rfl, rfl⟩ | exact fun h => h | exact fun _ h => h | exact fun _ h => congrArg Bool.not h | (intro _ h; simp [gpick, h]; done) | (dsimp only; omega) | (simp only [List.length_map]; done) | (simp only [List.length_map, List.length_append, List.length_cons, List.length_nil, Int.toNat_natCast]; omega) | (intro h1 h2; rw [h1, h2]; rfl)) | ((fail_if_success (with_reducible refine Side.mk ?_)); constructor))
    · exact rfl
    refine ⟨i + 1, ?_, ?_, ?_⟩
    · first | omega | (dsimp only at *; omega)
    · first | omega | (dsimp only at *; omega)
    · apply Weak.keep
      · exact rfl
      · repeat' (first | exact rfl | (refine vI ?_; first | omega | (simp; done) | (simp; omega) | (simp only [List.length_map] at *; omega)) | constructor)
      · repeat' (first | exact rfl | (refine vI ?_; first | omega | (simp; done) | (simp; omega) | (simp only [List.length_map] at *; omega)) | constructor)
      · exact rfl
      · repeat' (first | exact rfl | constructor)
  · intro h
    simp only [List.length_map, Bool.and_eq_false_iff, decide_eq_false_iff_not] at h
    have e : min fs.length 200 = i := by omega
    have e2 : large fs = decide (400 < lg fs i) := by simp only [large, e]
    rw [e2]
    refine Trip.exit ?_
    refine Trip.seq ?_
    apply Trip.reg tblOk
    · repeat' (first | exact rfl | exact idx_map _ _ _ (by show _ < _; first | omega | (simp only [List.length_map] at *; omega)) | ((first | with_reducible refine bok ?_ | with_reducible refine bokL ?_ | with_reducible refine bokR ?_ | with_reducible refine Side.mk ?_); first | omega | exact .inl rfl | exact .inr ⟨rfl, rfl, rfl⟩ | exact fun h => h | exact fun _ h => h | exact fun _ h => congrArg Bool.not h | (intro _ h; simp [gpick, h]; done) | (dsimp only; omega) | (simp only [List.length_map]; done) | (simp only [List.length_map, List.length_append, List.length_cons, List.length_nil, Int.toNat_natCast]; omega) | (intro h1 h2; rw [h1, h2]; rfl)) | ((fail_if_success (with_reducible refine Side.mk ?_)); constructor))
    · exact rfl
    refine Trip.ret ?_
    apply Ret1 []
    · repeat' (first | exact rfl | constructor)
    · exact rfl
    · repeat' (first | exact rfl | constructor)
end Go.Proofs.Try
