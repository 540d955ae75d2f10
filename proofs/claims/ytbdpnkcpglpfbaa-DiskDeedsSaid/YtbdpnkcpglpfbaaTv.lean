/- Crash of the reference. -/
import Derived.Test.YtbdpnkcpglpfbaaTu
namespace Go.Proofs.Try
open Go Go.Sym

set_option maxRecDepth 4000 in
set_option maxHeartbeats 1000000 in
theorem cCrash2 (d : Disk) (kn : Bool) (keep : List Int) (left : Int) (hb : d.fs.length ≤ 1000000000) :
    Ctr prog 13 [d.pv, .sl kn 1 (keep.map iV), iV left] [] (crash d keep left).pv [] [] := by
  have c0 : Ctr prog 15 [iV left] [] (D true [] (max (-1) left) (decide (max (-1) left = 0))) [] [] := by rw [show max (-1) left = max left (-1) by omega]; exact cNew2 left
  have c1 := cRight d.nl d.fs d.left d.off
  have hg : crash d keep left = if right d.fs d.left d.off then ⟨(crN keep d.fs d.fs.length).2.isEmpty, (crN keep d.fs d.fs.length).2, max (-1) left, decide (max (-1) left = 0)⟩ else ⟨true, [], max (-1) left, decide (max (-1) left = 0)⟩ := rfl
  have hrt := @right_ok d.fs d.left d.off
  generalize max (-1) left = lf at *
  generalize decide (lf = 0) = of at *
  generalize right d.fs d.left d.off = rt at *
  obtain ⟨nl, fs, left0, off0⟩ := d
  dsimp only at *
  refine Ctr.enter tblOk func13 rfl (by decide) rfl (nt := 73) rfl rfl rfl rfl ?_
  refine Trip.seq ?_
  apply Trip.reg tblOk
  · repeat' (first | exact rfl | exact idx_map _ _ _ (by show _ < _; first | omega | (simp only [List.length_map] at *; omega)) | ((first | with_reducible refine bok ?_ | with_reducible refine bokL ?_ | with_reducible refine bokR ?_ | with_reducible refine Side.mk ?_); first | omega | exact .inl rfl | exact .inr ⟨rfl, rfl, rfl⟩ | exact fun h => h | exact fun _ h => h | exact fun _ h => congrArg Bool.not h | (intro _ h; simp [gpick, h]; done) | (dsimp only; omega) | (simp only [List.length_map]; done) | (simp only [List.length_map, List.length_append, List.length_cons, List.length_nil, Int.toNat_natCast]; omega) | (intro h1 h2; rw [h1, h2]; rfl)) | ((fail_if_success (with_reducible refine Side.mk ?_)); constructor))
  · exact rfl
  refine Trip.seq ?_
  apply Trip.reg tblOk
  · repeat' (first | exact rfl | (apply Rule.sem; intro hγ; with_reducible apply F_call (x := .func 15) (σ := []) (B := []) (news := []) hγ (hspec := c0)) | exact idx_map _ _ _ (by show _ < _; first | omega | (simp only [List.length_map] at *; omega)) | ((first | with_reducible refine bok ?_ | with_reducible refine bokL ?_ | with_reducible refine bokR ?_ | with_reducible refine Side.mk ?_); first | omega | exact .inl rfl | exact .inr ⟨rfl, rfl, rfl⟩ | exact fun h => h | exact fun _ h => h | exact fun _ h => congrArg Bool.not h | (intro _ h; simp [gpick, h]; done) | (dsimp only; omega) | (simp only [List.length_map]; done) | (simp only [List.length_map, List.length_append, List.length_cons, List.length_nil, Int.toNat_natCast]; omega) | (intro h1 h2; rw [h1, h2]; rfl)) | ((fail_if_success (with_reducible refine Side.mk ?_)); constructor))
  · exact rfl
  refine Trip.seq ?_
  refine Trip.seq ?_
  apply Trip.reg tblOk
  · repeat' (first | exact rfl | (apply Rule.sem; intro hγ; with_reducible apply F_call (x := .func 11) (σ := []) (B := []) (news := []) hγ (hspec := c1)) | exact idx_map _ _ _ (by show _ < _; first | omega | (simp only [List.length_map] at *; omega)) | ((first | with_reducible refine bok ?_ | with_reducible refine bokL ?_ | with_reducible refine bokR ?_ | with_reducible refine Side.mk ?_); first | omega | exact .inl rfl | exact .inr ⟨rfl, rfl, rfl⟩ | exact fun h => h | exact fun _ h => h | exact fun _ h => congrArg Bool.not h | (intro _ h; simp [gpick, h]; done) | (dsimp only; omega) | (simp only [List.length_map]; done) | (simp only [List.length_map, List.length_append, List.length_cons, List.length_nil, Int.toNat_natCast]; omega) | (intro h1 h2; rw [h1, h2]; rfl)) | ((fail_if_success (with_reducible refine Side.mk ?_)); constructor))
  · exact rfl
  apply Trip.cond (.tmp rfl)
  · intro h
    have h : rt = false := by simpa using h
    subst h
    have e : crash ⟨nl, fs, left0, off0⟩ keep left = ⟨true, [], lf, of⟩ := hg
    rw [e]
    refine Trip.seq ?_
    apply Trip.reg tblOk
    · repeat' (first | exact rfl | exact idx_map _ _ _ (by show _ < _; first | omega | (simp only [List.length_map] at *; omega)) | ((first | with_reducible refine bok ?_ | with_reducible refine bokL ?_ | with_reducible refine bokR ?_ | with_reducible refine Side.mk ?_); first | omega | exact .inl rfl | exact .inr ⟨rfl, rfl, rfl⟩ | exact fun h => h | exact fun _ h => h | exact fun _ h => congrArg Bool.not h | (intro _ h; simp [gpick, h]; done) | (dsimp only; omega) | (simp only [List.length_map]; done) | (simp only [List.length_map, List.length_append, List.length_cons, List.length_nil, Int.toNat_natCast]; omega) | (intro h1 h2; rw [h1, h2]; rfl)) | ((fail_if_success (with_reducible refine Side.mk ?_)); constructor))
    · exact rfl
    refine Trip.ret ?_
    apply Ret1 []
    · repeat' (first | exact rfl | constructor)
    · exact rfl
    · repeat' (first | exact rfl | constructor)
  intro h
  have h : rt = true := by simpa using h
  subst h
  rw [hg, if_pos rfl]
  have hok := hrt rfl
  refine Trip.skip ?_
  refine Trip.seq ?_
  apply Trip.reg tblOk
  · repeat' (first | exact rfl | exact idx_map _ _ _ (by show _ < _; first | omega | (simp only [List.length_map] at *; omega)) | ((first | with_reducible refine bok ?_ | with_reducible refine bokL ?_ | with_reducible refine bokR ?_ | with_reducible refine Side.mk ?_); first | omega | exact .inl rfl | exact .inr ⟨rfl, rfl, rfl⟩ | exact fun h => h | exact fun _ h => h | exact fun _ h => congrArg Bool.not h | (intro _ h; simp [gpick, h]; done) | (dsimp only; omega) | (simp only [List.length_map]; done) | (simp only [List.length_map, List.length_append, List.length_cons, List.length_nil, Int.toNat_natCast]; omega) | (intro h1 h2; rw [h1, h2]; rfl)) | ((fail_if_success (with_reducible refine Side.mk ?_)); constructor))
  · exact rfl
  refine Trip.seq ?_
  refine Trip.seq ?_
  apply Trip.reg tblOk
  · repeat' (first | exact rfl | exact idx_map _ _ _ (by show _ < _; first | omega | (simp only [List.length_map] at *; omega)) | ((first | with_reducible refine bok ?_ | with_reducible refine bokL ?_ | with_reducible refine bokR ?_ | with_reducible refine Side.mk ?_); first | omega | exact .inl rfl | exact .inr ⟨rfl, rfl, rfl⟩ | exact fun h => h | exact fun _ h => h | exact fun _ h => congrArg Bool.not h | (intro _ h; simp [gpick, h]; done) | (dsimp only; omega) | (simp only [List.length_map]; done) | (simp only [List.length_map, List.length_append, List.length_cons, List.length_nil, Int.toNat_natCast]; omega) | (intro h1 h2; rw [h1, h2]; rfl)) | ((fail_if_success (with_reducible refine Side.mk ?_)); constructor))
  · exact rfl
  refine Trip.block ?_
  apply Trip.loop (fun (i : Nat) => ⟨[(1, .sl kn 1 (keep.map iV)), (6, .ref 6 0), (7, .ref 7 0), (8, iV (crN keep fs i).1), (3, .ref 3 0), (9, iV i)], [(900, .arr 3 (crN keep fs i).2.isEmpty ((crN keep fs i).2.map File.pv)), (3, .box (diskCells nl fs left0 off0)), (6, .box [nilS, iV 0, bV false]), (7, .box [.osl 900 0 i i, iV lf, bV of])]⟩) (fun (i : Nat) => i ≤ fs.length) (fun (i : Nat) => fs.length - i) (0)
  · first | omega | (simp; done)
  · refine Weak.trans (S2 := ⟨[(1, .sl kn 1 (keep.map iV)), (6, .ref 6 0), (7, .ref 7 0), (8, iV 0), (3, .ref 3 0), (9, iV 0)], [(3, .box (diskCells nl fs left0 off0)), (6, .box [nilS, iV 0, bV false]), (7, .box [.sl true 3 [], iV lf, bV of])]⟩) ?_ ?_
    · apply Weak.keep
      · exact rfl
      · repeat' (first | exact rfl | (refine vI ?_; first | omega | (simp; done) | (simp; omega) | (simp only [List.length_map] at *; omega)) | constructor)
      · repeat' (first | exact rfl | (refine vI ?_; first | omega | (simp; done) | (simp; omega) | (simp only [List.length_map] at *; omega)) | constructor)
      · exact rfl
      · repeat' (first | exact rfl | constructor)
    · exact Weak.adopt 900 3 rfl rfl (by repeat' (first | exact rfl | constructor)) (by repeat' (first | exact rfl | constructor))
  intro i hi
  obtain ⟨hn1, hn2⟩ := crN_bd keep fs i
  refine Trip.seq ?_
  refine Trip.seq ?_
  apply Trip.reg tblOk
  · repeat' (first | exact rfl | exact idx_map _ _ _ (by show _ < _; first | omega | (simp only [List.length_map] at *; omega)) | ((first | with_reducible refine bok ?_ | with_reducible refine bokL ?_ | with_reducible refine bokR ?_ | with_reducible refine Side.mk ?_); first | omega | exact .inl rfl | exact .inr ⟨rfl, rfl, rfl⟩ | exact fun h => h | exact fun _ h => h | exact fun _ h => congrArg Bool.not h | (intro _ h; simp [gpick, h]; done) | (dsimp only; omega) | (simp only [List.length_map]; done) | (simp only [List.length_map, List.length_append, List.length_cons, List.length_nil, Int.toNat_natCast]; omega) | (intro h1 h2; rw [h1, h2]; rfl)) | ((fail_if_success (with_reducible refine Side.mk ?_)); constructor))
  · exact rfl
  apply Trip.cond (.tmp rfl)
  · intro h
    have h : i < fs.length := by simpa using h
    obtain ⟨k1, k2, k3⟩ := okAt_bd (hok i h)
    have hsu : crN keep fs (i + 1) = crStep keep (crN keep fs i) fs[i]! := rfl
    have hml := crM_bd keep (crN keep fs i).1 (((fs[i]!).data.length : Int) - (fs[i]!).synced)
    have hmd : crM keep (crN keep fs i).1 (((fs[i]!).data.length : Int) - (fs[i]!).synced) = if (crN keep fs i).1 < keep.length then max 0 (min (((fs[i]!).data.length : Int) - (fs[i]!).synced) keep[(crN keep fs i).1]!) else 0 := rfl
    simp only [crStep] at hsu
    generalize crM keep (crN keep fs i).1 (((fs[i]!).data.length : Int) - (fs[i]!).synced) = m at *
    generalize crN keep fs i = s at *
    obtain ⟨a, out⟩ := s
    dsimp only at *
    generalize hf : fs[i]! = f at *
    have hfi : (fs.map File.pv)[(i : Int).toNat]? = some f.pv := by rw [← hf]; exact idx_map _ _ _ h
    refine Trip.skip ?_
    refine Trip.seq ?_
    refine Trip.block ?_
    refine Trip.seq ?_
    apply Trip.reg tblOk
    · repeat' (first | exact rfl | exact hfi | exact idx_map _ _ _ (by show _ < _; first | omega | (simp only [List.length_map] at *; omega)) | ((first | with_reducible refine bok ?_ | with_reducible refine bokL ?_ | with_reducible refine bokR ?_ | with_reducible refine Side.mk ?_); first | omega | exact .inl rfl | exact .inr ⟨rfl, rfl, rfl⟩ | exact fun h => h | exact fun _ h => h | exact fun _ h => congrArg Bool.not h | (intro _ h; simp [gpick, h]; done) | (dsimp only; omega) | (simp only [List.length_map]; done) | (simp only [List.length_map, List.length_append, List.length_cons, List.length_nil, Int.toNat_natCast]; omega) | (intro h1 h2; rw [h1, h2]; rfl)) | ((fail_if_success (with_reducible refine Side.mk ?_)); constructor))
    · exact rfl
    apply Trip.regk ⟨[(1, .sl kn 1 (keep.map iV)), (6, .ref 6 0), (7, .ref 7 0), (8, iV a), (10, .ref 10 0), (11, iV 0), (3, .ref 3 0), (9, iV i)], [(3, .box (diskCells nl fs left0 off0)), (10, .box f.pv.cells), (900, .arr 3 out.isEmpty (out.map File.pv)), (6, .box [nilS, iV 0, bV false]), (7, .box [.osl 900 0 i i, iV lf, bV of])]⟩ tblOk
    · repeat' (first | exact rfl | exact idx_map _ _ _ (by show _ < _; first | omega | (simp only [List.length_map] at *; omega)) | ((first | with_reducible refine bok ?_ | with_reducible refine bokL ?_ | with_reducible refine bokR ?_ | with_reducible refine Side.mk ?_); first | omega | exact .inl rfl | exact .inr ⟨rfl, rfl, rfl⟩ | exact fun h => h | exact fun _ h => h | exact fun _ h => congrArg Bool.not h | (intro _ h; simp [gpick, h]; done) | (dsimp only; omega) | (simp only [List.length_map]; done) | (simp only [List.length_map, List.length_append, List.length_cons, List.length_nil, Int.toNat_natCast]; omega) | (intro h1 h2; rw [h1, h2]; rfl)) | ((fail_if_success (with_reducible refine Side.mk ?_)); constructor))
    · exact rfl
    · apply Weak.keep
      · exact rfl
      · repeat' (first | exact rfl | exact plainFs _ | (refine vI ?_; first | omega | (simp; done) | (simp; omega) | (simp only [List.length_map] at *; omega)) | constructor)
      · repeat' (first | exact rfl | exact plainFs _ | (refine vI ?_; first | omega | (simp; done) | (simp; omega) | (simp only [List.length_map] at *; omega)) | constructor)
      · exact rfl
      · repeat' (first | exact rfl | exact plainFs _ | constructor)
    refine Trip.seqk ⟨[(1, .sl kn 1 (keep.map iV)), (6, .ref 6 0), (7, .ref 7 0), (8, iV (crN keep fs (i + 1)).1), (10, .ref 10 0), (11, iV (if 0 < (f.data.length : Int) - f.synced then m else 0)), (3, .ref 3 0), (9, iV i)], [(3, .box (diskCells nl fs left0 off0)), (10, .box f.pv.cells), (900, .arr 3 out.isEmpty (out.map File.pv)), (6, .box [nilS, iV 0, bV false]), (7, .box [.osl 900 0 i i, iV lf, bV of])]⟩ ?_ ?_
    · refine Trip.seq ?_
      apply Trip.reg tblOk
      · repeat' (first | exact rfl | exact idx_map _ _ _ (by show _ < _; first | omega | (simp only [List.length_map] at *; omega)) | ((first | with_reducible refine bok ?_ | with_reducible refine bokL ?_ | with_reducible refine bokR ?_ | with_reducible refine Side.mk ?_); first | omega | exact .inl rfl | exact .inr ⟨rfl, rfl, rfl⟩ | exact fun h => h | exact fun _ h => h | exact fun _ h => congrArg Bool.not h | (intro _ h; simp [gpick, h]; done) | (dsimp only; omega) | (simp only [List.length_map]; done) | (simp only [List.length_map, List.length_append, List.length_cons, List.length_nil, Int.toNat_natCast]; omega) | (intro h1 h2; rw [h1, h2]; rfl)) | ((fail_if_success (with_reducible refine Side.mk ?_)); constructor))
      · exact rfl
      apply Trip.cond (.tmp rfl)
      · intro hmore
        have hmore : f.synced < (f.data.length : Int) := by simpa using hmore
        have hmore : 0 < (f.data.length : Int) - f.synced := by omega
        have hm2 := hml hmore
        rw [if_pos hmore] at hsu
        rw [if_pos hmore, hsu]
        dsimp only
        refine Trip.seqk ⟨[(1, .sl kn 1 (keep.map iV)), (6, .ref 6 0), (7, .ref 7 0), (8, iV a), (10, .ref 10 0), (11, iV m), (3, .ref 3 0), (9, iV i)], [(3, .box (diskCells nl fs left0 off0)), (10, .box f.pv.cells), (900, .arr 3 out.isEmpty (out.map File.pv)), (6, .box [nilS, iV 0, bV false]), (7, .box [.osl 900 0 i i, iV lf, bV of])]⟩ ?_ ?_
        · refine Trip.seq ?_
          apply Trip.reg tblOk
          · repeat' (first | exact rfl | exact idx_map _ _ _ (by show _ < _; first | omega | (simp only [List.length_map] at *; omega)) | ((first | with_reducible refine bok ?_ | with_reducible refine bokL ?_ | with_reducible refine bokR ?_ | with_reducible refine Side.mk ?_); first | omega | exact .inl rfl | exact .inr ⟨rfl, rfl, rfl⟩ | exact fun h => h | exact fun _ h => h | exact fun _ h => congrArg Bool.not h | (intro _ h; simp [gpick, h]; done) | (dsimp only; omega) | (simp only [List.length_map]; done) | (simp only [List.length_map, List.length_append, List.length_cons, List.length_nil, Int.toNat_natCast]; omega) | (intro h1 h2; rw [h1, h2]; rfl)) | ((fail_if_success (with_reducible refine Side.mk ?_)); constructor))
          · exact rfl
          apply Trip.cond (.tmp rfl)
          · intro hk
            have hk : a < keep.length := by simpa using hk
            rw [if_pos hk] at hmd
            apply Trip.drw tblOk mixed
            · repeat' (first | exact rfl | (apply Rule.sem; intro hγ; with_reducible apply F_max hγ) | (apply Rule.sem; intro hγ; with_reducible apply F_min hγ) | exact getI _ _ hk | exact idx_map _ _ _ (by show _ < _; first | omega | (simp only [List.length_map] at *; omega)) | ((first | with_reducible refine bok ?_ | with_reducible refine bokL ?_ | with_reducible refine bokR ?_ | with_reducible refine Side.mk ?_); first | omega | exact .inl rfl | exact .inr ⟨rfl, rfl, rfl⟩ | exact fun h => h | exact fun _ h => h | exact fun _ h => congrArg Bool.not h | (intro _ h; simp [gpick, h]; done) | (dsimp only; omega) | (simp only [List.length_map]; done) | (simp only [List.length_map, List.length_append, List.length_cons, List.length_nil, Int.toNat_natCast]; omega) | (intro h1 h2; rw [h1, h2]; rfl)) | ((fail_if_success (with_reducible refine Side.mk ?_)); constructor))
            · exact rfl
            · kernel_rfl
            apply Weak.keep
            · exact rfl
            · repeat' (first | exact rfl | exact plainFs _ | (refine vI ?_; simp only [Int.toNat_natCast]; omega) | (refine vI ?_; first | omega | (simp; done) | (simp; omega) | (simp only [List.length_map] at *; omega)) | constructor)
            · repeat' (first | exact rfl | exact plainFs _ | (refine vI ?_; simp only [Int.toNat_natCast]; omega) | (refine vI ?_; first | omega | (simp; done) | (simp; omega) | (simp only [List.length_map] at *; omega)) | constructor)
            · exact rfl
            · repeat' (first | exact rfl | exact plainFs _ | (refine vI ?_; simp only [Int.toNat_natCast]; omega) | constructor)
          · intro hk
            have hk : ¬ a < keep.length := by simpa using hk
            rw [if_neg hk] at hmd
            rw [hmd]
            refine Trip.skip ?_
            apply Weak.keep
            · exact rfl
            · repeat' (first | exact rfl | exact plainFs _ | (refine vI ?_; first | omega | (simp; done) | (simp; omega) | (simp only [List.length_map] at *; omega)) | constructor)
            · repeat' (first | exact rfl | exact plainFs _ | (refine vI ?_; first | omega | (simp; done) | (simp; omega) | (simp only [List.length_map] at *; omega)) | constructor)
            · exact rfl
            · repeat' (first | exact rfl | exact plainFs _ | constructor)
        apply Trip.reg tblOk
        · repeat' (first | exact rfl | exact idx_map _ _ _ (by show _ < _; first | omega | (simp only [List.length_map] at *; omega)) | ((first | with_reducible refine bok ?_ | with_reducible refine bokL ?_ | with_reducible refine bokR ?_ | with_reducible refine Side.mk ?_); first | omega | exact .inl rfl | exact .inr ⟨rfl, rfl, rfl⟩ | exact fun h => h | exact fun _ h => h | exact fun _ h => congrArg Bool.not h | (intro _ h; simp [gpick, h]; done) | (dsimp only; omega) | (simp only [List.length_map]; done) | (simp only [List.length_map, List.length_append, List.length_cons, List.length_nil, Int.toNat_natCast]; omega) | (intro h1 h2; rw [h1, h2]; rfl)) | ((fail_if_success (with_reducible refine Side.mk ?_)); constructor))
        · exact rfl
        apply Weak.keep
        · exact rfl
        · repeat' (first | exact rfl | exact plainFs _ | (refine vI ?_; first | omega | (simp; done) | (simp; omega) | (simp only [List.length_map] at *; omega)) | constructor)
        · repeat' (first | exact rfl | exact plainFs _ | (refine vI ?_; first | omega | (simp; done) | (simp; omega) | (simp only [List.length_map] at *; omega)) | constructor)
        · exact rfl
        · repeat' (first | exact rfl | exact plainFs _ | constructor)
      · intro hmore
        have hmore : ¬ f.synced < (f.data.length : Int) := by simpa using hmore
        have hmore : ¬ 0 < (f.data.length : Int) - f.synced := by omega
        rw [if_neg hmore] at hsu
        rw [if_neg hmore, hsu]
        refine Trip.skip ?_
        apply Weak.keep
        · exact rfl
        · repeat' (first | exact rfl | exact plainFs _ | (refine vI ?_; first | omega | (simp; done) | (simp; omega) | (simp only [List.length_map] at *; omega)) | constructor)
        · repeat' (first | exact rfl | exact plainFs _ | (refine vI ?_; first | omega | (simp; done) | (simp; omega) | (simp only [List.length_map] at *; omega)) | constructor)
        · exact rfl
        · repeat' (first | exact rfl | exact plainFs _ | constructor)
    have e1 : (crN keep fs (i + 1)).2 = out ++ [crFile f (if 0 < (f.data.length : Int) - f.synced then m else 0)] := by
      rw [hsu]
      by_cases hmore : 0 < (f.data.length : Int) - f.synced
      · simp only [if_pos hmore]
      · have e : (f.synced + 0).toNat = f.data.length := by omega
        simp only [if_neg hmore, crFile, e, List.take_length]
    have hmb : 0 ≤ (if 0 < (f.data.length : Int) - f.synced then m else 0) ∧ f.synced + (if 0 < (f.data.length : Int) - f.synced then m else 0) ≤ f.data.length := by
      split
      · rename_i hmore; have := hml hmore; omega
      · omega
    generalize (if 0 < (f.data.length : Int) - f.synced then m else 0) = m2 at *
    have e2 := snocF true out (crFile f m2)
    have e3 : PV.osl 900 0 (out.map File.pv ++ [(crFile f m2).pv]).length (out.map File.pv ++ [(crFile f m2).pv]).length = .osl 900 0 (i + 1) (i + 1) := oslEq (by rw [List.length_append, List.length_map, hn2]; rfl)
    refine Trip.seq ?_
    apply Trip.reg tblOk
    · repeat' (first | exact rfl | exact idx_map _ _ _ (by show _ < _; first | omega | (simp only [List.length_map] at *; omega)) | ((first | with_reducible refine bok ?_ | with_reducible refine bokL ?_ | with_reducible refine bokR ?_ | with_reducible refine Side.mk ?_); first | omega | exact .inl rfl | exact .inr ⟨rfl, rfl, rfl⟩ | exact fun h => h | exact fun _ h => h | exact fun _ h => congrArg Bool.not h | (intro _ h; simp [gpick, h]; done) | (dsimp only; omega) | (simp only [List.length_map]; done) | (simp only [List.length_map, List.length_append, List.length_cons, List.length_nil, Int.toNat_natCast]; omega) | (intro h1 h2; rw [h1, h2]; rfl)) | ((fail_if_success (with_reducible refine Side.mk ?_)); constructor))
    · exact rfl
    refine Trip.seq ?_
    apply Trip.reg tblOk
    · repeat' (first | exact rfl | exact idx_map _ _ _ (by show _ < _; first | omega | (simp only [List.length_map] at *; omega)) | ((first | with_reducible refine bok ?_ | with_reducible refine bokL ?_ | with_reducible refine bokR ?_ | with_reducible refine Side.mk ?_); first | omega | exact .inl rfl | exact .inr ⟨rfl, rfl, rfl⟩ | exact fun h => h | exact fun _ h => h | exact fun _ h => congrArg Bool.not h | (intro _ h; simp [gpick, h]; done) | (dsimp only; omega) | (simp only [List.length_map]; done) | (simp only [List.length_map, List.length_append, List.length_cons, List.length_nil, Int.toNat_natCast]; omega) | (intro h1 h2; rw [h1, h2]; rfl)) | ((fail_if_success (with_reducible refine Side.mk ?_)); constructor))
    · exact rfl
    apply Trip.reg tblOk
    · repeat' (first | exact rfl | exact idx_map _ _ _ (by show _ < _; first | omega | (simp only [List.length_map] at *; omega)) | ((first | with_reducible refine bok ?_ | with_reducible refine bokL ?_ | with_reducible refine bokR ?_ | with_reducible refine Side.mk ?_); first | omega | exact .inl rfl | exact .inr ⟨rfl, rfl, rfl⟩ | exact fun h => h | exact fun _ h => h | exact fun _ h => congrArg Bool.not h | (intro _ h; simp [gpick, h]; done) | (dsimp only; omega) | (simp only [List.length_map]; done) | (simp only [List.length_map, List.length_append, List.length_cons, List.length_nil, Int.toNat_natCast]; omega) | (intro h1 h2; rw [h1, h2]; rfl) | exact okFs [crFile f m2] | (rw [List.length_map]; exact hn2.symm) | (simp only [List.length_map, List.length_cons, List.length_nil, hn2]; omega)) | ((fail_if_success (with_reducible refine Side.mk ?_)); constructor))
    · exact rfl
    apply Trip.reg tblOk
    · repeat' (first | exact rfl | exact idx_map _ _ _ (by show _ < _; first | omega | (simp only [List.length_map] at *; omega)) | ((first | with_reducible refine bok ?_ | with_reducible refine bokL ?_ | with_reducible refine bokR ?_ | with_reducible refine Side.mk ?_); first | omega | exact .inl rfl | exact .inr ⟨rfl, rfl, rfl⟩ | exact fun h => h | exact fun _ h => h | exact fun _ h => congrArg Bool.not h | (intro _ h; simp [gpick, h]; done) | (dsimp only; omega) | (simp only [List.length_map]; done) | (simp only [List.length_map, List.length_append, List.length_cons, List.length_nil, Int.toNat_natCast]; omega) | (intro h1 h2; rw [h1, h2]; rfl)) | ((fail_if_success (with_reducible refine Side.mk ?_)); constructor))
    · exact rfl
    refine ⟨i + 1, ?_, ?_, ?_⟩
    · first | omega | (dsimp only at *; omega)
    · first | omega | (dsimp only at *; omega)
    · apply Weak.keep
      · exact rfl
      · repeat' (first | exact rfl | (rw [e1]; exact e2) | (exact congrArg (fun x => SObj.box [x, iV lf, bV of]) e3) | exact plainFs _ | (refine vI ?_; first | omega | (simp; done) | (simp; omega) | (simp only [List.length_map] at *; omega)) | constructor)
      · repeat' (first | exact rfl | (rw [e1]; exact e2) | (exact congrArg (fun x => SObj.box [x, iV lf, bV of]) e3) | exact plainFs _ | (refine vI ?_; first | omega | (simp; done) | (simp; omega) | (simp only [List.length_map] at *; omega)) | constructor)
      · exact rfl
      · repeat' (first | exact rfl | (rw [e1]; exact e2) | (exact congrArg (fun x => SObj.box [x, iV lf, bV of]) e3) | exact plainFs _ | constructor)
  · intro h
    have h : i = fs.length := by simp at h; omega
    subst h
    refine Trip.exit ?_
    have e4 : PV.osl 900 0 fs.length fs.length = .osl 900 0 ((crN keep fs fs.length).2.map File.pv).length ((crN keep fs fs.length).2.map File.pv).length := by rw [List.length_map, hn2]
    refine Trip.seq ?_
    apply Trip.reg tblOk
    · repeat' (first | exact rfl | exact idx_map _ _ _ (by show _ < _; first | omega | (simp only [List.length_map] at *; omega)) | ((first | with_reducible refine bok ?_ | with_reducible refine bokL ?_ | with_reducible refine bokR ?_ | with_reducible refine Side.mk ?_); first | omega | exact .inl rfl | exact .inr ⟨rfl, rfl, rfl⟩ | exact fun h => h | exact fun _ h => h | exact fun _ h => congrArg Bool.not h | (intro _ h; simp [gpick, h]; done) | (dsimp only; omega) | (simp only [List.length_map]; done) | (simp only [List.length_map, List.length_append, List.length_cons, List.length_nil, Int.toNat_natCast]; omega) | (intro h1 h2; rw [h1, h2]; rfl)) | ((fail_if_success (with_reducible refine Side.mk ?_)); constructor))
    · exact rfl
    rw [e4]
    refine Trip.ret ?_
    apply Ret1 [900]
    · repeat' (first | exact rfl | (with_reducible apply LoadR.refA) | constructor)
    · exact rfl
    · repeat' (first | exact rfl | exact plainFs _ | (refine Side.mk ?_; simp; done) | constructor)
end Go.Proofs.Try
