/- Crash, of both texts. -/
import Derived.Test.YtbdpnkcpglpfbaaTt
namespace Go.Proofs.Try
open Go Go.Sym

def crM (keep : List Int) (a : Nat) (more : Int) : Int := if a < keep.length then max 0 (min more keep[a]!) else 0
def crFile (f : File) (m : Int) : File := ⟨f.name, f.data.take (f.synced + m).toNat, (f.data.take (f.synced + m).toNat).length⟩
def crStep (keep : List Int) (s : Nat × List File) (f : File) : Nat × List File :=
  if 0 < (f.data.length : Int) - f.synced then (s.1 + 1, s.2 ++ [crFile f (crM keep s.1 ((f.data.length : Int) - f.synced))]) else (s.1, s.2 ++ [⟨f.name, f.data, f.data.length⟩])
def crN (keep : List Int) (fs : List File) : Nat → Nat × List File
  | 0 => (0, [])
  | i + 1 => crStep keep (crN keep fs i) fs[i]!
theorem crN_bd (keep : List Int) (fs : List File) : ∀ i, (crN keep fs i).1 ≤ i ∧ (crN keep fs i).2.length = i
  | 0 => ⟨Nat.le_refl _, rfl⟩
  | i + 1 => by
    have := crN_bd keep fs i
    simp only [crN, crStep]
    split <;> simp <;> omega
/-- The disk behind a crash. -/
def crash (d : Disk) (keep : List Int) (left : Int) : Disk :=
  if right d.fs d.left d.off then ⟨(crN keep d.fs d.fs.length).2.isEmpty, (crN keep d.fs d.fs.length).2, max (-1) left, decide (max (-1) left = 0)⟩ else ⟨true, [], max (-1) left, decide (max (-1) left = 0)⟩
theorem snocF (b : Bool) (l : List File) (x : File) : SObj.arr 3 (l.isEmpty && [x.pv].isEmpty) (l.map File.pv ++ [x.pv]) = .arr 3 (l ++ [x]).isEmpty ((l ++ [x]).map File.pv) := by
  rw [List.map_append, ← snocNil l.isEmpty]; rfl
theorem okAt_bd {fs : List File} {i : Nat} (h : okAt fs i = true) : 0 ≤ (fs[i]!).synced ∧ (fs[i]!).synced ≤ (fs[i]!).data.length ∧ (fs[i]!).data.length ≤ 4194304 := by
  simp only [okAt, Bool.and_eq_true, Bool.not_eq_true', decide_eq_false_iff_not] at h
  omega
theorem right_ok {fs : List File} {left : Int} {off : Bool} (h : right fs left off = true) : ∀ i, i < fs.length → okAt fs i = true := by
  simp only [right, Bool.and_eq_true] at h
  exact (allUpto_iff _ _).1 h.2
theorem crM_bd (keep : List Int) (a : Nat) (more : Int) (h : 0 < more) : 0 ≤ crM keep a more ∧ crM keep a more ≤ more := by
  simp only [crM]
  split <;> omega
theorem getI (l : List Int) (i : Nat) (h : i < l.length) : (l.map iV)[i]? = some (iV l[i]!) := by
  rw [List.getElem?_map, List.getElem?_eq_getElem h]; simp [getElem!_pos l i h]
theorem crDone (n left : Int) (off : Bool) (o : List File) (i : Nat) (h : o.length = i) (k : Nat) : PV.osl 900 0 (o.map File.pv).length (o.map File.pv).length = .osl 900 0 i i := by rw [List.length_map, h]

set_option maxRecDepth 4000 in
set_option maxHeartbeats 1000000 in
theorem cCrash (d : Disk) (kn : Bool) (keep : List Int) (left : Int) (hb : d.fs.length ≤ 1000000000) :
    Ctr prog 9 [d.pv, .sl kn 1 (keep.map iV), iV left] [] (crash d keep left).pv [] [] := by
  have c0 := cNew left
  have c1 := cValid d.nl d.fs d.left d.off hb
  have hg : crash d keep left = if right d.fs d.left d.off then ⟨(crN keep d.fs d.fs.length).2.isEmpty, (crN keep d.fs d.fs.length).2, max (-1) left, decide (max (-1) left = 0)⟩ else ⟨true, [], max (-1) left, decide (max (-1) left = 0)⟩ := rfl
  have hrt := @right_ok d.fs d.left d.off
  generalize max (-1) left = lf at *
  generalize decide (lf = 0) = of at *
  generalize right d.fs d.left d.off = rt at *
  obtain ⟨nl, fs, left0, off0⟩ := d
  dsimp only at *
  refine Ctr.enter tblOk func9 rfl (by decide) rfl (nt := 66) rfl rfl rfl rfl ?_
  refine Trip.seq ?_
  apply Trip.reg tblOk
  · repeat' (first | exact rfl | exact idx_map _ _ _ (by show _ < _; first | omega | (simp only [List.length_map] at *; omega)) | ((first | with_reducible refine bok ?_ | with_reducible refine bokL ?_ | with_reducible refine bokR ?_ | with_reducible refine Side.mk ?_); first | omega | exact .inl rfl | exact .inr ⟨rfl, rfl, rfl⟩ | exact fun h => h | exact fun _ h => h | exact fun _ h => congrArg Bool.not h | (intro _ h; simp [gpick, h]; done) | (dsimp only; omega) | (simp only [List.length_map]; done) | (simp only [List.length_map, List.length_append, List.length_cons, List.length_nil, Int.toNat_natCast]; omega) | (intro h1 h2; rw [h1, h2]; rfl)) | ((fail_if_success (with_reducible refine Side.mk ?_)); constructor))
  · exact rfl
  refine Trip.seq ?_
  apply Trip.reg tblOk
  · repeat' (first | exact rfl | (apply Rule.sem; intro hγ; with_reducible apply F_call (x := .func 14) (σ := []) (B := []) (news := []) hγ (hspec := c0)) | exact idx_map _ _ _ (by show _ < _; first | omega | (simp only [List.length_map] at *; omega)) | ((first | with_reducible refine bok ?_ | with_reducible refine bokL ?_ | with_reducible refine bokR ?_ | with_reducible refine Side.mk ?_); first | omega | exact .inl rfl | exact .inr ⟨rfl, rfl, rfl⟩ | exact fun h => h | exact fun _ h => h | exact fun _ h => congrArg Bool.not h | (intro _ h; simp [gpick, h]; done) | (dsimp only; omega) | (simp only [List.length_map]; done) | (simp only [List.length_map, List.length_append, List.length_cons, List.length_nil, Int.toNat_natCast]; omega) | (intro h1 h2; rw [h1, h2]; rfl)) | ((fail_if_success (with_reducible refine Side.mk ?_)); constructor))
  · exact rfl
  refine Trip.seq ?_
  refine Trip.seq ?_
  apply Trip.reg tblOk
  · repeat' (first | exact rfl | (apply Rule.sem; intro hγ; with_reducible apply F_call (x := .func 10) (σ := []) (B := []) (news := []) hγ (hspec := c1)) | exact idx_map _ _ _ (by show _ < _; first | omega | (simp only [List.length_map] at *; omega)) | ((first | with_reducible refine bok ?_ | with_reducible refine bokL ?_ | with_reducible refine bokR ?_ | with_reducible refine Side.mk ?_); first | omega | exact .inl rfl | exact .inr ⟨rfl, rfl, rfl⟩ | exact fun h => h | exact fun _ h => h | exact fun _ h => congrArg Bool.not h | (intro _ h; simp [gpick, h]; done) | (dsimp only; omega) | (simp only [List.length_map]; done) | (simp only [List.length_map, List.length_append, List.length_cons, List.length_nil, Int.toNat_natCast]; omega) | (intro h1 h2; rw [h1, h2]; rfl)) | ((fail_if_success (with_reducible refine Side.mk ?_)); constructor))
  · exact rfl
  apply Trip.cond (.tmp rfl)
  · intro h
    have h : rt = false := by simpa using h
    subst h
    have e : crash ⟨nl, fs, left0, off0⟩ keep left = ⟨true, [], lf, of⟩ := hg
    rw [e]
    refine Trip.seq ?_
    apply Trip.reg tblOk
    · repeat' (first | exact rfl | exact idx_map _ _ _ (by show _ < _; first | omega | (simp only [List.length_map] at *; omega)) | ((first | with_reducible refine bok ?_ | with_reducible refine bokL ?_ | with_reducible refine bokR ?_ | with_reducible refine Side.mk ?_); first | omega | exact .inl rfl | exact .inr ⟨rfl, rfl, rfl⟩ | exact fun h => h | exact fun _ h => h | exact fun _ h => congrArg Bool.not h | (intro _ h; simp [gpick, h]; done) | (dsimp only; omega) | (simp only [List.length_map]; done) | (simp only [List.length_map, List.length_append, List.length_cons, List.length_nil, Int.toNat_natCast]; omega) | (intro h1 h2; rw [h1, h2]; rfl)) | ((fail_if_success (with_reducible refine Side.mk ?_)); constructor))
    · exact rfl
    refine Trip.ret ?_
    apply Ret1 []
    · repeat' (first | exact rfl | constructor)
    · exact rfl
    · repeat' (first | exact rfl | constructor)
  intro h
  have h : rt = true := by simpa using h
  subst h
  rw [hg, if_pos rfl]
  have hok := hrt rfl
  refine Trip.skip ?_
  refine Trip.seq ?_
  apply Trip.reg tblOk
  · repeat' (first | exact rfl | exact idx_map _ _ _ (by show _ < _; first | omega | (simp only [List.length_map] at *; omega)) | ((first | with_reducible refine bok ?_ | with_reducible refine bokL ?_ | with_reducible refine bokR ?_ | with_reducible refine Side.mk ?_); first | omega | exact .inl rfl | exact .inr ⟨rfl, rfl, rfl⟩ | exact fun h => h | exact fun _ h => h | exact fun _ h => congrArg Bool.not h | (intro _ h; simp [gpick, h]; done) | (dsimp only; omega) | (simp only [List.length_map]; done) | (simp only [List.length_map, List.length_append, List.length_cons, List.length_nil, Int.toNat_natCast]; omega) | (intro h1 h2; rw [h1, h2]; rfl)) | ((fail_if_success (with_reducible refine Side.mk ?_)); constructor))
  · exact rfl
  refine Trip.seq ?_
  refine Trip.seq ?_
  apply Trip.reg tblOk
  · repeat' (first | exact rfl | exact idx_map _ _ _ (by show _ < _; first | omega | (simp only [List.length_map] at *; omega)) | ((first | with_reducible refine bok ?_ | with_reducible refine bokL ?_ | with_reducible refine bokR ?_ | with_reducible refine Side.mk ?_); first | omega | exact .inl rfl | exact .inr ⟨rfl, rfl, rfl⟩ | exact fun h => h | exact fun _ h => h | exact fun _ h => congrArg Bool.not h | (intro _ h; simp [gpick, h]; done) | (dsimp only; omega) | (simp only [List.length_map]; done) | (simp only [List.length_map, List.length_append, List.length_cons, List.length_nil, Int.toNat_natCast]; omega) | (intro h1 h2; rw [h1, h2]; rfl)) | ((fail_if_success (with_reducible refine Side.mk ?_)); constructor))
  · exact rfl
  refine Trip.block ?_
  apply Trip.loop (fun (i : Nat) => ⟨[(1, .sl kn 1 (keep.map iV)), (6, .ref 6 0), (7, .ref 7 0), (8, iV (crN keep fs i).1), (19, .sl nl 3 (fs.map File.pv)), (20, iV fs.length), (21, iV i)], [(900, .arr 3 (crN keep fs i).2.isEmpty ((crN keep fs i).2.map File.pv)), (6, .box [nilS, iV 0, bV false]), (7, .box [.osl 900 0 i i, iV lf, bV of])]⟩) (fun (i : Nat) => i ≤ fs.length) (fun (i : Nat) => fs.length - i) (0)
  · first | omega | (simp; done)
  · refine Weak.trans (S2 := ⟨[(1, .sl kn 1 (keep.map iV)), (6, .ref 6 0), (7, .ref 7 0), (8, iV 0), (19, .sl nl 3 (fs.map File.pv)), (20, iV fs.length), (21, iV 0)], [(6, .box [nilS, iV 0, bV false]), (7, .box [.sl true 3 [], iV lf, bV of])]⟩) ?_ ?_
    · apply Weak.keep
      · exact rfl
      · repeat' (first | exact rfl | (refine vI ?_; first | omega | (simp; done) | (simp; omega) | (simp only [List.length_map] at *; omega)) | constructor)
      · repeat' (first | exact rfl | (refine vI ?_; first | omega | (simp; done) | (simp; omega) | (simp only [List.length_map] at *; omega)) | constructor)
      · exact rfl
      · repeat' (first | exact rfl | constructor)
    · exact Weak.adopt 900 3 rfl rfl (by repeat' (first | exact rfl | constructor)) (by repeat' (first | exact rfl | constructor))
  intro i hi
  obtain ⟨hn1, hn2⟩ := crN_bd keep fs i
  refine Trip.seq ?_
  apply Trip.reg tblOk
  · repeat' (first | exact rfl | exact idx_map _ _ _ (by show _ < _; first | omega | (simp only [List.length_map] at *; omega)) | ((first | with_reducible refine bok ?_ | with_reducible refine bokL ?_ | with_reducible refine bokR ?_ | with_reducible refine Side.mk ?_); first | omega | exact .inl rfl | exact .inr ⟨rfl, rfl, rfl⟩ | exact fun h => h | exact fun _ h => h | exact fun _ h => congrArg Bool.not h | (intro _ h; simp [gpick, h]; done) | (dsimp only; omega) | (simp only [List.length_map]; done) | (simp only [List.length_map, List.length_append, List.length_cons, List.length_nil, Int.toNat_natCast]; omega) | (intro h1 h2; rw [h1, h2]; rfl)) | ((fail_if_success (with_reducible refine Side.mk ?_)); constructor))
  · exact rfl
  refine Trip.seq ?_
  apply Trip.cond (.tmp rfl)
  · intro h
    have h : i < fs.length := by simpa using h
    obtain ⟨k1, k2, k3⟩ := okAt_bd (hok i h)
    have hsu : crN keep fs (i + 1) = crStep keep (crN keep fs i) fs[i]! := rfl
    have hml := crM_bd keep (crN keep fs i).1 (((fs[i]!).data.length : Int) - (fs[i]!).synced)
    have hmd : crM keep (crN keep fs i).1 (((fs[i]!).data.length : Int) - (fs[i]!).synced) = if (crN keep fs i).1 < keep.length then max 0 (min (((fs[i]!).data.length : Int) - (fs[i]!).synced) keep[(crN keep fs i).1]!) else 0 := rfl
    simp only [crStep] at hsu
    generalize crM keep (crN keep fs i).1 (((fs[i]!).data.length : Int) - (fs[i]!).synced) = m at *
    generalize crN keep fs i = s at *
    obtain ⟨a, out⟩ := s
    dsimp only at *
    generalize hf : fs[i]! = f at *
    have hfi : (fs.map File.pv)[(i : Int).toNat]? = some f.pv := by rw [← hf]; exact idx_map _ _ _ h
    refine Trip.skip ?_
    refine Trip.seq ?_
    refine Trip.block ?_
    refine Trip.seq ?_
    apply Trip.reg tblOk
    · repeat' (first | exact rfl | exact hfi | exact idx_map _ _ _ (by show _ < _; first | omega | (simp only [List.length_map] at *; omega)) | ((first | with_reducible refine bok ?_ | with_reducible refine bokL ?_ | with_reducible refine bokR ?_ | with_reducible refine Side.mk ?_); first | omega | exact .inl rfl | exact .inr ⟨rfl, rfl, rfl⟩ | exact fun h => h | exact fun _ h => h | exact fun _ h => congrArg Bool.not h | (intro _ h; simp [gpick, h]; done) | (dsimp only; omega) | (simp only [List.length_map]; done) | (simp only [List.length_map, List.length_append, List.length_cons, List.length_nil, Int.toNat_natCast]; omega) | (intro h1 h2; rw [h1, h2]; rfl)) | ((fail_if_success (with_reducible refine Side.mk ?_)); constructor))
    · exact rfl
    refine Trip.seqk ⟨[(1, .sl kn 1 (keep.map iV)), (6, .ref 6 0), (7, .ref 7 0), (8, iV (crN keep fs (i + 1)).1), (10, .ref 10 0), (19, .sl nl 3 (fs.map File.pv)), (20, iV fs.length), (21, iV i)], [(10, .box [sV f.name, sV (if 0 < (f.data.length : Int) - f.synced then f.data.take (f.synced + m).toNat else f.data), iV f.synced]), (900, .arr 3 out.isEmpty (out.map File.pv)), (6, .box [nilS, iV 0, bV false]), (7, .box [.osl 900 0 i i, iV lf, bV of])]⟩ ?_ ?_
    · refine Trip.seq ?_
      apply Trip.reg tblOk
      · repeat' (first | exact rfl | exact idx_map _ _ _ (by show _ < _; first | omega | (simp only [List.length_map] at *; omega)) | ((first | with_reducible refine bok ?_ | with_reducible refine bokL ?_ | with_reducible refine bokR ?_ | with_reducible refine Side.mk ?_); first | omega | exact .inl rfl | exact .inr ⟨rfl, rfl, rfl⟩ | exact fun h => h | exact fun _ h => h | exact fun _ h => congrArg Bool.not h | (intro _ h; simp [gpick, h]; done) | (dsimp only; omega) | (simp only [List.length_map]; done) | (simp only [List.length_map, List.length_append, List.length_cons, List.length_nil, Int.toNat_natCast]; omega) | (intro h1 h2; rw [h1, h2]; rfl)) | ((fail_if_success (with_reducible refine Side.mk ?_)); constructor))
      · exact rfl
      refine Trip.seq ?_
      apply Trip.reg tblOk
      · repeat' (first | exact rfl | exact idx_map _ _ _ (by show _ < _; first | omega | (simp only [List.length_map] at *; omega)) | ((first | with_reducible refine bok ?_ | with_reducible refine bokL ?_ | with_reducible refine bokR ?_ | with_reducible refine Side.mk ?_); first | omega | exact .inl rfl | exact .inr ⟨rfl, rfl, rfl⟩ | exact fun h => h | exact fun _ h => h | exact fun _ h => congrArg Bool.not h | (intro _ h; simp [gpick, h]; done) | (dsimp only; omega) | (simp only [List.length_map]; done) | (simp only [List.length_map, List.length_append, List.length_cons, List.length_nil, Int.toNat_natCast]; omega) | (intro h1 h2; rw [h1, h2]; rfl)) | ((fail_if_success (with_reducible refine Side.mk ?_)); constructor))
      · exact rfl
      apply Trip.cond (.tmp rfl)
      · intro hmore
        have hmore : 0 < (f.data.length : Int) - f.synced := by simpa using hmore
        have hm2 := hml hmore
        rw [if_pos hmore] at hsu
        rw [if_pos hmore, hsu]
        dsimp only
        refine Trip.seqk ⟨[(1, .sl kn 1 (keep.map iV)), (6, .ref 6 0), (7, .ref 7 0), (8, iV a), (10, .ref 10 0), (11, iV m), (19, .sl nl 3 (fs.map File.pv)), (20, iV fs.length), (21, iV i)], [(10, .box f.pv.cells), (900, .arr 3 out.isEmpty (out.map File.pv)), (6, .box [nilS, iV 0, bV false]), (7, .box [.osl 900 0 i i, iV lf, bV of])]⟩ ?_ ?_
        · refine Trip.seq ?_
          apply Trip.reg tblOk
          · repeat' (first | exact rfl | exact idx_map _ _ _ (by show _ < _; first | omega | (simp only [List.length_map] at *; omega)) | ((first | with_reducible refine bok ?_ | with_reducible refine bokL ?_ | with_reducible refine bokR ?_ | with_reducible refine Side.mk ?_); first | omega | exact .inl rfl | exact .inr ⟨rfl, rfl, rfl⟩ | exact fun h => h | exact fun _ h => h | exact fun _ h => congrArg Bool.not h | (intro _ h; simp [gpick, h]; done) | (dsimp only; omega) | (simp only [List.length_map]; done) | (simp only [List.length_map, List.length_append, List.length_cons, List.length_nil, Int.toNat_natCast]; omega) | (intro h1 h2; rw [h1, h2]; rfl)) | ((fail_if_success (with_reducible refine Side.mk ?_)); constructor))
          · exact rfl
          apply Trip.cond (.tmp rfl)
          · intro hk
            have hk : a < keep.length := by simpa using hk
            rw [if_pos hk] at hmd
            rw [hmd]
            apply Trip.reg tblOk
            · repeat' (first | exact rfl | (apply Rule.sem; intro hγ; with_reducible apply F_max hγ) | (apply Rule.sem; intro hγ; with_reducible apply F_min hγ) | exact getI _ _ hk | exact idx_map _ _ _ (by show _ < _; first | omega | (simp only [List.length_map] at *; omega)) | ((first | with_reducible refine bok ?_ | with_reducible refine bokL ?_ | with_reducible refine bokR ?_ | with_reducible refine Side.mk ?_); first | omega | exact .inl rfl | exact .inr ⟨rfl, rfl, rfl⟩ | exact fun h => h | exact fun _ h => h | exact fun _ h => congrArg Bool.not h | (intro _ h; simp [gpick, h]; done) | (dsimp only; omega) | (simp only [List.length_map]; done) | (simp only [List.length_map, List.length_append, List.length_cons, List.length_nil, Int.toNat_natCast]; omega) | (intro h1 h2; rw [h1, h2]; rfl)) | ((fail_if_success (with_reducible refine Side.mk ?_)); constructor))
            · exact rfl
            apply Weak.keep
            · exact rfl
            · repeat' (first | exact rfl | exact plainFs _ | (refine vI ?_; first | omega | (simp; done) | (simp; omega) | (simp only [List.length_map] at *; omega)) | constructor)
            · repeat' (first | exact rfl | exact plainFs _ | (refine vI ?_; first | omega | (simp; done) | (simp; omega) | (simp only [List.length_map] at *; omega)) | constructor)
            · exact rfl
            · repeat' (first | exact rfl | exact plainFs _ | constructor)
          · intro hk
            have hk : ¬ a < keep.length := by simpa using hk
            rw [if_neg hk] at hmd
            rw [hmd]
            apply Trip.reg tblOk
            · repeat' (first | exact rfl | exact idx_map _ _ _ (by show _ < _; first | omega | (simp only [List.length_map] at *; omega)) | ((first | with_reducible refine bok ?_ | with_reducible refine bokL ?_ | with_reducible refine bokR ?_ | with_reducible refine Side.mk ?_); first | omega | exact .inl rfl | exact .inr ⟨rfl, rfl, rfl⟩ | exact fun h => h | exact fun _ h => h | exact fun _ h => congrArg Bool.not h | (intro _ h; simp [gpick, h]; done) | (dsimp only; omega) | (simp only [List.length_map]; done) | (simp only [List.length_map, List.length_append, List.length_cons, List.length_nil, Int.toNat_natCast]; omega) | (intro h1 h2; rw [h1, h2]; rfl)) | ((fail_if_success (with_reducible refine Side.mk ?_)); constructor))
            · exact rfl
            apply Weak.keep
            · exact rfl
            · repeat' (first | exact rfl | exact plainFs _ | (refine vI ?_; first | omega | (simp; done) | (simp; omega) | (simp only [List.length_map] at *; omega)) | constructor)
            · repeat' (first | exact rfl | exact plainFs _ | (refine vI ?_; first | omega | (simp; done) | (simp; omega) | (simp only [List.length_map] at *; omega)) | constructor)
            · exact rfl
            · repeat' (first | exact rfl | exact plainFs _ | constructor)
        refine Trip.seq ?_
        apply Trip.reg tblOk
        · repeat' (first | exact rfl | exact idx_map _ _ _ (by show _ < _; first | omega | (simp only [List.length_map] at *; omega)) | ((first | with_reducible refine bok ?_ | with_reducible refine bokL ?_ | with_reducible refine bokR ?_ | with_reducible refine Side.mk ?_); first | omega | exact .inl rfl | exact .inr ⟨rfl, rfl, rfl⟩ | exact fun h => h | exact fun _ h => h | exact fun _ h => congrArg Bool.not h | (intro _ h; simp [gpick, h]; done) | (dsimp only; omega) | (simp only [List.length_map]; done) | (simp only [List.length_map, List.length_append, List.length_cons, List.length_nil, Int.toNat_natCast]; omega) | (intro h1 h2; rw [h1, h2]; rfl)) | ((fail_if_success (with_reducible refine Side.mk ?_)); constructor))
        · exact rfl
        apply Trip.reg tblOk
        · repeat' (first | exact rfl | exact idx_map _ _ _ (by show _ < _; first | omega | (simp only [List.length_map] at *; omega)) | ((first | with_reducible refine bok ?_ | with_reducible refine bokL ?_ | with_reducible refine bokR ?_ | with_reducible refine Side.mk ?_); first | omega | exact .inl rfl | exact .inr ⟨rfl, rfl, rfl⟩ | exact fun h => h | exact fun _ h => h | exact fun _ h => congrArg Bool.not h | (intro _ h; simp [gpick, h]; done) | (dsimp only; omega) | (simp only [List.length_map]; done) | (simp only [List.length_map, List.length_append, List.length_cons, List.length_nil, Int.toNat_natCast]; omega) | (intro h1 h2; rw [h1, h2]; rfl)) | ((fail_if_success (with_reducible refine Side.mk ?_)); constructor))
        · exact rfl
        apply Weak.keep
        · exact rfl
        · repeat' (first | exact rfl | exact plainFs _ | (refine vI ?_; first | omega | (simp; done) | (simp; omega) | (simp only [List.length_map] at *; omega)) | constructor)
        · repeat' (first | exact rfl | exact plainFs _ | (refine vI ?_; first | omega | (simp; done) | (simp; omega) | (simp only [List.length_map] at *; omega)) | constructor)
        · exact rfl
        · repeat' (first | exact rfl | exact plainFs _ | constructor)
      · intro hmore
        have hmore : ¬ 0 < (f.data.length : Int) - f.synced := by simpa using hmore
        rw [if_neg hmore] at hsu
        rw [if_neg hmore, hsu]
        refine Trip.skip ?_
        apply Weak.keep
        · exact rfl
        · repeat' (first | exact rfl | exact plainFs _ | (refine vI ?_; first | omega | (simp; done) | (simp; omega) | (simp only [List.length_map] at *; omega)) | constructor)
        · repeat' (first | exact rfl | exact plainFs _ | (refine vI ?_; first | omega | (simp; done) | (simp; omega) | (simp only [List.length_map] at *; omega)) | constructor)
        · exact rfl
        · repeat' (first | exact rfl | exact plainFs _ | constructor)
    have e1 : (crN keep fs (i + 1)).2 = out ++ [⟨f.name, if 0 < (f.data.length : Int) - f.synced then f.data.take (f.synced + m).toNat else f.data, (if 0 < (f.data.length : Int) - f.synced then f.data.take (f.synced + m).toNat else f.data).length⟩] := by
      rw [hsu]
      by_cases hmore : 0 < (f.data.length : Int) - f.synced
      · simp only [if_pos hmore, crFile]
      · simp only [if_neg hmore]
    generalize (if 0 < (f.data.length : Int) - f.synced then f.data.take (f.synced + m).toNat else f.data) = dt at *
    have e2 := snocF true out ⟨f.name, dt, dt.length⟩
    have e3 : PV.osl 900 0 (out.map File.pv ++ [(File.mk f.name dt dt.length).pv]).length (out.map File.pv ++ [(File.mk f.name dt dt.length).pv]).length = .osl 900 0 (i + 1) (i + 1) := oslEq (by rw [List.length_append, List.length_map, hn2]; rfl)
    refine Trip.seq ?_
    apply Trip.reg tblOk
    · repeat' (first | exact rfl | exact idx_map _ _ _ (by show _ < _; first | omega | (simp only [List.length_map] at *; omega)) | ((first | with_reducible refine bok ?_ | with_reducible refine bokL ?_ | with_reducible refine bokR ?_ | with_reducible refine Side.mk ?_); first | omega | exact .inl rfl | exact .inr ⟨rfl, rfl, rfl⟩ | exact fun h => h | exact fun _ h => h | exact fun _ h => congrArg Bool.not h | (intro _ h; simp [gpick, h]; done) | (dsimp only; omega) | (simp only [List.length_map]; done) | (simp only [List.length_map, List.length_append, List.length_cons, List.length_nil, Int.toNat_natCast]; omega) | (intro h1 h2; rw [h1, h2]; rfl)) | ((fail_if_success (with_reducible refine Side.mk ?_)); constructor))
    · exact rfl
    apply Trip.reg tblOk
    · repeat' (first | exact rfl | exact idx_map _ _ _ (by show _ < _; first | omega | (simp only [List.length_map] at *; omega)) | ((first | with_reducible refine bok ?_ | with_reducible refine bokL ?_ | with_reducible refine bokR ?_ | with_reducible refine Side.mk ?_); first | omega | exact .inl rfl | exact .inr ⟨rfl, rfl, rfl⟩ | exact fun h => h | exact fun _ h => h | exact fun _ h => congrArg Bool.not h | (intro _ h; simp [gpick, h]; done) | (dsimp only; omega) | (simp only [List.length_map]; done) | (simp only [List.length_map, List.length_append, List.length_cons, List.length_nil, Int.toNat_natCast]; omega) | (intro h1 h2; rw [h1, h2]; rfl) | exact okFs [File.mk f.name dt dt.length] | (rw [List.length_map]; exact hn2.symm) | (simp only [List.length_map, List.length_cons, List.length_nil, hn2]; omega)) | ((fail_if_success (with_reducible refine Side.mk ?_)); constructor))
    · exact rfl
    apply Trip.reg tblOk
    · repeat' (first | exact rfl | exact idx_map _ _ _ (by show _ < _; first | omega | (simp only [List.length_map] at *; omega)) | ((first | with_reducible refine bok ?_ | with_reducible refine bokL ?_ | with_reducible refine bokR ?_ | with_reducible refine Side.mk ?_); first | omega | exact .inl rfl | exact .inr ⟨rfl, rfl, rfl⟩ | exact fun h => h | exact fun _ h => h | exact fun _ h => congrArg Bool.not h | (intro _ h; simp [gpick, h]; done) | (dsimp only; omega) | (simp only [List.length_map]; done) | (simp only [List.length_map, List.length_append, List.length_cons, List.length_nil, Int.toNat_natCast]; omega) | (intro h1 h2; rw [h1, h2]; rfl)) | ((fail_if_success (with_reducible refine Side.mk ?_)); constructor))
    · exact rfl
    refine ⟨i + 1, ?_, ?_, ?_⟩
    · first | omega | (dsimp only at *; omega)
    · first | omega | (dsimp only at *; omega)
    · apply Weak.keep
      · exact rfl
      · repeat' (first | exact rfl | (rw [e1]; exact e2) | (exact congrArg (fun x => SObj.box [x, iV lf, bV of]) e3) | exact plainFs _ | (refine vI ?_; first | omega | (simp; done) | (simp; omega) | (simp only [List.length_map] at *; omega)) | constructor)
      · repeat' (first | exact rfl | (rw [e1]; exact e2) | (exact congrArg (fun x => SObj.box [x, iV lf, bV of]) e3) | exact plainFs _ | (refine vI ?_; first | omega | (simp; done) | (simp; omega) | (simp only [List.length_map] at *; omega)) | constructor)
      · exact rfl
      · repeat' (first | exact rfl | (rw [e1]; exact e2) | (exact congrArg (fun x => SObj.box [x, iV lf, bV of]) e3) | exact plainFs _ | constructor)
  · intro h
    have h : i = fs.length := by simp at h; omega
    subst h
    refine Trip.exit ?_
    have e4 : PV.osl 900 0 fs.length fs.length = .osl 900 0 ((crN keep fs fs.length).2.map File.pv).length ((crN keep fs fs.length).2.map File.pv).length := by rw [List.length_map, hn2]
    refine Trip.seq ?_
    apply Trip.reg tblOk
    · repeat' (first | exact rfl | exact idx_map _ _ _ (by show _ < _; first | omega | (simp only [List.length_map] at *; omega)) | ((first | with_reducible refine bok ?_ | with_reducible refine bokL ?_ | with_reducible refine bokR ?_ | with_reducible refine Side.mk ?_); first | omega | exact .inl rfl | exact .inr ⟨rfl, rfl, rfl⟩ | exact fun h => h | exact fun _ h => h | exact fun _ h => congrArg Bool.not h | (intro _ h; simp [gpick, h]; done) | (dsimp only; omega) | (simp only [List.length_map]; done) | (simp only [List.length_map, List.length_append, List.length_cons, List.length_nil, Int.toNat_natCast]; omega) | (intro h1 h2; rw [h1, h2]; rfl)) | ((fail_if_success (with_reducible refine Side.mk ?_)); constructor))
    · exact rfl
    rw [e4]
    refine Trip.ret ?_
    apply Ret1 [900]
    · repeat' (first | exact rfl | (with_reducible apply LoadR.refA) | constructor)
    · exact rfl
    · repeat' (first | exact rfl | exact plainFs _ | (refine Side.mk ?_; simp; done) | constructor)
end Go.Proofs.Try
