/- The laws DiskRights and DiskSure of the disk: the walks. -/
import Derived.Test.YtbdpnkcpglpfbaaPb
import Derived.Test.YtbdpnkcpglpfbaaTx
import Derived.Test.YtbdpnkcpglpfbaaSymW
namespace Go.Proofs.Try
open Go Go.Sym

theorem not_large {fs : List File} (hs : ∀ f ∈ fs, f.data.length ≤ 140737488351232) (h : large fs = false) : fs.length ≤ 400 := by
  simp only [large, decide_eq_false_iff_not] at h
  have := (lg_bd fs hs (min fs.length 200) (by omega)).1
  omega
theorem crash_len (d : Disk) (keep : List Int) (left : Int) : (crash d keep left).fs.length ≤ d.fs.length := by
  simp only [crash]
  split
  · exact Nat.le_of_eq (crN_bd keep d.fs d.fs.length).2
  · simp
theorem cSelf (d : Disk) (h : d.fs.length ≤ 1000000000) : Ctr prog 12 [d.pv, d.pv] [] (bV true) [] [] := by
  have := cSame d.nl d.nl d.fs d.fs d.left d.left d.off d.off h
  rwa [(same_eq _ _ _ _ _ _).2 ⟨rfl, rfl, rfl⟩] at this

set_option maxRecDepth 4000 in
set_option maxHeartbeats 1000000 in
theorem cDiskRights (nl : Bool) (fs : List File) (left : Int) (off : Bool) (kn : Bool) (keep : List Int) (l2 : Int) (hb : fs.length ≤ 140737488351232) (hs : ∀ f ∈ fs, f.data.length ≤ 140737488351232) :
    Ctr prog 3 [D nl fs left off, .sl kn 1 (keep.map iV), iV l2] [] (bV true) [] [] := by
  have c7 := cLarge nl fs left off hb hs
  have hlg := not_large hs
  generalize large fs = lrg at *
  refine Ctr.enter tblOk func3 rfl (by decide) rfl (nt := 42) rfl rfl rfl rfl ?_
  refine Trip.seq ?_
  apply Trip.reg tblOk
  · repeat' (first | exact rfl | exact idx_map _ _ _ (by show _ < _; first | omega | (simp only [List.length_map] at *; omega)) | ((first | with_reducible refine bok ?_ | with_reducible refine bokL ?_ | with_reducible refine bokR ?_ | with_reducible refine Side.mk ?_); first | omega | exact .inl rfl | exact .inr ⟨rfl, rfl, rfl⟩ | exact fun h => h | exact fun _ h => h | exact fun _ h => congrArg Bool.not h | (intro _ h; simp [gpick, h]; done) | (dsimp only; omega) | (simp only [List.length_map]; done) | (simp only [List.length_map, List.length_append, List.length_cons, List.length_nil, Int.toNat_natCast]; omega) | (intro h1 h2; rw [h1, h2]; rfl)) | ((fail_if_success (with_reducible refine Side.mk ?_)); constructor))
  · exact rfl
  refine Trip.seq ?_
  refine Trip.seq ?_
  apply Trip.reg tblOk
  · repeat' (first | exact rfl | (apply Rule.sem; intro hγ; with_reducible apply F_call0 (x := .func 7) (B := []) hγ (hspec := c7)) | (apply Rule.sem; intro hγ; with_reducible apply F_call (x := .func 7) (σ := []) (B := []) (news := []) hγ (hspec := c7)) | exact idx_map _ _ _ (by show _ < _; first | omega | (simp only [List.length_map] at *; omega)) | ((first | with_reducible refine bok ?_ | with_reducible refine bokL ?_ | with_reducible refine bokR ?_ | with_reducible refine Side.mk ?_); first | omega | exact .inl rfl | exact .inr ⟨rfl, rfl, rfl⟩ | exact fun h => h | exact fun _ h => h | exact fun _ h => congrArg Bool.not h | (intro _ h; simp [gpick, h]; done) | (dsimp only; omega) | (simp only [List.length_map]; done) | (simp only [List.length_map, List.length_append, List.length_cons, List.length_nil, Int.toNat_natCast]; omega) | (intro h1 h2; rw [h1, h2]; rfl)) | ((fail_if_success (with_reducible refine Side.mk ?_)); constructor))
  · exact rfl
  apply Trip.cond (.tmp rfl)
  · intro h
    refine Trip.seq ?_
    apply Trip.reg tblOk
    · repeat' (first | exact rfl | (apply Rule.sem; intro hγ; with_reducible apply F_call0 (x := .func 8) (B := []) hγ (hspec := cLives)) | (apply Rule.sem; intro hγ; with_reducible apply F_call (x := .func 8) (σ := []) (B := []) (news := []) hγ (hspec := cLives)) | exact idx_map _ _ _ (by show _ < _; first | omega | (simp only [List.length_map] at *; omega)) | ((first | with_reducible refine bok ?_ | with_reducible refine bokL ?_ | with_reducible refine bokR ?_ | with_reducible refine Side.mk ?_); first | omega | exact .inl rfl | exact .inr ⟨rfl, rfl, rfl⟩ | exact fun h => h | exact fun _ h => h | exact fun _ h => congrArg Bool.not h | (intro _ h; simp [gpick, h]; done) | (dsimp only; omega) | (simp only [List.length_map]; done) | (simp only [List.length_map, List.length_append, List.length_cons, List.length_nil, Int.toNat_natCast]; omega) | (intro h1 h2; rw [h1, h2]; rfl)) | ((fail_if_success (with_reducible refine Side.mk ?_)); constructor))
    · exact rfl
    refine Trip.ret ?_
    apply Ret1 []
    · repeat' (first | exact rfl | constructor)
    · exact rfl
    · repeat' (first | exact rfl | constructor)
  intro h
  have hlen := hlg h
  refine Trip.skip ?_
  have c9 := cCrash ⟨nl, fs, left, off⟩ kn keep l2 (by dsimp only; omega)
  have c13 := cCrash2 ⟨nl, fs, left, off⟩ kn keep l2 (by dsimp only; omega)
  have cl := crash_len ⟨nl, fs, left, off⟩ keep l2
  have cr := crash_right ⟨nl, fs, left, off⟩ keep l2
  generalize crash ⟨nl, fs, left, off⟩ keep l2 = c at *
  dsimp only at cl
  have cs := cSelf c (by omega)
  have c11 := cRight c.nl c.fs c.left c.off
  rw [cr] at c11
  obtain ⟨nc, fc, lc, oc⟩ := c
  dsimp only at *
  have c10 := cValid nl fs left off (by omega)
  have c11b := cRight nl fs left off
  have c14 := cNew l2
  have c15 : Ctr prog 15 [iV l2] [] (D true [] (max (-1) l2) (decide (max (-1) l2 = 0))) [] [] := by rw [show max (-1) l2 = max l2 (-1) by omega]; exact cNew2 l2
  have cs2 := cSelf ⟨true, [], max (-1) l2, decide (max (-1) l2 = 0)⟩ (by simp)
  generalize max (-1) l2 = ml at *
  generalize decide (ml = 0) = mo at *
  generalize right fs left off = rt at *
  refine Trip.seq ?_
  apply Trip.reg tblOk
  · repeat' (first | exact rfl | (apply Rule.sem; intro hγ; with_reducible apply F_call0 (x := .func 9) (B := []) hγ (hspec := c9)) | (apply Rule.sem; intro hγ; with_reducible apply F_call (x := .func 9) (σ := []) (B := []) (news := []) hγ (hspec := c9)) | exact idx_map _ _ _ (by show _ < _; first | omega | (simp only [List.length_map] at *; omega)) | ((first | with_reducible refine bok ?_ | with_reducible refine bokL ?_ | with_reducible refine bokR ?_ | with_reducible refine Side.mk ?_); first | omega | exact .inl rfl | exact .inr ⟨rfl, rfl, rfl⟩ | exact fun h => h | exact fun _ h => h | exact fun _ h => congrArg Bool.not h | (intro _ h; simp [gpick, h]; done) | (dsimp only; omega) | (simp only [List.length_map]; done) | (simp only [List.length_map, List.length_append, List.length_cons, List.length_nil, Int.toNat_natCast]; omega) | (intro h1 h2; rw [h1, h2]; rfl)) | ((fail_if_success (with_reducible refine Side.mk ?_)); constructor))
  · exact rfl
  refine Trip.seq ?_
  apply Trip.drw tblOk mixed
  · repeat' (first | exact rfl | (apply Rule.sem; intro hγ; with_reducible apply F_call0 (x := .func 8) (B := []) hγ (hspec := cLives)) | (apply Rule.sem; intro hγ; with_reducible apply F_call (x := .func 8) (σ := []) (B := []) (news := []) hγ (hspec := cLives)) | (apply Rule.sem; intro hγ; with_reducible apply F_call0 (x := .func 10) (B := []) hγ (hspec := c10)) | (apply Rule.sem; intro hγ; with_reducible apply F_call (x := .func 10) (σ := []) (B := []) (news := []) hγ (hspec := c10)) | (apply Rule.sem; intro hγ; with_reducible apply F_call0 (dst := some 20) (x := .func 11) (B := []) hγ (hspec := c11b)) | (apply Rule.sem; intro hγ; with_reducible apply F_call (dst := some 20) (x := .func 11) (σ := []) (B := []) (news := []) hγ (hspec := c11b)) | (apply Rule.sem; intro hγ; with_reducible apply F_call0 (dst := some 33) (x := .func 11) (B := []) hγ (hspec := c11)) | (apply Rule.sem; intro hγ; with_reducible apply F_call (dst := some 33) (x := .func 11) (σ := []) (B := []) (news := []) hγ (hspec := c11)) | (apply Rule.sem; intro hγ; with_reducible apply F_call0 (x := .func 13) (B := []) hγ (hspec := c13)) | (apply Rule.sem; intro hγ; with_reducible apply F_call (x := .func 13) (σ := []) (B := []) (news := []) hγ (hspec := c13)) | (apply Rule.sem; intro hγ; with_reducible apply F_call0 (dst := some 29) (x := .func 12) (B := []) hγ (hspec := cs)) | (apply Rule.sem; intro hγ; with_reducible apply F_call (dst := some 29) (x := .func 12) (σ := []) (B := []) (news := []) hγ (hspec := cs)) | (apply Rule.sem; intro hγ; with_reducible apply F_call0 (dst := some 40) (x := .func 12) (B := []) hγ (hspec := cs2)) | (apply Rule.sem; intro hγ; with_reducible apply F_call (dst := some 40) (x := .func 12) (σ := []) (B := []) (news := []) hγ (hspec := cs2)) | (apply Rule.sem; intro hγ; with_reducible apply F_call0 (x := .func 14) (B := []) hγ (hspec := c14)) | (apply Rule.sem; intro hγ; with_reducible apply F_call (x := .func 14) (σ := []) (B := []) (news := []) hγ (hspec := c14)) | (apply Rule.sem; intro hγ; with_reducible apply F_call0 (x := .func 15) (B := []) hγ (hspec := c15)) | (apply Rule.sem; intro hγ; with_reducible apply F_call (x := .func 15) (σ := []) (B := []) (news := []) hγ (hspec := c15)) | exact idx_map _ _ _ (by show _ < _; first | omega | (simp only [List.length_map] at *; omega)) | ((first | with_reducible refine bok ?_ | with_reducible refine bokL ?_ | with_reducible refine bokR ?_ | with_reducible refine Side.mk ?_); first | omega | exact .inl rfl | exact .inr ⟨rfl, rfl, rfl⟩ | exact fun h => h | exact fun _ h => h | exact fun _ h => congrArg Bool.not h | (intro _ h; simp [gpick, h]; done) | (dsimp only; omega) | (simp only [List.length_map]; done) | (simp only [List.length_map, List.length_append, List.length_cons, List.length_nil, Int.toNat_natCast]; omega) | (intro h1 h2; rw [h1, h2]; rfl)) | ((fail_if_success (with_reducible refine Side.mk ?_)); constructor))
  · exact rfl
  · kernel_rfl
  refine Trip.ret ?_
  apply Ret1 []
  · repeat' (first | exact rfl | constructor)
  · exact rfl
  · repeat' (first | exact rfl | (refine cvB ?_; simp; done) | constructor)

set_option maxRecDepth 4000 in
set_option maxHeartbeats 1000000 in
theorem cDiskSure (nl : Bool) (fs : List File) (left : Int) (off : Bool) (kn : Bool) (keep : List Int) (hb : fs.length ≤ 140737488351232) (hs : ∀ f ∈ fs, f.data.length ≤ 140737488351232) :
    Ctr prog 5 [D nl fs left off, .sl kn 1 (keep.map iV)] [] (bV true) [] [] := by
  have c7 := cLarge nl fs left off hb hs
  have c11 := cRight nl fs left off
  have hlg := not_large hs
  generalize large fs = lrg at *
  refine Ctr.enter tblOk func5 rfl (by decide) rfl (nt := 98) rfl rfl rfl rfl ?_
  refine Trip.seq ?_
  apply Trip.reg tblOk
  · repeat' (first | exact rfl | exact idx_map _ _ _ (by show _ < _; first | omega | (simp only [List.length_map] at *; omega)) | ((first | with_reducible refine bok ?_ | with_reducible refine bokL ?_ | with_reducible refine bokR ?_ | with_reducible refine Side.mk ?_); first | omega | exact .inl rfl | exact .inr ⟨rfl, rfl, rfl⟩ | exact fun h => h | exact fun _ h => h | exact fun _ h => congrArg Bool.not h | (intro _ h; simp [gpick, h]; done) | (dsimp only; omega) | (simp only [List.length_map]; done) | (simp only [List.length_map, List.length_append, List.length_cons, List.length_nil, Int.toNat_natCast]; omega) | (intro h1 h2; rw [h1, h2]; rfl)) | ((fail_if_success (with_reducible refine Side.mk ?_)); constructor))
  · exact rfl
  refine Trip.seq ?_
  refine Trip.seq ?_
  apply Trip.reg tblOk
  · repeat' (first | exact rfl | (apply Rule.sem; intro hγ; with_reducible apply F_call0 (x := .func 7) (B := []) hγ (hspec := c7)) | (apply Rule.sem; intro hγ; with_reducible apply F_call (x := .func 7) (σ := []) (B := []) (news := []) hγ (hspec := c7)) | (apply Rule.sem; intro hγ; with_reducible apply F_call0 (x := .func 11) (B := []) hγ (hspec := c11)) | (apply Rule.sem; intro hγ; with_reducible apply F_call (x := .func 11) (σ := []) (B := []) (news := []) hγ (hspec := c11)) | exact idx_map _ _ _ (by show _ < _; first | omega | (simp only [List.length_map] at *; omega)) | ((first | with_reducible refine bok ?_ | with_reducible refine bokL ?_ | with_reducible refine bokR ?_ | with_reducible refine Side.mk ?_); first | omega | exact .inl rfl | exact .inr ⟨rfl, rfl, rfl⟩ | exact fun h => h | exact fun _ h => h | exact fun _ h => congrArg Bool.not h | (intro _ h; simp [gpick, h]; done) | (dsimp only; omega) | (simp only [List.length_map]; done) | (simp only [List.length_map, List.length_append, List.length_cons, List.length_nil, Int.toNat_natCast]; omega) | (intro h1 h2; rw [h1, h2]; rfl)) | ((fail_if_success (with_reducible refine Side.mk ?_)); constructor))
  · exact rfl
  apply Trip.cond (.tmp rfl)
  · intro h
    refine Trip.seq ?_
    apply Trip.reg tblOk
    · repeat' (first | exact rfl | (apply Rule.sem; intro hγ; with_reducible apply F_call0 (x := .func 8) (B := []) hγ (hspec := cLives)) | (apply Rule.sem; intro hγ; with_reducible apply F_call (x := .func 8) (σ := []) (B := []) (news := []) hγ (hspec := cLives)) | exact idx_map _ _ _ (by show _ < _; first | omega | (simp only [List.length_map] at *; omega)) | ((first | with_reducible refine bok ?_ | with_reducible refine bokL ?_ | with_reducible refine bokR ?_ | with_reducible refine Side.mk ?_); first | omega | exact .inl rfl | exact .inr ⟨rfl, rfl, rfl⟩ | exact fun h => h | exact fun _ h => h | exact fun _ h => congrArg Bool.not h | (intro _ h; simp [gpick, h]; done) | (dsimp only; omega) | (simp only [List.length_map]; done) | (simp only [List.length_map, List.length_append, List.length_cons, List.length_nil, Int.toNat_natCast]; omega) | (intro h1 h2; rw [h1, h2]; rfl)) | ((fail_if_success (with_reducible refine Side.mk ?_)); constructor))
    · exact rfl
    refine Trip.ret ?_
    apply Ret1 []
    · repeat' (first | exact rfl | constructor)
    · exact rfl
    · repeat' (first | exact rfl | constructor)
  intro h
  simp only [Bool.or_eq_false_iff, Bool.not_eq_false'] at h
  obtain ⟨h, hr⟩ := h
  have hlen := hlg h
  refine Trip.skip ?_
  have c9 := cCrash ⟨nl, fs, left, off⟩ kn keep (-1) (by dsimp only; omega)
  have c9b := cCrash (crash ⟨nl, fs, left, off⟩ keep (-1)) kn keep (-1)
  have hag := crash_again ⟨nl, fs, left, off⟩ keep hr
  have hcr := crN_cr keep fs fs.length (right_ok hr)
  have hcl := (crN_bd keep fs fs.length).2
  have e : crash ⟨nl, fs, left, off⟩ keep (-1) = ⟨(crN keep fs fs.length).2.isEmpty, (crN keep fs fs.length).2, -1, false⟩ := by
    simp only [crash, if_pos hr]
    congr
  rw [e] at c9 c9b hag
  generalize (crN keep fs fs.length).2 = out at *
  have c9b := c9b (by dsimp only; omega)
  generalize crash ⟨out.isEmpty, out, -1, false⟩ keep (-1) = c2 at *
  obtain ⟨n2, f2, l2, o2⟩ := c2
  dsimp only at hag
  obtain ⟨rfl, rfl, rfl⟩ := hag
  have cs : Ctr prog 12 [D n2 f2 (-1) false, D f2.isEmpty f2 (-1) false] [] (bV true) [] [] := by
    have := cSame n2 f2.isEmpty f2 f2 (-1) (-1) false false (by omega)
    rwa [(same_eq _ _ _ _ _ _).2 ⟨rfl, rfl, rfl⟩] at this
  refine Trip.seq ?_
  apply Trip.reg tblOk
  · repeat' (first | exact rfl | (apply Rule.sem; intro hγ; with_reducible apply F_call0 (x := .func 9) (B := []) hγ (hspec := c9)) | (apply Rule.sem; intro hγ; with_reducible apply F_call (x := .func 9) (σ := []) (B := []) (news := []) hγ (hspec := c9)) | exact idx_map _ _ _ (by show _ < _; first | omega | (simp only [List.length_map] at *; omega)) | ((first | with_reducible refine bok ?_ | with_reducible refine bokL ?_ | with_reducible refine bokR ?_ | with_reducible refine Side.mk ?_); first | omega | exact .inl rfl | exact .inr ⟨rfl, rfl, rfl⟩ | exact fun h => h | exact fun _ h => h | exact fun _ h => congrArg Bool.not h | (intro _ h; simp [gpick, h]; done) | (dsimp only; omega) | (simp only [List.length_map]; done) | (simp only [List.length_map, List.length_append, List.length_cons, List.length_nil, Int.toNat_natCast]; omega) | (intro h1 h2; rw [h1, h2]; rfl)) | ((fail_if_success (with_reducible refine Side.mk ?_)); constructor))
  · exact rfl
  refine Trip.seq ?_
  refine Trip.seq ?_
  apply Trip.reg tblOk
  · repeat' (first | exact rfl | (apply Rule.sem; intro hγ; with_reducible apply F_call0 (x := .func 8) (B := []) hγ (hspec := cLives)) | (apply Rule.sem; intro hγ; with_reducible apply F_call (x := .func 8) (σ := []) (B := []) (news := []) hγ (hspec := cLives)) | exact idx_map _ _ _ (by show _ < _; first | omega | (simp only [List.length_map] at *; omega)) | ((first | with_reducible refine bok ?_ | with_reducible refine bokL ?_ | with_reducible refine bokR ?_ | with_reducible refine Side.mk ?_); first | omega | exact .inl rfl | exact .inr ⟨rfl, rfl, rfl⟩ | exact fun h => h | exact fun _ h => h | exact fun _ h => congrArg Bool.not h | (intro _ h; simp [gpick, h]; done) | (dsimp only; omega) | (simp only [List.length_map]; done) | (simp only [List.length_map, List.length_append, List.length_cons, List.length_nil, Int.toNat_natCast]; omega) | (intro h1 h2; rw [h1, h2]; rfl)) | ((fail_if_success (with_reducible refine Side.mk ?_)); constructor))
  · exact rfl
  apply Trip.cond (.tmp rfl)
  · intro h2
    simp only [List.length_map, hcl] at h2
    simp at h2
  intro _
  refine Trip.skip ?_
  refine Trip.seq ?_
  refine Trip.seq ?_
  apply Trip.reg tblOk
  · repeat' (first | exact rfl | exact idx_map _ _ _ (by show _ < _; first | omega | (simp only [List.length_map] at *; omega)) | ((first | with_reducible refine bok ?_ | with_reducible refine bokL ?_ | with_reducible refine bokR ?_ | with_reducible refine Side.mk ?_); first | omega | exact .inl rfl | exact .inr ⟨rfl, rfl, rfl⟩ | exact fun h => h | exact fun _ h => h | exact fun _ h => congrArg Bool.not h | (intro _ h; simp [gpick, h]; done) | (dsimp only; omega) | (simp only [List.length_map]; done) | (simp only [List.length_map, List.length_append, List.length_cons, List.length_nil, Int.toNat_natCast]; omega) | (intro h1 h2; rw [h1, h2]; rfl)) | ((fail_if_success (with_reducible refine Side.mk ?_)); constructor))
  · exact rfl
  refine Trip.block ?_
  apply Trip.loop (fun (i : Nat) => ⟨[(1, .sl kn 1 (keep.map iV)), (2, .ref 2 0), (5, .ref 5 0), (6, iV i)], [(2, .box (diskCells nl fs left off)), (5, .box (diskCells f2.isEmpty f2 (-1) false))]⟩) (fun (i : Nat) => i ≤ fs.length) (fun (i : Nat) => fs.length - i) (0)
  · first | omega | (simp; done)
  · apply Weak.keep
    · exact rfl
    · repeat' (first | exact rfl | (refine vI ?_; first | omega | (simp; done) | (simp; omega) | (simp only [List.length_map] at *; omega)) | constructor)
    · repeat' (first | exact rfl | (refine vI ?_; first | omega | (simp; done) | (simp; omega) | (simp only [List.length_map] at *; omega)) | constructor)
    · exact rfl
    · repeat' (first | exact rfl | constructor)
  intro i hi
  refine Trip.seq ?_
  refine Trip.seq ?_
  apply Trip.reg tblOk
  · repeat' (first | exact rfl | exact idx_map _ _ _ (by show _ < _; first | omega | (simp only [List.length_map] at *; omega)) | ((first | with_reducible refine bok ?_ | with_reducible refine bokL ?_ | with_reducible refine bokR ?_ | with_reducible refine Side.mk ?_); first | omega | exact .inl rfl | exact .inr ⟨rfl, rfl, rfl⟩ | exact fun h => h | exact fun _ h => h | exact fun _ h => congrArg Bool.not h | (intro _ h; simp [gpick, h]; done) | (dsimp only; omega) | (simp only [List.length_map]; done) | (simp only [List.length_map, List.length_append, List.length_cons, List.length_nil, Int.toNat_natCast]; omega) | (intro h1 h2; rw [h1, h2]; rfl)) | ((fail_if_success (with_reducible refine Side.mk ?_)); constructor))
  · exact rfl
  apply Trip.cond (.tmp rfl)
  · intro hlt
    have hlt : i < fs.length := by simpa using hlt
    obtain ⟨g1, g2, p, g3, g4, g5⟩ := hcr i hlt
    have ha := idx_map File.pv fs i hlt
    have hb2 := idx_map File.pv f2 i (by show _ < _; omega)
    generalize fs[i]! = a at *
    generalize f2[i]! = b at *
    have hbl : b.data.length = p := by rw [g5, take_len g4]
    have e5 : a.data.take (b.data.length : Int).toNat = b.data := by rw [Int.toNat_natCast, hbl, g5]
    refine Trip.skip ?_
    refine Trip.seq ?_
    refine Trip.block ?_
    refine Trip.seq ?_
    apply Trip.drw tblOk mixed
    · repeat' (first | exact rfl | exact ha | exact hb2 | exact idx_map _ _ _ (by show _ < _; first | omega | (simp only [List.length_map] at *; omega)) | ((first | with_reducible refine bok ?_ | with_reducible refine bokL ?_ | with_reducible refine bokR ?_ | with_reducible refine Side.mk ?_); first | omega | exact .inl rfl | exact .inr ⟨rfl, rfl, rfl⟩ | exact fun h => h | exact fun _ h => h | exact fun _ h => congrArg Bool.not h | (intro _ h; simp [gpick, h]; done) | (dsimp only; omega) | (simp only [List.length_map]; done) | (simp only [List.length_map, List.length_append, List.length_cons, List.length_nil, Int.toNat_natCast]; omega) | (intro h1 h2; rw [h1, h2]; rfl)) | ((fail_if_success (with_reducible refine Side.mk ?_)); constructor))
    · exact rfl
    · kernel_rfl
    refine Trip.seq ?_
    apply Trip.drw tblOk mixed
    · repeat' (first | exact rfl | (apply Rule.under tblOk; intro hγ; with_reducible apply Rule.slice) | exact idx_map _ _ _ (by show _ < _; first | omega | (simp only [List.length_map] at *; omega)) | ((first | with_reducible refine bok ?_ | with_reducible refine bokL ?_ | with_reducible refine bokR ?_ | with_reducible refine Side.mk ?_); first | omega | exact .inl rfl | exact .inr ⟨rfl, rfl, rfl⟩ | exact fun h => h | exact fun _ h => h | exact fun _ h => congrArg Bool.not h | (intro _ h; simp [gpick, h]; done) | (dsimp only; omega) | (simp only [List.length_map]; done) | (simp only [List.length_map, List.length_append, List.length_cons, List.length_nil, Int.toNat_natCast]; omega) | (intro h1 h2; rw [h1, h2]; rfl) | exact fun _ => hγ | (have h2 := hγ; simp only [gpick, cond_true, cond_false, decide_eq_true_eq, Bool.and_eq_true, Bool.or_eq_true, Bool.not_eq_true', Bool.not_eq_false', decide_eq_false_iff_not, List.length_map] at h2; (try simp only [List.length_map]); omega)) | ((fail_if_success (with_reducible refine Side.mk ?_)); constructor))
    · exact rfl
    · kernel_rfl
    apply Trip.cond (.tmp rfl)
    · intro h2
      exfalso
      have e6 : (a.data.take (hiOf a.data.length (some (b.data.length : Int)))).drop (loOf none) = b.data := by
        simp only [hiOf, loOf, List.drop_zero]; exact e5
      rw [e6] at h2
      have g2' : decide (b.synced = (b.data.length : Int)) = true := decide_eq_true g2
      have g6 : decide ((b.data.length : Int) < a.synced) = false := decide_eq_false (by omega)
      have g7 : decide ((a.data.length : Int) < b.data.length) = false := decide_eq_false (by omega)
      rw [decide_eq_true g1, g2', g6, g7, decide_eq_true rfl] at h2
      exact absurd h2 (by decide)
    intro _
    refine Trip.skip ?_
    apply Trip.reg tblOk
    · repeat' (first | exact rfl | exact idx_map _ _ _ (by show _ < _; first | omega | (simp only [List.length_map] at *; omega)) | ((first | with_reducible refine bok ?_ | with_reducible refine bokL ?_ | with_reducible refine bokR ?_ | with_reducible refine Side.mk ?_); first | omega | exact .inl rfl | exact .inr ⟨rfl, rfl, rfl⟩ | exact fun h => h | exact fun _ h => h | exact fun _ h => congrArg Bool.not h | (intro _ h; simp [gpick, h]; done) | (dsimp only; omega) | (simp only [List.length_map]; done) | (simp only [List.length_map, List.length_append, List.length_cons, List.length_nil, Int.toNat_natCast]; omega) | (intro h1 h2; rw [h1, h2]; rfl)) | ((fail_if_success (with_reducible refine Side.mk ?_)); constructor))
    · exact rfl
    refine ⟨i + 1, ?_, ?_, ?_⟩
    · first | omega | (dsimp only at *; omega)
    · first | omega | (dsimp only at *; omega)
    · apply Weak.keep
      · exact rfl
      · repeat' (first | exact rfl | (refine vI ?_; first | omega | (simp; done) | (simp; omega) | (simp only [List.length_map] at *; omega)) | constructor)
      · repeat' (first | exact rfl | (refine vI ?_; first | omega | (simp; done) | (simp; omega) | (simp only [List.length_map] at *; omega)) | constructor)
      · exact rfl
      · repeat' (first | exact rfl | constructor)
  · intro hge
    refine Trip.exit ?_
    refine Trip.seq ?_
    apply Trip.drw tblOk mixed
    · repeat' (first | exact rfl | (apply Rule.sem; intro hγ; with_reducible apply F_call0 (x := .func 9) (B := []) hγ (hspec := c9b)) | (apply Rule.sem; intro hγ; with_reducible apply F_call (x := .func 9) (σ := []) (B := []) (news := []) hγ (hspec := c9b)) | (apply Rule.sem; intro hγ; with_reducible apply F_call0 (x := .func 12) (B := []) hγ (hspec := cs)) | (apply Rule.sem; intro hγ; with_reducible apply F_call (x := .func 12) (σ := []) (B := []) (news := []) hγ (hspec := cs)) | exact idx_map _ _ _ (by show _ < _; first | omega | (simp only [List.length_map] at *; omega)) | ((first | with_reducible refine bok ?_ | with_reducible refine bokL ?_ | with_reducible refine bokR ?_ | with_reducible refine Side.mk ?_); first | omega | exact .inl rfl | exact .inr ⟨rfl, rfl, rfl⟩ | exact fun h => h | exact fun _ h => h | exact fun _ h => congrArg Bool.not h | (intro _ h; simp [gpick, h]; done) | (dsimp only; omega) | (simp only [List.length_map]; done) | (simp only [List.length_map, List.length_append, List.length_cons, List.length_nil, Int.toNat_natCast]; omega) | (intro h1 h2; rw [h1, h2]; rfl)) | ((fail_if_success (with_reducible refine Side.mk ?_)); constructor))
    · exact rfl
    · kernel_rfl
    refine Trip.ret ?_
    apply Ret1 []
    · repeat' (first | exact rfl | constructor)
    · exact rfl
    · repeat' (first | exact rfl | constructor)
end Go.Proofs.Try
