/- lives. -/
import Derived.Test.YtbdpnkcpglpfbaaTw
namespace Go.Proofs.Try
open Go Go.Sym

theorem pos_nil (name : List UInt8) : pos [] name = 0 := by
  rw [pos, bs.eq_def, dif_neg (by simp)]; 
theorem pos_one (f : File) (name : List UInt8) : pos [f] name = if !Op.bytesLess f.name name then 0 else 1 := by
  rw [pos, bs.eq_def, dif_pos (by simp)]
  have e1 : (0 + [f].length) / 2 = 0 := by simp
  have e2 : [f][0]! = f := rfl
  rw [e1, e2]
  split
  · rw [bs.eq_def, dif_neg (by simp)]
  · rw [bs.eq_def, dif_neg (by simp)]

def lv0 : Disk := ⟨true, [], -1, false⟩
def lv1 : Disk := ⟨false, [⟨[97], [97, 98], 0⟩], -1, false⟩
def lv2 : Disk := ⟨false, [⟨[97], [97, 98], 2⟩], -1, false⟩
def lv3 : Disk := ⟨false, [⟨[97], [97, 98, 99, 100], 2⟩], -1, false⟩
def lv4 : Disk := ⟨false, [⟨[97], [97, 98, 99], 3⟩], 2, false⟩
def lv5 : Disk := ⟨false, [⟨[98], [97, 98, 99], 3⟩], 1, false⟩
def lv6 : Disk := ⟨false, [], 0, true⟩
theorem lw1 : wr lv0 [97] [97, 98] false = (lv1, 0) := by
  simp [wr, lv0, lv1, tooFull, newFile, isAt, pos_nil, named, Disk.done, put, dec]
theorem lw2 : sync lv1 [97] = (lv2, 0) := by
  have e : pos lv1.fs [97] = 0 := by rw [lv1, pos_one]; rfl
  simp only [sync, e]; rfl
theorem lw3 : wr lv2 [97] [99, 100] true = (lv3, 0) := by
  have e : pos lv2.fs [97] = 0 := by rw [lv2, pos_one]; rfl
  simp only [wr, tooFull, newFile, e]; rfl
theorem lw4 : crash lv3 [1] 2 = lv4 := by rfl
theorem lw5 : gets lv4 [97] = ([97, 98, 99], 0) := by
  have e : pos lv4.fs [97] = 0 := by rw [lv4, pos_one]; rfl
  simp only [gets, e]; rfl
theorem lw6 : move lv4 [97] [98] = (lv5, 0) := by
  have e : pos lv4.fs [97] = 0 := by rw [lv4, pos_one]; rfl
  have e2 : pos (without lv4.fs 0) [98] = 0 := by
    have : without lv4.fs 0 = [] := rfl
    rw [this, pos_nil]
  simp only [move, e, e2]; rfl
theorem lw7 : drop lv5 [98] = (lv6, 0) := by
  have e : pos lv5.fs [98] = 0 := by rw [lv5, pos_one]; rfl
  simp only [drop, e]; rfl
theorem lw8 : wr lv6 [99] [] false = (lv6, 9) := by rfl
theorem ok0 : lv0.Ok := ⟨fun _ => rfl, by decide, by decide⟩
theorem ok1 : lv1.Ok := ⟨fun h => by simp [lv1] at h, by decide, by decide⟩
theorem ok2 : lv2.Ok := ⟨fun h => by simp [lv2] at h, by decide, by decide⟩
theorem ok4 : lv4.Ok := ⟨fun h => by simp [lv4] at h, by decide, by decide⟩
theorem ok5 : lv5.Ok := ⟨fun h => by simp [lv5] at h, by decide, by decide⟩
theorem ok6 : lv6.Ok := ⟨fun h => by simp [lv6] at h, by decide, by decide⟩

set_option maxRecDepth 4000 in
set_option maxHeartbeats 1000000 in
theorem cLives : Ctr prog 8 [] [] (bV true) [] [] := by
  have c0 : Ctr prog 14 [iV (-1)] [] lv0.pv [] [] := cNew (-1)
  have c1 := cPut lv0 [97] [97, 98] ok0 (fun f h => by simp [lv0] at h)
  have c2 := cSync lv1 [97] ok1
  have c3 := cAppend lv2 [97] [99, 100] ok2 (fun f h => by simp [lv2] at h; subst h; simp)
  have c4 := cCrash lv3 false [1] 2 (by decide)
  have c5 := cGet lv4 [97] (by decide)
  have c6 := cMove lv4 [97] [98] ok4
  have c7 := cDrop lv5 [98] ok5
  have c8 := cPut lv6 [99] [] ok6 (fun f h => by simp [lv6] at h)
  have c9 : Ctr prog 12 [lv6.pv, lv6.pv] [] (bV true) [] [] := cSame false false [] [] 0 0 true true (by decide)
  have c10 : Ctr prog 21 [lv6.pv, sV []] [] (.sl true 1 []) [] [] := cNames false [] 0 true [] (by decide)
  have c11 : Ctr prog 10 [lv6.pv] [] (bV true) [] [] := cValid false [] 0 true (by decide)
  rw [lw1] at c1
  rw [lw2] at c2
  rw [lw3] at c3
  rw [lw4] at c4
  rw [lw5] at c5
  rw [lw6] at c6
  rw [lw7] at c7
  rw [lw8] at c8
  dsimp only [List.map] at c1 c2 c3 c4 c5 c6 c7 c8
  refine Ctr.enter tblOk func8 rfl (by decide) rfl (nt := 98) rfl rfl rfl rfl ?_
  refine Trip.seq ?_
  apply Trip.reg tblOk
  · repeat' (first | exact rfl | exact idx_map _ _ _ (by show _ < _; first | omega | (simp only [List.length_map] at *; omega)) | ((first | with_reducible refine bok ?_ | with_reducible refine bokL ?_ | with_reducible refine bokR ?_ | with_reducible refine Side.mk ?_); first | omega | exact .inl rfl | exact .inr ⟨rfl, rfl, rfl⟩ | exact fun h => h | exact fun _ h => h | exact fun _ h => congrArg Bool.not h | (intro _ h; simp [gpick, h]; done) | (dsimp only; omega) | (simp only [List.length_map]; done) | (simp only [List.length_map, List.length_append, List.length_cons, List.length_nil, Int.toNat_natCast]; omega) | (intro h1 h2; rw [h1, h2]; rfl)) | ((fail_if_success (with_reducible refine Side.mk ?_)); constructor))
  · exact rfl
  apply Trip.regk ⟨[(1, .ref 1 0), (2, iV 0)], [(1, .box (diskCells lv1.nl lv1.fs lv1.left lv1.off))]⟩ tblOk
  · repeat' (first | exact rfl | (apply Rule.sem; intro hγ; with_reducible apply F_call (x := .func 14) (σ := []) (B := []) (news := []) hγ (hspec := c0)) | (apply Rule.sem; intro hγ; with_reducible apply F_call (x := .func 23) (σ := []) (B := []) (news := []) hγ (hspec := c1)) | exact idx_map _ _ _ (by show _ < _; first | omega | (simp only [List.length_map] at *; omega)) | ((first | with_reducible refine bok ?_ | with_reducible refine bokL ?_ | with_reducible refine bokR ?_ | with_reducible refine Side.mk ?_); first | omega | exact .inl rfl | exact .inr ⟨rfl, rfl, rfl⟩ | exact fun h => h | exact fun _ h => h | exact fun _ h => congrArg Bool.not h | (intro _ h; simp [gpick, h]; done) | (dsimp only; omega) | (simp only [List.length_map]; done) | (simp only [List.length_map, List.length_append, List.length_cons, List.length_nil, Int.toNat_natCast]; omega) | (intro h1 h2; rw [h1, h2]; rfl)) | ((fail_if_success (with_reducible refine Side.mk ?_)); constructor))
  · exact rfl
  · apply Weak.keep
    · exact rfl
    · repeat' (first | exact rfl | (refine vI ?_; first | omega | (simp; done) | (simp; omega) | (simp only [List.length_map] at *; omega)) | constructor)
    · repeat' (first | exact rfl | (refine vI ?_; first | omega | (simp; done) | (simp; omega) | (simp only [List.length_map] at *; omega)) | constructor)
    · exact rfl
    · repeat' (first | exact rfl | constructor)
  apply Trip.regk ⟨[(1, .ref 1 0), (2, iV 0), (3, iV 0)], [(1, .box (diskCells lv2.nl lv2.fs lv2.left lv2.off))]⟩ tblOk
  · repeat' (first | exact rfl | (apply Rule.sem; intro hγ; with_reducible apply F_call (x := .func 27) (σ := []) (B := []) (news := []) hγ (hspec := c2)) | exact idx_map _ _ _ (by show _ < _; first | omega | (simp only [List.length_map] at *; omega)) | ((first | with_reducible refine bok ?_ | with_reducible refine bokL ?_ | with_reducible refine bokR ?_ | with_reducible refine Side.mk ?_); first | omega | exact .inl rfl | exact .inr ⟨rfl, rfl, rfl⟩ | exact fun h => h | exact fun _ h => h | exact fun _ h => congrArg Bool.not h | (intro _ h; simp [gpick, h]; done) | (dsimp only; omega) | (simp only [List.length_map]; done) | (simp only [List.length_map, List.length_append, List.length_cons, List.length_nil, Int.toNat_natCast]; omega) | (intro h1 h2; rw [h1, h2]; rfl)) | ((fail_if_success (with_reducible refine Side.mk ?_)); constructor))
  · exact rfl
  · apply Weak.keep
    · exact rfl
    · repeat' (first | exact rfl | (refine vI ?_; first | omega | (simp; done) | (simp; omega) | (simp only [List.length_map] at *; omega)) | constructor)
    · repeat' (first | exact rfl | (refine vI ?_; first | omega | (simp; done) | (simp; omega) | (simp only [List.length_map] at *; omega)) | constructor)
    · exact rfl
    · repeat' (first | exact rfl | constructor)
  apply Trip.regk ⟨[(1, .ref 1 0), (2, iV 0), (3, iV 0), (4, iV 0)], [(1, .box (diskCells lv3.nl lv3.fs lv3.left lv3.off))]⟩ tblOk
  · repeat' (first | exact rfl | (apply Rule.sem; intro hγ; with_reducible apply F_call (x := .func 25) (σ := []) (B := []) (news := []) hγ (hspec := c3)) | exact idx_map _ _ _ (by show _ < _; first | omega | (simp only [List.length_map] at *; omega)) | ((first | with_reducible refine bok ?_ | with_reducible refine bokL ?_ | with_reducible refine bokR ?_ | with_reducible refine Side.mk ?_); first | omega | exact .inl rfl | exact .inr ⟨rfl, rfl, rfl⟩ | exact fun h => h | exact fun _ h => h | exact fun _ h => congrArg Bool.not h | (intro _ h; simp [gpick, h]; done) | (dsimp only; omega) | (simp only [List.length_map]; done) | (simp only [List.length_map, List.length_append, List.length_cons, List.length_nil, Int.toNat_natCast]; omega) | (intro h1 h2; rw [h1, h2]; rfl)) | ((fail_if_success (with_reducible refine Side.mk ?_)); constructor))
  · exact rfl
  · apply Weak.keep
    · exact rfl
    · repeat' (first | exact rfl | (refine vI ?_; first | omega | (simp; done) | (simp; omega) | (simp only [List.length_map] at *; omega)) | constructor)
    · repeat' (first | exact rfl | (refine vI ?_; first | omega | (simp; done) | (simp; omega) | (simp only [List.length_map] at *; omega)) | constructor)
    · exact rfl
    · repeat' (first | exact rfl | constructor)
  apply Trip.regk ⟨[(1, .ref 1 0), (2, iV 0), (3, iV 0), (4, iV 0)], [(1, .box (diskCells lv4.nl lv4.fs lv4.left lv4.off))]⟩ tblOk
  · repeat' (first | exact rfl | (apply Rule.sem; intro hγ; with_reducible apply F_callG (x := .func 9) (σ := []) (G := [27]) (news := []) hγ (hspec := c4)) | (with_reducible apply cvView (B := [27])) | exact idx_map _ _ _ (by show _ < _; first | omega | (simp only [List.length_map] at *; omega)) | ((first | with_reducible refine bok ?_ | with_reducible refine bokL ?_ | with_reducible refine bokR ?_ | with_reducible refine Side.mk ?_); first | omega | exact .inl rfl | exact .inr ⟨rfl, rfl, rfl⟩ | exact fun h => h | exact fun _ h => h | exact fun _ h => congrArg Bool.not h | (intro _ h; simp [gpick, h]; done) | (dsimp only; omega) | (simp only [List.length_map]; done) | (simp only [List.length_map, List.length_append, List.length_cons, List.length_nil, Int.toNat_natCast]; omega) | (intro h1 h2; rw [h1, h2]; rfl) | exact rfl) | ((fail_if_success (with_reducible refine Side.mk ?_)); constructor))
  · exact rfl
  · apply Weak.keep
    · exact rfl
    · repeat' (first | exact rfl | (refine vI ?_; first | omega | (simp; done) | (simp; omega) | (simp only [List.length_map] at *; omega)) | constructor)
    · repeat' (first | exact rfl | (refine vI ?_; first | omega | (simp; done) | (simp; omega) | (simp only [List.length_map] at *; omega)) | constructor)
    · exact rfl
    · repeat' (first | exact rfl | constructor)
  apply Trip.regk ⟨[(1, .ref 1 0), (2, iV 0), (3, iV 0), (4, iV 0), (5, sV [97, 98, 99]), (6, iV 0)], [(1, .box (diskCells lv4.nl lv4.fs lv4.left lv4.off))]⟩ tblOk
  · repeat' (first | exact rfl | (apply Rule.sem; intro hγ; with_reducible apply F_call (x := .func 18) (σ := []) (B := []) (news := []) hγ (hspec := c5)) | exact idx_map _ _ _ (by show _ < _; first | omega | (simp only [List.length_map] at *; omega)) | ((first | with_reducible refine bok ?_ | with_reducible refine bokL ?_ | with_reducible refine bokR ?_ | with_reducible refine Side.mk ?_); first | omega | exact .inl rfl | exact .inr ⟨rfl, rfl, rfl⟩ | exact fun h => h | exact fun _ h => h | exact fun _ h => congrArg Bool.not h | (intro _ h; simp [gpick, h]; done) | (dsimp only; omega) | (simp only [List.length_map]; done) | (simp only [List.length_map, List.length_append, List.length_cons, List.length_nil, Int.toNat_natCast]; omega) | (intro h1 h2; rw [h1, h2]; rfl)) | ((fail_if_success (with_reducible refine Side.mk ?_)); constructor))
  · exact rfl
  · apply Weak.keep
    · exact rfl
    · repeat' (first | exact rfl | (refine vI ?_; first | omega | (simp; done) | (simp; omega) | (simp only [List.length_map] at *; omega)) | constructor)
    · repeat' (first | exact rfl | (refine vI ?_; first | omega | (simp; done) | (simp; omega) | (simp only [List.length_map] at *; omega)) | constructor)
    · exact rfl
    · repeat' (first | exact rfl | constructor)
  apply Trip.regk ⟨[(1, .ref 1 0), (2, iV 0), (3, iV 0), (4, iV 0), (5, sV [97, 98, 99]), (6, iV 0), (7, iV 0)], [(1, .box (diskCells lv5.nl lv5.fs lv5.left lv5.off))]⟩ tblOk
  · repeat' (first | exact rfl | (apply Rule.sem; intro hγ; with_reducible apply F_call (x := .func 28) (σ := []) (B := []) (news := []) hγ (hspec := c6)) | exact idx_map _ _ _ (by show _ < _; first | omega | (simp only [List.length_map] at *; omega)) | ((first | with_reducible refine bok ?_ | with_reducible refine bokL ?_ | with_reducible refine bokR ?_ | with_reducible refine Side.mk ?_); first | omega | exact .inl rfl | exact .inr ⟨rfl, rfl, rfl⟩ | exact fun h => h | exact fun _ h => h | exact fun _ h => congrArg Bool.not h | (intro _ h; simp [gpick, h]; done) | (dsimp only; omega) | (simp only [List.length_map]; done) | (simp only [List.length_map, List.length_append, List.length_cons, List.length_nil, Int.toNat_natCast]; omega) | (intro h1 h2; rw [h1, h2]; rfl)) | ((fail_if_success (with_reducible refine Side.mk ?_)); constructor))
  · exact rfl
  · apply Weak.keep
    · exact rfl
    · repeat' (first | exact rfl | (refine vI ?_; first | omega | (simp; done) | (simp; omega) | (simp only [List.length_map] at *; omega)) | constructor)
    · repeat' (first | exact rfl | (refine vI ?_; first | omega | (simp; done) | (simp; omega) | (simp only [List.length_map] at *; omega)) | constructor)
    · exact rfl
    · repeat' (first | exact rfl | constructor)
  apply Trip.regk ⟨[(1, .ref 1 0), (2, iV 0), (3, iV 0), (4, iV 0), (5, sV [97, 98, 99]), (6, iV 0), (7, iV 0), (8, iV 0)], [(1, .box (diskCells lv6.nl lv6.fs lv6.left lv6.off))]⟩ tblOk
  · repeat' (first | exact rfl | (apply Rule.sem; intro hγ; with_reducible apply F_call (x := .func 29) (σ := []) (B := []) (news := []) hγ (hspec := c7)) | exact idx_map _ _ _ (by show _ < _; first | omega | (simp only [List.length_map] at *; omega)) | ((first | with_reducible refine bok ?_ | with_reducible refine bokL ?_ | with_reducible refine bokR ?_ | with_reducible refine Side.mk ?_); first | omega | exact .inl rfl | exact .inr ⟨rfl, rfl, rfl⟩ | exact fun h => h | exact fun _ h => h | exact fun _ h => congrArg Bool.not h | (intro _ h; simp [gpick, h]; done) | (dsimp only; omega) | (simp only [List.length_map]; done) | (simp only [List.length_map, List.length_append, List.length_cons, List.length_nil, Int.toNat_natCast]; omega) | (intro h1 h2; rw [h1, h2]; rfl)) | ((fail_if_success (with_reducible refine Side.mk ?_)); constructor))
  · exact rfl
  · apply Weak.keep
    · exact rfl
    · repeat' (first | exact rfl | (refine vI ?_; first | omega | (simp; done) | (simp; omega) | (simp only [List.length_map] at *; omega)) | constructor)
    · repeat' (first | exact rfl | (refine vI ?_; first | omega | (simp; done) | (simp; omega) | (simp only [List.length_map] at *; omega)) | constructor)
    · exact rfl
    · repeat' (first | exact rfl | constructor)
  apply Trip.regk ⟨[(1, .ref 1 0), (2, iV 0), (3, iV 0), (4, iV 0), (5, sV [97, 98, 99]), (6, iV 0), (7, iV 0), (8, iV 0), (9, .ref 9 0), (10, iV 9)], [(1, .box (diskCells lv6.nl lv6.fs lv6.left lv6.off)), (9, .box (diskCells lv6.nl lv6.fs lv6.left lv6.off))]⟩ tblOk
  · repeat' (first | exact rfl | (apply Rule.sem; intro hγ; with_reducible apply F_call (x := .func 23) (σ := []) (B := []) (news := []) hγ (hspec := c8)) | exact idx_map _ _ _ (by show _ < _; first | omega | (simp only [List.length_map] at *; omega)) | ((first | with_reducible refine bok ?_ | with_reducible refine bokL ?_ | with_reducible refine bokR ?_ | with_reducible refine Side.mk ?_); first | omega | exact .inl rfl | exact .inr ⟨rfl, rfl, rfl⟩ | exact fun h => h | exact fun _ h => h | exact fun _ h => congrArg Bool.not h | (intro _ h; simp [gpick, h]; done) | (dsimp only; omega) | (simp only [List.length_map]; done) | (simp only [List.length_map, List.length_append, List.length_cons, List.length_nil, Int.toNat_natCast]; omega) | (intro h1 h2; rw [h1, h2]; rfl)) | ((fail_if_success (with_reducible refine Side.mk ?_)); constructor))
  · exact rfl
  · apply Weak.keep
    · exact rfl
    · repeat' (first | exact rfl | (refine vI ?_; first | omega | (simp; done) | (simp; omega) | (simp only [List.length_map] at *; omega)) | constructor)
    · repeat' (first | exact rfl | (refine vI ?_; first | omega | (simp; done) | (simp; omega) | (simp only [List.length_map] at *; omega)) | constructor)
    · exact rfl
    · repeat' (first | exact rfl | constructor)
  refine Trip.seq ?_
  apply Trip.reg tblOk
  · repeat' (first | exact rfl | (apply Rule.sem; intro hγ; with_reducible apply F_call (x := .func 12) (σ := []) (B := []) (news := []) hγ (hspec := c9)) | (apply Rule.sem; intro hγ; with_reducible apply F_call (x := .func 21) (σ := []) (B := []) (news := []) hγ (hspec := c10)) | (apply Rule.sem; intro hγ; with_reducible apply F_call (x := .func 10) (σ := []) (B := []) (news := []) hγ (hspec := c11)) | exact idx_map _ _ _ (by show _ < _; first | omega | (simp only [List.length_map] at *; omega)) | ((first | with_reducible refine bok ?_ | with_reducible refine bokL ?_ | with_reducible refine bokR ?_ | with_reducible refine Side.mk ?_); first | omega | exact .inl rfl | exact .inr ⟨rfl, rfl, rfl⟩ | exact fun h => h | exact fun _ h => h | exact fun _ h => congrArg Bool.not h | (intro _ h; simp [gpick, h]; done) | (dsimp only; omega) | (simp only [List.length_map]; done) | (simp only [List.length_map, List.length_append, List.length_cons, List.length_nil, Int.toNat_natCast]; omega) | (intro h1 h2; rw [h1, h2]; rfl)) | ((fail_if_success (with_reducible refine Side.mk ?_)); constructor))
  · exact rfl
  refine Trip.ret ?_
  apply Ret1 []
  · repeat' (first | exact rfl | constructor)
  · exact rfl
  · repeat' (first | exact rfl | constructor)
end Go.Proofs.Try
