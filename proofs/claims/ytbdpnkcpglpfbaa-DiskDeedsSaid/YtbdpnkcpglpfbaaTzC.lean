/- The law DiskFull of the disk: the walk. -/
import Derived.Test.YtbdpnkcpglpfbaaTzB
import Derived.Test.YtbdpnkcpglpfbaaSymX
namespace Go.Proofs.Try
open Go Go.Sym

theorem rput_nl (d : Disk) (h : d.nl = true → d.fs = []) (name data : List UInt8) : (rput d name data).1.nl = true → (rput d name data).1.fs = [] := by
  simp only [rput, lay2]
  split
  · exact h
  split
  · exact h
  split
  · exact h
  · intro h2; simp [Disk.done2, with2] at h2

set_option maxRecDepth 4000 in
set_option maxHeartbeats 1000000 in
theorem cDiskFull (n m : Int) (hn : 0 ≤ n ∧ n ≤ 255) (hm : 0 ≤ m ∧ m ≤ 255) : Ctr prog 6 [.v (.int .u8 n), .v (.int .u8 m)] [] (bV true) [] [] := by
  have h3 : 0 ≤ n.tmod 3 ∧ n.tmod 3 ≤ 2 := by rw [Int.tmod_eq_emod_of_nonneg hn.1]; omega
  have h4 : 0 ≤ m.tmod 3 ∧ m.tmod 3 ≤ 2 := by rw [Int.tmod_eq_emod_of_nonneg hm.1]; omega
  have h1 : IntKind.i64.wrap (n.tmod 3) = n.tmod 3 := IntWalk.i64_in _ (by omega)
  have h2 : IntKind.i64.wrap (m.tmod 3) = m.tmod 3 := IntWalk.i64_in _ (by omega)
  have hr : ∀ k : Nat, List.replicate k (PV.v (Value.int .u8 0)) = (List.replicate k (0 : UInt8)).map u8V := fun k => by rw [List.map_replicate]; rfl
  have hl2 : (List.replicate (m.tmod 3).toNat (0 : UInt8)).length ≤ 2 := by rw [List.length_replicate]; omega
  have rt0 : Rt lv0.fs lv0.left lv0.off := (right_iff _ _ _).1 (by decide)
  generalize hdt : List.replicate (4194303 + n.tmod 3).toNat (0 : UInt8) = dt at *
  generalize htl : List.replicate (m.tmod 3).toNat (0 : UInt8) = tl at *
  have c14 : Ctr prog 14 [iV (-1)] [] lv0.pv [] [] := cNew (-1)
  have c15 : Ctr prog 15 [iV (-1)] [] lv0.pv [] [] := cNew2 (-1)
  have c23 := cPut lv0 [97] dt ok0 (fun f h => by simp [lv0] at h)
  have c24 := cPut2 lv0 [97] dt ok0
  have hnl := rput_nl lv0 (fun _ => rfl) [97] dt
  have ha := agree_wr rt0 [97] dt false
  rw [if_neg (by simp)] at ha
  generalize wr lv0 [97] dt false = r at *
  generalize rput lv0 [97] dt = s at *
  obtain ⟨⟨nt, ft, lt', ot⟩, et⟩ := r
  obtain ⟨⟨nu, fu, lu, ou⟩, eu⟩ := s
  obtain ⟨a1, a2, a3, a4, a5, a6, a7, a8, a9⟩ := ha
  dsimp only at *
  subst a1 a2 a3 a4
  have hsz : ft.length ≤ 1 := a8
  have htop : lt' ≤ 9223372036854775807 := a9 (by decide)
  have hlow := a5.low
  have hok : Disk.Ok ⟨nu, ft, lt', ot⟩ := ⟨hnl, by dsimp only; omega, by dsimp only; omega, htop⟩
  have hs2 : ∀ f ∈ ft, f.data.length + tl.length ≤ 9223372036854775807 := fun f hf => by have := (a5.ok f hf).len; omega
  have c44 : Ctr prog 12 [D nt ft lt' ot, D nu ft lt' ot] [] (bV true) [] [] := by
    have := cSame nt nu ft ft lt' lt' ot ot (by omega)
    rwa [(same_eq _ _ _ _ _ _).2 ⟨rfl, rfl, rfl⟩] at this
  have c25 := cAppend ⟨nu, ft, lt', ot⟩ [97] tl hok hs2
  have c26 := cAppend2 ⟨nu, ft, lt', ot⟩ [97] tl hok hs2
  have hb := agree_wr (d := ⟨nu, ft, lt', ot⟩) a5 [97] tl true
  rw [if_pos rfl] at hb
  generalize wr ⟨nu, ft, lt', ot⟩ [97] tl true = r2 at *
  generalize rappend ⟨nu, ft, lt', ot⟩ [97] tl = s2 at *
  obtain ⟨⟨nt2, ft2, lt2, ot2⟩, et2⟩ := r2
  obtain ⟨⟨nu2, fu2, lu2, ou2⟩, eu2⟩ := s2
  obtain ⟨b1, b2, b3, b4, b5, b6, b7, b8, b9⟩ := hb
  dsimp only at *
  subst b1 b2 b3 b4
  have c65 : Ctr prog 12 [D nt2 ft2 lt2 ot2, D nu2 ft2 lt2 ot2] [] (bV true) [] [] := by
    have := cSame nt2 nu2 ft2 ft2 lt2 lt2 ot2 ot2 (by omega)
    rwa [(same_eq _ _ _ _ _ _).2 ⟨rfl, rfl, rfl⟩] at this
  refine Ctr.enter tblOk func6 rfl (by decide) rfl (nt := 67) rfl rfl rfl rfl ?_
  refine Trip.seq ?_
  apply Trip.reg tblOk
  · repeat' (first | exact rfl | exact idx_map _ _ _ (by show _ < _; first | omega | (simp only [List.length_map] at *; omega)) | ((first | with_reducible refine bok ?_ | with_reducible refine bokL ?_ | with_reducible refine bokR ?_ | with_reducible refine Side.mk ?_); first | omega | exact .inl rfl | exact .inr ⟨rfl, rfl, rfl⟩ | exact fun h => h | exact fun _ h => h | exact fun _ h => congrArg Bool.not h | (intro _ h; simp [gpick, h]; done) | (dsimp only; omega) | (simp only [List.length_map]; done) | (simp only [List.length_map, List.length_append, List.length_cons, List.length_nil, Int.toNat_natCast]; omega) | (intro h1 h2; rw [h1, h2]; rfl)) | ((fail_if_success (with_reducible refine Side.mk ?_)); constructor))
  · exact rfl
  apply Trip.regk ⟨[(1, .v (.int .u8 m)), (5, sV dt)], []⟩ tblOk
  · repeat' (first | exact rfl | (apply Rule.sem; intro hγ; with_reducible apply F_makeSlice tblOk hγ) | (apply Rule.sem; intro hγ; with_reducible apply F_bytesToString (s := 47) (l := dt) tblOk hγ) | exact idx_map _ _ _ (by show _ < _; first | omega | (simp only [List.length_map] at *; omega)) | ((first | with_reducible refine bok ?_ | with_reducible refine bokL ?_ | with_reducible refine bokR ?_ | with_reducible refine Side.mk ?_); first | omega | exact .inl rfl | exact .inr ⟨rfl, rfl, rfl⟩ | exact fun h => h | exact fun _ h => h | exact fun _ h => congrArg Bool.not h | (intro _ h; simp [gpick, h]; done) | (dsimp only; omega) | (simp only [List.length_map]; done) | (simp only [List.length_map, List.length_append, List.length_cons, List.length_nil, Int.toNat_natCast]; omega) | (intro h1 h2; rw [h1, h2]; rfl) | (rw [List.length_replicate]; done) | (rw [h1, ← hdt, hr]) | (rw [h1]; omega)) | ((fail_if_success (with_reducible refine Side.mk ?_)); constructor))
  · exact rfl
  · apply Weak.keep
    · exact rfl
    · repeat' (first | exact rfl | (refine vI ?_; first | omega | (simp; done) | (simp; omega) | (simp only [List.length_map] at *; omega)) | constructor)
    · repeat' (first | exact rfl | (refine vI ?_; first | omega | (simp; done) | (simp; omega) | (simp only [List.length_map] at *; omega)) | constructor)
    · exact rfl
    · repeat' (first | exact rfl | constructor)
  apply Trip.regk ⟨[(5, sV dt), (6, sV tl)], []⟩ tblOk
  · repeat' (first | exact rfl | (apply Rule.sem; intro hγ; with_reducible apply F_makeSlice tblOk hγ) | (apply Rule.sem; intro hγ; with_reducible apply F_bytesToString (s := 47) (l := tl) tblOk hγ) | exact idx_map _ _ _ (by show _ < _; first | omega | (simp only [List.length_map] at *; omega)) | ((first | with_reducible refine bok ?_ | with_reducible refine bokL ?_ | with_reducible refine bokR ?_ | with_reducible refine Side.mk ?_); first | omega | exact .inl rfl | exact .inr ⟨rfl, rfl, rfl⟩ | exact fun h => h | exact fun _ h => h | exact fun _ h => congrArg Bool.not h | (intro _ h; simp [gpick, h]; done) | (dsimp only; omega) | (simp only [List.length_map]; done) | (simp only [List.length_map, List.length_append, List.length_cons, List.length_nil, Int.toNat_natCast]; omega) | (intro h1 h2; rw [h1, h2]; rfl) | (rw [List.length_replicate]; done) | (rw [h2, ← htl, hr]) | (rw [h2]; omega)) | ((fail_if_success (with_reducible refine Side.mk ?_)); constructor))
  · exact rfl
  · apply Weak.keep
    · exact rfl
    · repeat' (first | exact rfl | (refine vI ?_; first | omega | (simp; done) | (simp; omega) | (simp only [List.length_map] at *; omega)) | constructor)
    · repeat' (first | exact rfl | (refine vI ?_; first | omega | (simp; done) | (simp; omega) | (simp only [List.length_map] at *; omega)) | constructor)
    · exact rfl
    · repeat' (first | exact rfl | constructor)
  apply Trip.regk ⟨[(5, sV dt), (6, sV tl), (7, .ref 7 0), (8, iV et)], [(7, .box (diskCells nt ft lt' ot))]⟩ tblOk
  · repeat' (first | exact rfl | (apply Rule.sem; intro hγ; with_reducible apply F_call0 (x := .func 14) (B := []) hγ (hspec := c14)) | (apply Rule.sem; intro hγ; with_reducible apply F_call (x := .func 14) (σ := []) (B := []) (news := []) hγ (hspec := c14)) | (apply Rule.sem; intro hγ; with_reducible apply F_call0 (x := .func 23) (B := []) hγ (hspec := c23)) | (apply Rule.sem; intro hγ; with_reducible apply F_call (x := .func 23) (σ := []) (B := []) (news := []) hγ (hspec := c23)) | exact idx_map _ _ _ (by show _ < _; first | omega | (simp only [List.length_map] at *; omega)) | ((first | with_reducible refine bok ?_ | with_reducible refine bokL ?_ | with_reducible refine bokR ?_ | with_reducible refine Side.mk ?_); first | omega | exact .inl rfl | exact .inr ⟨rfl, rfl, rfl⟩ | exact fun h => h | exact fun _ h => h | exact fun _ h => congrArg Bool.not h | (intro _ h; simp [gpick, h]; done) | (dsimp only; omega) | (simp only [List.length_map]; done) | (simp only [List.length_map, List.length_append, List.length_cons, List.length_nil, Int.toNat_natCast]; omega) | (intro h1 h2; rw [h1, h2]; rfl)) | ((fail_if_success (with_reducible refine Side.mk ?_)); constructor))
  · exact rfl
  · apply Weak.keep
    · exact rfl
    · repeat' (first | exact rfl | (refine vI ?_; first | omega | (simp; done) | (simp; omega) | (simp only [List.length_map] at *; omega)) | constructor)
    · repeat' (first | exact rfl | (refine vI ?_; first | omega | (simp; done) | (simp; omega) | (simp only [List.length_map] at *; omega)) | constructor)
    · exact rfl
    · repeat' (first | exact rfl | constructor)
  apply Trip.regk ⟨[(6, sV tl), (7, .ref 7 0), (8, iV et), (9, .ref 9 0), (10, iV et)], [(7, .box (diskCells nt ft lt' ot)), (9, .box (diskCells nu ft lt' ot))]⟩ tblOk
  · repeat' (first | exact rfl | (apply Rule.sem; intro hγ; with_reducible apply F_call0 (x := .func 15) (B := []) hγ (hspec := c15)) | (apply Rule.sem; intro hγ; with_reducible apply F_call (x := .func 15) (σ := []) (B := []) (news := []) hγ (hspec := c15)) | (apply Rule.sem; intro hγ; with_reducible apply F_call0 (x := .func 24) (B := []) hγ (hspec := c24)) | (apply Rule.sem; intro hγ; with_reducible apply F_call (x := .func 24) (σ := []) (B := []) (news := []) hγ (hspec := c24)) | exact idx_map _ _ _ (by show _ < _; first | omega | (simp only [List.length_map] at *; omega)) | ((first | with_reducible refine bok ?_ | with_reducible refine bokL ?_ | with_reducible refine bokR ?_ | with_reducible refine Side.mk ?_); first | omega | exact .inl rfl | exact .inr ⟨rfl, rfl, rfl⟩ | exact fun h => h | exact fun _ h => h | exact fun _ h => congrArg Bool.not h | (intro _ h; simp [gpick, h]; done) | (dsimp only; omega) | (simp only [List.length_map]; done) | (simp only [List.length_map, List.length_append, List.length_cons, List.length_nil, Int.toNat_natCast]; omega) | (intro h1 h2; rw [h1, h2]; rfl)) | ((fail_if_success (with_reducible refine Side.mk ?_)); constructor))
  · exact rfl
  · apply Weak.keep
    · exact rfl
    · repeat' (first | exact rfl | (refine vI ?_; first | omega | (simp; done) | (simp; omega) | (simp only [List.length_map] at *; omega)) | constructor)
    · repeat' (first | exact rfl | (refine vI ?_; first | omega | (simp; done) | (simp; omega) | (simp only [List.length_map] at *; omega)) | constructor)
    · exact rfl
    · repeat' (first | exact rfl | constructor)
  refine Trip.seq ?_
  refine Trip.seq ?_
  apply Trip.reg tblOk
  · repeat' (first | exact rfl | (apply Rule.sem; intro hγ; with_reducible apply F_call0 (x := .func 8) (B := []) hγ (hspec := cLives)) | (apply Rule.sem; intro hγ; with_reducible apply F_call (x := .func 8) (σ := []) (B := []) (news := []) hγ (hspec := cLives)) | (apply Rule.sem; intro hγ; with_reducible apply F_call0 (x := .func 12) (B := []) hγ (hspec := c44)) | (apply Rule.sem; intro hγ; with_reducible apply F_call (x := .func 12) (σ := []) (B := []) (news := []) hγ (hspec := c44)) | exact idx_map _ _ _ (by show _ < _; first | omega | (simp only [List.length_map] at *; omega)) | ((first | with_reducible refine bok ?_ | with_reducible refine bokL ?_ | with_reducible refine bokR ?_ | with_reducible refine Side.mk ?_); first | omega | exact .inl rfl | exact .inr ⟨rfl, rfl, rfl⟩ | exact fun h => h | exact fun _ h => h | exact fun _ h => congrArg Bool.not h | (intro _ h; simp [gpick, h]; done) | (dsimp only; omega) | (simp only [List.length_map]; done) | (simp only [List.length_map, List.length_append, List.length_cons, List.length_nil, Int.toNat_natCast]; omega) | (intro h1 h2; rw [h1, h2]; rfl)) | ((fail_if_success (with_reducible refine Side.mk ?_)); constructor))
  · exact rfl
  apply Trip.cond (.tmp rfl)
  · intro h
    exfalso
    rw [decide_eq_true rfl] at h
    exact absurd h (by decide)
  intro _
  refine Trip.skip ?_
  apply Trip.regk ⟨[(6, sV tl), (7, .ref 7 0), (8, iV et2), (9, .ref 9 0)], [(7, .box (diskCells nt2 ft2 lt2 ot2)), (9, .box (diskCells nu ft lt' ot))]⟩ tblOk
  · repeat' (first | exact rfl | (apply Rule.sem; intro hγ; with_reducible apply F_call0 (x := .func 25) (B := []) hγ (hspec := c25)) | (apply Rule.sem; intro hγ; with_reducible apply F_call (x := .func 25) (σ := []) (B := []) (news := []) hγ (hspec := c25)) | exact idx_map _ _ _ (by show _ < _; first | omega | (simp only [List.length_map] at *; omega)) | ((first | with_reducible refine bok ?_ | with_reducible refine bokL ?_ | with_reducible refine bokR ?_ | with_reducible refine Side.mk ?_); first | omega | exact .inl rfl | exact .inr ⟨rfl, rfl, rfl⟩ | exact fun h => h | exact fun _ h => h | exact fun _ h => congrArg Bool.not h | (intro _ h; simp [gpick, h]; done) | (dsimp only; omega) | (simp only [List.length_map]; done) | (simp only [List.length_map, List.length_append, List.length_cons, List.length_nil, Int.toNat_natCast]; omega) | (intro h1 h2; rw [h1, h2]; rfl)) | ((fail_if_success (with_reducible refine Side.mk ?_)); constructor))
  · exact rfl
  · apply Weak.keep
    · exact rfl
    · repeat' (first | exact rfl | (refine vI ?_; first | omega | (simp; done) | (simp; omega) | (simp only [List.length_map] at *; omega)) | constructor)
    · repeat' (first | exact rfl | (refine vI ?_; first | omega | (simp; done) | (simp; omega) | (simp only [List.length_map] at *; omega)) | constructor)
    · exact rfl
    · repeat' (first | exact rfl | constructor)
  apply Trip.regk ⟨[(7, .ref 7 0), (8, iV et2), (9, .ref 9 0), (10, iV et2)], [(7, .box (diskCells nt2 ft2 lt2 ot2)), (9, .box (diskCells nu2 ft2 lt2 ot2))]⟩ tblOk
  · repeat' (first | exact rfl | (apply Rule.sem; intro hγ; with_reducible apply F_call0 (x := .func 26) (B := []) hγ (hspec := c26)) | (apply Rule.sem; intro hγ; with_reducible apply F_call (x := .func 26) (σ := []) (B := []) (news := []) hγ (hspec := c26)) | exact idx_map _ _ _ (by show _ < _; first | omega | (simp only [List.length_map] at *; omega)) | ((first | with_reducible refine bok ?_ | with_reducible refine bokL ?_ | with_reducible refine bokR ?_ | with_reducible refine Side.mk ?_); first | omega | exact .inl rfl | exact .inr ⟨rfl, rfl, rfl⟩ | exact fun h => h | exact fun _ h => h | exact fun _ h => congrArg Bool.not h | (intro _ h; simp [gpick, h]; done) | (dsimp only; omega) | (simp only [List.length_map]; done) | (simp only [List.length_map, List.length_append, List.length_cons, List.length_nil, Int.toNat_natCast]; omega) | (intro h1 h2; rw [h1, h2]; rfl)) | ((fail_if_success (with_reducible refine Side.mk ?_)); constructor))
  · exact rfl
  · apply Weak.keep
    · exact rfl
    · repeat' (first | exact rfl | (refine vI ?_; first | omega | (simp; done) | (simp; omega) | (simp only [List.length_map] at *; omega)) | constructor)
    · repeat' (first | exact rfl | (refine vI ?_; first | omega | (simp; done) | (simp; omega) | (simp only [List.length_map] at *; omega)) | constructor)
    · exact rfl
    · repeat' (first | exact rfl | constructor)
  refine Trip.seq ?_
  apply Trip.reg tblOk
  · repeat' (first | exact rfl | (apply Rule.sem; intro hγ; with_reducible apply F_call0 (x := .func 12) (B := []) hγ (hspec := c65)) | (apply Rule.sem; intro hγ; with_reducible apply F_call (x := .func 12) (σ := []) (B := []) (news := []) hγ (hspec := c65)) | exact idx_map _ _ _ (by show _ < _; first | omega | (simp only [List.length_map] at *; omega)) | ((first | with_reducible refine bok ?_ | with_reducible refine bokL ?_ | with_reducible refine bokR ?_ | with_reducible refine Side.mk ?_); first | omega | exact .inl rfl | exact .inr ⟨rfl, rfl, rfl⟩ | exact fun h => h | exact fun _ h => h | exact fun _ h => congrArg Bool.not h | (intro _ h; simp [gpick, h]; done) | (dsimp only; omega) | (simp only [List.length_map]; done) | (simp only [List.length_map, List.length_append, List.length_cons, List.length_nil, Int.toNat_natCast]; omega) | (intro h1 h2; rw [h1, h2]; rfl)) | ((fail_if_success (with_reducible refine Side.mk ?_)); constructor))
  · exact rfl
  refine Trip.ret ?_
  apply Ret1 []
  · repeat' (first | exact rfl | constructor)
  · exact rfl
  · repeat' (first | exact rfl | (refine cvB ?_; rw [decide_eq_true rfl]; rfl) | constructor)
end Go.Proofs.Try
