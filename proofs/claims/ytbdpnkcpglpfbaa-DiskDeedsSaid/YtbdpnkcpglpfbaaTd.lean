/- slices.Insert at []DiskFile. -/
import Derived.Test.YtbdpnkcpglpfbaaTc
namespace Go.Proofs.Try
open Go Go.Sym

theorem o51a : Extern.findNext f51 = none := by kernel_rfl
theorem o51b : Extern.find f51 = some (Extern.SlicesOverlaps.overlaps #[22, 22] #[4]) := by kernel_rfl
theorem o51c : (f51.name == "runtime.NumGoroutine") = false := by kernel_rfl
theorem o51e : f51.body.isNone = true := by kernel_rfl

theorem ov51 {γ : Bool} {S : St} {dst : Option Nat} {ty : Nat} {pos : String} {aft : Array Edge} {g : Option (Nat × Bool)} {x y z : Operand} {ats : Array TypeId} {o off len n sz : Nat} {isnil nl : Bool} {es xs : List PV} (hγ : γ = true) (hx : OpdO γ S x (.clo (.func 51) [] [])) (hy : OpdO γ S y (.sl nl 3 xs)) (hz : OpdO γ S z (.osl o off len n)) (hne : Side (xs ≠ [])) (ho : S.obj o = some (.arr sz isnil es)) (hs : Side (n = es.length)) :
    FStep prog ⟨dst, .call { callee := .value x, args := #[y, z], argTypes := ats }, ty, pos, aft, g⟩ S [o] ⟨bV false, []⟩ :=
  F_overlaps (f := 51) (t := 22) (tR := 4) tblOk hγ hx hy hz rfl hne func51 o51c o51e o51a o51b rfl rfl rfl rfl ho hs

set_option maxHeartbeats 400000 in
set_option maxRecDepth 4000 in
theorem insert (nl : Bool) (es xs : List PV) (i : Nat) (hi : i ≤ es.length) (hx : xs ≠ []) (hp : plainL es = true) (hpx : plainL xs = true) (hc : cellsOkL (cellsOf es) = true) (hcx : cellsOkL (cellsOf xs) = true) (hb : es.length + xs.length ≤ 1000000000000) :
    Ctr prog 50 [.osl PN 0 es.length es.length, iV i, .sl false 3 xs] [.arr 3 nl es] (.osl PN 0 (es.length + xs.length) (es.length + xs.length)) [.arr 3 false (es.take i ++ (xs ++ es.drop i))] [] := by
  have hx0 : 0 < xs.length := List.length_pos_iff.2 hx
  have hp2 : plainL (es.take i ++ (xs ++ es.drop i)) = true := plainL_of fun p h => by
    simp only [List.mem_append] at h
    rcases h with h | h | h
    · exact plainL_mem hp p (List.mem_of_mem_take h)
    · exact plainL_mem hpx p h
    · exact plainL_mem hp p (List.mem_of_mem_drop h)
  refine Ctr.enter tblOk func50 rfl (by decide) rfl (nt := 95) rfl rfl rfl rfl ?_
  refine Trip.seq ?_
  apply Trip.reg tblOk
  · repeat' (first | exact rfl | ((first | with_reducible refine bok ?_ | with_reducible refine bokL ?_ | with_reducible refine bokR ?_ | with_reducible refine Side.mk ?_); first | omega | exact .inl rfl | exact .inr ⟨rfl, rfl, rfl⟩ | exact fun h => h | exact fun _ h => h | exact fun _ h => congrArg Bool.not h | (intro _ h; simp [gpick, h]; done) | (dsimp only; omega)) | ((fail_if_success (with_reducible refine Side.mk ?_)); constructor))
  · exact rfl
  refine Trip.seq ?_
  apply Trip.reg tblOk
  · repeat' (first | exact rfl | ((first | with_reducible refine bok ?_ | with_reducible refine bokL ?_ | with_reducible refine bokR ?_ | with_reducible refine Side.mk ?_); first | omega | exact .inl rfl | exact .inr ⟨rfl, rfl, rfl⟩ | exact fun h => h | exact fun _ h => h | exact fun _ h => congrArg Bool.not h | (intro _ h; simp [gpick, h]; done) | (dsimp only; omega)) | ((fail_if_success (with_reducible refine Side.mk ?_)); constructor))
  · exact rfl
  apply Trip.regk ⟨[(0, .osl PN 0 es.length es.length), (1, iV i), (2, .sl false 3 xs), (6, nilS), (7, iV xs.length)], [(PN, .arr 3 nl es)]⟩ tblOk
  · repeat' (first | exact rfl | ((first | with_reducible refine bok ?_ | with_reducible refine bokL ?_ | with_reducible refine bokR ?_ | with_reducible refine Side.mk ?_); first | omega | exact .inl rfl | exact .inr ⟨rfl, rfl, rfl⟩ | exact fun h => h | exact fun _ h => h | exact fun _ h => congrArg Bool.not h | (intro _ h; simp [gpick, h]; done) | (dsimp only; omega)) | ((fail_if_success (with_reducible refine Side.mk ?_)); constructor))
  · exact rfl
  · apply Weak.keep
    · exact rfl
    · repeat' (first | exact rfl | exact hp | constructor)
    · repeat' (first | exact rfl | exact hp | constructor)
    · exact rfl
    · repeat' (first | exact rfl | exact hp | constructor)
  refine Trip.seq ?_
  refine Trip.seq ?_
  apply Trip.reg tblOk
  · repeat' (first | exact rfl | ((first | with_reducible refine bok ?_ | with_reducible refine bokL ?_ | with_reducible refine bokR ?_ | with_reducible refine Side.mk ?_); first | omega | exact .inl rfl | exact .inr ⟨rfl, rfl, rfl⟩ | exact fun h => h | exact fun _ h => h | exact fun _ h => congrArg Bool.not h | (intro _ h; simp [gpick, h]; done) | (dsimp only; omega)) | ((fail_if_success (with_reducible refine Side.mk ?_)); constructor))
  · exact rfl
  apply Trip.cond (.tmp rfl)
  · intro h
    exfalso
    simp at h
    exact hx h
  intro _
  refine Trip.skip ?_
  apply Trip.regk ⟨[(0, .osl PN 0 es.length es.length), (1, iV i), (2, .sl false 3 xs), (6, nilS), (7, iV xs.length), (8, iV es.length)], [(PN, .arr 3 nl es)]⟩ tblOk
  · repeat' (first | exact rfl | ((first | with_reducible refine bok ?_ | with_reducible refine bokL ?_ | with_reducible refine bokR ?_ | with_reducible refine Side.mk ?_); first | omega | exact .inl rfl | exact .inr ⟨rfl, rfl, rfl⟩ | exact fun h => h | exact fun _ h => h | exact fun _ h => congrArg Bool.not h | (intro _ h; simp [gpick, h]; done) | (dsimp only; omega)) | ((fail_if_success (with_reducible refine Side.mk ?_)); constructor))
  · exact rfl
  · apply Weak.keep
    · exact rfl
    · repeat' (first | exact rfl | exact hp | constructor)
    · repeat' (first | exact rfl | exact hp | constructor)
    · exact rfl
    · repeat' (first | exact rfl | exact hp | constructor)
  refine Trip.seq ?_
  refine Trip.seq ?_
  apply Trip.reg tblOk
  · repeat' (first | exact rfl | ((first | with_reducible refine bok ?_ | with_reducible refine bokL ?_ | with_reducible refine bokR ?_ | with_reducible refine Side.mk ?_); first | omega | exact .inl rfl | exact .inr ⟨rfl, rfl, rfl⟩ | exact fun h => h | exact fun _ h => h | exact fun _ h => congrArg Bool.not h | (intro _ h; simp [gpick, h]; done) | (dsimp only; omega)) | ((fail_if_success (with_reducible refine Side.mk ?_)); constructor))
  · exact rfl
  apply Trip.cond (.tmp rfl)
  · intro h
    have h : i = es.length := by simp at h; omega
    subst h
    have e1 : (SObj.arr 3 (nl && xs.isEmpty) (es ++ xs)) = .arr 3 false (es.take es.length ++ (xs ++ es.drop es.length)) := by
      congr 1
      · cases xs <;> simp at hx ⊢
      · simp
    have e2 : PV.osl PN 0 (es ++ xs).length (es ++ xs).length = .osl PN 0 (es.length + xs.length) (es.length + xs.length) := by rw [List.length_append]
    apply Trip.regk ⟨[(6, .osl PN 0 (es.length + xs.length) (es.length + xs.length))], [(PN, .arr 3 false (es.take es.length ++ (xs ++ es.drop es.length)))]⟩ tblOk
    · repeat' (first | exact rfl | ((first | with_reducible refine bok ?_ | with_reducible refine bokL ?_ | with_reducible refine bokR ?_ | with_reducible refine Side.mk ?_); first | omega | exact .inl rfl | exact .inr ⟨rfl, rfl, rfl⟩ | exact fun h => h | exact fun _ h => h | exact fun _ h => congrArg Bool.not h | (intro _ h; simp [gpick, h]; done) | (dsimp only; omega) | exact hcx) | ((fail_if_success (with_reducible refine Side.mk ?_)); constructor))
    · exact rfl
    · apply Weak.keep
      · exact rfl
      · repeat' (first | exact rfl | exact e1 | exact e2 | exact hp2 | constructor)
      · repeat' (first | exact rfl | exact e1 | exact e2 | exact hp2 | constructor)
      · exact rfl
      · repeat' (first | exact rfl | exact e1 | exact e2 | exact hp2 | constructor)
    refine Trip.ret ?_
    refine ⟨_, _, [], [], [.arr 3 false (es.take es.length ++ (xs ++ es.drop es.length))], [], .cons rfl .nil, .one, .cons rfl .nil, .nil, rfl, rfl, rfl, ?_, ?_, ?_⟩
    all_goals repeat' (first | exact rfl | exact hp2 | constructor)
  intro h
  have h : i < es.length := by simp at h; omega
  refine Trip.skip ?_
  apply Trip.openCap (o := PN) rfl
  intro cap hcap hnl
  refine Trip.seq ?_
  refine Trip.seq ?_
  apply Trip.reg tblOk
  · repeat' (first | exact rfl | (apply Rule.sem; intro hγ; apply F_cap tblOk hγ) | ((first | with_reducible refine bok ?_ | with_reducible refine bokL ?_ | with_reducible refine bokR ?_ | with_reducible refine Side.mk ?_); first | omega | exact .inl rfl | exact .inr ⟨rfl, rfl, rfl⟩ | exact fun h => h | exact fun _ h => h | exact fun _ h => congrArg Bool.not h | (intro _ h; simp [gpick, h]; done) | (dsimp only; omega)) | ((fail_if_success (with_reducible refine Side.mk ?_)); constructor))
  · exact rfl
  apply Trip.cond (.tmp rfl)
  · intro h
    have h : cap < es.length + xs.length := by simp at h; omega
    have q1 : PV.osl 40 0 (((i : Int).toNat - 0) + ((es.length : Int) + xs.length - i).toNat) (((i : Int).toNat - 0) + ((es.length : Int) + xs.length - i).toNat) = .osl 40 0 (es.length + xs.length) (es.length + xs.length) := by
      congr 1 <;> omega
    have q2 : SObj.arr 3 false (es.take ((i : Int).toNat - 0) ++ List.replicate ((es.length : Int) + xs.length - i).toNat (deadE 3)) = .arr 3 false (es.take i ++ List.replicate (es.length + xs.length - i) (deadE 3)) := by
      congr 3 <;> omega
    have hpd : plainL (es.take i ++ List.replicate (es.length + xs.length - i) (deadE 3)) = true := plainL_of fun p h => by
      rcases List.mem_append.1 h with h | h
      · exact plainL_mem hp p (List.mem_of_mem_take h)
      · rw [List.eq_of_mem_replicate h]; rfl
    have hpe : plainL (es.take i ++ (xs ++ List.replicate (es.length - i) (deadE 3))) = true := plainL_of fun p h => by
      simp only [List.mem_append] at h
      rcases h with h | h | h
      · exact plainL_mem hp p (List.mem_of_mem_take h)
      · exact plainL_mem hpx p h
      · rw [List.eq_of_mem_replicate h]; rfl
    have r1 := ins1 es xs (deadE 3) i (by omega)
    have r2 := ins2 es xs (deadE 3) i (by omega)
    have r1' : ∀ nl, SObj.arr 3 nl _ = SObj.arr 3 nl _ := fun nl => congrArg (SObj.arr 3 nl) r1
    have r2' : ∀ nl, SObj.arr 3 nl _ = SObj.arr 3 nl _ := fun nl => congrArg (SObj.arr 3 nl) r2
    apply Trip.regk ⟨[(0, .osl PN 0 es.length es.length), (1, iV i), (2, .sl false 3 xs), (7, iV xs.length), (8, iV es.length), (9, .osl 40 0 (es.length + xs.length) (es.length + xs.length))], [(PN, .arrc 3 nl es cap), (40, .arr 3 false (es.take i ++ List.replicate (es.length + xs.length - i) (deadE 3)))]⟩ tblOk
    · repeat' (first | exact rfl | (apply Rule.sem; intro hγ; apply F_sliceC tblOk hγ) | (apply Rule.sem; intro hγ; apply F_appendOver' tblOk hγ) | ((first | with_reducible refine bok ?_ | with_reducible refine bokL ?_ | with_reducible refine bokR ?_ | with_reducible refine Side.mk ?_); first | omega | exact .inl rfl | exact .inr ⟨rfl, rfl, rfl⟩ | exact fun h => h | exact fun _ h => h | exact fun _ h => congrArg Bool.not h | (intro _ h; simp [gpick, h]; done) | (dsimp only; omega) | (simp only [hiOf, loOf]; omega)) | ((fail_if_success (with_reducible refine Side.mk ?_)); constructor))
    · exact rfl
    · apply Weak.keep
      · exact rfl
      · repeat' (first | exact rfl | exact q1 | exact q2 | exact hp | exact hpd | constructor)
      · repeat' (first | exact rfl | exact q1 | exact q2 | exact hp | exact hpd | constructor)
      · exact rfl
      · repeat' (first | exact rfl | exact q1 | exact q2 | exact hp | exact hpd | constructor)
    apply Trip.weak (Weak.closeCap (o := PN) rfl)
    apply Trip.regk ⟨[(0, .osl PN 0 es.length es.length), (1, iV i), (2, .sl false 3 xs), (7, iV xs.length), (8, iV es.length), (9, .osl 40 0 (es.length + xs.length) (es.length + xs.length))], [(PN, .arr 3 nl es), (40, .arr 3 false (es.take i ++ (xs ++ List.replicate (es.length - i) (deadE 3))))]⟩ tblOk
    · repeat' (first | exact rfl | (apply Rule.sem; intro hγ; apply F_copy tblOk hγ) | ((first | with_reducible refine bok ?_ | with_reducible refine bokL ?_ | with_reducible refine bokR ?_ | with_reducible refine Side.mk ?_); first | omega | exact .inl rfl | exact .inr ⟨rfl, rfl, rfl⟩ | exact fun h => h | exact fun _ h => h | exact fun _ h => congrArg Bool.not h | (intro _ h; simp [gpick, h]; done) | (dsimp only; omega) | exact okT hcx _ | (simp; omega)) | ((fail_if_success (with_reducible refine Side.mk ?_)); constructor))
    · exact rfl
    · apply Weak.keep
      · exact rfl
      · repeat' (first | exact rfl | exact r1' _ | exact hp | exact hpe | constructor)
      · repeat' (first | exact rfl | exact r1' _ | exact hp | exact hpe | constructor)
      · exact rfl
      · repeat' (first | exact rfl | exact r1' _ | exact hp | exact hpe | constructor)
    have hpg : plainL (es.take i ++ (xs ++ es.drop i)) = true := hp2
    apply Trip.drwk ⟨[(9, .osl 40 0 (es.length + xs.length) (es.length + xs.length))], [(PN, .arr 3 nl es), (40, .arr 3 false (es.take i ++ (xs ++ es.drop i)))]⟩ tblOk mixed
    · repeat' (first | exact rfl | (apply Rule.sem; intro hγ; apply F_copy tblOk hγ) | ((first | with_reducible refine bok ?_ | with_reducible refine bokL ?_ | with_reducible refine bokR ?_ | with_reducible refine Side.mk ?_); first | omega | exact .inl rfl | exact .inr ⟨rfl, rfl, rfl⟩ | exact fun h => h | exact fun _ h => h | exact fun _ h => congrArg Bool.not h | (intro _ h; simp [gpick, h]; done) | (dsimp only; omega) | exact okDTT hc _ _ _ | (simp; omega)) | ((fail_if_success (with_reducible refine Side.mk ?_)); constructor))
    · exact rfl
    · kernel_rfl
    · apply Weak.keep
      · exact rfl
      · repeat' (first | exact rfl | exact r2' _ | exact hp | exact hp2 | constructor)
      · repeat' (first | exact rfl | exact r2' _ | exact hp | exact hp2 | constructor)
      · exact rfl
      · repeat' (first | exact rfl | exact r2' _ | exact hp | exact hp2 | constructor)
    apply Trip.regk ⟨[(6, .osl 40 0 (es.length + xs.length) (es.length + xs.length))], [(PN, .arr 3 nl es), (40, .arr 3 false (es.take i ++ (xs ++ es.drop i)))]⟩ tblOk
    · repeat' (first | exact rfl | ((first | with_reducible refine bok ?_ | with_reducible refine bokL ?_ | with_reducible refine bokR ?_ | with_reducible refine Side.mk ?_); first | omega | exact .inl rfl | exact .inr ⟨rfl, rfl, rfl⟩ | exact fun h => h | exact fun _ h => h | exact fun _ h => congrArg Bool.not h | (intro _ h; simp [gpick, h]; done) | (dsimp only; omega)) | ((fail_if_success (with_reducible refine Side.mk ?_)); constructor))
    · exact rfl
    · apply Weak.keep
      · exact rfl
      · repeat' (first | exact rfl | exact hp | exact hp2 | constructor)
      · repeat' (first | exact rfl | exact hp | exact hp2 | constructor)
      · exact rfl
      · repeat' (first | exact rfl | exact hp | exact hp2 | constructor)
    apply Trip.weak (Weak.shift (t' := [(6, .osl PN 0 (es.length + xs.length) (es.length + xs.length))]) PN 40 3 (by decide) (.inl rfl) rfl (by show es.length < _; simp; omega) hp2 (by decide) rfl (by repeat' (first | exact rfl | constructor)))
    refine Trip.ret ?_
    refine ⟨_, _, [], [], [.arr 3 false (es.take i ++ (xs ++ es.drop i))], [], .cons rfl .nil, .one, .cons rfl .nil, .nil, rfl, rfl, rfl, ?_, ?_, ?_⟩
    all_goals repeat' (first | exact rfl | exact hp2 | constructor)
  intro h
  have h : es.length + xs.length ≤ cap := by simp at h; omega
  have hnl : nl = false := by
    cases nl with
    | false => rfl
    | true => have := hnl rfl; omega
  subst hnl
  have hpd : plainL (es ++ List.replicate xs.length (deadE 3)) = true := plainL_of fun p h => by
    rcases List.mem_append.1 h with h | h
    · exact plainL_mem hp p h
    · rw [List.eq_of_mem_replicate h]; rfl
  have hpe : plainL ((es ++ List.replicate xs.length (deadE 3)).take (i + xs.length) ++ es.drop i) = true := plainL_of fun p h => by
    rcases List.mem_append.1 h with h | h
    · exact plainL_mem hpd p (List.mem_of_mem_take h)
    · exact plainL_mem hp p (List.mem_of_mem_drop h)
  have hcd := (congrArg (fun l => cellsOkL (cellsOf l)) (ins3c es xs (deadE 3) i (by omega))).trans (okD hc i)
  have t1 : (SObj.arr 3 false (es ++ List.replicate (((es.length : Int) + xs.length).toNat - es.length) (deadE 3))) = .arr 3 false (es ++ List.replicate xs.length (deadE 3)) := by
    congr 3; omega
  have t2 : PV.osl PN 0 ((es.length : Int) + xs.length).toNat ((es.length : Int) + xs.length).toNat = .osl PN 0 (es.length + xs.length) (es.length + xs.length) := by
    congr 1
  have r3 : ∀ nl, SObj.arr 3 nl _ = SObj.arr 3 nl _ := fun nl => congrArg (SObj.arr 3 nl) (ins3 es xs (deadE 3) i (by omega))
  have r4 : ∀ nl, SObj.arr 3 nl _ = SObj.arr 3 nl _ := fun nl => congrArg (SObj.arr 3 nl) (ins4 es xs (deadE 3) i (by omega))
  refine Trip.skip ?_
  apply Trip.regk ⟨[(0, .osl PN 0 (es.length + xs.length) (es.length + xs.length)), (1, iV i), (2, .sl false 3 xs), (7, iV xs.length), (8, iV es.length)], [(PN, .arr 3 false (es ++ List.replicate xs.length (deadE 3)))]⟩ tblOk
  · repeat' (first | exact rfl | (apply Rule.sem; intro hγ; apply F_sliceUp tblOk hγ) | ((first | with_reducible refine bok ?_ | with_reducible refine bokL ?_ | with_reducible refine bokR ?_ | with_reducible refine Side.mk ?_); first | omega | exact .inl rfl | exact .inr ⟨rfl, rfl, rfl⟩ | exact fun h => h | exact fun _ h => h | exact fun _ h => congrArg Bool.not h | (intro _ h; simp [gpick, h]; done) | (dsimp only; omega)) | ((fail_if_success (with_reducible refine Side.mk ?_)); constructor))
  · exact rfl
  · apply Weak.keep
    · exact rfl
    · repeat' (first | exact rfl | exact t1 | exact t2 | exact hpd | constructor)
    · repeat' (first | exact rfl | exact t1 | exact t2 | exact hpd | constructor)
    · exact rfl
    · repeat' (first | exact rfl | exact t1 | exact t2 | exact hpd | constructor)
  refine Trip.seq ?_
  refine Trip.seq ?_
  apply Trip.reg tblOk
  · repeat' (first | exact rfl | (apply Rule.sem; intro hγ; with_reducible apply ov51 hγ) | ((first | with_reducible refine bok ?_ | with_reducible refine bokL ?_ | with_reducible refine bokR ?_ | with_reducible refine Side.mk ?_); first | omega | exact .inl rfl | exact .inr ⟨rfl, rfl, rfl⟩ | exact fun h => h | exact fun _ h => h | exact fun _ h => congrArg Bool.not h | (intro _ h; simp [gpick, h]; done) | (dsimp only; omega) | exact hx | (simp; done) | (simp; omega)) | ((fail_if_success (with_reducible refine Side.mk ?_)); constructor))
  · exact rfl
  apply Trip.cond (.tmp rfl)
  · intro _
    apply Trip.drwk ⟨[(0, .osl PN 0 (es.length + xs.length) (es.length + xs.length)), (1, iV i), (2, .sl false 3 xs)], [(PN, .arr 3 false ((es ++ List.replicate xs.length (deadE 3)).take (i + xs.length) ++ es.drop i))]⟩ tblOk mixed
    · repeat' (first | exact rfl | (apply Rule.sem; intro hγ; apply F_copy tblOk hγ) | ((first | with_reducible refine bok ?_ | with_reducible refine bokL ?_ | with_reducible refine bokR ?_ | with_reducible refine Side.mk ?_); first | omega | exact .inl rfl | exact .inr ⟨rfl, rfl, rfl⟩ | exact fun h => h | exact fun _ h => h | exact fun _ h => congrArg Bool.not h | (intro _ h; simp [gpick, h]; done) | (dsimp only; omega) | exact hcd | (simp; done) | (simp; omega)) | ((fail_if_success (with_reducible refine Side.mk ?_)); constructor))
    · exact rfl
    · kernel_rfl
    · apply Weak.keep
      · exact rfl
      · repeat' (first | exact rfl | exact r3 _ | exact hpe | constructor)
      · repeat' (first | exact rfl | exact r3 _ | exact hpe | constructor)
      · exact rfl
      · repeat' (first | exact rfl | exact r3 _ | exact hpe | constructor)
    apply Trip.regk ⟨[(0, .osl PN 0 (es.length + xs.length) (es.length + xs.length))], [(PN, .arr 3 false (es.take i ++ (xs ++ es.drop i)))]⟩ tblOk
    · repeat' (first | exact rfl | (apply Rule.sem; intro hγ; apply F_copy tblOk hγ) | ((first | with_reducible refine bok ?_ | with_reducible refine bokL ?_ | with_reducible refine bokR ?_ | with_reducible refine Side.mk ?_); first | omega | exact .inl rfl | exact .inr ⟨rfl, rfl, rfl⟩ | exact fun h => h | exact fun _ h => h | exact fun _ h => congrArg Bool.not h | (intro _ h; simp [gpick, h]; done) | (dsimp only; omega) | exact okT hcx _ | (simp; done) | (simp; omega)) | ((fail_if_success (with_reducible refine Side.mk ?_)); constructor))
    · exact rfl
    · apply Weak.keep
      · exact rfl
      · repeat' (first | exact rfl | exact r4 _ | exact hp2 | constructor)
      · repeat' (first | exact rfl | exact r4 _ | exact hp2 | constructor)
      · exact rfl
      · repeat' (first | exact rfl | exact r4 _ | exact hp2 | constructor)
    refine Trip.seq ?_
    apply Trip.reg tblOk
    · repeat' (first | exact rfl | ((first | with_reducible refine bok ?_ | with_reducible refine bokL ?_ | with_reducible refine bokR ?_ | with_reducible refine Side.mk ?_); first | omega | exact .inl rfl | exact .inr ⟨rfl, rfl, rfl⟩ | exact fun h => h | exact fun _ h => h | exact fun _ h => congrArg Bool.not h | (intro _ h; simp [gpick, h]; done) | (dsimp only; omega)) | ((fail_if_success (with_reducible refine Side.mk ?_)); constructor))
    · exact rfl
    refine Trip.ret ?_
    refine ⟨_, _, [], [], [.arr 3 false (es.take i ++ (xs ++ es.drop i))], [], .cons rfl .nil, .one, .cons rfl .nil, .nil, rfl, rfl, rfl, ?_, ?_, ?_⟩
    all_goals repeat' (first | exact rfl | exact hp2 | constructor)
  · intro h
    exact absurd h (by decide)
end Go.Proofs.Try
