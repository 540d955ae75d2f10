/- A part of the proof: Hins, Sc, GLiv. -/
import Derived.Test.YtbnnmnbidkpmcaaGreatDoorPart41
set_option linter.unusedVariables false
set_option linter.unusedSimpArgs false
namespace Go.Proofs.Tryz
open Go Go.Sym Go.Graft
set_option maxRecDepth 20000
theorem o51a : Extern.findNext f78 = none := by kernel_rfl
theorem o51b : Extern.find f78 = some (Extern.SlicesOverlaps.overlaps #[22, 22] #[4]) := by kernel_rfl
theorem o51c : (f78.name == "runtime.NumGoroutine") = false := by kernel_rfl
theorem o51e : f78.body.isNone = true := by kernel_rfl
theorem ov51 {γ : Bool} {S : St} {dst : Option Nat} {ty : Nat} {pos : String} {aft : Array Edge} {g : Option (Nat × Bool)} {x y z : Operand} {ats : Array TypeId} {o off len n sz : Nat} {isnil nl : Bool} {es xs : List PV} (hγ : γ = true) (hx : OpdO γ S x (.clo (.func 78) [] [])) (hy : OpdO γ S y (.sl nl 3 xs)) (hz : OpdO γ S z (.osl o off len n)) (hne : Side (xs ≠ [])) (ho : S.obj o = some (.arr sz isnil es)) (hs : Side (n = es.length)) (h1 : Nat.beq sz 1 = false) :
    FStep prog ⟨dst, .call { callee := .value x, args := #[y, z], argTypes := ats }, ty, pos, aft, g⟩ S [o] ⟨bV false, []⟩ :=
  F_overlaps (f := 78) (t := 22) (tR := 4) tblOk hγ hx hy hz rfl hne func78 o51c o51e o51a o51b rfl rfl rfl rfl ho hs h1
set_option maxHeartbeats 400000 in
set_option maxRecDepth 4000 in
theorem cInsert (nl : Bool) (es xs : List PV) (i : Nat) (hi : i ≤ es.length) (hx : xs ≠ []) (hp : plainL es = true) (hpx : plainL xs = true) (hc : cellsOkL (cellsOf es) = true) (hcx : cellsOkL (cellsOf xs) = true) (hb : es.length + xs.length ≤ 1000000000000) :
    Ctr prog 46 [.osl PN 0 es.length es.length, iV i, .sl false 3 xs] [.arr 3 nl es] (.osl PN 0 (es.length + xs.length) (es.length + xs.length)) [.arr 3 false (es.take i ++ (xs ++ es.drop i))] [] := by
  have hx0 : 0 < xs.length := List.length_pos_iff.2 hx
  have hp2 : plainL (es.take i ++ (xs ++ es.drop i)) = true := plainL_of fun p h => by
    simp only [List.mem_append] at h
    rcases h with h | h | h
    · exact plainL_mem hp p (List.mem_of_mem_take h)
    · exact plainL_mem hpx p h
    · exact plainL_mem hp p (List.mem_of_mem_drop h)
  refine Ctr.enter tblOk func46 rfl (by decide) rfl (nt := 95) rfl rfl rfl rfl ?_
  refine Trip.seq ?_
  apply Trip.reg tblOk
  · repeat' constructor
  · exact rfl
  refine Trip.seq ?_
  apply Trip.reg tblOk
  · repeat' (first | exact rfl | ((with_reducible refine bokL ?_); omega) | constructor)
  · exact rfl
  apply Trip.regk ⟨[(0, .osl PN 0 es.length es.length), (1, iV i), (2, .sl false 3 xs), (6, nilS), (7, iV xs.length)], [(PN, .arr 3 nl es)]⟩ tblOk
  · repeat' (first | exact rfl | constructor)
  · exact rfl
  · apply Weak.keep
    · exact rfl
    · repeat' (first | exact rfl | constructor)
    · repeat' (first | exact rfl | constructor)
    · exact rfl
    · repeat' (first | exact hp | constructor)
  refine Trip.seq ?_
  refine Trip.seq ?_
  apply Trip.reg tblOk
  · repeat' (first | exact rfl | constructor)
  · exact rfl
  apply Trip.cond (.tmp rfl)
  · intro h
    exfalso
    simp at h
    exact hx h
  intro _
  refine Trip.skip ?_
  apply Trip.regk ⟨[(0, .osl PN 0 es.length es.length), (1, iV i), (2, .sl false 3 xs), (6, nilS), (7, iV xs.length), (8, iV es.length)], [(PN, .arr 3 nl es)]⟩ tblOk
  · repeat' (first | exact rfl | constructor)
  · exact rfl
  · apply Weak.keep
    · exact rfl
    · repeat' (first | exact rfl | constructor)
    · repeat' (first | exact rfl | constructor)
    · exact rfl
    · repeat' (first | exact hp | constructor)
  refine Trip.seq ?_
  refine Trip.seq ?_
  apply Trip.reg tblOk
  · repeat' (first | exact rfl | constructor)
  · exact rfl
  apply Trip.cond (.tmp rfl)
  · intro h
    have h : i = es.length := by simp at h; omega
    subst h
    have e1 : (SObj.arr 3 (nl && xs.isEmpty) (es ++ xs)) = .arr 3 false (es.take es.length ++ (xs ++ es.drop es.length)) := by
      congr 1
      · cases xs <;> simp at hx ⊢
      · simp
    have e2 : PV.osl PN 0 (es ++ xs).length (es ++ xs).length = .osl PN 0 (es.length + xs.length) (es.length + xs.length) := by rw [List.length_append]
    apply Trip.regk ⟨[(6, .osl PN 0 (es.length + xs.length) (es.length + xs.length))], [(PN, .arr 3 false (es.take es.length ++ (xs ++ es.drop es.length)))]⟩ tblOk
    · repeat' (first | exact rfl | ((with_reducible refine Side.mk ?_); first | omega | (dsimp only; omega)) | constructor)
    · exact rfl
    · apply Weak.keep
      · exact rfl
      · repeat' (first | exact rfl | exact e2 | constructor)
      · repeat' (first | exact rfl | exact e1 | constructor)
      · exact rfl
      · repeat' (first | exact hp2 | constructor)
    refine Trip.ret ?_
    refine ⟨_, _, [], [], [.arr 3 false (es.take es.length ++ (xs ++ es.drop es.length))], [], .cons rfl .nil, .one, .cons rfl .nil, .nil, rfl, rfl, rfl, ?_, ?_, ?_⟩
    all_goals repeat' (first | exact rfl | exact hp2 | constructor)
  intro h
  have h : i < es.length := by simp at h; omega
  refine Trip.skip ?_
  apply Trip.openCap (o := PN) rfl
  intro cap hcap hnl
  refine Trip.seq ?_
  refine Trip.seq ?_
  apply Trip.reg tblOk
  · repeat' (first | exact rfl | (apply Rule.sem; intro hγ; apply F_cap tblOk hγ) | ((with_reducible refine Side.mk ?_); omega) | constructor)
  · exact rfl
  apply Trip.cond (.tmp rfl)
  · intro h
    have h : cap < es.length + xs.length := by simp at h; omega
    have q1 : PV.osl 40 0 (((i : Int).toNat - 0) + ((es.length : Int) + xs.length - i).toNat) (((i : Int).toNat - 0) + ((es.length : Int) + xs.length - i).toNat) = .osl 40 0 (es.length + xs.length) (es.length + xs.length) := by
      congr 1 <;> omega
    have q2 : SObj.arr 3 false (es.take ((i : Int).toNat - 0) ++ List.replicate ((es.length : Int) + xs.length - i).toNat (deadE 3)) = .arr 3 false (es.take i ++ List.replicate (es.length + xs.length - i) (deadE 3)) := by
      congr 3 <;> omega
    have hpd : plainL (es.take i ++ List.replicate (es.length + xs.length - i) (deadE 3)) = true := plainL_of fun p h => by
      rcases List.mem_append.1 h with h | h
      · exact plainL_mem hp p (List.mem_of_mem_take h)
      · rw [List.eq_of_mem_replicate h]; rfl
    have hpe : plainL (es.take i ++ (xs ++ List.replicate (es.length - i) (deadE 3))) = true := plainL_of fun p h => by
      simp only [List.mem_append] at h
      rcases h with h | h | h
      · exact plainL_mem hp p (List.mem_of_mem_take h)
      · exact plainL_mem hpx p h
      · rw [List.eq_of_mem_replicate h]; rfl
    have r1 := ins1 es xs (deadE 3) i (by omega)
    have r2 := ins2 es xs (deadE 3) i (by omega)
    have r1' : ∀ nl, SObj.arr 3 nl _ = SObj.arr 3 nl _ := fun nl => congrArg (SObj.arr 3 nl) r1
    have r2' : ∀ nl, SObj.arr 3 nl _ = SObj.arr 3 nl _ := fun nl => congrArg (SObj.arr 3 nl) r2
    apply Trip.regk ⟨[(0, .osl PN 0 es.length es.length), (1, iV i), (2, .sl false 3 xs), (7, iV xs.length), (8, iV es.length), (9, .osl 40 0 (es.length + xs.length) (es.length + xs.length))], [(PN, .arrc 3 nl es cap), (40, .arr 3 false (es.take i ++ List.replicate (es.length + xs.length - i) (deadE 3)))]⟩ tblOk
    · repeat' (first | exact rfl | (apply Rule.sem; intro hγ; apply F_sliceC tblOk hγ) | (apply Rule.sem; intro hγ; apply F_appendOver' tblOk hγ) | ((first | with_reducible refine bokR ?_ | with_reducible refine Side.mk ?_); first | omega | (simp only [hiOf, loOf]; omega)) | constructor)
    · exact rfl
    · apply Weak.keep
      · exact rfl
      · repeat' (first | exact rfl | exact q1 | constructor)
      · repeat' (first | exact rfl | exact q2 | constructor)
      · exact rfl
      · repeat' (first | exact hp | exact hpd | constructor)
    apply Trip.weak (Weak.closeCap (o := PN) rfl)
    apply Trip.regk ⟨[(0, .osl PN 0 es.length es.length), (1, iV i), (2, .sl false 3 xs), (7, iV xs.length), (8, iV es.length), (9, .osl 40 0 (es.length + xs.length) (es.length + xs.length))], [(PN, .arr 3 nl es), (40, .arr 3 false (es.take i ++ (xs ++ List.replicate (es.length - i) (deadE 3))))]⟩ tblOk
    · repeat' (first | exact rfl | (apply Rule.sem; intro hγ; apply F_copy tblOk hγ) | ((first | with_reducible refine bokL ?_ | with_reducible refine Side.mk ?_); first | omega | (simp only [ln]; first | done | omega) | exact okT hcx _) | constructor)
    · exact rfl
    · apply Weak.keep
      · exact rfl
      · repeat' (first | exact rfl | constructor)
      · repeat' (first | exact rfl | exact r1' _ | constructor)
      · exact rfl
      · repeat' (first | exact hp | exact hpe | constructor)
    have hpg : plainL (es.take i ++ (xs ++ es.drop i)) = true := hp2
    apply Trip.drwk ⟨[(9, .osl 40 0 (es.length + xs.length) (es.length + xs.length))], [(PN, .arr 3 nl es), (40, .arr 3 false (es.take i ++ (xs ++ es.drop i)))]⟩ tblOk mixed
    · repeat' (first | exact rfl | (apply Rule.sem; intro hγ; apply F_copy tblOk hγ) | ((first | with_reducible refine bokL ?_ | with_reducible refine Side.mk ?_); first | omega | (simp only [ln]; first | done | omega) | exact okDTT hc _ _ _) | constructor)
    · exact rfl
    · kernel_rfl
    · apply Weak.keep
      · exact rfl
      · repeat' (first | exact rfl | constructor)
      · repeat' (first | exact rfl | exact r2' _ | constructor)
      · exact rfl
      · repeat' (first | exact hp | exact hp2 | constructor)
    apply Trip.regk ⟨[(6, .osl 40 0 (es.length + xs.length) (es.length + xs.length))], [(PN, .arr 3 nl es), (40, .arr 3 false (es.take i ++ (xs ++ es.drop i)))]⟩ tblOk
    · repeat' (first | exact rfl | constructor)
    · exact rfl
    · apply Weak.keep
      · exact rfl
      · repeat' (first | exact rfl | constructor)
      · repeat' (first | exact rfl | constructor)
      · exact rfl
      · repeat' (first | exact hp | exact hp2 | constructor)
    apply Trip.weak (Weak.shift (t' := [(6, .osl PN 0 (es.length + xs.length) (es.length + xs.length))]) PN 40 3 (by decide) (.inl rfl) rfl (by show es.length < _; simp; omega) hp2 (by decide) rfl (by repeat' (first | exact rfl | constructor)))
    refine Trip.ret ?_
    refine ⟨_, _, [], [], [.arr 3 false (es.take i ++ (xs ++ es.drop i))], [], .cons rfl .nil, .one, .cons rfl .nil, .nil, rfl, rfl, rfl, ?_, ?_, ?_⟩
    all_goals repeat' (first | exact rfl | exact hp2 | constructor)
  intro h
  have h : es.length + xs.length ≤ cap := by simp at h; omega
  have hnl : nl = false := by
    cases nl with
    | false => rfl
    | true => have := hnl rfl; omega
  subst hnl
  have hpd : plainL (es ++ List.replicate xs.length (deadE 3)) = true := plainL_of fun p h => by
    rcases List.mem_append.1 h with h | h
    · exact plainL_mem hp p h
    · rw [List.eq_of_mem_replicate h]; rfl
  have hpe : plainL ((es ++ List.replicate xs.length (deadE 3)).take (i + xs.length) ++ es.drop i) = true := plainL_of fun p h => by
    rcases List.mem_append.1 h with h | h
    · exact plainL_mem hpd p (List.mem_of_mem_take h)
    · exact plainL_mem hp p (List.mem_of_mem_drop h)
  have hcd := (congrArg (fun l => cellsOkL (cellsOf l)) (ins3c es xs (deadE 3) i (by omega))).trans (okD hc i)
  have t1 : (SObj.arr 3 false (es ++ List.replicate (((es.length : Int) + xs.length).toNat - es.length) (deadE 3))) = .arr 3 false (es ++ List.replicate xs.length (deadE 3)) := by
    congr 3; omega
  have t2 : PV.osl PN 0 ((es.length : Int) + xs.length).toNat ((es.length : Int) + xs.length).toNat = .osl PN 0 (es.length + xs.length) (es.length + xs.length) := by
    congr 1
  have r3 : ∀ nl, SObj.arr 3 nl _ = SObj.arr 3 nl _ := fun nl => congrArg (SObj.arr 3 nl) (ins3 es xs (deadE 3) i (by omega))
  have r4 : ∀ nl, SObj.arr 3 nl _ = SObj.arr 3 nl _ := fun nl => congrArg (SObj.arr 3 nl) (ins4 es xs (deadE 3) i (by omega))
  refine Trip.skip ?_
  apply Trip.regk ⟨[(0, .osl PN 0 (es.length + xs.length) (es.length + xs.length)), (1, iV i), (2, .sl false 3 xs), (7, iV xs.length), (8, iV es.length)], [(PN, .arr 3 false (es ++ List.replicate xs.length (deadE 3)))]⟩ tblOk
  · repeat' (first | exact rfl | (apply Rule.sem; intro hγ; apply F_sliceUp tblOk hγ) | ((with_reducible refine Side.mk ?_); omega) | constructor)
  · exact rfl
  · apply Weak.keep
    · exact rfl
    · repeat' (first | exact rfl | constructor)
    · repeat' (first | exact rfl | exact t1 | constructor)
    · exact rfl
    · repeat' (first | exact hpd | constructor)
  refine Trip.seq ?_
  refine Trip.seq ?_
  apply Trip.reg tblOk
  · repeat' (first | exact rfl | (apply Rule.sem; intro hγ; with_reducible apply ov51 hγ) | ((first | with_reducible refine bokL ?_ | with_reducible refine Side.mk ?_); first | omega | (simp only [ln]; first | done | omega)) | constructor)
  · exact rfl
  apply Trip.cond (.tmp rfl)
  · intro _
    apply Trip.drwk ⟨[(0, .osl PN 0 (es.length + xs.length) (es.length + xs.length)), (1, iV i), (2, .sl false 3 xs)], [(PN, .arr 3 false ((es ++ List.replicate xs.length (deadE 3)).take (i + xs.length) ++ es.drop i))]⟩ tblOk mixed
    · repeat' (first | exact rfl | (apply Rule.sem; intro hγ; apply F_copy tblOk hγ) | ((first | with_reducible refine bokL ?_ | with_reducible refine Side.mk ?_); first | omega | (simp only [ln]; first | done | omega) | exact hcd) | constructor)
    · exact rfl
    · kernel_rfl
    · apply Weak.keep
      · exact rfl
      · repeat' (first | exact rfl | constructor)
      · repeat' (first | exact rfl | exact r3 _ | constructor)
      · exact rfl
      · repeat' (first | exact hpe | constructor)
    apply Trip.regk ⟨[(0, .osl PN 0 (es.length + xs.length) (es.length + xs.length))], [(PN, .arr 3 false (es.take i ++ (xs ++ es.drop i)))]⟩ tblOk
    · repeat' (first | exact rfl | (apply Rule.sem; intro hγ; apply F_copy tblOk hγ) | ((first | with_reducible refine bokL ?_ | with_reducible refine Side.mk ?_); first | omega | (simp only [ln]; first | done | omega) | exact okT hcx _) | constructor)
    · exact rfl
    · apply Weak.keep
      · exact rfl
      · repeat' (first | exact rfl | constructor)
      · repeat' (first | exact rfl | exact r4 _ | constructor)
      · exact rfl
      · repeat' (first | exact hp2 | constructor)
    refine Trip.seq ?_
    apply Trip.reg tblOk
    · repeat' (first | exact rfl | constructor)
    · exact rfl
    refine Trip.ret ?_
    refine ⟨_, _, [], [], [.arr 3 false (es.take i ++ (xs ++ es.drop i))], [], .cons rfl .nil, .one, .cons rfl .nil, .nil, rfl, rfl, rfl, ?_, ?_, ?_⟩
    all_goals repeat' (first | exact rfl | exact hp2 | constructor)
  · intro h
    exact absurd h (by decide)
end Go.Proofs.Tryz
namespace Go.Proofs.Tryz
open Go Go.Sym Go.Graft
set_option maxRecDepth 20000
theorem roL : ∀ l : List It, roFreeL (cellsOf (l.map It.pv)) = true
  | [] => rfl
  | x :: l => by
    have ih := roL l
    simp only [List.map_cons, cellsOf, List.flatMap_cons, PV.cells, It.pv, List.cons_append, List.nil_append, roFreeL, roFree, Bool.true_and] at ih ⊢
    exact ih
theorem putE_whole {l : List It} {k : Int} {b : Str} (h : wholeE k b ≠ 0) : putE l k b = wholeE k b := by rw [putE, if_pos h]
theorem putE_clash {l : List It} {k : Int} {b : Str} (h : wholeE k b = 0) (h2 : clashP l k b = true) : putE l k b = 170 := by rw [putE, if_neg (by simp [h]), if_pos h2]
theorem putE_big {l : List It} {k : Int} {b : Str} (h : wholeE k b = 0) (h2 : clashP l k b = false) (h3 : (!placed l (objId k b) && decide ((65536 : Int) ≤ l.length)) = true) : putE l k b = 4 := by rw [putE, if_neg (by simp [h]), if_neg (by simp [h2]), if_pos h3]
theorem putE_ok {l : List It} {k : Int} {b : Str} (h : wholeE k b = 0) (h2 : clashP l k b = false) (h3 : (!placed l (objId k b) && decide ((65536 : Int) ≤ l.length)) = false) : putE l k b = 0 := by rw [putE, if_neg (by simp [h]), if_neg (by simp [h2]), if_neg (by rw [h3]; simp)]
set_option maxHeartbeats 1000000 in
theorem cPut (nl : Bool) (l : List It) (k : Int) (b : Str) (hnl : nl = true → l = []) (hs : l.length ≤ 1000000000) : Ctr prog 12 [stPV nl l, objPV k b] [] (.tup [stPV (!decide (putE l k b = 0)) (putL l k b), sV (putI l k b), iV (putE l k b)]) [] [] := by
  have c1 := cWhole k b
  have c2 := cId k b
  have c3 := cPlace nl l (objId k b) hs
  have e1 := putE_whole (l := l) (k := k) (b := b)
  have e2 := putE_clash (l := l) (k := k) (b := b)
  have e3 := putE_big (l := l) (k := k) (b := b)
  have e4 := putE_ok (l := l) (k := k) (b := b)
  have hL : putL l k b = if putE l k b ≠ 0 then [] else if placed l (objId k b) = true then l else l.take (place l (objId k b)) ++ (⟨objId k b, k, b⟩ :: l.drop (place l (objId k b))) := rfl
  have hI : putI l k b = if putE l k b ≠ 0 then [] else objId k b := rfl
  have hc : clashP l k b = (placed l (objId k b) && !(decide (l[place l (objId k b)]!.kind = k) && decide (l[place l (objId k b)]!.body = b))) := rfl
  have hple := place_le l (objId k b)
  have hplt := placed_lt (l := l) (x := objId k b)
  have c5 := cClone nl (l.map It.pv) (fun h => by rw [hnl h]; rfl) (plainL_map _ (fun _ => rfl) _) (cellsOk_map _ (fun _ => rfl) _) (by rw [List.length_map]; omega)
  generalize clashP l k b = cl at *
  generalize putL l k b = pL at *
  generalize putI l k b = pI at *
  generalize putE l k b = pE at *
  generalize wholeE k b = we at *
  generalize objId k b = id at *
  generalize placed l id = pd at *
  generalize place l id = p at *
  have c4 := cOfIt l[p]!
  have c6 := cSame l[p]!.kind k l[p]!.body b
  have c7 := cInsert nl (l.map It.pv) [(It.mk id k b).pv] p (by rw [List.length_map]; exact hple) (by simp) (plainL_map _ (fun _ => rfl) _) rfl (cellsOk_map _ (fun _ => rfl) _) rfl (by rw [List.length_map]; simp; omega)
  refine Ctr.enter tblOk func12 rfl (by decide) rfl (nt := 69) rfl rfl rfl rfl ?_
  refine Trip.seq ?_
  apply Trip.reg tblOk
  · repeat' (first | exact rfl | constructor)
  · exact rfl
  refine Trip.seq ?_
  refine Trip.seq ?_
  apply Trip.reg tblOk
  · repeat' (first | exact rfl | (apply Rule.sem; intro hγ; with_reducible apply F_call0 (x := .func 39) (B := []) hγ (hspec := c1)) | ((with_reducible refine Side.mk ?_); exact .inl rfl) | constructor)
  · exact rfl
  refine Trip.seq ?_
  apply Trip.reg tblOk
  · repeat' (first | exact rfl | constructor)
  · exact rfl
  apply Trip.cond (.tmp rfl)
  · intro h
    have h : we ≠ 0 := by simpa using h
    have e1 := e1 h
    rw [if_pos (by omega)] at hL hI
    subst hL
    subst hI
    subst e1
    rw [decide_eq_false h]
    refine Trip.seq ?_
    apply Trip.reg tblOk
    · repeat' (first | exact rfl | constructor)
    · exact rfl
    refine Trip.ret ?_
    apply Ret3 []
    · repeat' (first | exact rfl | constructor)
    · exact rfl
    · repeat' constructor
    · repeat' constructor
    · repeat' constructor
  intro h
  have h : we = 0 := by simpa using h
  have e2 := e2 h
  have e3 := e3 h
  have e4 := e4 h
  refine Trip.skip ?_
  refine Trip.seq ?_
  apply Trip.reg tblOk
  · repeat' (first | exact rfl | (apply Rule.sem; intro hγ; with_reducible apply F_call0 (x := .func 41) (B := []) hγ (hspec := c2)) | ((with_reducible refine Side.mk ?_); exact .inl rfl) | constructor)
  · exact rfl
  refine Trip.seq ?_
  apply Trip.reg tblOk
  · repeat' (first | exact rfl | (apply Rule.sem; intro hγ; with_reducible apply F_call0 (x := .func 43) (B := []) hγ (hspec := c3)) | ((with_reducible refine Side.mk ?_); exact .inl rfl) | constructor)
  · exact rfl
  refine Trip.seq ?_
  refine Trip.block ?_
  refine Trip.seq ?_
  apply Trip.drw tblOk mixed
  · repeat' (first | exact rfl | (apply Rule.under tblOk; intro hγ; with_reducible apply Rule.indexAddr) | exact idx_map _ _ _ (by have h3 := hplt (by simpa [gpick] using hγ); show _ < _; omega) | (apply Rule.sem; intro hγ; with_reducible apply F_call0 (x := .func 40) (B := []) hγ (hspec := c4)) | (apply Rule.sem; intro hγ; with_reducible apply F_call0 (x := .func 44) (B := []) hγ (hspec := c6)) | ((with_reducible refine Side.mk ?_); first | exact .inl rfl | exact fun h => h | exact fun _ h => h | (have h3 := hplt (by simpa [gpick] using hγ); simp only [List.length_map]; omega) | exact fun _ => hγ) | constructor)
  · exact rfl
  · kernel_rfl
  apply Trip.cond (.tmp rfl)
  · intro h2
    have h2 : cl = true := by
      rw [hc]
      have h2 : (pd && !(decide (l[p]!.kind = k) && (decide (l[p]!.body = b) && true))) = true := h2
      rwa [Bool.and_true] at h2
    have e2 := e2 h2
    rw [if_pos (by omega)] at hL hI
    subst hL
    subst hI
    subst e2
    refine Trip.seq ?_
    apply Trip.reg tblOk
    · repeat' (first | exact rfl | constructor)
    · exact rfl
    refine Trip.ret ?_
    apply Ret3 []
    · repeat' (first | exact rfl | constructor)
    · exact rfl
    · repeat' constructor
    · repeat' constructor
    · repeat' constructor
  intro h2
  have h2 : cl = false := by
    rw [hc]
    have h2 : (pd && !(decide (l[p]!.kind = k) && (decide (l[p]!.body = b) && true))) = false := h2
    rwa [Bool.and_true] at h2
  have e3 := e3 h2
  have e4 := e4 h2
  refine Trip.seq ?_
  apply Trip.reg tblOk
  · repeat' (first | exact rfl | ((with_reducible refine Side.mk ?_); first | exact fun h => h | exact fun _ h => h) | constructor)
  · exact rfl
  apply Trip.cond (.tmp rfl)
  · intro h3
    have h3 : (!pd && decide ((65536 : Int) ≤ l.length)) = true := by
      have h3 : (!pd && decide ((65536 : Int) ≤ ((l.map It.pv).length : Nat))) = true := h3
      rwa [List.length_map] at h3
    have e3 := e3 h3
    rw [if_pos (by omega)] at hL hI
    subst hL
    subst hI
    subst e3
    refine Trip.seq ?_
    apply Trip.reg tblOk
    · repeat' (first | exact rfl | constructor)
    · exact rfl
    refine Trip.ret ?_
    apply Ret3 []
    · repeat' (first | exact rfl | constructor)
    · exact rfl
    · repeat' constructor
    · repeat' constructor
    · repeat' constructor
  intro h3
  have h3 : (!pd && decide ((65536 : Int) ≤ l.length)) = false := by
    have h3 : (!pd && decide ((65536 : Int) ≤ ((l.map It.pv).length : Nat))) = false := h3
    rwa [List.length_map] at h3
  have e4 := e4 h3
  subst e4
  rw [if_neg (by simp)] at hL hI
  subst hI
  refine Trip.skip ?_
  apply Trip.regk ⟨[(3, .ref 3 0), (4, .ref 4 0), (8, sV pI), (9, iV p), (10, bV pd), (11, .osl 900 0 (l.map It.pv).length (l.map It.pv).length)], [(3, .box [iV k, sV b]), (4, .box [nilS]), (900, .arr 3 nl (l.map It.pv))]⟩ tblOk
  · repeat' (first | exact rfl | (apply Rule.sem; intro hγ; with_reducible apply F_call (x := .func 45) (σ := []) (B := []) (news := [900]) hγ (hspec := c5)) | exact plainL_map _ (fun _ => rfl) _ | ((with_reducible refine Side.mk ?_); exact .inl rfl) | constructor)
  · exact rfl
  · apply Weak.keep
    · exact rfl
    · repeat' (first | exact rfl | constructor)
    · repeat' (first | exact rfl | constructor)
    · exact rfl
    · repeat' (first | exact rfl | exact plainL_map _ (fun _ => rfl) _ | constructor)
  refine Trip.seqk ⟨[(4, .ref 4 0), (8, sV pI), (11, .osl 900 0 pL.length pL.length)], [(4, .box [nilS]), (900, .arr 3 false (pL.map It.pv))]⟩ ?_ ?_
  · refine Trip.seq ?_
    apply Trip.reg tblOk
    · repeat' (first | exact rfl | constructor)
    · exact rfl
    apply Trip.cond (.tmp rfl)
    · intro h4
      have h4 : pd = false := by simpa using h4
      rw [if_neg (by rw [h4]; simp)] at hL
      have hro : roFreeL (cellsOf ((l.map It.pv).take p ++ ([(It.mk pI k b).pv] ++ (l.map It.pv).drop p))) = true := by
        have := roL pL
        rw [hL] at this
        simpa using this
      have hpl2 : plainL ((l.map It.pv).take p ++ ([(It.mk pI k b).pv] ++ (l.map It.pv).drop p)) = true := by
        have : (l.map It.pv).take p ++ ([(It.mk pI k b).pv] ++ (l.map It.pv).drop p) = (l.take p ++ It.mk pI k b :: l.drop p).map It.pv := by simp
        rw [this]; exact plainL_map _ (fun _ => rfl) _
      apply Trip.reg tblOk
      · repeat' (first | exact rfl | (apply Rule.sem; intro hγ; with_reducible apply F_call (x := .func 46) (σ := [900]) (B := [64]) (news := []) hγ (hspec := c7)) | exact hpl2 | exact plainL_map _ (fun _ => rfl) _ | (refine Side.mk (.inr ⟨rfl, ?_, rfl⟩); simp only [List.all_cons, List.all_nil, Bool.and_true]; exact hro) | constructor)
      · exact rfl
      apply Weak.keep
      · exact rfl
      · repeat' (first | exact rfl | (rw [hL]; refine Side.mk (oslE ?_ ?_) <;> simp <;> omega) | constructor)
      · repeat' (first | exact rfl | exact arrF rfl (by rw [hL]; simp) | constructor)
      · exact rfl
      · repeat' (first | exact rfl | exact plainL_map _ (fun _ => rfl) _ | constructor)
    · intro h4
      have h4 : pd = true := by simpa using h4
      rw [if_pos h4] at hL
      obtain ⟨hp1, _⟩ := hplt h4
      have hnlf : nl = false := by
        cases nl with
        | false => rfl
        | true => rw [hnl rfl] at hp1; simp at hp1
      subst hnlf
      subst hL
      refine Trip.skip ?_
      apply Weak.keep
      · exact rfl
      · repeat' (first | exact rfl | (refine Side.mk (oslE ?_ ?_) <;> (simp only [ln]; first | done | omega)) | constructor)
      · repeat' (first | exact rfl | constructor)
      · exact rfl
      · repeat' (first | exact rfl | exact plainL_map _ (fun _ => rfl) _ | constructor)
  refine Trip.seq ?_
  apply Trip.reg tblOk
  · repeat' (first | exact rfl | constructor)
  · exact rfl
  refine Trip.ret ?_
  apply Ret3 [900]
  · repeat' (first | exact rfl | constructor)
  · exact rfl
  · repeat' (first | exact rfl | exact plainL_map _ (fun _ => rfl) _ | (refine Side.mk ?_; simp only [ln]; first | done | omega) | constructor)
  · repeat' constructor
  · repeat' constructor
end Go.Proofs.Tryz
namespace Go.Graft
open Go.Sym
set_option maxRecDepth 100000
def xA : Str := [97, 52, 57, 56, 102, 56, 102, 50, 48, 102, 48, 54, 97, 99, 100, 53, 56, 56, 49, 53, 49, 101, 49, 55, 102, 54, 52, 50, 50, 97, 54, 100, 52, 55, 100, 97, 52, 53, 97, 97]
def xB : Str := [54, 101, 102, 49, 57, 98, 52, 49, 50, 50, 53, 99, 53, 51, 54, 57, 102, 49, 99, 49, 48, 52, 100, 52, 53, 100, 56, 100, 56, 53, 101, 102, 97, 57, 98, 48, 53, 55, 98, 53]
def xC : Str := [48, 50, 48, 100, 55, 57, 51, 49, 97, 57, 98, 98, 48, 98, 53, 50, 98, 97, 48, 54, 100, 49, 56, 49, 48, 102, 51, 52, 51, 52, 49, 57, 54, 100, 55, 48, 54, 100, 54, 49]
def xWho : Str := [97, 32, 60, 97, 64, 98, 62, 32, 53, 32, 43, 48, 49, 48, 48]
def xBody : Str := [116, 114, 101, 101, 32] ++ xB ++ [10] ++ [97, 117, 116, 104, 111, 114, 32] ++ xWho ++ [10, 99, 111, 109, 109, 105, 116, 116, 101, 114, 32] ++ xWho ++ [10, 10] ++ [120, 10]
def s1 : List It := [⟨xA, 1, [97, 98]⟩]
def s2 : List It := [⟨xB, 2, []⟩, ⟨xA, 1, [97, 98]⟩]
def s3 : List It := [⟨xC, 3, xBody⟩, ⟨xB, 2, []⟩, ⟨xA, 1, [97, 98]⟩]
def s4 : List It := [⟨xC, 3, xBody⟩]
def s5 : List It := [⟨xC, 3, xBody⟩, ⟨xA, 1, [97, 98]⟩]
theorem lv1 : putE [] 1 [97, 98] = 0 ∧ putL [] 1 [97, 98] = s1 ∧ putI [] 1 [97, 98] = xA := by decide +kernel
theorem lv2 : putE s1 2 [] = 0 ∧ putL s1 2 [] = s2 ∧ putI s1 2 [] = xB := by decide +kernel
theorem lv3 : putE s2 3 xBody = 0 ∧ putL s2 3 xBody = s3 ∧ putI s2 3 xBody = xC := by decide +kernel
theorem lv4 : comE ⟨xB, [], ⟨[97], [97, 64, 98], 5, 60⟩, ⟨[97], [97, 64, 98], 5, 60⟩, [120, 10]⟩ = 0 := by decide +kernel
theorem lv5 : (s3.filter fun x => hasS [xC] x.id) = s4 ∧ (s3.filter fun x => hasS [xC, xA] x.id) = s5 ∧ (s3.filter fun x => !placed s3 x.id) = [] := by decide +kernel
theorem lv6 : rightSt s3 = true ∧ placed s3 xA = true ∧ s3[place s3 xA]!.kind = 1 ∧ s3[place s3 xA]!.body = [97, 98] ∧ placed s3 [120] = false ∧ placed s3 xB = true ∧ placed s3 [] = false := by decide +kernel
theorem mk_reach {l : List It} {met have' lack : List Str} {x : Str} (hd : met.Nodup) (h1 : ∀ y ∈ met, y = x ∨ (placed l x = true ∧ y ∈ nmAt l [] x)) (h2 : x ∈ met) (h3 : ∀ y ∈ met, placed l y = true → ∀ z ∈ nmAt l [] y, z ∈ met)
    (ha : asc have') (hb : asc lack) (m1 : ∀ y, y ∈ have' ↔ y ∈ met.filter (placed l)) (m2 : ∀ y, y ∈ lack ↔ y ∈ met.filter fun y => !placed l y) : IsReach l [] [x] have' lack :=
  Onway.reach (met := met) ⟨hd, fun y hy => (h1 y hy).elim (fun e => e ▸ .start (by simp)) fun k => .step (.start (by simp)) k.1 k.2, by simp, fun y hy => .inl (by rw [List.mem_singleton] at hy; exact hy ▸ h2), fun y hy hp z hz => .inl (h3 y hy hp z hz)⟩ ha hb m1 m2
theorem lv7 : placed s3 xC = true ∧ nmAt s3 [] xC = [xB] ∧ nmAt s3 [] xB = [] := by decide +kernel
theorem lv8 : placed s4 xC = true ∧ placed s4 xB = false ∧ nmAt s4 [] xC = [xB] := by decide +kernel
theorem lv9 : placed s5 xC = true ∧ placed s5 xB = false ∧ nmAt s5 [] xC = [xB] := by decide +kernel
theorem lvBC : bl xC xB = true ∧ xC ≠ xB := by decide +kernel
theorem asc_pair {x y : Str} (h : bl x y = true) : asc [x, y] := by
  rw [asc, List.pairwise_cons]
  exact ⟨by simpa using h, List.pairwise_singleton ..⟩
theorem asc_one (x : Str) : asc [x] := List.pairwise_singleton ..
theorem rch3 : IsReach s3 [] [xC] [xC, xB] [] := by
  obtain ⟨p1, p2, p3⟩ := lv7
  have p4 := lv6.2.2.2.2.2.1
  have hne := lvBC.2
  have hbc := lvBC.1
  generalize s3 = s at *
  generalize xC = c at *
  generalize xB = b at *
  refine mk_reach (met := [c, b]) (by simp [hne]) ?_ (by simp) ?_ (asc_pair hbc) List.Pairwise.nil ?_ ?_
  · intro y hy
    simp only [List.mem_cons, List.not_mem_nil, or_false] at hy
    rcases hy with rfl | rfl
    · exact .inl rfl
    · exact .inr ⟨p1, by rw [p2]; simp⟩
  · intro y hy _ z hz
    simp only [List.mem_cons, List.not_mem_nil, or_false] at hy
    rcases hy with rfl | rfl
    · rw [p2] at hz; simp at hz; simp [hz]
    · rw [p3] at hz; simp at hz
  · simp [List.filter_cons, p1, p4]
  · simp [List.filter_cons, p1, p4]
theorem rchM {s : List It} (p1 : placed s xC = true) (p4 : placed s xB = false) (p2 : nmAt s [] xC = [xB]) : IsReach s [] [xC] [xC] [xB] := by
  have hne := lvBC.2
  generalize xC = c at *
  generalize xB = b at *
  refine mk_reach (met := [c, b]) (by simp [hne]) ?_ (by simp) ?_ (asc_one _) (asc_one _) ?_ ?_
  · intro y hy
    simp only [List.mem_cons, List.not_mem_nil, or_false] at hy
    rcases hy with rfl | rfl
    · exact .inl rfl
    · exact .inr ⟨p1, by rw [p2]; simp⟩
  · intro y hy hp z hz
    simp only [List.mem_cons, List.not_mem_nil, or_false] at hy
    rcases hy with rfl | rfl
    · rw [p2] at hz; simp at hz; simp [hz]
    · rw [p4] at hp; simp at hp
  · simp [List.filter_cons, p1, p4]
  · simp [List.filter_cons, p1, p4]
theorem rch4 : IsReach s4 [] [xC] [xC] [xB] := rchM lv8.1 lv8.2.1 lv8.2.2
theorem rch5 : IsReach s5 [] [xC] [xC] [xB] := rchM lv9.1 lv9.2.1 lv9.2.2
end Go.Graft
