/- A part of the proof: Sh, Hins, Sc. -/
import Derived.Test.YtbnnmnbidkpmcaaGreatDoorPart41
set_option linter.unusedVariables false
set_option linter.unusedSimpArgs false
namespace Go.Proofs.Tryz
open Go Go.Sym Go.Graft
set_option maxRecDepth 20000
theorem cWholeFn (nl nc : Bool) (l : List It) (cuts : List Str) (hs : l.length ≤ 1000000000) (hc : cuts.length ≤ 1000000000) (x : Str) (hp : placed l x = true) (hb : l[place l x]!.body.length ≤ 100000000) :
  Ctr prog 59 [sV x, .rp [.sl nl 3 (l.map It.pv)], .rp [.sl nc 1 (cuts.map fun x => sV x)]] [] (bV (!linkP l l[place l x]!.kind l[place l x]!.body (hasS cuts x))) [] [] := by
 have c := cGet nl l x hs
 rw [hp] at c
 simp only [if_true] at c
 have c2 := cLinked nl l l[place l x]!.kind l[place l x]!.body (hasS cuts x) hs hb
 have c3 := cContainsS nc cuts x (by omega)
 generalize linkP l l[place l x]!.kind l[place l x]!.body (hasS cuts x) = r at *
 generalize l[place l x]!.kind = kk at *
 generalize l[place l x]!.body = bb at *
 generalize hasS cuts x = q at *
 refine Ctr.enter tblOk func59 rfl (by decide) rfl (nt := 20) rfl rfl rfl rfl ?_
 refine Trip.sr tblOk ?_
 refine Trip.sR tblOk (by repeat' (first | exact rfl | (apply Rule.sem; intro hγ; with_reducible apply F_call0 (x := .func 15) (B := []) hγ (hspec := c)) | ((with_reducible refine Side.mk ?_); exact .inl rfl) | constructor)) ?_
 refine Trip.sD tblOk mixed (by repeat' (first | exact rfl | (apply Rule.sem; intro hγ; with_reducible apply F_call0 (x := .func 61) (B := []) hγ (hspec := c3)) | (apply Rule.sem; intro hγ; with_reducible apply F_call0 (x := .func 60) (B := []) hγ (hspec := c2)) | ((with_reducible refine Side.mk ?_); exact .inl rfl) | constructor)) ?_
 refine Trip.ret (rt1 [] (hc := by repeat' (exact cvB (by simp only [List.length_map]))))
def wholeP (l : List It) (cuts H K : List Str) : Bool := decide ((K.length : Int) = 0) && !(H.any fun x => !linkP l l[place l x]!.kind l[place l x]!.body (hasS cuts x))
theorem cWholeP (nl nc nf : Bool) (l : List It) (cuts fr0 : List Str) (hs : l.length ≤ 1000000) (hc : cuts.length ≤ 1000000000) (hf : fr0.length ≤ 1000000000) (hnf : nf = true → fr0 = []) (hb : ∀ it ∈ l, it.body.length ≤ 100000000) (H K : List Str) (hR : IsReach l cuts fr0 H K) (hH : H.length ≤ 1000000000000) :
  Ctr prog 29 [stPV nl l, .sl nc 1 (cuts.map fun x => sV x), .sl nf 1 (fr0.map fun x => sV x)] [] (bV (wholeP l cuts H K)) [] [] := by
 have c := cGone nl nc nf l cuts fr0 hs hc hf hnf H K hR
 have c2 := cContainsFuncS H.isEmpty H 59 [.rp [.sl nl 3 (l.map It.pv)], .rp [.sl nc 1 (cuts.map fun x => sV x)]] rfl (fun x => !linkP l l[place l x]!.kind l[place l x]!.body (hasS cuts x)) hH (fun x hx => cWholeFn nl nc l cuts (by omega) hc x ((hR.m1 x).1 hx).2 (by
  have h := placed_lt ((hR.m1 x).1 hx).2
  exact hb _ (bang_mem h.1)))
 rw [wholeP]
 generalize (H.any fun x => !linkP l l[place l x]!.kind l[place l x]!.body (hasS cuts x)) = r at *
 refine Ctr.enter tblOk func29 rfl (by decide) rfl (nt := 25) rfl rfl rfl rfl ?_
 refine Trip.sr tblOk ?_
 refine Trip.sR tblOk (by repeat' (first | exact rfl | (apply Rule.sem; intro hγ; with_reducible apply F_call0 (x := .func 56) (B := []) hγ (hspec := c)) | ((with_reducible refine Side.mk ?_); exact .inl rfl) | constructor)) ?_
 apply Trip.weak (S' := ⟨[(3, .rp [.sl nl 3 (l.map It.pv)]), (4, .rp [.sl nc 1 (cuts.map fun x => sV x)]), (7, .sl H.isEmpty 1 (H.map fun x => sV x)), (8, .sl K.isEmpty 1 (K.map fun x => sV x))], []⟩)
 ·refine Weak.trans (S2 := ⟨[(3, .ref 3 0), (4, .ref 4 0), (7, .sl H.isEmpty 1 (H.map fun x => sV x)), (8, .sl K.isEmpty 1 (K.map fun x => sV x))], [(3, .box [.sl nl 3 (l.map It.pv)]), (4, .box [.sl nc 1 (cuts.map fun x => sV x)])]⟩) ?_ ?_
  ·exact Weak.kp
  ·refine Weak.turn [3, 4] rfl rfl ?_ ?_
   ·repeat' (first | exact rfl | constructor)
   ·repeat' (first | exact rfl | constructor)
 refine Trip.sR tblOk (by repeat' (first | exact rfl | (apply Rule.sem; intro hγ; with_reducible apply F_call0 (x := .func 58) (B := []) hγ (hspec := c2)) | ((with_reducible refine Side.mk ?_); first | exact .inl rfl | exact fun h => h | exact fun _ h => h) | constructor)) ?_
 refine Trip.ret (rt1 [] (hc := by repeat' (exact cvB (by simp [List.length_map]))))
end Go.Proofs.Tryz
namespace Go.Proofs.Tryz
open Go Go.Sym Go.Graft
set_option maxRecDepth 20000
theorem o51a : Extern.findNext f78 = none := by kernel_rfl
theorem o51b : Extern.find f78 = some (Extern.SlicesOverlaps.overlaps #[22, 22] #[4]) := by kernel_rfl
theorem o51c : (f78.name == "runtime.NumGoroutine") = false := by kernel_rfl
theorem o51e : f78.body.isNone = true := by kernel_rfl
theorem ov51 {γ : Bool} {S : St} {dst : Option Nat} {ty : Nat} {pos : String} {aft : Array Edge} {g : Option (Nat × Bool)} {x y z : Operand} {ats : Array TypeId} {o off len n sz : Nat} {isnil nl : Bool} {es xs : List PV} (hγ : γ = true) (hx : OpdO γ S x (.clo (.func 78) [] [])) (hy : OpdO γ S y (.sl nl 3 xs)) (hz : OpdO γ S z (.osl o off len n)) (hne : Side (xs ≠ [])) (ho : S.obj o = some (.arr sz isnil es)) (hs : Side (n = es.length)) (h1 : Nat.beq sz 1 = false) :
  FStep prog ⟨dst, .call { callee := .value x, args := #[y, z], argTypes := ats }, ty, pos, aft, g⟩ S [o] ⟨bV false, []⟩ :=
 F_overlaps (f := 78) (t := 22) (tR := 4) tblOk hγ hx hy hz rfl hne func78 o51c o51e o51a o51b rfl rfl rfl rfl ho hs h1
set_option maxHeartbeats 400000 in
set_option maxRecDepth 4000 in
theorem cInsert (nl : Bool) (es xs : List PV) (i : Nat) (hi : i ≤ es.length) (hx : xs ≠ []) (hp : plainL es = true) (hpx : plainL xs = true) (hc : cellsOkL (cellsOf es) = true) (hcx : cellsOkL (cellsOf xs) = true) (hb : es.length + xs.length ≤ 1000000000000) :
  Ctr prog 46 [.osl PN 0 es.length es.length, iV i, .sl false 3 xs] [.arr 3 nl es] (.osl PN 0 (es.length + xs.length) (es.length + xs.length)) [.arr 3 false (es.take i ++ (xs ++ es.drop i))] [] := by
 have hx0 : 0 < xs.length := List.length_pos_iff.2 hx
 have hp2 : plainL (es.take i ++ (xs ++ es.drop i)) = true := plainL_of fun p h => by
  simp only [List.mem_append] at h
  rcases h with h | h | h
  ·exact plainL_mem hp p (List.mem_of_mem_take h)
  ·exact plainL_mem hpx p h
  ·exact plainL_mem hp p (List.mem_of_mem_drop h)
 refine Ctr.enter tblOk func46 rfl (by decide) rfl (nt := 95) rfl rfl rfl rfl ?_
 refine Trip.sr tblOk ?_
 refine Trip.sR tblOk (by repeat' (first | exact rfl | ((with_reducible refine bokL ?_); omega) | constructor)) ?_
 refine Trip.rk ⟨[(0, .osl PN 0 es.length es.length), (1, iV i), (2, .sl false 3 xs), (6, nilS), (7, iV xs.length)], [(PN, .arr 3 nl es)]⟩ tblOk (by repeat' (first | exact rfl | constructor)) (Weak.kp (huo := by repeat' (first | exact hp | constructor))) ?_
 refine Trip.seq (Trip.sr tblOk ?_)
 apply Trip.cond (.tmp rfl)
 ·intro h
  exfalso
  simp at h
  exact hx h
 intro _
 refine Trip.skip ?_
 refine Trip.rk ⟨[(0, .osl PN 0 es.length es.length), (1, iV i), (2, .sl false 3 xs), (6, nilS), (7, iV xs.length), (8, iV es.length)], [(PN, .arr 3 nl es)]⟩ tblOk (by repeat' (first | exact rfl | constructor)) (Weak.kp (huo := by repeat' (first | exact hp | constructor))) ?_
 refine Trip.seq (Trip.sr tblOk ?_)
 apply Trip.cond (.tmp rfl)
 ·intro h
  have h : i = es.length := by simp at h; omega
  subst h
  have e1 : (SObj.arr 3 (nl && xs.isEmpty) (es ++ xs)) = .arr 3 false (es.take es.length ++ (xs ++ es.drop es.length)) := by
   congr 1
   ·cases xs <;> simp at hx ⊢
   ·simp
  have e2 : PV.osl PN 0 (es ++ xs).length (es ++ xs).length = .osl PN 0 (es.length + xs.length) (es.length + xs.length) := by rw [List.length_append]
  refine Trip.rk ⟨[(6, .osl PN 0 (es.length + xs.length) (es.length + xs.length))], [(PN, .arr 3 false (es.take es.length ++ (xs ++ es.drop es.length)))]⟩ tblOk (by repeat' (first | exact rfl | ((with_reducible refine Side.mk ?_); first | omega | (dsimp only; omega)) | constructor)) (Weak.kp (ht := by repeat' (first | exact rfl | exact e2 | constructor)) (ho := by repeat' (first | exact rfl | exact e1 | constructor)) (huo := by repeat' (first | exact hp2 | constructor))) ?_
  refine Trip.ret ?_
  refine ⟨_, _, [], [], [.arr 3 false (es.take es.length ++ (xs ++ es.drop es.length))], [], .cons rfl .nil, .one, .cons rfl .nil, .nil, rfl, rfl, rfl, ?_, ?_, ?_⟩
  all_goals repeat' (first | exact rfl | exact hp2 | constructor)
 intro h
 have h : i < es.length := by simp at h; omega
 refine Trip.skip ?_
 apply Trip.openCap (o := PN) rfl
 intro cap hcap hnl
 refine Trip.seq (Trip.sR tblOk (by repeat' (first | exact rfl | (apply Rule.sem; intro hγ; apply F_cap tblOk hγ) | ((with_reducible refine Side.mk ?_); omega) | constructor)) ?_)
 apply Trip.cond (.tmp rfl)
 ·intro h
  have h : cap < es.length + xs.length := by simp at h; omega
  have q1 : PV.osl 40 0 (((i : Int).toNat - 0) + ((es.length : Int) + xs.length - i).toNat) (((i : Int).toNat - 0) + ((es.length : Int) + xs.length - i).toNat) = .osl 40 0 (es.length + xs.length) (es.length + xs.length) := by
   congr 1 <;> omega
  have q2 : SObj.arr 3 false (es.take ((i : Int).toNat - 0) ++ List.replicate ((es.length : Int) + xs.length - i).toNat (deadE 3)) = .arr 3 false (es.take i ++ List.replicate (es.length + xs.length - i) (deadE 3)) := by
   congr 3 <;> omega
  have hpd : plainL (es.take i ++ List.replicate (es.length + xs.length - i) (deadE 3)) = true := plainL_of fun p h => by
   rcases List.mem_append.1 h with h | h
   ·exact plainL_mem hp p (List.mem_of_mem_take h)
   ·rw [List.eq_of_mem_replicate h]; rfl
  have hpe : plainL (es.take i ++ (xs ++ List.replicate (es.length - i) (deadE 3))) = true := plainL_of fun p h => by
   simp only [List.mem_append] at h
   rcases h with h | h | h
   ·exact plainL_mem hp p (List.mem_of_mem_take h)
   ·exact plainL_mem hpx p h
   ·rw [List.eq_of_mem_replicate h]; rfl
  have r1 := ins1 es xs (deadE 3) i (by omega)
  have r2 := ins2 es xs (deadE 3) i (by omega)
  have r1' : ∀ nl, SObj.arr 3 nl _ = SObj.arr 3 nl _ := fun nl => congrArg (SObj.arr 3 nl) r1
  have r2' : ∀ nl, SObj.arr 3 nl _ = SObj.arr 3 nl _ := fun nl => congrArg (SObj.arr 3 nl) r2
  refine Trip.rk ⟨[(0, .osl PN 0 es.length es.length), (1, iV i), (2, .sl false 3 xs), (7, iV xs.length), (8, iV es.length), (9, .osl 40 0 (es.length + xs.length) (es.length + xs.length))], [(PN, .arrc 3 nl es cap), (40, .arr 3 false (es.take i ++ List.replicate (es.length + xs.length - i) (deadE 3)))]⟩ tblOk (by repeat' (first | exact rfl | (apply Rule.sem; intro hγ; apply F_sliceC tblOk hγ) | (apply Rule.sem; intro hγ; apply F_appendOver' tblOk hγ) | ((first | with_reducible refine bokR ?_ | with_reducible refine Side.mk ?_); first | omega | (simp only [hiOf, loOf]; omega)) | constructor)) (Weak.kp (ht := by repeat' (first | exact rfl | exact q1 | constructor)) (ho := by repeat' (first | exact rfl | exact q2 | constructor)) (huo := by repeat' (first | exact hp | exact hpd | constructor))) ?_
  apply Trip.weak (Weak.closeCap (o := PN) rfl)
  refine Trip.rk ⟨[(0, .osl PN 0 es.length es.length), (1, iV i), (2, .sl false 3 xs), (7, iV xs.length), (8, iV es.length), (9, .osl 40 0 (es.length + xs.length) (es.length + xs.length))], [(PN, .arr 3 nl es), (40, .arr 3 false (es.take i ++ (xs ++ List.replicate (es.length - i) (deadE 3))))]⟩ tblOk (by repeat' (first | exact rfl | (apply Rule.sem; intro hγ; apply F_copy tblOk hγ) | ((first | with_reducible refine bokL ?_ | with_reducible refine Side.mk ?_); first | omega | (simp only [ln]; first | done | omega) | exact okT hcx _) | constructor)) (Weak.kp (ho := by repeat' (first | exact rfl | exact r1' _ | constructor)) (huo := by repeat' (first | exact hp | exact hpe | constructor))) ?_
  have hpg : plainL (es.take i ++ (xs ++ es.drop i)) = true := hp2
  refine Trip.dk ⟨[(9, .osl 40 0 (es.length + xs.length) (es.length + xs.length))], [(PN, .arr 3 nl es), (40, .arr 3 false (es.take i ++ (xs ++ es.drop i)))]⟩ tblOk mixed (by repeat' (first | exact rfl | (apply Rule.sem; intro hγ; apply F_copy tblOk hγ) | ((first | with_reducible refine bokL ?_ | with_reducible refine Side.mk ?_); first | omega | (simp only [ln]; first | done | omega) | exact okDTT hc _ _ _) | constructor)) (Weak.kp (ho := by repeat' (first | exact rfl | exact r2' _ | constructor)) (huo := by repeat' (first | exact hp | exact hp2 | constructor))) ?_
  refine Trip.rk ⟨[(6, .osl 40 0 (es.length + xs.length) (es.length + xs.length))], [(PN, .arr 3 nl es), (40, .arr 3 false (es.take i ++ (xs ++ es.drop i)))]⟩ tblOk (by repeat' (first | exact rfl | constructor)) (Weak.kp (huo := by repeat' (first | exact hp | exact hp2 | constructor))) ?_
  apply Trip.weak (Weak.shift (t' := [(6, .osl PN 0 (es.length + xs.length) (es.length + xs.length))]) PN 40 3 (by decide) (.inl rfl) rfl (by show es.length < _; simp; omega) hp2 (by decide) rfl (by repeat' (first | exact rfl | constructor)))
  refine Trip.ret ?_
  refine ⟨_, _, [], [], [.arr 3 false (es.take i ++ (xs ++ es.drop i))], [], .cons rfl .nil, .one, .cons rfl .nil, .nil, rfl, rfl, rfl, ?_, ?_, ?_⟩
  all_goals repeat' (first | exact rfl | exact hp2 | constructor)
 intro h
 have h : es.length + xs.length ≤ cap := by simp at h; omega
 have hnl : nl = false := by
  cases nl with
  | false => rfl
  | true => have := hnl rfl; omega
 subst hnl
 have hpd : plainL (es ++ List.replicate xs.length (deadE 3)) = true := plainL_of fun p h => by
  rcases List.mem_append.1 h with h | h
  ·exact plainL_mem hp p h
  ·rw [List.eq_of_mem_replicate h]; rfl
 have hpe : plainL ((es ++ List.replicate xs.length (deadE 3)).take (i + xs.length) ++ es.drop i) = true := plainL_of fun p h => by
  rcases List.mem_append.1 h with h | h
  ·exact plainL_mem hpd p (List.mem_of_mem_take h)
  ·exact plainL_mem hp p (List.mem_of_mem_drop h)
 have hcd := (congrArg (fun l => cellsOkL (cellsOf l)) (ins3c es xs (deadE 3) i (by omega))).trans (okD hc i)
 have t1 : (SObj.arr 3 false (es ++ List.replicate (((es.length : Int) + xs.length).toNat - es.length) (deadE 3))) = .arr 3 false (es ++ List.replicate xs.length (deadE 3)) := by
  congr 3; omega
 have t2 : PV.osl PN 0 ((es.length : Int) + xs.length).toNat ((es.length : Int) + xs.length).toNat = .osl PN 0 (es.length + xs.length) (es.length + xs.length) := by
  congr 1
 have r3 : ∀ nl, SObj.arr 3 nl _ = SObj.arr 3 nl _ := fun nl => congrArg (SObj.arr 3 nl) (ins3 es xs (deadE 3) i (by omega))
 have r4 : ∀ nl, SObj.arr 3 nl _ = SObj.arr 3 nl _ := fun nl => congrArg (SObj.arr 3 nl) (ins4 es xs (deadE 3) i (by omega))
 refine Trip.skip ?_
 refine Trip.rk ⟨[(0, .osl PN 0 (es.length + xs.length) (es.length + xs.length)), (1, iV i), (2, .sl false 3 xs), (7, iV xs.length), (8, iV es.length)], [(PN, .arr 3 false (es ++ List.replicate xs.length (deadE 3)))]⟩ tblOk (by repeat' (first | exact rfl | (apply Rule.sem; intro hγ; apply F_sliceUp tblOk hγ) | ((with_reducible refine Side.mk ?_); omega) | constructor)) (Weak.kp (ho := by repeat' (first | exact rfl | exact t1 | constructor)) (huo := by repeat' (first | exact hpd | constructor))) ?_
 refine Trip.seq (Trip.sR tblOk (by repeat' (first | exact rfl | (apply Rule.sem; intro hγ; with_reducible apply ov51 hγ) | ((first | with_reducible refine bokL ?_ | with_reducible refine Side.mk ?_); first | omega | (simp only [ln]; first | done | omega)) | constructor)) ?_)
 apply Trip.cond (.tmp rfl)
 ·intro _
  refine Trip.dk ⟨[(0, .osl PN 0 (es.length + xs.length) (es.length + xs.length)), (1, iV i), (2, .sl false 3 xs)], [(PN, .arr 3 false ((es ++ List.replicate xs.length (deadE 3)).take (i + xs.length) ++ es.drop i))]⟩ tblOk mixed (by repeat' (first | exact rfl | (apply Rule.sem; intro hγ; apply F_copy tblOk hγ) | ((first | with_reducible refine bokL ?_ | with_reducible refine Side.mk ?_); first | omega | (simp only [ln]; first | done | omega) | exact hcd) | constructor)) (Weak.kp (ho := by repeat' (first | exact rfl | exact r3 _ | constructor)) (huo := by repeat' (first | exact hpe | constructor))) ?_
  refine Trip.rk ⟨[(0, .osl PN 0 (es.length + xs.length) (es.length + xs.length))], [(PN, .arr 3 false (es.take i ++ (xs ++ es.drop i)))]⟩ tblOk (by repeat' (first | exact rfl | (apply Rule.sem; intro hγ; apply F_copy tblOk hγ) | ((first | with_reducible refine bokL ?_ | with_reducible refine Side.mk ?_); first | omega | (simp only [ln]; first | done | omega) | exact okT hcx _) | constructor)) (Weak.kp (ho := by repeat' (first | exact rfl | exact r4 _ | constructor)) (huo := by repeat' (first | exact hp2 | constructor))) ?_
  refine Trip.sr tblOk ?_
  refine Trip.ret ?_
  refine ⟨_, _, [], [], [.arr 3 false (es.take i ++ (xs ++ es.drop i))], [], .cons rfl .nil, .one, .cons rfl .nil, .nil, rfl, rfl, rfl, ?_, ?_, ?_⟩
  all_goals repeat' (first | exact rfl | exact hp2 | constructor)
 ·intro h
  exact absurd h (by decide)
end Go.Proofs.Tryz
namespace Go.Proofs.Tryz
open Go Go.Sym Go.Graft
set_option maxRecDepth 20000
theorem roL : ∀ l : List It, roFreeL (cellsOf (l.map It.pv)) = true
 | [] => rfl
 | x :: l => by
  have ih := roL l
  simp only [List.map_cons, cellsOf, List.flatMap_cons, PV.cells, It.pv, List.cons_append, List.nil_append, roFreeL, roFree, Bool.true_and] at ih ⊢
  exact ih
theorem putE_whole {l : List It} {k : Int} {b : Str} (h : wholeE k b ≠ 0) : putE l k b = wholeE k b := by rw [putE, if_pos h]
theorem putE_clash {l : List It} {k : Int} {b : Str} (h : wholeE k b = 0) (h2 : clashP l k b = true) : putE l k b = 170 := by rw [putE, if_neg (by simp [h]), if_pos h2]
theorem putE_big {l : List It} {k : Int} {b : Str} (h : wholeE k b = 0) (h2 : clashP l k b = false) (h3 : (!placed l (objId k b) && decide ((65536 : Int) ≤ l.length)) = true) : putE l k b = 4 := by rw [putE, if_neg (by simp [h]), if_neg (by simp [h2]), if_pos h3]
theorem putE_ok {l : List It} {k : Int} {b : Str} (h : wholeE k b = 0) (h2 : clashP l k b = false) (h3 : (!placed l (objId k b) && decide ((65536 : Int) ≤ l.length)) = false) : putE l k b = 0 := by rw [putE, if_neg (by simp [h]), if_neg (by simp [h2]), if_neg (by rw [h3]; simp)]
set_option maxHeartbeats 1000000 in
theorem cPut17 (nl : Bool) (l : List It) (k : Int) (b : Str) (hnl : nl = true → l = []) (hs : l.length ≤ 1000000000) : Ctr prog 13 [stPV nl l, objPV k b] [] (.tup [stPV (!decide (putE l k b = 0)) (putL l k b), sV (putI l k b), iV (putE l k b)]) [] [] := by
 have c1 := cWhole16 k b
 have c2 := cId2 k b
 have c3 := cPlace2 nl l (objId k b) hs
 have e1 := putE_whole (l := l) (k := k) (b := b)
 have e2 := putE_clash (l := l) (k := k) (b := b)
 have e3 := putE_big (l := l) (k := k) (b := b)
 have e4 := putE_ok (l := l) (k := k) (b := b)
 have hL : putL l k b = if putE l k b ≠ 0 then [] else if placed l (objId k b) = true then l else l.take (place l (objId k b)) ++ (⟨objId k b, k, b⟩ :: l.drop (place l (objId k b))) := rfl
 have hI : putI l k b = if putE l k b ≠ 0 then [] else objId k b := rfl
 have hc : clashP l k b = (placed l (objId k b) && !(decide (l[place l (objId k b)]!.kind = k) && decide (l[place l (objId k b)]!.body = b))) := rfl
 have hple := place_le l (objId k b)
 have hplt := placed_lt (l := l) (x := objId k b)
 generalize clashP l k b = cl at *
 generalize putL l k b = pL at *
 generalize putI l k b = pI at *
 generalize putE l k b = pE at *
 generalize wholeE k b = we at *
 generalize objId k b = id at *
 generalize placed l id = pd at *
 generalize place l id = p at *
 refine Ctr.enter tblOk func13 rfl (by decide) rfl (nt := 80) rfl rfl rfl rfl ?_
 refine Trip.sr tblOk ?_
 refine Trip.seq (Trip.sR tblOk (by repeat' (first | exact rfl | (apply Rule.sem; intro hγ; with_reducible apply F_call0 (x := .func 17) (B := []) hγ (hspec := c1)) | ((with_reducible refine Side.mk ?_); exact .inl rfl) | constructor)) ?_)
 refine Trip.sr tblOk ?_
 apply Trip.cond (.tmp rfl)
 ·intro h
  have h : we ≠ 0 := by simpa using h
  have e1 := e1 h
  rw [if_pos (by omega)] at hL hI
  subst hL
  subst hI
  subst e1
  rw [decide_eq_false h]
  refine Trip.sr tblOk ?_
  refine Trip.ret (rt3 [])
 intro h
 have h : we = 0 := by simpa using h
 have e2 := e2 h
 have e3 := e3 h
 have e4 := e4 h
 refine Trip.skip (Trip.sR tblOk (by repeat' (first | exact rfl | (apply Rule.sem; intro hγ; with_reducible apply F_call0 (x := .func 16) (B := []) hγ (hspec := c2)) | ((with_reducible refine Side.mk ?_); exact .inl rfl) | constructor)) ?_)
 refine Trip.sR tblOk (by repeat' (first | exact rfl | (apply Rule.sem; intro hγ; with_reducible apply F_call0 (x := .func 47) (B := []) hγ (hspec := c3)) | ((with_reducible refine Side.mk ?_); exact .inl rfl) | constructor)) ?_
 refine Trip.seq (Trip.sr tblOk ?_)
 apply Trip.cond (.tmp rfl)
 ·intro hp
  have hp : pd = true := hp
  subst hp
  obtain ⟨hp1, hp2⟩ := hplt rfl
  have hnlf : nl = false := by
   cases nl with
   | false => rfl
   | true => rw [hnl rfl] at hp1; simp at hp1
  have hc : cl = (!decide (l[p]!.kind = k) || !decide (l[p]!.body = b)) := by rw [hc, Bool.true_and, Bool.not_and]
  refine Trip.seq (Trip.sD tblOk mixed (by repeat' (first | exact rfl | exact idx_map _ _ _ (by show _ < _; first | omega | (simp only [List.length_map] at *; omega)) | ((with_reducible refine Side.mk ?_); first | exact fun h => h | exact fun _ h => congrArg Bool.not h | (simp only [ln]; first | done | omega)) | constructor)) ?_)
  apply Trip.cond (.tmp rfl)
  ·intro h2
   have h2 : cl = true := by rw [hc]; exact h2
   have e2 := e2 h2
   rw [if_pos (by omega)] at hL hI
   subst hL
   subst hI
   subst e2
   refine Trip.sr tblOk ?_
   refine Trip.ret (rt3 [])
  intro h2
  have h2 : cl = false := by rw [hc]; exact h2
  have e4 := e4 h2 rfl
  subst e4
  rw [if_neg (by simp), if_pos rfl] at hL
  rw [if_neg (by simp)] at hI
  subst hL
  subst hI
  subst hnlf
  refine Trip.skip (Trip.sr tblOk ?_)
  refine Trip.ret (rt3 [])
 intro hp
 have hp : pd = false := hp
 subst hp
 have hc : cl = false := by rw [hc]; rfl
 have e3 := e3 hc
 have e4 := e4 hc
 refine Trip.skip (Trip.seq (Trip.sr tblOk ?_))
 apply Trip.cond (.tmp rfl)
 ·intro h2
  have h2 : decide ((65536 : Int) ≤ l.length) = true := by simpa using h2
  have e3 := e3 (by rw [h2]; rfl)
  rw [if_pos (by omega)] at hL hI
  subst hL
  subst hI
  subst e3
  refine Trip.sr tblOk ?_
  refine Trip.ret (rt3 [])
 intro h2
 have h2 : decide ((65536 : Int) ≤ l.length) = false := by simpa using h2
 have e4 := e4 (by rw [h2]; rfl)
 subst e4
 rw [if_neg (by simp), if_neg (by simp)] at hL
 rw [if_neg (by simp)] at hI
 subst hI
 refine Trip.skip ?_
 have k1 : ∀ m, cellsOkL (cellsOf (((l.map It.pv).take m).drop 0)) = true := fun m => by rw [List.drop_zero, ← List.map_take]; exact cellsOk_map _ (fun _ => rfl) _
 have k2 : ∀ m, cellsOkL (cellsOf (((l.map It.pv).take (l.map It.pv).length).drop m)) = true := fun m => by rw [List.take_length, ← List.map_drop]; exact cellsOk_map _ (fun _ => rfl) _
 refine Trip.rk ⟨[(2, .ref 2 0), (3, .ref 3 0), (4, .ref 4 0), (8, sV pI), (9, iV p), (11, .osl 56 0 (l.take p).length (l.take p).length)], [(2, .box [.sl nl 3 (l.map It.pv)]), (3, .box [iV k, sV b]), (4, .box [nilS]), (56, .arr 3 false ((l.take p).map It.pv))]⟩ tblOk (by repeat' (first | exact rfl | exact k1 _ | ((first | with_reducible refine bokR ?_ | with_reducible refine Side.mk ?_); (simp only [ln]; first | done | omega)) | constructor)) (Weak.kp (ht := by repeat' (first | exact rfl | (refine Side.mk (oslE ?_ ?_) <;> simp [loOf, hiOf]) | constructor)) (ho := by repeat' (first | exact rfl | exact arrF (by simp) (by simp [loOf, hiOf]) | constructor)) (huo := by repeat' (first | exact rfl | exact plainL_map _ (fun _ => rfl) _ | constructor))) ?_
 refine Trip.rk ⟨[(2, .ref 2 0), (4, .ref 4 0), (8, sV pI), (9, iV p), (11, .osl 56 0 (l.take p ++ [It.mk pI k b]).length (l.take p ++ [It.mk pI k b]).length)], [(2, .box [.sl nl 3 (l.map It.pv)]), (4, .box [nilS]), (56, .arr 3 false ((l.take p ++ [It.mk pI k b]).map It.pv))]⟩ tblOk (by repeat' (first | exact rfl | ((with_reducible refine Side.mk ?_); (simp only [ln]; first | done | omega)) | constructor)) (Weak.kp (ht := by repeat' (first | exact rfl | (refine Side.mk (oslE ?_ ?_) <;> simp) | constructor)) (ho := by repeat' (first | exact rfl | exact arrF (by simp) (by simp) | constructor)) (huo := by repeat' (first | exact rfl | exact plainL_map _ (fun _ => rfl) _ | constructor))) ?_
 refine Trip.rk ⟨[(4, .ref 4 0), (8, sV pI), (11, .osl 56 0 pL.length pL.length)], [(4, .box [nilS]), (56, .arr 3 false (pL.map It.pv))]⟩ tblOk (by repeat' (first | exact rfl | exact k2 _ | ((first | with_reducible refine bokL ?_ | with_reducible refine Side.mk ?_); (simp only [ln]; first | done | omega)) | constructor)) (Weak.kp (ht := by repeat' (first | exact rfl | (rw [hL]; refine Side.mk (oslE ?_ ?_) <;> simp [loOf, hiOf, List.take_of_length_le]) | constructor)) (ho := by repeat' (first | exact rfl | exact arrF (by simp) (by rw [hL]; simp [loOf, hiOf, List.take_of_length_le]) | constructor)) (huo := by repeat' (first | exact rfl | exact plainL_map _ (fun _ => rfl) _ | constructor))) ?_
 refine Trip.sr tblOk ?_
 refine Trip.ret (rt3 [56] (hc := by repeat' (first | exact rfl | exact plainL_map _ (fun _ => rfl) _ | (refine Side.mk ?_; simp only [ln]; first | done | omega) | constructor)))
set_option maxHeartbeats 1000000 in
theorem cPut (nl : Bool) (l : List It) (k : Int) (b : Str) (hnl : nl = true → l = []) (hs : l.length ≤ 1000000000) : Ctr prog 12 [stPV nl l, objPV k b] [] (.tup [stPV (!decide (putE l k b = 0)) (putL l k b), sV (putI l k b), iV (putE l k b)]) [] [] := by
 have c1 := cWhole k b
 have c2 := cId k b
 have c3 := cPlace nl l (objId k b) hs
 have e1 := putE_whole (l := l) (k := k) (b := b)
 have e2 := putE_clash (l := l) (k := k) (b := b)
 have e3 := putE_big (l := l) (k := k) (b := b)
 have e4 := putE_ok (l := l) (k := k) (b := b)
 have hL : putL l k b = if putE l k b ≠ 0 then [] else if placed l (objId k b) = true then l else l.take (place l (objId k b)) ++ (⟨objId k b, k, b⟩ :: l.drop (place l (objId k b))) := rfl
 have hI : putI l k b = if putE l k b ≠ 0 then [] else objId k b := rfl
 have hc : clashP l k b = (placed l (objId k b) && !(decide (l[place l (objId k b)]!.kind = k) && decide (l[place l (objId k b)]!.body = b))) := rfl
 have hple := place_le l (objId k b)
 have hplt := placed_lt (l := l) (x := objId k b)
 have c5 := cClone nl (l.map It.pv) (fun h => by rw [hnl h]; rfl) (plainL_map _ (fun _ => rfl) _) (cellsOk_map _ (fun _ => rfl) _) (by rw [List.length_map]; omega)
 generalize clashP l k b = cl at *
 generalize putL l k b = pL at *
 generalize putI l k b = pI at *
 generalize putE l k b = pE at *
 generalize wholeE k b = we at *
 generalize objId k b = id at *
 generalize placed l id = pd at *
 generalize place l id = p at *
 have c4 := cOfIt l[p]!
 have c6 := cSame l[p]!.kind k l[p]!.body b
 have c7 := cInsert nl (l.map It.pv) [(It.mk id k b).pv] p (by rw [List.length_map]; exact hple) (by simp) (plainL_map _ (fun _ => rfl) _) rfl (cellsOk_map _ (fun _ => rfl) _) rfl (by rw [List.length_map]; simp; omega)
 refine Ctr.enter tblOk func12 rfl (by decide) rfl (nt := 69) rfl rfl rfl rfl ?_
 refine Trip.sr tblOk ?_
 refine Trip.seq (Trip.sR tblOk (by repeat' (first | exact rfl | (apply Rule.sem; intro hγ; with_reducible apply F_call0 (x := .func 39) (B := []) hγ (hspec := c1)) | ((with_reducible refine Side.mk ?_); exact .inl rfl) | constructor)) ?_)
 refine Trip.sr tblOk ?_
 apply Trip.cond (.tmp rfl)
 ·intro h
  have h : we ≠ 0 := by simpa using h
  have e1 := e1 h
  rw [if_pos (by omega)] at hL hI
  subst hL
  subst hI
  subst e1
  rw [decide_eq_false h]
  refine Trip.sr tblOk ?_
  refine Trip.ret (rt3 [])
 intro h
 have h : we = 0 := by simpa using h
 have e2 := e2 h
 have e3 := e3 h
 have e4 := e4 h
 refine Trip.skip (Trip.sR tblOk (by repeat' (first | exact rfl | (apply Rule.sem; intro hγ; with_reducible apply F_call0 (x := .func 41) (B := []) hγ (hspec := c2)) | ((with_reducible refine Side.mk ?_); exact .inl rfl) | constructor)) ?_)
 refine Trip.sR tblOk (by repeat' (first | exact rfl | (apply Rule.sem; intro hγ; with_reducible apply F_call0 (x := .func 43) (B := []) hγ (hspec := c3)) | ((with_reducible refine Side.mk ?_); exact .inl rfl) | constructor)) ?_
 refine Trip.seq (Trip.block (Trip.sD tblOk mixed (by repeat' (first | exact rfl | (apply Rule.under tblOk; intro hγ; with_reducible apply Rule.indexAddr) | exact idx_map _ _ _ (by have h3 := hplt (by simpa [gpick] using hγ); show _ < _; omega) | (apply Rule.sem; intro hγ; with_reducible apply F_call0 (x := .func 40) (B := []) hγ (hspec := c4)) | (apply Rule.sem; intro hγ; with_reducible apply F_call0 (x := .func 44) (B := []) hγ (hspec := c6)) | ((with_reducible refine Side.mk ?_); first | exact .inl rfl | exact fun h => h | exact fun _ h => h | (have h3 := hplt (by simpa [gpick] using hγ); simp only [List.length_map]; omega) | exact fun _ => hγ) | constructor)) ?_))
 apply Trip.cond (.tmp rfl)
 ·intro h2
  have h2 : cl = true := by
   rw [hc]
   have h2 : (pd && !(decide (l[p]!.kind = k) && (decide (l[p]!.body = b) && true))) = true := h2
   rwa [Bool.and_true] at h2
  have e2 := e2 h2
  rw [if_pos (by omega)] at hL hI
  subst hL
  subst hI
  subst e2
  refine Trip.sr tblOk ?_
  refine Trip.ret (rt3 [])
 intro h2
 have h2 : cl = false := by
  rw [hc]
  have h2 : (pd && !(decide (l[p]!.kind = k) && (decide (l[p]!.body = b) && true))) = false := h2
  rwa [Bool.and_true] at h2
 have e3 := e3 h2
 have e4 := e4 h2
 refine Trip.sR tblOk (by repeat' (first | exact rfl | ((with_reducible refine Side.mk ?_); first | exact fun h => h | exact fun _ h => h) | constructor)) ?_
 apply Trip.cond (.tmp rfl)
 ·intro h3
  have h3 : (!pd && decide ((65536 : Int) ≤ l.length)) = true := by
   have h3 : (!pd && decide ((65536 : Int) ≤ ((l.map It.pv).length : Nat))) = true := h3
   rwa [List.length_map] at h3
  have e3 := e3 h3
  rw [if_pos (by omega)] at hL hI
  subst hL
  subst hI
  subst e3
  refine Trip.sr tblOk ?_
  refine Trip.ret (rt3 [])
 intro h3
 have h3 : (!pd && decide ((65536 : Int) ≤ l.length)) = false := by
  have h3 : (!pd && decide ((65536 : Int) ≤ ((l.map It.pv).length : Nat))) = false := h3
  rwa [List.length_map] at h3
 have e4 := e4 h3
 subst e4
 rw [if_neg (by simp)] at hL hI
 subst hI
 refine Trip.skip ?_
 refine Trip.rk ⟨[(3, .ref 3 0), (4, .ref 4 0), (8, sV pI), (9, iV p), (10, bV pd), (11, .osl 900 0 (l.map It.pv).length (l.map It.pv).length)], [(3, .box [iV k, sV b]), (4, .box [nilS]), (900, .arr 3 nl (l.map It.pv))]⟩ tblOk (by repeat' (first | exact rfl | (apply Rule.sem; intro hγ; with_reducible apply F_call (x := .func 45) (σ := []) (B := []) (news := [900]) hγ (hspec := c5)) | exact plainL_map _ (fun _ => rfl) _ | ((with_reducible refine Side.mk ?_); exact .inl rfl) | constructor)) (Weak.kp (huo := by repeat' (first | exact rfl | exact plainL_map _ (fun _ => rfl) _ | constructor))) ?_
 refine Trip.seqk ⟨[(4, .ref 4 0), (8, sV pI), (11, .osl 900 0 pL.length pL.length)], [(4, .box [nilS]), (900, .arr 3 false (pL.map It.pv))]⟩ ?_ ?_
 ·refine Trip.sr tblOk ?_
  apply Trip.cond (.tmp rfl)
  ·intro h4
   have h4 : pd = false := by simpa using h4
   rw [if_neg (by rw [h4]; simp)] at hL
   have hro : roFreeL (cellsOf ((l.map It.pv).take p ++ ([(It.mk pI k b).pv] ++ (l.map It.pv).drop p))) = true := by
    have := roL pL
    rw [hL] at this
    simpa using this
   have hpl2 : plainL ((l.map It.pv).take p ++ ([(It.mk pI k b).pv] ++ (l.map It.pv).drop p)) = true := by
    have : (l.map It.pv).take p ++ ([(It.mk pI k b).pv] ++ (l.map It.pv).drop p) = (l.take p ++ It.mk pI k b :: l.drop p).map It.pv := by simp
    rw [this]; exact plainL_map _ (fun _ => rfl) _
   refine Trip.R tblOk (by repeat' (first | exact rfl | (apply Rule.sem; intro hγ; with_reducible apply F_call (x := .func 46) (σ := [900]) (B := [64]) (news := []) hγ (hspec := c7)) | exact hpl2 | exact plainL_map _ (fun _ => rfl) _ | (refine Side.mk (.inr ⟨rfl, ?_, rfl⟩); simp only [List.all_cons, List.all_nil, Bool.and_true]; exact hro) | constructor)) ?_
   exact Weak.kp (ht := by repeat' (first | exact rfl | (rw [hL]; refine Side.mk (oslE ?_ ?_) <;> simp <;> omega) | constructor)) (ho := by repeat' (first | exact rfl | exact arrF rfl (by rw [hL]; simp) | constructor)) (huo := by repeat' (first | exact rfl | exact plainL_map _ (fun _ => rfl) _ | constructor))
  ·intro h4
   have h4 : pd = true := by simpa using h4
   rw [if_pos h4] at hL
   obtain ⟨hp1, _⟩ := hplt h4
   have hnlf : nl = false := by
    cases nl with
    | false => rfl
    | true => rw [hnl rfl] at hp1; simp at hp1
   subst hnlf
   subst hL
   refine Trip.skip ?_
   exact Weak.kp (ht := by repeat' (first | exact rfl | (refine Side.mk (oslE ?_ ?_) <;> (simp only [ln]; first | done | omega)) | constructor)) (huo := by repeat' (first | exact rfl | exact plainL_map _ (fun _ => rfl) _ | constructor))
 refine Trip.sr tblOk ?_
 refine Trip.ret (rt3 [900] (hc := by repeat' (first | exact rfl | exact plainL_map _ (fun _ => rfl) _ | (refine Side.mk ?_; simp only [ln]; first | done | omega) | constructor)))
end Go.Proofs.Tryz
