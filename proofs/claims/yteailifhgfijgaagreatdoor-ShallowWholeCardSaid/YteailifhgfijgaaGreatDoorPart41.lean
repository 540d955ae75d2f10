/- A part of the proof: Sh, Wj. -/
import Derived.Test.YteailifhgfijgaaGreatDoorPart40
set_option linter.unusedVariables false
set_option linter.unusedSimpArgs false
namespace Go.Proofs.Tryz
open Go Go.Sym Go.Graft
set_option maxRecDepth 20000
theorem cWholeFn (nl nc : Bool) (l : List It) (cuts : List Str) (hs : l.length ≤ 1000000000) (hc : cuts.length ≤ 1000000000) (x : Str) (hp : placed l x = true) (hb : l[place l x]!.body.length ≤ 100000000) :
  Ctr prog 82 [sV x, .rp [.sl nl 3 (l.map It.pv)], .rp [.sl nc 1 (cuts.map fun x => sV x)]] [] (bV (!linkP l l[place l x]!.kind l[place l x]!.body (hasS cuts x))) [] [] := by
 have c := cGet nl l x hs
 rw [hp] at c
 simp only [if_true] at c
 have c2 := cLinked nl l l[place l x]!.kind l[place l x]!.body (hasS cuts x) hs hb
 have c3 := cContainsS nc cuts x (by omega)
 generalize linkP l l[place l x]!.kind l[place l x]!.body (hasS cuts x) = r at *
 generalize l[place l x]!.kind = kk at *
 generalize l[place l x]!.body = bb at *
 generalize hasS cuts x = q at *
 refine Ctr.enter tblOk func82 rfl (by decide) rfl (nt := 20) rfl rfl rfl rfl ?_
 refine Trip.sr tblOk ?_
 refine Trip.sR tblOk (by repeat' (first | exact rfl | (apply Rule.sem; intro hγ; with_reducible apply F_call0 (x := .func 35) (B := []) hγ (hspec := c)) | ((with_reducible refine Side.mk ?_); exact .inl rfl) | constructor)) ?_
 refine Trip.sD tblOk mixed (by repeat' (first | exact rfl | (apply Rule.sem; intro hγ; with_reducible apply F_call0 (x := .func 65) (B := []) hγ (hspec := c3)) | (apply Rule.sem; intro hγ; with_reducible apply F_call0 (x := .func 83) (B := []) hγ (hspec := c2)) | ((with_reducible refine Side.mk ?_); exact .inl rfl) | constructor)) ?_
 refine Trip.ret (rt1 [] (hc := by repeat' (exact cvB (by simp only [List.length_map]))))
def wholeP (l : List It) (cuts H K : List Str) : Bool := decide ((K.length : Int) = 0) && !(H.any fun x => !linkP l l[place l x]!.kind l[place l x]!.body (hasS cuts x))
theorem cWholeP (nl nc nf : Bool) (l : List It) (cuts fr0 : List Str) (hs : l.length ≤ 1000000) (hc : cuts.length ≤ 1000000000) (hf : fr0.length ≤ 1000000000) (hnf : nf = true → fr0 = []) (hb : ∀ it ∈ l, it.body.length ≤ 100000000) (H K : List Str) (hR : IsReach l cuts fr0 H K) (hH : H.length ≤ 1000000000000) :
  Ctr prog 52 [stPV nl l, .sl nc 1 (cuts.map fun x => sV x), .sl nf 1 (fr0.map fun x => sV x)] [] (bV (wholeP l cuts H K)) [] [] := by
 have c := cGone nl nc nf l cuts fr0 hs hc hf hnf H K hR
 have c2 := cContainsFuncS H.isEmpty H 82 [.rp [.sl nl 3 (l.map It.pv)], .rp [.sl nc 1 (cuts.map fun x => sV x)]] rfl (fun x => !linkP l l[place l x]!.kind l[place l x]!.body (hasS cuts x)) hH (fun x hx => cWholeFn nl nc l cuts (by omega) hc x ((hR.m1 x).1 hx).2 (by
  have h := placed_lt ((hR.m1 x).1 hx).2
  exact hb _ (bang_mem h.1)))
 rw [wholeP]
 generalize (H.any fun x => !linkP l l[place l x]!.kind l[place l x]!.body (hasS cuts x)) = r at *
 refine Ctr.enter tblOk func52 rfl (by decide) rfl (nt := 25) rfl rfl rfl rfl ?_
 refine Trip.sr tblOk ?_
 refine Trip.sR tblOk (by repeat' (first | exact rfl | (apply Rule.sem; intro hγ; with_reducible apply F_call0 (x := .func 80) (B := []) hγ (hspec := c)) | ((with_reducible refine Side.mk ?_); exact .inl rfl) | constructor)) ?_
 apply Trip.weak (S' := ⟨[(3, .rp [.sl nl 3 (l.map It.pv)]), (4, .rp [.sl nc 1 (cuts.map fun x => sV x)]), (7, .sl H.isEmpty 1 (H.map fun x => sV x)), (8, .sl K.isEmpty 1 (K.map fun x => sV x))], []⟩)
 ·refine Weak.trans (S2 := ⟨[(3, .ref 3 0), (4, .ref 4 0), (7, .sl H.isEmpty 1 (H.map fun x => sV x)), (8, .sl K.isEmpty 1 (K.map fun x => sV x))], [(3, .box [.sl nl 3 (l.map It.pv)]), (4, .box [.sl nc 1 (cuts.map fun x => sV x)])]⟩) ?_ ?_
  ·exact Weak.kp
  ·refine Weak.turn [3, 4] rfl rfl ?_ ?_
   ·repeat' (first | exact rfl | constructor)
   ·repeat' (first | exact rfl | constructor)
 refine Trip.sR tblOk (by repeat' (first | exact rfl | (apply Rule.sem; intro hγ; with_reducible apply F_call0 (x := .func 81) (B := []) hγ (hspec := c2)) | ((with_reducible refine Side.mk ?_); first | exact .inl rfl | exact fun h => h | exact fun _ h => h) | constructor)) ?_
 refine Trip.ret (rt1 [] (hc := by repeat' (exact cvB (by simp [List.length_map]))))
end Go.Proofs.Tryz
namespace Go.Proofs.Tryz
open Go Go.Sym Go.Graft
set_option maxRecDepth 20000
theorem cGrow1 : Ctr prog 78 [nilS, iV 1] [] (.osl FN 0 0 0) [] [.arr 1 false []] := by
 refine Ctr.enter tblOk func78 rfl (by decide) rfl (nt := 27) rfl rfl rfl rfl ?_
 refine Trip.sr tblOk ?_
 refine Trip.seq (Trip.sr tblOk ?_)
 apply Trip.cond (.tmp rfl)
 ·intro h
  exact absurd h (by decide)
 intro h
 clear h
 refine Trip.skip ?_
 apply Trip.weak (S' := ⟨[(0, .osl 900 0 0 0), (1, iV 1)], [(900, .arr 1 true [])]⟩)
 ·refine Weak.trans (S2 := ⟨[(0, nilS), (1, iV 1)], []⟩) ?_ ?_
  ·exact Weak.kp
  ·exact Weak.adopt 900 1 rfl rfl (by repeat' (first | exact rfl | constructor)) (by repeat' (first | exact rfl | constructor))
 apply Trip.openCap (o := 900) rfl
 intro cap hcap hnl
 have hc0 := hnl rfl
 subst hc0
 refine Trip.seq (Trip.sR tblOk (by repeat' (first | exact rfl | (apply Rule.sem; intro hγ; apply F_lenC tblOk hγ) | (apply Rule.sem; intro hγ; apply F_cap tblOk hγ) | ((with_reducible refine Side.mk ?_); omega) | constructor)) ?_)
 refine Trip.sr tblOk ?_
 apply Trip.cond (.tmp rfl)
 ·intro h
  clear h
  apply Trip.weak (S' := ⟨[(0, .osl 900 0 0 0), (1, iV 1)], [(900, .arrc 1 true [] 0)]⟩)
  ·exact Weak.kp
  refine Trip.R tblOk (by repeat' (first | exact rfl | (apply Rule.sem; intro hγ; apply F_lenC tblOk hγ) | (apply Rule.sem; intro hγ; apply F_cap tblOk hγ) | (apply Rule.sem; intro hγ; apply F_sliceC (x := .tmp 17) tblOk hγ) | (apply Rule.sem; intro hγ; apply F_appendOver' tblOk hγ) | ((first | with_reducible refine bokR ?_ | with_reducible refine Side.mk ?_); first | omega | (simp [hiOf, loOf]; done)) | constructor)) ?_
  apply Trip.weak (S' := ⟨[(0, .osl 22 0 0 0)], [(22, .arr 1 false [])]⟩)
  ·refine Weak.trans (S2 := ⟨[(0, .osl 22 0 0 1)], [(22, .arr 1 false [deadE 1])]⟩) ?_ ?_
   ·exact Weak.kp
   ·refine Weak.shrink (es := [deadE 1]) 22 1 0 rfl (Side.mk (by simp)) (Side.mk rfl) rfl rfl rfl ?_ ?_
    ·repeat' (first | exact rfl | constructor)
    ·repeat' (first | exact rfl | constructor)
  refine Trip.sr tblOk ?_
  refine Trip.ret ?_
  refine ⟨_, _, [22], [], [], [.arr 1 false []], .cons rfl .nil, .one, .nil, .cons rfl .nil, rfl, rfl, rfl, .nil, ?_, ?_⟩
  all_goals repeat' (first | exact rfl | constructor)
 intro h
 exact absurd h (by decide)
theorem cConcat1 (x : Str) : Ctr prog 49 [.sl false 1 [.sl false 1 [sV x], .sl true 1 []]] [] (.sl false 1 [sV x]) [] [] := by
 have c := cGrow1
 refine Ctr.enter tblOk func49 rfl (by decide) rfl (nt := 36) rfl rfl rfl rfl ?_
 refine Trip.sr tblOk ?_
 refine Trip.sr tblOk ?_
 refine Trip.seq (Trip.sr tblOk ?_)
 refine Trip.block ?_
 refine Trip.loop (fun (i : Nat) => ⟨[(0, .sl false 1 [.sl false 1 [sV x], .sl true 1 []]), (3, iV (if i = 0 then 0 else 1)), (9, .sl false 1 [.sl false 1 [sV x], .sl true 1 []]), (10, iV 2), (11, iV i)], []⟩) (fun (i : Nat) => i ≤ 2) (fun (i : Nat) => 2 - i) (0) (by first | omega | (simp; done)) Weak.kp ?_
 intro i hi
 refine Trip.sr tblOk ?_
 refine Trip.seq ?_
 apply Trip.cond (.tmp rfl)
 ·intro h
  have h2 : i = 0 ∨ i = 1 := by simp at h; omega
  clear h hi
  rcases h2 with h2 | h2
  ·subst h2
   refine Trip.skip (Trip.seq (Trip.block (Trip.sR tblOk (by repeat' (first | exact rfl | ((with_reducible refine Side.mk ?_); (simp only [ln]; first | done | omega)) | constructor)) ?_)))
   refine Trip.sR tblOk (by repeat' (first | exact rfl | ((with_reducible refine Side.mk ?_); (simp only [ln]; first | done | omega)) | constructor)) ?_
   refine Trip.sr tblOk ?_
   apply Trip.cond (.tmp rfl)
   ·intro h3
    exact absurd h3 (by simp)
   intro h3
   refine Trip.skip (Trip.R tblOk (by repeat' (first | exact rfl | ((with_reducible refine Side.mk ?_); omega) | constructor)) ?_)
   exact ⟨0 + 1, by first | omega | (dsimp only at *; omega), by first | omega | (dsimp only at *; omega), Weak.kp⟩
  ·subst h2
   refine Trip.skip (Trip.seq (Trip.block (Trip.sR tblOk (by repeat' (first | exact rfl | ((with_reducible refine Side.mk ?_); (simp only [ln]; first | done | omega)) | constructor)) ?_)))
   refine Trip.sR tblOk (by repeat' (first | exact rfl | ((with_reducible refine Side.mk ?_); (simp only [ln]; first | done | omega)) | constructor)) ?_
   refine Trip.sr tblOk ?_
   apply Trip.cond (.tmp rfl)
   ·intro h3
    exact absurd h3 (by simp)
   intro h3
   refine Trip.skip (Trip.R tblOk (by repeat' (first | exact rfl | ((with_reducible refine Side.mk ?_); omega) | constructor)) ?_)
   exact ⟨1 + 1, by first | omega | (dsimp only at *; omega), by first | omega | (dsimp only at *; omega), Weak.kp⟩
 intro h
 have h : i = 2 := by simp at h; omega
 subst h
 refine Trip.exit (Trip.sR tblOk (by repeat' (first | exact rfl | (apply Rule.sem; intro hγ; with_reducible apply F_call (x := .func 78) (σ := []) (B := []) (news := [900]) hγ (hspec := c)) | ((with_reducible refine Side.mk ?_); exact .inl rfl) | constructor)) ?_)
 refine Trip.seq (Trip.sr tblOk ?_)
 refine Trip.block ?_
 refine Trip.loop (fun (i : Nat) => ⟨[(6, .osl 900 0 (if i = 0 then [] else [sV x]).length (if i = 0 then [] else [sV x]).length), (25, .sl false 1 [.sl false 1 [sV x], .sl true 1 []]), (26, iV 2), (27, iV i)], [(900, .arr 1 false (if i = 0 then [] else [sV x]))]⟩) (fun (i : Nat) => i ≤ 2) (fun (i : Nat) => 2 - i) (0) (by first | omega | (simp; done)) Weak.kp ?_
 intro i hi
 refine Trip.sr tblOk ?_
 refine Trip.seq ?_
 apply Trip.cond (.tmp rfl)
 ·intro h
  have h2 : i = 0 ∨ i = 1 := by simp at h; omega
  clear h hi
  rcases h2 with h2 | h2
  ·subst h2
   refine Trip.skip (Trip.seq (Trip.block (Trip.sR tblOk (by repeat' (first | exact rfl | ((with_reducible refine Side.mk ?_); (simp only [ln]; first | done | omega)) | constructor)) ?_)))
   refine Trip.R tblOk (by repeat' (first | exact rfl | ((with_reducible refine Side.mk ?_); (simp; done)) | constructor)) ?_
   refine Trip.R tblOk (by repeat' (first | exact rfl | ((with_reducible refine Side.mk ?_); omega) | constructor)) ?_
   exact ⟨0 + 1, by first | omega | (dsimp only at *; omega), by first | omega | (dsimp only at *; omega), Weak.kp⟩
  ·subst h2
   refine Trip.skip (Trip.seq (Trip.block (Trip.sR tblOk (by repeat' (first | exact rfl | ((with_reducible refine Side.mk ?_); (simp only [ln]; first | done | omega)) | constructor)) ?_)))
   refine Trip.R tblOk (by repeat' (first | exact rfl | ((with_reducible refine Side.mk ?_); (simp; done)) | constructor)) ?_
   refine Trip.R tblOk (by repeat' (first | exact rfl | ((with_reducible refine Side.mk ?_); omega) | constructor)) ?_
   exact ⟨1 + 1, by first | omega | (dsimp only at *; omega), by first | omega | (dsimp only at *; omega), Weak.kp⟩
 intro h
 have h : i = 2 := by simp at h; omega
 subst h
 refine Trip.exit (Trip.sr tblOk ?_)
 refine Trip.ret (rt1 [900])
theorem cJoinFn (x y : Str) : Ctr prog 51 [sV y, .rp [sV x]] [] (bV (decide (y = x))) [] [] := by
 refine Ctr.enter tblOk func51 rfl (by decide) rfl (nt := 7) rfl rfl rfl rfl ?_
 refine Trip.sr tblOk ?_
 refine Trip.sr tblOk ?_
 refine Trip.ret (rt1 [] (hc := by repeat' (exact cvB (by simp only [List.length_map]))))
theorem cDel1 (x : Str) : Ctr prog 50 [.osl PN 0 1 1, .clo (.func 51) [] [.rp [sV x]]] [.arr 1 false [sV x]] (.osl PN 0 0 1) [.arr 1 false [deadE 1]] [] := by
 have c := cIndexFuncS false [x] 51 [.rp [sV x]] rfl (fun y => decide (y = x)) (by simp) (fun y _ => cJoinFn x y)
 rw [show idxP (fun y => decide (y = x)) [x] = 0 from by have := idxP_some (q := fun y : Str => decide (y = x)) (l := [x]) (i := 0) (by simp) (fun j hj => absurd hj (by omega)) (by simp); simpa using this] at c
 refine Ctr.enter tblOk func50 rfl (by decide) rfl (nt := 42) rfl rfl rfl rfl ?_
 refine Trip.sr tblOk ?_
 refine Trip.sR tblOk (by repeat' (first | exact rfl | (apply Rule.sem; intro hγ; with_reducible apply F_call0 (x := .func 79) (B := [PN]) hγ (hspec := c)) | ((with_reducible refine Side.mk ?_); exact .inr ⟨rfl, rfl, rfl⟩) | constructor)) ?_
 refine Trip.seq (Trip.sr tblOk ?_)
 apply Trip.cond (.tmp rfl)
 ·intro h
  exact absurd h (by decide)
 intro h
 refine Trip.skip (Trip.seq (Trip.sR tblOk (by repeat' (first | exact rfl | ((with_reducible refine Side.mk ?_); omega) | constructor)) ?_))
 refine Trip.block ?_
 refine Trip.loop (fun (i : Nat) => ⟨[(0, .osl PN 0 1 1), (1, .clo (.func 51) [] [.rp [sV x]]), (5, iV 0), (6, iV 1)], [(PN, .arr 1 false [sV x])]⟩) (fun (_ : Nat) => True) (fun (_ : Nat) => 0) (0) (by trivial) Weak.kp ?_
 intro i _
 refine Trip.seq (Trip.sr tblOk ?_)
 apply Trip.cond (.tmp rfl)
 ·intro h
  exact absurd h (by decide)
 intro h
 refine Trip.exit (Trip.sR tblOk (by repeat' (first | exact rfl | (apply Rule.sem; intro hγ; apply F_clear tblOk hγ) | ((with_reducible refine bokL ?_); omega) | constructor)) ?_)
 refine Trip.sR tblOk (by repeat' (first | exact rfl | ((with_reducible refine bokR ?_); omega) | constructor)) ?_
 refine Trip.ret ?_
 apply Ret1o
 ·repeat' (first | exact rfl | constructor)
 ·repeat' (first | exact rfl | constructor)
 ·repeat' (first | exact rfl | constructor)
 ·repeat' (first | exact rfl | constructor)
set_option maxHeartbeats 1000000 in
theorem cJoinX (v : Vw) (x y : Str) (Cx Cy : Com) (hP : Cx.pars = [y]) (c1 : Ctr prog 48 [stPV v.nl v.l, sV x] [] (.tup [Cx.pv Cx.pars.isEmpty, iV 0]) [] []) (c2 : Ctr prog 48 [stPV v.nl v.l, sV y] [] (.tup [Cy.pv Cy.pars.isEmpty, iV 0]) [] [])
  (cW : Ctr prog 52 [stPV v.nl v.l, .sl false 1 [], .sl false 1 [sV y]] [] (bV true) [] []) : Ctr prog 25 [v.pv, .sl false 1 [sV x], .sl true 1 []] [] (.sl true 1 []) [] [] := by
 have k1 := cConcat1 x
 have k2 := cSortedS false [x] (by simp) (by simp) (by simp)
 rw [show msort [x] = [x] from List.mergeSort_singleton _] at k2
 have k3 := cCloneS false [sV x] (by simp) rfl rfl (by simp)
 have k4 := cDel1 x
 have hck : Cx.pv Cx.pars.isEmpty = .agg [sV Cx.tree, .sl false 1 [sV y], sV Cx.aut.name, sV Cx.aut.mail, iV Cx.aut.time, iV Cx.aut.zone, sV Cx.com.name, sV Cx.com.mail, iV Cx.com.time, iV Cx.com.zone, sV Cx.text] := by rw [hP]; show PV.agg [_, PV.sl _ _ (Cx.pars.map sV), _, _, _, _, _, _, _, _, _] = _; rw [hP]; rfl
 rw [hck] at c1
 clear hck hP
 obtain ⟨nl, l, nr, rf, ng, lg, nc, cuts⟩ := v
 dsimp only at *
 generalize Cy.pars.isEmpty = ny at *
 refine Ctr.enter tblOk func25 rfl (by decide) rfl (nt := 80) rfl rfl rfl rfl ?_
 refine Trip.sr tblOk ?_
 refine Trip.sR tblOk (by repeat' (first | exact rfl | (apply Rule.sem; intro hγ; with_reducible apply F_callG (x := .func 49) (σ := []) (G := [21]) (news := []) hγ (hspec := k1)) | (with_reducible apply cvView (B := [21])) | (apply Rule.sem; intro hγ; with_reducible apply F_call0 (x := .func 29) (B := []) hγ (hspec := k2)) | ((with_reducible refine Side.mk ?_); exact .inl rfl) | constructor)) ?_
 refine Trip.sr tblOk ?_
 refine Trip.seq (Trip.sr tblOk ?_)
 refine Trip.block ?_
 refine Trip.loop (fun (i : Nat) => ⟨[(3, .ref 3 0), (7, .sl false 1 [sV x]), (8, nilS), (24, .sl false 1 [sV x]), (25, iV 1), (26, iV i)], [(3, .box (Vw.cells ⟨nl, l, nr, rf, ng, lg, nc, cuts⟩))]⟩) (fun (i : Nat) => i ≤ 1) (fun (i : Nat) => 1 - i) (0) (by first | omega | (simp; done)) Weak.kp ?_
 intro i hi
 refine Trip.sr tblOk ?_
 refine Trip.seq ?_
 apply Trip.cond (.tmp rfl)
 ·intro h
  have h : i = 0 := by simp at h; omega
  subst h
  refine Trip.skip (Trip.seq (Trip.block (Trip.sR tblOk (by repeat' (first | exact rfl | ((with_reducible refine Side.mk ?_); (simp only [ln]; first | done | omega)) | constructor)) ?_)))
  refine Trip.sR tblOk (by repeat' (first | exact rfl | (apply Rule.sem; intro hγ; with_reducible apply F_call0 (x := .func 48) (B := []) hγ (hspec := c1)) | ((with_reducible refine Side.mk ?_); exact .inl rfl) | constructor)) ?_
  refine Trip.sr tblOk ?_
  refine Trip.seq (Trip.sr tblOk ?_)
  refine Trip.block ?_
  refine Trip.loop (fun (j : Nat) => ⟨[(3, .ref 3 0), (7, .sl false 1 [sV x]), (8, nilS), (10, .ref 10 0), (11, .ref 11 0), (13, bV true), (24, .sl false 1 [sV x]), (25, iV 1), (26, iV 0), (40, .sl false 1 [sV y]), (41, iV 1), (42, iV j)], [(10, .box [sV x]), (11, .box [sV Cx.tree, .sl false 1 [sV y], sV Cx.aut.name, sV Cx.aut.mail, iV Cx.aut.time, iV Cx.aut.zone, sV Cx.com.name, sV Cx.com.mail, iV Cx.com.time, iV Cx.com.zone, sV Cx.text]), (3, .box (Vw.cells ⟨nl, l, nr, rf, ng, lg, nc, cuts⟩))]⟩) (fun (j : Nat) => j ≤ 1) (fun (j : Nat) => 1 - j) (0) (by first | omega | (simp; done)) Weak.kp ?_
  intro j hj
  refine Trip.sr tblOk ?_
  refine Trip.seq ?_
  apply Trip.cond (.tmp rfl)
  ·intro h
   have h : j = 0 := by simp at h; omega
   subst h
   refine Trip.skip (Trip.seq (Trip.block (Trip.sR tblOk (by repeat' (first | exact rfl | ((with_reducible refine Side.mk ?_); (simp only [ln]; first | done | omega)) | constructor)) ?_)))
   refine Trip.sR tblOk (by repeat' (first | exact rfl | (apply Rule.sem; intro hγ; with_reducible apply F_call0 (x := .func 48) (B := []) hγ (hspec := c2)) | ((with_reducible refine Side.mk ?_); exact .inl rfl) | constructor)) ?_
   refine Trip.r tblOk ?_
   refine Trip.R tblOk (by repeat' (first | exact rfl | ((with_reducible refine Side.mk ?_); omega) | constructor)) ?_
   exact ⟨1, by first | omega | (dsimp only at *; omega), by first | omega | (dsimp only at *; omega), Weak.kp⟩
  intro h
  have h : j = 1 := by simp at h; omega
  subst h
  refine Trip.exit ?_
  apply Trip.weak (S' := ⟨[(3, .ref 3 0), (7, .sl false 1 [sV x]), (8, nilS), (10, .rp [sV x]), (11, .ref 11 0), (13, bV true), (24, .sl false 1 [sV x]), (25, iV 1), (26, iV 0)], [(11, .box [sV Cx.tree, .sl false 1 [sV y], sV Cx.aut.name, sV Cx.aut.mail, iV Cx.aut.time, iV Cx.aut.zone, sV Cx.com.name, sV Cx.com.mail, iV Cx.com.time, iV Cx.com.zone, sV Cx.text]), (3, .box (Vw.cells ⟨nl, l, nr, rf, ng, lg, nc, cuts⟩))]⟩)
  ·refine Weak.turnM [10] rfl rfl ?_ ?_
   all_goals repeat' (first | exact rfl | constructor)
  refine Trip.sR tblOk (by repeat' (first | exact rfl | (apply Rule.sem; intro hγ; with_reducible apply F_call (x := .func 34) (σ := []) (B := []) (news := [901]) hγ (hspec := k3)) | (apply Rule.sem; intro hγ; with_reducible apply F_call (x := .func 50) (σ := [901]) (B := []) (news := []) hγ (hspec := k4)) | ((with_reducible refine Side.mk ?_); exact .inl rfl) | constructor)) ?_
  refine Trip.sR tblOk (by repeat' (first | exact rfl | (apply Rule.sem; intro hγ; with_reducible apply F_call0 (x := .func 52) (B := [901]) hγ (hspec := cW)) | (with_reducible apply cvView (B := [901])) | ((with_reducible refine Side.mk ?_); exact .inr ⟨rfl, rfl, rfl⟩) | constructor)) ?_
  apply Trip.cond (.tmp rfl)
  ·intro h
   exact absurd h (by decide)
  intro h
  refine Trip.skip (Trip.R tblOk (by repeat' (first | exact rfl | ((with_reducible refine Side.mk ?_); omega) | constructor)) ?_)
  exact ⟨1, by first | omega | (dsimp only at *; omega), by first | omega | (dsimp only at *; omega), Weak.kp⟩
 intro h
 have h : i = 1 := by simp at h; omega
 subst h
 refine Trip.exit (Trip.sr tblOk ?_)
 refine Trip.ret (rt1 [])
end Go.Proofs.Tryz
