/- A part of the proof: Hg, Hy, Hz, Sa, Hins, Sc, GLiv. -/
import Derived.Test.YteailifhgfijgaaGreatDoorPart37
set_option linter.unusedVariables false
set_option linter.unusedSimpArgs false
namespace Go.Proofs.Tryz
open Go Go.Sym Go.Graft
set_option maxRecDepth 20000
theorem cParse15 (s : Str) (hs : s.length ≤ 1000000000) : Ctr prog 39 [sV s] [] (.tup [.sl (treeOf s).2.isEmpty 3 ((treeOf s).2.map En.pv), iV (treeOf s).1]) [] [] := by
 refine Ctr.enter tblOk func39 rfl (by decide) rfl (nt := 33) rfl rfl rfl rfl ?_
 refine Trip.sr tblOk ?_
 refine Trip.sr tblOk ?_
 refine Trip.seq (Trip.block ?_)
 apply Trip.loop (fun (x : Str × List En) => ⟨[(0, sV x.1), (4, .osl 900 0 x.2.length x.2.length)], [(900, .arr 3 x.2.isEmpty (x.2.map En.pv))]⟩) (fun (x : Str × List En) => Reads s x) (fun (x : Str × List En) => x.1.length) ((s, []))
 ·exact reads_zero s
 ·refine Weak.trans (S2 := ⟨[(0, sV s), (4, nilS)], []⟩) ?_ ?_
  ·exact Weak.kp
  ·exact Weak.adopt 900 3 rfl rfl (by repeat' (first | exact rfl | constructor)) (by repeat' (first | exact rfl | constructor))
 intro x hx
 obtain ⟨t, acc⟩ := x
 have hx2 := hx
 obtain ⟨_, hlen, hall⟩ := hx2
 dsimp only at *
 refine Trip.seq (Trip.sr tblOk ?_)
 apply Trip.cond (.tmp rfl)
 ·intro h
  have h : t ≠ [] := by simpa using h
  have c1 := cOne15 t (by omega)
  have herr := treeOf_err hx h
  have hnext := reads_next hs hx h
  have hshort := oneE_short (s := t)
  have hrest := oneN_rest (t := t)
  have hx1 : (oneE t).1 = 0 → (if (oneE t).1 = 0 then (oneE t).2.1 else ⟨0, [], []⟩) = (oneE t).2.1 := fun h => if_pos h
  generalize (if (oneE t).1 = 0 then (oneE t).2.1 else ⟨0, [], []⟩) = e at c1 hx1
  generalize oneE t = q at *
  obtain ⟨er, e2, rest⟩ := q
  dsimp only at *
  refine Trip.skip (Trip.block (Trip.sR tblOk (by repeat' (first | exact rfl | (apply Rule.sem; intro hγ; with_reducible apply F_call0 (x := .func 67) (B := []) hγ (hspec := c1)) | ((with_reducible refine Side.mk ?_); exact .inl rfl) | constructor)) ?_))
  refine Trip.seq (Trip.sr tblOk ?_)
  apply Trip.cond (.tmp rfl)
  ·intro h2
   have h2 : er ≠ 0 := by simpa using h2
   rw [herr h2]
   refine Trip.sr tblOk ?_
   refine Trip.ret (rt2 [])
  intro h2
  have h2 : er = 0 := by simpa using h2
  have hnext := hnext h2
  obtain ⟨hr1, hr2⟩ := hrest h2
  rw [hx1 h2] at c1
  have hx1 := hx1 h2
  subst hx1
  have hshort := hshort h2
  refine Trip.skip (Trip.sR tblOk (by repeat' (first | exact rfl | ((with_reducible refine Side.mk ?_); (simp only [ln]; first | done | omega)) | constructor)) ?_)
  refine Trip.R tblOk (by repeat' (first | exact rfl | ((with_reducible refine bokL ?_); omega) | constructor)) ?_
  exact ⟨(rest, acc ++ [e]), by exact hnext, by first | omega | (dsimp only at *; omega), Weak.kp (ht := by repeat' (first | exact rfl | exact vT ((drop_all _ _).trans hr1) | (refine Side.mk (oslE ?_ ?_) <;> (simp only [ln]; first | done | omega)) | constructor)) (ho := by repeat' (first | exact rfl | exact arrF (by simp) (by simp) | constructor)) (huo := by repeat' (first | exact plainL_map _ (fun _ => rfl) _ | constructor))⟩
 intro h
 have h : t = [] := by simpa using h
 subst h
 have hend := treeOf_end hx
 have c2 := cCheck15 acc.isEmpty acc (by simp at hlen; omega) hall
 rw [hend]
 generalize checkE acc = ce at *
 refine Trip.exit (Trip.sR tblOk (by repeat' (first | exact rfl | (apply Rule.sem; intro hγ; with_reducible apply F_call0 (x := .func 68) (B := [900]) hγ (hspec := c2)) | exact plainL_map _ (fun _ => rfl) _ | ((with_reducible refine Side.mk ?_); first | exact .inr ⟨rfl, rfl, rfl⟩ | (simp only [ln]; first | done | omega)) | constructor)) ?_)
 refine Trip.seq (Trip.sr tblOk ?_)
 apply Trip.cond (.tmp rfl)
 ·intro h2
  have h2 : ce ≠ 0 := by simpa using h2
  rw [if_pos h2]
  refine Trip.sr tblOk ?_
  refine Trip.ret (rt2 [])
 intro h2
 have h2 : ce = 0 := by simpa using h2
 rw [if_neg (by simpa using h2)]
 refine Trip.skip (Trip.sr tblOk ?_)
 refine Trip.ret (rt2 [900] (hc := by repeat' (first | exact rfl | exact plainL_map _ (fun _ => rfl) _ | (refine Side.mk ?_; simp only [ln]; first | done | omega) | constructor)))
end Go.Proofs.Tryz
namespace Go.Proofs.Tryz
open Go Go.Sym Go.Graft
set_option maxRecDepth 20000
theorem cWhole16 (k : Int) (b : Str) : Ctr prog 38 [objPV k b] [] (iV (wholeE k b)) [] [] := by
 have c1 := cBytes2 k b
 have hlen := objErr_len (k := k) (b := b)
 have hw : wholeE k b = if objErr k b ≠ 0 then objErr k b else if k = 2 then (treeOf b).1 else if k = 3 then (comR b).1 else if k = 4 then (tgR b).1 else 0 := rfl
 generalize wholeE k b = we at *
 generalize objErr k b = oe at *
 generalize objBytes k b = bs at *
 refine Ctr.enter tblOk func38 rfl (by decide) rfl (nt := 40) rfl rfl rfl rfl ?_
 refine Trip.sr tblOk ?_
 refine Trip.sR tblOk (by repeat' (first | exact rfl | (apply Rule.sem; intro hγ; with_reducible apply F_call0 (x := .func 66) (B := []) hγ (hspec := c1)) | ((with_reducible refine Side.mk ?_); exact .inl rfl) | constructor)) ?_
 refine Trip.seq (Trip.sr tblOk ?_)
 apply Trip.cond (.tmp rfl)
 ·intro h
  have h : oe ≠ 0 := by simpa using h
  rw [if_pos h] at hw
  subst hw
  refine Trip.sr tblOk ?_
  refine Trip.ret (rt1 [])
 intro h
 have h : oe = 0 := by simpa using h
 have hlen := hlen h
 rw [if_neg (by simp [h])] at hw
 subst h
 have t1 := cParse15 b (by omega)
 have t2 := cParse16 b (by omega)
 have t3 := cParseTg16 b (by omega)
 generalize treeOf b = r1 at *
 generalize comR b = r2 at *
 generalize tgR b = r3 at *
 refine Trip.skip ?_
 refine Trip.seqk ⟨[(4, iV we)], []⟩ ?_ ?_
 ·refine Trip.sr tblOk ?_
  refine Trip.block (Trip.sr tblOk ?_)
  apply Trip.cond (.tmp rfl)
  ·intro h2
   have h2 : k = 2 := by simpa using h2
   rw [if_pos h2] at hw
   subst hw
   refine Trip.R tblOk (by repeat' (first | exact rfl | (apply Rule.sem; intro hγ; with_reducible apply F_call0 (x := .func 39) (B := []) hγ (hspec := t1)) | ((with_reducible refine Side.mk ?_); exact .inl rfl) | constructor)) ?_
   exact Weak.kp
  intro h2
  have h2 : ¬ k = 2 := by simpa using h2
  rw [if_neg h2] at hw
  refine Trip.sr tblOk ?_
  apply Trip.cond (.tmp rfl)
  ·intro h3
   have h3 : k = 3 := by simpa using h3
   rw [if_pos h3] at hw
   subst hw
   refine Trip.R tblOk (by repeat' (first | exact rfl | (apply Rule.sem; intro hγ; with_reducible apply F_call0 (x := .func 40) (B := []) hγ (hspec := t2)) | ((with_reducible refine Side.mk ?_); exact .inl rfl) | constructor)) ?_
   exact Weak.kp
  intro h3
  have h3 : ¬ k = 3 := by simpa using h3
  rw [if_neg h3] at hw
  refine Trip.sr tblOk ?_
  apply Trip.cond (.tmp rfl)
  ·intro h4
   have h4 : k = 4 := by simpa using h4
   rw [if_pos h4] at hw
   subst hw
   refine Trip.R tblOk (by repeat' (first | exact rfl | (apply Rule.sem; intro hγ; with_reducible apply F_call0 (x := .func 41) (B := []) hγ (hspec := t3)) | ((with_reducible refine Side.mk ?_); exact .inl rfl) | constructor)) ?_
   exact Weak.kp
  intro h4
  have h4 : ¬ k = 4 := by simpa using h4
  rw [if_neg h4] at hw
  subst hw
  refine Trip.skip ?_
  exact Weak.kp
 refine Trip.sr tblOk ?_
 refine Trip.ret (rt1 [])
end Go.Proofs.Tryz
namespace Go.Proofs.Tryz
open Go Go.Sym Go.Graft
set_option maxRecDepth 20000
theorem turnS2 {nt a b : Nat} {N : List Str} {nl : Bool} (hb : Nat.blt b PN = true) : Weak nt ⟨[(a, .osl b 0 N.length N.length)], [(b, .arr 1 nl (N.map fun x => sV x))]⟩ ⟨[(a, .sl nl 1 (N.map fun x => sV x))], []⟩ := by
 refine Weak.turn [b] (by simp [hb]) (by simp) ?_ ?_
 ·refine .cons (q := .osl b 0 N.length N.length) (by simp [St.get, look_cons]) ?_ .nil
  refine .bArr (by simp) (by simp [St.obj, look_cons]) (by show _ = _; simp) ?_
  exact plainL_map _ (fun _ => rfl) _
 ·exact .nil
set_option maxHeartbeats 1000000 in
theorem cLinks16 (k : Int) (b : Str) : Ctr prog 19 [objPV k b] [] (.tup [.sl (linksOf k b).isEmpty 1 ((linksOf k b).map fun x => sV x), iV (wholeE k b)]) [] [] := by
 have c1 := cWhole16 k b
 have hw : wholeE k b = 0 → objErr k b = 0 := fun h => by
  rw [wholeE] at h
  by_cases h2 : objErr k b ≠ 0
  ·rw [if_pos h2] at h; exact h
  ·simpa using h2
 have hl : linksOf k b = if wholeE k b ≠ 0 then [] else dedup (namesOf k b) := rfl
 have hN : namesOf k b = if k = 2 then (treeOf b).2.map En.id else if k = 3 then (comR b).2.tree :: (comR b).2.pars else if k = 4 then [(tgR b).2.obj] else [] := rfl
 have hNl := namesOf_len k b
 have htl := treeOf_len b
 generalize linksOf k b = lk at *
 generalize wholeE k b = we at *
 generalize namesOf k b = N at *
 refine Ctr.enter tblOk func19 rfl (by decide) rfl (nt := 95) rfl rfl rfl rfl ?_
 refine Trip.sr tblOk ?_
 refine Trip.sR tblOk (by repeat' (first | exact rfl | (apply Rule.sem; intro hγ; with_reducible apply F_call0 (x := .func 38) (B := []) hγ (hspec := c1)) | ((with_reducible refine Side.mk ?_); exact .inl rfl) | constructor)) ?_
 refine Trip.seq (Trip.sr tblOk ?_)
 apply Trip.cond (.tmp rfl)
 ·intro h
  have h : we ≠ 0 := by simpa using h
  rw [if_pos h] at hl
  subst hl
  refine Trip.sr tblOk ?_
  refine Trip.ret (rt2 [])
 intro h
 have h : we = 0 := by simpa using h
 have hlen := Go.Graft.objErr_len (hw h)
 rw [if_neg (by simp [h])] at hl
 subst hl
 subst h
 have t1 := cParse15 b (by omega)
 have t2 := cParse16 b (by omega)
 have t3 := cParseTg16 b (by omega)
 refine Trip.skip (Trip.sr tblOk ?_)
 refine Trip.seqk ⟨[(5, .osl 901 0 N.length N.length)], [(901, .arr 1 N.isEmpty (N.map fun x => sV x))]⟩ ?_ ?_
 ·apply Trip.weak (S' := ⟨[(1, .ref 1 0), (5, .osl 901 0 0 0)], [(901, .arr 1 true []), (1, .box [iV k, sV b])]⟩)
  ·refine Weak.trans (S2 := ⟨[(1, .ref 1 0), (5, nilS)], [(1, .box [iV k, sV b])]⟩) ?_ ?_
   ·exact Weak.kp
   ·exact Weak.adopt 901 1 rfl rfl (by repeat' (first | exact rfl | constructor)) (by repeat' (first | exact rfl | constructor))
  refine Trip.sr tblOk ?_
  refine Trip.block (Trip.sr tblOk ?_)
  apply Trip.cond (.tmp rfl)
  ·intro h2
   have h2 : k = 2 := by simpa using h2
   rw [if_pos h2] at hN
   generalize treeOf b = r1 at *
   obtain ⟨e1, l⟩ := r1
   dsimp only at *
   refine Trip.sR tblOk (by repeat' (first | exact rfl | (apply Rule.sem; intro hγ; with_reducible apply F_call0 (x := .func 39) (B := []) hγ (hspec := t1)) | ((with_reducible refine Side.mk ?_); exact .inl rfl) | constructor)) ?_
   refine Trip.sr tblOk ?_
   refine Trip.block ?_
   refine Trip.loop (fun (i : Nat) => ⟨[(5, .osl 901 0 ((l.take i).map En.id).length ((l.take i).map En.id).length), (6, .sl l.isEmpty 3 (l.map En.pv)), (8, iV i)], [(901, .arr 1 ((l.take i).map En.id).isEmpty (((l.take i).map En.id).map fun x => sV x))]⟩) (fun (i : Nat) => i ≤ l.length) (fun (i : Nat) => l.length - i) (0) (by first | omega | (simp; done)) Weak.kp ?_
   intro i hi
   refine Trip.seq (Trip.sr tblOk ?_)
   apply Trip.cond (.tmp rfl)
   ·intro h
    have h : i < l.length := by simp at h; omega
    have hsn : (l.take (i + 1)).map En.id = (l.take i).map En.id ++ [l[i]!.id] := by rw [take_snoc l i h, List.map_append]; rfl
    have hfl : ((l.take i).map En.id).length ≤ 1048576 := by rw [List.length_map, List.length_take]; omega
    generalize hF2 : (l.take (i + 1)).map En.id = F2 at *
    generalize (l.take i).map En.id = F at *
    subst hsn
    refine Trip.skip (Trip.seq (Trip.block (Trip.R tblOk (by repeat' (first | exact rfl | exact idx_map _ _ _ (by show _ < _; first | omega | (simp only [List.length_map] at *; omega)) | ((with_reducible refine Side.mk ?_); (simp only [ln]; first | done | omega)) | constructor)) ?_)))
    refine Trip.R tblOk (by repeat' (first | exact rfl | ((with_reducible refine Side.mk ?_); omega) | constructor)) ?_
    exact ⟨i + 1, by first | omega | (dsimp only at *; omega), by first | omega | (dsimp only at *; omega), Weak.kp (ht := by repeat' (first | exact rfl | (rw [hF2]; refine Side.mk (oslE ?_ ?_) <;> simp) | constructor)) (ho := by repeat' (first | exact rfl | (rw [hF2]; exact arrF (by simp) (by simp)) | constructor)) (huo := by repeat' (first | exact plainL_map _ (fun _ => rfl) _ | constructor))⟩
   intro h
   have h : i = l.length := by simp at h; omega
   subst h
   refine Trip.exit ?_
   rw [List.take_length, ← hN]
   exact Weak.kp (huo := by repeat' (first | exact plainL_map _ (fun _ => rfl) _ | constructor))
  intro h2
  have h2 : ¬ k = 2 := by simpa using h2
  rw [if_neg h2] at hN
  refine Trip.sr tblOk ?_
  apply Trip.cond (.tmp rfl)
  ·intro h3
   have h3 : k = 3 := by simpa using h3
   rw [if_pos h3] at hN
   have hcl := comR_len b
   generalize comR b = r2 at *
   obtain ⟨e2, cm⟩ := r2
   obtain ⟨tr, ps, ⟨an, am, at', az⟩, ⟨cn, cml, ct, cz⟩, tx⟩ := cm
   dsimp only at *
   subst hN
   refine Trip.sR tblOk (by repeat' (first | exact rfl | (apply Rule.sem; intro hγ; with_reducible apply F_call0 (x := .func 40) (B := []) hγ (hspec := t2)) | ((with_reducible refine Side.mk ?_); exact .inl rfl) | constructor)) ?_
   refine Trip.sR tblOk (by repeat' (first | exact rfl | ((with_reducible refine Side.mk ?_); (simp only [ln]; first | done | omega)) | constructor)) ?_
   refine Trip.R tblOk (by repeat' (first | exact rfl | exact cellsOk_map _ (fun _ => rfl) _ | ((with_reducible refine Side.mk ?_); (simp only [ln]; first | done | omega)) | constructor)) ?_
   exact Weak.kp (ht := by repeat' (first | exact rfl | (refine Side.mk (oslE ?_ ?_) <;> (simp; try omega)) | constructor)) (huo := by repeat' (first | exact plainL_map _ (fun _ => rfl) _ | constructor))
  intro h3
  have h3 : ¬ k = 3 := by simpa using h3
  rw [if_neg h3] at hN
  refine Trip.sr tblOk ?_
  apply Trip.cond (.tmp rfl)
  ·intro h4
   have h4 : k = 4 := by simpa using h4
   rw [if_pos h4] at hN
   generalize tgR b = r3 at *
   obtain ⟨e3, tg⟩ := r3
   obtain ⟨ob, kk, nm, ⟨an, am, at', az⟩, tx⟩ := tg
   dsimp only at *
   subst hN
   refine Trip.sR tblOk (by repeat' (first | exact rfl | (apply Rule.sem; intro hγ; with_reducible apply F_call0 (x := .func 41) (B := []) hγ (hspec := t3)) | ((with_reducible refine Side.mk ?_); exact .inl rfl) | constructor)) ?_
   refine Trip.R tblOk (by repeat' (first | exact rfl | ((with_reducible refine Side.mk ?_); (simp only [ln]; first | done | omega)) | constructor)) ?_
   exact Weak.kp
  intro h4
  have h4 : ¬ k = 4 := by simpa using h4
  rw [if_neg h4] at hN
  subst hN
  refine Trip.skip ?_
  exact Weak.kp
 apply Trip.weak (turnS2 (by decide))
 refine Trip.sr tblOk ?_
 refine Trip.seq (Trip.sr tblOk ?_)
 refine Trip.block ?_
 apply Trip.loop (fun (i : Nat) => ⟨[(5, .sl N.isEmpty 1 (N.map fun x => sV x)), (13, .osl 900 0 (dedN N i).length (dedN N i).length), (14, iV i)], [(900, .arr 1 (dedN N i).isEmpty ((dedN N i).map fun x => sV x))]⟩) (fun (i : Nat) => i ≤ N.length) (fun (i : Nat) => N.length - i) (0)
 ·first | omega | (simp; done)
 ·refine Weak.trans (S2 := ⟨[(5, .sl N.isEmpty 1 (N.map fun x => sV x)), (13, nilS), (14, iV 0)], []⟩) ?_ ?_
  ·exact Weak.kp
  ·exact Weak.adopt 900 1 rfl rfl (by repeat' (first | exact rfl | constructor)) (by repeat' (first | exact rfl | constructor))
 intro i hi
 refine Trip.seq (Trip.sr tblOk ?_)
 apply Trip.cond (.tmp rfl)
 ·intro h
  have h : i < N.length := by simp at h; omega
  have hdl := dedN_len N i
  have c2 := cHas06 (dedN N i).isEmpty (dedN N i) N[i]! (by omega)
  have hst : dedN N (i + 1) = if hasS (dedN N i) N[i]! = true then dedN N i else dedN N i ++ [N[i]!] := rfl
  generalize hasS (dedN N i) N[i]! = hs at *
  generalize hD2 : dedN N (i + 1) = D2 at *
  generalize dedN N i = D at *
  refine Trip.skip ?_
  refine Trip.seqk ⟨[(5, .sl N.isEmpty 1 (N.map fun x => sV x)), (13, .osl 900 0 D2.length D2.length), (14, iV i)], [(900, .arr 1 D2.isEmpty (D2.map fun x => sV x))]⟩ ?_ ?_
  ·refine Trip.block (Trip.sR tblOk (by repeat' (first | exact rfl | (apply Rule.sem; intro hγ; with_reducible apply F_call0 (x := .func 17) (B := [900]) hγ (hspec := c2)) | exact plainL_map _ (fun _ => rfl) _ | exact idx_map _ _ _ (by show _ < _; first | omega | (simp only [List.length_map] at *; omega)) | ((with_reducible refine Side.mk ?_); first | exact .inr ⟨rfl, rfl, rfl⟩ | (simp only [ln]; first | done | omega)) | constructor)) ?_)
   apply Trip.cond (.tmp rfl)
   ·intro h2
    have h2 : hs = false := by simpa using h2
    rw [if_neg (by rw [h2]; simp)] at hst
    subst hst
    refine Trip.R tblOk (by repeat' (first | exact rfl | exact idx_map _ _ _ (by show _ < _; first | omega | (simp only [List.length_map] at *; omega)) | ((with_reducible refine Side.mk ?_); (simp only [ln]; first | done | omega)) | constructor)) ?_
    exact Weak.kp (ht := by repeat' (first | exact rfl | (refine Side.mk (oslE ?_ ?_) <;> (simp only [ln]; first | done | omega)) | constructor)) (ho := by repeat' (first | exact rfl | exact arrF (by simp) (by simp) | constructor)) (huo := by repeat' (first | exact plainL_map _ (fun _ => rfl) _ | constructor))
   ·intro h2
    have h2 : hs = true := by simpa using h2
    rw [if_pos h2] at hst
    subst hst
    refine Trip.skip ?_
    exact Weak.kp (huo := by repeat' (first | exact plainL_map _ (fun _ => rfl) _ | constructor))
  refine Trip.R tblOk (by repeat' (first | exact rfl | ((with_reducible refine Side.mk ?_); omega) | constructor)) ?_
  exact ⟨i + 1, by first | omega | (dsimp only at *; omega), by first | omega | (dsimp only at *; omega), Weak.kp (ht := by repeat' (first | exact rfl | (rw [hD2]; rfl) | constructor)) (ho := by repeat' (first | exact rfl | (rw [hD2]; rfl) | constructor)) (huo := by repeat' (first | exact plainL_map _ (fun _ => rfl) _ | constructor))⟩
 intro h
 have h : i = N.length := by simp at h; omega
 subst h
 refine Trip.exit ?_
 rw [dedup]
 refine Trip.sr tblOk ?_
 refine Trip.ret (rt2 [900] (hc := by repeat' (first | exact rfl | exact plainL_map _ (fun _ => rfl) _ | (refine Side.mk ?_; simp only [ln]; first | done | omega) | constructor)))
end Go.Proofs.Tryz
namespace Go.Proofs.Tryz
open Go Go.Sym Go.Graft
set_option maxRecDepth 20000
theorem cLinksN (k : Int) (b : Str) (cut : Bool) : Ctr prog 121 [objPV k b, bV cut] [] (.sl (linksOf k b).isEmpty 1 ((nmsOf k b cut).map fun x => sV x)) [] [] := by
 have c1 := cLinks k b
 have hn : nmsOf k b cut = if (cut && decide (k = 3)) = true then (linksOf k b).take 1 else linksOf k b := rfl
 generalize nmsOf k b cut = N at *
 generalize linksOf k b = l at *
 refine Ctr.enter tblOk func121 rfl (by decide) rfl (nt := 26) rfl rfl rfl rfl ?_
 refine Trip.sr tblOk ?_
 refine Trip.sR tblOk (by repeat' (first | exact rfl | (apply Rule.sem; intro hγ; with_reducible apply F_call0 (x := .func 36) (B := []) hγ (hspec := c1)) | ((with_reducible refine Side.mk ?_); exact .inl rfl) | constructor)) ?_
 refine Trip.seqk ⟨[(5, .sl l.isEmpty 1 (N.map fun x => sV x))], []⟩ ?_ ?_
 ·refine Trip.sR tblOk (by repeat' (first | exact rfl | ((with_reducible refine Side.mk ?_); first | exact fun h => h | exact fun _ h => h) | constructor)) ?_
  apply Trip.cond (.tmp rfl)
  ·intro h
   have h : (cut && decide (k = 3) && decide (0 < (((l.map fun x => sV x).length : Nat) : Int))) = true := h
   rw [List.length_map] at h
   simp only [Bool.and_eq_true, decide_eq_true_eq] at h
   rw [if_pos (by simp [h.1])] at hn
   subst hn
   rw [List.map_take]
   refine Trip.R tblOk (by repeat' (first | exact rfl | ((with_reducible refine bokR ?_); (simp only [ln]; first | done | omega)) | constructor)) ?_
   exact Weak.kp
  ·intro h
   have h : (cut && decide (k = 3) && decide (0 < (((l.map fun x => sV x).length : Nat) : Int))) = false := h
   rw [List.length_map] at h
   have hN : N = l := by
    rw [hn]
    split
    ·rename_i h2
     rw [h2] at h
     simp at h
     rw [List.take_of_length_le (by simp [h])]
    ·rfl
   subst hN
   refine Trip.skip ?_
   exact Weak.kp
 refine Trip.sr tblOk ?_
 refine Trip.ret (rt1 [])
theorem cRight17 (nl : Bool) (l : List It) (hs : l.length ≤ 1000000000) : Ctr prog 21 [stPV nl l] [] (bV (rightSt l)) [] [] := by
 refine Ctr.enter tblOk func21 rfl (by decide) rfl (nt := 53) rfl rfl rfl rfl ?_
 refine Trip.sr tblOk ?_
 refine Trip.seq (Trip.sr tblOk ?_)
 apply Trip.cond (.tmp rfl)
 ·intro h
  have h : (65536 : Int) < l.length := by simpa using h
  rw [right_big h]
  refine Trip.sr tblOk ?_
  refine Trip.ret (rt1 [] (hc := by repeat' (exact cvB (by simp only [List.length_map]))))
 intro h
 have h0 : (l.length : Int) ≤ 65536 := by simp at h; omega
 refine Trip.skip (Trip.seq (Trip.sr tblOk ?_))
 refine Trip.block ?_
 refine Trip.loop (fun (i : Nat) => ⟨[(1, .ref 1 0), (3, iV i)], [(1, .box [.sl nl 3 (l.map It.pv)])]⟩) (fun (i : Nat) => i ≤ l.length ∧ ∀ j, j < i → itemBad l j = false) (fun (i : Nat) => l.length - i) (0) (by exact ⟨Nat.zero_le _, fun j hj => absurd hj (by omega)⟩) Weak.kp ?_
 intro i hi
 obtain ⟨hi, hj⟩ := hi
 refine Trip.seq (Trip.sr tblOk ?_)
 apply Trip.cond (.tmp rfl)
 ·intro h
  have h : i < l.length := by simp at h; omega
  have e1 : ((i : Int) - 1).toNat = i - 1 := by omega
  have hb : itemBad l i = ((decide (0 < (i : Int)) && !Op.bytesLess l[((i : Int) - 1).toNat]!.id l[i]!.id) || !decide (wholeE l[i]!.kind l[i]!.body = 0) || !decide (objId l[i]!.kind l[i]!.body = l[i]!.id)) := by rw [e1]; rfl
  have hno := right_no h
  have c2 := cWhole16 l[i]!.kind l[i]!.body
  have c3 := cId2 l[i]!.kind l[i]!.body
  generalize wholeE l[i]!.kind l[i]!.body = we at *
  generalize objId l[i]!.kind l[i]!.body = oi at *
  refine Trip.skip (Trip.seq (Trip.block (Trip.sR tblOk (by repeat' (first | exact rfl | exact idx_map _ _ _ (by show _ < _; first | omega | (simp only [List.length_map] at *; omega)) | ((with_reducible refine Side.mk ?_); (simp only [ln]; first | done | omega)) | constructor)) ?_)))
  refine Trip.sr tblOk ?_
  refine Trip.sD tblOk mixed (by repeat' (first | exact rfl | (apply Rule.under tblOk; intro hγ; with_reducible apply Rule.indexAddr) | exact idx_map _ _ _ (by have h2 := hγ; simp only [gpick, cond_true, cond_false, decide_eq_true_eq, Bool.and_eq_true, Bool.or_eq_true, Bool.not_eq_true', Bool.not_eq_false', Bool.or_eq_false_iff, decide_eq_false_iff_not, List.length_map] at h2; show _ < _; omega) | (apply Rule.sem; intro hγ; with_reducible apply F_call0 (x := .func 38) (B := []) hγ (hspec := c2)) | (apply Rule.sem; intro hγ; with_reducible apply F_call0 (x := .func 44) (B := []) hγ (hspec := c3)) | ((with_reducible refine Side.mk ?_); first | omega | exact .inl rfl | exact fun h => h | exact fun _ h => h | exact fun _ h => congrArg Bool.not h | exact fun _ => hγ | (have h2 := hγ; simp only [gpick, cond_true, cond_false, decide_eq_true_eq, Bool.and_eq_true, Bool.or_eq_true, Bool.not_eq_true', Bool.not_eq_false', Bool.or_eq_false_iff, decide_eq_false_iff_not, List.length_map] at h2; (try simp only [List.length_map]); omega)) | constructor)) ?_
  apply Trip.cond (.tmp rfl)
  ·intro h2
   have h2 : itemBad l i = true := by rw [hb]; exact h2
   rw [hno h2]
   refine Trip.sr tblOk ?_
   refine Trip.ret (rt1 [] (hc := by repeat' (exact cvB (by simp only [List.length_map]))))
  intro h2
  have h2 : itemBad l i = false := by rw [hb]; exact h2
  refine Trip.skip (Trip.R tblOk (by repeat' (first | exact rfl | ((with_reducible refine Side.mk ?_); omega) | constructor)) ?_)
  exact ⟨i + 1, by exact ⟨by omega, fun j h3 => (Nat.lt_succ_iff_lt_or_eq.1 h3).elim (hj j) (fun e => e ▸ h2)⟩, by first | omega | (dsimp only at *; omega), Weak.kp⟩
 intro h
 have h : i = l.length := by simp at h; omega
 subst h
 rw [right_yes h0 hj]
 refine Trip.exit (Trip.sr tblOk ?_)
 refine Trip.ret (rt1 [] (hc := by repeat' (exact cvB (by simp only [List.length_map]))))
end Go.Proofs.Tryz
namespace Go.Proofs.Tryz
open Go Go.Sym Go.Graft
set_option maxRecDepth 20000
end Go.Proofs.Tryz
namespace Go.Proofs.Tryz
open Go Go.Sym Go.Graft
set_option maxRecDepth 20000
theorem putE_whole {l : List It} {k : Int} {b : Str} (h : wholeE k b ≠ 0) : putE l k b = wholeE k b := by rw [putE, if_pos h]
theorem putE_clash {l : List It} {k : Int} {b : Str} (h : wholeE k b = 0) (h2 : clashP l k b = true) : putE l k b = 170 := by rw [putE, if_neg (by simp [h]), if_pos h2]
theorem putE_big {l : List It} {k : Int} {b : Str} (h : wholeE k b = 0) (h2 : clashP l k b = false) (h3 : (!placed l (objId k b) && decide ((65536 : Int) ≤ l.length)) = true) : putE l k b = 4 := by rw [putE, if_neg (by simp [h]), if_neg (by simp [h2]), if_pos h3]
theorem putE_ok {l : List It} {k : Int} {b : Str} (h : wholeE k b = 0) (h2 : clashP l k b = false) (h3 : (!placed l (objId k b) && decide ((65536 : Int) ≤ l.length)) = false) : putE l k b = 0 := by rw [putE, if_neg (by simp [h]), if_neg (by simp [h2]), if_neg (by rw [h3]; simp)]
set_option maxHeartbeats 1000000 in
theorem cPut17 (nl : Bool) (l : List It) (k : Int) (b : Str) (hnl : nl = true → l = []) (hs : l.length ≤ 1000000000) : Ctr prog 47 [stPV nl l, objPV k b] [] (.tup [stPV (!decide (putE l k b = 0)) (putL l k b), sV (putI l k b), iV (putE l k b)]) [] [] := by
 have c1 := cWhole16 k b
 have c2 := cId2 k b
 have c3 := cPlace2 nl l (objId k b) hs
 have e1 := putE_whole (l := l) (k := k) (b := b)
 have e2 := putE_clash (l := l) (k := k) (b := b)
 have e3 := putE_big (l := l) (k := k) (b := b)
 have e4 := putE_ok (l := l) (k := k) (b := b)
 have hL : putL l k b = if putE l k b ≠ 0 then [] else if placed l (objId k b) = true then l else l.take (place l (objId k b)) ++ (⟨objId k b, k, b⟩ :: l.drop (place l (objId k b))) := rfl
 have hI : putI l k b = if putE l k b ≠ 0 then [] else objId k b := rfl
 have hc : clashP l k b = (placed l (objId k b) && !(decide (l[place l (objId k b)]!.kind = k) && decide (l[place l (objId k b)]!.body = b))) := rfl
 have hple := place_le l (objId k b)
 have hplt := placed_lt (l := l) (x := objId k b)
 generalize clashP l k b = cl at *
 generalize putL l k b = pL at *
 generalize putI l k b = pI at *
 generalize putE l k b = pE at *
 generalize wholeE k b = we at *
 generalize objId k b = id at *
 generalize placed l id = pd at *
 generalize place l id = p at *
 refine Ctr.enter tblOk func47 rfl (by decide) rfl (nt := 80) rfl rfl rfl rfl ?_
 refine Trip.sr tblOk ?_
 refine Trip.seq (Trip.sR tblOk (by repeat' (first | exact rfl | (apply Rule.sem; intro hγ; with_reducible apply F_call0 (x := .func 38) (B := []) hγ (hspec := c1)) | ((with_reducible refine Side.mk ?_); exact .inl rfl) | constructor)) ?_)
 refine Trip.sr tblOk ?_
 apply Trip.cond (.tmp rfl)
 ·intro h
  have h : we ≠ 0 := by simpa using h
  have e1 := e1 h
  rw [if_pos (by omega)] at hL hI
  subst hL
  subst hI
  subst e1
  rw [decide_eq_false h]
  refine Trip.sr tblOk ?_
  refine Trip.ret (rt3 [])
 intro h
 have h : we = 0 := by simpa using h
 have e2 := e2 h
 have e3 := e3 h
 have e4 := e4 h
 refine Trip.skip (Trip.sR tblOk (by repeat' (first | exact rfl | (apply Rule.sem; intro hγ; with_reducible apply F_call0 (x := .func 44) (B := []) hγ (hspec := c2)) | ((with_reducible refine Side.mk ?_); exact .inl rfl) | constructor)) ?_)
 refine Trip.sR tblOk (by repeat' (first | exact rfl | (apply Rule.sem; intro hγ; with_reducible apply F_call0 (x := .func 37) (B := []) hγ (hspec := c3)) | ((with_reducible refine Side.mk ?_); exact .inl rfl) | constructor)) ?_
 refine Trip.seq (Trip.sr tblOk ?_)
 apply Trip.cond (.tmp rfl)
 ·intro hp
  have hp : pd = true := hp
  subst hp
  obtain ⟨hp1, hp2⟩ := hplt rfl
  have hnlf : nl = false := by
   cases nl with
   | false => rfl
   | true => rw [hnl rfl] at hp1; simp at hp1
  have hc : cl = (!decide (l[p]!.kind = k) || !decide (l[p]!.body = b)) := by rw [hc, Bool.true_and, Bool.not_and]
  refine Trip.seq (Trip.sD tblOk mixed (by repeat' (first | exact rfl | exact idx_map _ _ _ (by show _ < _; first | omega | (simp only [List.length_map] at *; omega)) | ((with_reducible refine Side.mk ?_); first | exact fun h => h | exact fun _ h => congrArg Bool.not h | (simp only [ln]; first | done | omega)) | constructor)) ?_)
  apply Trip.cond (.tmp rfl)
  ·intro h2
   have h2 : cl = true := by rw [hc]; exact h2
   have e2 := e2 h2
   rw [if_pos (by omega)] at hL hI
   subst hL
   subst hI
   subst e2
   refine Trip.sr tblOk ?_
   refine Trip.ret (rt3 [])
  intro h2
  have h2 : cl = false := by rw [hc]; exact h2
  have e4 := e4 h2 rfl
  subst e4
  rw [if_neg (by simp), if_pos rfl] at hL
  rw [if_neg (by simp)] at hI
  subst hL
  subst hI
  subst hnlf
  refine Trip.skip (Trip.sr tblOk ?_)
  refine Trip.ret (rt3 [])
 intro hp
 have hp : pd = false := hp
 subst hp
 have hc : cl = false := by rw [hc]; rfl
 have e3 := e3 hc
 have e4 := e4 hc
 refine Trip.skip (Trip.seq (Trip.sr tblOk ?_))
 apply Trip.cond (.tmp rfl)
 ·intro h2
  have h2 : decide ((65536 : Int) ≤ l.length) = true := by simpa using h2
  have e3 := e3 (by rw [h2]; rfl)
  rw [if_pos (by omega)] at hL hI
  subst hL
  subst hI
  subst e3
  refine Trip.sr tblOk ?_
  refine Trip.ret (rt3 [])
 intro h2
 have h2 : decide ((65536 : Int) ≤ l.length) = false := by simpa using h2
 have e4 := e4 (by rw [h2]; rfl)
 subst e4
 rw [if_neg (by simp), if_neg (by simp)] at hL
 rw [if_neg (by simp)] at hI
 subst hI
 refine Trip.skip ?_
 have k1 : ∀ m, cellsOkL (cellsOf (((l.map It.pv).take m).drop 0)) = true := fun m => by rw [List.drop_zero, ← List.map_take]; exact cellsOk_map _ (fun _ => rfl) _
 have k2 : ∀ m, cellsOkL (cellsOf (((l.map It.pv).take (l.map It.pv).length).drop m)) = true := fun m => by rw [List.take_length, ← List.map_drop]; exact cellsOk_map _ (fun _ => rfl) _
 refine Trip.rk ⟨[(2, .ref 2 0), (3, .ref 3 0), (4, .ref 4 0), (8, sV pI), (9, iV p), (11, .osl 56 0 (l.take p).length (l.take p).length)], [(2, .box [.sl nl 3 (l.map It.pv)]), (3, .box [iV k, sV b]), (4, .box [nilS]), (56, .arr 3 false ((l.take p).map It.pv))]⟩ tblOk (by repeat' (first | exact rfl | exact k1 _ | ((first | with_reducible refine bokR ?_ | with_reducible refine Side.mk ?_); (simp only [ln]; first | done | omega)) | constructor)) (Weak.kp (ht := by repeat' (first | exact rfl | (refine Side.mk (oslE ?_ ?_) <;> simp [loOf, hiOf]) | constructor)) (ho := by repeat' (first | exact rfl | exact arrF (by simp) (by simp [loOf, hiOf]) | constructor)) (huo := by repeat' (first | exact rfl | exact plainL_map _ (fun _ => rfl) _ | constructor))) ?_
 refine Trip.rk ⟨[(2, .ref 2 0), (4, .ref 4 0), (8, sV pI), (9, iV p), (11, .osl 56 0 (l.take p ++ [It.mk pI k b]).length (l.take p ++ [It.mk pI k b]).length)], [(2, .box [.sl nl 3 (l.map It.pv)]), (4, .box [nilS]), (56, .arr 3 false ((l.take p ++ [It.mk pI k b]).map It.pv))]⟩ tblOk (by repeat' (first | exact rfl | ((with_reducible refine Side.mk ?_); (simp only [ln]; first | done | omega)) | constructor)) (Weak.kp (ht := by repeat' (first | exact rfl | (refine Side.mk (oslE ?_ ?_) <;> simp) | constructor)) (ho := by repeat' (first | exact rfl | exact arrF (by simp) (by simp) | constructor)) (huo := by repeat' (first | exact rfl | exact plainL_map _ (fun _ => rfl) _ | constructor))) ?_
 refine Trip.rk ⟨[(4, .ref 4 0), (8, sV pI), (11, .osl 56 0 pL.length pL.length)], [(4, .box [nilS]), (56, .arr 3 false (pL.map It.pv))]⟩ tblOk (by repeat' (first | exact rfl | exact k2 _ | ((first | with_reducible refine bokL ?_ | with_reducible refine Side.mk ?_); (simp only [ln]; first | done | omega)) | constructor)) (Weak.kp (ht := by repeat' (first | exact rfl | (rw [hL]; refine Side.mk (oslE ?_ ?_) <;> simp [loOf, hiOf, List.take_of_length_le]) | constructor)) (ho := by repeat' (first | exact rfl | exact arrF (by simp) (by rw [hL]; simp [loOf, hiOf, List.take_of_length_le]) | constructor)) (huo := by repeat' (first | exact rfl | exact plainL_map _ (fun _ => rfl) _ | constructor))) ?_
 refine Trip.sr tblOk ?_
 refine Trip.ret (rt3 [56] (hc := by repeat' (first | exact rfl | exact plainL_map _ (fun _ => rfl) _ | (refine Side.mk ?_; simp only [ln]; first | done | omega) | constructor)))
end Go.Proofs.Tryz
namespace Go.Graft
open Go.Sym
set_option maxRecDepth 100000
def xA : Str := [97, 52, 57, 56, 102, 56, 102, 50, 48, 102, 48, 54, 97, 99, 100, 53, 56, 56, 49, 53, 49, 101, 49, 55, 102, 54, 52, 50, 50, 97, 54, 100, 52, 55, 100, 97, 52, 53, 97, 97]
def xB : Str := [54, 101, 102, 49, 57, 98, 52, 49, 50, 50, 53, 99, 53, 51, 54, 57, 102, 49, 99, 49, 48, 52, 100, 52, 53, 100, 56, 100, 56, 53, 101, 102, 97, 57, 98, 48, 53, 55, 98, 53]
def xC : Str := [48, 50, 48, 100, 55, 57, 51, 49, 97, 57, 98, 98, 48, 98, 53, 50, 98, 97, 48, 54, 100, 49, 56, 49, 48, 102, 51, 52, 51, 52, 49, 57, 54, 100, 55, 48, 54, 100, 54, 49]
def xWho : Str := [97, 32, 60, 97, 64, 98, 62, 32, 53, 32, 43, 48, 49, 48, 48]
def xBody : Str := [116, 114, 101, 101, 32] ++ xB ++ [10] ++ [97, 117, 116, 104, 111, 114, 32] ++ xWho ++ [10, 99, 111, 109, 109, 105, 116, 116, 101, 114, 32] ++ xWho ++ [10, 10] ++ [120, 10]
def s1 : List It := [⟨xA, 1, [97, 98]⟩]
def s2 : List It := [⟨xB, 2, []⟩, ⟨xA, 1, [97, 98]⟩]
def s3 : List It := [⟨xC, 3, xBody⟩, ⟨xB, 2, []⟩, ⟨xA, 1, [97, 98]⟩]
def s4 : List It := [⟨xC, 3, xBody⟩]
def s5 : List It := [⟨xC, 3, xBody⟩, ⟨xA, 1, [97, 98]⟩]
theorem mk_reach {l : List It} {met have' lack : List Str} {x : Str} (hd : met.Nodup) (h1 : ∀ y ∈ met, y = x ∨ (placed l x = true ∧ y ∈ nmAt l [] x)) (h2 : x ∈ met) (h3 : ∀ y ∈ met, placed l y = true → ∀ z ∈ nmAt l [] y, z ∈ met)
  (ha : asc have') (hb : asc lack) (m1 : ∀ y, y ∈ have' ↔ y ∈ met.filter (placed l)) (m2 : ∀ y, y ∈ lack ↔ y ∈ met.filter fun y => !placed l y) : IsReach l [] [x] have' lack :=
 Onway.reach (met := met) ⟨hd, fun y hy => (h1 y hy).elim (fun e => e ▸ .start (by simp)) fun k => .step (.start (by simp)) k.1 k.2, by simp, fun y hy => .inl (by rw [List.mem_singleton] at hy; exact hy ▸ h2), fun y hy hp z hz => .inl (h3 y hy hp z hz)⟩ ha hb m1 m2
theorem asc_pair {x y : Str} (h : bl x y = true) : asc [x, y] := by
 rw [asc, List.pairwise_cons]
 exact ⟨by simpa using h, List.pairwise_singleton ..⟩
end Go.Graft
