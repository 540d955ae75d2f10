/- A part of the proof: Ht, Hd, Hg, Hy, Hz. -/
import Derived.Test.YteailifhgfijgaaGreatDoorPart36
set_option linter.unusedVariables false
set_option linter.unusedSimpArgs false
namespace Go.Proofs.Tryz
open Go Go.Sym Go.Graft
set_option maxRecDepth 20000
theorem turnS {nt a b : Nat} {N : List Str} {nl : Bool} (hb : Nat.blt b PN = true) : Weak nt ⟨[(a, .osl b 0 N.length N.length)], [(b, .arr 1 nl (N.map fun x => sV x))]⟩ ⟨[(a, .sl nl 1 (N.map fun x => sV x))], []⟩ := by
 refine Weak.turn [b] (by simp [hb]) (by simp) ?_ ?_
 ·refine .cons (q := .osl b 0 N.length N.length) (by simp [St.get, look_cons]) ?_ .nil
  refine .bArr (by simp) (by simp [St.obj, look_cons]) (by show _ = _; simp) ?_
  exact plainL_map _ (fun _ => rfl) _
 ·exact .nil
set_option maxHeartbeats 1000000 in
theorem cLinks (k : Int) (b : Str) : Ctr prog 36 [objPV k b] [] (.tup [.sl (linksOf k b).isEmpty 1 ((linksOf k b).map fun x => sV x), iV (wholeE k b)]) [] [] := by
 have c1 := cWhole k b
 have hw : wholeE k b = 0 → objErr k b = 0 := fun h => by
  rw [wholeE] at h
  by_cases h2 : objErr k b ≠ 0
  ·rw [if_pos h2] at h; exact h
  ·simpa using h2
 have hl : linksOf k b = if wholeE k b ≠ 0 then [] else dedup (namesOf k b) := rfl
 have hN : namesOf k b = if k = 2 then (treeOf b).2.map En.id else if k = 3 then (comR b).2.tree :: (comR b).2.pars else if k = 4 then [(tgR b).2.obj] else [] := rfl
 have hNl := namesOf_len k b
 have htl := treeOf_len b
 generalize linksOf k b = lk at *
 generalize wholeE k b = we at *
 generalize namesOf k b = N at *
 refine Ctr.enter tblOk func36 rfl (by decide) rfl (nt := 85) rfl rfl rfl rfl ?_
 refine Trip.sr tblOk ?_
 refine Trip.seq (Trip.sR tblOk (by repeat' (first | exact rfl | (apply Rule.sem; intro hγ; with_reducible apply F_call0 (x := .func 61) (B := []) hγ (hspec := c1)) | ((with_reducible refine Side.mk ?_); exact .inl rfl) | constructor)) ?_)
 refine Trip.sr tblOk ?_
 apply Trip.cond (.tmp rfl)
 ·intro h
  have h : we ≠ 0 := by simpa using h
  rw [if_pos h] at hl
  subst hl
  refine Trip.sr tblOk ?_
  refine Trip.ret (rt2 [])
 intro h
 have h : we = 0 := by simpa using h
 have hlen := objErr_len (hw h)
 rw [if_neg (by simp [h])] at hl
 subst hl
 subst h
 have t1 := cParseT b (by omega)
 have t2 := cParseC b (by omega)
 have t3 := cParseTg b (by omega)
 rw [com_same] at t2
 rw [tg_same] at t3
 refine Trip.skip (Trip.sr tblOk ?_)
 refine Trip.seqk ⟨[(5, .sl N.isEmpty 1 (N.map fun x => sV x))], []⟩ ?_ ?_
 ·refine Trip.sr tblOk ?_
  refine Trip.block (Trip.sr tblOk ?_)
  apply Trip.cond (.tmp rfl)
  ·intro h2
   have h2 : k = 2 := by simpa using h2
   rw [if_pos h2] at hN
   generalize treeOf b = r1 at *
   obtain ⟨e1, l⟩ := r1
   dsimp only at *
   refine Trip.sR tblOk (by repeat' (first | exact rfl | (apply Rule.sem; intro hγ; with_reducible apply F_call0 (x := .func 62) (B := []) hγ (hspec := t1)) | ((with_reducible refine Side.mk ?_); exact .inl rfl) | constructor)) ?_
   refine Trip.sr tblOk ?_
   refine Trip.block ?_
   apply Trip.loop (fun (i : Nat) => ⟨[(5, .osl 900 0 ((l.take i).map En.id).length ((l.take i).map En.id).length), (32, .sl l.isEmpty 3 (l.map En.pv)), (33, iV l.length), (34, iV i)], [(900, .arr 1 ((l.take i).map En.id).isEmpty (((l.take i).map En.id).map fun x => sV x))]⟩) (fun (i : Nat) => i ≤ l.length) (fun (i : Nat) => l.length - i) (0)
   ·first | omega | (simp; done)
   ·refine Weak.trans (S2 := ⟨[(5, nilS), (32, .sl l.isEmpty 3 (l.map En.pv)), (33, iV l.length), (34, iV 0)], []⟩) ?_ ?_
    ·exact Weak.kp (ht := by repeat' (first | exact rfl | (refine vI ?_; first | omega | (simp; done) | (simp; omega) | (simp only [List.length_map] at *; omega)) | constructor))
    ·exact Weak.adopt 900 1 rfl rfl (by repeat' (first | exact rfl | constructor)) (by repeat' (first | exact rfl | constructor))
   intro i hi
   refine Trip.sr tblOk ?_
   refine Trip.seq ?_
   apply Trip.cond (.tmp rfl)
   ·intro h
    have h : i < l.length := by simp at h; omega
    have hsn : (l.take (i + 1)).map En.id = (l.take i).map En.id ++ [l[i]!.id] := by rw [take_snoc l i h, List.map_append]; rfl
    have hfl : ((l.take i).map En.id).length ≤ 1048576 := by rw [List.length_map, List.length_take]; omega
    generalize hF2 : (l.take (i + 1)).map En.id = F2 at *
    generalize (l.take i).map En.id = F at *
    subst hsn
    refine Trip.skip (Trip.seq (Trip.block (Trip.sR tblOk (by repeat' (first | exact rfl | exact idx_map _ _ _ (by show _ < _; first | omega | (simp only [List.length_map] at *; omega)) | ((with_reducible refine Side.mk ?_); (simp only [ln]; first | done | omega)) | constructor)) ?_)))
    refine Trip.R tblOk (by repeat' (first | exact rfl | ((with_reducible refine Side.mk ?_); (simp only [ln]; first | done | omega)) | constructor)) ?_
    refine Trip.R tblOk (by repeat' (first | exact rfl | ((with_reducible refine Side.mk ?_); omega) | constructor)) ?_
    exact ⟨i + 1, by first | omega | (dsimp only at *; omega), by first | omega | (dsimp only at *; omega), Weak.kp (ht := by repeat' (first | exact rfl | (rw [hF2]; refine Side.mk (oslE ?_ ?_) <;> simp) | constructor)) (ho := by repeat' (first | exact rfl | (rw [hF2]; exact arrF (by simp) (by simp)) | constructor)) (huo := by repeat' (first | exact plainL_map _ (fun _ => rfl) _ | constructor))⟩
   intro h
   have h : i = l.length := by simp at h; omega
   subst h
   refine Trip.exit ?_
   rw [List.take_length, ← hN]
   refine Weak.trans (S2 := ⟨[(5, .osl 900 0 N.length N.length)], [(900, .arr 1 N.isEmpty (N.map fun x => sV x))]⟩) ?_ (turnS (by decide))
   exact Weak.kp (huo := by repeat' (first | exact plainL_map _ (fun _ => rfl) _ | constructor))
  intro h2
  have h2 : ¬ k = 2 := by simpa using h2
  rw [if_neg h2] at hN
  refine Trip.sr tblOk ?_
  apply Trip.cond (.tmp rfl)
  ·intro h3
   have h3 : k = 3 := by simpa using h3
   rw [if_pos h3] at hN
   have hcl := comR_len b
   generalize comR b = r2 at *
   obtain ⟨e2, cm⟩ := r2
   obtain ⟨tr, ps, ⟨an, am, at', az⟩, ⟨cn, cml, ct, cz⟩, tx⟩ := cm
   dsimp only at *
   refine Trip.sR tblOk (by repeat' (first | exact rfl | (apply Rule.sem; intro hγ; with_reducible apply F_call0 (x := .func 63) (B := []) hγ (hspec := t2)) | ((with_reducible refine Side.mk ?_); exact .inl rfl) | constructor)) ?_
   refine Trip.R tblOk (by repeat' (first | exact rfl | exact cellsOk_map _ (fun _ => rfl) _ | ((with_reducible refine Side.mk ?_); (simp only [ln]; first | done | omega)) | constructor)) ?_
   refine Weak.trans (S2 := ⟨[(5, .osl 54 0 N.length N.length)], [(54, .arr 1 N.isEmpty (N.map fun x => sV x))]⟩) ?_ (turnS (by decide))
   subst hN
   exact Weak.kp (ht := by repeat' (first | exact rfl | (refine Side.mk (oslE ?_ ?_) <;> (simp; try omega)) | constructor)) (huo := by repeat' (first | exact plainL_map _ (fun _ => rfl) _ | constructor))
  intro h3
  have h3 : ¬ k = 3 := by simpa using h3
  rw [if_neg h3] at hN
  refine Trip.sr tblOk ?_
  apply Trip.cond (.tmp rfl)
  ·intro h4
   have h4 : k = 4 := by simpa using h4
   rw [if_pos h4] at hN
   generalize tgR b = r3 at *
   obtain ⟨e3, tg⟩ := r3
   obtain ⟨ob, kk, nm, ⟨an, am, at', az⟩, tx⟩ := tg
   dsimp only at *
   refine Trip.sR tblOk (by repeat' (first | exact rfl | (apply Rule.sem; intro hγ; with_reducible apply F_call0 (x := .func 64) (B := []) hγ (hspec := t3)) | ((with_reducible refine Side.mk ?_); exact .inl rfl) | constructor)) ?_
   refine Trip.r tblOk ?_
   refine Weak.trans (S2 := ⟨[(5, .osl 68 0 N.length N.length)], [(68, .arr 1 N.isEmpty (N.map fun x => sV x))]⟩) ?_ (turnS (by decide))
   subst hN
   exact Weak.kp
  intro h4
  have h4 : ¬ k = 4 := by simpa using h4
  rw [if_neg h4] at hN
  subst hN
  refine Trip.skip ?_
  refine Weak.trans (S2 := ⟨[(5, nilS)], []⟩) ?_ (Weak.turn [] rfl rfl (.cons rfl .nilS .nil) .nil)
  exact Weak.kp
 refine Trip.sr tblOk ?_
 refine Trip.seq (Trip.sr tblOk ?_)
 refine Trip.block ?_
 apply Trip.loop (fun (i : Nat) => ⟨[(14, .osl 900 0 (dedN N i).length (dedN N i).length), (69, .sl N.isEmpty 1 (N.map fun x => sV x)), (70, iV N.length), (71, iV i)], [(900, .arr 1 (dedN N i).isEmpty ((dedN N i).map fun x => sV x))]⟩) (fun (i : Nat) => i ≤ N.length) (fun (i : Nat) => N.length - i) (0)
 ·first | omega | (simp; done)
 ·refine Weak.trans (S2 := ⟨[(14, nilS), (69, .sl N.isEmpty 1 (N.map fun x => sV x)), (70, iV N.length), (71, iV 0)], []⟩) ?_ ?_
  ·exact Weak.kp (ht := by repeat' (first | exact rfl | (refine vI ?_; first | omega | (simp; done) | (simp; omega) | (simp only [List.length_map] at *; omega)) | constructor))
  ·exact Weak.adopt 900 1 rfl rfl (by repeat' (first | exact rfl | constructor)) (by repeat' (first | exact rfl | constructor))
 intro i hi
 refine Trip.sr tblOk ?_
 refine Trip.seq ?_
 apply Trip.cond (.tmp rfl)
 ·intro h
  have h : i < N.length := by simp at h; omega
  have hdl := dedN_len N i
  have c2 := cContainsS (dedN N i).isEmpty (dedN N i) N[i]! (by omega)
  have hst : dedN N (i + 1) = if hasS (dedN N i) N[i]! = true then dedN N i else dedN N i ++ [N[i]!] := rfl
  generalize hasS (dedN N i) N[i]! = hs at *
  generalize hD2 : dedN N (i + 1) = D2 at *
  generalize dedN N i = D at *
  refine Trip.skip ?_
  refine Trip.seqk ⟨[(14, .osl 900 0 D2.length D2.length), (69, .sl N.isEmpty 1 (N.map fun x => sV x)), (70, iV N.length), (71, iV i)], [(900, .arr 1 D2.isEmpty (D2.map fun x => sV x))]⟩ ?_ ?_
  ·refine Trip.block (Trip.sR tblOk (by repeat' (first | exact rfl | exact idx_map _ _ _ (by show _ < _; first | omega | (simp only [List.length_map] at *; omega)) | ((with_reducible refine Side.mk ?_); (simp only [ln]; first | done | omega)) | constructor)) ?_)
   refine Trip.sR tblOk (by repeat' (first | exact rfl | (apply Rule.sem; intro hγ; with_reducible apply F_call0 (x := .func 65) (B := [900]) hγ (hspec := c2)) | exact plainL_map _ (fun _ => rfl) _ | ((with_reducible refine Side.mk ?_); first | exact .inr ⟨rfl, rfl, rfl⟩ | (simp only [ln]; first | done | omega)) | constructor)) ?_
   apply Trip.cond (.tmp rfl)
   ·intro h2
    have h2 : hs = false := by simpa using h2
    rw [if_neg (by rw [h2]; simp)] at hst
    subst hst
    refine Trip.R tblOk (by repeat' (first | exact rfl | ((with_reducible refine Side.mk ?_); (simp only [ln]; first | done | omega)) | constructor)) ?_
    exact Weak.kp (ht := by repeat' (first | exact rfl | (refine Side.mk (oslE ?_ ?_) <;> (simp only [ln]; first | done | omega)) | constructor)) (ho := by repeat' (first | exact rfl | exact arrF (by simp) (by simp) | constructor)) (huo := by repeat' (first | exact plainL_map _ (fun _ => rfl) _ | constructor))
   ·intro h2
    have h2 : hs = true := by simpa using h2
    rw [if_pos h2] at hst
    subst hst
    refine Trip.skip ?_
    exact Weak.kp (huo := by repeat' (first | exact plainL_map _ (fun _ => rfl) _ | constructor))
  refine Trip.R tblOk (by repeat' (first | exact rfl | ((with_reducible refine Side.mk ?_); omega) | constructor)) ?_
  exact ⟨i + 1, by first | omega | (dsimp only at *; omega), by first | omega | (dsimp only at *; omega), Weak.kp (ht := by repeat' (first | exact rfl | (rw [hD2]; rfl) | constructor)) (ho := by repeat' (first | exact rfl | (rw [hD2]; rfl) | constructor)) (huo := by repeat' (first | exact plainL_map _ (fun _ => rfl) _ | constructor))⟩
 intro h
 have h : i = N.length := by simp at h; omega
 subst h
 refine Trip.exit ?_
 rw [dedup]
 refine Trip.sr tblOk ?_
 refine Trip.ret (rt2 [900] (hc := by repeat' (first | exact rfl | exact plainL_map _ (fun _ => rfl) _ | (refine Side.mk ?_; simp only [ln]; first | done | omega) | constructor)))
end Go.Proofs.Tryz
namespace Go.Proofs.Tryz
open Go Go.Sym Go.Graft
set_option maxRecDepth 20000
theorem cOne15 (s : Str) (hs : s.length ≤ 1000000000) : Ctr prog 67 [sV s] [] (.tup [(if (oneE s).1 = 0 then (oneE s).2.1 else ⟨0, [], []⟩).pv, iV (oneN s), iV (oneE s).1]) [] [] := by
 have c1 := cMode15 s hs
 refine Ctr.enter tblOk func67 rfl (by decide) rfl (nt := 47) rfl rfl rfl rfl ?_
 refine Trip.sr tblOk ?_
 refine Trip.sR tblOk (by repeat' (first | exact rfl | (apply Rule.sem; intro hγ; with_reducible apply F_call0 (x := .func 108) (B := []) hγ (hspec := c1)) | ((with_reducible refine Side.mk ?_); exact .inl rfl) | constructor)) ?_
 refine Trip.seq (Trip.sr tblOk ?_)
 apply Trip.cond (.tmp rfl)
 ·intro h
  have h : modeOf s < 0 := by simpa using h
  have hm : modeOf s = -1 := by rcases modeOf_cases s with h | h | ⟨m, _, _, h, _⟩ <;> omega
  have he : modeE s = 3 := by rw [modeE, if_pos hm]
  have h1 : (oneE s).1 = 3 := by rw [oneE_mode (by omega), he]
  rw [oneN, h1, if_neg (by omega), if_neg (by omega)]
  refine Trip.sr tblOk ?_
  refine Trip.ret (rt3 [])
 intro h
 have h : ¬ modeOf s < 0 := by simpa using h
 refine Trip.skip (Trip.seq (Trip.sr tblOk ?_))
 apply Trip.cond (.tmp rfl)
 ·intro h2
  have hm : modeOf s = 0 := by simpa using h2
  have he : modeE s = 2 := by rw [modeE, if_neg (by omega), if_pos hm]
  have h1 : (oneE s).1 = 2 := by rw [oneE_mode (by omega), he]
  rw [oneN, h1, if_neg (by omega), if_neg (by omega)]
  refine Trip.sr tblOk ?_
  refine Trip.ret (rt3 [])
 intro h2
 have h2 : ¬ modeOf s = 0 := by simpa using h2
 have he : modeE s = 0 := by rw [modeE, if_neg (by omega), if_neg h2]
 have hf := oneE_find he
 have hpre : (modeD (modeOf s)).length ≤ s.length := by
  obtain ⟨m, _, _, h3, _, h5⟩ := modeE_ok he
  rw [h3]; exact h5
 have c2 := cDig15 (modeOf s)
 have c3 := cFind14 s 0 (modeD (modeOf s)).length (by omega) hpre
 have hfb : findBad s = (decide (findB s 0 (modeD (modeOf s)).length < 0) || decide ((s.length : Int) - findB s 0 (modeD (modeOf s)).length < 21)) := rfl
 have hrange : -1 ≤ findB s 0 (modeD (modeOf s)).length ∧ findB s 0 (modeD (modeOf s)).length ≤ s.length := by
  have h5 := Lib.indexByte_ge (s.drop (modeD (modeOf s)).length) 0
  have h6 := Lib.index_le (s.drop (modeD (modeOf s)).length) [0]
  rw [Go.Graft.index_one, List.length_drop] at h6
  rw [findB]
  split <;> omega
 refine Trip.skip (Trip.sR tblOk (by repeat' (first | exact rfl | (apply Rule.sem; intro hγ; with_reducible apply F_call0 (x := .func 109) (B := []) hγ (hspec := c2)) | ((with_reducible refine Side.mk ?_); exact .inl rfl) | constructor)) ?_)
 refine Trip.sR tblOk (by repeat' (first | exact rfl | (apply Rule.sem; intro hγ; with_reducible apply F_call0 (x := .func 110) (B := []) hγ (hspec := c3)) | ((with_reducible refine Side.mk ?_); exact .inl rfl) | constructor)) ?_
 generalize findBad s = fb at *
 generalize findB s 0 (modeD (modeOf s)).length = k at *
 generalize modeD (modeOf s) = d at *
 refine Trip.seq (Trip.sR tblOk (by repeat' (first | exact rfl | ((with_reducible refine Side.mk ?_); first | omega | exact fun h => h | exact fun _ h => congrArg Bool.not h) | constructor)) ?_)
 apply Trip.cond (.tmp rfl)
 ·intro h4
  have h4 : fb = true := by rw [hfb]; simpa using h4
  have h1 : (oneE s).1 = 3 := by rw [hf.1, if_pos h4]
  rw [oneN, h1, if_neg (by omega), if_neg (by omega)]
  refine Trip.sr tblOk ?_
  refine Trip.ret (rt3 [])
 intro h4
 have h4 : fb = false := by rw [hfb]; simpa using h4
 have h1 : (oneE s).1 = 0 := by rw [hf.1, if_neg (by rw [h4]; simp)]
 obtain ⟨e, rfl, g1, g2, g3, _, g4⟩ := hf.2 h4
 rw [if_pos h1, g3, g4, h1]
 have c4 := cHex2 ((s.take (e + 21)).drop (e + 1)) (by rw [List.length_drop, List.length_take]; omega)
 generalize modeOf s = m at *
 refine Trip.skip (Trip.sD tblOk mixed (by repeat' (first | exact rfl | (apply Rule.sem; intro hγ; with_reducible apply F_call0 (x := .func 111) (B := []) hγ (hspec := c4)) | ((first | with_reducible refine bok ?_ | with_reducible refine Side.mk ?_); first | omega | exact .inl rfl) | constructor)) ?_)
 refine Trip.ret (rt3 [])
end Go.Proofs.Tryz
namespace Go.Proofs.Tryz
open Go Go.Sym Go.Graft
set_option maxRecDepth 20000
theorem cParse15 (s : Str) (hs : s.length ≤ 1000000000) : Ctr prog 39 [sV s] [] (.tup [.sl (treeOf s).2.isEmpty 3 ((treeOf s).2.map En.pv), iV (treeOf s).1]) [] [] := by
 refine Ctr.enter tblOk func39 rfl (by decide) rfl (nt := 33) rfl rfl rfl rfl ?_
 refine Trip.sr tblOk ?_
 refine Trip.sr tblOk ?_
 refine Trip.seq (Trip.block ?_)
 apply Trip.loop (fun (x : Str × List En) => ⟨[(0, sV x.1), (4, .osl 900 0 x.2.length x.2.length)], [(900, .arr 3 x.2.isEmpty (x.2.map En.pv))]⟩) (fun (x : Str × List En) => Reads s x) (fun (x : Str × List En) => x.1.length) ((s, []))
 ·exact reads_zero s
 ·refine Weak.trans (S2 := ⟨[(0, sV s), (4, nilS)], []⟩) ?_ ?_
  ·exact Weak.kp
  ·exact Weak.adopt 900 3 rfl rfl (by repeat' (first | exact rfl | constructor)) (by repeat' (first | exact rfl | constructor))
 intro x hx
 obtain ⟨t, acc⟩ := x
 have hx2 := hx
 obtain ⟨_, hlen, hall⟩ := hx2
 dsimp only at *
 refine Trip.seq (Trip.sr tblOk ?_)
 apply Trip.cond (.tmp rfl)
 ·intro h
  have h : t ≠ [] := by simpa using h
  have c1 := cOne15 t (by omega)
  have herr := treeOf_err hx h
  have hnext := reads_next hs hx h
  have hshort := oneE_short (s := t)
  have hrest := oneN_rest (t := t)
  have hx1 : (oneE t).1 = 0 → (if (oneE t).1 = 0 then (oneE t).2.1 else ⟨0, [], []⟩) = (oneE t).2.1 := fun h => if_pos h
  generalize (if (oneE t).1 = 0 then (oneE t).2.1 else ⟨0, [], []⟩) = e at c1 hx1
  generalize oneE t = q at *
  obtain ⟨er, e2, rest⟩ := q
  dsimp only at *
  refine Trip.skip (Trip.block (Trip.sR tblOk (by repeat' (first | exact rfl | (apply Rule.sem; intro hγ; with_reducible apply F_call0 (x := .func 67) (B := []) hγ (hspec := c1)) | ((with_reducible refine Side.mk ?_); exact .inl rfl) | constructor)) ?_))
  refine Trip.seq (Trip.sr tblOk ?_)
  apply Trip.cond (.tmp rfl)
  ·intro h2
   have h2 : er ≠ 0 := by simpa using h2
   rw [herr h2]
   refine Trip.sr tblOk ?_
   refine Trip.ret (rt2 [])
  intro h2
  have h2 : er = 0 := by simpa using h2
  have hnext := hnext h2
  obtain ⟨hr1, hr2⟩ := hrest h2
  rw [hx1 h2] at c1
  have hx1 := hx1 h2
  subst hx1
  have hshort := hshort h2
  refine Trip.skip (Trip.sR tblOk (by repeat' (first | exact rfl | ((with_reducible refine Side.mk ?_); (simp only [ln]; first | done | omega)) | constructor)) ?_)
  refine Trip.R tblOk (by repeat' (first | exact rfl | ((with_reducible refine bokL ?_); omega) | constructor)) ?_
  exact ⟨(rest, acc ++ [e]), by exact hnext, by first | omega | (dsimp only at *; omega), Weak.kp (ht := by repeat' (first | exact rfl | exact vT ((drop_all _ _).trans hr1) | (refine Side.mk (oslE ?_ ?_) <;> (simp only [ln]; first | done | omega)) | constructor)) (ho := by repeat' (first | exact rfl | exact arrF (by simp) (by simp) | constructor)) (huo := by repeat' (first | exact plainL_map _ (fun _ => rfl) _ | constructor))⟩
 intro h
 have h : t = [] := by simpa using h
 subst h
 have hend := treeOf_end hx
 have c2 := cCheck15 acc.isEmpty acc (by simp at hlen; omega) hall
 rw [hend]
 generalize checkE acc = ce at *
 refine Trip.exit (Trip.sR tblOk (by repeat' (first | exact rfl | (apply Rule.sem; intro hγ; with_reducible apply F_call0 (x := .func 68) (B := [900]) hγ (hspec := c2)) | exact plainL_map _ (fun _ => rfl) _ | ((with_reducible refine Side.mk ?_); first | exact .inr ⟨rfl, rfl, rfl⟩ | (simp only [ln]; first | done | omega)) | constructor)) ?_)
 refine Trip.seq (Trip.sr tblOk ?_)
 apply Trip.cond (.tmp rfl)
 ·intro h2
  have h2 : ce ≠ 0 := by simpa using h2
  rw [if_pos h2]
  refine Trip.sr tblOk ?_
  refine Trip.ret (rt2 [])
 intro h2
 have h2 : ce = 0 := by simpa using h2
 rw [if_neg (by simpa using h2)]
 refine Trip.skip (Trip.sr tblOk ?_)
 refine Trip.ret (rt2 [900] (hc := by repeat' (first | exact rfl | exact plainL_map _ (fun _ => rfl) _ | (refine Side.mk ?_; simp only [ln]; first | done | omega) | constructor)))
end Go.Proofs.Tryz
namespace Go.Proofs.Tryz
open Go Go.Sym Go.Graft
set_option maxRecDepth 20000
theorem cWhole16 (k : Int) (b : Str) : Ctr prog 38 [objPV k b] [] (iV (wholeE k b)) [] [] := by
 have c1 := cBytes2 k b
 have hlen := objErr_len (k := k) (b := b)
 have hw : wholeE k b = if objErr k b ≠ 0 then objErr k b else if k = 2 then (treeOf b).1 else if k = 3 then (comR b).1 else if k = 4 then (tgR b).1 else 0 := rfl
 generalize wholeE k b = we at *
 generalize objErr k b = oe at *
 generalize objBytes k b = bs at *
 refine Ctr.enter tblOk func38 rfl (by decide) rfl (nt := 40) rfl rfl rfl rfl ?_
 refine Trip.sr tblOk ?_
 refine Trip.sR tblOk (by repeat' (first | exact rfl | (apply Rule.sem; intro hγ; with_reducible apply F_call0 (x := .func 66) (B := []) hγ (hspec := c1)) | ((with_reducible refine Side.mk ?_); exact .inl rfl) | constructor)) ?_
 refine Trip.seq (Trip.sr tblOk ?_)
 apply Trip.cond (.tmp rfl)
 ·intro h
  have h : oe ≠ 0 := by simpa using h
  rw [if_pos h] at hw
  subst hw
  refine Trip.sr tblOk ?_
  refine Trip.ret (rt1 [])
 intro h
 have h : oe = 0 := by simpa using h
 have hlen := hlen h
 rw [if_neg (by simp [h])] at hw
 subst h
 have t1 := cParse15 b (by omega)
 have t2 := cParse16 b (by omega)
 have t3 := cParseTg16 b (by omega)
 generalize treeOf b = r1 at *
 generalize comR b = r2 at *
 generalize tgR b = r3 at *
 refine Trip.skip ?_
 refine Trip.seqk ⟨[(4, iV we)], []⟩ ?_ ?_
 ·refine Trip.sr tblOk ?_
  refine Trip.block (Trip.sr tblOk ?_)
  apply Trip.cond (.tmp rfl)
  ·intro h2
   have h2 : k = 2 := by simpa using h2
   rw [if_pos h2] at hw
   subst hw
   refine Trip.R tblOk (by repeat' (first | exact rfl | (apply Rule.sem; intro hγ; with_reducible apply F_call0 (x := .func 39) (B := []) hγ (hspec := t1)) | ((with_reducible refine Side.mk ?_); exact .inl rfl) | constructor)) ?_
   exact Weak.kp
  intro h2
  have h2 : ¬ k = 2 := by simpa using h2
  rw [if_neg h2] at hw
  refine Trip.sr tblOk ?_
  apply Trip.cond (.tmp rfl)
  ·intro h3
   have h3 : k = 3 := by simpa using h3
   rw [if_pos h3] at hw
   subst hw
   refine Trip.R tblOk (by repeat' (first | exact rfl | (apply Rule.sem; intro hγ; with_reducible apply F_call0 (x := .func 40) (B := []) hγ (hspec := t2)) | ((with_reducible refine Side.mk ?_); exact .inl rfl) | constructor)) ?_
   exact Weak.kp
  intro h3
  have h3 : ¬ k = 3 := by simpa using h3
  rw [if_neg h3] at hw
  refine Trip.sr tblOk ?_
  apply Trip.cond (.tmp rfl)
  ·intro h4
   have h4 : k = 4 := by simpa using h4
   rw [if_pos h4] at hw
   subst hw
   refine Trip.R tblOk (by repeat' (first | exact rfl | (apply Rule.sem; intro hγ; with_reducible apply F_call0 (x := .func 41) (B := []) hγ (hspec := t3)) | ((with_reducible refine Side.mk ?_); exact .inl rfl) | constructor)) ?_
   exact Weak.kp
  intro h4
  have h4 : ¬ k = 4 := by simpa using h4
  rw [if_neg h4] at hw
  subst hw
  refine Trip.skip ?_
  exact Weak.kp
 refine Trip.sr tblOk ?_
 refine Trip.ret (rt1 [])
end Go.Proofs.Tryz
namespace Go.Proofs.Tryz
open Go Go.Sym Go.Graft
set_option maxRecDepth 20000
theorem turnS2 {nt a b : Nat} {N : List Str} {nl : Bool} (hb : Nat.blt b PN = true) : Weak nt ⟨[(a, .osl b 0 N.length N.length)], [(b, .arr 1 nl (N.map fun x => sV x))]⟩ ⟨[(a, .sl nl 1 (N.map fun x => sV x))], []⟩ := by
 refine Weak.turn [b] (by simp [hb]) (by simp) ?_ ?_
 ·refine .cons (q := .osl b 0 N.length N.length) (by simp [St.get, look_cons]) ?_ .nil
  refine .bArr (by simp) (by simp [St.obj, look_cons]) (by show _ = _; simp) ?_
  exact plainL_map _ (fun _ => rfl) _
 ·exact .nil
set_option maxHeartbeats 1000000 in
theorem cLinks16 (k : Int) (b : Str) : Ctr prog 19 [objPV k b] [] (.tup [.sl (linksOf k b).isEmpty 1 ((linksOf k b).map fun x => sV x), iV (wholeE k b)]) [] [] := by
 have c1 := cWhole16 k b
 have hw : wholeE k b = 0 → objErr k b = 0 := fun h => by
  rw [wholeE] at h
  by_cases h2 : objErr k b ≠ 0
  ·rw [if_pos h2] at h; exact h
  ·simpa using h2
 have hl : linksOf k b = if wholeE k b ≠ 0 then [] else dedup (namesOf k b) := rfl
 have hN : namesOf k b = if k = 2 then (treeOf b).2.map En.id else if k = 3 then (comR b).2.tree :: (comR b).2.pars else if k = 4 then [(tgR b).2.obj] else [] := rfl
 have hNl := namesOf_len k b
 have htl := treeOf_len b
 generalize linksOf k b = lk at *
 generalize wholeE k b = we at *
 generalize namesOf k b = N at *
 refine Ctr.enter tblOk func19 rfl (by decide) rfl (nt := 95) rfl rfl rfl rfl ?_
 refine Trip.sr tblOk ?_
 refine Trip.sR tblOk (by repeat' (first | exact rfl | (apply Rule.sem; intro hγ; with_reducible apply F_call0 (x := .func 38) (B := []) hγ (hspec := c1)) | ((with_reducible refine Side.mk ?_); exact .inl rfl) | constructor)) ?_
 refine Trip.seq (Trip.sr tblOk ?_)
 apply Trip.cond (.tmp rfl)
 ·intro h
  have h : we ≠ 0 := by simpa using h
  rw [if_pos h] at hl
  subst hl
  refine Trip.sr tblOk ?_
  refine Trip.ret (rt2 [])
 intro h
 have h : we = 0 := by simpa using h
 have hlen := Go.Graft.objErr_len (hw h)
 rw [if_neg (by simp [h])] at hl
 subst hl
 subst h
 have t1 := cParse15 b (by omega)
 have t2 := cParse16 b (by omega)
 have t3 := cParseTg16 b (by omega)
 refine Trip.skip (Trip.sr tblOk ?_)
 refine Trip.seqk ⟨[(5, .osl 901 0 N.length N.length)], [(901, .arr 1 N.isEmpty (N.map fun x => sV x))]⟩ ?_ ?_
 ·apply Trip.weak (S' := ⟨[(1, .ref 1 0), (5, .osl 901 0 0 0)], [(901, .arr 1 true []), (1, .box [iV k, sV b])]⟩)
  ·refine Weak.trans (S2 := ⟨[(1, .ref 1 0), (5, nilS)], [(1, .box [iV k, sV b])]⟩) ?_ ?_
   ·exact Weak.kp
   ·exact Weak.adopt 901 1 rfl rfl (by repeat' (first | exact rfl | constructor)) (by repeat' (first | exact rfl | constructor))
  refine Trip.sr tblOk ?_
  refine Trip.block (Trip.sr tblOk ?_)
  apply Trip.cond (.tmp rfl)
  ·intro h2
   have h2 : k = 2 := by simpa using h2
   rw [if_pos h2] at hN
   generalize treeOf b = r1 at *
   obtain ⟨e1, l⟩ := r1
   dsimp only at *
   refine Trip.sR tblOk (by repeat' (first | exact rfl | (apply Rule.sem; intro hγ; with_reducible apply F_call0 (x := .func 39) (B := []) hγ (hspec := t1)) | ((with_reducible refine Side.mk ?_); exact .inl rfl) | constructor)) ?_
   refine Trip.sr tblOk ?_
   refine Trip.block ?_
   refine Trip.loop (fun (i : Nat) => ⟨[(5, .osl 901 0 ((l.take i).map En.id).length ((l.take i).map En.id).length), (6, .sl l.isEmpty 3 (l.map En.pv)), (8, iV i)], [(901, .arr 1 ((l.take i).map En.id).isEmpty (((l.take i).map En.id).map fun x => sV x))]⟩) (fun (i : Nat) => i ≤ l.length) (fun (i : Nat) => l.length - i) (0) (by first | omega | (simp; done)) Weak.kp ?_
   intro i hi
   refine Trip.seq (Trip.sr tblOk ?_)
   apply Trip.cond (.tmp rfl)
   ·intro h
    have h : i < l.length := by simp at h; omega
    have hsn : (l.take (i + 1)).map En.id = (l.take i).map En.id ++ [l[i]!.id] := by rw [take_snoc l i h, List.map_append]; rfl
    have hfl : ((l.take i).map En.id).length ≤ 1048576 := by rw [List.length_map, List.length_take]; omega
    generalize hF2 : (l.take (i + 1)).map En.id = F2 at *
    generalize (l.take i).map En.id = F at *
    subst hsn
    refine Trip.skip (Trip.seq (Trip.block (Trip.R tblOk (by repeat' (first | exact rfl | exact idx_map _ _ _ (by show _ < _; first | omega | (simp only [List.length_map] at *; omega)) | ((with_reducible refine Side.mk ?_); (simp only [ln]; first | done | omega)) | constructor)) ?_)))
    refine Trip.R tblOk (by repeat' (first | exact rfl | ((with_reducible refine Side.mk ?_); omega) | constructor)) ?_
    exact ⟨i + 1, by first | omega | (dsimp only at *; omega), by first | omega | (dsimp only at *; omega), Weak.kp (ht := by repeat' (first | exact rfl | (rw [hF2]; refine Side.mk (oslE ?_ ?_) <;> simp) | constructor)) (ho := by repeat' (first | exact rfl | (rw [hF2]; exact arrF (by simp) (by simp)) | constructor)) (huo := by repeat' (first | exact plainL_map _ (fun _ => rfl) _ | constructor))⟩
   intro h
   have h : i = l.length := by simp at h; omega
   subst h
   refine Trip.exit ?_
   rw [List.take_length, ← hN]
   exact Weak.kp (huo := by repeat' (first | exact plainL_map _ (fun _ => rfl) _ | constructor))
  intro h2
  have h2 : ¬ k = 2 := by simpa using h2
  rw [if_neg h2] at hN
  refine Trip.sr tblOk ?_
  apply Trip.cond (.tmp rfl)
  ·intro h3
   have h3 : k = 3 := by simpa using h3
   rw [if_pos h3] at hN
   have hcl := comR_len b
   generalize comR b = r2 at *
   obtain ⟨e2, cm⟩ := r2
   obtain ⟨tr, ps, ⟨an, am, at', az⟩, ⟨cn, cml, ct, cz⟩, tx⟩ := cm
   dsimp only at *
   subst hN
   refine Trip.sR tblOk (by repeat' (first | exact rfl | (apply Rule.sem; intro hγ; with_reducible apply F_call0 (x := .func 40) (B := []) hγ (hspec := t2)) | ((with_reducible refine Side.mk ?_); exact .inl rfl) | constructor)) ?_
   refine Trip.sR tblOk (by repeat' (first | exact rfl | ((with_reducible refine Side.mk ?_); (simp only [ln]; first | done | omega)) | constructor)) ?_
   refine Trip.R tblOk (by repeat' (first | exact rfl | exact cellsOk_map _ (fun _ => rfl) _ | ((with_reducible refine Side.mk ?_); (simp only [ln]; first | done | omega)) | constructor)) ?_
   exact Weak.kp (ht := by repeat' (first | exact rfl | (refine Side.mk (oslE ?_ ?_) <;> (simp; try omega)) | constructor)) (huo := by repeat' (first | exact plainL_map _ (fun _ => rfl) _ | constructor))
  intro h3
  have h3 : ¬ k = 3 := by simpa using h3
  rw [if_neg h3] at hN
  refine Trip.sr tblOk ?_
  apply Trip.cond (.tmp rfl)
  ·intro h4
   have h4 : k = 4 := by simpa using h4
   rw [if_pos h4] at hN
   generalize tgR b = r3 at *
   obtain ⟨e3, tg⟩ := r3
   obtain ⟨ob, kk, nm, ⟨an, am, at', az⟩, tx⟩ := tg
   dsimp only at *
   subst hN
   refine Trip.sR tblOk (by repeat' (first | exact rfl | (apply Rule.sem; intro hγ; with_reducible apply F_call0 (x := .func 41) (B := []) hγ (hspec := t3)) | ((with_reducible refine Side.mk ?_); exact .inl rfl) | constructor)) ?_
   refine Trip.R tblOk (by repeat' (first | exact rfl | ((with_reducible refine Side.mk ?_); (simp only [ln]; first | done | omega)) | constructor)) ?_
   exact Weak.kp
  intro h4
  have h4 : ¬ k = 4 := by simpa using h4
  rw [if_neg h4] at hN
  subst hN
  refine Trip.skip ?_
  exact Weak.kp
 apply Trip.weak (turnS2 (by decide))
 refine Trip.sr tblOk ?_
 refine Trip.seq (Trip.sr tblOk ?_)
 refine Trip.block ?_
 apply Trip.loop (fun (i : Nat) => ⟨[(5, .sl N.isEmpty 1 (N.map fun x => sV x)), (13, .osl 900 0 (dedN N i).length (dedN N i).length), (14, iV i)], [(900, .arr 1 (dedN N i).isEmpty ((dedN N i).map fun x => sV x))]⟩) (fun (i : Nat) => i ≤ N.length) (fun (i : Nat) => N.length - i) (0)
 ·first | omega | (simp; done)
 ·refine Weak.trans (S2 := ⟨[(5, .sl N.isEmpty 1 (N.map fun x => sV x)), (13, nilS), (14, iV 0)], []⟩) ?_ ?_
  ·exact Weak.kp
  ·exact Weak.adopt 900 1 rfl rfl (by repeat' (first | exact rfl | constructor)) (by repeat' (first | exact rfl | constructor))
 intro i hi
 refine Trip.seq (Trip.sr tblOk ?_)
 apply Trip.cond (.tmp rfl)
 ·intro h
  have h : i < N.length := by simp at h; omega
  have hdl := dedN_len N i
  have c2 := cHas06 (dedN N i).isEmpty (dedN N i) N[i]! (by omega)
  have hst : dedN N (i + 1) = if hasS (dedN N i) N[i]! = true then dedN N i else dedN N i ++ [N[i]!] := rfl
  generalize hasS (dedN N i) N[i]! = hs at *
  generalize hD2 : dedN N (i + 1) = D2 at *
  generalize dedN N i = D at *
  refine Trip.skip ?_
  refine Trip.seqk ⟨[(5, .sl N.isEmpty 1 (N.map fun x => sV x)), (13, .osl 900 0 D2.length D2.length), (14, iV i)], [(900, .arr 1 D2.isEmpty (D2.map fun x => sV x))]⟩ ?_ ?_
  ·refine Trip.block (Trip.sR tblOk (by repeat' (first | exact rfl | (apply Rule.sem; intro hγ; with_reducible apply F_call0 (x := .func 17) (B := [900]) hγ (hspec := c2)) | exact plainL_map _ (fun _ => rfl) _ | exact idx_map _ _ _ (by show _ < _; first | omega | (simp only [List.length_map] at *; omega)) | ((with_reducible refine Side.mk ?_); first | exact .inr ⟨rfl, rfl, rfl⟩ | (simp only [ln]; first | done | omega)) | constructor)) ?_)
   apply Trip.cond (.tmp rfl)
   ·intro h2
    have h2 : hs = false := by simpa using h2
    rw [if_neg (by rw [h2]; simp)] at hst
    subst hst
    refine Trip.R tblOk (by repeat' (first | exact rfl | exact idx_map _ _ _ (by show _ < _; first | omega | (simp only [List.length_map] at *; omega)) | ((with_reducible refine Side.mk ?_); (simp only [ln]; first | done | omega)) | constructor)) ?_
    exact Weak.kp (ht := by repeat' (first | exact rfl | (refine Side.mk (oslE ?_ ?_) <;> (simp only [ln]; first | done | omega)) | constructor)) (ho := by repeat' (first | exact rfl | exact arrF (by simp) (by simp) | constructor)) (huo := by repeat' (first | exact plainL_map _ (fun _ => rfl) _ | constructor))
   ·intro h2
    have h2 : hs = true := by simpa using h2
    rw [if_pos h2] at hst
    subst hst
    refine Trip.skip ?_
    exact Weak.kp (huo := by repeat' (first | exact plainL_map _ (fun _ => rfl) _ | constructor))
  refine Trip.R tblOk (by repeat' (first | exact rfl | ((with_reducible refine Side.mk ?_); omega) | constructor)) ?_
  exact ⟨i + 1, by first | omega | (dsimp only at *; omega), by first | omega | (dsimp only at *; omega), Weak.kp (ht := by repeat' (first | exact rfl | (rw [hD2]; rfl) | constructor)) (ho := by repeat' (first | exact rfl | (rw [hD2]; rfl) | constructor)) (huo := by repeat' (first | exact plainL_map _ (fun _ => rfl) _ | constructor))⟩
 intro h
 have h : i = N.length := by simp at h; omega
 subst h
 refine Trip.exit ?_
 rw [dedup]
 refine Trip.sr tblOk ?_
 refine Trip.ret (rt2 [900] (hc := by repeat' (first | exact rfl | exact plainL_map _ (fun _ => rfl) _ | (refine Side.mk ?_; simp only [ln]; first | done | omega) | constructor)))
end Go.Proofs.Tryz
