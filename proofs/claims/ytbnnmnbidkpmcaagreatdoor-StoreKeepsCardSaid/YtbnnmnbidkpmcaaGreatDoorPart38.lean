/- A part of the proof: Hh, Hs, Ht, Hx, Hd. -/
import Derived.Test.YtbnnmnbidkpmcaaGreatDoorPart37
import Derived.Test.YtbnnmnbidkpmcaaGreatDoorPart33
set_option linter.unusedVariables false
set_option linter.unusedSimpArgs false
namespace Go.Proofs.Tryz
open Go Go.Sym Go.Graft
set_option maxRecDepth 20000
theorem cParseT (s : Str) (hs : s.length ≤ 1000000000) : Ctr prog 70 [sV s] [] (.tup [.sl (treeOf s).2.isEmpty 3 ((treeOf s).2.map En.pv), iV (treeOf s).1]) [] [] := by
 refine Ctr.enter tblOk func70 rfl (by decide) rfl (nt := 53) rfl rfl rfl rfl ?_
 refine Trip.sr tblOk ?_
 refine Trip.sr tblOk ?_
 refine Trip.seq (Trip.block ?_)
 apply Trip.loop (fun (x : Str × List En) => ⟨[(0, sV x.1), (4, .osl 900 0 x.2.length x.2.length)], [(900, .arr 3 x.2.isEmpty (x.2.map En.pv))]⟩) (fun (x : Str × List En) => Reads s x) (fun (x : Str × List En) => x.1.length) ((s, []))
 ·exact reads_zero s
 ·refine Weak.trans (S2 := ⟨[(0, sV s), (4, nilS)], []⟩) ?_ ?_
  ·exact Weak.kp
  ·exact Weak.adopt 900 3 rfl rfl (by repeat' (first | exact rfl | constructor)) (by repeat' (first | exact rfl | constructor))
 intro x hx
 obtain ⟨t, acc⟩ := x
 have hx2 := hx
 obtain ⟨_, hlen, hall⟩ := hx2
 dsimp only at *
 refine Trip.seq (Trip.sr tblOk ?_)
 apply Trip.cond (.tmp rfl)
 ·intro h
  have h : t ≠ [] := by simpa using h
  have c1 := cModeT t
  have herr := treeOf_err hx h
  have hnext := reads_next hs hx h
  have hshort := oneE_short (s := t)
  have hmode := oneE_mode (s := t)
  have hcut := oneE_cut (s := t)
  have hrl := modeR_len t
  have hm1 : modeE t = 0 → (if 1 ≤ modeOf t then modeOf t else 0) = modeOf t := fun h => by
   obtain ⟨m, h1, _, h3, _⟩ := modeE_ok h
   rw [if_pos (by omega)]
  generalize (if 1 ≤ modeOf t then modeOf t else 0) = md at *
  generalize modeOf t = md2 at *
  generalize modeE t = me at *
  generalize modeR t = rt at *
  generalize oneE t = q at *
  obtain ⟨er, e2, rest⟩ := q
  dsimp only at *
  refine Trip.skip (Trip.block (Trip.sR tblOk (by repeat' (first | exact rfl | (apply Rule.sem; intro hγ; with_reducible apply F_call0 (x := .func 109) (B := []) hγ (hspec := c1)) | ((with_reducible refine Side.mk ?_); exact .inl rfl) | constructor)) ?_))
  refine Trip.seq (Trip.sr tblOk ?_)
  apply Trip.cond (.tmp rfl)
  ·intro h2
   have h2 : me ≠ 0 := by simpa using h2
   have h3 := hmode h2
   rw [herr (by omega), h3]
   refine Trip.sr tblOk ?_
   refine Trip.ret (rt2 [])
  intro h2
  have h2 : me = 0 := by simpa using h2
  have hcut := hcut h2
  have hm1 := hm1 h2
  subst hm1
  have c2 := sCut rt [0] (by omega)
  have hcb : cutBad rt = (!(Lib.cut rt [0]).2.2 || decide (((Lib.cut rt [0]).2.1.length : Int) < 20)) := rfl
  generalize cutBad rt = cb at *
  generalize Lib.cut rt [0] = ct at *
  obtain ⟨nm, id, fd⟩ := ct
  dsimp only at *
  refine Trip.skip (Trip.sR tblOk (by repeat' (first | exact rfl | (apply Rule.sem; intro hγ; with_reducible apply F_call0 (x := .func 110) (B := []) hγ (hspec := c2)) | ((with_reducible refine Side.mk ?_); exact .inl rfl) | constructor)) ?_)
  refine Trip.seq (Trip.sR tblOk (by repeat' (first | exact rfl | ((with_reducible refine Side.mk ?_); first | exact fun h => h | exact fun _ h => congrArg Bool.not h) | constructor)) ?_)
  apply Trip.cond (.tmp rfl)
  ·intro h3
   have h3 : cb = true := by rw [hcb]; simpa using h3
   have h4 : er = 3 := by rw [hcut.1, if_pos h3]
   rw [herr (by omega), h4]
   refine Trip.sr tblOk ?_
   refine Trip.ret (rt2 [])
  intro h3
  have h3 : cb = false := by rw [hcb]; simpa using h3
  have h4 : er = 0 := by rw [hcut.1, if_neg (by rw [h3]; simp)]
  obtain ⟨g1, g2, g3⟩ := hcut.2 h3
  have hnext := hnext h4
  have hshort := hshort h4
  subst g1
  subst g2
  have c3 := cHex (id.take 20) (by rw [List.length_take]; omega)
  generalize hh : hexOf (id.take 20) = hx20 at *
  refine Trip.skip (Trip.sR tblOk (by repeat' (first | exact rfl | (apply Rule.sem; intro hγ; with_reducible apply F_call0 (x := .func 111) (B := []) hγ (hspec := c3)) | ((first | with_reducible refine bokR ?_ | with_reducible refine Side.mk ?_); first | omega | exact .inl rfl | (simp only [ln]; first | done | omega)) | constructor)) ?_)
  refine Trip.R tblOk (by repeat' (first | exact rfl | ((with_reducible refine bokL ?_); omega) | constructor)) ?_
  exact ⟨(id.drop 20, acc ++ [⟨md, nm, hx20⟩]), by exact hnext, by first | omega | (dsimp only at *; omega), Weak.kp (ht := by repeat' (first | exact rfl | exact vT (drop_all _ _) | (refine Side.mk (oslE ?_ ?_) <;> (simp only [ln]; first | done | omega)) | constructor)) (ho := by repeat' (first | exact rfl | exact arrF (by simp) (by simp) | constructor)) (huo := by repeat' (first | exact plainL_map _ (fun _ => rfl) _ | constructor))⟩
 intro h
 have h : t = [] := by simpa using h
 subst h
 have hend := treeOf_end hx
 have c2 := cCheckT acc.isEmpty acc (by simp at hlen; omega) hall
 rw [hend]
 generalize checkE acc = ce at *
 refine Trip.exit (Trip.seq (Trip.sR tblOk (by repeat' (first | exact rfl | (apply Rule.sem; intro hγ; with_reducible apply F_call0 (x := .func 112) (B := [900]) hγ (hspec := c2)) | exact plainL_map _ (fun _ => rfl) _ | ((with_reducible refine Side.mk ?_); first | exact .inr ⟨rfl, rfl, rfl⟩ | (simp only [ln]; first | done | omega)) | constructor)) ?_))
 refine Trip.sr tblOk ?_
 apply Trip.cond (.tmp rfl)
 ·intro h2
  have h2 : ce ≠ 0 := by simpa using h2
  rw [if_pos h2]
  refine Trip.sr tblOk ?_
  refine Trip.ret (rt2 [])
 intro h2
 have h2 : ce = 0 := by simpa using h2
 rw [if_neg (by simpa using h2)]
 refine Trip.skip (Trip.sr tblOk ?_)
 refine Trip.ret (rt2 [900] (hc := by repeat' (first | exact rfl | exact plainL_map _ (fun _ => rfl) _ | (refine Side.mk ?_; simp only [ln]; first | done | omega) | constructor)))
end Go.Proofs.Tryz
namespace Go.Proofs.Tryz
open Go Go.Sym Go.Graft
set_option maxRecDepth 20000
theorem cWhole (k : Int) (b : Str) : Ctr prog 39 [objPV k b] [] (iV (wholeE k b)) [] [] := by
 have c1 := cBytes k b
 have hlen := objErr_len (k := k) (b := b)
 have hw : wholeE k b = if objErr k b ≠ 0 then objErr k b else if k = 2 then (treeOf b).1 else if k = 3 then (comR b).1 else if k = 4 then (tgR b).1 else 0 := rfl
 generalize wholeE k b = we at *
 generalize objErr k b = oe at *
 generalize objBytes k b = bs at *
 refine Ctr.enter tblOk func39 rfl (by decide) rfl (nt := 40) rfl rfl rfl rfl ?_
 refine Trip.sr tblOk ?_
 refine Trip.sR tblOk (by repeat' (first | exact rfl | (apply Rule.sem; intro hγ; with_reducible apply F_call0 (x := .func 69) (B := []) hγ (hspec := c1)) | ((with_reducible refine Side.mk ?_); exact .inl rfl) | constructor)) ?_
 refine Trip.seq (Trip.sr tblOk ?_)
 apply Trip.cond (.tmp rfl)
 ·intro h
  have h : oe ≠ 0 := by simpa using h
  rw [if_pos h] at hw
  subst hw
  refine Trip.sr tblOk ?_
  refine Trip.ret (rt1 [])
 intro h
 have h : oe = 0 := by simpa using h
 have hlen := hlen h
 rw [if_neg (by simp [h])] at hw
 subst h
 have t1 := cParseT b (by omega)
 have t2 := cParseC b (by omega)
 have t3 := cParseTg b (by omega)
 rw [com_same] at t2
 rw [tg_same] at t3
 generalize treeOf b = r1 at *
 generalize comR b = r2 at *
 generalize tgR b = r3 at *
 refine Trip.skip ?_
 refine Trip.seqk ⟨[(4, iV we)], []⟩ ?_ ?_
 ·refine Trip.sr tblOk ?_
  refine Trip.block (Trip.sr tblOk ?_)
  apply Trip.cond (.tmp rfl)
  ·intro h2
   have h2 : k = 2 := by simpa using h2
   rw [if_pos h2] at hw
   subst hw
   refine Trip.R tblOk (by repeat' (first | exact rfl | (apply Rule.sem; intro hγ; with_reducible apply F_call0 (x := .func 70) (B := []) hγ (hspec := t1)) | ((with_reducible refine Side.mk ?_); exact .inl rfl) | constructor)) ?_
   exact Weak.kp
  intro h2
  have h2 : ¬ k = 2 := by simpa using h2
  rw [if_neg h2] at hw
  refine Trip.sr tblOk ?_
  apply Trip.cond (.tmp rfl)
  ·intro h3
   have h3 : k = 3 := by simpa using h3
   rw [if_pos h3] at hw
   subst hw
   refine Trip.R tblOk (by repeat' (first | exact rfl | (apply Rule.sem; intro hγ; with_reducible apply F_call0 (x := .func 71) (B := []) hγ (hspec := t2)) | ((with_reducible refine Side.mk ?_); exact .inl rfl) | constructor)) ?_
   exact Weak.kp
  intro h3
  have h3 : ¬ k = 3 := by simpa using h3
  rw [if_neg h3] at hw
  refine Trip.sr tblOk ?_
  apply Trip.cond (.tmp rfl)
  ·intro h4
   have h4 : k = 4 := by simpa using h4
   rw [if_pos h4] at hw
   subst hw
   refine Trip.R tblOk (by repeat' (first | exact rfl | (apply Rule.sem; intro hγ; with_reducible apply F_call0 (x := .func 72) (B := []) hγ (hspec := t3)) | ((with_reducible refine Side.mk ?_); exact .inl rfl) | constructor)) ?_
   exact Weak.kp
  intro h4
  have h4 : ¬ k = 4 := by simpa using h4
  rw [if_neg h4] at hw
  subst hw
  refine Trip.skip ?_
  exact Weak.kp
 refine Trip.sr tblOk ?_
 refine Trip.ret (rt1 [])
end Go.Proofs.Tryz
namespace Go.Proofs.Tryz
open Go Go.Sym Go.Graft
set_option maxRecDepth 20000
theorem turnS {nt a b : Nat} {N : List Str} {nl : Bool} (hb : Nat.blt b PN = true) : Weak nt ⟨[(a, .osl b 0 N.length N.length)], [(b, .arr 1 nl (N.map fun x => sV x))]⟩ ⟨[(a, .sl nl 1 (N.map fun x => sV x))], []⟩ := by
 refine Weak.turn [b] (by simp [hb]) (by simp) ?_ ?_
 ·refine .cons (q := .osl b 0 N.length N.length) (by simp [St.get, look_cons]) ?_ .nil
  refine .bArr (by simp) (by simp [St.obj, look_cons]) (by show _ = _; simp) ?_
  exact plainL_map _ (fun _ => rfl) _
 ·exact .nil
set_option maxHeartbeats 1000000 in
theorem cLinks (k : Int) (b : Str) : Ctr prog 136 [objPV k b] [] (.tup [.sl (linksOf k b).isEmpty 1 ((linksOf k b).map fun x => sV x), iV (wholeE k b)]) [] [] := by
 have c1 := cWhole k b
 have hw : wholeE k b = 0 → objErr k b = 0 := fun h => by
  rw [wholeE] at h
  by_cases h2 : objErr k b ≠ 0
  ·rw [if_pos h2] at h; exact h
  ·simpa using h2
 have hl : linksOf k b = if wholeE k b ≠ 0 then [] else dedup (namesOf k b) := rfl
 have hN : namesOf k b = if k = 2 then (treeOf b).2.map En.id else if k = 3 then (comR b).2.tree :: (comR b).2.pars else if k = 4 then [(tgR b).2.obj] else [] := rfl
 have hNl := namesOf_len k b
 have htl := treeOf_len b
 generalize linksOf k b = lk at *
 generalize wholeE k b = we at *
 generalize namesOf k b = N at *
 refine Ctr.enter tblOk func136 rfl (by decide) rfl (nt := 85) rfl rfl rfl rfl ?_
 refine Trip.sr tblOk ?_
 refine Trip.seq (Trip.sR tblOk (by repeat' (first | exact rfl | (apply Rule.sem; intro hγ; with_reducible apply F_call0 (x := .func 39) (B := []) hγ (hspec := c1)) | ((with_reducible refine Side.mk ?_); exact .inl rfl) | constructor)) ?_)
 refine Trip.sr tblOk ?_
 apply Trip.cond (.tmp rfl)
 ·intro h
  have h : we ≠ 0 := by simpa using h
  rw [if_pos h] at hl
  subst hl
  refine Trip.sr tblOk ?_
  refine Trip.ret (rt2 [])
 intro h
 have h : we = 0 := by simpa using h
 have hlen := objErr_len (hw h)
 rw [if_neg (by simp [h])] at hl
 subst hl
 subst h
 have t1 := cParseT b (by omega)
 have t2 := cParseC b (by omega)
 have t3 := cParseTg b (by omega)
 rw [com_same] at t2
 rw [tg_same] at t3
 refine Trip.skip (Trip.sr tblOk ?_)
 refine Trip.seqk ⟨[(5, .sl N.isEmpty 1 (N.map fun x => sV x))], []⟩ ?_ ?_
 ·refine Trip.sr tblOk ?_
  refine Trip.block (Trip.sr tblOk ?_)
  apply Trip.cond (.tmp rfl)
  ·intro h2
   have h2 : k = 2 := by simpa using h2
   rw [if_pos h2] at hN
   generalize treeOf b = r1 at *
   obtain ⟨e1, l⟩ := r1
   dsimp only at *
   refine Trip.sR tblOk (by repeat' (first | exact rfl | (apply Rule.sem; intro hγ; with_reducible apply F_call0 (x := .func 70) (B := []) hγ (hspec := t1)) | ((with_reducible refine Side.mk ?_); exact .inl rfl) | constructor)) ?_
   refine Trip.sr tblOk ?_
   refine Trip.block ?_
   apply Trip.loop (fun (i : Nat) => ⟨[(5, .osl 900 0 ((l.take i).map En.id).length ((l.take i).map En.id).length), (32, .sl l.isEmpty 3 (l.map En.pv)), (33, iV l.length), (34, iV i)], [(900, .arr 1 ((l.take i).map En.id).isEmpty (((l.take i).map En.id).map fun x => sV x))]⟩) (fun (i : Nat) => i ≤ l.length) (fun (i : Nat) => l.length - i) (0)
   ·first | omega | (simp; done)
   ·refine Weak.trans (S2 := ⟨[(5, nilS), (32, .sl l.isEmpty 3 (l.map En.pv)), (33, iV l.length), (34, iV 0)], []⟩) ?_ ?_
    ·exact Weak.kp (ht := by repeat' (first | exact rfl | (refine vI ?_; first | omega | (simp; done) | (simp; omega) | (simp only [List.length_map] at *; omega)) | constructor))
    ·exact Weak.adopt 900 1 rfl rfl (by repeat' (first | exact rfl | constructor)) (by repeat' (first | exact rfl | constructor))
   intro i hi
   refine Trip.sr tblOk ?_
   refine Trip.seq ?_
   apply Trip.cond (.tmp rfl)
   ·intro h
    have h : i < l.length := by simp at h; omega
    have hsn : (l.take (i + 1)).map En.id = (l.take i).map En.id ++ [l[i]!.id] := by rw [take_snoc l i h, List.map_append]; rfl
    have hfl : ((l.take i).map En.id).length ≤ 1048576 := by rw [List.length_map, List.length_take]; omega
    generalize hF2 : (l.take (i + 1)).map En.id = F2 at *
    generalize (l.take i).map En.id = F at *
    subst hsn
    refine Trip.skip (Trip.seq (Trip.block (Trip.sR tblOk (by repeat' (first | exact rfl | exact idx_map _ _ _ (by show _ < _; first | omega | (simp only [List.length_map] at *; omega)) | ((with_reducible refine Side.mk ?_); (simp only [ln]; first | done | omega)) | constructor)) ?_)))
    refine Trip.R tblOk (by repeat' (first | exact rfl | ((with_reducible refine Side.mk ?_); (simp only [ln]; first | done | omega)) | constructor)) ?_
    refine Trip.R tblOk (by repeat' (first | exact rfl | ((with_reducible refine Side.mk ?_); omega) | constructor)) ?_
    exact ⟨i + 1, by first | omega | (dsimp only at *; omega), by first | omega | (dsimp only at *; omega), Weak.kp (ht := by repeat' (first | exact rfl | (rw [hF2]; refine Side.mk (oslE ?_ ?_) <;> simp) | constructor)) (ho := by repeat' (first | exact rfl | (rw [hF2]; exact arrF (by simp) (by simp)) | constructor)) (huo := by repeat' (first | exact plainL_map _ (fun _ => rfl) _ | constructor))⟩
   intro h
   have h : i = l.length := by simp at h; omega
   subst h
   refine Trip.exit ?_
   rw [List.take_length, ← hN]
   refine Weak.trans (S2 := ⟨[(5, .osl 900 0 N.length N.length)], [(900, .arr 1 N.isEmpty (N.map fun x => sV x))]⟩) ?_ (turnS (by decide))
   exact Weak.kp (huo := by repeat' (first | exact plainL_map _ (fun _ => rfl) _ | constructor))
  intro h2
  have h2 : ¬ k = 2 := by simpa using h2
  rw [if_neg h2] at hN
  refine Trip.sr tblOk ?_
  apply Trip.cond (.tmp rfl)
  ·intro h3
   have h3 : k = 3 := by simpa using h3
   rw [if_pos h3] at hN
   have hcl := comR_len b
   generalize comR b = r2 at *
   obtain ⟨e2, cm⟩ := r2
   obtain ⟨tr, ps, ⟨an, am, at', az⟩, ⟨cn, cml, ct, cz⟩, tx⟩ := cm
   dsimp only at *
   refine Trip.sR tblOk (by repeat' (first | exact rfl | (apply Rule.sem; intro hγ; with_reducible apply F_call0 (x := .func 71) (B := []) hγ (hspec := t2)) | ((with_reducible refine Side.mk ?_); exact .inl rfl) | constructor)) ?_
   refine Trip.R tblOk (by repeat' (first | exact rfl | exact cellsOk_map _ (fun _ => rfl) _ | ((with_reducible refine Side.mk ?_); (simp only [ln]; first | done | omega)) | constructor)) ?_
   refine Weak.trans (S2 := ⟨[(5, .osl 54 0 N.length N.length)], [(54, .arr 1 N.isEmpty (N.map fun x => sV x))]⟩) ?_ (turnS (by decide))
   subst hN
   exact Weak.kp (ht := by repeat' (first | exact rfl | (refine Side.mk (oslE ?_ ?_) <;> (simp; try omega)) | constructor)) (huo := by repeat' (first | exact plainL_map _ (fun _ => rfl) _ | constructor))
  intro h3
  have h3 : ¬ k = 3 := by simpa using h3
  rw [if_neg h3] at hN
  refine Trip.sr tblOk ?_
  apply Trip.cond (.tmp rfl)
  ·intro h4
   have h4 : k = 4 := by simpa using h4
   rw [if_pos h4] at hN
   generalize tgR b = r3 at *
   obtain ⟨e3, tg⟩ := r3
   obtain ⟨ob, kk, nm, ⟨an, am, at', az⟩, tx⟩ := tg
   dsimp only at *
   refine Trip.sR tblOk (by repeat' (first | exact rfl | (apply Rule.sem; intro hγ; with_reducible apply F_call0 (x := .func 72) (B := []) hγ (hspec := t3)) | ((with_reducible refine Side.mk ?_); exact .inl rfl) | constructor)) ?_
   refine Trip.r tblOk ?_
   refine Weak.trans (S2 := ⟨[(5, .osl 68 0 N.length N.length)], [(68, .arr 1 N.isEmpty (N.map fun x => sV x))]⟩) ?_ (turnS (by decide))
   subst hN
   exact Weak.kp
  intro h4
  have h4 : ¬ k = 4 := by simpa using h4
  rw [if_neg h4] at hN
  subst hN
  refine Trip.skip ?_
  refine Weak.trans (S2 := ⟨[(5, nilS)], []⟩) ?_ (Weak.turn [] rfl rfl (.cons rfl .nilS .nil) .nil)
  exact Weak.kp
 refine Trip.sr tblOk ?_
 refine Trip.seq (Trip.sr tblOk ?_)
 refine Trip.block ?_
 apply Trip.loop (fun (i : Nat) => ⟨[(14, .osl 900 0 (dedN N i).length (dedN N i).length), (69, .sl N.isEmpty 1 (N.map fun x => sV x)), (70, iV N.length), (71, iV i)], [(900, .arr 1 (dedN N i).isEmpty ((dedN N i).map fun x => sV x))]⟩) (fun (i : Nat) => i ≤ N.length) (fun (i : Nat) => N.length - i) (0)
 ·first | omega | (simp; done)
 ·refine Weak.trans (S2 := ⟨[(14, nilS), (69, .sl N.isEmpty 1 (N.map fun x => sV x)), (70, iV N.length), (71, iV 0)], []⟩) ?_ ?_
  ·exact Weak.kp (ht := by repeat' (first | exact rfl | (refine vI ?_; first | omega | (simp; done) | (simp; omega) | (simp only [List.length_map] at *; omega)) | constructor))
  ·exact Weak.adopt 900 1 rfl rfl (by repeat' (first | exact rfl | constructor)) (by repeat' (first | exact rfl | constructor))
 intro i hi
 refine Trip.sr tblOk ?_
 refine Trip.seq ?_
 apply Trip.cond (.tmp rfl)
 ·intro h
  have h : i < N.length := by simp at h; omega
  have hdl := dedN_len N i
  have c2 := cContainsS (dedN N i).isEmpty (dedN N i) N[i]! (by omega)
  have hst : dedN N (i + 1) = if hasS (dedN N i) N[i]! = true then dedN N i else dedN N i ++ [N[i]!] := rfl
  generalize hasS (dedN N i) N[i]! = hs at *
  generalize hD2 : dedN N (i + 1) = D2 at *
  generalize dedN N i = D at *
  refine Trip.skip ?_
  refine Trip.seqk ⟨[(14, .osl 900 0 D2.length D2.length), (69, .sl N.isEmpty 1 (N.map fun x => sV x)), (70, iV N.length), (71, iV i)], [(900, .arr 1 D2.isEmpty (D2.map fun x => sV x))]⟩ ?_ ?_
  ·refine Trip.block (Trip.sR tblOk (by repeat' (first | exact rfl | exact idx_map _ _ _ (by show _ < _; first | omega | (simp only [List.length_map] at *; omega)) | ((with_reducible refine Side.mk ?_); (simp only [ln]; first | done | omega)) | constructor)) ?_)
   refine Trip.sR tblOk (by repeat' (first | exact rfl | (apply Rule.sem; intro hγ; with_reducible apply F_call0 (x := .func 61) (B := [900]) hγ (hspec := c2)) | exact plainL_map _ (fun _ => rfl) _ | ((with_reducible refine Side.mk ?_); first | exact .inr ⟨rfl, rfl, rfl⟩ | (simp only [ln]; first | done | omega)) | constructor)) ?_
   apply Trip.cond (.tmp rfl)
   ·intro h2
    have h2 : hs = false := by simpa using h2
    rw [if_neg (by rw [h2]; simp)] at hst
    subst hst
    refine Trip.R tblOk (by repeat' (first | exact rfl | ((with_reducible refine Side.mk ?_); (simp only [ln]; first | done | omega)) | constructor)) ?_
    exact Weak.kp (ht := by repeat' (first | exact rfl | (refine Side.mk (oslE ?_ ?_) <;> (simp only [ln]; first | done | omega)) | constructor)) (ho := by repeat' (first | exact rfl | exact arrF (by simp) (by simp) | constructor)) (huo := by repeat' (first | exact plainL_map _ (fun _ => rfl) _ | constructor))
   ·intro h2
    have h2 : hs = true := by simpa using h2
    rw [if_pos h2] at hst
    subst hst
    refine Trip.skip ?_
    exact Weak.kp (huo := by repeat' (first | exact plainL_map _ (fun _ => rfl) _ | constructor))
  refine Trip.R tblOk (by repeat' (first | exact rfl | ((with_reducible refine Side.mk ?_); omega) | constructor)) ?_
  exact ⟨i + 1, by first | omega | (dsimp only at *; omega), by first | omega | (dsimp only at *; omega), Weak.kp (ht := by repeat' (first | exact rfl | (rw [hD2]; rfl) | constructor)) (ho := by repeat' (first | exact rfl | (rw [hD2]; rfl) | constructor)) (huo := by repeat' (first | exact plainL_map _ (fun _ => rfl) _ | constructor))⟩
 intro h
 have h : i = N.length := by simp at h; omega
 subst h
 refine Trip.exit ?_
 rw [dedup]
 refine Trip.sr tblOk ?_
 refine Trip.ret (rt2 [900] (hc := by repeat' (first | exact rfl | exact plainL_map _ (fun _ => rfl) _ | (refine Side.mk ?_; simp only [ln]; first | done | omega) | constructor)))
end Go.Proofs.Tryz
namespace Go.Proofs.Tryz
open Go Go.Sym Go.Graft
set_option maxRecDepth 20000
theorem tgR_def (s : Str) : tgR s =
  (let s1 := lineR s kObj
   let s2 := lineR s1 kTyp
   let s3 := lineR s2 kTag
   let s4 := lineR s3 kTgr
   let x := lineV s3 kTgr
   if (!lineOk s kObj || !lineOk s1 kTyp || !lineOk s2 kTag || decide (whoM (lineOk s3 kTgr) x = 0) || !isId (lineV s kObj) || decide (kindW (lineV s1 kTyp) = 0) || decide (s4 = []) || decide (¬ ((s4.getD 0 0).toNat : Int) = 10)) = true then (2, zeroTg)
   else
    let t : Tg := ⟨lineV s kObj, kindW (lineV s1 kTyp), lineV s2 kTag, (whoOf x).2, s4.drop 1⟩
    if tgE t = 0 then (0, t) else (tgE t, zeroTg)) := rfl
set_option maxHeartbeats 2000000 in
theorem cParseTg16 (s : Str) (hs : s.length ≤ 100000000) : Ctr prog 52 [sV s] [] (.tup [(tgR s).2.pv, iV (tgR s).1]) [] [] := by
  have cl := fun (w : Str) (hw : w.length ≤ 1000) (a : Nat) (ha : a ≤ s.length) => cLine16 s w a (by omega) ha hw
  have c1 : Ctr prog 87 [sV s, iV 0, sV [111, 98, 106, 101, 99, 116]] [] (.tup [sV (lineV s kObj), iV (lineA s 0 [111, 98, 106, 101, 99, 116]), bV (lineOk s kObj)]) [] [] := cl [111, 98, 106, 101, 99, 116] (by decide) 0 (Nat.zero_le _)
  have c2 : ∀ a, a ≤ s.length → Ctr prog 87 [sV s, iV a, sV [116, 121, 112, 101]] [] (.tup [sV (lineV (s.drop a) kTyp), iV (lineA s a [116, 121, 112, 101]), bV (lineOk (s.drop a) kTyp)]) [] [] := cl [116, 121, 112, 101] (by decide)
  have c3 : ∀ a, a ≤ s.length → Ctr prog 87 [sV s, iV a, sV [116, 97, 103]] [] (.tup [sV (lineV (s.drop a) kTag), iV (lineA s a [116, 97, 103]), bV (lineOk (s.drop a) kTag)]) [] [] := cl [116, 97, 103] (by decide)
  have c4 : ∀ a, a ≤ s.length → Ctr prog 87 [sV s, iV a, sV [116, 97, 103, 103, 101, 114]] [] (.tup [sV (lineV (s.drop a) kTgr), iV (lineA s a [116, 97, 103, 103, 101, 114]), bV (lineOk (s.drop a) kTgr)]) [] [] := cl [116, 97, 103, 103, 101, 114] (by decide)
  have a1 : s.drop (lineA s 0 [111, 98, 106, 101, 99, 116]) = lineR s kObj ∧ lineA s 0 [111, 98, 106, 101, 99, 116] ≤ s.length := lineA_drop (s := s) [111, 98, 106, 101, 99, 116] (Nat.zero_le _)
  have a2 : ∀ a, a ≤ s.length → s.drop (lineA s a [116, 121, 112, 101]) = lineR (s.drop a) kTyp ∧ lineA s a [116, 121, 112, 101] ≤ s.length := fun a => lineA_drop (s := s) [116, 121, 112, 101]
  have a3 : ∀ a, a ≤ s.length → s.drop (lineA s a [116, 97, 103]) = lineR (s.drop a) kTag ∧ lineA s a [116, 97, 103] ≤ s.length := fun a => lineA_drop (s := s) [116, 97, 103]
  have a4 : ∀ a, a ≤ s.length → s.drop (lineA s a [116, 97, 103, 103, 101, 114]) = lineR (s.drop a) kTgr ∧ lineA s a [116, 97, 103, 103, 101, 114] ≤ s.length := fun a => lineA_drop (s := s) [116, 97, 103, 103, 101, 114]
  clear cl
  have hV := lineV_le s kObj
  have d2 := tgR_def s
  dsimp only at d2
  have k1 := cIs2 (lineV s kObj) (by omega)
  generalize tgR s = res at *
  generalize lineV s kObj = ob at *
  generalize lineOk s kObj = ok1 at *
  generalize isId ob = id1 at *
  generalize lineA s 0 [111, 98, 106, 101, 99, 116] = p1 at *
  rw [← a1.1] at d2
  have hp1 := a1.2
  clear a1
  have c2 := c2 p1 hp1
  obtain ⟨a2a, a2b⟩ := a2 p1 hp1
  rw [← a2a] at d2
  generalize lineA s p1 [116, 121, 112, 101] = p2 at *
  have k2 := cKind2 (lineV (s.drop p1) kTyp)
  generalize lineV (s.drop p1) kTyp = w at *
  generalize lineOk (s.drop p1) kTyp = ok2 at *
  generalize kindW w = kw at *
  have c3 := c3 p2 a2b
  obtain ⟨a3a, a3b⟩ := a3 p2 a2b
  rw [← a3a] at d2
  have hn1 := lineV_le (s.drop p2) kTag
  rw [List.length_drop] at hn1
  generalize lineA s p2 [116, 97, 103] = p3 at *
  generalize lineV (s.drop p2) kTag = nm at *
  generalize lineOk (s.drop p2) kTag = ok3 at *
  have c4 := c4 p3 a3b
  obtain ⟨a4a, a4b⟩ := a4 p3 a3b
  rw [← a4a] at d2
  have hx1 := lineV_le (s.drop p3) kTgr
  rw [List.length_drop] at hx1
  generalize lineA s p3 [116, 97, 103, 103, 101, 114] = p4 at *
  generalize lineV (s.drop p3) kTgr = x at *
  generalize lineOk (s.drop p3) kTgr = okx at *
  have w1 := whoOf_len16 x
  have k3 := cWho16 x okx (by omega)
  generalize whoM okx x = m at *
  generalize (whoOf x).2 = px at *
  rw [drop_nil_iff, getD_drop, Nat.add_zero] at d2
  have e5 : (s.take s.length).drop (p4 + 1) = (s.drop p4).drop 1 := by rw [List.take_length, List.drop_drop]
  rw [← e5] at d2
  have hcm := cTgE16 ⟨ob, kw, nm, px, (s.take s.length).drop (p4 + 1)⟩ (by simp only; omega) (by simp only; omega) (by simp only; omega) (by simp only [List.length_drop, List.length_take]; omega)
  generalize hce : tgE ⟨ob, kw, nm, px, (s.take s.length).drop (p4 + 1)⟩ = ce at *
  clear a2 a3 a4 a2a a3a a4a
  refine Ctr.enter tblOk func52 rfl (by decide) rfl (nt := 108) rfl rfl rfl rfl ?_
  refine Trip.sr tblOk ?_
  refine Trip.sR tblOk (by repeat' (first | exact rfl | (apply Rule.sem; intro hγ; with_reducible apply F_call0 (x := .func 87) (B := []) hγ (hspec := c1)) | ((with_reducible refine Side.mk ?_); exact .inl rfl) | constructor)) ?_
  refine Trip.sR tblOk (by repeat' (first | exact rfl | (apply Rule.sem; intro hγ; with_reducible apply F_call0 (x := .func 87) (B := []) hγ (hspec := c2)) | ((with_reducible refine Side.mk ?_); exact .inl rfl) | constructor)) ?_
  refine Trip.sR tblOk (by repeat' (first | exact rfl | (apply Rule.sem; intro hγ; with_reducible apply F_call0 (x := .func 87) (B := []) hγ (hspec := c3)) | ((with_reducible refine Side.mk ?_); exact .inl rfl) | constructor)) ?_
  refine Trip.sR tblOk (by repeat' (first | exact rfl | (apply Rule.sem; intro hγ; with_reducible apply F_call0 (x := .func 87) (B := []) hγ (hspec := c4)) | ((with_reducible refine Side.mk ?_); exact .inl rfl) | constructor)) ?_
  refine Trip.sR tblOk (by repeat' (first | exact rfl | (apply Rule.sem; intro hγ; with_reducible apply F_call0 (x := .func 89) (B := []) hγ (hspec := k3)) | ((with_reducible refine Side.mk ?_); exact .inl rfl) | constructor)) ?_
  refine Trip.dk ⟨[(0, sV s), (2, .ref 2 0), (4, sV ob), (6, bV ok1), (9, bV ok2), (12, bV ok3), (14, iV p4), (17, iV m), (18, .ref 18 0)], [(2, .box [sV [], iV 0, sV [], sV [], sV [], iV 0, iV 0, sV []]), (18, .box [sV ob, iV kw, sV nm, sV px.name, sV px.mail, iV px.time, iV px.zone, sV []])]⟩ tblOk mixed (by repeat' (first | exact rfl | (apply Rule.sem; intro hγ; with_reducible apply F_call0 (x := .func 90) (B := []) hγ (hspec := k2)) | ((with_reducible refine Side.mk ?_); exact .inl rfl) | constructor)) Weak.kp ?_
  refine Trip.seq (Trip.sR tblOk (by repeat' (first | exact rfl | (apply Rule.under tblOk; intro hγ; with_reducible apply Rule.index) | (apply Rule.sem; intro hγ; with_reducible apply F_call0 (x := .func 88) (B := []) hγ (hspec := k1)) | ((with_reducible refine Side.mk ?_); first | exact .inl rfl | exact fun h => h | exact fun _ h => congrArg Bool.not h | exact fun _ => hγ | (have h2 := hγ; simp only [gpick, cond_true, cond_false, decide_eq_true_eq, Bool.and_eq_true, Bool.or_eq_true, Bool.not_eq_true', Bool.not_eq_false', Bool.or_eq_false_iff, decide_eq_false_iff_not, List.length_map] at h2; (try simp only [List.length_map]); omega)) | constructor)) ?_)
  apply Trip.cond (.tmp rfl)
  · intro h3
    have h3 : (!ok1 || !ok2 || !ok3 || decide (m = 0) || !id1 || decide (kw = 0) || decide ((s.length : Int) ≤ (p4 : Int)) || !decide (((s.getD p4 0).toNat : Int) = 10)) = true := h3
    rw [← decide_not] at h3
    rw [if_pos h3] at d2
    rw [d2]
    refine Trip.sr tblOk ?_
    refine Trip.ret (rt2 [])
  intro h3
  have h3 : (!ok1 || !ok2 || !ok3 || decide (m = 0) || !id1 || decide (kw = 0) || decide ((s.length : Int) ≤ (p4 : Int)) || !decide (((s.getD p4 0).toNat : Int) = 10)) = false := h3
  have hp4 : p4 < s.length := by
    simp only [Bool.or_eq_false_iff, decide_eq_false_iff_not] at h3
    omega
  rw [← decide_not] at h3
  rw [if_neg (by rw [h3]; simp)] at d2
  refine Trip.skip ?_
  refine Trip.rk ⟨[(2, .ref 2 0), (18, .ref 18 0)], [(2, .box [sV [], iV 0, sV [], sV [], sV [], iV 0, iV 0, sV []]), (18, .box [sV ob, iV kw, sV nm, sV px.name, sV px.mail, iV px.time, iV px.zone, sV ((s.take s.length).drop (p4 + 1))])]⟩ tblOk (by repeat' (first | exact rfl | ((first | with_reducible refine bokL ?_ | with_reducible refine Side.mk ?_); omega) | constructor)) Weak.kp ?_
  refine Trip.sR tblOk (by repeat' (first | exact rfl | (apply Rule.sem; intro hγ; with_reducible apply F_call0 (x := .func 91) (B := []) hγ (hspec := hcm)) | ((with_reducible refine Side.mk ?_); exact .inl rfl) | constructor)) ?_
  refine Trip.seq (Trip.sr tblOk ?_)
  apply Trip.cond (.tmp rfl)
  · intro h5
    have h5 : ¬ ce = 0 := by simpa using h5
    rw [if_neg h5] at d2
    rw [d2]
    refine Trip.sr tblOk ?_
    refine Trip.ret (rt2 [])
  intro h5
  have h5 : ce = 0 := by simpa using h5
  rw [if_pos h5] at d2
  rw [d2]
  refine Trip.skip (Trip.sr tblOk ?_)
  refine Trip.ret (rt2 [])
end Go.Proofs.Tryz
namespace Go.Proofs.Tryz
open Go Go.Sym Go.Graft
set_option maxRecDepth 20000
theorem cOne15 (s : Str) (hs : s.length ≤ 1000000000) : Ctr prog 85 [sV s] [] (.tup [(if (oneE s).1 = 0 then (oneE s).2.1 else ⟨0, [], []⟩).pv, iV (oneN s), iV (oneE s).1]) [] [] := by
 have c1 := cMode15 s hs
 refine Ctr.enter tblOk func85 rfl (by decide) rfl (nt := 47) rfl rfl rfl rfl ?_
 refine Trip.sr tblOk ?_
 refine Trip.sR tblOk (by repeat' (first | exact rfl | (apply Rule.sem; intro hγ; with_reducible apply F_call0 (x := .func 128) (B := []) hγ (hspec := c1)) | ((with_reducible refine Side.mk ?_); exact .inl rfl) | constructor)) ?_
 refine Trip.seq (Trip.sr tblOk ?_)
 apply Trip.cond (.tmp rfl)
 ·intro h
  have h : modeOf s < 0 := by simpa using h
  have hm : modeOf s = -1 := by rcases modeOf_cases s with h | h | ⟨m, _, _, h, _⟩ <;> omega
  have he : modeE s = 3 := by rw [modeE, if_pos hm]
  have h1 : (oneE s).1 = 3 := by rw [oneE_mode (by omega), he]
  rw [oneN, h1, if_neg (by omega), if_neg (by omega)]
  refine Trip.sr tblOk ?_
  refine Trip.ret (rt3 [])
 intro h
 have h : ¬ modeOf s < 0 := by simpa using h
 refine Trip.skip (Trip.seq (Trip.sr tblOk ?_))
 apply Trip.cond (.tmp rfl)
 ·intro h2
  have hm : modeOf s = 0 := by simpa using h2
  have he : modeE s = 2 := by rw [modeE, if_neg (by omega), if_pos hm]
  have h1 : (oneE s).1 = 2 := by rw [oneE_mode (by omega), he]
  rw [oneN, h1, if_neg (by omega), if_neg (by omega)]
  refine Trip.sr tblOk ?_
  refine Trip.ret (rt3 [])
 intro h2
 have h2 : ¬ modeOf s = 0 := by simpa using h2
 have he : modeE s = 0 := by rw [modeE, if_neg (by omega), if_neg h2]
 have hf := oneE_find he
 have hpre : (modeD (modeOf s)).length ≤ s.length := by
  obtain ⟨m, _, _, h3, _, h5⟩ := modeE_ok he
  rw [h3]; exact h5
 have c2 := cDig15 (modeOf s)
 have c3 := cFind14 s 0 (modeD (modeOf s)).length (by omega) hpre
 have hfb : findBad s = (decide (findB s 0 (modeD (modeOf s)).length < 0) || decide ((s.length : Int) - findB s 0 (modeD (modeOf s)).length < 21)) := rfl
 have hrange : -1 ≤ findB s 0 (modeD (modeOf s)).length ∧ findB s 0 (modeD (modeOf s)).length ≤ s.length := by
  have h5 := Lib.indexByte_ge (s.drop (modeD (modeOf s)).length) 0
  have h6 := Lib.index_le (s.drop (modeD (modeOf s)).length) [0]
  rw [Go.Graft.index_one, List.length_drop] at h6
  rw [findB]
  split <;> omega
 refine Trip.skip (Trip.sR tblOk (by repeat' (first | exact rfl | (apply Rule.sem; intro hγ; with_reducible apply F_call0 (x := .func 129) (B := []) hγ (hspec := c2)) | ((with_reducible refine Side.mk ?_); exact .inl rfl) | constructor)) ?_)
 refine Trip.sR tblOk (by repeat' (first | exact rfl | (apply Rule.sem; intro hγ; with_reducible apply F_call0 (x := .func 130) (B := []) hγ (hspec := c3)) | ((with_reducible refine Side.mk ?_); exact .inl rfl) | constructor)) ?_
 generalize findBad s = fb at *
 generalize findB s 0 (modeD (modeOf s)).length = k at *
 generalize modeD (modeOf s) = d at *
 refine Trip.seq (Trip.sR tblOk (by repeat' (first | exact rfl | ((with_reducible refine Side.mk ?_); first | omega | exact fun h => h | exact fun _ h => congrArg Bool.not h) | constructor)) ?_)
 apply Trip.cond (.tmp rfl)
 ·intro h4
  have h4 : fb = true := by rw [hfb]; simpa using h4
  have h1 : (oneE s).1 = 3 := by rw [hf.1, if_pos h4]
  rw [oneN, h1, if_neg (by omega), if_neg (by omega)]
  refine Trip.sr tblOk ?_
  refine Trip.ret (rt3 [])
 intro h4
 have h4 : fb = false := by rw [hfb]; simpa using h4
 have h1 : (oneE s).1 = 0 := by rw [hf.1, if_neg (by rw [h4]; simp)]
 obtain ⟨e, rfl, g1, g2, g3, _, g4⟩ := hf.2 h4
 rw [if_pos h1, g3, g4, h1]
 have c4 := cHex2 ((s.take (e + 21)).drop (e + 1)) (by rw [List.length_drop, List.length_take]; omega)
 generalize modeOf s = m at *
 refine Trip.skip (Trip.sD tblOk mixed (by repeat' (first | exact rfl | (apply Rule.sem; intro hγ; with_reducible apply F_call0 (x := .func 83) (B := []) hγ (hspec := c4)) | ((first | with_reducible refine bok ?_ | with_reducible refine Side.mk ?_); first | omega | exact .inl rfl) | constructor)) ?_)
 refine Trip.ret (rt3 [])
end Go.Proofs.Tryz
