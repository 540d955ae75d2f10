/- A part of the proof: Hf, Hc, Hh, Hs, Ht, Hd. -/
import Derived.Test.YteailifhgfijgaaGreatDoorPart36
set_option linter.unusedVariables false
set_option linter.unusedSimpArgs false
namespace Go.Proofs.Tryz
open Go Go.Sym Go.Graft
set_option maxRecDepth 20000
theorem cCheckT (nl : Bool) (l : List En) (hl : l.length ≤ 1000000000) (hn : ∀ x ∈ l, x.name.length ≤ 1000000000 ∧ x.id.length ≤ 1000000000) : Ctr prog 95 [.sl nl 3 (l.map En.pv)] [] (iV (checkE l)) [] [] := by
 refine Ctr.enter tblOk func95 rfl (by decide) rfl (nt := 46) rfl rfl rfl rfl ?_
 refine Trip.sr tblOk ?_
 refine Trip.seq (Trip.sr tblOk ?_)
 apply Trip.cond (.tmp rfl)
 ·intro h
  have h : 1024 < l.length := by simp at h; omega
  rw [checkE, if_pos h]
  refine Trip.sr tblOk ?_
  refine Trip.ret (rt1 [])
 intro h
 have hl2 : l.length ≤ 1024 := by simp at h; omega
 refine Trip.skip (Trip.sR tblOk (by repeat' (first | exact rfl | (apply Rule.sem; intro hγ; with_reducible apply F_makeMap) | constructor)) ?_)
 refine Trip.seq (Trip.sr tblOk ?_)
 refine Trip.block ?_
 refine Trip.loop (fun (i : Nat) => ⟨[(0, .sl nl 3 (l.map En.pv)), (3, .mref 9), (10, .sl nl 3 (l.map En.pv)), (11, iV l.length), (12, iV i)], [(9, .map ((cntN (l.map En.name) i).1.map strK) ((cntN (l.map En.name) i).2.map fun n => iV n))]⟩) (fun (i : Nat) => i ≤ l.length ∧ ∀ j, j < i → entE l j = 0) (fun (i : Nat) => l.length - i) (0) (by exact ⟨Nat.zero_le _, fun j hj => absurd hj (by omega)⟩) (Weak.kp (ht := by repeat' (first | exact rfl | (refine vI ?_; first | omega | (simp; done) | (simp; omega) | (simp only [List.length_map] at *; omega)) | constructor))) ?_
 intro i hi
 obtain ⟨hi, hj⟩ := hi
 refine Trip.sr tblOk ?_
 refine Trip.seq ?_
 apply Trip.cond (.tmp rfl)
 ·intro h
  have h : i < l.length := by simp at h; omega
  have hx := hn _ (bang_mem h)
  have c1 := cMay l[i]! hx.1 hx.2
  have hm1 := entE_may (l := l) (i := i)
  have hm2 := entE_sort (l := l) (i := i)
  have hm3 := entE_dup (l := l) (i := i)
  have hst := fun e he h0 => checkE_stop (e := e) hl2 h hj he h0
  have e1 : ((i : Int) - 1).toNat = i - 1 := by omega
  have hb : entBad2 l i = (decide (0 < (i : Int)) && !Op.bytesLess l[((i : Int) - 1).toNat]!.key l[i]!.key) := by rw [e1]; rfl
  have hx0 := hn _ (bang_mem (l := l) (i := i - 1) (by omega))
  have c2 := cLessE l[((i : Int) - 1).toNat]! l[i]! (by rw [e1]; exact hx0.1) hx.1
  have hlen := cntN_len (l.map En.name) i
  have hstep := cntN_step l i h
  have hbound := cntN_bound (l.map En.name) l[i]!.name i (by simp; omega)
  have hdup := cntN_dup (l.map En.name) i (by simpa using h)
  rw [map_bang _ _ _ h, ← List.map_take] at hdup
  rw [List.length_map] at hbound
  generalize hq2 : cntN (l.map En.name) (i + 1) = q2 at *
  generalize cntN (l.map En.name) i = q at *
  obtain ⟨ks, cs⟩ := q
  subst hstep
  dsimp only at *
  have hlen2 := mkeys_length ks cs l[i]!.name (mval ks cs 0 l[i]!.name + 1) hlen
  generalize mayE l[i]! = my at *
  refine Trip.skip (Trip.seq (Trip.block (Trip.sR tblOk (by repeat' (first | exact rfl | exact idx_map _ _ _ (by show _ < _; first | omega | (simp only [List.length_map] at *; omega)) | ((with_reducible refine Side.mk ?_); (simp only [ln]; first | done | omega)) | constructor)) ?_)))
  refine Trip.rk ⟨[(0, .sl nl 3 (l.map En.pv)), (3, .mref 9), (4, iV i), (5, .ref 5 0), (10, .sl nl 3 (l.map En.pv)), (11, iV l.length), (12, iV i)], [(5, .box l[i]!.pv.cells), (9, .map ((mkeys ks l[i]!.name).map strK) ((mset ks cs l[i]!.name (mval ks cs 0 l[i]!.name + 1)).map fun n => iV n))]⟩ tblOk (by repeat' (first | exact rfl | (apply Rule.sem; intro hγ; with_reducible apply F_lookup (K := strK) (f := iV) (z := 0) (zv := .int .i64 0) tblOk hγ (hz := zInt) (hzf := fun _ _ _ => .v _ _)) | exact KeyLaw.str tblOk rfl rfl | (apply Rule.sem; intro hγ; with_reducible apply F_mapUpdate (K := strK) (f := iV) tblOk hγ) | ((with_reducible refine Side.mk ?_); first | omega | (simp only [ln]; first | done | omega)) | constructor)) (Weak.kp (huo := by repeat' (first | exact rfl | exact plainL_map _ (fun _ => rfl) _ | constructor))) ?_
  generalize mkeys ks l[i]!.name = ks2 at *
  generalize mset ks cs l[i]!.name (mval ks cs 0 l[i]!.name + 1) = cs2 at *
  refine Trip.block (Trip.sR tblOk (by repeat' (first | exact rfl | (apply Rule.sem; intro hγ; with_reducible apply F_call0 (x := .func 143) (B := []) hγ (hspec := c1)) | ((with_reducible refine Side.mk ?_); exact .inl rfl) | constructor)) ?_)
  apply Trip.cond (.tmp rfl)
  ·intro h2
   have h2 : my = false := by simpa using h2
   rw [hst 1 (hm1 h2) (by omega)]
   refine Trip.sr tblOk ?_
   refine Trip.ret (rt1 [])
  intro h2
  have h2 : my = true := by simpa using h2
  have hm2 := hm2 h2
  have hm3 := hm3 h2
  refine Trip.sD tblOk mixed (by repeat' (first | exact rfl | (apply Rule.under tblOk; intro hγ; with_reducible apply Rule.indexAddr) | exact idx_map _ _ _ (by have h2 := hγ; simp only [gpick, cond_true, cond_false, decide_eq_true_eq, Bool.and_eq_true, Bool.or_eq_true, Bool.not_eq_true', Bool.not_eq_false', Bool.or_eq_false_iff, decide_eq_false_iff_not, List.length_map] at h2; show _ < _; omega) | (apply Rule.sem; intro hγ; with_reducible apply F_call0 (x := .func 144) (B := []) hγ (hspec := c2)) | ((with_reducible refine Side.mk ?_); first | omega | exact .inl rfl | exact fun h => h | exact fun _ h => h | exact fun _ => hγ | (have h2 := hγ; simp only [gpick, cond_true, cond_false, decide_eq_true_eq, Bool.and_eq_true, Bool.or_eq_true, Bool.not_eq_true', Bool.not_eq_false', Bool.or_eq_false_iff, decide_eq_false_iff_not, List.length_map] at h2; (try simp only [List.length_map]); omega)) | constructor)) ?_
  apply Trip.cond (.tmp rfl)
  ·intro h3
   have h3 : entBad2 l i = true := by rw [hb]; simpa using h3
   rw [hst 150 (hm2 h3) (by omega)]
   refine Trip.sr tblOk ?_
   refine Trip.ret (rt1 [])
  intro h3
  have h3 : entBad2 l i = false := by rw [hb]; simpa using h3
  have hm3 := hm3 h3
  generalize hasS ((l.take i).map En.name) l[i]!.name = du at *
  refine Trip.sR tblOk (by repeat' (first | exact rfl | (apply Rule.sem; intro hγ; with_reducible apply F_lookup (K := strK) (f := iV) (z := 0) (zv := .int .i64 0) tblOk hγ (hz := zInt) (hzf := fun _ _ _ => .v _ _)) | exact KeyLaw.str tblOk rfl rfl | ((with_reducible refine Side.mk ?_); omega) | constructor)) ?_
  apply Trip.cond (.tmp rfl)
  ·intro h4
   have h4 : du = true := by rw [← hdup]; exact h4
   rw [hst 6 (by rw [hm3, if_pos h4]) (by omega)]
   refine Trip.sr tblOk ?_
   refine Trip.ret (rt1 [])
  intro h4
  have h4 : du = false := by rw [← hdup]; exact h4
  have hm3 : entE l i = 0 := by rw [hm3, h4]; rfl
  refine Trip.skip (Trip.R tblOk (by repeat' (first | exact rfl | ((with_reducible refine Side.mk ?_); omega) | constructor)) ?_)
  exact ⟨i + 1, by exact ⟨by omega, fun j h6 => (Nat.lt_succ_iff_lt_or_eq.1 h6).elim (hj j) (fun e => e ▸ hm3)⟩, by first | omega | (dsimp only at *; omega), Weak.kp (ho := by repeat' (first | exact rfl | (rw [hq2]; rfl) | constructor)) (huo := by repeat' (first | exact plainL_map _ (fun _ => rfl) _ | constructor))⟩
 intro h
 have h : i = l.length := by simp at h; omega
 subst h
 refine Trip.exit ?_
 rw [checkE_ok hl2 hj]
 refine Trip.sr tblOk ?_
 refine Trip.ret (rt1 [])
end Go.Proofs.Tryz
namespace Go.Proofs.Tryz
open Go Go.Sym Go.Graft
set_option maxRecDepth 20000
theorem cModeT (s : Str) : Ctr prog 92 [sV s] [] (.tup [iV (if 1 ≤ modeOf s then modeOf s else 0), sV (modeR s), iV (modeE s)]) [] [] := by
 have c1 := fun m : Nat => cDigT m
 have c2 := fun m : Nat => sCutPrefix s (modeP m)
 have c3 := fun m : Nat => sHasPrefix (modeP m) s
 refine Ctr.enter tblOk func92 rfl (by decide) rfl (nt := 31) rfl rfl rfl rfl ?_
 refine Trip.sr tblOk ?_
 refine Trip.sr tblOk ?_
 refine Trip.seq (Trip.sr tblOk ?_)
 refine Trip.block ?_
 refine Trip.loop (fun (m : Nat) => ⟨[(0, sV s), (5, bV (shortN s (m - 1))), (6, iV m)], []⟩) (fun (m : Nat) => 1 ≤ m ∧ m ≤ 5 ∧ ∀ j : Nat, 1 ≤ j → j < m → Lib.hasPrefix s (modeD (j : Int)) = false) (fun (m : Nat) => 5 - m) (1) (by exact ⟨Nat.le_refl _, by omega, fun j h1 h2 => absurd h1 (by omega)⟩) Weak.kp ?_
 intro m hm
 obtain ⟨h1, h2, hj⟩ := hm
 refine Trip.seq (Trip.sr tblOk ?_)
 apply Trip.cond (.tmp rfl)
 ·intro h
  have h : m ≤ 4 := by simp at h; omega
  have c1 := c1 m
  have c2 := c2 m
  have c3 := c3 m
  rw [modeP_eq m h1 h] at c1 c2 c3
  have hd := fun (hp : Lib.hasPrefix s (modeD (m : Int)) = true) => modeOf_hit h1 h hj hp
  have hd2 := fun (hp : Lib.hasPrefix s (modeD (m : Int)) = false) (j : Nat) (h3 : 1 ≤ j) (h4 : j < m + 1) => (Nat.lt_succ_iff_lt_or_eq.1 h4).elim (hj j h3) (fun e => e ▸ hp)
  have hsh : (shortN s (m - 1) || Lib.hasPrefix (modeD (m : Int)) s) = shortN s (m + 1 - 1) := by
   obtain ⟨k, rfl⟩ : ∃ k, m = k + 1 := ⟨m - 1, by omega⟩
   rfl
  have htr : Lib.hasPrefix s (modeD (m : Int)) = true → Lib.trimPrefix s (modeD (m : Int)) = s.drop (modeD (m : Int)).length := fun hp => by rw [Lib.trimPrefix, if_pos hp]
  generalize Lib.hasPrefix s (modeD (m : Int)) = p at c2 hd hd2 htr
  generalize Lib.trimPrefix s (modeD (m : Int)) = rest at c2 htr
  generalize Lib.hasPrefix (modeD (m : Int)) s = q at c3 hsh
  generalize hsn : shortN s (m - 1) = sn at hsh ⊢
  generalize hdg : modeD (m : Int) = d at c1 c2 c3 htr
  refine Trip.skip (Trip.seq (Trip.block (Trip.seq (Trip.sR tblOk (by repeat' (first | exact rfl | (apply Rule.sem; intro hγ; with_reducible apply F_call0 (dst := some 16) (x := .func 141) (B := []) hγ (hspec := c1)) | (apply Rule.sem; intro hγ; with_reducible apply F_call0 (x := .func 140) (B := []) hγ (hspec := c2)) | ((with_reducible refine Side.mk ?_); exact .inl rfl) | constructor)) ?_))))
  refine Trip.sr tblOk ?_
  apply Trip.cond (.tmp rfl)
  ·intro h3
   have h3 : p = true := by simpa using h3
   have hd := hd h3
   rw [modeR, modeE, hd, if_pos (by omega), if_pos (by omega), if_neg (by omega), if_neg (by omega), hdg, ← htr h3]
   refine Trip.sr tblOk ?_
   refine Trip.ret (rt3 [])
  intro h3
  have h3 : p = false := by simpa using h3
  refine Trip.skip (Trip.R tblOk (by repeat' (first | exact rfl | (apply Rule.sem; intro hγ; with_reducible apply F_call0 (dst := some 26) (x := .func 141) (B := []) hγ (hspec := c1)) | (apply Rule.sem; intro hγ; with_reducible apply F_call0 (x := .func 97) (B := []) hγ (hspec := c3)) | ((with_reducible refine Side.mk ?_); first | exact .inl rfl | exact fun h => h | exact fun _ h => congrArg Bool.not h) | constructor)) ?_)
  refine Trip.R tblOk (by repeat' (first | exact rfl | ((with_reducible refine Side.mk ?_); omega) | constructor)) ?_
  exact ⟨m + 1, by exact ⟨by omega, by omega, hd2 h3⟩, by first | omega | (dsimp only at *; omega), Weak.kp (ht := by repeat' (first | exact rfl | exact vB hsh | constructor))⟩
 intro h
 have h : m = 5 := by simp at h; omega
 subst h
 refine Trip.exit ?_
 have hm := modeOf_no hj
 rw [show 5 - 1 = 4 from rfl]
 generalize shortN s 4 = b at *
 refine Trip.seq (Trip.sr tblOk ?_)
 apply Trip.cond (.tmp rfl)
 ·intro h3
  have h3 : b = true := by simpa using h3
  rw [if_pos h3] at hm
  rw [modeR, modeE, hm, if_neg (by omega), if_neg (by omega), if_pos rfl]
  refine Trip.sr tblOk ?_
  refine Trip.ret (rt3 [])
 intro h3
 have h3 : b = false := by simpa using h3
 rw [h3, if_neg (by simp)] at hm
 rw [modeR, modeE, hm, if_neg (by omega), if_neg (by omega), if_neg (by omega), if_pos rfl]
 refine Trip.skip (Trip.sr tblOk ?_)
 refine Trip.ret (rt3 [])
end Go.Proofs.Tryz
namespace Go.Proofs.Tryz
open Go Go.Sym Go.Graft
set_option maxRecDepth 20000
theorem cParseT (s : Str) (hs : s.length ≤ 1000000000) : Ctr prog 62 [sV s] [] (.tup [.sl (treeOf s).2.isEmpty 3 ((treeOf s).2.map En.pv), iV (treeOf s).1]) [] [] := by
 refine Ctr.enter tblOk func62 rfl (by decide) rfl (nt := 53) rfl rfl rfl rfl ?_
 refine Trip.sr tblOk ?_
 refine Trip.sr tblOk ?_
 refine Trip.seq (Trip.block ?_)
 apply Trip.loop (fun (x : Str × List En) => ⟨[(0, sV x.1), (4, .osl 900 0 x.2.length x.2.length)], [(900, .arr 3 x.2.isEmpty (x.2.map En.pv))]⟩) (fun (x : Str × List En) => Reads s x) (fun (x : Str × List En) => x.1.length) ((s, []))
 ·exact reads_zero s
 ·refine Weak.trans (S2 := ⟨[(0, sV s), (4, nilS)], []⟩) ?_ ?_
  ·exact Weak.kp
  ·exact Weak.adopt 900 3 rfl rfl (by repeat' (first | exact rfl | constructor)) (by repeat' (first | exact rfl | constructor))
 intro x hx
 obtain ⟨t, acc⟩ := x
 have hx2 := hx
 obtain ⟨_, hlen, hall⟩ := hx2
 dsimp only at *
 refine Trip.seq (Trip.sr tblOk ?_)
 apply Trip.cond (.tmp rfl)
 ·intro h
  have h : t ≠ [] := by simpa using h
  have c1 := cModeT t
  have herr := treeOf_err hx h
  have hnext := reads_next hs hx h
  have hshort := oneE_short (s := t)
  have hmode := oneE_mode (s := t)
  have hcut := oneE_cut (s := t)
  have hrl := modeR_len t
  have hm1 : modeE t = 0 → (if 1 ≤ modeOf t then modeOf t else 0) = modeOf t := fun h => by
   obtain ⟨m, h1, _, h3, _⟩ := modeE_ok h
   rw [if_pos (by omega)]
  generalize (if 1 ≤ modeOf t then modeOf t else 0) = md at *
  generalize modeOf t = md2 at *
  generalize modeE t = me at *
  generalize modeR t = rt at *
  generalize oneE t = q at *
  obtain ⟨er, e2, rest⟩ := q
  dsimp only at *
  refine Trip.skip (Trip.block (Trip.sR tblOk (by repeat' (first | exact rfl | (apply Rule.sem; intro hγ; with_reducible apply F_call0 (x := .func 92) (B := []) hγ (hspec := c1)) | ((with_reducible refine Side.mk ?_); exact .inl rfl) | constructor)) ?_))
  refine Trip.seq (Trip.sr tblOk ?_)
  apply Trip.cond (.tmp rfl)
  ·intro h2
   have h2 : me ≠ 0 := by simpa using h2
   have h3 := hmode h2
   rw [herr (by omega), h3]
   refine Trip.sr tblOk ?_
   refine Trip.ret (rt2 [])
  intro h2
  have h2 : me = 0 := by simpa using h2
  have hcut := hcut h2
  have hm1 := hm1 h2
  subst hm1
  have c2 := sCut rt [0] (by omega)
  have hcb : cutBad rt = (!(Lib.cut rt [0]).2.2 || decide (((Lib.cut rt [0]).2.1.length : Int) < 20)) := rfl
  generalize cutBad rt = cb at *
  generalize Lib.cut rt [0] = ct at *
  obtain ⟨nm, id, fd⟩ := ct
  dsimp only at *
  refine Trip.skip (Trip.sR tblOk (by repeat' (first | exact rfl | (apply Rule.sem; intro hγ; with_reducible apply F_call0 (x := .func 93) (B := []) hγ (hspec := c2)) | ((with_reducible refine Side.mk ?_); exact .inl rfl) | constructor)) ?_)
  refine Trip.seq (Trip.sR tblOk (by repeat' (first | exact rfl | ((with_reducible refine Side.mk ?_); first | exact fun h => h | exact fun _ h => congrArg Bool.not h) | constructor)) ?_)
  apply Trip.cond (.tmp rfl)
  ·intro h3
   have h3 : cb = true := by rw [hcb]; simpa using h3
   have h4 : er = 3 := by rw [hcut.1, if_pos h3]
   rw [herr (by omega), h4]
   refine Trip.sr tblOk ?_
   refine Trip.ret (rt2 [])
  intro h3
  have h3 : cb = false := by rw [hcb]; simpa using h3
  have h4 : er = 0 := by rw [hcut.1, if_neg (by rw [h3]; simp)]
  obtain ⟨g1, g2, g3⟩ := hcut.2 h3
  have hnext := hnext h4
  have hshort := hshort h4
  subst g1
  subst g2
  have c3 := cHex (id.take 20) (by rw [List.length_take]; omega)
  generalize hh : hexOf (id.take 20) = hx20 at *
  refine Trip.skip (Trip.sR tblOk (by repeat' (first | exact rfl | (apply Rule.sem; intro hγ; with_reducible apply F_call0 (x := .func 94) (B := []) hγ (hspec := c3)) | ((first | with_reducible refine bokR ?_ | with_reducible refine Side.mk ?_); first | omega | exact .inl rfl | (simp only [ln]; first | done | omega)) | constructor)) ?_)
  refine Trip.R tblOk (by repeat' (first | exact rfl | ((with_reducible refine bokL ?_); omega) | constructor)) ?_
  exact ⟨(id.drop 20, acc ++ [⟨md, nm, hx20⟩]), by exact hnext, by first | omega | (dsimp only at *; omega), Weak.kp (ht := by repeat' (first | exact rfl | exact vT (drop_all _ _) | (refine Side.mk (oslE ?_ ?_) <;> (simp only [ln]; first | done | omega)) | constructor)) (ho := by repeat' (first | exact rfl | exact arrF (by simp) (by simp) | constructor)) (huo := by repeat' (first | exact plainL_map _ (fun _ => rfl) _ | constructor))⟩
 intro h
 have h : t = [] := by simpa using h
 subst h
 have hend := treeOf_end hx
 have c2 := cCheckT acc.isEmpty acc (by simp at hlen; omega) hall
 rw [hend]
 generalize checkE acc = ce at *
 refine Trip.exit (Trip.seq (Trip.sR tblOk (by repeat' (first | exact rfl | (apply Rule.sem; intro hγ; with_reducible apply F_call0 (x := .func 95) (B := [900]) hγ (hspec := c2)) | exact plainL_map _ (fun _ => rfl) _ | ((with_reducible refine Side.mk ?_); first | exact .inr ⟨rfl, rfl, rfl⟩ | (simp only [ln]; first | done | omega)) | constructor)) ?_))
 refine Trip.sr tblOk ?_
 apply Trip.cond (.tmp rfl)
 ·intro h2
  have h2 : ce ≠ 0 := by simpa using h2
  rw [if_pos h2]
  refine Trip.sr tblOk ?_
  refine Trip.ret (rt2 [])
 intro h2
 have h2 : ce = 0 := by simpa using h2
 rw [if_neg (by simpa using h2)]
 refine Trip.skip (Trip.sr tblOk ?_)
 refine Trip.ret (rt2 [900] (hc := by repeat' (first | exact rfl | exact plainL_map _ (fun _ => rfl) _ | (refine Side.mk ?_; simp only [ln]; first | done | omega) | constructor)))
end Go.Proofs.Tryz
namespace Go.Proofs.Tryz
open Go Go.Sym Go.Graft
set_option maxRecDepth 20000
theorem cWhole (k : Int) (b : Str) : Ctr prog 61 [objPV k b] [] (iV (wholeE k b)) [] [] := by
 have c1 := cBytes k b
 have hlen := objErr_len (k := k) (b := b)
 have hw : wholeE k b = if objErr k b ≠ 0 then objErr k b else if k = 2 then (treeOf b).1 else if k = 3 then (comR b).1 else if k = 4 then (tgR b).1 else 0 := rfl
 generalize wholeE k b = we at *
 generalize objErr k b = oe at *
 generalize objBytes k b = bs at *
 refine Ctr.enter tblOk func61 rfl (by decide) rfl (nt := 40) rfl rfl rfl rfl ?_
 refine Trip.sr tblOk ?_
 refine Trip.sR tblOk (by repeat' (first | exact rfl | (apply Rule.sem; intro hγ; with_reducible apply F_call0 (x := .func 91) (B := []) hγ (hspec := c1)) | ((with_reducible refine Side.mk ?_); exact .inl rfl) | constructor)) ?_
 refine Trip.seq (Trip.sr tblOk ?_)
 apply Trip.cond (.tmp rfl)
 ·intro h
  have h : oe ≠ 0 := by simpa using h
  rw [if_pos h] at hw
  subst hw
  refine Trip.sr tblOk ?_
  refine Trip.ret (rt1 [])
 intro h
 have h : oe = 0 := by simpa using h
 have hlen := hlen h
 rw [if_neg (by simp [h])] at hw
 subst h
 have t1 := cParseT b (by omega)
 have t2 := cParseC b (by omega)
 have t3 := cParseTg b (by omega)
 rw [com_same] at t2
 rw [tg_same] at t3
 generalize treeOf b = r1 at *
 generalize comR b = r2 at *
 generalize tgR b = r3 at *
 refine Trip.skip ?_
 refine Trip.seqk ⟨[(4, iV we)], []⟩ ?_ ?_
 ·refine Trip.sr tblOk ?_
  refine Trip.block (Trip.sr tblOk ?_)
  apply Trip.cond (.tmp rfl)
  ·intro h2
   have h2 : k = 2 := by simpa using h2
   rw [if_pos h2] at hw
   subst hw
   refine Trip.R tblOk (by repeat' (first | exact rfl | (apply Rule.sem; intro hγ; with_reducible apply F_call0 (x := .func 62) (B := []) hγ (hspec := t1)) | ((with_reducible refine Side.mk ?_); exact .inl rfl) | constructor)) ?_
   exact Weak.kp
  intro h2
  have h2 : ¬ k = 2 := by simpa using h2
  rw [if_neg h2] at hw
  refine Trip.sr tblOk ?_
  apply Trip.cond (.tmp rfl)
  ·intro h3
   have h3 : k = 3 := by simpa using h3
   rw [if_pos h3] at hw
   subst hw
   refine Trip.R tblOk (by repeat' (first | exact rfl | (apply Rule.sem; intro hγ; with_reducible apply F_call0 (x := .func 63) (B := []) hγ (hspec := t2)) | ((with_reducible refine Side.mk ?_); exact .inl rfl) | constructor)) ?_
   exact Weak.kp
  intro h3
  have h3 : ¬ k = 3 := by simpa using h3
  rw [if_neg h3] at hw
  refine Trip.sr tblOk ?_
  apply Trip.cond (.tmp rfl)
  ·intro h4
   have h4 : k = 4 := by simpa using h4
   rw [if_pos h4] at hw
   subst hw
   refine Trip.R tblOk (by repeat' (first | exact rfl | (apply Rule.sem; intro hγ; with_reducible apply F_call0 (x := .func 64) (B := []) hγ (hspec := t3)) | ((with_reducible refine Side.mk ?_); exact .inl rfl) | constructor)) ?_
   exact Weak.kp
  intro h4
  have h4 : ¬ k = 4 := by simpa using h4
  rw [if_neg h4] at hw
  subst hw
  refine Trip.skip ?_
  exact Weak.kp
 refine Trip.sr tblOk ?_
 refine Trip.ret (rt1 [])
end Go.Proofs.Tryz
namespace Go.Proofs.Tryz
open Go Go.Sym Go.Graft
set_option maxRecDepth 20000
theorem turnS {nt a b : Nat} {N : List Str} {nl : Bool} (hb : Nat.blt b PN = true) : Weak nt ⟨[(a, .osl b 0 N.length N.length)], [(b, .arr 1 nl (N.map fun x => sV x))]⟩ ⟨[(a, .sl nl 1 (N.map fun x => sV x))], []⟩ := by
 refine Weak.turn [b] (by simp [hb]) (by simp) ?_ ?_
 ·refine .cons (q := .osl b 0 N.length N.length) (by simp [St.get, look_cons]) ?_ .nil
  refine .bArr (by simp) (by simp [St.obj, look_cons]) (by show _ = _; simp) ?_
  exact plainL_map _ (fun _ => rfl) _
 ·exact .nil
set_option maxHeartbeats 1000000 in
theorem cLinks (k : Int) (b : Str) : Ctr prog 36 [objPV k b] [] (.tup [.sl (linksOf k b).isEmpty 1 ((linksOf k b).map fun x => sV x), iV (wholeE k b)]) [] [] := by
 have c1 := cWhole k b
 have hw : wholeE k b = 0 → objErr k b = 0 := fun h => by
  rw [wholeE] at h
  by_cases h2 : objErr k b ≠ 0
  ·rw [if_pos h2] at h; exact h
  ·simpa using h2
 have hl : linksOf k b = if wholeE k b ≠ 0 then [] else dedup (namesOf k b) := rfl
 have hN : namesOf k b = if k = 2 then (treeOf b).2.map En.id else if k = 3 then (comR b).2.tree :: (comR b).2.pars else if k = 4 then [(tgR b).2.obj] else [] := rfl
 have hNl := namesOf_len k b
 have htl := treeOf_len b
 generalize linksOf k b = lk at *
 generalize wholeE k b = we at *
 generalize namesOf k b = N at *
 refine Ctr.enter tblOk func36 rfl (by decide) rfl (nt := 85) rfl rfl rfl rfl ?_
 refine Trip.sr tblOk ?_
 refine Trip.seq (Trip.sR tblOk (by repeat' (first | exact rfl | (apply Rule.sem; intro hγ; with_reducible apply F_call0 (x := .func 61) (B := []) hγ (hspec := c1)) | ((with_reducible refine Side.mk ?_); exact .inl rfl) | constructor)) ?_)
 refine Trip.sr tblOk ?_
 apply Trip.cond (.tmp rfl)
 ·intro h
  have h : we ≠ 0 := by simpa using h
  rw [if_pos h] at hl
  subst hl
  refine Trip.sr tblOk ?_
  refine Trip.ret (rt2 [])
 intro h
 have h : we = 0 := by simpa using h
 have hlen := objErr_len (hw h)
 rw [if_neg (by simp [h])] at hl
 subst hl
 subst h
 have t1 := cParseT b (by omega)
 have t2 := cParseC b (by omega)
 have t3 := cParseTg b (by omega)
 rw [com_same] at t2
 rw [tg_same] at t3
 refine Trip.skip (Trip.sr tblOk ?_)
 refine Trip.seqk ⟨[(5, .sl N.isEmpty 1 (N.map fun x => sV x))], []⟩ ?_ ?_
 ·refine Trip.sr tblOk ?_
  refine Trip.block (Trip.sr tblOk ?_)
  apply Trip.cond (.tmp rfl)
  ·intro h2
   have h2 : k = 2 := by simpa using h2
   rw [if_pos h2] at hN
   generalize treeOf b = r1 at *
   obtain ⟨e1, l⟩ := r1
   dsimp only at *
   refine Trip.sR tblOk (by repeat' (first | exact rfl | (apply Rule.sem; intro hγ; with_reducible apply F_call0 (x := .func 62) (B := []) hγ (hspec := t1)) | ((with_reducible refine Side.mk ?_); exact .inl rfl) | constructor)) ?_
   refine Trip.sr tblOk ?_
   refine Trip.block ?_
   apply Trip.loop (fun (i : Nat) => ⟨[(5, .osl 900 0 ((l.take i).map En.id).length ((l.take i).map En.id).length), (32, .sl l.isEmpty 3 (l.map En.pv)), (33, iV l.length), (34, iV i)], [(900, .arr 1 ((l.take i).map En.id).isEmpty (((l.take i).map En.id).map fun x => sV x))]⟩) (fun (i : Nat) => i ≤ l.length) (fun (i : Nat) => l.length - i) (0)
   ·first | omega | (simp; done)
   ·refine Weak.trans (S2 := ⟨[(5, nilS), (32, .sl l.isEmpty 3 (l.map En.pv)), (33, iV l.length), (34, iV 0)], []⟩) ?_ ?_
    ·exact Weak.kp (ht := by repeat' (first | exact rfl | (refine vI ?_; first | omega | (simp; done) | (simp; omega) | (simp only [List.length_map] at *; omega)) | constructor))
    ·exact Weak.adopt 900 1 rfl rfl (by repeat' (first | exact rfl | constructor)) (by repeat' (first | exact rfl | constructor))
   intro i hi
   refine Trip.sr tblOk ?_
   refine Trip.seq ?_
   apply Trip.cond (.tmp rfl)
   ·intro h
    have h : i < l.length := by simp at h; omega
    have hsn : (l.take (i + 1)).map En.id = (l.take i).map En.id ++ [l[i]!.id] := by rw [take_snoc l i h, List.map_append]; rfl
    have hfl : ((l.take i).map En.id).length ≤ 1048576 := by rw [List.length_map, List.length_take]; omega
    generalize hF2 : (l.take (i + 1)).map En.id = F2 at *
    generalize (l.take i).map En.id = F at *
    subst hsn
    refine Trip.skip (Trip.seq (Trip.block (Trip.sR tblOk (by repeat' (first | exact rfl | exact idx_map _ _ _ (by show _ < _; first | omega | (simp only [List.length_map] at *; omega)) | ((with_reducible refine Side.mk ?_); (simp only [ln]; first | done | omega)) | constructor)) ?_)))
    refine Trip.R tblOk (by repeat' (first | exact rfl | ((with_reducible refine Side.mk ?_); (simp only [ln]; first | done | omega)) | constructor)) ?_
    refine Trip.R tblOk (by repeat' (first | exact rfl | ((with_reducible refine Side.mk ?_); omega) | constructor)) ?_
    exact ⟨i + 1, by first | omega | (dsimp only at *; omega), by first | omega | (dsimp only at *; omega), Weak.kp (ht := by repeat' (first | exact rfl | (rw [hF2]; refine Side.mk (oslE ?_ ?_) <;> simp) | constructor)) (ho := by repeat' (first | exact rfl | (rw [hF2]; exact arrF (by simp) (by simp)) | constructor)) (huo := by repeat' (first | exact plainL_map _ (fun _ => rfl) _ | constructor))⟩
   intro h
   have h : i = l.length := by simp at h; omega
   subst h
   refine Trip.exit ?_
   rw [List.take_length, ← hN]
   refine Weak.trans (S2 := ⟨[(5, .osl 900 0 N.length N.length)], [(900, .arr 1 N.isEmpty (N.map fun x => sV x))]⟩) ?_ (turnS (by decide))
   exact Weak.kp (huo := by repeat' (first | exact plainL_map _ (fun _ => rfl) _ | constructor))
  intro h2
  have h2 : ¬ k = 2 := by simpa using h2
  rw [if_neg h2] at hN
  refine Trip.sr tblOk ?_
  apply Trip.cond (.tmp rfl)
  ·intro h3
   have h3 : k = 3 := by simpa using h3
   rw [if_pos h3] at hN
   have hcl := comR_len b
   generalize comR b = r2 at *
   obtain ⟨e2, cm⟩ := r2
   obtain ⟨tr, ps, ⟨an, am, at', az⟩, ⟨cn, cml, ct, cz⟩, tx⟩ := cm
   dsimp only at *
   refine Trip.sR tblOk (by repeat' (first | exact rfl | (apply Rule.sem; intro hγ; with_reducible apply F_call0 (x := .func 63) (B := []) hγ (hspec := t2)) | ((with_reducible refine Side.mk ?_); exact .inl rfl) | constructor)) ?_
   refine Trip.R tblOk (by repeat' (first | exact rfl | exact cellsOk_map _ (fun _ => rfl) _ | ((with_reducible refine Side.mk ?_); (simp only [ln]; first | done | omega)) | constructor)) ?_
   refine Weak.trans (S2 := ⟨[(5, .osl 54 0 N.length N.length)], [(54, .arr 1 N.isEmpty (N.map fun x => sV x))]⟩) ?_ (turnS (by decide))
   subst hN
   exact Weak.kp (ht := by repeat' (first | exact rfl | (refine Side.mk (oslE ?_ ?_) <;> (simp; try omega)) | constructor)) (huo := by repeat' (first | exact plainL_map _ (fun _ => rfl) _ | constructor))
  intro h3
  have h3 : ¬ k = 3 := by simpa using h3
  rw [if_neg h3] at hN
  refine Trip.sr tblOk ?_
  apply Trip.cond (.tmp rfl)
  ·intro h4
   have h4 : k = 4 := by simpa using h4
   rw [if_pos h4] at hN
   generalize tgR b = r3 at *
   obtain ⟨e3, tg⟩ := r3
   obtain ⟨ob, kk, nm, ⟨an, am, at', az⟩, tx⟩ := tg
   dsimp only at *
   refine Trip.sR tblOk (by repeat' (first | exact rfl | (apply Rule.sem; intro hγ; with_reducible apply F_call0 (x := .func 64) (B := []) hγ (hspec := t3)) | ((with_reducible refine Side.mk ?_); exact .inl rfl) | constructor)) ?_
   refine Trip.r tblOk ?_
   refine Weak.trans (S2 := ⟨[(5, .osl 68 0 N.length N.length)], [(68, .arr 1 N.isEmpty (N.map fun x => sV x))]⟩) ?_ (turnS (by decide))
   subst hN
   exact Weak.kp
  intro h4
  have h4 : ¬ k = 4 := by simpa using h4
  rw [if_neg h4] at hN
  subst hN
  refine Trip.skip ?_
  refine Weak.trans (S2 := ⟨[(5, nilS)], []⟩) ?_ (Weak.turn [] rfl rfl (.cons rfl .nilS .nil) .nil)
  exact Weak.kp
 refine Trip.sr tblOk ?_
 refine Trip.seq (Trip.sr tblOk ?_)
 refine Trip.block ?_
 apply Trip.loop (fun (i : Nat) => ⟨[(14, .osl 900 0 (dedN N i).length (dedN N i).length), (69, .sl N.isEmpty 1 (N.map fun x => sV x)), (70, iV N.length), (71, iV i)], [(900, .arr 1 (dedN N i).isEmpty ((dedN N i).map fun x => sV x))]⟩) (fun (i : Nat) => i ≤ N.length) (fun (i : Nat) => N.length - i) (0)
 ·first | omega | (simp; done)
 ·refine Weak.trans (S2 := ⟨[(14, nilS), (69, .sl N.isEmpty 1 (N.map fun x => sV x)), (70, iV N.length), (71, iV 0)], []⟩) ?_ ?_
  ·exact Weak.kp (ht := by repeat' (first | exact rfl | (refine vI ?_; first | omega | (simp; done) | (simp; omega) | (simp only [List.length_map] at *; omega)) | constructor))
  ·exact Weak.adopt 900 1 rfl rfl (by repeat' (first | exact rfl | constructor)) (by repeat' (first | exact rfl | constructor))
 intro i hi
 refine Trip.sr tblOk ?_
 refine Trip.seq ?_
 apply Trip.cond (.tmp rfl)
 ·intro h
  have h : i < N.length := by simp at h; omega
  have hdl := dedN_len N i
  have c2 := cContainsS (dedN N i).isEmpty (dedN N i) N[i]! (by omega)
  have hst : dedN N (i + 1) = if hasS (dedN N i) N[i]! = true then dedN N i else dedN N i ++ [N[i]!] := rfl
  generalize hasS (dedN N i) N[i]! = hs at *
  generalize hD2 : dedN N (i + 1) = D2 at *
  generalize dedN N i = D at *
  refine Trip.skip ?_
  refine Trip.seqk ⟨[(14, .osl 900 0 D2.length D2.length), (69, .sl N.isEmpty 1 (N.map fun x => sV x)), (70, iV N.length), (71, iV i)], [(900, .arr 1 D2.isEmpty (D2.map fun x => sV x))]⟩ ?_ ?_
  ·refine Trip.block (Trip.sR tblOk (by repeat' (first | exact rfl | exact idx_map _ _ _ (by show _ < _; first | omega | (simp only [List.length_map] at *; omega)) | ((with_reducible refine Side.mk ?_); (simp only [ln]; first | done | omega)) | constructor)) ?_)
   refine Trip.sR tblOk (by repeat' (first | exact rfl | (apply Rule.sem; intro hγ; with_reducible apply F_call0 (x := .func 65) (B := [900]) hγ (hspec := c2)) | exact plainL_map _ (fun _ => rfl) _ | ((with_reducible refine Side.mk ?_); first | exact .inr ⟨rfl, rfl, rfl⟩ | (simp only [ln]; first | done | omega)) | constructor)) ?_
   apply Trip.cond (.tmp rfl)
   ·intro h2
    have h2 : hs = false := by simpa using h2
    rw [if_neg (by rw [h2]; simp)] at hst
    subst hst
    refine Trip.R tblOk (by repeat' (first | exact rfl | ((with_reducible refine Side.mk ?_); (simp only [ln]; first | done | omega)) | constructor)) ?_
    exact Weak.kp (ht := by repeat' (first | exact rfl | (refine Side.mk (oslE ?_ ?_) <;> (simp only [ln]; first | done | omega)) | constructor)) (ho := by repeat' (first | exact rfl | exact arrF (by simp) (by simp) | constructor)) (huo := by repeat' (first | exact plainL_map _ (fun _ => rfl) _ | constructor))
   ·intro h2
    have h2 : hs = true := by simpa using h2
    rw [if_pos h2] at hst
    subst hst
    refine Trip.skip ?_
    exact Weak.kp (huo := by repeat' (first | exact plainL_map _ (fun _ => rfl) _ | constructor))
  refine Trip.R tblOk (by repeat' (first | exact rfl | ((with_reducible refine Side.mk ?_); omega) | constructor)) ?_
  exact ⟨i + 1, by first | omega | (dsimp only at *; omega), by first | omega | (dsimp only at *; omega), Weak.kp (ht := by repeat' (first | exact rfl | (rw [hD2]; rfl) | constructor)) (ho := by repeat' (first | exact rfl | (rw [hD2]; rfl) | constructor)) (huo := by repeat' (first | exact plainL_map _ (fun _ => rfl) _ | constructor))⟩
 intro h
 have h : i = N.length := by simp at h; omega
 subst h
 refine Trip.exit ?_
 rw [dedup]
 refine Trip.sr tblOk ?_
 refine Trip.ret (rt2 [900] (hc := by repeat' (first | exact rfl | exact plainL_map _ (fun _ => rfl) _ | (refine Side.mk ?_; simp only [ln]; first | done | omega) | constructor)))
end Go.Proofs.Tryz
namespace Go.Proofs.Tryz
open Go Go.Sym Go.Graft
set_option maxRecDepth 20000
theorem cOne15 (s : Str) (hs : s.length ≤ 1000000000) : Ctr prog 67 [sV s] [] (.tup [(if (oneE s).1 = 0 then (oneE s).2.1 else ⟨0, [], []⟩).pv, iV (oneN s), iV (oneE s).1]) [] [] := by
 have c1 := cMode15 s hs
 refine Ctr.enter tblOk func67 rfl (by decide) rfl (nt := 47) rfl rfl rfl rfl ?_
 refine Trip.sr tblOk ?_
 refine Trip.sR tblOk (by repeat' (first | exact rfl | (apply Rule.sem; intro hγ; with_reducible apply F_call0 (x := .func 108) (B := []) hγ (hspec := c1)) | ((with_reducible refine Side.mk ?_); exact .inl rfl) | constructor)) ?_
 refine Trip.seq (Trip.sr tblOk ?_)
 apply Trip.cond (.tmp rfl)
 ·intro h
  have h : modeOf s < 0 := by simpa using h
  have hm : modeOf s = -1 := by rcases modeOf_cases s with h | h | ⟨m, _, _, h, _⟩ <;> omega
  have he : modeE s = 3 := by rw [modeE, if_pos hm]
  have h1 : (oneE s).1 = 3 := by rw [oneE_mode (by omega), he]
  rw [oneN, h1, if_neg (by omega), if_neg (by omega)]
  refine Trip.sr tblOk ?_
  refine Trip.ret (rt3 [])
 intro h
 have h : ¬ modeOf s < 0 := by simpa using h
 refine Trip.skip (Trip.seq (Trip.sr tblOk ?_))
 apply Trip.cond (.tmp rfl)
 ·intro h2
  have hm : modeOf s = 0 := by simpa using h2
  have he : modeE s = 2 := by rw [modeE, if_neg (by omega), if_pos hm]
  have h1 : (oneE s).1 = 2 := by rw [oneE_mode (by omega), he]
  rw [oneN, h1, if_neg (by omega), if_neg (by omega)]
  refine Trip.sr tblOk ?_
  refine Trip.ret (rt3 [])
 intro h2
 have h2 : ¬ modeOf s = 0 := by simpa using h2
 have he : modeE s = 0 := by rw [modeE, if_neg (by omega), if_neg h2]
 have hf := oneE_find he
 have hpre : (modeD (modeOf s)).length ≤ s.length := by
  obtain ⟨m, _, _, h3, _, h5⟩ := modeE_ok he
  rw [h3]; exact h5
 have c2 := cDig15 (modeOf s)
 have c3 := cFind14 s 0 (modeD (modeOf s)).length (by omega) hpre
 have hfb : findBad s = (decide (findB s 0 (modeD (modeOf s)).length < 0) || decide ((s.length : Int) - findB s 0 (modeD (modeOf s)).length < 21)) := rfl
 have hrange : -1 ≤ findB s 0 (modeD (modeOf s)).length ∧ findB s 0 (modeD (modeOf s)).length ≤ s.length := by
  have h5 := Lib.indexByte_ge (s.drop (modeD (modeOf s)).length) 0
  have h6 := Lib.index_le (s.drop (modeD (modeOf s)).length) [0]
  rw [Go.Graft.index_one, List.length_drop] at h6
  rw [findB]
  split <;> omega
 refine Trip.skip (Trip.sR tblOk (by repeat' (first | exact rfl | (apply Rule.sem; intro hγ; with_reducible apply F_call0 (x := .func 109) (B := []) hγ (hspec := c2)) | ((with_reducible refine Side.mk ?_); exact .inl rfl) | constructor)) ?_)
 refine Trip.sR tblOk (by repeat' (first | exact rfl | (apply Rule.sem; intro hγ; with_reducible apply F_call0 (x := .func 110) (B := []) hγ (hspec := c3)) | ((with_reducible refine Side.mk ?_); exact .inl rfl) | constructor)) ?_
 generalize findBad s = fb at *
 generalize findB s 0 (modeD (modeOf s)).length = k at *
 generalize modeD (modeOf s) = d at *
 refine Trip.seq (Trip.sR tblOk (by repeat' (first | exact rfl | ((with_reducible refine Side.mk ?_); first | omega | exact fun h => h | exact fun _ h => congrArg Bool.not h) | constructor)) ?_)
 apply Trip.cond (.tmp rfl)
 ·intro h4
  have h4 : fb = true := by rw [hfb]; simpa using h4
  have h1 : (oneE s).1 = 3 := by rw [hf.1, if_pos h4]
  rw [oneN, h1, if_neg (by omega), if_neg (by omega)]
  refine Trip.sr tblOk ?_
  refine Trip.ret (rt3 [])
 intro h4
 have h4 : fb = false := by rw [hfb]; simpa using h4
 have h1 : (oneE s).1 = 0 := by rw [hf.1, if_neg (by rw [h4]; simp)]
 obtain ⟨e, rfl, g1, g2, g3, _, g4⟩ := hf.2 h4
 rw [if_pos h1, g3, g4, h1]
 have c4 := cHex2 ((s.take (e + 21)).drop (e + 1)) (by rw [List.length_drop, List.length_take]; omega)
 generalize modeOf s = m at *
 refine Trip.skip (Trip.sD tblOk mixed (by repeat' (first | exact rfl | (apply Rule.sem; intro hγ; with_reducible apply F_call0 (x := .func 111) (B := []) hγ (hspec := c4)) | ((first | with_reducible refine bok ?_ | with_reducible refine Side.mk ?_); first | omega | exact .inl rfl) | constructor)) ?_)
 refine Trip.ret (rt3 [])
end Go.Proofs.Tryz
