/- A part of the proof: Hr, He, Hf, Hc, Hh, Hs. -/
import Derived.Test.YteailifhgfijgaaGreatDoorPart35
set_option linter.unusedVariables false
set_option linter.unusedSimpArgs false
namespace Go.Proofs.Tryz
open Go Go.Sym Go.Graft
set_option maxRecDepth 20000
set_option maxHeartbeats 1000000 in
theorem cParseTg (s : Str) (hs : s.length ≤ 100000000) : Ctr prog 64 [sV s] [] (.tup [(tgP s).2.pv, iV (tgP s).1]) [] [] := by
 have c1 := cIdR s kObj 0 (by omega)
 have d1 := lineR_le s kObj
 have v1 := lineV_le s kObj
 have hdef := tgP_def s
 dsimp only at hdef
 generalize tgP s = res at *
 generalize lineV s kObj = ob at *
 generalize lineR s kObj = s1 at *
 generalize rdId s 0 kObj = e1 at *
 have c2 := cLine s1 kTyp e1 (by omega)
 have d2 := lineR_le s1 kTyp
 have k2 := cKind (lineV s1 kTyp)
 have c3 := cFail (lineR s1 kTyp) (lnE s1 kTyp e1) 2
 generalize lineV s1 kTyp = w at *
 generalize lineR s1 kTyp = s2 at *
 generalize lnE s1 kTyp e1 = e1b at *
 generalize failE e1b 2 = e1f at *
 generalize kindW w = kw at *
 generalize he2 : (if kw = 0 then e1f else e1b) = e2 at *
 have c4 := cLine s2 kTag e2 (by omega)
 have d3 := lineR_le s2 kTag
 have v3 := lineV_le s2 kTag
 generalize lineV s2 kTag = nm at *
 generalize lineR s2 kTag = s3 at *
 generalize lnE s2 kTag e2 = e3 at *
 have c5 := cWhoR s3 kTgr e3 (by omega)
 have d4 := lineR_le s3 kTgr
 have v4 := lineV_le s3 kTgr
 have w1 := whoOf_len (lineV s3 kTgr)
 generalize lineV s3 kTgr = x at *
 generalize lineR s3 kTgr = s4 at *
 generalize rdWho s3 e3 kTgr = e4 at *
 have d5 := lineR_le s4 []
 have c6 := cLine s4 [] e4 (by omega)
 have c7 := cFail (lineR s4 []) (lnE s4 [] e4) 2
 generalize lineV s4 [] = v5 at *
 generalize lineR s4 [] = s5 at *
 generalize lnE s4 [] e4 = e5 at *
 generalize failE e5 2 = e5f at *
 generalize (whoOf x).2 = px at *
 have c8 := cTgE ⟨ob, kw, nm, px, s5⟩ (by simp only; omega) (by simp only; omega) (by simp only; omega) (by simp only; omega)
 generalize hce : tgE ⟨ob, kw, nm, px, s5⟩ = ce at *
 generalize he6 : (if v5 = [] then e5 else e5f) = e6 at *
 generalize he7 : (if e6 = 0 then ce else e6) = e7 at *
 refine Ctr.enter tblOk func64 rfl (by decide) rfl (nt := 58) rfl rfl rfl rfl ?_
 refine Trip.sr tblOk ?_
 refine Trip.sr tblOk ?_
 refine Trip.sR tblOk (by repeat' (first | exact rfl | (apply Rule.sem; intro hγ; with_reducible apply F_call (x := .func 96) (σ := [8]) (B := []) (news := []) hγ (hspec := c1)) | ((with_reducible refine Side.mk ?_); exact .inl rfl) | constructor)) ?_
 refine Trip.sR tblOk (by repeat' (first | exact rfl | (apply Rule.sem; intro hγ; with_reducible apply F_call (x := .func 99) (σ := [8]) (B := []) (news := []) hγ (hspec := c2)) | (apply Rule.sem; intro hγ; with_reducible apply F_call0 (x := .func 102) (B := []) hγ (hspec := k2)) | ((with_reducible refine Side.mk ?_); exact .inl rfl) | constructor)) ?_
 refine Trip.seqk ⟨[(2, .ref 2 0), (4, .ref 8 0), (5, .ref 5 0)], [(2, .box [sV [], iV 0, sV [], sV [], sV [], iV 0, iV 0, sV []]), (5, .box [sV ob, iV kw, sV [], sV [], sV [], iV 0, iV 0, sV []]), (8, .box [sV s2, iV e2])]⟩ ?_ ?_
 ·refine Trip.sr tblOk ?_
  apply Trip.cond (.tmp rfl)
  ·intro h
   have h : kw = 0 := by simpa using h
   rw [if_pos h] at he2
   subst he2
   refine Trip.R tblOk (by repeat' (first | exact rfl | (apply Rule.sem; intro hγ; with_reducible apply F_call (x := .func 100) (σ := [8]) (B := []) (news := []) hγ (hspec := c3)) | ((with_reducible refine Side.mk ?_); exact .inl rfl) | constructor)) ?_
   exact Weak.kp
  ·intro h
   have h : ¬ kw = 0 := by simpa using h
   rw [if_neg h] at he2
   subst he2
   refine Trip.skip ?_
   exact Weak.kp
 refine Trip.sR tblOk (by repeat' (first | exact rfl | (apply Rule.sem; intro hγ; with_reducible apply F_call (x := .func 99) (σ := [8]) (B := []) (news := []) hγ (hspec := c4)) | ((with_reducible refine Side.mk ?_); exact .inl rfl) | constructor)) ?_
 refine Trip.sR tblOk (by repeat' (first | exact rfl | (apply Rule.sem; intro hγ; with_reducible apply F_call (x := .func 98) (σ := [8]) (B := []) (news := []) hγ (hspec := c5)) | ((with_reducible refine Side.mk ?_); exact .inl rfl) | constructor)) ?_
 refine Trip.seqk ⟨[(2, .ref 2 0), (4, .ref 8 0), (5, .ref 5 0)], [(2, .box [sV [], iV 0, sV [], sV [], sV [], iV 0, iV 0, sV []]), (5, .box [sV ob, iV kw, sV nm, sV px.name, sV px.mail, iV px.time, iV px.zone, sV []]), (8, .box [sV s5, iV e6])]⟩ ?_ ?_
 ·refine Trip.sR tblOk (by repeat' (first | exact rfl | (apply Rule.sem; intro hγ; with_reducible apply F_call (x := .func 99) (σ := [8]) (B := []) (news := []) hγ (hspec := c6)) | ((with_reducible refine Side.mk ?_); exact .inl rfl) | constructor)) ?_
  apply Trip.cond (.tmp rfl)
  ·intro h
   have h : ¬ v5 = [] := by simpa using h
   rw [if_neg h] at he6
   subst he6
   refine Trip.R tblOk (by repeat' (first | exact rfl | (apply Rule.sem; intro hγ; with_reducible apply F_call (x := .func 100) (σ := [8]) (B := []) (news := []) hγ (hspec := c7)) | ((with_reducible refine Side.mk ?_); exact .inl rfl) | constructor)) ?_
   exact Weak.kp
  ·intro h
   have h : v5 = [] := by simpa using h
   rw [if_pos h] at he6
   subst he6
   refine Trip.skip ?_
   exact Weak.kp
 refine Trip.sR tblOk (by repeat' (first | exact rfl | (apply Rule.sem; intro hγ; with_reducible apply F_nilCheck hγ) | constructor)) ?_
 refine Trip.seqk ⟨[(2, .ref 2 0), (4, .ref 8 0), (5, .ref 5 0)], [(2, .box [sV [], iV 0, sV [], sV [], sV [], iV 0, iV 0, sV []]), (5, .box [sV ob, iV kw, sV nm, sV px.name, sV px.mail, iV px.time, iV px.zone, sV s5]), (8, .box [sV s5, iV e7])]⟩ ?_ ?_
 ·refine Trip.sR tblOk (by repeat' (first | exact rfl | (apply Rule.sem; intro hγ; with_reducible apply F_nilCheck hγ) | constructor)) ?_
  apply Trip.cond (.tmp rfl)
  ·intro h
   have h : e6 = 0 := by simpa using h
   rw [if_pos h] at he7
   subst he7
   refine Trip.R tblOk (by repeat' (first | exact rfl | (apply Rule.sem; intro hγ; with_reducible apply F_nilCheck hγ) | (apply Rule.sem; intro hγ; with_reducible apply F_call0 (x := .func 103) (B := []) hγ (hspec := c8)) | ((with_reducible refine Side.mk ?_); exact .inl rfl) | constructor)) ?_
   exact Weak.kp
  ·intro h
   have h : ¬ e6 = 0 := by simpa using h
   rw [if_neg h] at he7
   subst he7
   refine Trip.skip ?_
   exact Weak.kp
 refine Trip.seq (Trip.sR tblOk (by repeat' (first | exact rfl | (apply Rule.sem; intro hγ; with_reducible apply F_nilCheck hγ) | constructor)) ?_)
 apply Trip.cond (.tmp rfl)
 ·intro h
  have h : ¬ e7 = 0 := by simpa using h
  rw [if_neg h] at hdef
  subst hdef
  refine Trip.sD tblOk mixed (by repeat' (first | exact rfl | (apply Rule.sem; intro hγ; with_reducible apply F_nilCheck hγ) | constructor)) ?_
  refine Trip.ret (rt2 [])
 intro h
 have h : e7 = 0 := by simpa using h
 rw [if_pos h] at hdef
 subst hdef
 refine Trip.skip (Trip.sr tblOk ?_)
 refine Trip.ret (rt2 [])
end Go.Proofs.Tryz
namespace Go.Proofs.Tryz
open Go Go.Sym Go.Graft
set_option maxRecDepth 20000
theorem cLessE (x y : En) (h1 : x.name.length ≤ 1000000000) (h2 : y.name.length ≤ 1000000000) : Ctr prog 144 [x.pv, y.pv] [] (bV (Op.bytesLess x.key y.key)) [] [] := cLess _ _ _ _ _ _ (by omega) (by omega)
theorem cLessE15 (x y : En) (h1 : x.name.length ≤ 1000000000) (h2 : y.name.length ≤ 1000000000) : Ctr prog 113 [x.pv, y.pv] [] (bV (Op.bytesLess x.key y.key)) [] [] := cLess15 _ _ _ _ _ _ (by omega) (by omega)
theorem cCheck15 (nl : Bool) (l : List En) (hl : l.length ≤ 1000000000) (hn : ∀ x ∈ l, x.name.length ≤ 1000000000 ∧ x.id.length ≤ 1000000000) : Ctr prog 68 [.sl nl 3 (l.map En.pv)] [] (iV (checkE l)) [] [] := by
 refine Ctr.enter tblOk func68 rfl (by decide) rfl (nt := 51) rfl rfl rfl rfl ?_
 refine Trip.sr tblOk ?_
 refine Trip.seq (Trip.sr tblOk ?_)
 apply Trip.cond (.tmp rfl)
 ·intro h
  have h : 1024 < l.length := by simp at h; omega
  rw [checkE, if_pos h]
  refine Trip.sr tblOk ?_
  refine Trip.ret (rt1 [])
 intro h
 have hl2 : l.length ≤ 1024 := by simp at h; omega
 refine Trip.skip (Trip.seq (Trip.sr tblOk ?_))
 refine Trip.block ?_
 refine Trip.loop (fun (i : Nat) => ⟨[(0, .sl nl 3 (l.map En.pv)), (9, iV l.length), (10, iV i)], []⟩) (fun (i : Nat) => i ≤ l.length ∧ ∀ j, j < i → entE l j = 0) (fun (i : Nat) => l.length - i) (0) (by exact ⟨Nat.zero_le _, fun j hj => absurd hj (by omega)⟩) (Weak.kp (ht := by repeat' (first | exact rfl | (refine vI ?_; first | omega | (simp; done) | (simp; omega) | (simp only [List.length_map] at *; omega)) | constructor))) ?_
 intro i hi
 obtain ⟨hi, hj⟩ := hi
 refine Trip.sr tblOk ?_
 refine Trip.seq ?_
 apply Trip.cond (.tmp rfl)
 ·intro h
  have h : i < l.length := by simp at h; omega
  have hx := hn _ (bang_mem h)
  have c1 := cMay15 l[i]! hx.1 hx.2
  have hm1 := entE_may (l := l) (i := i)
  have hm2 := entE_sort (l := l) (i := i)
  have hm3 := entE_dup (l := l) (i := i)
  have hst := fun e he h0 => checkE_stop (e := e) hl2 h hj he h0
  generalize mayE l[i]! = my at *
  refine Trip.skip (Trip.seq (Trip.block (Trip.sr tblOk ?_)))
  refine Trip.seq (Trip.sR tblOk (by repeat' (first | exact rfl | (apply Rule.sem; intro hγ; with_reducible apply F_call0 (x := .func 112) (B := []) hγ (hspec := c1)) | exact idx_map _ _ _ (by show _ < _; first | omega | (simp only [List.length_map] at *; omega)) | ((with_reducible refine Side.mk ?_); first | exact .inl rfl | (simp only [ln]; first | done | omega)) | constructor)) ?_)
  apply Trip.cond (.tmp rfl)
  ·intro h2
   have h2 : my = false := by simpa using h2
   rw [hst 1 (hm1 h2) (by omega)]
   refine Trip.sr tblOk ?_
   refine Trip.ret (rt1 [])
  intro h2
  have h2 : my = true := by simpa using h2
  have hm2 := hm2 h2
  have hm3 := hm3 h2
  refine Trip.skip ?_
  have e1 : ((i : Int) - 1).toNat = i - 1 := by omega
  have hb : entBad2 l i = (decide (0 < (i : Int)) && !Op.bytesLess l[((i : Int) - 1).toNat]!.key l[i]!.key) := by rw [e1]; rfl
  have hx0 := hn _ (bang_mem (l := l) (i := i - 1) (by omega))
  have c2 := cLessE15 l[((i : Int) - 1).toNat]! l[i]! (by rw [e1]; exact hx0.1) hx.1
  refine Trip.seq (Trip.sD tblOk mixed (by repeat' (first | exact rfl | (apply Rule.under tblOk; intro hγ; with_reducible apply Rule.indexAddr) | exact idx_map _ _ _ (by have h2 := hγ; simp only [gpick, cond_true, cond_false, decide_eq_true_eq, Bool.and_eq_true, Bool.or_eq_true, Bool.not_eq_true', Bool.not_eq_false', Bool.or_eq_false_iff, decide_eq_false_iff_not, List.length_map] at h2; show _ < _; omega) | (apply Rule.sem; intro hγ; with_reducible apply F_call0 (x := .func 113) (B := []) hγ (hspec := c2)) | ((with_reducible refine Side.mk ?_); first | omega | exact .inl rfl | exact fun h => h | exact fun _ h => h | (simp only [ln]; first | done | omega) | exact fun _ => hγ | (have h2 := hγ; simp only [gpick, cond_true, cond_false, decide_eq_true_eq, Bool.and_eq_true, Bool.or_eq_true, Bool.not_eq_true', Bool.not_eq_false', Bool.or_eq_false_iff, decide_eq_false_iff_not, List.length_map] at h2; (try simp only [List.length_map]); omega)) | constructor)) ?_)
  apply Trip.cond (.tmp rfl)
  ·intro h3
   have h3 : entBad2 l i = true := by rw [hb]; simpa using h3
   rw [hst 150 (hm2 h3) (by omega)]
   refine Trip.sr tblOk ?_
   refine Trip.ret (rt1 [])
  intro h3
  have h3 : entBad2 l i = false := by rw [hb]; simpa using h3
  have hm3 := hm3 h3
  refine Trip.skip ?_
  have hnm : ∀ k, k < i → (l[k]!.name = l[i]!.name ↔ ((l.take i).map En.name)[k]! = l[i]!.name) := fun k hk => by
   rw [map_bang _ _ _ (by rw [List.length_take]; omega), getElem!_pos (l.take i) k (by rw [List.length_take]; omega), getElem!_pos l k (by omega), List.getElem_take]
  have hlt : ((l.take i).map En.name).length = i := by rw [List.length_map, List.length_take]; omega
  have hd1 := fun k (hk : k < i) h => hasS_true (l := (l.take i).map En.name) (i := k) (x := l[i]!.name) (by rw [hlt]; exact hk) ((hnm k hk).1 h)
  have hd2 := fun (h : ∀ k, k < i → l[k]!.name ≠ l[i]!.name) => hasS_false (l := (l.take i).map En.name) (x := l[i]!.name) fun k hk he => h k (by rw [hlt] at hk; exact hk) ((hnm k (by rw [hlt] at hk; exact hk)).2 he)
  generalize hasS ((l.take i).map En.name) l[i]!.name = du at *
  refine Trip.sr tblOk ?_
  refine Trip.block ?_
  refine Trip.loop (fun (k : Nat) => ⟨[(0, .sl nl 3 (l.map En.pv)), (3, iV i), (9, iV l.length), (10, iV i), (34, iV i), (35, iV k)], []⟩) (fun (k : Nat) => k ≤ i ∧ ∀ j, j < k → l[j]!.name ≠ l[i]!.name) (fun (k : Nat) => i - k) (0) (by exact ⟨Nat.zero_le _, fun j hj => absurd hj (by omega)⟩) Weak.kp ?_
  intro k hk
  obtain ⟨hk, hkj⟩ := hk
  refine Trip.sr tblOk ?_
  refine Trip.seq ?_
  apply Trip.cond (.tmp rfl)
  ·intro h4
   have h4 : k < i := by simp at h4; omega
   refine Trip.skip (Trip.seq (Trip.block (Trip.sr tblOk ?_)))
   refine Trip.sD tblOk mixed (by repeat' (first | exact rfl | exact idx_map _ _ _ (by show _ < _; first | omega | (simp only [List.length_map] at *; omega)) | ((with_reducible refine Side.mk ?_); (simp only [ln]; first | done | omega)) | constructor)) ?_
   apply Trip.cond (.tmp rfl)
   ·intro h5
    have h5 : l[k]!.name = l[i]!.name := by simpa using h5
    have hm3 : entE l i = 6 := by rw [hm3, if_pos (hd1 k h4 h5)]
    rw [hst 6 hm3 (by omega)]
    refine Trip.sr tblOk ?_
    refine Trip.ret (rt1 [])
   intro h5
   have h5 : ¬ l[k]!.name = l[i]!.name := by simpa using h5
   refine Trip.skip (Trip.R tblOk (by repeat' (first | exact rfl | ((with_reducible refine Side.mk ?_); omega) | constructor)) ?_)
   exact ⟨k + 1, by exact ⟨by omega, fun j h6 => (Nat.lt_succ_iff_lt_or_eq.1 h6).elim (hkj j) (fun e => e ▸ h5)⟩, by first | omega | (dsimp only at *; omega), Weak.kp⟩
  intro h4
  have h4 : k = i := by simp at h4; omega
  subst h4
  have hm3 : entE l k = 0 := by rw [hm3, hd2 hkj]; rfl
  refine Trip.exit (Trip.R tblOk (by repeat' (first | exact rfl | ((with_reducible refine Side.mk ?_); omega) | constructor)) ?_)
  exact ⟨k + 1, by exact ⟨by omega, fun j h6 => (Nat.lt_succ_iff_lt_or_eq.1 h6).elim (hj j) (fun e => e ▸ hm3)⟩, by first | omega | (dsimp only at *; omega), Weak.kp⟩
 intro h
 have h : i = l.length := by simp at h; omega
 subst h
 refine Trip.exit ?_
 rw [checkE_ok hl2 hj]
 refine Trip.sr tblOk ?_
 refine Trip.ret (rt1 [])
end Go.Proofs.Tryz
namespace Go.Proofs.Tryz
open Go Go.Sym Go.Graft
set_option maxRecDepth 20000
theorem cCheckT (nl : Bool) (l : List En) (hl : l.length ≤ 1000000000) (hn : ∀ x ∈ l, x.name.length ≤ 1000000000 ∧ x.id.length ≤ 1000000000) : Ctr prog 95 [.sl nl 3 (l.map En.pv)] [] (iV (checkE l)) [] [] := by
 refine Ctr.enter tblOk func95 rfl (by decide) rfl (nt := 46) rfl rfl rfl rfl ?_
 refine Trip.sr tblOk ?_
 refine Trip.seq (Trip.sr tblOk ?_)
 apply Trip.cond (.tmp rfl)
 ·intro h
  have h : 1024 < l.length := by simp at h; omega
  rw [checkE, if_pos h]
  refine Trip.sr tblOk ?_
  refine Trip.ret (rt1 [])
 intro h
 have hl2 : l.length ≤ 1024 := by simp at h; omega
 refine Trip.skip (Trip.sR tblOk (by repeat' (first | exact rfl | (apply Rule.sem; intro hγ; with_reducible apply F_makeMap) | constructor)) ?_)
 refine Trip.seq (Trip.sr tblOk ?_)
 refine Trip.block ?_
 refine Trip.loop (fun (i : Nat) => ⟨[(0, .sl nl 3 (l.map En.pv)), (3, .mref 9), (10, .sl nl 3 (l.map En.pv)), (11, iV l.length), (12, iV i)], [(9, .map ((cntN (l.map En.name) i).1.map strK) ((cntN (l.map En.name) i).2.map fun n => iV n))]⟩) (fun (i : Nat) => i ≤ l.length ∧ ∀ j, j < i → entE l j = 0) (fun (i : Nat) => l.length - i) (0) (by exact ⟨Nat.zero_le _, fun j hj => absurd hj (by omega)⟩) (Weak.kp (ht := by repeat' (first | exact rfl | (refine vI ?_; first | omega | (simp; done) | (simp; omega) | (simp only [List.length_map] at *; omega)) | constructor))) ?_
 intro i hi
 obtain ⟨hi, hj⟩ := hi
 refine Trip.sr tblOk ?_
 refine Trip.seq ?_
 apply Trip.cond (.tmp rfl)
 ·intro h
  have h : i < l.length := by simp at h; omega
  have hx := hn _ (bang_mem h)
  have c1 := cMay l[i]! hx.1 hx.2
  have hm1 := entE_may (l := l) (i := i)
  have hm2 := entE_sort (l := l) (i := i)
  have hm3 := entE_dup (l := l) (i := i)
  have hst := fun e he h0 => checkE_stop (e := e) hl2 h hj he h0
  have e1 : ((i : Int) - 1).toNat = i - 1 := by omega
  have hb : entBad2 l i = (decide (0 < (i : Int)) && !Op.bytesLess l[((i : Int) - 1).toNat]!.key l[i]!.key) := by rw [e1]; rfl
  have hx0 := hn _ (bang_mem (l := l) (i := i - 1) (by omega))
  have c2 := cLessE l[((i : Int) - 1).toNat]! l[i]! (by rw [e1]; exact hx0.1) hx.1
  have hlen := cntN_len (l.map En.name) i
  have hstep := cntN_step l i h
  have hbound := cntN_bound (l.map En.name) l[i]!.name i (by simp; omega)
  have hdup := cntN_dup (l.map En.name) i (by simpa using h)
  rw [map_bang _ _ _ h, ← List.map_take] at hdup
  rw [List.length_map] at hbound
  generalize hq2 : cntN (l.map En.name) (i + 1) = q2 at *
  generalize cntN (l.map En.name) i = q at *
  obtain ⟨ks, cs⟩ := q
  subst hstep
  dsimp only at *
  have hlen2 := mkeys_length ks cs l[i]!.name (mval ks cs 0 l[i]!.name + 1) hlen
  generalize mayE l[i]! = my at *
  refine Trip.skip (Trip.seq (Trip.block (Trip.sR tblOk (by repeat' (first | exact rfl | exact idx_map _ _ _ (by show _ < _; first | omega | (simp only [List.length_map] at *; omega)) | ((with_reducible refine Side.mk ?_); (simp only [ln]; first | done | omega)) | constructor)) ?_)))
  refine Trip.rk ⟨[(0, .sl nl 3 (l.map En.pv)), (3, .mref 9), (4, iV i), (5, .ref 5 0), (10, .sl nl 3 (l.map En.pv)), (11, iV l.length), (12, iV i)], [(5, .box l[i]!.pv.cells), (9, .map ((mkeys ks l[i]!.name).map strK) ((mset ks cs l[i]!.name (mval ks cs 0 l[i]!.name + 1)).map fun n => iV n))]⟩ tblOk (by repeat' (first | exact rfl | (apply Rule.sem; intro hγ; with_reducible apply F_lookup (K := strK) (f := iV) (z := 0) (zv := .int .i64 0) tblOk hγ (hz := zInt) (hzf := fun _ _ _ => .v _ _)) | exact KeyLaw.str tblOk rfl rfl | (apply Rule.sem; intro hγ; with_reducible apply F_mapUpdate (K := strK) (f := iV) tblOk hγ) | ((with_reducible refine Side.mk ?_); first | omega | (simp only [ln]; first | done | omega)) | constructor)) (Weak.kp (huo := by repeat' (first | exact rfl | exact plainL_map _ (fun _ => rfl) _ | constructor))) ?_
  generalize mkeys ks l[i]!.name = ks2 at *
  generalize mset ks cs l[i]!.name (mval ks cs 0 l[i]!.name + 1) = cs2 at *
  refine Trip.block (Trip.sR tblOk (by repeat' (first | exact rfl | (apply Rule.sem; intro hγ; with_reducible apply F_call0 (x := .func 143) (B := []) hγ (hspec := c1)) | ((with_reducible refine Side.mk ?_); exact .inl rfl) | constructor)) ?_)
  apply Trip.cond (.tmp rfl)
  ·intro h2
   have h2 : my = false := by simpa using h2
   rw [hst 1 (hm1 h2) (by omega)]
   refine Trip.sr tblOk ?_
   refine Trip.ret (rt1 [])
  intro h2
  have h2 : my = true := by simpa using h2
  have hm2 := hm2 h2
  have hm3 := hm3 h2
  refine Trip.sD tblOk mixed (by repeat' (first | exact rfl | (apply Rule.under tblOk; intro hγ; with_reducible apply Rule.indexAddr) | exact idx_map _ _ _ (by have h2 := hγ; simp only [gpick, cond_true, cond_false, decide_eq_true_eq, Bool.and_eq_true, Bool.or_eq_true, Bool.not_eq_true', Bool.not_eq_false', Bool.or_eq_false_iff, decide_eq_false_iff_not, List.length_map] at h2; show _ < _; omega) | (apply Rule.sem; intro hγ; with_reducible apply F_call0 (x := .func 144) (B := []) hγ (hspec := c2)) | ((with_reducible refine Side.mk ?_); first | omega | exact .inl rfl | exact fun h => h | exact fun _ h => h | exact fun _ => hγ | (have h2 := hγ; simp only [gpick, cond_true, cond_false, decide_eq_true_eq, Bool.and_eq_true, Bool.or_eq_true, Bool.not_eq_true', Bool.not_eq_false', Bool.or_eq_false_iff, decide_eq_false_iff_not, List.length_map] at h2; (try simp only [List.length_map]); omega)) | constructor)) ?_
  apply Trip.cond (.tmp rfl)
  ·intro h3
   have h3 : entBad2 l i = true := by rw [hb]; simpa using h3
   rw [hst 150 (hm2 h3) (by omega)]
   refine Trip.sr tblOk ?_
   refine Trip.ret (rt1 [])
  intro h3
  have h3 : entBad2 l i = false := by rw [hb]; simpa using h3
  have hm3 := hm3 h3
  generalize hasS ((l.take i).map En.name) l[i]!.name = du at *
  refine Trip.sR tblOk (by repeat' (first | exact rfl | (apply Rule.sem; intro hγ; with_reducible apply F_lookup (K := strK) (f := iV) (z := 0) (zv := .int .i64 0) tblOk hγ (hz := zInt) (hzf := fun _ _ _ => .v _ _)) | exact KeyLaw.str tblOk rfl rfl | ((with_reducible refine Side.mk ?_); omega) | constructor)) ?_
  apply Trip.cond (.tmp rfl)
  ·intro h4
   have h4 : du = true := by rw [← hdup]; exact h4
   rw [hst 6 (by rw [hm3, if_pos h4]) (by omega)]
   refine Trip.sr tblOk ?_
   refine Trip.ret (rt1 [])
  intro h4
  have h4 : du = false := by rw [← hdup]; exact h4
  have hm3 : entE l i = 0 := by rw [hm3, h4]; rfl
  refine Trip.skip (Trip.R tblOk (by repeat' (first | exact rfl | ((with_reducible refine Side.mk ?_); omega) | constructor)) ?_)
  exact ⟨i + 1, by exact ⟨by omega, fun j h6 => (Nat.lt_succ_iff_lt_or_eq.1 h6).elim (hj j) (fun e => e ▸ hm3)⟩, by first | omega | (dsimp only at *; omega), Weak.kp (ho := by repeat' (first | exact rfl | (rw [hq2]; rfl) | constructor)) (huo := by repeat' (first | exact plainL_map _ (fun _ => rfl) _ | constructor))⟩
 intro h
 have h : i = l.length := by simp at h; omega
 subst h
 refine Trip.exit ?_
 rw [checkE_ok hl2 hj]
 refine Trip.sr tblOk ?_
 refine Trip.ret (rt1 [])
end Go.Proofs.Tryz
namespace Go.Proofs.Tryz
open Go Go.Sym Go.Graft
set_option maxRecDepth 20000
theorem cModeT (s : Str) : Ctr prog 92 [sV s] [] (.tup [iV (if 1 ≤ modeOf s then modeOf s else 0), sV (modeR s), iV (modeE s)]) [] [] := by
 have c1 := fun m : Nat => cDigT m
 have c2 := fun m : Nat => sCutPrefix s (modeP m)
 have c3 := fun m : Nat => sHasPrefix (modeP m) s
 refine Ctr.enter tblOk func92 rfl (by decide) rfl (nt := 31) rfl rfl rfl rfl ?_
 refine Trip.sr tblOk ?_
 refine Trip.sr tblOk ?_
 refine Trip.seq (Trip.sr tblOk ?_)
 refine Trip.block ?_
 refine Trip.loop (fun (m : Nat) => ⟨[(0, sV s), (5, bV (shortN s (m - 1))), (6, iV m)], []⟩) (fun (m : Nat) => 1 ≤ m ∧ m ≤ 5 ∧ ∀ j : Nat, 1 ≤ j → j < m → Lib.hasPrefix s (modeD (j : Int)) = false) (fun (m : Nat) => 5 - m) (1) (by exact ⟨Nat.le_refl _, by omega, fun j h1 h2 => absurd h1 (by omega)⟩) Weak.kp ?_
 intro m hm
 obtain ⟨h1, h2, hj⟩ := hm
 refine Trip.seq (Trip.sr tblOk ?_)
 apply Trip.cond (.tmp rfl)
 ·intro h
  have h : m ≤ 4 := by simp at h; omega
  have c1 := c1 m
  have c2 := c2 m
  have c3 := c3 m
  rw [modeP_eq m h1 h] at c1 c2 c3
  have hd := fun (hp : Lib.hasPrefix s (modeD (m : Int)) = true) => modeOf_hit h1 h hj hp
  have hd2 := fun (hp : Lib.hasPrefix s (modeD (m : Int)) = false) (j : Nat) (h3 : 1 ≤ j) (h4 : j < m + 1) => (Nat.lt_succ_iff_lt_or_eq.1 h4).elim (hj j h3) (fun e => e ▸ hp)
  have hsh : (shortN s (m - 1) || Lib.hasPrefix (modeD (m : Int)) s) = shortN s (m + 1 - 1) := by
   obtain ⟨k, rfl⟩ : ∃ k, m = k + 1 := ⟨m - 1, by omega⟩
   rfl
  have htr : Lib.hasPrefix s (modeD (m : Int)) = true → Lib.trimPrefix s (modeD (m : Int)) = s.drop (modeD (m : Int)).length := fun hp => by rw [Lib.trimPrefix, if_pos hp]
  generalize Lib.hasPrefix s (modeD (m : Int)) = p at c2 hd hd2 htr
  generalize Lib.trimPrefix s (modeD (m : Int)) = rest at c2 htr
  generalize Lib.hasPrefix (modeD (m : Int)) s = q at c3 hsh
  generalize hsn : shortN s (m - 1) = sn at hsh ⊢
  generalize hdg : modeD (m : Int) = d at c1 c2 c3 htr
  refine Trip.skip (Trip.seq (Trip.block (Trip.seq (Trip.sR tblOk (by repeat' (first | exact rfl | (apply Rule.sem; intro hγ; with_reducible apply F_call0 (dst := some 16) (x := .func 141) (B := []) hγ (hspec := c1)) | (apply Rule.sem; intro hγ; with_reducible apply F_call0 (x := .func 140) (B := []) hγ (hspec := c2)) | ((with_reducible refine Side.mk ?_); exact .inl rfl) | constructor)) ?_))))
  refine Trip.sr tblOk ?_
  apply Trip.cond (.tmp rfl)
  ·intro h3
   have h3 : p = true := by simpa using h3
   have hd := hd h3
   rw [modeR, modeE, hd, if_pos (by omega), if_pos (by omega), if_neg (by omega), if_neg (by omega), hdg, ← htr h3]
   refine Trip.sr tblOk ?_
   refine Trip.ret (rt3 [])
  intro h3
  have h3 : p = false := by simpa using h3
  refine Trip.skip (Trip.R tblOk (by repeat' (first | exact rfl | (apply Rule.sem; intro hγ; with_reducible apply F_call0 (dst := some 26) (x := .func 141) (B := []) hγ (hspec := c1)) | (apply Rule.sem; intro hγ; with_reducible apply F_call0 (x := .func 97) (B := []) hγ (hspec := c3)) | ((with_reducible refine Side.mk ?_); first | exact .inl rfl | exact fun h => h | exact fun _ h => congrArg Bool.not h) | constructor)) ?_)
  refine Trip.R tblOk (by repeat' (first | exact rfl | ((with_reducible refine Side.mk ?_); omega) | constructor)) ?_
  exact ⟨m + 1, by exact ⟨by omega, by omega, hd2 h3⟩, by first | omega | (dsimp only at *; omega), Weak.kp (ht := by repeat' (first | exact rfl | exact vB hsh | constructor))⟩
 intro h
 have h : m = 5 := by simp at h; omega
 subst h
 refine Trip.exit ?_
 have hm := modeOf_no hj
 rw [show 5 - 1 = 4 from rfl]
 generalize shortN s 4 = b at *
 refine Trip.seq (Trip.sr tblOk ?_)
 apply Trip.cond (.tmp rfl)
 ·intro h3
  have h3 : b = true := by simpa using h3
  rw [if_pos h3] at hm
  rw [modeR, modeE, hm, if_neg (by omega), if_neg (by omega), if_pos rfl]
  refine Trip.sr tblOk ?_
  refine Trip.ret (rt3 [])
 intro h3
 have h3 : b = false := by simpa using h3
 rw [h3, if_neg (by simp)] at hm
 rw [modeR, modeE, hm, if_neg (by omega), if_neg (by omega), if_neg (by omega), if_pos rfl]
 refine Trip.skip (Trip.sr tblOk ?_)
 refine Trip.ret (rt3 [])
end Go.Proofs.Tryz
namespace Go.Proofs.Tryz
open Go Go.Sym Go.Graft
set_option maxRecDepth 20000
theorem cParseT (s : Str) (hs : s.length ≤ 1000000000) : Ctr prog 62 [sV s] [] (.tup [.sl (treeOf s).2.isEmpty 3 ((treeOf s).2.map En.pv), iV (treeOf s).1]) [] [] := by
 refine Ctr.enter tblOk func62 rfl (by decide) rfl (nt := 53) rfl rfl rfl rfl ?_
 refine Trip.sr tblOk ?_
 refine Trip.sr tblOk ?_
 refine Trip.seq (Trip.block ?_)
 apply Trip.loop (fun (x : Str × List En) => ⟨[(0, sV x.1), (4, .osl 900 0 x.2.length x.2.length)], [(900, .arr 3 x.2.isEmpty (x.2.map En.pv))]⟩) (fun (x : Str × List En) => Reads s x) (fun (x : Str × List En) => x.1.length) ((s, []))
 ·exact reads_zero s
 ·refine Weak.trans (S2 := ⟨[(0, sV s), (4, nilS)], []⟩) ?_ ?_
  ·exact Weak.kp
  ·exact Weak.adopt 900 3 rfl rfl (by repeat' (first | exact rfl | constructor)) (by repeat' (first | exact rfl | constructor))
 intro x hx
 obtain ⟨t, acc⟩ := x
 have hx2 := hx
 obtain ⟨_, hlen, hall⟩ := hx2
 dsimp only at *
 refine Trip.seq (Trip.sr tblOk ?_)
 apply Trip.cond (.tmp rfl)
 ·intro h
  have h : t ≠ [] := by simpa using h
  have c1 := cModeT t
  have herr := treeOf_err hx h
  have hnext := reads_next hs hx h
  have hshort := oneE_short (s := t)
  have hmode := oneE_mode (s := t)
  have hcut := oneE_cut (s := t)
  have hrl := modeR_len t
  have hm1 : modeE t = 0 → (if 1 ≤ modeOf t then modeOf t else 0) = modeOf t := fun h => by
   obtain ⟨m, h1, _, h3, _⟩ := modeE_ok h
   rw [if_pos (by omega)]
  generalize (if 1 ≤ modeOf t then modeOf t else 0) = md at *
  generalize modeOf t = md2 at *
  generalize modeE t = me at *
  generalize modeR t = rt at *
  generalize oneE t = q at *
  obtain ⟨er, e2, rest⟩ := q
  dsimp only at *
  refine Trip.skip (Trip.block (Trip.sR tblOk (by repeat' (first | exact rfl | (apply Rule.sem; intro hγ; with_reducible apply F_call0 (x := .func 92) (B := []) hγ (hspec := c1)) | ((with_reducible refine Side.mk ?_); exact .inl rfl) | constructor)) ?_))
  refine Trip.seq (Trip.sr tblOk ?_)
  apply Trip.cond (.tmp rfl)
  ·intro h2
   have h2 : me ≠ 0 := by simpa using h2
   have h3 := hmode h2
   rw [herr (by omega), h3]
   refine Trip.sr tblOk ?_
   refine Trip.ret (rt2 [])
  intro h2
  have h2 : me = 0 := by simpa using h2
  have hcut := hcut h2
  have hm1 := hm1 h2
  subst hm1
  have c2 := sCut rt [0] (by omega)
  have hcb : cutBad rt = (!(Lib.cut rt [0]).2.2 || decide (((Lib.cut rt [0]).2.1.length : Int) < 20)) := rfl
  generalize cutBad rt = cb at *
  generalize Lib.cut rt [0] = ct at *
  obtain ⟨nm, id, fd⟩ := ct
  dsimp only at *
  refine Trip.skip (Trip.sR tblOk (by repeat' (first | exact rfl | (apply Rule.sem; intro hγ; with_reducible apply F_call0 (x := .func 93) (B := []) hγ (hspec := c2)) | ((with_reducible refine Side.mk ?_); exact .inl rfl) | constructor)) ?_)
  refine Trip.seq (Trip.sR tblOk (by repeat' (first | exact rfl | ((with_reducible refine Side.mk ?_); first | exact fun h => h | exact fun _ h => congrArg Bool.not h) | constructor)) ?_)
  apply Trip.cond (.tmp rfl)
  ·intro h3
   have h3 : cb = true := by rw [hcb]; simpa using h3
   have h4 : er = 3 := by rw [hcut.1, if_pos h3]
   rw [herr (by omega), h4]
   refine Trip.sr tblOk ?_
   refine Trip.ret (rt2 [])
  intro h3
  have h3 : cb = false := by rw [hcb]; simpa using h3
  have h4 : er = 0 := by rw [hcut.1, if_neg (by rw [h3]; simp)]
  obtain ⟨g1, g2, g3⟩ := hcut.2 h3
  have hnext := hnext h4
  have hshort := hshort h4
  subst g1
  subst g2
  have c3 := cHex (id.take 20) (by rw [List.length_take]; omega)
  generalize hh : hexOf (id.take 20) = hx20 at *
  refine Trip.skip (Trip.sR tblOk (by repeat' (first | exact rfl | (apply Rule.sem; intro hγ; with_reducible apply F_call0 (x := .func 94) (B := []) hγ (hspec := c3)) | ((first | with_reducible refine bokR ?_ | with_reducible refine Side.mk ?_); first | omega | exact .inl rfl | (simp only [ln]; first | done | omega)) | constructor)) ?_)
  refine Trip.R tblOk (by repeat' (first | exact rfl | ((with_reducible refine bokL ?_); omega) | constructor)) ?_
  exact ⟨(id.drop 20, acc ++ [⟨md, nm, hx20⟩]), by exact hnext, by first | omega | (dsimp only at *; omega), Weak.kp (ht := by repeat' (first | exact rfl | exact vT (drop_all _ _) | (refine Side.mk (oslE ?_ ?_) <;> (simp only [ln]; first | done | omega)) | constructor)) (ho := by repeat' (first | exact rfl | exact arrF (by simp) (by simp) | constructor)) (huo := by repeat' (first | exact plainL_map _ (fun _ => rfl) _ | constructor))⟩
 intro h
 have h : t = [] := by simpa using h
 subst h
 have hend := treeOf_end hx
 have c2 := cCheckT acc.isEmpty acc (by simp at hlen; omega) hall
 rw [hend]
 generalize checkE acc = ce at *
 refine Trip.exit (Trip.seq (Trip.sR tblOk (by repeat' (first | exact rfl | (apply Rule.sem; intro hγ; with_reducible apply F_call0 (x := .func 95) (B := [900]) hγ (hspec := c2)) | exact plainL_map _ (fun _ => rfl) _ | ((with_reducible refine Side.mk ?_); first | exact .inr ⟨rfl, rfl, rfl⟩ | (simp only [ln]; first | done | omega)) | constructor)) ?_))
 refine Trip.sr tblOk ?_
 apply Trip.cond (.tmp rfl)
 ·intro h2
  have h2 : ce ≠ 0 := by simpa using h2
  rw [if_pos h2]
  refine Trip.sr tblOk ?_
  refine Trip.ret (rt2 [])
 intro h2
 have h2 : ce = 0 := by simpa using h2
 rw [if_neg (by simpa using h2)]
 refine Trip.skip (Trip.sr tblOk ?_)
 refine Trip.ret (rt2 [900] (hc := by repeat' (first | exact rfl | exact plainL_map _ (fun _ => rfl) _ | (refine Side.mk ?_; simp only [ln]; first | done | omega) | constructor)))
end Go.Proofs.Tryz
namespace Go.Proofs.Tryz
open Go Go.Sym Go.Graft
set_option maxRecDepth 20000
theorem cWhole (k : Int) (b : Str) : Ctr prog 61 [objPV k b] [] (iV (wholeE k b)) [] [] := by
 have c1 := cBytes k b
 have hlen := objErr_len (k := k) (b := b)
 have hw : wholeE k b = if objErr k b ≠ 0 then objErr k b else if k = 2 then (treeOf b).1 else if k = 3 then (comR b).1 else if k = 4 then (tgR b).1 else 0 := rfl
 generalize wholeE k b = we at *
 generalize objErr k b = oe at *
 generalize objBytes k b = bs at *
 refine Ctr.enter tblOk func61 rfl (by decide) rfl (nt := 40) rfl rfl rfl rfl ?_
 refine Trip.sr tblOk ?_
 refine Trip.sR tblOk (by repeat' (first | exact rfl | (apply Rule.sem; intro hγ; with_reducible apply F_call0 (x := .func 91) (B := []) hγ (hspec := c1)) | ((with_reducible refine Side.mk ?_); exact .inl rfl) | constructor)) ?_
 refine Trip.seq (Trip.sr tblOk ?_)
 apply Trip.cond (.tmp rfl)
 ·intro h
  have h : oe ≠ 0 := by simpa using h
  rw [if_pos h] at hw
  subst hw
  refine Trip.sr tblOk ?_
  refine Trip.ret (rt1 [])
 intro h
 have h : oe = 0 := by simpa using h
 have hlen := hlen h
 rw [if_neg (by simp [h])] at hw
 subst h
 have t1 := cParseT b (by omega)
 have t2 := cParseC b (by omega)
 have t3 := cParseTg b (by omega)
 rw [com_same] at t2
 rw [tg_same] at t3
 generalize treeOf b = r1 at *
 generalize comR b = r2 at *
 generalize tgR b = r3 at *
 refine Trip.skip ?_
 refine Trip.seqk ⟨[(4, iV we)], []⟩ ?_ ?_
 ·refine Trip.sr tblOk ?_
  refine Trip.block (Trip.sr tblOk ?_)
  apply Trip.cond (.tmp rfl)
  ·intro h2
   have h2 : k = 2 := by simpa using h2
   rw [if_pos h2] at hw
   subst hw
   refine Trip.R tblOk (by repeat' (first | exact rfl | (apply Rule.sem; intro hγ; with_reducible apply F_call0 (x := .func 62) (B := []) hγ (hspec := t1)) | ((with_reducible refine Side.mk ?_); exact .inl rfl) | constructor)) ?_
   exact Weak.kp
  intro h2
  have h2 : ¬ k = 2 := by simpa using h2
  rw [if_neg h2] at hw
  refine Trip.sr tblOk ?_
  apply Trip.cond (.tmp rfl)
  ·intro h3
   have h3 : k = 3 := by simpa using h3
   rw [if_pos h3] at hw
   subst hw
   refine Trip.R tblOk (by repeat' (first | exact rfl | (apply Rule.sem; intro hγ; with_reducible apply F_call0 (x := .func 63) (B := []) hγ (hspec := t2)) | ((with_reducible refine Side.mk ?_); exact .inl rfl) | constructor)) ?_
   exact Weak.kp
  intro h3
  have h3 : ¬ k = 3 := by simpa using h3
  rw [if_neg h3] at hw
  refine Trip.sr tblOk ?_
  apply Trip.cond (.tmp rfl)
  ·intro h4
   have h4 : k = 4 := by simpa using h4
   rw [if_pos h4] at hw
   subst hw
   refine Trip.R tblOk (by repeat' (first | exact rfl | (apply Rule.sem; intro hγ; with_reducible apply F_call0 (x := .func 64) (B := []) hγ (hspec := t3)) | ((with_reducible refine Side.mk ?_); exact .inl rfl) | constructor)) ?_
   exact Weak.kp
  intro h4
  have h4 : ¬ k = 4 := by simpa using h4
  rw [if_neg h4] at hw
  subst hw
  refine Trip.skip ?_
  exact Weak.kp
 refine Trip.sr tblOk ?_
 refine Trip.ret (rt1 [])
end Go.Proofs.Tryz
