/- A part of the proof: Hp, Hj, Hl. -/
import Derived.Test.YteailifhgfijgaaGreatDoorPart30
set_option linter.unusedVariables false
set_option linter.unusedSimpArgs false
namespace Go.Proofs.Tryz
open Go Go.Sym Go.Graft
set_option maxRecDepth 20000
theorem whoOf_len (x : Str) : (whoOf x).2.name.length ≤ x.length ∧ (whoOf x).2.mail.length ≤ x.length := by
 have h1 := cut_len x [32, 60]
 have h2 := cut_len (Lib.cut x [32, 60]).2.1 [62, 32]
 rw [whoOf]
 split
 ·simp [zeroPer]
 split
 ·simp [zeroPer]
 ·exact ⟨h1.1, by simp only; omega⟩
set_option maxHeartbeats 1000000 in
theorem cParseC (s : Str) (hs : s.length ≤ 100000000) : Ctr prog 63 [sV s] [] (.tup [(comP s).2.pv (comP s).2.pars.isEmpty, iV (comP s).1]) [] [] := by
 have c1 := cIdR s kTree 0 (by omega)
 have hR := lineR_le s kTree
 have hV := lineV_le s kTree
 have hdef := comP_def s
 generalize comP s = res at *
 generalize lineV s kTree = tr at *
 generalize lineR s kTree = s1 at *
 generalize rdId s 0 kTree = e1 at *
 refine Ctr.enter tblOk func63 rfl (by decide) rfl (nt := 68) rfl rfl rfl rfl ?_
 refine Trip.sr tblOk ?_
 refine Trip.sr tblOk ?_
 refine Trip.sR tblOk (by repeat' (first | exact rfl | (apply Rule.sem; intro hγ; with_reducible apply F_call (x := .func 96) (σ := [8]) (B := []) (news := []) hγ (hspec := c1)) | ((with_reducible refine Side.mk ?_); exact .inl rfl) | constructor)) ?_
 refine Trip.seq (Trip.block ?_)
 apply Trip.loop (fun (x : Str × Int × List Str) => ⟨[(2, .ref 2 0), (4, .ref 8 0), (5, .ref 5 0)], [(900, .arr 1 x.2.2.isEmpty (x.2.2.map fun p => sV p)), (2, .box [sV [], nilS, sV [], sV [], iV 0, iV 0, sV [], sV [], iV 0, iV 0, sV []]), (5, .box [sV tr, .osl 900 0 x.2.2.length x.2.2.length, sV [], sV [], iV 0, iV 0, sV [], sV [], iV 0, iV 0, sV []]), (8, .box [sV x.1, iV x.2.1])]⟩) (fun (x : Str × Int × List Str) => Pars s1 e1 x) (fun (x : Str × Int × List Str) => parsM x) ((s1, e1, []))
 ·exact pars_zero s1 e1
 ·refine Weak.trans (S2 := ⟨[(2, .ref 2 0), (4, .ref 8 0), (5, .ref 5 0)], [(2, .box [sV [], nilS, sV [], sV [], iV 0, iV 0, sV [], sV [], iV 0, iV 0, sV []]), (5, .box [sV tr, nilS, sV [], sV [], iV 0, iV 0, sV [], sV [], iV 0, iV 0, sV []]), (8, .box [sV s1, iV e1])]⟩) ?_ ?_
  ·exact Weak.kp
  ·exact Weak.adopt 900 1 rfl rfl (by repeat' (first | exact rfl | constructor)) (by repeat' (first | exact rfl | constructor))
 intro x hx
 obtain ⟨t, e, l⟩ := x
 have hx2 := hx
 obtain ⟨_, hl1, hl2, hl3⟩ := hx2
 dsimp only at *
 have c2 := sHasPrefix t kPar
 have c3 := cIdR t kPar e (by omega)
 refine Trip.seq (Trip.sR tblOk (by repeat' (first | exact rfl | (apply Rule.sem; intro hγ; with_reducible apply F_nilCheck hγ) | (apply Rule.sem; intro hγ; with_reducible apply F_call0 (x := .func 97) (B := []) hγ (hspec := c2)) | ((with_reducible refine Side.mk ?_); first | exact .inl rfl | exact fun h => h | exact fun _ h => h) | constructor)) ?_)
 apply Trip.cond (.tmp rfl)
 ·intro h
  have h : (decide (e = 0) && Lib.hasPrefix t kPar) = true := h
  simp only [Bool.and_eq_true, decide_eq_true_eq] at h
  obtain ⟨he, hp⟩ := h
  subst he
  obtain ⟨hn, hm⟩ := pars_next hx hp
  have hll : l.length ≤ 1000000000 := by simp only [if_true] at hl1; omega
  generalize lineV t kPar = v at *
  generalize lineR t kPar = t2 at *
  generalize rdId t 0 kPar = e2 at *
  refine Trip.skip (Trip.block (Trip.D tblOk mixed (by repeat' (first | exact rfl | (apply Rule.sem; intro hγ; with_reducible apply F_call (x := .func 96) (σ := [8]) (B := []) (news := []) hγ (hspec := c3)) | ((with_reducible refine Side.mk ?_); first | exact .inl rfl | (simp only [ln]; first | done | omega)) | constructor)) ?_))
  exact ⟨(t2, e2, l ++ [v]), by exact hn, by first | omega | (dsimp only at *; omega), Weak.kp (ho := by repeat' (first | exact rfl | exact arrF (by simp) (by simp) | (refine Side.mk ?_; simp; done) | constructor)) (huo := by repeat' (first | exact rfl | exact plainL_map _ (fun _ => rfl) _ | constructor))⟩
 intro h
 have h : (decide (e = 0) && Lib.hasPrefix t kPar) = false := h
 have hq := pars_end hx (fun h2 => by rw [decide_eq_true h2.1, h2.2] at h; simp at h)
 have hdef := hdef t e l hq
 have d1 := lineR_le t kAut
 have d2 := lineV_le t kAut
 have c4 := cWhoR t kAut e (by omega)
 have w1 := whoOf_len (lineV t kAut)
 generalize lineV t kAut = x at *
 generalize lineR t kAut = s3 at *
 generalize rdWho t e kAut = e3 at *
 have d3 := lineR_le s3 kCom
 have d4 := lineV_le s3 kCom
 have c5 := cWhoR s3 kCom e3 (by omega)
 have w2 := whoOf_len (lineV s3 kCom)
 generalize lineV s3 kCom = y at *
 generalize lineR s3 kCom = s4 at *
 generalize rdWho s3 e3 kCom = e4 at *
 have d5 := lineR_le s4 []
 have c6 := cLine s4 [] e4 (by omega)
 have c7 := cFail (lineR s4 []) (lnE s4 [] e4) 2
 generalize lineV s4 [] = v5 at *
 generalize lineR s4 [] = s5 at *
 generalize lnE s4 [] e4 = e5 at *
 generalize failE e5 2 = e5f at *
 generalize (whoOf x).2 = px at *
 generalize (whoOf y).2 = py at *
 refine Trip.exit (Trip.sR tblOk (by repeat' (first | exact rfl | (apply Rule.sem; intro hγ; with_reducible apply F_call (dst := some 32) (x := .func 98) (σ := [8]) (B := []) (news := []) hγ (hspec := c4)) | (apply Rule.sem; intro hγ; with_reducible apply F_call (dst := some 34) (x := .func 98) (σ := [8]) (B := []) (news := []) hγ (hspec := c5)) | ((with_reducible refine Side.mk ?_); exact .inl rfl) | constructor)) ?_)
 have hpl : l.length ≤ 1000000000 := by split at hl1 <;> omega
 have c8 := cComE l.isEmpty ⟨tr, l, px, py, s5⟩ (by simp only; omega) (by simp only; omega) (fun p hp => by have := hl3 p hp; omega) (by simp only; omega) (by simp only; omega) (by simp only; omega)
 generalize hce : comE ⟨tr, l, px, py, s5⟩ = ce at *
 generalize he6 : (if v5 = [] then e5 else e5f) = e6 at *
 refine Trip.seqk ⟨[(2, .ref 2 0), (4, .ref 8 0), (5, .ref 5 0)], [(900, .arr 1 l.isEmpty (l.map fun p => sV p)), (2, .box [sV [], nilS, sV [], sV [], iV 0, iV 0, sV [], sV [], iV 0, iV 0, sV []]), (5, .box [sV tr, .osl 900 0 l.length l.length, sV px.name, sV px.mail, iV px.time, iV px.zone, sV py.name, sV py.mail, iV py.time, iV py.zone, sV []]), (8, .box [sV s5, iV e6])]⟩ ?_ ?_
 ·refine Trip.sR tblOk (by repeat' (first | exact rfl | (apply Rule.sem; intro hγ; with_reducible apply F_call (x := .func 99) (σ := [8]) (B := []) (news := []) hγ (hspec := c6)) | ((with_reducible refine Side.mk ?_); exact .inl rfl) | constructor)) ?_
  apply Trip.cond (.tmp rfl)
  ·intro h
   have h : ¬ v5 = [] := by simpa using h
   rw [if_neg h] at he6
   subst he6
   refine Trip.R tblOk (by repeat' (first | exact rfl | (apply Rule.sem; intro hγ; with_reducible apply F_call (x := .func 100) (σ := [8]) (B := []) (news := []) hγ (hspec := c7)) | ((with_reducible refine Side.mk ?_); exact .inl rfl) | constructor)) ?_
   exact Weak.kp (huo := by repeat' (first | exact rfl | exact plainL_map _ (fun _ => rfl) _ | constructor))
  ·intro h
   have h : v5 = [] := by simpa using h
   rw [if_pos h] at he6
   subst he6
   refine Trip.skip ?_
   exact Weak.kp (huo := by repeat' (first | exact rfl | exact plainL_map _ (fun _ => rfl) _ | constructor))
 refine Trip.sR tblOk (by repeat' (first | exact rfl | (apply Rule.sem; intro hγ; with_reducible apply F_nilCheck hγ) | constructor)) ?_
 generalize he7 : (if e6 = 0 then ce else e6) = e7 at *
 refine Trip.seqk ⟨[(2, .ref 2 0), (4, .ref 8 0), (5, .ref 5 0)], [(900, .arr 1 l.isEmpty (l.map fun p => sV p)), (2, .box [sV [], nilS, sV [], sV [], iV 0, iV 0, sV [], sV [], iV 0, iV 0, sV []]), (5, .box [sV tr, .osl 900 0 l.length l.length, sV px.name, sV px.mail, iV px.time, iV px.zone, sV py.name, sV py.mail, iV py.time, iV py.zone, sV s5]), (8, .box [sV s5, iV e7])]⟩ ?_ ?_
 ·refine Trip.sR tblOk (by repeat' (first | exact rfl | (apply Rule.sem; intro hγ; with_reducible apply F_nilCheck hγ) | constructor)) ?_
  apply Trip.cond (.tmp rfl)
  ·intro h
   have h : e6 = 0 := by simpa using h
   rw [if_pos h] at he7
   subst he7
   refine Trip.R tblOk (by repeat' (first | exact rfl | (apply Rule.sem; intro hγ; with_reducible apply F_nilCheck hγ) | (apply Rule.sem; intro hγ; with_reducible apply F_call0 (x := .func 101) (B := [900]) hγ (hspec := c8)) | exact plainL_map _ (fun _ => rfl) _ | ((with_reducible refine Side.mk ?_); first | exact .inr ⟨rfl, rfl, rfl⟩ | (simp only [ln]; first | done | omega)) | constructor)) ?_
   exact Weak.kp (huo := by repeat' (first | exact rfl | exact plainL_map _ (fun _ => rfl) _ | constructor))
  ·intro h
   have h : ¬ e6 = 0 := by simpa using h
   rw [if_neg h] at he7
   subst he7
   refine Trip.skip ?_
   exact Weak.kp (huo := by repeat' (first | exact rfl | exact plainL_map _ (fun _ => rfl) _ | constructor))
 refine Trip.seq (Trip.sR tblOk (by repeat' (first | exact rfl | (apply Rule.sem; intro hγ; with_reducible apply F_nilCheck hγ) | constructor)) ?_)
 apply Trip.cond (.tmp rfl)
 ·intro h
  have h : ¬ e7 = 0 := by simpa using h
  rw [if_neg h] at hdef
  subst hdef
  refine Trip.sD tblOk mixed (by repeat' (first | exact rfl | (apply Rule.sem; intro hγ; with_reducible apply F_nilCheck hγ) | constructor)) ?_
  refine Trip.ret (rt2 [])
 intro h
 have h : e7 = 0 := by simpa using h
 rw [if_pos h] at hdef
 subst hdef
 refine Trip.skip (Trip.sr tblOk ?_)
 refine Trip.ret (rt2 [900] (hc := by repeat' (first | exact rfl | exact plainL_map _ (fun _ => rfl) _ | (refine Side.mk ?_; simp only [ln]; first | done | omega) | constructor)))
end Go.Proofs.Tryz
namespace Go.Proofs.Tryz
open Go Go.Sym Go.Graft
set_option maxRecDepth 20000
theorem cDigits16 (s : Str) (hs : s.length ≤ 1000000000000) : Ctr prog 158 [sV s] [] (bV (numOk s)) [] [] := by
 have hnb : numBad s = (decide ((s.length : Int) < 1) || decide (18 < (s.length : Int)) || (decide (1 < (s.length : Int)) && decide (((s.getD 0 0).toNat : Int) = 48))) := rfl
 refine Ctr.enter tblOk func158 rfl (by decide) rfl (nt := 38) rfl rfl rfl rfl ?_
 refine Trip.sr tblOk ?_
 refine Trip.seq (Trip.sR tblOk (by repeat' (first | exact rfl | (apply Rule.under tblOk; intro hγ; with_reducible apply Rule.index) | ((with_reducible refine Side.mk ?_); first | exact fun h => h | exact fun _ h => congrArg Bool.not h | (intro h1 h2; rw [h1, h2]; rfl) | exact fun _ => hγ | (have h2 := hγ; simp only [gpick, cond_true, cond_false, decide_eq_true_eq, Bool.and_eq_true, Bool.or_eq_true, Bool.not_eq_true', Bool.not_eq_false', Bool.or_eq_false_iff, decide_eq_false_iff_not, List.length_map] at h2; (try simp only [List.length_map]); omega)) | constructor)) ?_)
 apply Trip.cond (.tmp rfl)
 ·intro h
  have h : numBad s = true := h
  rw [numOk_bad h]
  refine Trip.sr tblOk ?_
  refine Trip.ret (rt1 [] (hc := by repeat' (exact cvB (by simp only [List.length_map]))))
 intro h
 have hb : numBad s = false := h
 refine Trip.skip (Trip.seq (Trip.sr tblOk ?_))
 refine Trip.block ?_
 refine Trip.loop (fun (i : Nat) => ⟨[(0, sV s), (3, iV i)], []⟩) (fun (i : Nat) => i ≤ s.length ∧ ∀ j, j < i → badD (s.getD j 0) = false) (fun (i : Nat) => s.length - i) (0) (by exact ⟨Nat.zero_le _, fun j hj => absurd hj (by omega)⟩) Weak.kp ?_
 intro i hi
 obtain ⟨hi, hj⟩ := hi
 refine Trip.seq (Trip.sr tblOk ?_)
 apply Trip.cond (.tmp rfl)
 ·intro h
  have h : i < s.length := by simp at h; omega
  refine Trip.skip (Trip.seq (Trip.block (Trip.sR tblOk (by repeat' (first | exact rfl | (apply Rule.under tblOk; intro hγ; with_reducible apply Rule.index) | ((with_reducible refine Side.mk ?_); first | omega | exact fun h => h | exact fun _ h => congrArg Bool.not h | exact fun _ => hγ) | constructor)) ?_)))
  apply Trip.cond (.tmp rfl)
  ·intro h2
   have h2 : badD (s.getD i 0) = true := h2
   rw [numOk_false h h2]
   refine Trip.sr tblOk ?_
   refine Trip.ret (rt1 [] (hc := by repeat' (exact cvB (by simp only [List.length_map]))))
  intro h2
  have h2 : badD (s.getD i 0) = false := h2
  refine Trip.skip (Trip.R tblOk (by repeat' (first | exact rfl | ((with_reducible refine Side.mk ?_); omega) | constructor)) ?_)
  exact ⟨i + 1, by exact ⟨by omega, fun j h3 => (Nat.lt_succ_iff_lt_or_eq.1 h3).elim (hj j) (fun e => e ▸ h2)⟩, by first | omega | (dsimp only at *; omega), Weak.kp⟩
 intro h
 have h : i = s.length := by simp at h; omega
 subst h
 have hok := numOk_true hb hj
 refine Trip.exit ?_
 rw [hok]
 refine Trip.sr tblOk ?_
 refine Trip.ret (rt1 [] (hc := by repeat' (exact cvB (by simp only [List.length_map]))))
theorem cValue16 (s : Str) (hs : s.length ≤ 18) (hd : ∀ c ∈ s, badD c = false) : Ctr prog 159 [sV s] [] (iV (valD s)) [] [] := by
 refine Ctr.enter tblOk func159 rfl (by decide) rfl (nt := 20) rfl rfl rfl rfl ?_
 refine Trip.sr tblOk ?_
 refine Trip.sr tblOk ?_
 refine Trip.seq (Trip.sr tblOk ?_)
 refine Trip.block ?_
 refine Trip.loop (fun (i : Nat) => ⟨[(0, sV s), (3, iV (valD (s.take i))), (4, iV i)], []⟩) (fun (i : Nat) => i ≤ s.length) (fun (i : Nat) => s.length - i) (0) (by first | omega | (simp; done)) Weak.kp ?_
 intro i hi
 refine Trip.seq (Trip.sr tblOk ?_)
 apply Trip.cond (.tmp rfl)
 ·intro h
  have h : i < s.length := by simp at h; omega
  have h1 := valD_le hs hd i h
  have h2 := valD_take s i h
  have h3 := hd (s.getD i 0) (by rw [List.getD_eq_getElem?_getD, List.getElem?_eq_getElem h]; exact List.getElem_mem h)
  have h4 : 48 ≤ (s.getD i 0).toNat ∧ (s.getD i 0).toNat ≤ 57 := by
   simp only [badD, Bool.or_eq_false_iff, decide_eq_false_iff_not] at h3; omega
  have h5 := wrap64n (s.getD i 0).toNat (s.getD i 0).toNat_lt
  have h6 : 10 * ((valD (s.take i) : Nat) : Int) + (s.getD i 0).toNat - 48 = ((valD (s.take (i + 1)) : Nat) : Int) := by rw [h2, valF]; omega
  clear h2
  generalize valD (s.take i) = v at *
  refine Trip.skip (Trip.seq (Trip.block (Trip.R tblOk (by repeat' (first | exact rfl | ((with_reducible refine Side.mk ?_); first | omega | (simp only [ln]; first | done | omega)) | constructor)) ?_)))
  refine Trip.R tblOk (by repeat' (first | exact rfl | ((with_reducible refine Side.mk ?_); omega) | constructor)) ?_
  exact ⟨i + 1, by first | omega | (dsimp only at *; omega), by first | omega | (dsimp only at *; omega), Weak.kp (ht := by repeat' (first | exact rfl | (refine vI ?_; simp only [Int.toNat_natCast, h5]; exact h6) | constructor))⟩
 intro h
 have h : i = s.length := by simp at h; omega
 subst h
 rw [List.take_length]
 refine Trip.exit (Trip.sr tblOk ?_)
 refine Trip.ret (rt1 [])
theorem wrapSmall (n : Int) (h1 : -1000000 ≤ n) (h2 : n ≤ 1000000) : IntKind.wrap .i64 n = n := by simp [IntKind.wrap, IntKind.bits, IntKind.signed]; omega
theorem cZone16 (s : Str) (hs : s.length ≤ 1000000000000) : Ctr prog 157 [sV s] [] (.tup [iV (zonV s), bV (zonOk s)]) [] [] := by
 have hnb : zonBad s = (decide (¬ (s.length : Int) = 5) || (decide (¬ ((s.getD 0 0).toNat : Int) = 43) && decide (¬ ((s.getD 0 0).toNat : Int) = 45)) || decide (s = [45, 48, 48, 48, 48])) := rfl
 have hno : zonOk s = false → zonV s = 0 := fun h => by rw [zonV, if_pos h]
 refine Ctr.enter tblOk func157 rfl (by decide) rfl (nt := 55) rfl rfl rfl rfl ?_
 refine Trip.sr tblOk ?_
 refine Trip.seq (Trip.sR tblOk (by repeat' (first | exact rfl | (apply Rule.under tblOk; intro hγ; with_reducible apply Rule.index) | ((with_reducible refine Side.mk ?_); first | exact fun h => h | exact fun _ h => congrArg Bool.not h | (intro h1 h2; rw [h1, h2]; rfl) | exact fun _ => hγ | (have h2 := hγ; simp only [gpick, cond_true, cond_false, decide_eq_true_eq, Bool.and_eq_true, Bool.or_eq_true, Bool.not_eq_true', Bool.not_eq_false', Bool.or_eq_false_iff, decide_eq_false_iff_not, List.length_map] at h2; (try simp only [List.length_map]); omega)) | constructor)) ?_)
 apply Trip.cond (.tmp rfl)
 ·intro h
  have h : zonBad s = true := by rw [hnb]; simpa using h
  rw [hno (zonOk_bad h), zonOk_bad h]
  refine Trip.sr tblOk ?_
  refine Trip.ret (rt2 [] (hd := by repeat' (exact cvB (by simp only [List.length_map]))))
 intro h
 have hb : zonBad s = false := by rw [hnb]; simpa using h
 have hl := zonBad_len hb
 refine Trip.skip (Trip.seq (Trip.sr tblOk ?_))
 refine Trip.block ?_
 refine Trip.loop (fun (i : Nat) => ⟨[(0, sV s), (4, iV i)], []⟩) (fun (i : Nat) => 1 ≤ i ∧ i ≤ 5 ∧ ∀ j, 1 ≤ j → j < i → badD (s.getD j 0) = false) (fun (i : Nat) => 5 - i) (1) (by exact ⟨Nat.le_refl _, by omega, fun j h1 h2 => absurd h1 (by omega)⟩) Weak.kp ?_
 intro i hi
 obtain ⟨hi1, hi, hj⟩ := hi
 refine Trip.seq (Trip.sr tblOk ?_)
 apply Trip.cond (.tmp rfl)
 ·intro h
  have h : i < 5 := by simp at h; omega
  refine Trip.skip (Trip.seq (Trip.block (Trip.sR tblOk (by repeat' (first | exact rfl | (apply Rule.under tblOk; intro hγ; with_reducible apply Rule.index) | ((with_reducible refine Side.mk ?_); first | omega | exact fun h => h | exact fun _ h => congrArg Bool.not h | exact fun _ => hγ) | constructor)) ?_)))
  apply Trip.cond (.tmp rfl)
  ·intro h2
   have h2 : badD (s.getD i 0) = true := h2
   rw [hno (zonOk_dig hl hi1 h h2), zonOk_dig hl hi1 h h2]
   refine Trip.sr tblOk ?_
   refine Trip.ret (rt2 [] (hd := by repeat' (exact cvB (by simp only [List.length_map]))))
  intro h2
  have h2 : badD (s.getD i 0) = false := h2
  refine Trip.skip (Trip.R tblOk (by repeat' (first | exact rfl | ((with_reducible refine Side.mk ?_); omega) | constructor)) ?_)
  exact ⟨i + 1, by exact ⟨by omega, by omega, fun j h1 h3 => (Nat.lt_succ_iff_lt_or_eq.1 h3).elim (hj j h1) (fun e => e ▸ h2)⟩, by first | omega | (dsimp only at *; omega), Weak.kp⟩
 intro h
 have h : i = 5 := by simp at h; omega
 subst h
 have hok := zonOk_end hb hj
 have hv := zon_vals hl hj
 obtain ⟨hd1, hd2⟩ := zon_digs hl hj
 have e3 : (s.take s.length).drop 3 = s.drop 3 := by rw [List.take_length]
 have e1 : (s.take 3).drop 1 = (s.drop 1).take 2 := by rw [List.drop_take]
 have hl1 : ((s.take 3).drop 1).length ≤ 18 := by rw [e1, List.length_take]; omega
 have hl3 : ((s.take s.length).drop 3).length ≤ 18 := by rw [e3, List.length_drop]; omega
 have c1 : Ctr prog 159 [sV ((s.take 3).drop 1)] [] (iV (zonH s)) [] [] := by
  have := cValue16 ((s.take 3).drop 1) hl1 (by rw [e1]; exact hd2)
  rw [e1] at this ⊢; exact this
 have c2 : Ctr prog 159 [sV ((s.take s.length).drop 3)] [] (iV (zonM s)) [] [] := by
  have := cValue16 ((s.take s.length).drop 3) hl3 (by rw [e3]; exact hd1)
  rw [e3] at this ⊢; exact this
 rw [zonV, hok]
 generalize zonM s = m at *
 generalize zonH s = hh at *
 refine Trip.exit (Trip.sR tblOk (by repeat' (first | exact rfl | (apply Rule.sem; intro hγ; with_reducible apply F_call0 (x := .func 159) (B := []) hγ (hspec := c2)) | ((first | with_reducible refine bokL ?_ | with_reducible refine Side.mk ?_); first | omega | exact .inl rfl) | constructor)) ?_)
 refine Trip.seq (Trip.sr tblOk ?_)
 apply Trip.cond (.tmp rfl)
 ·intro h
  have h : ¬ m < 60 := by simp at h; omega
  rw [decide_eq_false h, if_pos rfl]
  refine Trip.sr tblOk ?_
  refine Trip.ret (rt2 [] (hd := by repeat' (exact cvB (by simp only [List.length_map]))))
 intro h
 have h : m < 60 := by simp at h; omega
 rw [decide_eq_true h, if_neg (by simp)]
 refine Trip.skip (Trip.sR tblOk (by repeat' (first | exact rfl | (apply Rule.sem; intro hγ; with_reducible apply F_call0 (x := .func 159) (B := []) hγ (hspec := c1)) | ((first | with_reducible refine bok ?_ | with_reducible refine Side.mk ?_); first | omega | exact .inl rfl) | constructor)) ?_)
 refine Trip.seq (Trip.sR tblOk (by repeat' (first | exact rfl | ((with_reducible refine Side.mk ?_); omega) | constructor)) ?_)
 apply Trip.cond (.tmp rfl)
 ·intro h2
  have h2 : ((s.getD 0 0).toNat : Int) = 45 := by simpa using h2
  rw [if_pos h2]
  refine Trip.sr tblOk ?_
  refine Trip.ret (rt2 [] (hc := by repeat' (exact cvI (by rw [wrapSmall _ (by omega) (by omega)]; omega))) (hd := by repeat' (exact cvB (by simp only [List.length_map]))))
 intro h2
 have h2 : ¬ ((s.getD 0 0).toNat : Int) = 45 := by simpa using h2
 rw [if_neg h2]
 refine Trip.skip (Trip.sr tblOk ?_)
 refine Trip.ret (rt2 [] (hd := by repeat' (exact cvB (by simp only [List.length_map]))))
theorem cFind16 (s t : Str) (a : Nat) (hs : s.length ≤ 1000000000000) (ht : t ≠ []) (htl : t.length ≤ 1000000000000) (ha : a ≤ 1000000000000) : Ctr prog 114 [sV s, sV t, iV a] [] (iV (findS s t a)) [] [] := by
 refine Ctr.enter tblOk func114 rfl (by decide) rfl (nt := 28) rfl rfl rfl rfl ?_
 refine Trip.sr tblOk ?_
 refine Trip.seq (Trip.sr tblOk ?_)
 refine Trip.block ?_
 refine Trip.loop (fun (i : Nat) => ⟨[(0, sV s), (1, sV t), (7, iV i)], []⟩) (fun (i : Nat) => a ≤ i ∧ (i ≤ a ∨ i ≤ s.length) ∧ ∀ j, a ≤ j → j < i → (s.drop j).take t.length ≠ t) (fun (i : Nat) => s.length + 1 - i) (a) (by exact ⟨Nat.le_refl _, .inl (Nat.le_refl _), fun j hj hj2 => absurd hj (by omega)⟩) Weak.kp ?_
 intro i hi
 obtain ⟨hi0, hi, hj⟩ := hi
 have ht1 : 1 ≤ t.length := by
  cases t with
  | nil => exact absurd rfl ht
  | cons _ _ => simp
 refine Trip.seq (Trip.sR tblOk (by repeat' (first | exact rfl | ((with_reducible refine Side.mk ?_); omega) | constructor)) ?_)
 apply Trip.cond (.tmp rfl)
 ·intro h
  have h : i + t.length ≤ s.length := by simp at h; omega
  have e : (s.take (i + t.length)).drop i = (s.drop i).take t.length := by rw [List.drop_take, Nat.add_sub_cancel_left]
  refine Trip.skip (Trip.seq (Trip.block (Trip.sR tblOk (by repeat' (first | exact rfl | ((first | with_reducible refine bok ?_ | with_reducible refine Side.mk ?_); omega) | constructor)) ?_)))
  apply Trip.cond (.tmp rfl)
  ·intro h2
   have h2 : (s.take (i + t.length)).drop i = t := by
    have e2 : ((i : Int) + (t.length : Int)).toNat = i + t.length := by omega
    have h2 : (s.take ((i : Int) + (t.length : Int)).toNat).drop i = t := of_decide_eq_true h2
    rwa [e2] at h2
   rw [findS_some hi0 h hj (e.symm.trans h2)]
   refine Trip.sr tblOk ?_
   refine Trip.ret (rt1 [])
  intro h2
  have h2 : ¬ (s.drop i).take t.length = t := by
   have e2 : ((i : Int) + (t.length : Int)).toNat = i + t.length := by omega
   have h2 : ¬ (s.take ((i : Int) + (t.length : Int)).toNat).drop i = t := of_decide_eq_false h2
   rwa [e2, e] at h2
  refine Trip.skip (Trip.R tblOk (by repeat' (first | exact rfl | ((with_reducible refine Side.mk ?_); omega) | constructor)) ?_)
  exact ⟨i + 1, by exact ⟨by omega, .inr (by omega), fun j h3 h4 => (Nat.lt_succ_iff_lt_or_eq.1 h4).elim (hj j h3) (fun e => e ▸ h2)⟩, by first | omega | (dsimp only at *; omega), Weak.kp⟩
 intro h
 have h : ¬ i + t.length ≤ s.length := by simp at h; omega
 rw [findS_none ht fun j h1 h2 => hj j h1 (by omega)]
 refine Trip.exit (Trip.sr tblOk ?_)
 refine Trip.ret (rt1 [])
end Go.Proofs.Tryz
namespace Go.Proofs.Tryz
open Go Go.Sym Go.Graft
set_option maxRecDepth 20000
set_option maxHeartbeats 1000000 in
theorem cParseWho16 (s : Str) (hs : s.length ≤ 1000000000) : Ctr prog 116 [sV s] [] (.tup [(whoOf s).2.pv, iV (whoOf s).1]) [] [] := by
 have c1 := cFind16 s [32, 60] 0 (by omega) (by simp) (by simp) (by omega)
 have ha0 := find_a (s := s)
 have ha1 := find_a_some (s := s)
 refine Ctr.enter tblOk func116 rfl (by decide) rfl (nt := 95) rfl rfl rfl rfl ?_
 refine Trip.sr tblOk ?_
 refine Trip.sR tblOk (by repeat' (first | exact rfl | (apply Rule.sem; intro hγ; with_reducible apply F_call0 (x := .func 114) (B := []) hγ (hspec := c1)) | ((with_reducible refine Side.mk ?_); exact .inl rfl) | constructor)) ?_
 refine Trip.seq (Trip.sr tblOk ?_)
 apply Trip.cond (.tmp rfl)
 ·intro h
  have h : findS s [32, 60] 0 < 0 := of_decide_eq_true h
  rw [ha0 h]
  refine Trip.sr tblOk ?_
  refine Trip.ret (rt2 [])
 intro h
 have h : ¬ findS s [32, 60] 0 < 0 := of_decide_eq_false h
 obtain ⟨a, e1, g1, g2, g3⟩ := ha1 h
 rw [e1] at *
 have c2 := cFind16 s [62, 32] a (by omega) (by simp) (by simp) (by omega)
 refine Trip.skip (Trip.sR tblOk (by repeat' (first | exact rfl | (apply Rule.sem; intro hγ; with_reducible apply F_call0 (x := .func 114) (B := []) hγ (hspec := c2)) | ((with_reducible refine Side.mk ?_); exact .inl rfl) | constructor)) ?_)
 refine Trip.seq (Trip.sr tblOk ?_)
 apply Trip.cond (.tmp rfl)
 ·intro h
  have h : findS s [62, 32] a < 0 := of_decide_eq_true h
  rw [find_b g2 g3 h]
  refine Trip.sr tblOk ?_
  refine Trip.ret (rt2 [])
 intro h
 have h : ¬ findS s [62, 32] a < 0 := of_decide_eq_false h
 obtain ⟨b, e2, k1, k2, k3⟩ := find_b_some g1 g2 g3 h
 rw [e2] at *
 have c3 := cFind16 s [32] (b + 2) (by omega) (by simp) (by simp) (by omega)
 refine Trip.skip (Trip.sR tblOk (by repeat' (first | exact rfl | (apply Rule.sem; intro hγ; with_reducible apply F_call0 (x := .func 114) (B := []) hγ (hspec := c3)) | ((with_reducible refine Side.mk ?_); first | omega | exact .inl rfl) | constructor)) ?_)
 refine Trip.seq (Trip.sr tblOk ?_)
 apply Trip.cond (.tmp rfl)
 ·intro h
  have h : findS s [32] (b + 2) < 0 := of_decide_eq_true h
  rw [find_c g2 k3 h]
  refine Trip.sr tblOk ?_
  refine Trip.ret (rt2 [])
 intro h
 have h : ¬ findS s [32] (b + 2) < 0 := of_decide_eq_false h
 obtain ⟨c, e3, o⟩ := find_c_some k1 k2 g2 k3 h
 rw [e3] at *
 have hw := o.who
 have o1 : b + 2 ≤ c := o.bc
 have o2 : c + 1 ≤ s.length := o.cl
 have f1 := cZone16 (s.drop (c + 1)) (by rw [List.length_drop]; omega)
 have f2 := cDigits16 ((s.take c).drop (b + 2)) (by rw [List.length_drop, List.length_take]; omega)
 have f3 := cFind16 (s.take a) [60] 0 (by rw [List.length_take]; omega) (by simp) (by simp) (by omega)
 have f4 := cFind16 (s.take a) [62] 0 (by rw [List.length_take]; omega) (by simp) (by simp) (by omega)
 have f5 := cFind16 ((s.take b).drop (a + 2)) [60] 0 (by rw [List.length_drop, List.length_take]; omega) (by simp) (by simp) (by omega)
 have f6 := cFind16 ((s.take b).drop (a + 2)) [62] 0 (by rw [List.length_drop, List.length_take]; omega) (by simp) (by simp) (by omega)
 have f7 := fun (h : numOk ((s.take c).drop (b + 2)) = true) => cValue16 ((s.take c).drop (b + 2)) (numOk_len h).2 (numOk_all h)
 have hnl : (s.take a).length ≤ 1000000000 ∧ ((s.take b).drop (a + 2)).length ≤ 1000000000 := ⟨by rw [List.length_take]; omega, by rw [List.length_drop, List.length_take]; omega⟩
 simp only [← has_byte] at hw
 refine Trip.skip ?_
 have d1 : (s.take s.length).drop (c + 1) = s.drop (c + 1) := by rw [List.take_length]
 refine Trip.dk ⟨[(0, sV s), (2, .ref 2 0), (4, iV a), (5, iV b), (6, iV c), (7, .ref 7 0)], [(2, .box [sV [], sV [], iV 0, iV 0]), (7, .box [sV (s.take a), sV ((s.take b).drop (a + 2)), iV 0, iV 0])]⟩ tblOk mixed (by repeat' (first | exact rfl | ((first | with_reducible refine bok ?_ | with_reducible refine bokR ?_ | with_reducible refine Side.mk ?_); omega) | constructor)) Weak.kp ?_
 rw [← d1] at f1 hw
 generalize zonOk ((s.take s.length).drop (c + 1)) = z1 at *
 generalize zonV ((s.take s.length).drop (c + 1)) = z2 at *
 refine Trip.rk ⟨[(0, sV s), (2, .ref 2 0), (4, iV a), (5, iV b), (6, iV c), (7, .ref 7 0), (8, iV z2), (9, bV z1)], [(2, .box [sV [], sV [], iV 0, iV 0]), (7, .box [sV (s.take a), sV ((s.take b).drop (a + 2)), iV 0, iV 0])]⟩ tblOk (by repeat' (first | exact rfl | (apply Rule.sem; intro hγ; with_reducible apply F_call0 (x := .func 157) (B := []) hγ (hspec := f1)) | ((first | with_reducible refine bokL ?_ | with_reducible refine Side.mk ?_); first | omega | exact .inl rfl) | constructor)) Weak.kp ?_
 generalize ((s.take a).contains 60) = p1 at *
 generalize hnm : s.take a = nm at *
 generalize hml : (s.take b).drop (a + 2) = ml at *
 have htm : (s.take c).drop (b + 2) = (s.take c).drop (b + 2) := rfl
 generalize hnk : numOk ((s.take c).drop (b + 2)) = nk at *
 generalize hvd : ((valD ((s.take c).drop (b + 2)) : Nat) : Int) = vd at *
 refine Trip.seq (Trip.sR tblOk (by repeat' (first | exact rfl | (apply Rule.sem; intro hγ; with_reducible apply F_call0 (x := .func 158) (B := []) hγ (hspec := f2)) | (apply Rule.sem; intro hγ; with_reducible apply F_call0 (dst := some 59) (x := .func 114) (B := []) hγ (hspec := f3)) | (apply Rule.sem; intro hγ; with_reducible apply F_call0 (dst := some 65) (x := .func 114) (B := []) hγ (hspec := f4)) | (apply Rule.sem; intro hγ; with_reducible apply F_call0 (dst := some 71) (x := .func 114) (B := []) hγ (hspec := f5)) | (apply Rule.sem; intro hγ; with_reducible apply F_call0 (dst := some 77) (x := .func 114) (B := []) hγ (hspec := f6)) | ((first | with_reducible refine bok ?_ | with_reducible refine Side.mk ?_); first | omega | exact .inl rfl | exact fun h => h | exact fun _ h => congrArg Bool.not h) | constructor)) ?_)
 apply Trip.cond (.tmp rfl)
 ·intro h
  have h := of_decide_eq_true (decide_eq_true h)
  have h : (!z1 || !nk || decide (0 ≤ findS nm [60] 0) || decide (0 ≤ findS nm [62] 0) || decide (0 ≤ findS ml [60] 0) || decide (0 ≤ findS ml [62] 0)) = true := h
  rw [if_pos h] at hw
  rw [hw]
  refine Trip.sr tblOk ?_
  refine Trip.ret (rt2 [])
 intro h
 have h : (!z1 || !nk || decide (0 ≤ findS nm [60] 0) || decide (0 ≤ findS nm [62] 0) || decide (0 ≤ findS ml [60] 0) || decide (0 ≤ findS ml [62] 0)) = false := h
 have hnkt : nk = true := by
  cases nk with
  | true => rfl
  | false => cases z1 <;> simp at h
 rw [if_neg (by rw [h]; simp)] at hw
 have f7 := f7 hnkt
 have f8 := cPerson2 nm ml vd z2 (by omega) (by omega)
 generalize hpo : perOk nm ml vd z2 = po at *
 refine Trip.skip (Trip.sR tblOk (by repeat' (first | exact rfl | (apply Rule.sem; intro hγ; with_reducible apply F_call0 (x := .func 159) (B := []) hγ (hspec := f7)) | ((first | with_reducible refine bok ?_ | with_reducible refine Side.mk ?_); first | omega | exact .inl rfl) | constructor)) ?_)
 refine Trip.sr tblOk ?_
 refine Trip.seq (Trip.sR tblOk (by repeat' (first | exact rfl | (apply Rule.sem; intro hγ; with_reducible apply F_call0 (x := .func 117) (B := []) hγ (hspec := f8)) | ((with_reducible refine Side.mk ?_); exact .inl rfl) | constructor)) ?_)
 apply Trip.cond (.tmp rfl)
 ·intro h2
  have h2 : po = false := by simpa using h2
  rw [if_pos h2] at hw
  rw [hw]
  refine Trip.sr tblOk ?_
  refine Trip.ret (rt2 [])
 intro h2
 have h2 : po = true := by simpa using h2
 rw [if_neg (by rw [h2]; simp)] at hw
 rw [hw]
 refine Trip.skip (Trip.sr tblOk ?_)
 refine Trip.ret (rt2 [])
end Go.Proofs.Tryz
