/- A part of the proof: Ho, GZon, Hi, GWho. -/
import Derived.Test.YteailifhgfijgaaGreatDoorPart28
set_option linter.unusedVariables false
set_option linter.unusedSimpArgs false
namespace Go.Proofs.Tryz
open Go Go.Sym Go.Graft
set_option maxRecDepth 20000
theorem cBadFn (x : Str) (hx : x.length ≤ 1000000000000) : Ctr prog 148 [sV x] [] (bV (!isId x)) [] [] := by
 have c := cIs x hx
 generalize isId x = b at *
 refine Ctr.enter tblOk func148 rfl (by decide) rfl (nt := 6) rfl rfl rfl rfl ?_
 refine Trip.sr tblOk ?_
 refine Trip.sR tblOk (by repeat' (first | exact rfl | (apply Rule.sem; intro hγ; with_reducible apply F_call0 (x := .func 145) (B := []) hγ (hspec := c)) | ((with_reducible refine Side.mk ?_); exact .inl rfl) | constructor)) ?_
 refine Trip.ret (rt1 [] (hc := by repeat' (exact cvB (by simp only [List.length_map]))))
theorem cComE (nl : Bool) (c : Com) (h1 : c.tree.length ≤ 1000000000) (h2 : c.pars.length ≤ 1000000000) (h3 : ∀ p ∈ c.pars, p.length ≤ 1000000000) (h4 : c.aut.name.length ≤ 1000000000 ∧ c.aut.mail.length ≤ 1000000000) (h5 : c.com.name.length ≤ 1000000000 ∧ c.com.mail.length ≤ 1000000000) (h6 : c.text.length ≤ 1000000000) : Ctr prog 101 [c.pv nl] [] (iV (comE c)) [] [] := by
 have k1 := cBadFn c.tree (by omega)
 have k2 := cContainsFuncS nl c.pars 148 [] rfl (fun p => !isId p) (by omega) (fun x hx => cBadFn x (by have := h3 x hx; omega))
 have k3 := cSomebody c.aut.name c.aut.mail c.aut.time c.aut.zone (by omega) (by omega)
 have k4 := cSomebody c.com.name c.com.mail c.com.time c.com.zone (by omega) (by omega)
 have k5 := sContains c.text [0] (by omega)
 rw [contains_hasZ] at k5
 have hb : comBad c = (!isId c.tree || c.pars.any (fun p => !isId p) || !perOk c.aut.name c.aut.mail c.aut.time c.aut.zone || !perOk c.com.name c.com.mail c.com.time c.com.zone || hasZ c.text) := rfl
 rw [comE]
 obtain ⟨tree, pars, ⟨an, am, at', az⟩, ⟨cn, cm, ct, cz⟩, text⟩ := c
 dsimp only at *
 generalize comBad ⟨tree, pars, ⟨an, am, at', az⟩, ⟨cn, cm, ct, cz⟩, text⟩ = cb at *
 generalize isId tree = b1 at *
 generalize (pars.any fun p => !isId p) = b2 at *
 generalize perOk an am at' az = b3 at *
 generalize perOk cn cm ct cz = b4 at *
 generalize hasZ text = b5 at *
 refine Ctr.enter tblOk func101 rfl (by decide) rfl (nt := 58) rfl rfl rfl rfl ?_
 refine Trip.sr tblOk ?_
 refine Trip.sr tblOk ?_
 refine Trip.seq (Trip.sR tblOk (by repeat' (first | exact rfl | (apply Rule.sem; intro hγ; with_reducible apply F_call0 (x := .tmp 7) (B := []) hγ (hspec := k1)) | exact convL_plain (by assumption) | (apply Rule.sem; intro hγ; with_reducible apply F_call0 (x := .func 81) (B := []) hγ (hspec := k2)) | (apply Rule.sem; intro hγ; with_reducible apply F_call0 (dst := some 20) (x := .func 149) (B := []) hγ (hspec := k3)) | (apply Rule.sem; intro hγ; with_reducible apply F_call0 (dst := some 26) (x := .func 149) (B := []) hγ (hspec := k4)) | (apply Rule.sem; intro hγ; with_reducible apply F_call0 (x := .func 150) (B := []) hγ (hspec := k5)) | ((with_reducible refine Side.mk ?_); first | exact .inl rfl | exact fun h => h | exact fun _ h => congrArg Bool.not h) | constructor)) ?_)
 apply Trip.cond (.tmp rfl)
 ·intro h
  have h : cb = true := by rw [hb]; exact h
  rw [if_pos h]
  refine Trip.sr tblOk ?_
  refine Trip.ret (rt1 [])
 intro h
 have h : cb = false := by rw [hb]; exact h
 rw [if_neg (by rw [h]; simp)]
 refine Trip.skip (Trip.seq (Trip.sR tblOk (by repeat' (first | exact rfl | ((with_reducible refine Side.mk ?_); first | exact fun h => h | exact fun _ h => congrArg Bool.not h) | constructor)) ?_))
 apply Trip.cond (.tmp rfl)
 ·intro h
  have h : (4096 : Int) < text.length ∨ (8 : Int) < pars.length := by simpa using h
  rw [if_pos h]
  refine Trip.sr tblOk ?_
  refine Trip.ret (rt1 [])
 intro h
 have h : ¬ ((4096 : Int) < text.length ∨ (8 : Int) < pars.length) := by simpa using h
 rw [if_neg h]
 refine Trip.skip (Trip.sR tblOk (by repeat' (first | exact rfl | (apply Rule.sem; intro hγ; with_reducible apply F_makeMap) | constructor)) ?_)
 refine Trip.seq (Trip.sr tblOk ?_)
 refine Trip.block ?_
 refine Trip.loop (fun (i : Nat) => ⟨[(4, .mref 44), (46, .sl nl 1 (pars.map fun x => sV x)), (47, iV pars.length), (48, iV i)], [(44, .map ((seenN pars i).1.map strK) ((seenN pars i).2.map fun b => bV b))]⟩) (fun (i : Nat) => i ≤ pars.length ∧ ∀ j, j < i → dupE pars j = 0) (fun (i : Nat) => pars.length - i) (0) (by exact ⟨Nat.zero_le _, fun j hj => absurd hj (by omega)⟩) (Weak.kp (ht := by repeat' (first | exact rfl | (refine vI ?_; first | omega | (simp; done) | (simp; omega) | (simp only [List.length_map] at *; omega)) | constructor))) ?_
 intro i hi
 obtain ⟨hi, hj⟩ := hi
 refine Trip.sr tblOk ?_
 refine Trip.seq ?_
 apply Trip.cond (.tmp rfl)
 ·intro h
  have h : i < pars.length := by simp at h; omega
  have hlen := seenN_len pars i
  have hval := seenN_val pars pars[i]! i (by omega)
  have hd : dupE pars i = if mval (seenN pars i).1 (seenN pars i).2 false pars[i]! = true then 6 else 0 := by rw [hval]; rfl
  have hst := fun (h0 : dupE pars i ≠ 0) => firstE_stop (n := pars.length) h hj h0
  have hstep : seenN pars (i + 1) = (mkeys (seenN pars i).1 pars[i]!, mset (seenN pars i).1 (seenN pars i).2 pars[i]! true) := rfl
  generalize hq2 : seenN pars (i + 1) = q2 at *
  generalize seenN pars i = q at *
  obtain ⟨ks, bs⟩ := q
  subst hstep
  dsimp only at *
  generalize hmv : mval ks bs false pars[i]! = mv at *
  refine Trip.skip (Trip.seq (Trip.block (Trip.sR tblOk (by repeat' (first | exact rfl | exact idx_map _ _ _ (by show _ < _; first | omega | (simp only [List.length_map] at *; omega)) | ((with_reducible refine Side.mk ?_); (simp only [ln]; first | done | omega)) | constructor)) ?_)))
  refine Trip.seq (Trip.sR tblOk (by repeat' (first | exact rfl | (apply Rule.sem; intro hγ; with_reducible apply F_lookup (K := strK) (f := bV) (z := false) (zv := .bool false) tblOk hγ (hz := zBool) (hzf := fun _ _ _ => .v _ _)) | exact KeyLaw.str tblOk rfl rfl | ((with_reducible refine Side.mk ?_); omega) | constructor)) ?_)
  apply Trip.cond (.tmp rfl)
  ·intro h7
   have h7 : mv = true := by rw [← hmv]; exact h7
   have hd : dupE pars i = 6 := by rw [hd, if_pos h7]
   rw [hst (by omega), hd]
   refine Trip.sr tblOk ?_
   refine Trip.ret (rt1 [])
  intro h7
  have h7 : mv = false := by rw [← hmv]; exact h7
  have hd : dupE pars i = 0 := by rw [hd, h7]; rfl
  refine Trip.skip (Trip.R tblOk (by repeat' (first | exact rfl | (apply Rule.sem; intro hγ; with_reducible apply F_mapUpdate (K := strK) (f := bV) tblOk hγ) | exact KeyLaw.str tblOk rfl rfl | ((with_reducible refine Side.mk ?_); omega) | constructor)) ?_)
  refine Trip.R tblOk (by repeat' (first | exact rfl | ((with_reducible refine Side.mk ?_); omega) | constructor)) ?_
  exact ⟨i + 1, by exact ⟨by omega, fun j h3 => (Nat.lt_succ_iff_lt_or_eq.1 h3).elim (hj j) (fun e => e ▸ hd)⟩, by first | omega | (dsimp only at *; omega), Weak.kp (ho := by repeat' (first | exact rfl | (rw [hq2]; rfl) | constructor)) (huo := by repeat' (first | exact plainL_map _ (fun _ => rfl) _ | constructor))⟩
 intro h
 have h : i = pars.length := by simp at h; omega
 subst h
 rw [firstE_zero hj]
 refine Trip.exit (Trip.sr tblOk ?_)
 refine Trip.ret (rt1 [])
theorem cTagged (s : Str) (hs : s.length ≤ 1000000000000) : Ctr prog 152 [sV s] [] (bV (tagged s)) [] [] := by
 refine Ctr.enter tblOk func152 rfl (by decide) rfl (nt := 22) rfl rfl rfl rfl ?_
 refine Trip.sr tblOk ?_
 refine Trip.seq (Trip.sr tblOk ?_)
 refine Trip.block ?_
 refine Trip.loop (fun (i : Nat) => ⟨[(0, sV s), (5, iV s.length), (6, iV i)], []⟩) (fun (i : Nat) => i ≤ s.length ∧ ∀ j, j < i → decide (((s.getD j 0).toNat : Int) ≤ 32) = false) (fun (i : Nat) => s.length - i) (0) (by exact ⟨Nat.zero_le _, fun j hj => absurd hj (by omega)⟩) Weak.kp ?_
 intro i hi
 obtain ⟨hi, hj⟩ := hi
 refine Trip.sr tblOk ?_
 refine Trip.seq ?_
 apply Trip.cond (.tmp rfl)
 ·intro h
  have h : i < s.length := by simp at h; omega
  refine Trip.skip (Trip.seq (Trip.block (Trip.sr tblOk ?_)))
  refine Trip.sR tblOk (by repeat' (first | exact rfl | ((with_reducible refine Side.mk ?_); omega) | constructor)) ?_
  apply Trip.cond (.tmp rfl)
  ·intro h2
   have h2 : decide (((s.getD i 0).toNat : Int) ≤ 32) = true := h2
   rw [tagged_no h h2]
   refine Trip.sr tblOk ?_
   refine Trip.ret (rt1 [] (hc := by repeat' (exact cvB (by simp only [List.length_map]))))
  intro h2
  have h2 : decide (((s.getD i 0).toNat : Int) ≤ 32) = false := h2
  refine Trip.skip (Trip.R tblOk (by repeat' (first | exact rfl | ((with_reducible refine Side.mk ?_); omega) | constructor)) ?_)
  exact ⟨i + 1, by exact ⟨by omega, fun j h3 => (Nat.lt_succ_iff_lt_or_eq.1 h3).elim (hj j) (fun e => e ▸ h2)⟩, by first | omega | (dsimp only at *; omega), Weak.kp⟩
 intro h
 have h : i = s.length := by simp at h; omega
 subst h
 rw [tagged_yes hj]
 refine Trip.exit (Trip.sR tblOk (by repeat' (first | exact rfl | ((with_reducible refine Side.mk ?_); first | exact fun h => h | exact fun _ h => h) | constructor)) ?_)
 refine Trip.ret (rt1 [] (hc := by repeat' (exact cvB (by simp only [List.length_map]))))
theorem cTgE (t : Tg) (h1 : t.obj.length ≤ 1000000000) (h3 : t.name.length ≤ 1000000000) (h4 : t.by'.name.length ≤ 1000000000 ∧ t.by'.mail.length ≤ 1000000000) (h6 : t.text.length ≤ 1000000000) : Ctr prog 103 [t.pv] [] (iV (tgE t)) [] [] := by
 have k1 := cIs t.obj (by omega)
 have k2 := cWord t.kind
 have k3 := cTagged t.name (by omega)
 have k4 := cSomebody t.by'.name t.by'.mail t.by'.time t.by'.zone (by omega) (by omega)
 have k5 := sContains t.text [0] (by omega)
 rw [contains_hasZ] at k5
 have hb : tgBad t = (!isId t.obj || decide (wordK t.kind = []) || !tagged t.name || !perOk t.by'.name t.by'.mail t.by'.time t.by'.zone || hasZ t.text) := rfl
 rw [tgE]
 obtain ⟨ob, kind, name, ⟨an, am, at', az⟩, text⟩ := t
 dsimp only at *
 generalize tgBad ⟨ob, kind, name, ⟨an, am, at', az⟩, text⟩ = cb at *
 generalize isId ob = b1 at *
 generalize wordK kind = w at *
 generalize tagged name = b2 at *
 generalize perOk an am at' az = b3 at *
 generalize hasZ text = b5 at *
 refine Ctr.enter tblOk func103 rfl (by decide) rfl (nt := 34) rfl rfl rfl rfl ?_
 refine Trip.sr tblOk ?_
 refine Trip.seq (Trip.sR tblOk (by repeat' (first | exact rfl | (apply Rule.sem; intro hγ; with_reducible apply F_call0 (x := .func 145) (B := []) hγ (hspec := k1)) | (apply Rule.sem; intro hγ; with_reducible apply F_call0 (x := .func 138) (B := []) hγ (hspec := k2)) | (apply Rule.sem; intro hγ; with_reducible apply F_call0 (x := .func 152) (B := []) hγ (hspec := k3)) | (apply Rule.sem; intro hγ; with_reducible apply F_call0 (x := .func 149) (B := []) hγ (hspec := k4)) | (apply Rule.sem; intro hγ; with_reducible apply F_call0 (x := .func 150) (B := []) hγ (hspec := k5)) | ((with_reducible refine Side.mk ?_); first | exact .inl rfl | exact fun h => h | exact fun _ h => congrArg Bool.not h) | constructor)) ?_)
 apply Trip.cond (.tmp rfl)
 ·intro h
  have h : cb = true := by rw [hb]; exact h
  rw [if_pos h]
  refine Trip.sr tblOk ?_
  refine Trip.ret (rt1 [])
 intro h
 have h : cb = false := by rw [hb]; exact h
 rw [if_neg (by rw [h]; simp)]
 refine Trip.skip (Trip.seq (Trip.sr tblOk ?_))
 apply Trip.cond (.tmp rfl)
 ·intro h
  have h : (4096 : Int) < text.length := by simpa using h
  rw [if_pos h]
  refine Trip.sr tblOk ?_
  refine Trip.ret (rt1 [])
 intro h
 have h : ¬ (4096 : Int) < text.length := by simpa using h
 rw [if_neg h]
 refine Trip.skip (Trip.sr tblOk ?_)
 refine Trip.ret (rt1 [])
end Go.Proofs.Tryz
namespace Go.Graft
open Go.Sym
theorem zonBad_len {s : Str} (h : zonBad s = false) : s.length = 5 := by
 simp only [zonBad, Bool.or_eq_false_iff, decide_eq_false_iff_not] at h
 omega
theorem zonOk_bad {s : Str} (h : zonBad s = true) : zonOk s = false := by rw [zonOk, h]; rfl
theorem getD_drop1 (s : Str) (j : Nat) : (s.drop 1).getD j 0 = s.getD (j + 1) 0 := by rw [getD_drop, Nat.add_comm]
theorem zonOk_dig {s : Str} {i : Nat} (hl : s.length = 5) (h1 : 1 ≤ i) (h : i < 5) (hp : badD (s.getD i 0) = true) : zonOk s = false := by
 rw [zonOk, all_false (p := fun c => !badD c) (s := s.drop 1) (i := i - 1) (by rw [List.length_drop]; omega) (by rw [getD_drop1, show i - 1 + 1 = i by omega, hp]; rfl), Bool.and_false, Bool.false_and]
theorem zonOk_end {s : Str} (hb : zonBad s = false) (h : ∀ i, 1 ≤ i → i < 5 → badD (s.getD i 0) = false) : zonOk s = decide (zonM s < 60) := by
 have hl := zonBad_len hb
 rw [zonOk, hb, all_true (p := fun c => !badD c) fun i hi => by
  rw [List.length_drop] at hi
  rw [getD_drop1, h (i + 1) (by omega) (by omega)]; rfl]
 rfl
theorem zon_digs {s : Str} (hl : s.length = 5) (h : ∀ i, 1 ≤ i → i < 5 → badD (s.getD i 0) = false) : (∀ c ∈ s.drop 3, badD c = false) ∧ ∀ c ∈ (s.drop 1).take 2, badD c = false := by
 have key : ∀ c ∈ s.drop 1, badD c = false := by
  intro c hc
  obtain ⟨i, hi, rfl⟩ := List.getElem_of_mem hc
  rw [List.length_drop] at hi
  have := h (i + 1) (by omega) (by omega)
  rw [List.getElem_drop]
  rw [List.getD_eq_getElem?_getD, List.getElem?_eq_getElem (by omega)] at this
  simpa [Nat.add_comm] using this
 refine ⟨fun c hc => key c ?_, fun c hc => key c (List.mem_of_mem_take hc)⟩
 have : s.drop 3 = (s.drop 1).drop 2 := by rw [List.drop_drop]
 rw [this] at hc
 exact List.mem_of_mem_drop hc
theorem zon_vals {s : Str} (hl : s.length = 5) (h : ∀ i, 1 ≤ i → i < 5 → badD (s.getD i 0) = false) : 0 ≤ zonM s ∧ zonM s < 100 ∧ 0 ≤ zonH s ∧ zonH s < 100 := by
 obtain ⟨h1, h2⟩ := zon_digs hl h
 have h3 := valD_lt h1 2 (by rw [List.length_drop]; omega)
 have h4 := valD_lt h2 2 (by rw [List.length_take]; omega)
 rw [zonM, zonH]
 omega
theorem valD_le {s : Str} (hl : s.length ≤ 18) (h : ∀ c ∈ s, badD c = false) (i : Nat) (hi : i < s.length) : valD (s.take i) < 100000000000000000 := by
 have := valD_lt (s := s.take i) (fun c hc => h c (List.mem_of_mem_take hc)) 17 (by rw [List.length_take]; omega)
 omega
end Go.Graft
namespace Go.Proofs.Tryz
open Go Go.Sym Go.Graft
set_option maxRecDepth 20000
theorem cDigits (s : Str) (hs : s.length ≤ 1000000000000) : Ctr prog 179 [sV s, iV 18] [] (.tup [iV (if numOk s = true then ((valD s : Nat) : Int) else 0), bV (numOk s)]) [] [] := by
 have hnb : numBad s = (decide ((s.length : Int) < 1) || decide (18 < (s.length : Int)) || (decide (1 < (s.length : Int)) && decide (((s.getD 0 0).toNat : Int) = 48))) := rfl
 refine Ctr.enter tblOk func179 rfl (by decide) rfl (nt := 52) rfl rfl rfl rfl ?_
 refine Trip.sr tblOk ?_
 refine Trip.seq (Trip.sR tblOk (by repeat' (first | exact rfl | (apply Rule.under tblOk; intro hγ; with_reducible apply Rule.index) | ((with_reducible refine Side.mk ?_); first | exact fun h => h | exact fun _ h => congrArg Bool.not h | (intro h1 h2; rw [h1, h2]; rfl) | exact fun _ => hγ | (have h2 := hγ; simp only [gpick, cond_true, cond_false, decide_eq_true_eq, Bool.and_eq_true, Bool.or_eq_true, Bool.not_eq_true', Bool.not_eq_false', Bool.or_eq_false_iff, decide_eq_false_iff_not, List.length_map] at h2; (try simp only [List.length_map]); omega)) | constructor)) ?_)
 apply Trip.cond (.tmp rfl)
 ·intro h
  have h : numBad s = true := h
  rw [numOk_bad h]
  refine Trip.sr tblOk ?_
  refine Trip.ret (rt2 [] (hd := by repeat' (exact cvB (by simp only [List.length_map]))))
 intro h
 have hb : numBad s = false := h
 refine Trip.skip (Trip.seq (Trip.sr tblOk ?_))
 refine Trip.block ?_
 refine Trip.loop (fun (i : Nat) => ⟨[(0, sV s), (29, iV s.length), (30, iV i)], []⟩) (fun (i : Nat) => i ≤ s.length ∧ ∀ j, j < i → badD (s.getD j 0) = false) (fun (i : Nat) => s.length - i) (0) (by exact ⟨Nat.zero_le _, fun j hj => absurd hj (by omega)⟩) Weak.kp ?_
 intro i hi
 obtain ⟨hi, hj⟩ := hi
 refine Trip.sr tblOk ?_
 refine Trip.seq ?_
 apply Trip.cond (.tmp rfl)
 ·intro h
  have h : i < s.length := by simp at h; omega
  refine Trip.skip (Trip.seq (Trip.block (Trip.sr tblOk ?_)))
  refine Trip.sR tblOk (by repeat' (first | exact rfl | (apply Rule.under tblOk; intro hγ; with_reducible apply Rule.index) | ((with_reducible refine Side.mk ?_); first | omega | exact fun h => h | exact fun _ h => congrArg Bool.not h | exact fun _ => hγ) | constructor)) ?_
  apply Trip.cond (.tmp rfl)
  ·intro h2
   have h2 : badD (s.getD i 0) = true := h2
   rw [numOk_false h h2]
   refine Trip.sr tblOk ?_
   refine Trip.ret (rt2 [] (hd := by repeat' (exact cvB (by simp only [List.length_map]))))
  intro h2
  have h2 : badD (s.getD i 0) = false := h2
  refine Trip.skip (Trip.R tblOk (by repeat' (first | exact rfl | ((with_reducible refine Side.mk ?_); omega) | constructor)) ?_)
  exact ⟨i + 1, by exact ⟨by omega, fun j h3 => (Nat.lt_succ_iff_lt_or_eq.1 h3).elim (hj j) (fun e => e ▸ h2)⟩, by first | omega | (dsimp only at *; omega), Weak.kp⟩
 intro h
 have h : i = s.length := by simp at h; omega
 subst h
 have hok := numOk_true hb hj
 have hl := numOk_len hok
 have hne : s ≠ [] := fun e => by rw [e] at hl; simp at hl
 have c1 := sAtoi s _ hl.2 (atoi_val hne (numOk_all hok))
 refine Trip.exit ?_
 rw [hok, if_pos rfl]
 refine Trip.sR tblOk (by repeat' (first | exact rfl | (apply Rule.sem; intro hγ; with_reducible apply F_call0 (x := .func 196) (B := []) hγ (hspec := c1)) | ((with_reducible refine Side.mk ?_); exact .inl rfl) | constructor)) ?_
 refine Trip.sD tblOk mixed (by repeat' (first | exact rfl | (apply Rule.sem; intro hγ; with_reducible apply F_eqNil tblOk hγ) | constructor)) ?_
 refine Trip.ret (rt2 [] (hd := by repeat' (exact cvB (by simp only [List.length_map]))))
theorem cZone (s : Str) (hs : s.length ≤ 1000000000000) : Ctr prog 180 [sV s] [] (.tup [iV (zonV s), bV (zonOk s)]) [] [] := by
 have hnb : zonBad s = (decide (¬ (s.length : Int) = 5) || (decide (¬ ((s.getD 0 0).toNat : Int) = 43) && decide (¬ ((s.getD 0 0).toNat : Int) = 45)) || decide (s = [45, 48, 48, 48, 48])) := rfl
 have hno : zonOk s = false → zonV s = 0 := fun h => by rw [zonV, if_pos h]
 refine Ctr.enter tblOk func180 rfl (by decide) rfl (nt := 65) rfl rfl rfl rfl ?_
 refine Trip.sr tblOk ?_
 refine Trip.seq (Trip.sR tblOk (by repeat' (first | exact rfl | (apply Rule.under tblOk; intro hγ; with_reducible apply Rule.index) | ((with_reducible refine Side.mk ?_); first | exact fun h => h | exact fun _ h => congrArg Bool.not h | (intro h1 h2; rw [h1, h2]; rfl) | exact fun _ => hγ | (have h2 := hγ; simp only [gpick, cond_true, cond_false, decide_eq_true_eq, Bool.and_eq_true, Bool.or_eq_true, Bool.not_eq_true', Bool.not_eq_false', Bool.or_eq_false_iff, decide_eq_false_iff_not, List.length_map] at h2; (try simp only [List.length_map]); omega)) | constructor)) ?_)
 apply Trip.cond (.tmp rfl)
 ·intro h
  have h : zonBad s = true := by rw [hnb]; simpa using h
  rw [hno (zonOk_bad h), zonOk_bad h]
  refine Trip.sr tblOk ?_
  refine Trip.ret (rt2 [] (hd := by repeat' (exact cvB (by simp only [List.length_map]))))
 intro h
 have hb : zonBad s = false := by rw [hnb]; simpa using h
 have hl := zonBad_len hb
 refine Trip.skip (Trip.seq (Trip.sr tblOk ?_))
 refine Trip.block ?_
 refine Trip.loop (fun (i : Nat) => ⟨[(0, sV s), (4, iV i)], []⟩) (fun (i : Nat) => 1 ≤ i ∧ i ≤ 5 ∧ ∀ j, 1 ≤ j → j < i → badD (s.getD j 0) = false) (fun (i : Nat) => 5 - i) (1) (by exact ⟨Nat.le_refl _, by omega, fun j h1 h2 => absurd h1 (by omega)⟩) Weak.kp ?_
 intro i hi
 obtain ⟨hi1, hi, hj⟩ := hi
 refine Trip.seq (Trip.sr tblOk ?_)
 apply Trip.cond (.tmp rfl)
 ·intro h
  have h : i < 5 := by simp at h; omega
  refine Trip.skip (Trip.seq (Trip.block (Trip.sR tblOk (by repeat' (first | exact rfl | (apply Rule.under tblOk; intro hγ; with_reducible apply Rule.index) | ((with_reducible refine Side.mk ?_); first | omega | exact fun h => h | exact fun _ h => congrArg Bool.not h | exact fun _ => hγ) | constructor)) ?_)))
  apply Trip.cond (.tmp rfl)
  ·intro h2
   have h2 : badD (s.getD i 0) = true := h2
   rw [hno (zonOk_dig hl hi1 h h2), zonOk_dig hl hi1 h h2]
   refine Trip.sr tblOk ?_
   refine Trip.ret (rt2 [] (hd := by repeat' (exact cvB (by simp only [List.length_map]))))
  intro h2
  have h2 : badD (s.getD i 0) = false := h2
  refine Trip.skip (Trip.R tblOk (by repeat' (first | exact rfl | ((with_reducible refine Side.mk ?_); omega) | constructor)) ?_)
  exact ⟨i + 1, by exact ⟨by omega, by omega, fun j h1 h3 => (Nat.lt_succ_iff_lt_or_eq.1 h3).elim (hj j h1) (fun e => e ▸ h2)⟩, by first | omega | (dsimp only at *; omega), Weak.kp⟩
 intro h
 have h : i = 5 := by simp at h; omega
 subst h
 have hok := zonOk_end hb hj
 have hv := zon_vals hl hj
 obtain ⟨hd1, hd2⟩ := zon_digs hl hj
 have e3 : (s.take s.length).drop 3 = s.drop 3 := by rw [List.take_length]
 have e1 : (s.take 3).drop 1 = (s.drop 1).take 2 := by rw [List.drop_take]
 have c1 := sAtoi ((s.take 3).drop 1) (zonH s) (by rw [e1, List.length_take]; omega) (by rw [e1]; exact atoi_val (fun e => by have := congrArg List.length e; rw [List.length_take, List.length_drop] at this; simp at this; omega) hd2)
 have c2 := sAtoi ((s.take s.length).drop 3) (zonM s) (by rw [e3, List.length_drop]; omega) (by rw [e3]; exact atoi_val (fun e => by have := congrArg List.length e; rw [List.length_drop] at this; simp at this; omega) hd1)
 rw [zonV, hok]
 generalize zonM s = m at *
 generalize zonH s = hh at *
 refine Trip.exit (Trip.sR tblOk (by repeat' (first | exact rfl | (apply Rule.sem; intro hγ; with_reducible apply F_call0 (x := .func 196) (B := []) hγ (hspec := c1)) | ((first | with_reducible refine bok ?_ | with_reducible refine Side.mk ?_); first | omega | exact .inl rfl) | constructor)) ?_)
 refine Trip.sR tblOk (by repeat' (first | exact rfl | (apply Rule.sem; intro hγ; with_reducible apply F_call0 (x := .func 196) (B := []) hγ (hspec := c2)) | ((first | with_reducible refine bokL ?_ | with_reducible refine Side.mk ?_); first | omega | exact .inl rfl) | constructor)) ?_
 refine Trip.seq (Trip.sr tblOk ?_)
 apply Trip.cond (.tmp rfl)
 ·intro h
  have h : ¬ m < 60 := by simp at h; omega
  rw [decide_eq_false h, if_pos rfl]
  refine Trip.sr tblOk ?_
  refine Trip.ret (rt2 [] (hd := by repeat' (exact cvB (by simp only [List.length_map]))))
 intro h
 have h : m < 60 := by simp at h; omega
 rw [decide_eq_true h, if_neg (by simp)]
 refine Trip.skip (Trip.seq (Trip.sR tblOk (by repeat' (first | exact rfl | ((with_reducible refine Side.mk ?_); omega) | constructor)) ?_))
 apply Trip.cond (.tmp rfl)
 ·intro h2
  have h2 : ((s.getD 0 0).toNat : Int) = 45 := by simpa using h2
  rw [if_pos h2]
  refine Trip.sR tblOk (by repeat' (first | exact rfl | ((with_reducible refine Side.mk ?_); omega) | constructor)) ?_
  refine Trip.ret (rt2 [] (hd := by repeat' (exact cvB (by simp only [List.length_map]))))
 intro h2
 have h2 : ¬ ((s.getD 0 0).toNat : Int) = 45 := by simpa using h2
 rw [if_neg h2]
 refine Trip.skip (Trip.sR tblOk (by repeat' (first | exact rfl | ((with_reducible refine Side.mk ?_); omega) | constructor)) ?_)
 refine Trip.ret (rt2 [] (hd := by repeat' (exact cvB (by simp only [List.length_map]))))
end Go.Proofs.Tryz
namespace Go.Graft
open Go.Sym
theorem indexAny_none : ∀ {s chars : Str}, (∀ c ∈ s, chars.contains c = false) → Lib.indexAny s chars = -1
 | [], _, _ => rfl
 | b :: l, chars, h => by
  have h0 := h b (by simp)
  rw [Lib.indexAny, h0, indexAny_none fun c hc => h c (by simp [hc])]
  rfl
theorem angled_any (s : Str) : Lib.containsAny s [60, 62] = angled s := by
 induction s with
 | nil => rfl
 | cons b r ih =>
  have hge := Lib.indexAny_ge [60, 62] r
  simp only [Lib.containsAny, angled, List.any_cons] at ih ⊢
  rw [← ih, Lib.indexAny]
  by_cases h1 : b = 60
  ·subst h1; simp
  ·by_cases h2 : b = 62
   ·subst h2; simp
   ·have : ([60, 62] : Str).contains b = false := by simp [h1, h2]
    rw [this, decide_eq_false h1, decide_eq_false h2]
    simp only [Bool.false_eq_true, if_false, Bool.or_self, Bool.false_or]
    refine decide_eq_decide.2 ?_
    split
    ·rename_i h; have := beq_iff_eq.1 h; omega
    ·rename_i h; have : Lib.indexAny r [60, 62] ≠ -1 := by simpa using h
     omega
theorem angled_append (a b : Str) : angled (a ++ b) = (angled a || angled b) := by rw [angled, List.any_append]; rfl
theorem has_byte (s : Str) (c : UInt8) : decide (0 ≤ findS s [c] 0) = s.contains c := by
 rw [findS, List.drop_zero, index_one]
 have key : (0 ≤ Lib.indexByte s c) ↔ c ∈ s := by
  induction s with
  | nil => simp [Lib.indexByte]
  | cons b r ih =>
   have hge := Lib.indexByte_ge r c
   rw [Lib.indexByte]
   by_cases h : b = c
   ·subst h; simp
   ·have e : (b == c) = false := by simpa using h
    rw [e]
    simp only [Bool.false_eq_true, if_false, List.mem_cons]
    have hc : ¬ c = b := fun h' => h h'.symm
    split
    ·rename_i h2; have := beq_iff_eq.1 h2
     constructor
     ·intro h; omega
     ·intro h; have := ih.2 (h.resolve_left hc); omega
    ·rename_i h2
     have h2 : Lib.indexByte r c ≠ -1 := by simpa using h2
     constructor
     ·intro h; exact .inr (ih.1 (by omega))
     ·intro h; have := ih.2 (h.resolve_left hc); omega
 have e2 : (0 ≤ if Lib.indexByte s c < 0 then (-1 : Int) else ((0 : Nat) : Int) + Lib.indexByte s c) ↔ c ∈ s := by
  rw [← key]
  split <;> omega
 rw [Bool.eq_iff_iff, decide_eq_true_eq, List.contains_iff_mem]
 exact e2
theorem angled_has (s : Str) : angled s = (s.contains 60 || s.contains 62) := by
 rw [Bool.eq_iff_iff, angled, List.any_eq_true, Bool.or_eq_true, List.contains_iff_mem, List.contains_iff_mem]
 constructor
 ·rintro ⟨x, hx, h⟩
  simp only [Bool.or_eq_true, decide_eq_true_eq] at h
  rcases h with rfl | rfl
  ·exact .inl hx
  ·exact .inr hx
 ·rintro (h | h)
  ·exact ⟨60, h, by simp⟩
  ·exact ⟨62, h, by simp⟩
theorem cut_some {s t : Str} {k : Nat} (h : Lib.index s t = (k : Int)) : Lib.cut s t = (s.take k, s.drop (k + t.length), true) := by
 rw [Lib.cut, if_pos (by omega), h]; rfl
theorem cut_none {s t : Str} (h : Lib.index s t = -1) : Lib.cut s t = (s, [], false) := by rw [Lib.cut, if_neg (by omega)]
theorem index_skip (r : Str) : Lib.index (32 :: 60 :: r) [62, 32] = if Lib.index r [62, 32] = -1 then -1 else Lib.index r [62, 32] + 2 := by
 have hge := Lib.index_ge r [62, 32]
 have h2 : Lib.index (60 :: r) [62, 32] = if Lib.index r [62, 32] = -1 then -1 else Lib.index r [62, 32] + 1 := by
  rw [Lib.index]
  have : ([62, 32] : Str).isPrefixOf (60 :: r) = false := by simp [List.isPrefixOf]
  rw [this]
  simp only [beq_iff_eq, Bool.false_eq_true, if_false]
 rw [Lib.index]
 have : ([62, 32] : Str).isPrefixOf (32 :: 60 :: r) = false := by simp [List.isPrefixOf]
 rw [this, h2]
 simp only [beq_iff_eq, Bool.false_eq_true, if_false]
 split
 ·rename_i h; rw [if_pos rfl]
 ·rename_i h; rw [if_neg (by omega)]; omega
theorem occ_drop {s t : Str} {k : Nat} (h : Lib.index s t = (k : Int)) : (s.drop k).take t.length = t ∧ k + t.length ≤ s.length := by
 have hr := Lib.index_room s t (by omega)
 rcases Lib.index_spec s t with ⟨h1, _⟩ | ⟨i, h1, _, h3, _⟩
 ·omega
 ·have : i = k := by omega
  subst this
  rw [Lib.occAt_iff_take _ _ _ (by omega)] at h3
  exact ⟨by simpa using h3, by omega⟩
structure Offs (s : Str) (a b c : Nat) : Prop where
 ab : a + 2 ≤ b
 bc : b + 2 ≤ c
 cl : c + 1 ≤ s.length
 n1 : (Lib.cut s [32, 60]).1 = s.take a
 n2 : (Lib.cut (Lib.cut s [32, 60]).2.1 [62, 32]).1 = (s.take b).drop (a + 2)
 n3 : (Lib.cut (Lib.cut (Lib.cut s [32, 60]).2.1 [62, 32]).2.1 [32]).1 = (s.take c).drop (b + 2)
 n4 : (Lib.cut (Lib.cut (Lib.cut s [32, 60]).2.1 [62, 32]).2.1 [32]).2.1 = s.drop (c + 1)
 t1 : (Lib.cut s [32, 60]).2.2 = true
 t2 : (Lib.cut (Lib.cut s [32, 60]).2.1 [62, 32]).2.2 = true
 t3 : (Lib.cut (Lib.cut (Lib.cut s [32, 60]).2.1 [62, 32]).2.1 [32]).2.2 = true
theorem who_none {s : Str} (h : ((Lib.cut s [32, 60]).2.2 && (Lib.cut (Lib.cut s [32, 60]).2.1 [62, 32]).2.2 && (Lib.cut (Lib.cut (Lib.cut s [32, 60]).2.1 [62, 32]).2.1 [32]).2.2) = false) : whoOf s = (2, zeroPer) := by
 rw [whoOf, if_pos]
 rw [h]; rfl
theorem find_a {s : Str} (h : findS s [32, 60] 0 < 0) : whoOf s = (2, zeroPer) := by
 rcases findS_cases s [32, 60] 0 with ⟨_, h2⟩ | ⟨i, h2, _⟩
 ·rw [List.drop_zero] at h2
  exact who_none (by rw [cut_none h2]; rfl)
 ·omega
theorem find_a_some {s : Str} (h : ¬ findS s [32, 60] 0 < 0) : ∃ a : Nat, findS s [32, 60] 0 = (a : Int) ∧ a + 2 ≤ s.length ∧ Lib.cut s [32, 60] = (s.take a, s.drop (a + 2), true) ∧ s.drop a = 32 :: 60 :: s.drop (a + 2) := by
 rcases findS_cases s [32, 60] 0 with ⟨h1, _⟩ | ⟨i, h2, _, h4, h5⟩
 ·omega
 ·rw [List.drop_zero] at h4
  have h4 : Lib.index s [32, 60] = (i : Int) := h4
  obtain ⟨g1, g2⟩ := occ_drop h4
  have g2 : i + 2 ≤ s.length := g2
  refine ⟨i, h2, g2, cut_some h4, ?_⟩
  have : s.drop i = (s.drop i).take 2 ++ (s.drop i).drop 2 := (List.take_append_drop 2 _).symm
  rw [this, List.drop_drop]
  have g1 : (s.drop i).take 2 = [32, 60] := g1
  rw [g1]; rfl
theorem find_b {s : Str} {a : Nat} (hc : Lib.cut s [32, 60] = (s.take a, s.drop (a + 2), true)) (hd : s.drop a = 32 :: 60 :: s.drop (a + 2)) (h : findS s [62, 32] a < 0) : whoOf s = (2, zeroPer) := by
 refine who_none ?_
 have h1 : Lib.index (s.drop (a + 2)) [62, 32] = -1 := by
  have hge := Lib.index_ge (s.drop (a + 2)) [62, 32]
  rw [findS, hd, index_skip] at h
  split at h
  ·rename_i h2; exact h2
  ·rename_i h2; rw [if_neg (by omega)] at h; omega
 rw [hc]
 simp only []
 rw [cut_none h1]; rfl
theorem find_b_some {s : Str} {a : Nat} (ha : a + 2 ≤ s.length) (hc : Lib.cut s [32, 60] = (s.take a, s.drop (a + 2), true)) (hd : s.drop a = 32 :: 60 :: s.drop (a + 2)) (h : ¬ findS s [62, 32] a < 0) : ∃ b : Nat, findS s [62, 32] a = (b : Int) ∧ a + 2 ≤ b ∧ b + 2 ≤ s.length ∧ Lib.cut (s.drop (a + 2)) [62, 32] = ((s.take b).drop (a + 2), s.drop (b + 2), true) := by
 have hge := Lib.index_ge (s.drop (a + 2)) [62, 32]
 have hix : Lib.index (s.drop (a + 2)) [62, 32] ≠ -1 ∧ findS s [62, 32] a = a + 2 + Lib.index (s.drop (a + 2)) [62, 32] := by
  rw [findS, hd, index_skip] at h ⊢
  by_cases h2 : Lib.index (s.drop (a + 2)) [62, 32] = -1
  ·rw [if_pos h2] at h; simp at h
  ·rw [if_neg h2, if_neg (by omega)]
   exact ⟨h2, by omega⟩
 obtain ⟨k, hk⟩ : ∃ k : Nat, Lib.index (s.drop (a + 2)) [62, 32] = (k : Int) := ⟨(Lib.index (s.drop (a + 2)) [62, 32]).toNat, by omega⟩
 obtain ⟨_, g2⟩ := occ_drop hk
 have g2 : k + 2 ≤ (s.drop (a + 2)).length := g2
 rw [List.length_drop] at g2
 refine ⟨a + 2 + k, by rw [hix.2, hk]; omega, by omega, by omega, ?_⟩
 rw [cut_some hk]
 refine Prod.ext ?_ (Prod.ext ?_ rfl)
 ·show (s.drop (a + 2)).take k = (s.take (a + 2 + k)).drop (a + 2)
  rw [List.drop_take, Nat.add_sub_cancel_left]
 ·show (s.drop (a + 2)).drop (k + 2) = s.drop (a + 2 + k + 2)
  rw [List.drop_drop, show a + 2 + (k + 2) = a + 2 + k + 2 by omega]
theorem find_c {s : Str} {a b : Nat} (hc : Lib.cut s [32, 60] = (s.take a, s.drop (a + 2), true)) (hc2 : Lib.cut (s.drop (a + 2)) [62, 32] = ((s.take b).drop (a + 2), s.drop (b + 2), true)) (h : findS s [32] (b + 2) < 0) : whoOf s = (2, zeroPer) := by
 refine who_none ?_
 rcases findS_cases s [32] (b + 2) with ⟨_, h2⟩ | ⟨i, h2, _⟩
 ·rw [hc]
  simp only []
  rw [hc2]
  simp only []
  rw [cut_none h2]; rfl
 ·omega
theorem find_c_some {s : Str} {a b : Nat} (hab : a + 2 ≤ b) (hb : b + 2 ≤ s.length) (hc : Lib.cut s [32, 60] = (s.take a, s.drop (a + 2), true)) (hc2 : Lib.cut (s.drop (a + 2)) [62, 32] = ((s.take b).drop (a + 2), s.drop (b + 2), true)) (h : ¬ findS s [32] (b + 2) < 0) : ∃ c : Nat, findS s [32] (b + 2) = (c : Int) ∧ Offs s a b c := by
 rcases findS_cases s [32] (b + 2) with ⟨h1, _⟩ | ⟨c, h2, h3, h4, h5⟩
 ·omega
 ·have h5 := h5 hb
  have hc3 := cut_some h4
  have e1 : (s.drop (b + 2)).take (c - (b + 2)) = (s.take c).drop (b + 2) := by rw [List.drop_take]
  have e2 : (s.drop (b + 2)).drop (c - (b + 2) + 1) = s.drop (c + 1) := by rw [List.drop_drop, show b + 2 + (c - (b + 2) + 1) = c + 1 by omega]
  have hc3 : Lib.cut (s.drop (b + 2)) [32] = ((s.take c).drop (b + 2), s.drop (c + 1), true) := by rw [hc3]; exact Prod.ext e1 (Prod.ext e2 rfl)
  refine ⟨c, h2, ⟨hab, h3, h5, by rw [hc], ?_, ?_, ?_, by rw [hc], ?_, ?_⟩⟩ <;> rw [hc] <;> simp only [] <;> rw [hc2] <;> simp only [] <;> rw [hc3]
theorem Offs.who {s : Str} {a b c : Nat} (h : Offs s a b c) : whoOf s = if (!zonOk (s.drop (c + 1)) || !numOk ((s.take c).drop (b + 2)) || (s.take a).contains 60 || (s.take a).contains 62 || ((s.take b).drop (a + 2)).contains 60 || ((s.take b).drop (a + 2)).contains 62) = true then (2, zeroPer) else if perOk (s.take a) ((s.take b).drop (a + 2)) (valD ((s.take c).drop (b + 2))) (zonV (s.drop (c + 1))) = false then (1, zeroPer) else (0, ⟨s.take a, (s.take b).drop (a + 2), valD ((s.take c).drop (b + 2)), zonV (s.drop (c + 1))⟩) := by
 rw [whoOf, h.n1, h.n2, h.n3, h.n4, h.t1, h.t2, h.t3, angled_append, angled_has, angled_has]
 generalize zonOk (s.drop (c + 1)) = b1
 generalize numOk ((s.take c).drop (b + 2)) = b2
 generalize (s.take a).contains 60 = b3
 generalize (s.take a).contains 62 = b4
 generalize ((s.take b).drop (a + 2)).contains 60 = b5
 generalize ((s.take b).drop (a + 2)).contains 62 = b6
 cases b1 <;> cases b2 <;> cases b3 <;> cases b4 <;> cases b5 <;> cases b6 <;> rfl
theorem whoOf_def (s : Str) : whoOf s = (
 if ((Lib.cut s [32, 60]).2.2 && (Lib.cut (Lib.cut s [32, 60]).2.1 [62, 32]).2.2 && (Lib.cut (Lib.cut (Lib.cut s [32, 60]).2.1 [62, 32]).2.1 [32]).2.2 && numOk (Lib.cut (Lib.cut (Lib.cut s [32, 60]).2.1 [62, 32]).2.1 [32]).1 && zonOk (Lib.cut (Lib.cut (Lib.cut s [32, 60]).2.1 [62, 32]).2.1 [32]).2.1 && !angled ((Lib.cut s [32, 60]).1 ++ (Lib.cut (Lib.cut s [32, 60]).2.1 [62, 32]).1)) = false then (2, zeroPer)
 else if perOk (Lib.cut s [32, 60]).1 (Lib.cut (Lib.cut s [32, 60]).2.1 [62, 32]).1 (valD (Lib.cut (Lib.cut (Lib.cut s [32, 60]).2.1 [62, 32]).2.1 [32]).1) (zonV (Lib.cut (Lib.cut (Lib.cut s [32, 60]).2.1 [62, 32]).2.1 [32]).2.1) = false then (1, zeroPer)
 else (0, ⟨(Lib.cut s [32, 60]).1, (Lib.cut (Lib.cut s [32, 60]).2.1 [62, 32]).1, valD (Lib.cut (Lib.cut (Lib.cut s [32, 60]).2.1 [62, 32]).2.1 [32]).1, zonV (Lib.cut (Lib.cut (Lib.cut s [32, 60]).2.1 [62, 32]).2.1 [32]).2.1⟩)) := rfl
end Go.Graft
