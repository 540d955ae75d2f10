/- A part of the proof: Hn, Ho, Hi. -/
import Derived.Test.YtbnnmnbidkpmcaaGreatDoorPart32
set_option linter.unusedVariables false
set_option linter.unusedSimpArgs false
namespace Go.Proofs.Tryz
open Go Go.Sym Go.Graft
set_option maxRecDepth 20000
theorem cIndexFuncS (nl : Bool) (l : List Str) (f : Nat) (caps : List PV) (hp : plainL caps = true) (q : Str → Bool) (hs : l.length ≤ 1000000000000) (hq : ∀ x ∈ l, Ctr prog f (sV x :: caps) [] (bV (q x)) [] []) : Ctr prog 96 [.sl nl 1 (l.map fun x => sV x), .clo (.func f) [] caps] [] (iV (idxP q l)) [] [] := by
 refine Ctr.enter tblOk func96 rfl (by decide) rfl (nt := 19) rfl rfl rfl rfl ?_
 refine Trip.sr tblOk ?_
 refine Trip.seq (Trip.sr tblOk ?_)
 refine Trip.block ?_
 refine Trip.loop (fun (i : Nat) => ⟨[(0, .sl nl 1 (l.map fun x => sV x)), (1, .clo (.func f) [] caps), (7, iV l.length), (8, iV i)], []⟩) (fun (i : Nat) => i ≤ l.length ∧ ∀ j, j < i → q l[j]! = false) (fun (i : Nat) => l.length - i) (0) (by exact ⟨Nat.zero_le _, fun j hj => absurd hj (by omega)⟩) (Weak.kp (ht := by repeat' (first | exact rfl | (refine vI ?_; first | omega | (simp; done) | (simp; omega) | (simp only [List.length_map] at *; omega)) | constructor)) (hu := by (show (usesOnlyL _ _ && _) = true; rw [usesOnlyL_plain (by assumption)]; rfl))) ?_
 intro i hi
 obtain ⟨hi, hj⟩ := hi
 refine Trip.sr tblOk ?_
 refine Trip.seq ?_
 apply Trip.cond (.tmp rfl)
 ·intro h
  have h : i < l.length := by simp at h; omega
  have c := hq _ (bang_mem h)
  refine Trip.skip (Trip.seq (Trip.block (Trip.sr tblOk ?_)))
  refine Trip.sR tblOk (by repeat' (first | exact rfl | (apply Rule.sem; intro hγ; with_reducible apply F_call0 (x := .tmp 11) (B := []) hγ (hspec := c)) | exact convL_plain (by assumption) | exact idx_map _ _ _ (by show _ < _; first | omega | (simp only [List.length_map] at *; omega)) | ((with_reducible refine Side.mk ?_); first | exact .inl rfl | (simp only [ln]; first | done | omega)) | constructor)) ?_
  apply Trip.cond (.tmp rfl)
  ·intro h2
   have h2 : q l[i]! = true := h2
   rw [idxP_some h hj h2]
   refine Trip.sr tblOk ?_
   refine Trip.ret (rt1 [])
  intro h2
  have h2 : q l[i]! = false := h2
  refine Trip.skip (Trip.R tblOk (by repeat' (first | exact rfl | ((with_reducible refine Side.mk ?_); omega) | constructor)) ?_)
  exact ⟨i + 1, by exact ⟨by omega, fun j h3 => (Nat.lt_succ_iff_lt_or_eq.1 h3).elim (hj j) (fun e => e ▸ h2)⟩, by first | omega | (dsimp only at *; omega), Weak.kp (hu := by (show (usesOnlyL _ _ && _) = true; rw [usesOnlyL_plain (by assumption)]; rfl))⟩
 intro h
 have h : i = l.length := by simp at h; omega
 subst h
 rw [idxP_none hj]
 refine Trip.exit (Trip.sr tblOk ?_)
 refine Trip.ret (rt1 [])
theorem cContainsFuncS (nl : Bool) (l : List Str) (f : Nat) (caps : List PV) (hp : plainL caps = true) (q : Str → Bool) (hs : l.length ≤ 1000000000000) (hq : ∀ x ∈ l, Ctr prog f (sV x :: caps) [] (bV (q x)) [] []) : Ctr prog 58 [.sl nl 1 (l.map fun x => sV x), .clo (.func f) [] caps] [] (bV (l.any q)) [] [] := by
 have c := cIndexFuncS nl l f caps hp q hs hq
 rw [← idxP_any]
 generalize idxP q l = r at *
 refine Ctr.enter tblOk func58 rfl (by decide) rfl (nt := 9) rfl rfl rfl rfl ?_
 refine Trip.sr tblOk ?_
 refine Trip.sR tblOk (by repeat' (first | exact rfl | (apply Rule.sem; intro hγ; with_reducible apply F_call0 (x := .func 96) (B := []) hγ (hspec := c)) | exact convL_plain (by assumption) | ((with_reducible refine Side.mk ?_); exact .inl rfl) | constructor)) ?_
 refine Trip.ret (rt1 [] (hc := by repeat' (exact cvB (by simp only [List.length_map]))))
theorem cIndexS (nl : Bool) (l : List Str) (x : Str) (hs : l.length ≤ 1000000000000) : Ctr prog 101 [.sl nl 1 (l.map fun x => sV x), sV x] [] (iV (idxP (fun y => decide (x = y)) l)) [] [] := by
 refine Ctr.enter tblOk func101 rfl (by decide) rfl (nt := 19) rfl rfl rfl rfl ?_
 refine Trip.sr tblOk ?_
 refine Trip.seq (Trip.sr tblOk ?_)
 refine Trip.block ?_
 refine Trip.loop (fun (i : Nat) => ⟨[(0, .sl nl 1 (l.map fun x => sV x)), (1, sV x), (7, iV l.length), (8, iV i)], []⟩) (fun (i : Nat) => i ≤ l.length ∧ ∀ j, j < i → decide (x = l[j]!) = false) (fun (i : Nat) => l.length - i) (0) (by exact ⟨Nat.zero_le _, fun j hj => absurd hj (by omega)⟩) (Weak.kp (ht := by repeat' (first | exact rfl | (refine vI ?_; first | omega | (simp; done) | (simp; omega) | (simp only [List.length_map] at *; omega)) | constructor))) ?_
 intro i hi
 obtain ⟨hi, hj⟩ := hi
 refine Trip.sr tblOk ?_
 refine Trip.seq ?_
 apply Trip.cond (.tmp rfl)
 ·intro h
  have h : i < l.length := by simp at h; omega
  refine Trip.skip (Trip.seq (Trip.block (Trip.sr tblOk ?_)))
  refine Trip.sR tblOk (by repeat' (first | exact rfl | exact idx_map _ _ _ (by show _ < _; first | omega | (simp only [List.length_map] at *; omega)) | ((with_reducible refine Side.mk ?_); (simp only [ln]; first | done | omega)) | constructor)) ?_
  apply Trip.cond (.tmp rfl)
  ·intro h2
   have h2 : decide (x = l[i]!) = true := h2
   rw [idxP_some h hj h2]
   refine Trip.sr tblOk ?_
   refine Trip.ret (rt1 [])
  intro h2
  have h2 : decide (x = l[i]!) = false := h2
  refine Trip.skip (Trip.R tblOk (by repeat' (first | exact rfl | ((with_reducible refine Side.mk ?_); omega) | constructor)) ?_)
  exact ⟨i + 1, by exact ⟨by omega, fun j h3 => (Nat.lt_succ_iff_lt_or_eq.1 h3).elim (hj j) (fun e => e ▸ h2)⟩, by first | omega | (dsimp only at *; omega), Weak.kp⟩
 intro h
 have h : i = l.length := by simp at h; omega
 subst h
 rw [idxP_none hj]
 refine Trip.exit (Trip.sr tblOk ?_)
 refine Trip.ret (rt1 [])
theorem cContainsS (nl : Bool) (l : List Str) (x : Str) (hs : l.length ≤ 1000000000000) : Ctr prog 61 [.sl nl 1 (l.map fun x => sV x), sV x] [] (bV (hasS l x)) [] [] := by
 have c := cIndexS nl l x hs
 rw [← any_hasS, ← idxP_any]
 generalize idxP (fun y => decide (x = y)) l = r at *
 refine Ctr.enter tblOk func61 rfl (by decide) rfl (nt := 9) rfl rfl rfl rfl ?_
 refine Trip.sr tblOk ?_
 refine Trip.sR tblOk (by repeat' (first | exact rfl | (apply Rule.sem; intro hγ; with_reducible apply F_call0 (x := .func 101) (B := []) hγ (hspec := c)) | ((with_reducible refine Side.mk ?_); exact .inl rfl) | constructor)) ?_
 refine Trip.ret (rt1 [] (hc := by repeat' (exact cvB (by simp only [List.length_map]))))
end Go.Proofs.Tryz
namespace Go.Proofs.Tryz
open Go Go.Sym Go.Graft
set_option maxRecDepth 20000
theorem cBadFn (x : Str) (hx : x.length ≤ 1000000000000) : Ctr prog 151 [sV x] [] (bV (!isId x)) [] [] := by
 have c := cIs x hx
 generalize isId x = b at *
 refine Ctr.enter tblOk func151 rfl (by decide) rfl (nt := 6) rfl rfl rfl rfl ?_
 refine Trip.sr tblOk ?_
 refine Trip.sR tblOk (by repeat' (first | exact rfl | (apply Rule.sem; intro hγ; with_reducible apply F_call0 (x := .func 148) (B := []) hγ (hspec := c)) | ((with_reducible refine Side.mk ?_); exact .inl rfl) | constructor)) ?_
 refine Trip.ret (rt1 [] (hc := by repeat' (exact cvB (by simp only [List.length_map]))))
theorem cComE (nl : Bool) (c : Com) (h1 : c.tree.length ≤ 1000000000) (h2 : c.pars.length ≤ 1000000000) (h3 : ∀ p ∈ c.pars, p.length ≤ 1000000000) (h4 : c.aut.name.length ≤ 1000000000 ∧ c.aut.mail.length ≤ 1000000000) (h5 : c.com.name.length ≤ 1000000000 ∧ c.com.mail.length ≤ 1000000000) (h6 : c.text.length ≤ 1000000000) : Ctr prog 118 [c.pv nl] [] (iV (comE c)) [] [] := by
 have k1 := cBadFn c.tree (by omega)
 have k2 := cContainsFuncS nl c.pars 151 [] rfl (fun p => !isId p) (by omega) (fun x hx => cBadFn x (by have := h3 x hx; omega))
 have k3 := cSomebody c.aut.name c.aut.mail c.aut.time c.aut.zone (by omega) (by omega)
 have k4 := cSomebody c.com.name c.com.mail c.com.time c.com.zone (by omega) (by omega)
 have k5 := sContains c.text [0] (by omega)
 rw [contains_hasZ] at k5
 have hb : comBad c = (!isId c.tree || c.pars.any (fun p => !isId p) || !perOk c.aut.name c.aut.mail c.aut.time c.aut.zone || !perOk c.com.name c.com.mail c.com.time c.com.zone || hasZ c.text) := rfl
 rw [comE]
 obtain ⟨tree, pars, ⟨an, am, at', az⟩, ⟨cn, cm, ct, cz⟩, text⟩ := c
 dsimp only at *
 generalize comBad ⟨tree, pars, ⟨an, am, at', az⟩, ⟨cn, cm, ct, cz⟩, text⟩ = cb at *
 generalize isId tree = b1 at *
 generalize (pars.any fun p => !isId p) = b2 at *
 generalize perOk an am at' az = b3 at *
 generalize perOk cn cm ct cz = b4 at *
 generalize hasZ text = b5 at *
 refine Ctr.enter tblOk func118 rfl (by decide) rfl (nt := 58) rfl rfl rfl rfl ?_
 refine Trip.sr tblOk ?_
 refine Trip.sr tblOk ?_
 refine Trip.seq (Trip.sR tblOk (by repeat' (first | exact rfl | (apply Rule.sem; intro hγ; with_reducible apply F_call0 (x := .tmp 7) (B := []) hγ (hspec := k1)) | exact convL_plain (by assumption) | (apply Rule.sem; intro hγ; with_reducible apply F_call0 (x := .func 58) (B := []) hγ (hspec := k2)) | (apply Rule.sem; intro hγ; with_reducible apply F_call0 (dst := some 20) (x := .func 152) (B := []) hγ (hspec := k3)) | (apply Rule.sem; intro hγ; with_reducible apply F_call0 (dst := some 26) (x := .func 152) (B := []) hγ (hspec := k4)) | (apply Rule.sem; intro hγ; with_reducible apply F_call0 (x := .func 153) (B := []) hγ (hspec := k5)) | ((with_reducible refine Side.mk ?_); first | exact .inl rfl | exact fun h => h | exact fun _ h => congrArg Bool.not h) | constructor)) ?_)
 apply Trip.cond (.tmp rfl)
 ·intro h
  have h : cb = true := by rw [hb]; exact h
  rw [if_pos h]
  refine Trip.sr tblOk ?_
  refine Trip.ret (rt1 [])
 intro h
 have h : cb = false := by rw [hb]; exact h
 rw [if_neg (by rw [h]; simp)]
 refine Trip.skip (Trip.seq (Trip.sR tblOk (by repeat' (first | exact rfl | ((with_reducible refine Side.mk ?_); first | exact fun h => h | exact fun _ h => congrArg Bool.not h) | constructor)) ?_))
 apply Trip.cond (.tmp rfl)
 ·intro h
  have h : (4096 : Int) < text.length ∨ (8 : Int) < pars.length := by simpa using h
  rw [if_pos h]
  refine Trip.sr tblOk ?_
  refine Trip.ret (rt1 [])
 intro h
 have h : ¬ ((4096 : Int) < text.length ∨ (8 : Int) < pars.length) := by simpa using h
 rw [if_neg h]
 refine Trip.skip (Trip.sR tblOk (by repeat' (first | exact rfl | (apply Rule.sem; intro hγ; with_reducible apply F_makeMap) | constructor)) ?_)
 refine Trip.seq (Trip.sr tblOk ?_)
 refine Trip.block ?_
 refine Trip.loop (fun (i : Nat) => ⟨[(4, .mref 44), (46, .sl nl 1 (pars.map fun x => sV x)), (47, iV pars.length), (48, iV i)], [(44, .map ((seenN pars i).1.map strK) ((seenN pars i).2.map fun b => bV b))]⟩) (fun (i : Nat) => i ≤ pars.length ∧ ∀ j, j < i → dupE pars j = 0) (fun (i : Nat) => pars.length - i) (0) (by exact ⟨Nat.zero_le _, fun j hj => absurd hj (by omega)⟩) (Weak.kp (ht := by repeat' (first | exact rfl | (refine vI ?_; first | omega | (simp; done) | (simp; omega) | (simp only [List.length_map] at *; omega)) | constructor))) ?_
 intro i hi
 obtain ⟨hi, hj⟩ := hi
 refine Trip.sr tblOk ?_
 refine Trip.seq ?_
 apply Trip.cond (.tmp rfl)
 ·intro h
  have h : i < pars.length := by simp at h; omega
  have hlen := seenN_len pars i
  have hval := seenN_val pars pars[i]! i (by omega)
  have hd : dupE pars i = if mval (seenN pars i).1 (seenN pars i).2 false pars[i]! = true then 6 else 0 := by rw [hval]; rfl
  have hst := fun (h0 : dupE pars i ≠ 0) => firstE_stop (n := pars.length) h hj h0
  have hstep : seenN pars (i + 1) = (mkeys (seenN pars i).1 pars[i]!, mset (seenN pars i).1 (seenN pars i).2 pars[i]! true) := rfl
  generalize hq2 : seenN pars (i + 1) = q2 at *
  generalize seenN pars i = q at *
  obtain ⟨ks, bs⟩ := q
  subst hstep
  dsimp only at *
  generalize hmv : mval ks bs false pars[i]! = mv at *
  refine Trip.skip (Trip.seq (Trip.block (Trip.sR tblOk (by repeat' (first | exact rfl | exact idx_map _ _ _ (by show _ < _; first | omega | (simp only [List.length_map] at *; omega)) | ((with_reducible refine Side.mk ?_); (simp only [ln]; first | done | omega)) | constructor)) ?_)))
  refine Trip.seq (Trip.sR tblOk (by repeat' (first | exact rfl | (apply Rule.sem; intro hγ; with_reducible apply F_lookup (K := strK) (f := bV) (z := false) (zv := .bool false) tblOk hγ (hz := zBool) (hzf := fun _ _ _ => .v _ _)) | exact KeyLaw.str tblOk rfl rfl | ((with_reducible refine Side.mk ?_); omega) | constructor)) ?_)
  apply Trip.cond (.tmp rfl)
  ·intro h7
   have h7 : mv = true := by rw [← hmv]; exact h7
   have hd : dupE pars i = 6 := by rw [hd, if_pos h7]
   rw [hst (by omega), hd]
   refine Trip.sr tblOk ?_
   refine Trip.ret (rt1 [])
  intro h7
  have h7 : mv = false := by rw [← hmv]; exact h7
  have hd : dupE pars i = 0 := by rw [hd, h7]; rfl
  refine Trip.skip (Trip.R tblOk (by repeat' (first | exact rfl | (apply Rule.sem; intro hγ; with_reducible apply F_mapUpdate (K := strK) (f := bV) tblOk hγ) | exact KeyLaw.str tblOk rfl rfl | ((with_reducible refine Side.mk ?_); omega) | constructor)) ?_)
  refine Trip.R tblOk (by repeat' (first | exact rfl | ((with_reducible refine Side.mk ?_); omega) | constructor)) ?_
  exact ⟨i + 1, by exact ⟨by omega, fun j h3 => (Nat.lt_succ_iff_lt_or_eq.1 h3).elim (hj j) (fun e => e ▸ hd)⟩, by first | omega | (dsimp only at *; omega), Weak.kp (ho := by repeat' (first | exact rfl | (rw [hq2]; rfl) | constructor)) (huo := by repeat' (first | exact plainL_map _ (fun _ => rfl) _ | constructor))⟩
 intro h
 have h : i = pars.length := by simp at h; omega
 subst h
 rw [firstE_zero hj]
 refine Trip.exit (Trip.sr tblOk ?_)
 refine Trip.ret (rt1 [])
theorem cTagged (s : Str) (hs : s.length ≤ 1000000000000) : Ctr prog 154 [sV s] [] (bV (tagged s)) [] [] := by
 refine Ctr.enter tblOk func154 rfl (by decide) rfl (nt := 22) rfl rfl rfl rfl ?_
 refine Trip.sr tblOk ?_
 refine Trip.seq (Trip.sr tblOk ?_)
 refine Trip.block ?_
 refine Trip.loop (fun (i : Nat) => ⟨[(0, sV s), (5, iV s.length), (6, iV i)], []⟩) (fun (i : Nat) => i ≤ s.length ∧ ∀ j, j < i → decide (((s.getD j 0).toNat : Int) ≤ 32) = false) (fun (i : Nat) => s.length - i) (0) (by exact ⟨Nat.zero_le _, fun j hj => absurd hj (by omega)⟩) Weak.kp ?_
 intro i hi
 obtain ⟨hi, hj⟩ := hi
 refine Trip.sr tblOk ?_
 refine Trip.seq ?_
 apply Trip.cond (.tmp rfl)
 ·intro h
  have h : i < s.length := by simp at h; omega
  refine Trip.skip (Trip.seq (Trip.block (Trip.sr tblOk ?_)))
  refine Trip.sR tblOk (by repeat' (first | exact rfl | ((with_reducible refine Side.mk ?_); omega) | constructor)) ?_
  apply Trip.cond (.tmp rfl)
  ·intro h2
   have h2 : decide (((s.getD i 0).toNat : Int) ≤ 32) = true := h2
   rw [tagged_no h h2]
   refine Trip.sr tblOk ?_
   refine Trip.ret (rt1 [] (hc := by repeat' (exact cvB (by simp only [List.length_map]))))
  intro h2
  have h2 : decide (((s.getD i 0).toNat : Int) ≤ 32) = false := h2
  refine Trip.skip (Trip.R tblOk (by repeat' (first | exact rfl | ((with_reducible refine Side.mk ?_); omega) | constructor)) ?_)
  exact ⟨i + 1, by exact ⟨by omega, fun j h3 => (Nat.lt_succ_iff_lt_or_eq.1 h3).elim (hj j) (fun e => e ▸ h2)⟩, by first | omega | (dsimp only at *; omega), Weak.kp⟩
 intro h
 have h : i = s.length := by simp at h; omega
 subst h
 rw [tagged_yes hj]
 refine Trip.exit (Trip.sR tblOk (by repeat' (first | exact rfl | ((with_reducible refine Side.mk ?_); first | exact fun h => h | exact fun _ h => h) | constructor)) ?_)
 refine Trip.ret (rt1 [] (hc := by repeat' (exact cvB (by simp only [List.length_map]))))
theorem cTgE (t : Tg) (h1 : t.obj.length ≤ 1000000000) (h3 : t.name.length ≤ 1000000000) (h4 : t.by'.name.length ≤ 1000000000 ∧ t.by'.mail.length ≤ 1000000000) (h6 : t.text.length ≤ 1000000000) : Ctr prog 120 [t.pv] [] (iV (tgE t)) [] [] := by
 have k1 := cIs t.obj (by omega)
 have k2 := cWord t.kind
 have k3 := cTagged t.name (by omega)
 have k4 := cSomebody t.by'.name t.by'.mail t.by'.time t.by'.zone (by omega) (by omega)
 have k5 := sContains t.text [0] (by omega)
 rw [contains_hasZ] at k5
 have hb : tgBad t = (!isId t.obj || decide (wordK t.kind = []) || !tagged t.name || !perOk t.by'.name t.by'.mail t.by'.time t.by'.zone || hasZ t.text) := rfl
 rw [tgE]
 obtain ⟨ob, kind, name, ⟨an, am, at', az⟩, text⟩ := t
 dsimp only at *
 generalize tgBad ⟨ob, kind, name, ⟨an, am, at', az⟩, text⟩ = cb at *
 generalize isId ob = b1 at *
 generalize wordK kind = w at *
 generalize tagged name = b2 at *
 generalize perOk an am at' az = b3 at *
 generalize hasZ text = b5 at *
 refine Ctr.enter tblOk func120 rfl (by decide) rfl (nt := 34) rfl rfl rfl rfl ?_
 refine Trip.sr tblOk ?_
 refine Trip.seq (Trip.sR tblOk (by repeat' (first | exact rfl | (apply Rule.sem; intro hγ; with_reducible apply F_call0 (x := .func 148) (B := []) hγ (hspec := k1)) | (apply Rule.sem; intro hγ; with_reducible apply F_call0 (x := .func 107) (B := []) hγ (hspec := k2)) | (apply Rule.sem; intro hγ; with_reducible apply F_call0 (x := .func 154) (B := []) hγ (hspec := k3)) | (apply Rule.sem; intro hγ; with_reducible apply F_call0 (x := .func 152) (B := []) hγ (hspec := k4)) | (apply Rule.sem; intro hγ; with_reducible apply F_call0 (x := .func 153) (B := []) hγ (hspec := k5)) | ((with_reducible refine Side.mk ?_); first | exact .inl rfl | exact fun h => h | exact fun _ h => congrArg Bool.not h) | constructor)) ?_)
 apply Trip.cond (.tmp rfl)
 ·intro h
  have h : cb = true := by rw [hb]; exact h
  rw [if_pos h]
  refine Trip.sr tblOk ?_
  refine Trip.ret (rt1 [])
 intro h
 have h : cb = false := by rw [hb]; exact h
 rw [if_neg (by rw [h]; simp)]
 refine Trip.skip (Trip.seq (Trip.sr tblOk ?_))
 apply Trip.cond (.tmp rfl)
 ·intro h
  have h : (4096 : Int) < text.length := by simpa using h
  rw [if_pos h]
  refine Trip.sr tblOk ?_
  refine Trip.ret (rt1 [])
 intro h
 have h : ¬ (4096 : Int) < text.length := by simpa using h
 rw [if_neg h]
 refine Trip.skip (Trip.sr tblOk ?_)
 refine Trip.ret (rt1 [])
end Go.Proofs.Tryz
namespace Go.Proofs.Tryz
open Go Go.Sym Go.Graft
set_option maxRecDepth 20000
theorem cDigits (s : Str) (hs : s.length ≤ 1000000000000) : Ctr prog 183 [sV s, iV 18] [] (.tup [iV (if numOk s = true then ((valD s : Nat) : Int) else 0), bV (numOk s)]) [] [] := by
 have hnb : numBad s = (decide ((s.length : Int) < 1) || decide (18 < (s.length : Int)) || (decide (1 < (s.length : Int)) && decide (((s.getD 0 0).toNat : Int) = 48))) := rfl
 refine Ctr.enter tblOk func183 rfl (by decide) rfl (nt := 52) rfl rfl rfl rfl ?_
 refine Trip.sr tblOk ?_
 refine Trip.seq (Trip.sR tblOk (by repeat' (first | exact rfl | (apply Rule.under tblOk; intro hγ; with_reducible apply Rule.index) | ((with_reducible refine Side.mk ?_); first | exact fun h => h | exact fun _ h => congrArg Bool.not h | (intro h1 h2; rw [h1, h2]; rfl) | exact fun _ => hγ | (have h2 := hγ; simp only [gpick, cond_true, cond_false, decide_eq_true_eq, Bool.and_eq_true, Bool.or_eq_true, Bool.not_eq_true', Bool.not_eq_false', Bool.or_eq_false_iff, decide_eq_false_iff_not, List.length_map] at h2; (try simp only [List.length_map]); omega)) | constructor)) ?_)
 apply Trip.cond (.tmp rfl)
 ·intro h
  have h : numBad s = true := h
  rw [numOk_bad h]
  refine Trip.sr tblOk ?_
  refine Trip.ret (rt2 [] (hd := by repeat' (exact cvB (by simp only [List.length_map]))))
 intro h
 have hb : numBad s = false := h
 refine Trip.skip (Trip.seq (Trip.sr tblOk ?_))
 refine Trip.block ?_
 refine Trip.loop (fun (i : Nat) => ⟨[(0, sV s), (29, iV s.length), (30, iV i)], []⟩) (fun (i : Nat) => i ≤ s.length ∧ ∀ j, j < i → badD (s.getD j 0) = false) (fun (i : Nat) => s.length - i) (0) (by exact ⟨Nat.zero_le _, fun j hj => absurd hj (by omega)⟩) Weak.kp ?_
 intro i hi
 obtain ⟨hi, hj⟩ := hi
 refine Trip.sr tblOk ?_
 refine Trip.seq ?_
 apply Trip.cond (.tmp rfl)
 ·intro h
  have h : i < s.length := by simp at h; omega
  refine Trip.skip (Trip.seq (Trip.block (Trip.sr tblOk ?_)))
  refine Trip.sR tblOk (by repeat' (first | exact rfl | (apply Rule.under tblOk; intro hγ; with_reducible apply Rule.index) | ((with_reducible refine Side.mk ?_); first | omega | exact fun h => h | exact fun _ h => congrArg Bool.not h | exact fun _ => hγ) | constructor)) ?_
  apply Trip.cond (.tmp rfl)
  ·intro h2
   have h2 : badD (s.getD i 0) = true := h2
   rw [numOk_false h h2]
   refine Trip.sr tblOk ?_
   refine Trip.ret (rt2 [] (hd := by repeat' (exact cvB (by simp only [List.length_map]))))
  intro h2
  have h2 : badD (s.getD i 0) = false := h2
  refine Trip.skip (Trip.R tblOk (by repeat' (first | exact rfl | ((with_reducible refine Side.mk ?_); omega) | constructor)) ?_)
  exact ⟨i + 1, by exact ⟨by omega, fun j h3 => (Nat.lt_succ_iff_lt_or_eq.1 h3).elim (hj j) (fun e => e ▸ h2)⟩, by first | omega | (dsimp only at *; omega), Weak.kp⟩
 intro h
 have h : i = s.length := by simp at h; omega
 subst h
 have hok := numOk_true hb hj
 have hl := numOk_len hok
 have hne : s ≠ [] := fun e => by rw [e] at hl; simp at hl
 have c1 := sAtoi s _ hl.2 (atoi_val hne (numOk_all hok))
 refine Trip.exit ?_
 rw [hok, if_pos rfl]
 refine Trip.sR tblOk (by repeat' (first | exact rfl | (apply Rule.sem; intro hγ; with_reducible apply F_call0 (x := .func 208) (B := []) hγ (hspec := c1)) | ((with_reducible refine Side.mk ?_); exact .inl rfl) | constructor)) ?_
 refine Trip.sD tblOk mixed (by repeat' (first | exact rfl | (apply Rule.sem; intro hγ; with_reducible apply F_eqNil tblOk hγ) | constructor)) ?_
 refine Trip.ret (rt2 [] (hd := by repeat' (exact cvB (by simp only [List.length_map]))))
theorem cZone (s : Str) (hs : s.length ≤ 1000000000000) : Ctr prog 184 [sV s] [] (.tup [iV (zonV s), bV (zonOk s)]) [] [] := by
 have hnb : zonBad s = (decide (¬ (s.length : Int) = 5) || (decide (¬ ((s.getD 0 0).toNat : Int) = 43) && decide (¬ ((s.getD 0 0).toNat : Int) = 45)) || decide (s = [45, 48, 48, 48, 48])) := rfl
 have hno : zonOk s = false → zonV s = 0 := fun h => by rw [zonV, if_pos h]
 refine Ctr.enter tblOk func184 rfl (by decide) rfl (nt := 65) rfl rfl rfl rfl ?_
 refine Trip.sr tblOk ?_
 refine Trip.seq (Trip.sR tblOk (by repeat' (first | exact rfl | (apply Rule.under tblOk; intro hγ; with_reducible apply Rule.index) | ((with_reducible refine Side.mk ?_); first | exact fun h => h | exact fun _ h => congrArg Bool.not h | (intro h1 h2; rw [h1, h2]; rfl) | exact fun _ => hγ | (have h2 := hγ; simp only [gpick, cond_true, cond_false, decide_eq_true_eq, Bool.and_eq_true, Bool.or_eq_true, Bool.not_eq_true', Bool.not_eq_false', Bool.or_eq_false_iff, decide_eq_false_iff_not, List.length_map] at h2; (try simp only [List.length_map]); omega)) | constructor)) ?_)
 apply Trip.cond (.tmp rfl)
 ·intro h
  have h : zonBad s = true := by rw [hnb]; simpa using h
  rw [hno (zonOk_bad h), zonOk_bad h]
  refine Trip.sr tblOk ?_
  refine Trip.ret (rt2 [] (hd := by repeat' (exact cvB (by simp only [List.length_map]))))
 intro h
 have hb : zonBad s = false := by rw [hnb]; simpa using h
 have hl := zonBad_len hb
 refine Trip.skip (Trip.seq (Trip.sr tblOk ?_))
 refine Trip.block ?_
 refine Trip.loop (fun (i : Nat) => ⟨[(0, sV s), (4, iV i)], []⟩) (fun (i : Nat) => 1 ≤ i ∧ i ≤ 5 ∧ ∀ j, 1 ≤ j → j < i → badD (s.getD j 0) = false) (fun (i : Nat) => 5 - i) (1) (by exact ⟨Nat.le_refl _, by omega, fun j h1 h2 => absurd h1 (by omega)⟩) Weak.kp ?_
 intro i hi
 obtain ⟨hi1, hi, hj⟩ := hi
 refine Trip.seq (Trip.sr tblOk ?_)
 apply Trip.cond (.tmp rfl)
 ·intro h
  have h : i < 5 := by simp at h; omega
  refine Trip.skip (Trip.seq (Trip.block (Trip.sR tblOk (by repeat' (first | exact rfl | (apply Rule.under tblOk; intro hγ; with_reducible apply Rule.index) | ((with_reducible refine Side.mk ?_); first | omega | exact fun h => h | exact fun _ h => congrArg Bool.not h | exact fun _ => hγ) | constructor)) ?_)))
  apply Trip.cond (.tmp rfl)
  ·intro h2
   have h2 : badD (s.getD i 0) = true := h2
   rw [hno (zonOk_dig hl hi1 h h2), zonOk_dig hl hi1 h h2]
   refine Trip.sr tblOk ?_
   refine Trip.ret (rt2 [] (hd := by repeat' (exact cvB (by simp only [List.length_map]))))
  intro h2
  have h2 : badD (s.getD i 0) = false := h2
  refine Trip.skip (Trip.R tblOk (by repeat' (first | exact rfl | ((with_reducible refine Side.mk ?_); omega) | constructor)) ?_)
  exact ⟨i + 1, by exact ⟨by omega, by omega, fun j h1 h3 => (Nat.lt_succ_iff_lt_or_eq.1 h3).elim (hj j h1) (fun e => e ▸ h2)⟩, by first | omega | (dsimp only at *; omega), Weak.kp⟩
 intro h
 have h : i = 5 := by simp at h; omega
 subst h
 have hok := zonOk_end hb hj
 have hv := zon_vals hl hj
 obtain ⟨hd1, hd2⟩ := zon_digs hl hj
 have e3 : (s.take s.length).drop 3 = s.drop 3 := by rw [List.take_length]
 have e1 : (s.take 3).drop 1 = (s.drop 1).take 2 := by rw [List.drop_take]
 have c1 := sAtoi ((s.take 3).drop 1) (zonH s) (by rw [e1, List.length_take]; omega) (by rw [e1]; exact atoi_val (fun e => by have := congrArg List.length e; rw [List.length_take, List.length_drop] at this; simp at this; omega) hd2)
 have c2 := sAtoi ((s.take s.length).drop 3) (zonM s) (by rw [e3, List.length_drop]; omega) (by rw [e3]; exact atoi_val (fun e => by have := congrArg List.length e; rw [List.length_drop] at this; simp at this; omega) hd1)
 rw [zonV, hok]
 generalize zonM s = m at *
 generalize zonH s = hh at *
 refine Trip.exit (Trip.sR tblOk (by repeat' (first | exact rfl | (apply Rule.sem; intro hγ; with_reducible apply F_call0 (x := .func 208) (B := []) hγ (hspec := c1)) | ((first | with_reducible refine bok ?_ | with_reducible refine Side.mk ?_); first | omega | exact .inl rfl) | constructor)) ?_)
 refine Trip.sR tblOk (by repeat' (first | exact rfl | (apply Rule.sem; intro hγ; with_reducible apply F_call0 (x := .func 208) (B := []) hγ (hspec := c2)) | ((first | with_reducible refine bokL ?_ | with_reducible refine Side.mk ?_); first | omega | exact .inl rfl) | constructor)) ?_
 refine Trip.seq (Trip.sr tblOk ?_)
 apply Trip.cond (.tmp rfl)
 ·intro h
  have h : ¬ m < 60 := by simp at h; omega
  rw [decide_eq_false h, if_pos rfl]
  refine Trip.sr tblOk ?_
  refine Trip.ret (rt2 [] (hd := by repeat' (exact cvB (by simp only [List.length_map]))))
 intro h
 have h : m < 60 := by simp at h; omega
 rw [decide_eq_true h, if_neg (by simp)]
 refine Trip.skip (Trip.seq (Trip.sR tblOk (by repeat' (first | exact rfl | ((with_reducible refine Side.mk ?_); omega) | constructor)) ?_))
 apply Trip.cond (.tmp rfl)
 ·intro h2
  have h2 : ((s.getD 0 0).toNat : Int) = 45 := by simpa using h2
  rw [if_pos h2]
  refine Trip.sR tblOk (by repeat' (first | exact rfl | ((with_reducible refine Side.mk ?_); omega) | constructor)) ?_
  refine Trip.ret (rt2 [] (hd := by repeat' (exact cvB (by simp only [List.length_map]))))
 intro h2
 have h2 : ¬ ((s.getD 0 0).toNat : Int) = 45 := by simpa using h2
 rw [if_neg h2]
 refine Trip.skip (Trip.sR tblOk (by repeat' (first | exact rfl | ((with_reducible refine Side.mk ?_); omega) | constructor)) ?_)
 refine Trip.ret (rt2 [] (hd := by repeat' (exact cvB (by simp only [List.length_map]))))
end Go.Proofs.Tryz
