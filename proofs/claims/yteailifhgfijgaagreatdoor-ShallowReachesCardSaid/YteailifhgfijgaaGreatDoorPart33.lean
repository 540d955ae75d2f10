/- A part of the proof: Wa, GAdd, GShx. -/
import Derived.Test.YteailifhgfijgaaGreatDoorPart32
set_option linter.unusedVariables false
set_option linter.unusedSimpArgs false
namespace Go.Proofs.Tryz
open Go Go.Sym Go.Graft
set_option maxRecDepth 20000
abbrev rfV (x : Str × Str × Str) : PV := .agg [sV x.1, sV x.2.1, sV x.2.2]
abbrev lnV (x : Str × Str × Per × Str) : PV := .agg [sV x.1, sV x.2.1, sV x.2.2.1.name, sV x.2.2.1.mail, iV x.2.2.1.time, iV x.2.2.1.zone, sV x.2.2.2]
abbrev lgV (x : Str × Bool × List (Str × Str × Per × Str)) : PV := .agg [sV x.1, .sl x.2.1 7 (x.2.2.map lnV)]
structure Vw where
 nl : Bool
 l : List It
 nr : Bool
 rf : List (Str × Str × Str)
 ng : Bool
 lg : List (Str × Bool × List (Str × Str × Per × Str))
 nc : Bool
 cuts : List Str
abbrev Vw.cells (v : Vw) : List PV := [.sl v.nl 3 (v.l.map It.pv), .sl v.nr 3 (v.rf.map rfV), .sl v.ng 2 (v.lg.map lgV), .sl v.nc 1 (v.cuts.map fun x => sV x)]
abbrev Vw.pv (v : Vw) : PV := .agg v.cells
def rdC (l : List It) (cuts : List Str) (id : Str) : Com := if rdE l id ≠ 0 then zeroCom else if hasS cuts id = true then { (comP l[place l id]!.body).2 with pars := [] } else (comP l[place l id]!.body).2
theorem rdC_pars (l : List It) (cuts : List Str) (id : Str) : (rdC l cuts id).pars = rdP l cuts id := by
 rw [rdC, rdP]
 split
 ·rfl
 split <;> rfl
theorem cIn17 (nl : Bool) (l : List Str) (x : Str) (hs : l.length ≤ 1000000000000) : Ctr prog 87 [.sl nl 1 (l.map fun x => sV x), sV x] [] (bV (hasS l x)) [] [] := by
 refine Ctr.enter tblOk func87 rfl (by decide) rfl (nt := 18) rfl rfl rfl rfl ?_
 refine Trip.sr tblOk ?_
 refine Trip.seq (Trip.sr tblOk ?_)
 refine Trip.block ?_
 refine Trip.loop (fun (i : Nat) => ⟨[(0, .sl nl 1 (l.map fun x => sV x)), (1, sV x), (5, iV i)], []⟩) (fun (i : Nat) => i ≤ l.length ∧ ∀ j, j < i → l[j]! ≠ x) (fun (i : Nat) => l.length - i) (0) (by exact ⟨Nat.zero_le _, fun j hj => absurd hj (by omega)⟩) Weak.kp ?_
 intro i hi
 obtain ⟨hi, hj⟩ := hi
 refine Trip.seq (Trip.sr tblOk ?_)
 apply Trip.cond (.tmp rfl)
 ·intro h
  have h : i < l.length := by simp at h; omega
  refine Trip.skip (Trip.seq (Trip.block (Trip.sR tblOk (by repeat' (first | exact rfl | exact idx_map _ _ _ (by show _ < _; first | omega | (simp only [List.length_map] at *; omega)) | ((with_reducible refine Side.mk ?_); (simp only [ln]; first | done | omega)) | constructor)) ?_)))
  apply Trip.cond (.tmp rfl)
  ·intro h2
   have h2 : l[i]! = x := by simpa using h2
   rw [hasS_true h h2]
   refine Trip.sr tblOk ?_
   refine Trip.ret (rt1 [] (hc := by repeat' (exact cvB (by simp only [List.length_map]))))
  intro h2
  have h2 : ¬ l[i]! = x := by simpa using h2
  refine Trip.skip (Trip.R tblOk (by repeat' (first | exact rfl | ((with_reducible refine Side.mk ?_); omega) | constructor)) ?_)
  exact ⟨i + 1, by exact ⟨by omega, fun j h3 => (Nat.lt_succ_iff_lt_or_eq.1 h3).elim (hj j) (fun e => e ▸ h2)⟩, by first | omega | (dsimp only at *; omega), Weak.kp⟩
 intro h
 have h : i = l.length := by simp at h; omega
 subst h
 refine Trip.exit ?_
 rw [hasS_false hj]
 refine Trip.sr tblOk ?_
 refine Trip.ret (rt1 [] (hc := by repeat' (exact cvB (by simp only [List.length_map]))))
set_option maxHeartbeats 1000000 in
theorem cRead (v : Vw) (id : Str) (hs : v.l.length ≤ 1000000000) (hc : v.cuts.length ≤ 1000000000) (hb : ∀ x ∈ v.l, x.body.length ≤ 100000000) : Ctr prog 53 [v.pv, sV id] [] (.tup [(rdC v.l v.cuts id).pv (rdC v.l v.cuts id).pars.isEmpty, iV (rdE v.l id)]) [] [] := by
 obtain ⟨nl, l, nr, rf, ng, lg, nc, cuts⟩ := v
 dsimp only at hs hc hb ⊢
 have c1 := cGet nl l id hs
 have c3 := cContainsS nc cuts id (by omega)
 have hE : rdE l id = if placed l id = false then 171 else if l[place l id]!.kind ≠ 3 then 140 else (comP l[place l id]!.body).1 := rfl
 have hC : rdC l cuts id = if rdE l id ≠ 0 then zeroCom else if hasS cuts id = true then { (comP l[place l id]!.body).2 with pars := [] } else (comP l[place l id]!.body).2 := rfl
 have hbb : placed l id = true → l[place l id]!.body.length ≤ 100000000 := fun hp => hb _ (bang_mem (placed_lt hp).1)
 generalize rdC l cuts id = C at *
 generalize rdE l id = E at *
 generalize hasS cuts id = q at *
 cases hpl : placed l id with
 | false =>
  rw [hpl] at c1 hE
  simp only [Bool.false_eq_true, if_false] at c1
  rw [if_pos rfl] at hE
  subst hE
  rw [if_pos (by decide)] at hC
  subst hC
  refine Ctr.enter tblOk func53 rfl (by decide) rfl (nt := 41) rfl rfl rfl rfl ?_
  refine Trip.sr tblOk ?_
  refine Trip.sR tblOk (by repeat' (first | exact rfl | (apply Rule.sem; intro hγ; with_reducible apply F_call0 (x := .func 35) (B := []) hγ (hspec := c1)) | ((with_reducible refine Side.mk ?_); exact .inl rfl) | constructor)) ?_
  refine Trip.seq (Trip.block (Trip.sr tblOk ?_))
  apply Trip.cond (.tmp rfl)
  ·intro h
   refine Trip.sr tblOk ?_
   refine Trip.ret (rt2 [])
  intro h
  simp at h
 | true =>
  rw [hpl] at c1 hE hbb
  have hbb := hbb rfl
  simp only [if_true] at c1
  rw [if_neg (by simp)] at hE
  generalize l[place l id]!.kind = k at *
  generalize l[place l id]!.body = b at *
  have c2 := cParseC b hbb
  generalize comP b = r at *
  obtain ⟨e, tree, pars, ⟨an, am, at', az⟩, ⟨cn, cm, ct, cz⟩, text⟩ := r
  dsimp only at *
  generalize hni : pars.isEmpty = ni at *
  refine Ctr.enter tblOk func53 rfl (by decide) rfl (nt := 41) rfl rfl rfl rfl ?_
  refine Trip.sr tblOk ?_
  refine Trip.sR tblOk (by repeat' (first | exact rfl | (apply Rule.sem; intro hγ; with_reducible apply F_call0 (x := .func 35) (B := []) hγ (hspec := c1)) | ((with_reducible refine Side.mk ?_); exact .inl rfl) | constructor)) ?_
  refine Trip.seq (Trip.block (Trip.sr tblOk ?_))
  apply Trip.cond (.tmp rfl)
  ·intro h
   simp at h
  intro h
  refine Trip.sr tblOk ?_
  apply Trip.cond (.tmp rfl)
  ·intro h2
   have h2 : k ≠ 3 := by simpa using h2
   rw [if_pos h2] at hE
   subst hE
   rw [if_pos (by decide)] at hC
   subst hC
   refine Trip.sr tblOk ?_
   refine Trip.ret (rt2 [])
  intro h2
  have h2 : k = 3 := by simpa using h2
  rw [if_neg (by simp [h2])] at hE
  subst hE
  refine Trip.skip (Trip.sR tblOk (by repeat' (first | exact rfl | (apply Rule.sem; intro hγ; with_reducible apply F_call0 (x := .func 63) (B := []) hγ (hspec := c2)) | ((with_reducible refine Side.mk ?_); exact .inl rfl) | constructor)) ?_)
  refine Trip.seq (Trip.sr tblOk ?_)
  apply Trip.cond (.tmp rfl)
  ·intro h3
   have h3 : E ≠ 0 := by simpa using h3
   rw [if_pos h3] at hC
   subst hC
   refine Trip.sr tblOk ?_
   refine Trip.ret (rt2 [])
  intro h3
  have h3 : E = 0 := by simpa using h3
  rw [if_neg (by simp [h3])] at hC
  subst h3
  refine Trip.skip (Trip.seq (Trip.sR tblOk (by repeat' (first | exact rfl | (apply Rule.sem; intro hγ; with_reducible apply F_call0 (x := .func 65) (B := []) hγ (hspec := c3)) | ((with_reducible refine Side.mk ?_); exact .inl rfl) | constructor)) ?_))
  apply Trip.cond (.tmp rfl)
  ·intro h4
   have h4 : q = true := h4
   rw [if_pos h4] at hC
   subst hC
   refine Trip.r tblOk ?_
   refine Trip.sr tblOk ?_
   refine Trip.ret (rt2 [])
  ·intro h4
   have h4 : ¬ q = true := by rw [show q = false from h4]; simp
   rw [if_neg h4] at hC
   subst hC
   dsimp only
   rw [hni]
   refine Trip.skip (Trip.sr tblOk ?_)
   refine Trip.ret (rt2 [])
set_option maxHeartbeats 1000000 in
theorem cGet22 (v : Vw) (id : Str) (hs : v.l.length ≤ 1000000000) (hc : v.cuts.length ≤ 1000000000) (hb : ∀ x ∈ v.l, x.body.length ≤ 100000000) : Ctr prog 58 [v.pv, sV id] [] (.tup [(rdC v.l v.cuts id).pv (rdC v.l v.cuts id).pars.isEmpty, iV (rdE v.l id)]) [] [] := by
 obtain ⟨nl, l, nr, rf, ng, lg, nc, cuts⟩ := v
 dsimp only at hs hc hb ⊢
 have c1 := cGet17 nl l id hs
 have c3 := cIn17 nc cuts id (by omega)
 have hE : rdE l id = if placed l id = false then 171 else if l[place l id]!.kind ≠ 3 then 140 else (comP l[place l id]!.body).1 := rfl
 have hC : rdC l cuts id = if rdE l id ≠ 0 then zeroCom else if hasS cuts id = true then { (comP l[place l id]!.body).2 with pars := [] } else (comP l[place l id]!.body).2 := rfl
 have hbb : placed l id = true → l[place l id]!.body.length ≤ 100000000 := fun hp => hb _ (bang_mem (placed_lt hp).1)
 rw [com_same] at hE hC
 generalize rdC l cuts id = C at *
 generalize rdE l id = E at *
 generalize hasS cuts id = q at *
 cases hpl : placed l id with
 | false =>
  rw [hpl] at c1 hE
  simp only [Bool.false_eq_true, if_false] at c1
  rw [if_pos rfl] at hE
  subst hE
  rw [if_pos (by decide)] at hC
  subst hC
  refine Ctr.enter tblOk func58 rfl (by decide) rfl (nt := 40) rfl rfl rfl rfl ?_
  refine Trip.sr tblOk ?_
  refine Trip.sR tblOk (by repeat' (first | exact rfl | (apply Rule.sem; intro hγ; with_reducible apply F_call0 (x := .func 18) (B := []) hγ (hspec := c1)) | ((with_reducible refine Side.mk ?_); exact .inl rfl) | constructor)) ?_
  refine Trip.seq (Trip.sr tblOk ?_)
  apply Trip.cond (.tmp rfl)
  ·intro h
   refine Trip.sr tblOk ?_
   refine Trip.ret (rt2 [])
  intro h
  simp at h
 | true =>
  rw [hpl] at c1 hE hbb
  have hbb := hbb rfl
  simp only [if_true] at c1
  rw [if_neg (by simp)] at hE
  generalize l[place l id]!.kind = k at *
  generalize l[place l id]!.body = b at *
  have c2 := cParse16 b hbb
  generalize comR b = r at *
  obtain ⟨e, tree, pars, ⟨an, am, at', az⟩, ⟨cn, cm, ct, cz⟩, text⟩ := r
  dsimp only at *
  generalize hni : pars.isEmpty = ni at *
  refine Ctr.enter tblOk func58 rfl (by decide) rfl (nt := 40) rfl rfl rfl rfl ?_
  refine Trip.sr tblOk ?_
  refine Trip.sR tblOk (by repeat' (first | exact rfl | (apply Rule.sem; intro hγ; with_reducible apply F_call0 (x := .func 18) (B := []) hγ (hspec := c1)) | ((with_reducible refine Side.mk ?_); exact .inl rfl) | constructor)) ?_
  refine Trip.seq (Trip.sr tblOk ?_)
  apply Trip.cond (.tmp rfl)
  ·intro h
   simp at h
  intro h
  refine Trip.skip (Trip.seq (Trip.sr tblOk ?_))
  apply Trip.cond (.tmp rfl)
  ·intro h2
   have h2 : k ≠ 3 := by simpa using h2
   rw [if_pos h2] at hE
   subst hE
   rw [if_pos (by decide)] at hC
   subst hC
   refine Trip.sr tblOk ?_
   refine Trip.ret (rt2 [])
  intro h2
  have h2 : k = 3 := by simpa using h2
  rw [if_neg (by simp [h2])] at hE
  subst hE
  refine Trip.skip (Trip.sR tblOk (by repeat' (first | exact rfl | (apply Rule.sem; intro hγ; with_reducible apply F_call0 (x := .func 40) (B := []) hγ (hspec := c2)) | ((with_reducible refine Side.mk ?_); exact .inl rfl) | constructor)) ?_)
  refine Trip.seq (Trip.sr tblOk ?_)
  apply Trip.cond (.tmp rfl)
  ·intro h3
   have h3 : E ≠ 0 := by simpa using h3
   rw [if_pos h3] at hC
   subst hC
   refine Trip.sr tblOk ?_
   refine Trip.ret (rt2 [])
  intro h3
  have h3 : E = 0 := by simpa using h3
  rw [if_neg (by simp [h3])] at hC
  subst h3
  refine Trip.skip (Trip.seq (Trip.sR tblOk (by repeat' (first | exact rfl | (apply Rule.sem; intro hγ; with_reducible apply F_call0 (x := .func 87) (B := []) hγ (hspec := c3)) | ((with_reducible refine Side.mk ?_); exact .inl rfl) | constructor)) ?_))
  apply Trip.cond (.tmp rfl)
  ·intro h4
   have h4 : q = true := h4
   rw [if_pos h4] at hC
   subst hC
   refine Trip.r tblOk ?_
   refine Trip.sr tblOk ?_
   refine Trip.ret (rt2 [])
  ·intro h4
   have h4 : ¬ q = true := by rw [show q = false from h4]; simp
   rw [if_neg h4] at hC
   subst hC
   dsimp only
   rw [hni]
   refine Trip.skip (Trip.sr tblOk ?_)
   refine Trip.ret (rt2 [])
theorem cPar22 (v : Vw) (id : Str) (hs : v.l.length ≤ 1000000000) (hc : v.cuts.length ≤ 1000000000) (hb : ∀ x ∈ v.l, x.body.length ≤ 100000000) : Ctr prog 32 [v.pv, sV id] [] (.tup [.sl (rdP v.l v.cuts id).isEmpty 1 ((rdP v.l v.cuts id).map fun x => sV x), iV (rdE v.l id)]) [] [] := by
 have c1 := cGet22 v id hs hc hb
 obtain ⟨nl, l, nr, rf, ng, lg, nc, cuts⟩ := v
 dsimp only at *
 have hP := rdC_pars l cuts id
 have hz : rdE l id ≠ 0 → rdP l cuts id = [] := fun h => by rw [rdP, if_pos h]
 rw [hP] at c1
 generalize rdC l cuts id = C at *
 generalize rdP l cuts id = ps at *
 generalize rdE l id = E at *
 generalize hni : ps.isEmpty = ni at *
 obtain ⟨tree, pars, ⟨an, am, at', az⟩, ⟨cn, cm, ct, cz⟩, text⟩ := C
 dsimp only at *
 subst hP
 refine Ctr.enter tblOk func32 rfl (by decide) rfl (nt := 19) rfl rfl rfl rfl ?_
 refine Trip.sr tblOk ?_
 refine Trip.sR tblOk (by repeat' (first | exact rfl | (apply Rule.sem; intro hγ; with_reducible apply F_call0 (x := .func 58) (B := []) hγ (hspec := c1)) | ((with_reducible refine Side.mk ?_); exact .inl rfl) | constructor)) ?_
 refine Trip.seq (Trip.sr tblOk ?_)
 apply Trip.cond (.tmp rfl)
 ·intro h
  have h : E ≠ 0 := by simpa using h
  have hz := hz h
  subst hz
  subst hni
  refine Trip.sr tblOk ?_
  refine Trip.ret (rt2 [])
 intro h
 have h : E = 0 := by simpa using h
 subst h
 refine Trip.skip (Trip.sr tblOk ?_)
 refine Trip.ret (rt2 [])
theorem cParW (v : Vw) (id : Str) (hs : v.l.length ≤ 1000000000) (hc : v.cuts.length ≤ 1000000000) (hb : ∀ x ∈ v.l, x.body.length ≤ 100000000) : Ctr prog 26 [v.pv, sV id] [] (.tup [.sl (rdP v.l v.cuts id).isEmpty 1 ((rdP v.l v.cuts id).map fun x => sV x), iV (rdE v.l id)]) [] [] := by
 have c1 := cRead v id hs hc hb
 obtain ⟨nl, l, nr, rf, ng, lg, nc, cuts⟩ := v
 dsimp only at *
 have hP := rdC_pars l cuts id
 have hz : rdE l id ≠ 0 → rdP l cuts id = [] := fun h => by rw [rdP, if_pos h]
 have hl : (rdP l cuts id).length ≤ 100000000 := by
  rw [rdP]
  split
  ·simp
  ·rename_i h
   split
   ·simp
   ·have hp := rdE_placed (l := l) (id := id) (by simpa using h)
    have := comR_len l[place l id]!.body
    rw [com_same]
    exact Nat.le_trans this (hb _ (bang_mem (placed_lt hp).1))
 rw [hP] at c1
 generalize rdC l cuts id = C at *
 generalize rdP l cuts id = ps at *
 generalize rdE l id = E at *
 have c2 := cCloneS ps.isEmpty (ps.map fun x => sV x) (fun h => by rw [List.isEmpty_iff] at h; rw [h]; rfl) (plainL_map _ (fun _ => rfl) _) (cellsOk_map _ (fun _ => rfl) _) (by rw [List.length_map]; omega)
 generalize hni : ps.isEmpty = ni at *
 obtain ⟨tree, pars, ⟨an, am, at', az⟩, ⟨cn, cm, ct, cz⟩, text⟩ := C
 dsimp only at *
 subst hP
 refine Ctr.enter tblOk func26 rfl (by decide) rfl (nt := 20) rfl rfl rfl rfl ?_
 refine Trip.sr tblOk ?_
 refine Trip.sR tblOk (by repeat' (first | exact rfl | (apply Rule.sem; intro hγ; with_reducible apply F_call0 (x := .func 53) (B := []) hγ (hspec := c1)) | ((with_reducible refine Side.mk ?_); exact .inl rfl) | constructor)) ?_
 refine Trip.seq (Trip.sr tblOk ?_)
 apply Trip.cond (.tmp rfl)
 ·intro h
  have h : E ≠ 0 := by simpa using h
  have hz := hz h
  subst hz
  subst hni
  refine Trip.sr tblOk ?_
  refine Trip.ret (rt2 [])
 intro h
 have h : E = 0 := by simpa using h
 subst h
 refine Trip.skip (Trip.sR tblOk (by repeat' (first | exact rfl | (apply Rule.sem; intro hγ; with_reducible apply F_call (x := .func 34) (σ := []) (B := []) (news := [900]) hγ (hspec := c2)) | exact plainL_map _ (fun _ => rfl) _ | ((with_reducible refine Side.mk ?_); exact .inl rfl) | constructor)) ?_)
 refine Trip.ret (rt2 [900] (hc := by repeat' (first | exact rfl | exact plainL_map _ (fun _ => rfl) _ | constructor)))
theorem cShowR (v : Vw) (id : Str) (hs : v.l.length ≤ 1000000000) (hc : v.cuts.length ≤ 1000000000) (hb : ∀ x ∈ v.l, x.body.length ≤ 100000000) : Ctr prog 15 [v.pv, sV id] [] (.tup [.sl (rdP v.l v.cuts id).isEmpty 1 ((rdP v.l v.cuts id).map fun x => sV x), iV (rdE v.l id)]) [] [] := by
 have c1 := cPar22 v id hs hc hb
 generalize rdP v.l v.cuts id = ps at *
 generalize rdE v.l id = E at *
 refine Ctr.enter tblOk func15 rfl (by decide) rfl (nt := 11) rfl rfl rfl rfl ?_
 refine Trip.sr tblOk ?_
 refine Trip.sR tblOk (by repeat' (first | exact rfl | (apply Rule.sem; intro hγ; with_reducible apply F_call0 (x := .func 32) (B := []) hγ (hspec := c1)) | ((with_reducible refine Side.mk ?_); exact .inl rfl) | constructor)) ?_
 refine Trip.ret (rt2 [])
theorem cParS (v : Vw) (id : Str) (hs : v.l.length ≤ 1000000000) (hc : v.cuts.length ≤ 1000000000) (hb : ∀ x ∈ v.l, x.body.length ≤ 100000000) : Ctr prog 14 [v.pv, sV id] [] (.tup [.sl (rdP v.l v.cuts id).isEmpty 1 ((rdP v.l v.cuts id).map fun x => sV x), iV (rdE v.l id)]) [] [] := by
 have c1 := cParW v id hs hc hb
 generalize rdP v.l v.cuts id = ps at *
 generalize rdE v.l id = E at *
 refine Ctr.enter tblOk func14 rfl (by decide) rfl (nt := 11) rfl rfl rfl rfl ?_
 refine Trip.sr tblOk ?_
 refine Trip.sR tblOk (by repeat' (first | exact rfl | (apply Rule.sem; intro hγ; with_reducible apply F_call0 (x := .func 26) (B := []) hγ (hspec := c1)) | ((with_reducible refine Side.mk ?_); exact .inl rfl) | constructor)) ?_
 refine Trip.ret (rt2 [])
end Go.Proofs.Tryz
namespace Go.Graft
open Go.Sym
def addN (l : List Str) (s : Str) : Nat → Bool × List Str
 | 0 => (false, [])
 | i + 1 =>
  ((addN l s i).1 || !bl l[i]! s,
   if l[i]! = s then (if (!(addN l s i).1 && !bl l[i]! s) = true then (addN l s i).2 ++ [s] else (addN l s i).2)
   else (if (!(addN l s i).1 && !bl l[i]! s) = true then (addN l s i).2 ++ [s] else (addN l s i).2) ++ [l[i]!])
theorem addN_len (l : List Str) (s : Str) : ∀ i, (addN l s i).2.length ≤ i + (if (addN l s i).1 = true then 1 else 0)
 | 0 => Nat.zero_le _
 | i + 1 => by
  have ih := addN_len l s i
  rw [addN]
  cases h1 : (addN l s i).1 <;> cases h2 : bl l[i]! s <;> rw [h1] at ih <;> simp only [] at ih ⊢ <;> (try split) <;> simp at ih ⊢ <;> omega
structure AddI (l : List Str) (s : Str) (i : Nat) : Prop where
 b : (addN l s i).1 = true ↔ ∃ j, j < i ∧ bl l[j]! s = false
 m : ∀ x, x ∈ (addN l s i).2 ↔ (x ∈ l.take i ∧ x ≠ s) ∨ ((addN l s i).1 = true ∧ x = s)
 a : asc (addN l s i).2
theorem asc_snoc {l : List Str} {x : Str} (h : asc l) (hx : ∀ y ∈ l, bl y x = true) : asc (l ++ [x]) := by
 rw [asc, List.pairwise_append]
 exact ⟨h, List.pairwise_singleton _ _, fun a ha b hb => by rw [List.mem_singleton] at hb; subst hb; exact hx a ha⟩
theorem addN_spec {l : List Str} (h : asc l) (s : Str) : ∀ i, i ≤ l.length → AddI l s i
 | 0, _ => ⟨by simp [addN], by simp [addN], List.Pairwise.nil⟩
 | i + 1, hi => by
  obtain ⟨ib, im, ia⟩ := addN_spec h s i (by omega)
  have htk : ∀ x, x ∈ l.take (i + 1) ↔ x ∈ l.take i ∨ x = l[i]! := fun x => by rw [take_snoc l i (by omega), List.mem_append, List.mem_singleton]
  have hlt : ∀ x ∈ l.take i, bl x l[i]! = true := fun x hx => by
   obtain ⟨j, hj, rfl⟩ := List.mem_iff_getElem.1 hx
   rw [List.length_take] at hj
   have := asc_at h (i := j) (j := i) (by omega) (by omega)
   rw [List.getElem_take]
   rwa [getElem!_pos l j (by omega)] at this
  have hb : ((addN l s i).1 || !bl l[i]! s) = true ↔ ∃ j, j < i + 1 ∧ bl l[j]! s = false := by
   rw [Bool.or_eq_true, ib, Bool.not_eq_true']
   constructor
   ·rintro (⟨j, h1, h2⟩ | h1)
    ·exact ⟨j, by omega, h2⟩
    ·exact ⟨i, by omega, h1⟩
   ·rintro ⟨j, h1, h2⟩
    rcases Nat.lt_succ_iff_lt_or_eq.1 h1 with h1 | rfl
    ·exact .inl ⟨j, h1, h2⟩
    ·exact .inr h2
  have hsl : (addN l s i).1 = true → bl s l[i]! = true := fun hq => by
   obtain ⟨j, h1, h2⟩ := ib.1 hq
   have h3 := asc_at h (i := j) (j := i) h1 (by omega)
   rcases bl_tri l[j]! s with h4 | h4 | h4
   ·rw [h2] at h4; simp at h4
   ·exact bl_trans h4 h3
   ·rw [← h4]; exact h3
  generalize hq : (addN l s i).1 = q at *
  generalize ho : (addN l s i).2 = o at *
  have hadd : addN l s (i + 1) = (q || !bl l[i]! s, if l[i]! = s then (if (!q && !bl l[i]! s) = true then o ++ [s] else o) else (if (!q && !bl l[i]! s) = true then o ++ [s] else o) ++ [l[i]!]) := by rw [addN, hq, ho]
  have hlo : q = false → ∀ y ∈ o, bl y l[i]! = true := fun hqf y hy => by
   rcases (im y).1 hy with ⟨k, _⟩ | ⟨k, _⟩
   ·exact hlt y k
   ·rw [hqf] at k; simp at k
  cases hlb : bl l[i]! s with
  | true =>
   have hq0 : q = false := by
    cases hq1 : q with
    | false => rfl
    | true => have := hsl hq1; rw [bl_asym hlb] at this; simp at this
   subst hq0
   have hne : l[i]! ≠ s := bl_ne hlb
   rw [hlb, if_neg hne, if_neg (by simp)] at hadd
   refine ⟨by rw [hadd]; rw [hlb] at hb; exact hb, fun x => ?_, ?_⟩
   ·rw [hadd]
    show x ∈ o ++ [l[i]!] ↔ (x ∈ l.take (i + 1) ∧ x ≠ s) ∨ (false = true ∧ x = s)
    rw [List.mem_append, List.mem_singleton, im, htk]
    constructor
    ·rintro ((⟨k1, k2⟩ | ⟨k, _⟩) | rfl)
     ·exact .inl ⟨.inl k1, k2⟩
     ·simp at k
     ·exact .inl ⟨.inr rfl, hne⟩
    ·rintro (⟨k1 | rfl, k2⟩ | ⟨k, _⟩)
     ·exact .inl (.inl ⟨k1, k2⟩)
     ·exact .inr rfl
     ·simp at k
   ·rw [hadd]; exact asc_snoc ia (hlo rfl)
  | false =>
   have hge : l[i]! = s ∨ bl s l[i]! = true := by
    rcases bl_tri l[i]! s with k | k | k
    ·rw [hlb] at k; simp at k
    ·exact .inr k
    ·exact .inl k
   cases q with
   | true =>
    have hs := hsl rfl
    have hne : l[i]! ≠ s := fun e => by rw [e, bl_irr] at hs; simp at hs
    rw [hlb, if_neg hne, if_neg (by simp)] at hadd
    refine ⟨by rw [hadd]; rw [hlb] at hb; exact hb, fun x => ?_, ?_⟩
    ·rw [hadd]
     show x ∈ o ++ [l[i]!] ↔ (x ∈ l.take (i + 1) ∧ x ≠ s) ∨ (true = true ∧ x = s)
     rw [List.mem_append, List.mem_singleton, im, htk]
     constructor
     ·rintro ((⟨k1, k2⟩ | k) | rfl)
      ·exact .inl ⟨.inl k1, k2⟩
      ·exact .inr k
      ·exact .inl ⟨.inr rfl, hne⟩
     ·rintro (⟨k1 | rfl, k2⟩ | k)
      ·exact .inl (.inl ⟨k1, k2⟩)
      ·exact .inr rfl
      ·exact .inl (.inr k)
    ·rw [hadd]
     refine asc_snoc ia fun y hy => ?_
     rcases (im y).1 hy with ⟨k, _⟩ | ⟨_, rfl⟩
     ·exact hlt y k
     ·exact hs
   | false =>
    have hos : ∀ y ∈ o, bl y s = true := fun y hy => by
     rcases (im y).1 hy with ⟨k, k2⟩ | ⟨k, _⟩
     ·obtain ⟨j, hj, rfl⟩ := List.mem_iff_getElem.1 k
      rw [List.length_take] at hj
      cases hq2 : bl l[j]! s with
      | true => rw [List.getElem_take]; rwa [getElem!_pos l j (by omega)] at hq2
      | false => exact absurd (ib.2 ⟨j, by omega, hq2⟩) (by simp)
     ·simp at k
    have ha2 := asc_snoc ia hos
    have hadd : addN l s (i + 1) = (true, if l[i]! = s then o ++ [s] else o ++ [s] ++ [l[i]!]) := by rw [hadd, hlb]; rfl
    refine ⟨by rw [hadd]; rw [hlb] at hb; exact hb, fun x => ?_, ?_⟩
    ·rw [hadd]
     dsimp only
     by_cases he : l[i]! = s
     ·rw [if_pos he, List.mem_append, List.mem_singleton, im, htk]
      constructor
      ·rintro ((⟨k1, k2⟩ | ⟨k, _⟩) | rfl)
       ·exact .inl ⟨.inl k1, k2⟩
       ·simp at k
       ·exact .inr ⟨rfl, rfl⟩
      ·rintro (⟨k1 | rfl, k2⟩ | ⟨_, rfl⟩)
       ·exact .inl (.inl ⟨k1, k2⟩)
       ·exact absurd he k2
       ·exact .inr rfl
     ·rw [if_neg he, List.mem_append, List.mem_append, List.mem_singleton, List.mem_singleton, im, htk]
      constructor
      ·rintro (((⟨k1, k2⟩ | ⟨k, _⟩) | rfl) | rfl)
       ·exact .inl ⟨.inl k1, k2⟩
       ·simp at k
       ·exact .inr ⟨rfl, rfl⟩
       ·exact .inl ⟨.inr rfl, he⟩
      ·rintro (⟨k1 | rfl, k2⟩ | ⟨_, rfl⟩)
       ·exact .inl (.inl (.inl ⟨k1, k2⟩))
       ·exact .inr rfl
       ·exact .inl (.inr rfl)
    ·rw [hadd]
     dsimp only
     split
     ·exact ha2
     ·rename_i he
      refine asc_snoc ha2 fun y hy => ?_
      rcases List.mem_append.1 hy with k | k
      ·exact hlo rfl y k
      ·rw [List.mem_singleton] at k; subst k
       exact hge.resolve_left he
def addP (l : List Str) (s : Str) : List Str := if (addN l s l.length).1 = true then (addN l s l.length).2 else (addN l s l.length).2 ++ [s]
theorem addP_ins {l : List Str} (h : asc l) (s : Str) : addP l s = insS l s := by
 obtain ⟨ib, im, ia⟩ := addN_spec h s l.length (Nat.le_refl _)
 rw [List.take_length] at im
 rw [addP]
 split
 ·rename_i hq
  refine asc_unique ia (insS_asc s h) fun x => ?_
  rw [im, insS_mem s x h]
  constructor
  ·rintro (⟨k, _⟩ | ⟨_, k⟩)
   ·exact .inr k
   ·exact .inl k
  ·rintro (k | k)
   ·exact .inr ⟨hq, k⟩
   ·by_cases e : x = s
    ·exact .inr ⟨hq, e⟩
    ·exact .inl ⟨k, e⟩
 ·rename_i hq
  have hall : ∀ y ∈ (addN l s l.length).2, bl y s = true := fun y hy => by
   rcases (im y).1 hy with ⟨k, _⟩ | ⟨k, _⟩
   ·obtain ⟨j, hj, rfl⟩ := List.mem_iff_getElem.1 k
    cases hq2 : bl l[j]! s with
    | true => rwa [getElem!_pos l j hj] at hq2
    | false => exact absurd (ib.2 ⟨j, hj, hq2⟩) hq
   ·exact absurd k hq
  refine asc_unique (asc_snoc ia hall) (insS_asc s h) fun x => ?_
  rw [List.mem_append, List.mem_singleton, im, insS_mem s x h]
  constructor
  ·rintro ((⟨k, _⟩ | ⟨k, _⟩) | k)
   ·exact .inr k
   ·exact absurd k hq
   ·exact .inl k
  ·rintro (k | k)
   ·exact .inr k
   ·by_cases e : x = s
    ·exact .inr e
    ·exact .inl (.inl ⟨k, e⟩)
end Go.Graft
namespace Go.Graft
open Go.Sym
theorem nodup_len {α : Type} [BEq α] [LawfulBEq α] : ∀ {a b : List α}, a.Nodup → (∀ x ∈ a, x ∈ b) → a.length ≤ b.length
 | [], _, _, _ => Nat.zero_le _
 | x :: a, b, h, hs => by
  rw [List.nodup_cons] at h
  have hx := hs x List.mem_cons_self
  have ih := nodup_len (a := a) (b := b.erase x) h.2 fun y hy => (List.mem_erase_of_ne (fun (e : y = x) => h.1 (e ▸ hy))).2 (hs y (List.mem_cons_of_mem _ hy))
  have h1 := List.length_erase_of_mem hx
  have h2 := List.length_pos_of_mem hx
  rw [List.length_cons]; omega
def allP (l : List It) : List Str := l.flatMap fun it => (comP it.body).2.pars
theorem allP_len : ∀ (l : List It), (∀ x ∈ l, x.body.length ≤ 3000) → (allP l).length ≤ l.length * 3000
 | [], _ => Nat.zero_le _
 | x :: r, h => by
  have ih := allP_len r fun y hy => h y (List.mem_cons_of_mem _ hy)
  have h1 := comR_len x.body
  have h2 := h x List.mem_cons_self
  rw [← com_same] at h1
  rw [allP, List.flatMap_cons, List.length_append, List.length_cons, Nat.succ_mul]
  rw [allP] at ih
  omega
theorem rdP_all {l : List It} {cuts : List Str} {x y : Str} (h : y ∈ rdP l cuts x) : y ∈ allP l ∧ rdE l x = 0 := by
 rw [rdP] at h
 split at h
 ·simp at h
 ·rename_i he
  have he : rdE l x = 0 := by simpa using he
  split at h
  ·simp at h
  ·exact ⟨List.mem_flatMap.2 ⟨_, bang_mem (placed_lt (rdE_placed he)).1, h⟩, he⟩
theorem flatP_all {l : List It} {cuts a : List Str} {y : Str} (h : y ∈ flatP l cuts a) : y ∈ allP l := by
 obtain ⟨x, _, hx⟩ := List.mem_flatMap.1 h
 exact (rdP_all hx).1
theorem nextR_mem {l : List It} {cuts level met : List Str} {y : Str} (h : y ∈ nextR l cuts level met) : y ∈ allP l := by
 rw [nextR, sortS_mem, List.mem_filter] at h
 exact flatP_all h.1
theorem nextR_len {l : List It} (hb : ∀ x ∈ l, x.body.length ≤ 3000) (cuts level met : List Str) : (nextR l cuts level met).length ≤ l.length * 3000 :=
 Nat.le_trans (nodup_len (asc_nodup (by rw [nextR]; exact sortS_asc _)) fun _ h => nextR_mem h) (allP_len l hb)
theorem sortS_self {a : List Str} (h : asc a) : sortS a = a := asc_unique (sortS_asc a) h fun x => sortS_mem a x
theorem sortS_le (a : List Str) : (sortS a).length ≤ a.length := by rw [sortS]; exact sortN_len a _
theorem insS_ne (l : List Str) (x : Str) : (insS l x).isEmpty = false := by
 rw [List.isEmpty_eq_false_iff_exists_mem, insS]
 split
 ·rename_i hz
  cases l with
  | nil => simp [holdsP] at hz
  | cons z zs => exact ⟨z, by simp⟩
 ·exact ⟨x, by simp⟩
theorem sortN_app2 (l m : List Str) : ∀ i, i ≤ l.length → sortN (l ++ m) i = sortN l i
 | 0, _ => rfl
 | i + 1, h => by
  have ih := sortN_app2 l m i (by omega)
  have e : (l ++ m)[i]! = l[i]! := by
   rw [getElem!_pos _ i (by rw [List.length_append]; omega), getElem!_pos _ i (by omega), List.getElem_append_left]
  rw [sortN, sortN, ih, e]
theorem sortS_snoc2 (l : List Str) (x : Str) : sortS (l ++ [x]) = insS (sortS l) x := by
 have e : (l ++ [x])[l.length]! = x := by
  rw [getElem!_pos _ l.length (by simp)]; simp
 rw [sortS, List.length_append, List.length_singleton, sortN, sortN_app2 l [x] _ (Nat.le_refl _), e]
 rfl
theorem depR_none2 (l : List It) (cuts : List Str) (r : Nat) {level met : List Str} (h : level = []) : depR l cuts r level met = (met, [], 0) := by
 cases r with
 | zero => rfl
 | succ r => rw [depR, if_pos h]
end Go.Graft
