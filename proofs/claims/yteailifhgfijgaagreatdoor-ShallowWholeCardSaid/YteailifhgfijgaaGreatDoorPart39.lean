/- A part of the proof: Wi, Sb. -/
import Derived.Test.YteailifhgfijgaaGreatDoorPart38
set_option linter.unusedVariables false
set_option linter.unusedSimpArgs false
namespace Go.Proofs.Tryz
open Go Go.Sym Go.Graft
set_option maxRecDepth 20000
set_option maxHeartbeats 1000000 in
theorem cOf (nl : Bool) (l : List It) (id : Str) (hs : l.length ≤ 1000000000) (hp : placed l id = true) (hk : l[place l id]!.kind = 3) (hb : l[place l id]!.body.length ≤ 100000000) (C : Com) (hC : (comP l[place l id]!.body).2 = C) :
  Ctr prog 48 [stPV nl l, sV id] [] (.tup [C.pv C.pars.isEmpty, iV 0]) [] [] := by
 have c1 := cGet nl l id hs
 rw [hp] at c1
 simp only [if_true] at c1
 rw [hk] at c1
 have c2 := cParseC l[place l id]!.body hb
 rw [hC] at c2
 generalize l[place l id]!.body = b at *
 generalize (comP b).1 = e at *
 obtain ⟨tree, pars, ⟨an, am, at', az⟩, ⟨cn, cm, ct, cz⟩, text⟩ := C
 clear hC hk hp
 dsimp only at *
 generalize hni : pars.isEmpty = ni at *
 refine Ctr.enter tblOk func48 rfl (by decide) rfl (nt := 32) rfl rfl rfl rfl ?_
 refine Trip.sr tblOk ?_
 refine Trip.sR tblOk (by repeat' (first | exact rfl | (apply Rule.sem; intro hγ; with_reducible apply F_call0 (x := .func 35) (B := []) hγ (hspec := c1)) | ((with_reducible refine Side.mk ?_); exact .inl rfl) | constructor)) ?_
 refine Trip.seq (Trip.block (Trip.sr tblOk ?_))
 apply Trip.cond (.tmp rfl)
 ·intro h
  simp at h
 intro h
 refine Trip.sr tblOk ?_
 apply Trip.cond (.tmp rfl)
 ·intro h2
  exact absurd h2 (by decide)
 intro h2
 refine Trip.skip (Trip.sR tblOk (by repeat' (first | exact rfl | (apply Rule.sem; intro hγ; with_reducible apply F_call0 (x := .func 63) (B := []) hγ (hspec := c2)) | ((with_reducible refine Side.mk ?_); exact .inl rfl) | constructor)) ?_)
 refine Trip.sr tblOk ?_
 refine Trip.ret (rt2 [])
set_option maxHeartbeats 2000000 in
theorem cDeepenG (v : Vw) (F S P Cm : Nat → List Str) (X : Nat → Str) (com : Nat → Com) (cO : ∀ k, k < 2 → Ctr prog 48 [stPV v.nl v.l, sV (X k)] [] (.tup [(com k).pv (com k).pars.isEmpty, iV 0]) [] [])
  (hP : ∀ k, k < 2 → (com k).pars = P k) (hF : ∀ k, k < 2 → F k = [X k]) (hF2 : F 2 = []) (hS : ∀ k, k < 2 → S (k + 1) = S k ++ [X k]) (hS0 : S 0 = []) (hX : ∀ k, k < 2 → hasS (S k) (X k) = false) (hC : ∀ k, k < 2 → Cm (k + 1) = if 0 < k then Cm k ++ [X k] else Cm k) (hC0 : Cm 0 = [])
  (hN : ∀ k, k < 2 → msort (seenL (P k)).1 = F (k + 1) ∧ (seenL (P k)).1.isEmpty = (F (k + 1)).isEmpty) (hP1 : P 1 = []) (hb : ∀ k, (S k).length ≤ 100 ∧ (P k).length ≤ 100 ∧ (Cm k).length ≤ 100) (hPl : ∀ k, ∀ x ∈ P k, x.length ≤ 1000) (hCn : (Cm 2).Nodup) :
  Ctr prog 24 [v.pv, .sl false 1 [sV (X 0)], iV 1] [] (.tup [.sl true 1 [], .sl (Cm 2).isEmpty 1 ((msort (Cm 2)).map fun x => sV x), iV 0]) [] [] := by
 have cs1 := cSortedS false [X 0] (by simp) (by simp) (by simp)
 rw [show msort [X 0] = [X 0] from List.mergeSort_singleton _] at cs1
 have hcm := (hb 2).2.2
 have cs2 := cSortedS true [] (by simp) (by simp) (by simp)
 rw [show msort [] = [] from List.mergeSort_nil] at cs2
 have cs3 := cSortedS (Cm 2).isEmpty (Cm 2) (fun e => List.isEmpty_iff.1 e) hCn (by omega)
 have e0 := hF 0 (by omega)
 obtain ⟨nl, l, nr, rf, ng, lg, nc, cuts⟩ := v
 dsimp only at *
 refine Ctr.enter tblOk func24 rfl (by decide) rfl (nt := 117) rfl rfl rfl rfl ?_
 refine Trip.sr tblOk ?_
 refine Trip.seq (Trip.sr tblOk ?_)
 apply Trip.cond (.tmp rfl)
 ·intro h
  exact absurd h (by decide)
 intro h
 refine Trip.skip (Trip.seq (Trip.sr tblOk ?_))
 refine Trip.block ?_
 refine Trip.loop (fun (i : Nat) => ⟨[(1, .sl false 1 [sV (X 0)]), (2, iV 1), (3, .ref 3 0), (27, .sl false 1 [sV (X 0)]), (28, iV 1), (29, iV i)], [(3, .box (Vw.cells ⟨nl, l, nr, rf, ng, lg, nc, cuts⟩))]⟩) (fun (i : Nat) => i ≤ 1) (fun (i : Nat) => 1 - i) (0) (by first | omega | (simp; done)) Weak.kp ?_
 intro i hi
 refine Trip.sr tblOk ?_
 refine Trip.seq ?_
 apply Trip.cond (.tmp rfl)
 ·intro h
  have h : i = 0 := by simp at h; omega
  subst h
  have c1 := cO 0 (by omega)
  refine Trip.skip (Trip.seq (Trip.block (Trip.sR tblOk (by repeat' (first | exact rfl | ((with_reducible refine Side.mk ?_); (simp only [ln]; first | done | omega)) | constructor)) ?_)))
  refine Trip.sR tblOk (by repeat' (first | exact rfl | (apply Rule.sem; intro hγ; with_reducible apply F_call0 (x := .func 48) (B := []) hγ (hspec := c1)) | ((with_reducible refine Side.mk ?_); exact .inl rfl) | constructor)) ?_
  refine Trip.sr tblOk ?_
  apply Trip.cond (.tmp rfl)
  ·intro h
   exact absurd h (by decide)
  intro h
  refine Trip.skip (Trip.R tblOk (by repeat' (first | exact rfl | ((with_reducible refine Side.mk ?_); omega) | constructor)) ?_)
  exact ⟨1, by first | omega | (dsimp only at *; omega), by first | omega | (dsimp only at *; omega), Weak.kp⟩
 intro h
 have h : i = 1 := by simp at h; omega
 subst h
 refine Trip.exit (Trip.sR tblOk (by repeat' (first | exact rfl | (apply Rule.sem; intro hγ; with_reducible apply F_makeMap) | constructor)) ?_)
 refine Trip.sr tblOk ?_
 refine Trip.sR tblOk (by repeat' (first | exact rfl | (apply Rule.sem; intro hγ; with_reducible apply F_call0 (x := .func 29) (B := []) hγ (hspec := cs1)) | ((with_reducible refine Side.mk ?_); exact .inl rfl) | constructor)) ?_
 refine Trip.seq (Trip.sr tblOk ?_)
 refine Trip.block ?_
 apply Trip.loop (fun (k : Nat) => ⟨[(2, iV 1), (3, .ref 3 0), (13, .mref 44), (14, nilS), (15, .osl 903 0 (Cm k).length (Cm k).length), (16, .sl (F k).isEmpty 1 ((F k).map fun x => sV x)), (17, iV k)], [(903, .arr 1 (Cm k).isEmpty ((Cm k).map fun x => sV x)), (44, .map ((seenL (S k)).1.map strK) ((seenL (S k)).2.map fun b => bV b)), (3, .box (Vw.cells ⟨nl, l, nr, rf, ng, lg, nc, cuts⟩))]⟩) (fun (k : Nat) => k ≤ 2) (fun (k : Nat) => 2 - k) (0)
 ·first | omega | (simp; done)
 ·dsimp only
  rw [hC0, hS0, e0]
  refine Weak.trans (S2 := ⟨[(2, iV 1), (3, .ref 3 0), (13, .mref 44), (14, nilS), (15, nilS), (16, .sl false 1 [sV (X 0)]), (17, iV 0)], [(44, .map [] []), (3, .box (Vw.cells ⟨nl, l, nr, rf, ng, lg, nc, cuts⟩))]⟩) ?_ (Weak.trans (S2 := ⟨[(2, iV 1), (3, .ref 3 0), (13, .mref 44), (14, nilS), (15, .osl 903 0 0 0), (16, .sl false 1 [sV (X 0)]), (17, iV 0)], [(903, .arr 1 true []), (44, .map [] []), (3, .box (Vw.cells ⟨nl, l, nr, rf, ng, lg, nc, cuts⟩))]⟩) ?_ ?_)
  ·exact Weak.kp
  ·exact Weak.adopt 903 1 rfl rfl (by repeat' (first | exact rfl | constructor)) (by repeat' (first | exact rfl | constructor))
  ·exact Weak.kp
 intro k hk
 refine Trip.seq (Trip.sR tblOk (by repeat' (first | exact rfl | ((with_reducible refine Side.mk ?_); first | exact fun h => h | exact fun _ h => h) | constructor)) ?_)
 apply Trip.cond (.tmp rfl)
 ·intro h
  have h : k < 2 := by
   rw [Bool.and_eq_true, decide_eq_true_eq, decide_eq_true_eq] at h
   omega
  have hf := hF k h
  have hX := hX k h
  have hS := hS k h
  have hC := hC k h
  have cO := cO k h
  have hP := hP k h
  obtain ⟨hN1, hN2⟩ := hN k h
  have hP1 : k = 1 → P k = [] := fun e => e ▸ hP1
  have hb0 := hb k
  have hPl := hPl k
  have hsn := seenL_snoc (S k) (X k)
  rw [← hS] at hsn
  have hvm := seenL_val (S k) (X k)
  have hlm := seenL_len (S k)
  have htk := fun j hj => seenL_take [] (P k) (k := j) hj
  have hlk := fun j => seenL_len ([] ++ (P k).take j)
  rw [hP] at cO
  have hck : (com k).pv (P k).isEmpty = .agg [sV (com k).tree, .sl (P k).isEmpty 1 ((P k).map sV), sV (com k).aut.name, sV (com k).aut.mail, iV (com k).aut.time, iV (com k).aut.zone, sV (com k).com.name, sV (com k).com.mail, iV (com k).com.time, iV (com k).com.zone, sV (com k).text] := by rw [← hP]
  rw [hck] at cO
  rw [hf]
  clear hck hf
  generalize hSq : seenL (S k) = q at *
  obtain ⟨km, bm⟩ := q
  dsimp only at *
  generalize hFk : F (k + 1) = F2 at *
  generalize hCk : Cm (k + 1) = C2 at *
  generalize hSk : seenL (S (k + 1)) = sq2 at *
  generalize P k = ps at *
  generalize Cm k = cm at *
  generalize X k = x at *
  generalize com k = cc at *
  refine Trip.skip (Trip.seq (Trip.block (Trip.sR tblOk (by repeat' (first | exact rfl | (apply Rule.sem; intro hγ; with_reducible apply F_makeMap) | constructor)) ?_)))
  refine Trip.seq (Trip.sr tblOk ?_)
  refine Trip.block ?_
  refine Trip.loop (fun (i : Nat) => ⟨[(2, iV 1), (3, .ref 3 0), (13, .mref 44), (14, nilS), (15, .osl 903 0 (if i = 0 then cm else C2).length (if i = 0 then cm else C2).length), (17, iV k), (18, .mref 57), (58, .sl false 1 [sV x]), (59, iV 1), (60, iV i)], [(903, .arr 1 (if i = 0 then cm else C2).isEmpty ((if i = 0 then cm else C2).map fun x => sV x)), (44, .map ((if i = 0 then km else sq2.1).map strK) ((if i = 0 then bm else sq2.2).map fun b => bV b)), (57, .map ((if i = 0 then [] else (seenL ps).1).map strK) ((if i = 0 then [] else (seenL ps).2).map fun b => bV b)), (3, .box (Vw.cells ⟨nl, l, nr, rf, ng, lg, nc, cuts⟩))]⟩) (fun (i : Nat) => i ≤ 1) (fun (i : Nat) => 1 - i) (0) (by first | omega | (simp; done)) (Weak.kp (huo := by repeat' (first | exact rfl | exact plainL_map _ (fun _ => rfl) _ | constructor))) ?_
  intro i hi
  refine Trip.sr tblOk ?_
  refine Trip.seq ?_
  apply Trip.cond (.tmp rfl)
  ·intro h2
   have h2 : i = 0 := by simp at h2; omega
   subst h2
   simp only [if_true]
   refine Trip.skip (Trip.seq (Trip.block (Trip.sR tblOk (by repeat' (first | exact rfl | ((with_reducible refine Side.mk ?_); (simp only [ln]; first | done | omega)) | constructor)) ?_)))
   refine Trip.seq (Trip.sR tblOk (by repeat' (first | exact rfl | (apply Rule.sem; intro hγ; with_reducible apply F_lookup (K := strK) (f := bV) (z := false) (zv := .bool false) tblOk hγ (hz := zBool) (hzf := fun _ _ _ => .v _ _)) | exact KeyLaw.str tblOk rfl rfl | ((with_reducible refine Side.mk ?_); omega) | constructor)) ?_)
   apply Trip.cond (.tmp rfl)
   ·intro h3
    have h3 : mval km bm false x = true := h3
    rw [hvm, hX] at h3
    simp at h3
   intro h3
   refine Trip.skip (Trip.sR tblOk (by repeat' (first | exact rfl | (apply Rule.sem; intro hγ; with_reducible apply F_mapUpdate (K := strK) (f := bV) tblOk hγ) | exact KeyLaw.str tblOk rfl rfl | ((with_reducible refine Side.mk ?_); omega) | constructor)) ?_)
   refine Trip.seqk ⟨[(2, iV 1), (3, .ref 3 0), (13, .mref 44), (14, nilS), (15, .osl 903 0 C2.length C2.length), (17, iV k), (18, .mref 57), (20, sV x), (58, .sl false 1 [sV x]), (59, iV 1), (60, iV 0)], [(903, .arr 1 C2.isEmpty (C2.map fun x => sV x)), (44, .map ((mkeys km x).map strK) ((mset km bm x true).map fun b => bV b)), (57, .map [] []), (3, .box (Vw.cells ⟨nl, l, nr, rf, ng, lg, nc, cuts⟩))]⟩ ?_ ?_
   ·refine Trip.sr tblOk ?_
    apply Trip.cond (.tmp rfl)
    ·intro h4
     have h4 : 0 < k := by simp at h4; omega
     rw [if_pos h4] at hC
     subst hC
     refine Trip.R tblOk (by repeat' (first | exact rfl | ((with_reducible refine Side.mk ?_); (simp only [ln]; first | done | omega)) | constructor)) ?_
     exact Weak.kp (ht := by repeat' (first | exact rfl | (refine Side.mk (oslE ?_ ?_) <;> (simp only [ln]; first | done | omega)) | constructor)) (ho := by repeat' (first | exact rfl | exact arrF (by simp) (by simp) | constructor)) (huo := by repeat' (first | exact rfl | exact plainL_map _ (fun _ => rfl) _ | constructor))
    ·intro h4
     have h4 : ¬ 0 < k := by simp at h4; omega
     rw [if_neg h4] at hC
     subst hC
     refine Trip.skip ?_
     exact Weak.kp (huo := by repeat' (first | exact rfl | exact plainL_map _ (fun _ => rfl) _ | constructor))
   refine Trip.sR tblOk (by repeat' (first | exact rfl | (apply Rule.sem; intro hγ; with_reducible apply F_call0 (x := .func 48) (B := []) hγ (hspec := cO)) | ((with_reducible refine Side.mk ?_); exact .inl rfl) | constructor)) ?_
   refine Trip.seq (Trip.sR tblOk (by repeat' (first | exact rfl | ((with_reducible refine Side.mk ?_); first | exact fun h => h | exact fun _ h => h) | constructor)) ?_)
   apply Trip.cond (.tmp rfl)
   ·intro h5
    have h5 : (decide ((k : Int) = 1) && decide (0 < (((ps.map sV).length : Nat) : Int))) = true := h5
    rw [Bool.and_eq_true, decide_eq_true_eq, decide_eq_true_eq, List.length_map] at h5
    have := hP1 (by omega)
    subst this
    simp at h5
   intro h5
   refine Trip.skip (Trip.sr tblOk ?_)
   refine Trip.block ?_
   refine Trip.loop (fun (j : Nat) => ⟨[(2, iV 1), (3, .ref 3 0), (13, .mref 44), (14, nilS), (15, .osl 903 0 C2.length C2.length), (17, iV k), (18, .mref 57), (58, .sl false 1 [sV x]), (59, iV 1), (60, iV 0), (100, .sl ps.isEmpty 1 (ps.map fun x => sV x)), (101, iV ps.length), (102, iV j)], [(903, .arr 1 C2.isEmpty (C2.map fun x => sV x)), (44, .map ((mkeys km x).map strK) ((mset km bm x true).map fun b => bV b)), (57, .map ((seenL ([] ++ ps.take j)).1.map strK) ((seenL ([] ++ ps.take j)).2.map fun b => bV b)), (3, .box (Vw.cells ⟨nl, l, nr, rf, ng, lg, nc, cuts⟩))]⟩) (fun (j : Nat) => j ≤ ps.length) (fun (j : Nat) => ps.length - j) (0) (by first | omega | (simp; done)) (Weak.kp (ht := by repeat' (first | exact rfl | (refine vI ?_; first | omega | (simp; done) | (simp; omega) | (simp only [List.length_map] at *; omega)) | constructor)) (huo := by repeat' (first | exact rfl | exact plainL_map _ (fun _ => rfl) _ | constructor))) ?_
   intro j hj
   refine Trip.sr tblOk ?_
   refine Trip.seq ?_
   apply Trip.cond (.tmp rfl)
   ·intro h5
    have h5 : j < ps.length := by simp at h5; omega
    have htk := htk j h5
    have hlk := hlk j
    generalize hq2 : seenL ([] ++ ps.take (j + 1)) = q2 at *
    generalize seenL ([] ++ ps.take j) = q at *
    obtain ⟨kn, bn⟩ := q
    subst htk
    dsimp only at *
    refine Trip.skip (Trip.seq (Trip.block (Trip.sR tblOk (by repeat' (first | exact rfl | exact idx_map _ _ _ (by show _ < _; first | omega | (simp only [List.length_map] at *; omega)) | ((with_reducible refine Side.mk ?_); (simp only [ln]; first | done | omega)) | constructor)) ?_)))
    refine Trip.R tblOk (by repeat' (first | exact rfl | (apply Rule.sem; intro hγ; with_reducible apply F_mapUpdate (K := strK) (f := bV) tblOk hγ) | exact KeyLaw.str tblOk rfl rfl | ((with_reducible refine Side.mk ?_); omega) | constructor)) ?_
    refine Trip.R tblOk (by repeat' (first | exact rfl | ((with_reducible refine Side.mk ?_); omega) | constructor)) ?_
    exact ⟨j + 1, by first | omega | (dsimp only at *; omega), by first | omega | (dsimp only at *; omega), Weak.kp (ho := by repeat' (first | exact rfl | (rw [hq2]; rfl) | constructor)) (huo := by repeat' (first | exact rfl | exact plainL_map _ (fun _ => rfl) _ | constructor))⟩
   intro h5
   have h5 : j = ps.length := by simp at h5; omega
   subst h5
   rw [List.take_length, List.nil_append]
   refine Trip.exit (Trip.R tblOk (by repeat' (first | exact rfl | ((with_reducible refine Side.mk ?_); omega) | constructor)) ?_)
   exact ⟨1, by first | omega | (dsimp only at *; omega), by first | omega | (dsimp only at *; omega), Weak.kp (ht := by repeat' (first | exact rfl | (refine Side.mk ?_; simp only [Nat.one_ne_zero, if_false, hsn]) | constructor)) (ho := by repeat' (first | exact rfl | (refine Side.mk ?_; simp only [Nat.one_ne_zero, if_false, hsn]) | constructor)) (huo := by repeat' (first | exact rfl | (refine Side.mk ?_; simp only [Nat.one_ne_zero, if_false, hsn]) | exact plainL_map _ (fun _ => rfl) _ | constructor))⟩
  intro h2
  have h2 : i = 1 := by simp at h2; omega
  subst h2
  simp only [Nat.one_ne_zero, if_false]
  refine Trip.exit ?_
  have k1 := cKeysM ((seenL ps).1.map strK) ((seenL ps).2.map fun b => bV b)
  have hkl : (seenL ps).1.length ≤ 100 := Nat.le_trans (nodup_len (seenL_nodup ps) fun x hx => (seenL_mem _ x).1 hx) (by omega)
  have k2 := cSortedK (seenL ps).1 (seenL_nodup _) (by omega) (fun x hx => Nat.le_trans (hPl x ((seenL_mem _ x).1 hx)) (by decide))
  rw [hN1, hN2] at k2
  generalize seenL ps = q at *
  obtain ⟨kn, bn⟩ := q
  dsimp only at *
  apply Trip.weak (S' := ⟨[(2, iV 1), (3, .ref 3 0), (13, .mref 44), (14, nilS), (15, .osl 903 0 C2.length C2.length), (17, iV k), (18, .mp false (kn.map strK) (bn.map fun b => bV b))], [(903, .arr 1 C2.isEmpty (C2.map fun x => sV x)), (44, .map (sq2.1.map strK) (sq2.2.map fun b => bV b)), (3, .box (Vw.cells ⟨nl, l, nr, rf, ng, lg, nc, cuts⟩))]⟩)
  ·refine Weak.turnM [57] rfl rfl ?_ ?_
   all_goals repeat' (first | exact rfl | exact plainL_map _ (fun _ => rfl) _ | constructor)
  refine Trip.R tblOk (by repeat' (first | exact rfl | (apply Rule.sem; intro hγ; with_reducible apply F_call0 (x := .func 28) (B := []) hγ (hspec := k1)) | (apply Rule.sem; intro hγ; with_reducible apply F_call0 (x := .func 27) (B := []) hγ (hspec := k2)) | exact .it | ((with_reducible refine Side.mk ?_); exact .inl rfl) | constructor)) ?_
  refine Trip.R tblOk (by repeat' (first | exact rfl | ((with_reducible refine Side.mk ?_); omega) | constructor)) ?_
  exact ⟨k + 1, by first | omega | (dsimp only at *; omega), by first | omega | (dsimp only at *; omega), Weak.kp (ht := by repeat' (first | exact rfl | (dsimp only; simp only [hFk, hCk, hSk]) | constructor)) (ho := by repeat' (first | exact rfl | (dsimp only; simp only [hFk, hCk, hSk]) | constructor)) (huo := by repeat' (first | exact rfl | (dsimp only; simp only [hFk, hCk, hSk]) | exact plainL_map _ (fun _ => rfl) _ | constructor))⟩
 intro h
 have h : k = 2 := by
  rw [Bool.and_eq_false_iff, decide_eq_false_iff_not, decide_eq_false_iff_not, List.length_map] at h
  by_cases h2 : k < 2
  ·have := hF k h2
   rw [this] at h
   simp at h
   omega
  ·omega
 subst h
 refine Trip.exit ?_
 generalize seenL (S 2) = q at *
 generalize msort (Cm 2) = CC at *
 generalize Cm 2 = c2 at *
 apply Trip.weak (S' := ⟨[(14, nilS), (15, .sl c2.isEmpty 1 (c2.map fun x => sV x))], []⟩)
 ·refine Weak.turnM [903] rfl rfl ?_ ?_
  all_goals repeat' (first | exact rfl | exact plainL_map _ (fun _ => rfl) _ | (refine Side.mk ?_; simp only [List.length_map]; done) | constructor)
 refine Trip.sR tblOk (by repeat' (first | exact rfl | (apply Rule.sem; intro hγ; with_reducible apply F_call0 (dst := some 114) (x := .func 29) (B := []) hγ (hspec := cs2)) | (apply Rule.sem; intro hγ; with_reducible apply F_call0 (dst := some 116) (x := .func 29) (B := []) hγ (hspec := cs3)) | ((with_reducible refine Side.mk ?_); exact .inl rfl) | constructor)) ?_
 refine Trip.ret (rt3 [])
end Go.Proofs.Tryz
namespace Go.Proofs.Tryz
open Go Go.Sym Go.Graft
set_option maxRecDepth 20000
end Go.Proofs.Tryz
